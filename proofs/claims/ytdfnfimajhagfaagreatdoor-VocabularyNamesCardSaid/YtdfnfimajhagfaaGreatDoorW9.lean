/- Walk: Repair of the reference model. -/
import Derived.Test.YtdfnfimajhagfaaGreatDoorW8
namespace Go.Proofs.YtdfnfimajhagfaaGreatDoor
open Go.RowKit Go.Maps Rf
theorem snoc_ints {w : World} {base : Nat} {e : TypeId} {A : Option Addr} {n c : Nat} {l : List Nat} {i : Nat} (o : Own w base e 1 (.slice A n c) n (l.map (fun i : Nat => Value.int .i64 i) ++ [.int .i64 i])) : Own w base e 1 (.slice A n c) n ((l ++ [i]).map fun i : Nat => Value.int .i64 i) := by simpa using o
theorem deadFrom_len (l : List Ref) (heads : List S) : ∀ (rest : List Ref) (d : List S), (deadFrom l heads rest d).length ≤ rest.length + d.length
  | [], d => by simp [deadFrom]
  | r :: rest, d => by
    unfold deadFrom
    have := deadFrom_len l heads rest (if (!r.also && (rank l heads r.frm).isNone) = true then Rf.put d r.frm else d)
    have h2 : (if (!r.also && (rank l heads r.frm).isNone) = true then Rf.put d r.frm else d).length ≤ d.length + 1 := by
      split
      · exact put_len d r.frm
      · omega
    simp only [List.length_cons]
    omega
/-- a slice lies apart from what is being appended to -/
def Sep (w : World) (A : Option Addr) (v : Value) : Prop := ∀ b off, A = some ⟨b, off, none⟩ → b < w.heap.size ∧ v.ownBlock ≠ some b
theorem Sep.no (w : World) (v : Value) : Sep w none v := fun _ _ h => by cases h
theorem Sep.below {w w' : World} {A : Option Addr} {v : Value} (h : Sep w A v) (hb : Below w.heap.size w w') : Sep w' A v := fun b off e => ⟨Nat.lt_of_lt_of_le (h b off e).1 hb.size, (h b off e).2⟩
theorem Sep.app {w w' : World} {A : Option Addr} {v v' : Value} {o : Obj} (h : Sep w A v) (hg : (w.alloc o).grownBy w' v.ownBlock) (hv : v'.ownBlock = v.ownBlock ∨ v'.ownBlock = some (w.alloc o).heap.size) : Sep w' A v' := fun b off e => by
  obtain ⟨h1, h2⟩ := h b off e
  have := hg.size
  simp only [World.size_alloc] at this hv
  refine ⟨by omega, ?_⟩
  rcases hv with hv | hv <;> rw [hv]
  · exact h2
  · intro h; injection h; omega
theorem Sep.put {w w' : World} {A A' : Option Addr} {v : Value} {base : Nat} {e : TypeId} {size n m : Nat} {xs : List Value} {l : List S} (h : Sep w A v) (o : Own w base e size v n xs) (hb : Below w.heap.size w w') (hA : A' = A ∨ ∀ b off, A' = some ⟨b, off, none⟩ → w.heap.size ≤ b)
    (hs : Strs w' A' m l) (hl : 0 < l.length) : Sep w' A' v := fun b off e => by
  rcases hA with rfl | hA
  · exact h.below hb b off e
  · obtain ⟨b2, off2, e2, hlt, _⟩ := hs.2.2 (by rw [List.length_map]; exact hl)
    rw [e] at e2
    injection e2 with e2
    injection e2 with e3 e4
    subst e3
    refine ⟨hlt, fun hv => ?_⟩
    have h1 := o.lt b hv
    have h2 := hA b off e
    omega
theorem Strs.app {w w' : World} {A : Option Addr} {v : Value} {n : Nat} {l : List S} {o : Obj} (h : Strs w A n l) (sp : Sep w A v) (hg : (w.alloc o).grownBy w' v.ownBlock) : Strs w' A n l :=
  ⟨h.1, h.2.1, (h.2.2.alloc o).grown hg fun b off e h => (sp b off e).2 h.symm⟩
theorem put_pos (l : List S) (s : S) : 0 < (Rf.put l s).length := List.length_pos_of_mem ((mem_put l s s).2 (.inl rfl))
set_option maxRecDepth 20000 in
set_option maxHeartbeats 4000000 in
theorem repair_ref (A B : Option Addr) (n m c d : Nat) (l : List Ref) (heads : List S) (w : World) (hm : n ≤ 100000) (hmh : m ≤ 1000000) (hl : Refs w A n l) (hh : Strs w B m heads) :
    Calls Tryz.prog 115 #[.slice A n c, .slice B m d] w fun e w' =>
      ∃ A1 k1 c1 A2 k2 c2, e = .returned (.tuple #[.slice A1 k1 c1, .slice A2 k2 c2]) ∧ k1 ≤ c1 ∧ k1 ≤ n ∧ k2 ≤ c2 ∧ k2 ≤ n ∧ Ints w' A1 k1 ((repair l heads).1.map fun i : Nat => (i : Int)) ∧ Strs w' A2 k2 (repair l heads).2 ∧ Below w.heap.size w w' := by
  have hll := hl.1
  go_enter Tryz.func115, Tryz.ntmps115
  go_wp2
  go_loopw [6, 7, 8] (fun lf dv ii wr => ∃ (i m1 c1 : Nat) (A1 : Option Addr) (pre : List Nat) (m2 c2 : Nat) (A2 : Option Addr) (dd : List S), i ≤ n ∧ ii = .int .i64 i ∧ lf = .slice A1 m1 c1 ∧ dv = .slice A2 m2 c2 ∧ m1 ≤ c1 ∧ m1 ≤ i ∧ m2 ≤ c2 ∧ m2 ≤ i ∧
    Own wr w.heap.size 3 1 (.slice A1 m1 c1) m1 (pre.map fun i : Nat => Value.int .i64 i) ∧ (∀ j ∈ pre, j ≤ 100000) ∧ Strs wr A2 m2 dd ∧ Sep wr A2 (.slice A1 m1 c1) ∧ Hid (leftFrom l heads l 0 = pre ++ leftFrom l heads (l.drop i) i) ∧ Hid (deadFrom l heads l [] = deadFrom l heads (l.drop i) dd) ∧ Below w.heap.size w wr) (fun _ _ ii _ => n - (intOf ii).toNat)
  case atStart => exact ⟨0, 0, 0, none, [], 0, 0, none, [], by omega, rfl, rfl, rfl, by omega, by omega, by omega, by omega, Own.nil _ _ _ (Nat.le_refl _), by simp, Strs.nil _, Sep.no _ _, rfl, rfl, brefl⟩
  case round =>
    obtain ⟨i, m1, c1, A1, pre, m2, c2, A2, dd, hi, rfl, rfl, rfl, hc1, hm1, hc2, hm2, ho, hpr, hdd, hsp, hr, hr2, hbl⟩ := hrel
    by_cases hlt : i < n
    · obtain ⟨b, off, r, rfl, hx, hs1, hs2, hb0, hd1, hd2, hd3⟩ := hl.at_ hlt
      have hd := Lib.hid (drop_get hx)
      have HX := Lib.hid hx
      have hl1 := hl.below hbl
      have hh1 := hh.below hbl
      clear hx
      have hcells : ∀ wz, Below w.heap.size w wz → wz.cell? ⟨b, off + i * 3, none⟩ = some (.string r.frm) ∧ wz.cell? ⟨b, off + i * 3 + 2, none⟩ = some (.bool r.also) := fun wz hz =>
        ⟨(hz.cell (p := ⟨b, off + i * 3, none⟩) hb0).trans hd1, (hz.cell (p := ⟨b, off + i * 3 + 2, none⟩) hb0).trans hd3⟩
      have k1 := hcells wr hbl
      clear hd1 hd2 hd3 hb0
      cases ha : r.also
      · rw [ha] at hcells k1
        have hd0 : ∀ x, rank l heads r.frm = x → (!r.also && (rank l heads r.frm).isNone) = x.isNone := fun x hx => by rw [ha, hx]; rfl
        cases hf : Rf.has heads r.frm
        · obtain ⟨v, hv⟩ : ∃ v, idx (kept l heads r.frm) = v := ⟨_, rfl⟩
          have HV := Lib.hid hv
          by_cases hvi : v = i
          · have hk : kept l heads r.frm = some i := by
              have := idx_beq (kept l heads r.frm) i
              rw [hv, hvi] at this
              simpa using this.symm
            have HL := Lib.hid (leftFrom_no (rest := l.drop (i + 1)) (show isLeft l heads i r = false from by unfold isLeft; rw [ha, hf, hk]; simp))
            subst hvi
            clear hv hk
            cases hrk : rank l heads r.frm with
            | some q =>
              have HRK := Lib.hid hrk
              have HD := Lib.hid (deadFrom_no (rest := l.drop (i + 1)) (d := dd) (hd0 _ hrk))
              have hq0 : (0 : Int) ≤ q := by omega
              clear hrk hd0 ha
              go_wp2_with (first
                | (go_at_call 50; refine (has_any _ _ _ _ _ _ (by omega) hh1).mono ?_; rintro e w' ⟨rfl, rfl⟩)
                | (go_at_call 147; refine (kept_ref _ _ n m c d l heads r.frm wr hm hmh hl1 hh1).mono ?_; rintro e w2 ⟨rfl, hb2⟩; rw [HV.out]; have k2 := hcells w2 (hbl.tr hb2))
                | (go_at_call 148; refine (rank_ref _ _ n m c d l heads r.frm w2 hm hmh (hl.below (hbl.tr hb2)) (hh.below (hbl.tr hb2)) hs1).mono ?_; rintro e w6 ⟨rfl, hb6⟩; rw [HRK.out, idx]; have k6 := hcells w6 (((hbl.tr hb2)).tr hb6))
                )
              go_roundw
              case rel => exact ⟨i + 1, m1, c1, A1, pre, m2, c2, A2, dd, by omega, by go_num, rfl, rfl, hc1, by omega, hc2, by omega, (ho.below (hb2.tr hb6)), hpr, hdd.below (hb2.tr hb6), hsp.below (hb2.tr hb6), by show _ = _; rw [hr.out, hd.out, HL.out], by show _ = _; rw [hr2.out, hd.out, HD.out], hbl.tr (hb2.tr hb6)⟩
              case measure => simp [intOf]; omega
            | none =>
              have HRK := Lib.hid hrk
              have HD := Lib.hid (deadFrom_yes (rest := l.drop (i + 1)) (d := dd) (hd0 _ hrk))
              clear hrk hd0 ha
              go_wp2_with (first
                | (go_at_call 50; refine (has_any _ _ _ _ _ _ (by omega) hh1).mono ?_; rintro e w' ⟨rfl, rfl⟩)
                | (go_at_call 147; refine (kept_ref _ _ n m c d l heads r.frm wr hm hmh hl1 hh1).mono ?_; rintro e w2 ⟨rfl, hb2⟩; rw [HV.out]; have k2 := hcells w2 (hbl.tr hb2))
                | (go_at_call 148; refine (rank_ref _ _ n m c d l heads r.frm w2 hm hmh (hl.below (hbl.tr hb2)) (hh.below (hbl.tr hb2)) hs1).mono ?_; rintro e w6 ⟨rfl, hb6⟩; rw [HRK.out, idx]; have k6 := hcells w6 (((hbl.tr hb2)).tr hb6))
                | (go_at_call 92; refine (put_all _ _ _ _ _ _ (by omega) hc2 hs1 (hdd.below (hb2.tr hb6))).mono ?_; rintro e w7 ⟨A7, m7, c7, rfl, hc7, hs7, hb7, hA7⟩)
                )
              have h7 := hs7.1
              have hpl := put_len dd r.frm
              have hdl := hdd.1
              go_roundw
              case rel => exact ⟨i + 1, m1, c1, A1, pre, m7, c7, A7, _, by omega, by go_num, rfl, rfl, hc1, by omega, hc7, by omega, (ho.below (hb2.tr hb6)).below hb7, hpr, hs7, (hsp.below (hb2.tr hb6)).put (ho.below (hb2.tr hb6)) hb7 hA7 hs7 (put_pos _ _), by show _ = _; rw [hr.out, hd.out, HL.out], by show _ = _; rw [hr2.out, hd.out, HD.out], (hbl.tr (hb2.tr hb6)).tr hb7⟩
              case measure => simp [intOf]; omega
          · have hk : ¬ kept l heads r.frm = some i := fun e => hvi (by rw [← hv, e]; rfl)
            have HL := Lib.hid (leftFrom_yes (rest := l.drop (i + 1)) (show isLeft l heads i r = true from by unfold isLeft; rw [ha, hf]; simp [hk]))
            have hv1 : (v == (i : Int)) = false := by simpa using hvi
            have hv3 : decide (v = (i : Int)) = false := by simpa using hvi
            have hv2 : (v != (i : Int)) = true := by simpa using hvi
            clear hv hk
            cases hrk : rank l heads r.frm with
            | some q =>
              have HRK := Lib.hid hrk
              have HD := Lib.hid (deadFrom_no (rest := l.drop (i + 1)) (d := dd) (hd0 _ hrk))
              have hq0 : (0 : Int) ≤ q := by omega
              clear hrk hd0 ha
              go_wp2_with (first
                | (go_at_call 50; refine (has_any _ _ _ _ _ _ (by omega) hh1).mono ?_; rintro e w' ⟨rfl, rfl⟩)
                | (go_at_call 147; refine (kept_ref _ _ n m c d l heads r.frm wr hm hmh hl1 hh1).mono ?_; rintro e w2 ⟨rfl, hb2⟩; rw [HV.out]; have k2 := hcells w2 (hbl.tr hb2))
                | (at_builtin; refine wpList_app _ intsT rfl (.tmp 58) (.tmp 60) rfl ((ho.below hb2).alloc _) rfl rfl (news := [.int .i64 i]) rfl (Rds.one w2 (.int .i64 i) 3) (by simp [Value.oneCell']) ?_ ?_ ?_; (focus omega); (focus omega); intro A4 c4 w4 o4 n4 g4 e4; have hb4 := (hbl.tr hb2).al (.cells #[.int .i64 i] 3) |>.gr g4 ho.row; have k4 := hcells w4 hb4)
                | (go_at_call 148; refine (rank_ref _ _ n m c d l heads r.frm w4 hm hmh (hl.below hb4) (hh.below hb4) hs1).mono ?_; rintro e w6 ⟨rfl, hb6⟩; rw [HRK.out, idx]; have k6 := hcells w6 ((hb4).tr hb6))
                )
              have hpr2 : ∀ j ∈ pre ++ [i], j ≤ 100000 := fun j hj => by
                rcases List.mem_append.1 hj with h | h
                · exact hpr j h
                · simp at h; omega
              go_roundw
              case rel => exact ⟨i + 1, m1 + 1, c4, A4, pre ++ [i], m2, c2, A2, dd, by omega, by go_num, rfl, rfl, n4, by omega, hc2, by omega, (snoc_ints o4).below hb6, hpr2, ((hdd.below hb2).app (hsp.below hb2) g4).below hb6, ((hsp.below hb2).app g4 e4).below hb6, by show _ = _; rw [hr.out, hd.out, HL.out]; simp, by show _ = _; rw [hr2.out, hd.out, HD.out], hb4.tr hb6⟩
              case measure => simp [intOf]; omega
            | none =>
              have HRK := Lib.hid hrk
              have HD := Lib.hid (deadFrom_yes (rest := l.drop (i + 1)) (d := dd) (hd0 _ hrk))
              clear hrk hd0 ha
              go_wp2_with (first
                | (go_at_call 50; refine (has_any _ _ _ _ _ _ (by omega) hh1).mono ?_; rintro e w' ⟨rfl, rfl⟩)
                | (go_at_call 147; refine (kept_ref _ _ n m c d l heads r.frm wr hm hmh hl1 hh1).mono ?_; rintro e w2 ⟨rfl, hb2⟩; rw [HV.out]; have k2 := hcells w2 (hbl.tr hb2))
                | (at_builtin; refine wpList_app _ intsT rfl (.tmp 58) (.tmp 60) rfl ((ho.below hb2).alloc _) rfl rfl (news := [.int .i64 i]) rfl (Rds.one w2 (.int .i64 i) 3) (by simp [Value.oneCell']) ?_ ?_ ?_; (focus omega); (focus omega); intro A4 c4 w4 o4 n4 g4 e4; have hb4 := (hbl.tr hb2).al (.cells #[.int .i64 i] 3) |>.gr g4 ho.row; have k4 := hcells w4 hb4)
                | (go_at_call 148; refine (rank_ref _ _ n m c d l heads r.frm w4 hm hmh (hl.below hb4) (hh.below hb4) hs1).mono ?_; rintro e w6 ⟨rfl, hb6⟩; rw [HRK.out, idx]; have k6 := hcells w6 ((hb4).tr hb6))
                | (go_at_call 92; refine (put_all _ _ _ _ _ _ (by omega) hc2 hs1 (((hdd.below hb2).app (hsp.below hb2) g4).below hb6)).mono ?_; rintro e w7 ⟨A7, m7, c7, rfl, hc7, hs7, hb7, hA7⟩)
                )
              have h7 := hs7.1
              have hpl := put_len dd r.frm
              have hdl := hdd.1
              have hpr2 : ∀ j ∈ pre ++ [i], j ≤ 100000 := fun j hj => by
                rcases List.mem_append.1 hj with h | h
                · exact hpr j h
                · simp at h; omega
              go_roundw
              case rel => exact ⟨i + 1, m1 + 1, c4, A4, pre ++ [i], m7, c7, A7, _, by omega, by go_num, rfl, rfl, n4, by omega, hc7, by omega, ((snoc_ints o4).below hb6).below hb7, hpr2, hs7, (((hsp.below hb2).app g4 e4).below hb6).put ((snoc_ints o4).below hb6) hb7 hA7 hs7 (put_pos _ _), by show _ = _; rw [hr.out, hd.out, HL.out]; simp, by show _ = _; rw [hr2.out, hd.out, HD.out], (hb4.tr hb6).tr hb7⟩
              case measure => simp [intOf]; omega
        · have HL := Lib.hid (leftFrom_yes (rest := l.drop (i + 1)) (show isLeft l heads i r = true from by unfold isLeft; rw [ha, hf]; rfl))
          cases hrk : rank l heads r.frm with
          | some q =>
            have HRK := Lib.hid hrk
            have HD := Lib.hid (deadFrom_no (rest := l.drop (i + 1)) (d := dd) (hd0 _ hrk))
            have hq0 : (0 : Int) ≤ q := by omega
            clear hrk hd0 ha
            go_wp2_with (first
              | (go_at_call 50; refine (has_any _ _ _ _ _ _ (by omega) hh1).mono ?_; rintro e w' ⟨rfl, rfl⟩)
              | (at_builtin; refine wpList_app _ intsT rfl (.tmp 58) (.tmp 60) rfl (ho.alloc _) rfl rfl (news := [.int .i64 i]) rfl (Rds.one wr (.int .i64 i) 3) (by simp [Value.oneCell']) ?_ ?_ ?_; (focus omega); (focus omega); intro A4 c4 w4 o4 n4 g4 e4; have hb4 := (hbl.tr (brefl (a := wr))).al (.cells #[.int .i64 i] 3) |>.gr g4 ho.row; have k4 := hcells w4 hb4)
              | (go_at_call 148; refine (rank_ref _ _ n m c d l heads r.frm w4 hm hmh (hl.below hb4) (hh.below hb4) hs1).mono ?_; rintro e w6 ⟨rfl, hb6⟩; rw [HRK.out, idx]; have k6 := hcells w6 ((hb4).tr hb6))
              )
            have hpr2 : ∀ j ∈ pre ++ [i], j ≤ 100000 := fun j hj => by
              rcases List.mem_append.1 hj with h | h
              · exact hpr j h
              · simp at h; omega
            go_roundw
            case rel => exact ⟨i + 1, m1 + 1, c4, A4, pre ++ [i], m2, c2, A2, dd, by omega, by go_num, rfl, rfl, n4, by omega, hc2, by omega, (snoc_ints o4).below hb6, hpr2, (hdd.app hsp g4).below hb6, (hsp.app g4 e4).below hb6, by show _ = _; rw [hr.out, hd.out, HL.out]; simp, by show _ = _; rw [hr2.out, hd.out, HD.out], hb4.tr hb6⟩
            case measure => simp [intOf]; omega
          | none =>
            have HRK := Lib.hid hrk
            have HD := Lib.hid (deadFrom_yes (rest := l.drop (i + 1)) (d := dd) (hd0 _ hrk))
            clear hrk hd0 ha
            go_wp2_with (first
              | (go_at_call 50; refine (has_any _ _ _ _ _ _ (by omega) hh1).mono ?_; rintro e w' ⟨rfl, rfl⟩)
              | (at_builtin; refine wpList_app _ intsT rfl (.tmp 58) (.tmp 60) rfl (ho.alloc _) rfl rfl (news := [.int .i64 i]) rfl (Rds.one wr (.int .i64 i) 3) (by simp [Value.oneCell']) ?_ ?_ ?_; (focus omega); (focus omega); intro A4 c4 w4 o4 n4 g4 e4; have hb4 := (hbl.tr (brefl (a := wr))).al (.cells #[.int .i64 i] 3) |>.gr g4 ho.row; have k4 := hcells w4 hb4)
              | (go_at_call 148; refine (rank_ref _ _ n m c d l heads r.frm w4 hm hmh (hl.below hb4) (hh.below hb4) hs1).mono ?_; rintro e w6 ⟨rfl, hb6⟩; rw [HRK.out, idx]; have k6 := hcells w6 ((hb4).tr hb6))
              | (go_at_call 92; refine (put_all _ _ _ _ _ _ (by omega) hc2 hs1 ((hdd.app hsp g4).below hb6)).mono ?_; rintro e w7 ⟨A7, m7, c7, rfl, hc7, hs7, hb7, hA7⟩)
              )
            have h7 := hs7.1
            have hpl := put_len dd r.frm
            have hdl := hdd.1
            have hpr2 : ∀ j ∈ pre ++ [i], j ≤ 100000 := fun j hj => by
              rcases List.mem_append.1 hj with h | h
              · exact hpr j h
              · simp at h; omega
            go_roundw
            case rel => exact ⟨i + 1, m1 + 1, c4, A4, pre ++ [i], m7, c7, A7, _, by omega, by go_num, rfl, rfl, n4, by omega, hc7, by omega, ((snoc_ints o4).below hb6).below hb7, hpr2, hs7, ((hsp.app g4 e4).below hb6).put ((snoc_ints o4).below hb6) hb7 hA7 hs7 (put_pos _ _), by show _ = _; rw [hr.out, hd.out, HL.out]; simp, by show _ = _; rw [hr2.out, hd.out, HD.out], (hb4.tr hb6).tr hb7⟩
            case measure => simp [intOf]; omega
      · rw [ha] at hcells k1
        have HD := Lib.hid (deadFrom_no (rest := l.drop (i + 1)) (d := dd) (heads := heads) (l := l) (show (!r.also && (rank l heads r.frm).isNone) = false from by rw [ha]; rfl))
        have hwr := wrong_range l heads i r
        obtain ⟨v, hv⟩ : ∃ v, wrong l heads i r = v := ⟨_, rfl⟩
        have HV := Lib.hid hv
        have hlv : isLeft l heads i r = (v != 0) := by unfold isLeft; rw [ha, hv]; simp [eOK]
        rw [hv] at hwr
        clear hv
        cases hf : Rf.has heads r.frm
        all_goals
          by_cases hv0 : v = 0
          · have HL := Lib.hid (leftFrom_no (rest := l.drop (i + 1)) (show isLeft l heads i r = false from by rw [hlv, hv0]; rfl))
            subst hv0
            clear hlv ha
            go_wp2_with (first
              | (go_at_call 50; refine (has_any _ _ _ _ _ _ (by omega) hh1).mono ?_; rintro e w' ⟨rfl, rfl⟩)
              | (go_at_call 114; refine (wrong_ref _ _ n m c d l heads i r wr hm hmh hl1 hh1 HX.out).mono ?_; rintro e w2 ⟨rfl, hb2⟩; rw [HV.out]; have k2 := hcells w2 (hbl.tr hb2))
              )
            go_roundw
            case rel => exact ⟨i + 1, m1, c1, A1, pre, m2, c2, A2, dd, by omega, by go_num, rfl, rfl, hc1, by omega, hc2, by omega, (ho.below hb2), hpr, hdd.below hb2, hsp.below hb2, by show _ = _; rw [hr.out, hd.out, HL.out], by show _ = _; rw [hr2.out, hd.out, HD.out], hbl.tr hb2⟩
            case measure => simp [intOf]; omega
          · have HL := Lib.hid (leftFrom_yes (rest := l.drop (i + 1)) (show isLeft l heads i r = true from by rw [hlv]; simpa using hv0))
            have hv1 : (v == 0) = false := by simpa using hv0
            have hv2 : (v != 0) = true := by simpa using hv0
            have hv3 : decide (v = 0) = false := by simpa using hv0
            clear hlv ha
            go_wp2_with (first
              | (go_at_call 50; refine (has_any _ _ _ _ _ _ (by omega) hh1).mono ?_; rintro e w' ⟨rfl, rfl⟩)
              | (go_at_call 114; refine (wrong_ref _ _ n m c d l heads i r wr hm hmh hl1 hh1 HX.out).mono ?_; rintro e w2 ⟨rfl, hb2⟩; rw [HV.out]; have k2 := hcells w2 (hbl.tr hb2))
              | (at_builtin; refine wpList_app _ intsT rfl (.tmp 58) (.tmp 60) rfl ((ho.below hb2).alloc _) rfl rfl (news := [.int .i64 i]) rfl (Rds.one w2 (.int .i64 i) 3) (by simp [Value.oneCell']) ?_ ?_ ?_; (focus omega); (focus omega); intro A4 c4 w4 o4 n4 g4 e4; have hb4 := (hbl.tr hb2).al (.cells #[.int .i64 i] 3) |>.gr g4 ho.row; have k4 := hcells w4 hb4)
              )
            have hpr2 : ∀ j ∈ pre ++ [i], j ≤ 100000 := fun j hj => by
              rcases List.mem_append.1 hj with h | h
              · exact hpr j h
              · simp at h; omega
            go_roundw
            case rel => exact ⟨i + 1, m1 + 1, c4, A4, pre ++ [i], m2, c2, A2, dd, by omega, by go_num, rfl, rfl, n4, by omega, hc2, by omega, snoc_ints o4, hpr2, (hdd.below hb2).app (hsp.below hb2) g4, (hsp.below hb2).app g4 e4, by show _ = _; rw [hr.out, hd.out, HL.out]; simp, by show _ = _; rw [hr2.out, hd.out, HD.out], hb4⟩
            case measure => simp [intOf]; omega
    · have hf1 := Lib.hid (show (repair l heads).1 = pre from by show leftFrom l heads l 0 = pre; rw [hr.out, drop_len hl.1 hlt]; simp [leftFrom])
      have hf2 := Lib.hid (show (repair l heads).2 = dd from by show deadFrom l heads l [] = dd; rw [hr2.out, drop_len hl.1 hlt]; rfl)
      go_wp2
      go_ret2
      refine ⟨A1, m1, c1, A2, m2, c2, rfl, hc1, by omega, hc2, by omega, ?_, by rw [hf2.out]; exact hdd, hbl⟩
      rw [hf1.out]
      exact Ints.own ho (l := pre.map fun i : Nat => (i : Int)) (by simp) (fun s hs => by
        obtain ⟨i, hi, rfl⟩ := List.mem_map.1 hs
        have := hpr i hi
        unfold i64ok; omega)
end Go.Proofs.YtdfnfimajhagfaaGreatDoor
