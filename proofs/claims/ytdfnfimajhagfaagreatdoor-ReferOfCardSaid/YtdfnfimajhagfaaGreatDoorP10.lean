/- Walk of package refer: Repair. -/
import Derived.Test.YtdfnfimajhagfaaGreatDoorP5
import Derived.Test.YtdfnfimajhagfaaGreatDoorP6
import Derived.Test.YtdfnfimajhagfaaGreatDoorW8
namespace Go.Proofs.YtdfnfimajhagfaaGreatDoor
open Go.RowKit Go.Maps Go.Sort Rf
/-- the map of the kept sees, among the first k references -/
def keptF (l : List Ref) (heads : List S) (k : Nat) (s : S) : Option Nat := (keptAt l heads k s).map (·.1)
theorem keptF_same {l : List Ref} {heads : List S} {k : Nat} {r : Ref} (h : l[k]? = some r) (hc : r.also = true ∨ rank l heads r.to = none ∨ ∃ n i q, rank l heads r.to = some n ∧ keptAt l heads k r.frm = some (i, q) ∧ ¬ n < q) (s : S) : keptF l heads (k + 1) s = keptF l heads k s := by
  unfold keptF
  rw [keptAt_succ h]
  congr 1
  unfold kstep
  split
  · rename_i hs
    simp only [Bool.and_eq_true, Bool.not_eq_true', eqS_iff] at hs
    rcases hc with hc | hc | ⟨n, i, q, h1, h2, h3⟩
    · rw [hs.2] at hc; cases hc
    · rw [hc]
    · rw [h1, ← hs.1, h2]; simp [h3]
  · rfl
theorem keptF_new {l : List Ref} {heads : List S} {k n : Nat} {r : Ref} (h : l[k]? = some r) (ha : r.also = false) (hn : rank l heads r.to = some n) (hc : keptAt l heads k r.frm = none ∨ ∃ i q, keptAt l heads k r.frm = some (i, q) ∧ n < q) (s : S) :
    keptF l heads (k + 1) s = upd (keptF l heads k) r.frm k s := by
  unfold keptF upd
  rw [keptAt_succ h]
  unfold kstep
  by_cases hs : s = r.frm
  · subst hs
    rw [if_pos (by simp [ha, (eqS_iff r.frm r.frm).2 rfl]), hn]
    rcases hc with hc | ⟨i, q, hc, hlt⟩
    · rw [hc]; simp
    · rw [hc]; simp [hlt]
  · rw [if_neg hs, if_neg (by simp only [Bool.and_eq_true, eqS_iff]; exact fun e => hs e.1.symm)]
def deadP (l : List Ref) (heads : List S) (r : Ref) : Bool := !r.also && (rank l heads r.frm).isNone
theorem take_filterR10 {p : Ref → Bool} {l : List Ref} {k : Nat} {x : Ref} (h : l[k]? = some x) : (l.take (k + 1)).filter p = (l.take k).filter p ++ (if p x then [x] else []) := by
  rw [take_snoc h, List.filter_append]
  cases hp : p x <;> simp [hp]
theorem dead_snoc {l : List Ref} {heads : List S} {k : Nat} {r : Ref} {b : Bool} (h : l[k]? = some r) (hb : deadP l heads r = b) : ((l.take (k + 1)).filter (deadP l heads)).map Ref.frm = ((l.take k).filter (deadP l heads)).map Ref.frm ++ (if b then [r.frm] else []) := by
  rw [take_filterR10 h, List.map_append, hb]; cases b <;> rfl
theorem rank_le {l : List Ref} {heads : List S} {x : S} {d : Nat} (h : rank l heads x = some d) : d ≤ l.length := by
  have h1 := (rank_some.1 h)
  rcases Nat.lt_or_ge l.length d with h2 | h2
  · exact absurd (R_bound h1.1) (h1.2 _ h2)
  · exact h2
theorem kept_upd {f g : S → Option Nat} {x : S} {n : Nat} (h : ∀ s, g s = upd f x n s) (s : S) : intF g s = updV (intF f) x (.int .i64 n) s := by rw [← intF_upd]; unfold intF; rw [h s]
theorem own_ne {w : World} {base b : Nat} {e : TypeId} {size : Nat} {v : Value} {n : Nat} {xs : List Value} (h : Own w base e size v n xs) (hb : b < base) : v.ownBlock = none ∨ v.ownBlock ≠ some b := by
  cases hv : v.ownBlock with
  | none => exact .inl rfl
  | some j => exact .inr fun e => by have := h.row j hv; cases e; omega
set_option maxRecDepth 20000 in
set_option maxHeartbeats 8000000 in
theorem repair_any (A B : Option Addr) (n m c d : Nat) (l : List Ref) (heads : List S) (w : World) (hm : n ≤ 10000) (hmh : m ≤ 10000) (hc : n ≤ c) (hl : Refs w A n l) (hh : Strs w B m heads) :
    Calls Tryz.prog 122 #[.slice A n c, .slice B m d] w fun e w' =>
      ∃ A1 k1 c1 A2 k2 c2, e = .returned (.tuple #[.slice A1 k1 c1, .slice A2 k2 c2]) ∧ k1 ≤ c1 ∧ k1 ≤ n ∧ k2 ≤ c2 ∧ k2 ≤ n ∧ Ints w' A1 k1 ((repair l heads).1.map fun i : Nat => (i : Int)) ∧ Strs w' A2 k2 (repair l heads).2 ∧ Below w.heap.size w w' := by
  have hmm := @run_makeMap Tryz.prog
  have hll := hl.1
  have hhl := hh.1
  go_enter Tryz.func122, Tryz.ntmps122
  go_wp2_with (first
    | (go_at_call 112; refine (of_any _ _ _ _ _ _ _ _ _ (by omega) (by omega) hc hl hh).mono ?_; rintro e w1 ⟨g, hb, sb, rfl, hg1, hg2, hg3⟩)
    | (go_at_call 160; refine (ranks_any _ _ _ _ _ _ _ _ _ (by omega) (by omega) hg2).mono ?_; rintro e w2 ⟨rb, rk, rfl, hr2, hrb, hb12⟩))
  have hb2 := hg3.tr hb12
  have hgr2 := hg2.below hb12
  go_loopw [9, 31] (fun y i wr => ∃ (j m1 c1 : Nat) (A1 : Option Addr), j ≤ n ∧ i = .int .i64 j ∧ y = .slice A1 m1 c1 ∧ m1 ≤ c1 ∧ m1 ≤ j ∧ Own wr (w2.heap.size + 1) 9 1 (.slice A1 m1 c1) m1 ((((l.take j).filter (deadP l heads)).map Ref.frm).map Value.string) ∧
    MapS wr w2.heap.size j (intF (keptF l heads j)) ∧ Below w2.heap.size w2 wr) (fun _ i _ => n - (intOf i).toNat)
  case atStart => exact ⟨0, 0, 0, none, by omega, rfl, rfl, by omega, by omega, Own.nil _ _ _ (by simp), (MapF.made _ _ _).congr fun s => by unfold intF keptF; rw [keptAt_zero]; rfl, brefl.al _⟩
  case round =>
    obtain ⟨j, m1, c1, A1, hj, rfl, rfl, hc1, hmj, ho, hkm, hbl⟩ := hrel
    by_cases hlt : j < n
    · obtain ⟨b, off, r, rfl, hx, hs1, hs2, hb0, hd1, hd2, hd3⟩ := (hl.below (hb2.tr hbl)).at_ hlt
      have hoa := ho.alloc (.cells #[.string r.frm, .string r.to, .bool r.also] 136)
      have hka := hkm.alloc (.cells #[.string r.frm, .string r.to, .bool r.also] 136)
      have hba := hbl.al (.cells #[.string r.frm, .string r.to, .bool r.also] 136)
      have hra := hr2.below hba
      have hla := hl.below (hb2.tr hba)
      cases ha : r.also
      · rw [ha] at hoa hka hba hra hd3 hla
        cases hrt : rank l heads r.to with
        | none =>
          have HRT := Lib.hid hrt
          have HK := Lib.hid (keptF_same hx (.inr (.inl hrt)))
          obtain ⟨vk, hvk⟩ : ∃ vk, keptF l heads j r.frm = vk := ⟨_, rfl⟩
          have HKF := Lib.hid hvk
          clear hrt hvk
          cases hrf : rank l heads r.frm with
          | some nf =>
            have e1 := (hra.lookI0 hs1 hrf).1
            have HD := Lib.hid (dead_snoc hx (show deadP l heads r = false from by unfold deadP; rw [ha, hrf]; rfl))
            have hRW := hra
            have hKW := hka
            have hLW := hla
            clear hrf hx ha
            have e2 := (hRW.lookI0 hs2 HRT.out).1
            have e3 := (hKW.lookI0 hs1 HKF.out).1
            go_wp2
            go_roundw
            case rel => exact ⟨j + 1, m1, c1, A1, by omega, by go_num, rfl, hc1, by omega, by rw [HD.out]; simpa using hoa, (hka.mono (Nat.le_succ j)).congr (fun s => by unfold intF; rw [HK.out s]), hba⟩
            case measure => simp [intOf]; omega
          | none =>
            have e1 := (hra.lookI0 hs1 hrf).1
            have HD := Lib.hid (dead_snoc hx (show deadP l heads r = true from by unfold deadP; rw [ha, hrf]; rfl))
            clear hrf hx ha
            go_wp2_with (at_builtin
                         ; refine wpList_app _ stringsT rfl (.tmp 50) (.tmp 53) rfl (hoa.alloc _) rfl rfl (news := [.string r.frm]) rfl (Rds.oneAt (wr.alloc (.cells #[.string r.frm, .string r.to, .bool false] 136)) (by simp) (.string r.frm) 9) (by simp [Value.oneCell']) ?_ ?_ ?_
                         ; (focus omega)
                         ; (focus omega)
                         ; intro A5 c5 w5 o5 n5 g5 _
                         ; have hrw5 : ∀ j, (Value.slice A1 m1 c1).ownBlock = some j → w2.heap.size < j := (fun j hj => by have := hoa.row j hj; omega)
                         ; have hb5 := ((hba.al (.cells #[.string r.frm] 9)).gr g5 (fun j hj => by have := hrw5 j hj; omega))
                         ; have hKW : MapS w5 w2.heap.size j (intF (keptF l heads j)) := ((hka.alloc _).kept g5 (fun e => by have := hrw5 w2.heap.size e.symm; omega))
                         ; have hRW := (hr2.below hb5)
                         ; have hLW := (hl.below (hb2.tr hb5))
                         ; have hlt5 : ∀ j, (Value.slice A1 m1 c1).ownBlock = some j → j < wr.heap.size := (ho.lt)
                         ; have q0 : w5.cell? ⟨wr.heap.size, 0, none⟩ = some (.string r.frm) := (g5.cell (by simp) (fun e => by have := hlt5 wr.heap.size e.symm; omega))
                         ; have q1 : w5.cell? ⟨wr.heap.size, 1, none⟩ = some (.string r.to) := (g5.cell (by simp) (fun e => by have := hlt5 wr.heap.size e.symm; omega))
                         ; have q2 : w5.cell? ⟨wr.heap.size, 2, none⟩ = some (.bool false) := (g5.cell (by simp) (fun e => by have := hlt5 wr.heap.size e.symm; omega))
                         ; have e2 := ((hRW.lookI0 hs2 HRT.out).1)
                         ; have e3 := ((hKW.lookI0 hs1 HKF.out).1)
                         )
            go_roundw
            case rel => exact ⟨j + 1, m1 + 1, c5, A5, by omega, by go_num, rfl, n5, by omega, by rw [HD.out]; simpa using o5, (hKW.mono (Nat.le_succ j)).congr (fun s => by unfold intF; rw [HK.out s]), hb5⟩
            case measure => simp [intOf]; omega
        | some nt =>
          have HRT := Lib.hid hrt
          have hntl := rank_le hrt
          cases hkt : keptAt l heads j r.frm with
          | none =>
            have HK := Lib.hid (keptF_new hx ha hrt (.inl hkt))
            have HKF := Lib.hid (show keptF l heads j r.frm = none from by unfold keptF; rw [hkt]; rfl)
            clear hrt hkt
            cases hrf : rank l heads r.frm with
            | some nf =>
              have e1 := (hra.lookI0 hs1 hrf).1
              have HD := Lib.hid (dead_snoc hx (show deadP l heads r = false from by unfold deadP; rw [ha, hrf]; rfl))
              have hRW := hra
              have hKW := hka
              have hLW := hla
              clear hrf hx ha
              have e2 := (hRW.lookI0 hs2 HRT.out).1
              have e3 := (hKW.lookI0 hs1 HKF.out).1
              go_wp2_with (at_mapUpdate
                           ; refine wpList_store _ rfl _ _ _ 170 rfl keyS mapI rfl hKW _ rfl _ rfl hs1 (by unfold maxLen; omega) ?_
                           ; intro w8 hk8 hg8
                           )
              go_roundw
              case rel => exact ⟨j + 1, m1, c1, A1, by omega, by go_num, rfl, hc1, by omega, by rw [HD.out]; simpa using hoa.kept hg8 (own_ne hoa (by omega)), hk8.congr (kept_upd HK.out), hba.gr hg8 (by intro j hj; cases hj; exact Nat.le_refl _)⟩
              case measure => simp [intOf]; omega
            | none =>
              have e1 := (hra.lookI0 hs1 hrf).1
              have HD := Lib.hid (dead_snoc hx (show deadP l heads r = true from by unfold deadP; rw [ha, hrf]; rfl))
              clear hrf hx ha
              go_wp2_with (first
                | (at_builtin
                   ; refine wpList_app _ stringsT rfl (.tmp 50) (.tmp 53) rfl (hoa.alloc _) rfl rfl (news := [.string r.frm]) rfl (Rds.oneAt (wr.alloc (.cells #[.string r.frm, .string r.to, .bool false] 136)) (by simp) (.string r.frm) 9) (by simp [Value.oneCell']) ?_ ?_ ?_
                   ; (focus omega)
                   ; (focus omega)
                   ; intro A5 c5 w5 o5 n5 g5 _
                   ; have hrw5 : ∀ j, (Value.slice A1 m1 c1).ownBlock = some j → w2.heap.size < j := (fun j hj => by have := hoa.row j hj; omega)
                   ; have hb5 := ((hba.al (.cells #[.string r.frm] 9)).gr g5 (fun j hj => by have := hrw5 j hj; omega))
                   ; have hKW : MapS w5 w2.heap.size j (intF (keptF l heads j)) := ((hka.alloc _).kept g5 (fun e => by have := hrw5 w2.heap.size e.symm; omega))
                   ; have hRW := (hr2.below hb5)
                   ; have hLW := (hl.below (hb2.tr hb5))
                   ; have hlt5 : ∀ j, (Value.slice A1 m1 c1).ownBlock = some j → j < wr.heap.size := (ho.lt)
                   ; have q0 : w5.cell? ⟨wr.heap.size, 0, none⟩ = some (.string r.frm) := (g5.cell (by simp) (fun e => by have := hlt5 wr.heap.size e.symm; omega))
                   ; have q1 : w5.cell? ⟨wr.heap.size, 1, none⟩ = some (.string r.to) := (g5.cell (by simp) (fun e => by have := hlt5 wr.heap.size e.symm; omega))
                   ; have q2 : w5.cell? ⟨wr.heap.size, 2, none⟩ = some (.bool false) := (g5.cell (by simp) (fun e => by have := hlt5 wr.heap.size e.symm; omega))
                   ; have e2 := ((hRW.lookI0 hs2 HRT.out).1)
                   ; have e3 := ((hKW.lookI0 hs1 HKF.out).1)
                   )
                | (at_mapUpdate
                   ; refine wpList_store _ rfl _ _ _ 170 rfl keyS mapI rfl hKW _ rfl _ rfl hs1 (by unfold maxLen; omega) ?_
                   ; intro w8 hk8 hg8
                   ))
              go_roundw
              case rel => exact ⟨j + 1, m1 + 1, c5, A5, by omega, by go_num, rfl, n5, by omega, by rw [HD.out]; simpa using o5.kept hg8 (own_ne o5 (by omega)), hk8.congr (kept_upd HK.out), hb5.gr hg8 (by intro j hj; cases hj; exact Nat.le_refl _)⟩
              case measure => simp [intOf]; omega
          | some p =>
            obtain ⟨i, q⟩ := p
            obtain ⟨hij, r', hr', hr1, hr2', hrq⟩ := keptAt_some (by omega) hkt
            have HKF := Lib.hid (show keptF l heads j r.frm = some i from by unfold keptF; rw [hkt]; rfl)
            have hql := rank_le hrq
            have HRQ := Lib.hid hrq
            have hin : i < n := by omega
            by_cases hlt2 : nt < q
            · have HK := Lib.hid (keptF_new hx ha hrt (.inr ⟨i, q, hkt, hlt2⟩))
              have hlt3 : (nt : Int) < q := by omega
              clear hrt hkt hrq hr1 hr2'
              cases hrf : rank l heads r.frm with
              | some nf =>
                have e1 := (hra.lookI0 hs1 hrf).1
                have HD := Lib.hid (dead_snoc hx (show deadP l heads r = false from by unfold deadP; rw [ha, hrf]; rfl))
                have hRW := hra
                have hKW := hka
                have hLW := hla
                clear hrf hx ha
                have e2 := (hRW.lookI0 hs2 HRT.out).1
                have e3 := (hKW.lookI0 hs1 HKF.out).1
                obtain ⟨b3, off3, r3, hA3, hx3, _, hs3, _, _, hk3, _⟩ := hLW.at_ hin
                obtain rfl : r' = r3 := by rw [hr'] at hx3; injection hx3
                have e4 := (hRW.lookI0 hs3 HRQ.out).2
                cases hA3
                go_wp2_with (at_mapUpdate
                             ; refine wpList_store _ rfl _ _ _ 170 rfl keyS mapI rfl hKW _ rfl _ rfl hs1 (by unfold maxLen; omega) ?_
                             ; intro w8 hk8 hg8
                             )
                go_roundw
                case rel => exact ⟨j + 1, m1, c1, A1, by omega, by go_num, rfl, hc1, by omega, by rw [HD.out]; simpa using hoa.kept hg8 (own_ne hoa (by omega)), hk8.congr (kept_upd HK.out), hba.gr hg8 (by intro j hj; cases hj; exact Nat.le_refl _)⟩
                case measure => simp [intOf]; omega
              | none =>
                have e1 := (hra.lookI0 hs1 hrf).1
                have HD := Lib.hid (dead_snoc hx (show deadP l heads r = true from by unfold deadP; rw [ha, hrf]; rfl))
                clear hrf hx ha
                go_wp2_with (first
                  | (at_builtin
                     ; refine wpList_app _ stringsT rfl (.tmp 50) (.tmp 53) rfl (hoa.alloc _) rfl rfl (news := [.string r.frm]) rfl (Rds.oneAt (wr.alloc (.cells #[.string r.frm, .string r.to, .bool false] 136)) (by simp) (.string r.frm) 9) (by simp [Value.oneCell']) ?_ ?_ ?_
                     ; (focus omega)
                     ; (focus omega)
                     ; intro A5 c5 w5 o5 n5 g5 _
                     ; have hrw5 : ∀ j, (Value.slice A1 m1 c1).ownBlock = some j → w2.heap.size < j := (fun j hj => by have := hoa.row j hj; omega)
                     ; have hb5 := ((hba.al (.cells #[.string r.frm] 9)).gr g5 (fun j hj => by have := hrw5 j hj; omega))
                     ; have hKW : MapS w5 w2.heap.size j (intF (keptF l heads j)) := ((hka.alloc _).kept g5 (fun e => by have := hrw5 w2.heap.size e.symm; omega))
                     ; have hRW := (hr2.below hb5)
                     ; have hLW := (hl.below (hb2.tr hb5))
                     ; have hlt5 : ∀ j, (Value.slice A1 m1 c1).ownBlock = some j → j < wr.heap.size := (ho.lt)
                     ; have q0 : w5.cell? ⟨wr.heap.size, 0, none⟩ = some (.string r.frm) := (g5.cell (by simp) (fun e => by have := hlt5 wr.heap.size e.symm; omega))
                     ; have q1 : w5.cell? ⟨wr.heap.size, 1, none⟩ = some (.string r.to) := (g5.cell (by simp) (fun e => by have := hlt5 wr.heap.size e.symm; omega))
                     ; have q2 : w5.cell? ⟨wr.heap.size, 2, none⟩ = some (.bool false) := (g5.cell (by simp) (fun e => by have := hlt5 wr.heap.size e.symm; omega))
                     ; have e2 := ((hRW.lookI0 hs2 HRT.out).1)
                     ; have e3 := ((hKW.lookI0 hs1 HKF.out).1)
                     ; obtain ⟨b3, off3, r3, hA3, hx3, _, hs3, _, _, hk3, _⟩ := (hLW.at_ hin)
                     ; obtain rfl : r' = r3 := (by rw [hr'] at hx3; injection hx3)
                     ; have e4 := ((hRW.lookI0 hs3 HRQ.out).2)
                     ; cases hA3
                     )
                  | (at_mapUpdate
                     ; refine wpList_store _ rfl _ _ _ 170 rfl keyS mapI rfl hKW _ rfl _ rfl hs1 (by unfold maxLen; omega) ?_
                     ; intro w8 hk8 hg8
                     ))
                go_roundw
                case rel => exact ⟨j + 1, m1 + 1, c5, A5, by omega, by go_num, rfl, n5, by omega, by rw [HD.out]; simpa using o5.kept hg8 (own_ne o5 (by omega)), hk8.congr (kept_upd HK.out), hb5.gr hg8 (by intro j hj; cases hj; exact Nat.le_refl _)⟩
                case measure => simp [intOf]; omega
            · have HK := Lib.hid (keptF_same hx (.inr (.inr ⟨nt, i, q, hrt, hkt, hlt2⟩)))
              have hlt3 : ¬ (nt : Int) < q := by omega
              clear hrt hkt hrq hr1 hr2'
              cases hrf : rank l heads r.frm with
              | some nf =>
                have e1 := (hra.lookI0 hs1 hrf).1
                have HD := Lib.hid (dead_snoc hx (show deadP l heads r = false from by unfold deadP; rw [ha, hrf]; rfl))
                have hRW := hra
                have hKW := hka
                have hLW := hla
                clear hrf hx ha
                have e2 := (hRW.lookI0 hs2 HRT.out).1
                have e3 := (hKW.lookI0 hs1 HKF.out).1
                obtain ⟨b3, off3, r3, hA3, hx3, _, hs3, _, _, hk3, _⟩ := hLW.at_ hin
                obtain rfl : r' = r3 := by rw [hr'] at hx3; injection hx3
                have e4 := (hRW.lookI0 hs3 HRQ.out).2
                cases hA3
                go_wp2
                go_roundw
                case rel => exact ⟨j + 1, m1, c1, A1, by omega, by go_num, rfl, hc1, by omega, by rw [HD.out]; simpa using hoa, (hka.mono (Nat.le_succ j)).congr (fun s => by unfold intF; rw [HK.out s]), hba⟩
                case measure => simp [intOf]; omega
              | none =>
                have e1 := (hra.lookI0 hs1 hrf).1
                have HD := Lib.hid (dead_snoc hx (show deadP l heads r = true from by unfold deadP; rw [ha, hrf]; rfl))
                clear hrf hx ha
                go_wp2_with (at_builtin
                             ; refine wpList_app _ stringsT rfl (.tmp 50) (.tmp 53) rfl (hoa.alloc _) rfl rfl (news := [.string r.frm]) rfl (Rds.oneAt (wr.alloc (.cells #[.string r.frm, .string r.to, .bool false] 136)) (by simp) (.string r.frm) 9) (by simp [Value.oneCell']) ?_ ?_ ?_
                             ; (focus omega)
                             ; (focus omega)
                             ; intro A5 c5 w5 o5 n5 g5 _
                             ; have hrw5 : ∀ j, (Value.slice A1 m1 c1).ownBlock = some j → w2.heap.size < j := (fun j hj => by have := hoa.row j hj; omega)
                             ; have hb5 := ((hba.al (.cells #[.string r.frm] 9)).gr g5 (fun j hj => by have := hrw5 j hj; omega))
                             ; have hKW : MapS w5 w2.heap.size j (intF (keptF l heads j)) := ((hka.alloc _).kept g5 (fun e => by have := hrw5 w2.heap.size e.symm; omega))
                             ; have hRW := (hr2.below hb5)
                             ; have hLW := (hl.below (hb2.tr hb5))
                             ; have hlt5 : ∀ j, (Value.slice A1 m1 c1).ownBlock = some j → j < wr.heap.size := (ho.lt)
                             ; have q0 : w5.cell? ⟨wr.heap.size, 0, none⟩ = some (.string r.frm) := (g5.cell (by simp) (fun e => by have := hlt5 wr.heap.size e.symm; omega))
                             ; have q1 : w5.cell? ⟨wr.heap.size, 1, none⟩ = some (.string r.to) := (g5.cell (by simp) (fun e => by have := hlt5 wr.heap.size e.symm; omega))
                             ; have q2 : w5.cell? ⟨wr.heap.size, 2, none⟩ = some (.bool false) := (g5.cell (by simp) (fun e => by have := hlt5 wr.heap.size e.symm; omega))
                             ; have e2 := ((hRW.lookI0 hs2 HRT.out).1)
                             ; have e3 := ((hKW.lookI0 hs1 HKF.out).1)
                             ; obtain ⟨b3, off3, r3, hA3, hx3, _, hs3, _, _, hk3, _⟩ := (hLW.at_ hin)
                             ; obtain rfl : r' = r3 := (by rw [hr'] at hx3; injection hx3)
                             ; have e4 := ((hRW.lookI0 hs3 HRQ.out).2)
                             ; cases hA3
                             )
                go_roundw
                case rel => exact ⟨j + 1, m1 + 1, c5, A5, by omega, by go_num, rfl, n5, by omega, by rw [HD.out]; simpa using o5, (hKW.mono (Nat.le_succ j)).congr (fun s => by unfold intF; rw [HK.out s]), hb5⟩
                case measure => simp [intOf]; omega
      · rw [ha] at hoa hka hba hra hd3 hla
        have HD := Lib.hid (dead_snoc hx (show deadP l heads r = false from by unfold deadP; rw [ha]; rfl))
        have HK := Lib.hid (keptF_same (heads := heads) hx (.inl ha))
        have e1 := (hra.lookI0 hs1 rfl).1
        have e2 := (hra.lookI0 hs2 rfl).1
        have e3 := (hka.lookI0 hs1 rfl).1
        generalize rank l heads r.frm = v1 at e1
        generalize rank l heads r.to = v2 at e2
        generalize keptF l heads j r.frm = v3 at e3
        clear hx ha
        go_wp2
        go_roundw
        case rel => exact ⟨j + 1, m1, c1, A1, by omega, by go_num, rfl, hc1, by omega, by rw [HD.out]; simpa using hoa, (hka.mono (Nat.le_succ j)).congr (fun s => by unfold intF; rw [HK.out s]), hba⟩
        case measure => simp [intOf]; omega
    · have hjn : j = n := by omega
      have ht := take_all hll hj hlt
      rw [ht] at ho
      have hkn : ∀ s, intF (kept l heads) s = intF (keptF l heads j) s := fun s => by unfold intF keptF; rw [hjn, ← hll, keptAt_all]
      have hkk : MapS wr w2.heap.size j (intF (kept l heads)) := hkm.congr hkn
      have hdd : ∀ s ∈ (l.filter (deadP l heads)).map Ref.frm, s.size ≤ maxLen := fun s hs => by
        obtain ⟨r, hr, rfl⟩ := List.mem_map.1 hs
        exact (hl.2.1 r (List.mem_filter.1 hr).1).1
      have hds := Strs.own ho rfl hdd
      have hrep : repair l heads = (leftFrom l heads l 0, sortS ((l.filter (deadP l heads)).map Ref.frm)) := by unfold repair; rw [deadFrom_eq]; rfl
      have HR := Lib.hid hrep
      have hbw := hb2.tr hbl
      have hgr := hgr2.below hbl
      clear ht hkn hkm ho hdd hrep hjn
      go_wp2
      obtain ⟨w6, hw6⟩ : ∃ w6 : World, w6 = wr := ⟨_, rfl⟩
      subst hw6
      generalize (l.filter (deadP l heads)).map Ref.frm = deads at *
      go_loopw [18, 97] (fun y i wr => ∃ (j m3 c3 : Nat) (A3 : Option Addr) (pre : List Nat), j ≤ n ∧ i = .int .i64 j ∧ y = .slice A3 m3 c3 ∧ m3 ≤ c3 ∧ m3 ≤ j ∧ Own wr w6.heap.size 3 1 (.slice A3 m3 c3) m3 (pre.map fun i : Nat => Value.int .i64 i) ∧
        (∀ i ∈ pre, i ≤ 10000) ∧ Hid (leftFrom l heads l 0 = pre ++ leftFrom l heads (l.drop j) j) ∧ Below w6.heap.size w6 wr) (fun _ i _ => n - (intOf i).toNat)
      case atStart => exact ⟨0, 0, 0, none, [], by omega, rfl, rfl, by omega, by omega, Own.nil _ _ _ (Nat.le_refl _), by simp, rfl, brefl⟩
      case round =>
        obtain ⟨j', m3, c3, A3, pre, hj', rfl, rfl, hc3, hm3, ho, hpre, hr, hbl3⟩ := hrel
        by_cases hlt3 : j' < n
        · obtain ⟨b, off, r, rfl, hx, hs1, hs2, hb0, hd1, hd2, hd3⟩ := (hl.below (hbw.tr hbl3)).at_ hlt3
          have hd := Lib.hid (drop_get hx)
          have hoa := ho.alloc (.cells #[.string r.frm, .string r.to, .bool r.also] 136)
          have hba := hbl3.al (.cells #[.string r.frm, .string r.to, .bool r.also] 136)
          have hka := hkk.below hba
          have hga := hgr.below hba
          have hwc := wrongP_any g (some ⟨b, off, none⟩) n c hb sb l heads j' r
          cases ha : r.also
          · rw [ha] at hoa hba hka hga hd3
            obtain ⟨hgg0, _, _, hgh, _, gc0, gc1, gc2⟩ := hga
            cases hhd : Rf.has heads r.frm
            · cases hkp : kept l heads r.frm with
              | none =>
                have HL := Lib.hid (leftFrom_yes (rest := l.drop (j' + 1)) (show isLeft l heads j' r = true from by unfold isLeft; rw [ha, hhd, hkp]; rfl))
                have e1 := (hka.lookI0 hs1 hkp).1
                have e2 := hgh.lookB hs1 hhd
                clear hhd hkp ha hx
                go_wp2
                go_quiet (fail)
                have ho7 : Own ((wr.alloc (.cells #[.string r.frm, .string r.to, .bool false] 136)).drewN nq) w6.heap.size 3 1 (.slice A3 m3 c3) m3 (pre.map fun i : Nat => Value.int .i64 i) := hoa
                have hb7 : Below w6.heap.size w6 ((wr.alloc (.cells #[.string r.frm, .string r.to, .bool false] 136)).drewN nq) := hba.drn _
                generalize ((wr.alloc (.cells #[.string r.frm, .string r.to, .bool false] 136)).drewN nq) = w7 at ho7 hb7 ⊢
                go_wp2_with (at_builtin; refine wpList_app _ intsT rfl (.tmp 140) (.tmp 142) rfl (ho7.alloc _) rfl rfl (news := [.int .i64 j']) rfl (Rds.one w7 (.int .i64 j') 3) (by simp [Value.oneCell']) ?_ ?_ ?_; (focus omega); (focus omega); intro A8 c8 w8 o8 n8 g8 _)
                have hb8 := (hb7.al (.cells #[.int .i64 j'] 3)).gr g8 ho7.row
                go_roundw
                case rel => exact ⟨j' + 1, m3 + 1, c8, A8, pre ++ [j'], by omega, by go_num, rfl, n8, by omega, by simpa using o8, fun i hi => by
                  rcases List.mem_append.1 hi with h | h
                  · exact hpre i h
                  · simp at h; omega, by show _ = _; rw [hr.out, hd.out, HL.out]; simp, hb8⟩
                case measure => simp [intOf]; omega
              | some kq =>
                have e1 := (hka.lookI0 hs1 hkp).1
                have e2 := hgh.lookB hs1 hhd
                by_cases hkj : kq = j'
                · subst hkj
                  have HL := Lib.hid (leftFrom_no (rest := l.drop (kq + 1)) (show isLeft l heads kq r = false from by unfold isLeft; rw [ha, hhd, hkp]; simp))
                  clear hhd hkp ha hx
                  go_wp2
                  go_quiet (fail)
                  go_wp2
                  go_roundw
                  case rel => exact ⟨kq + 1, m3, c3, A3, pre, by omega, by go_num, rfl, hc3, by omega, hoa, hpre, by show _ = _; rw [hr.out, hd.out, HL.out], hba.drn _⟩
                  case measure => simp [intOf]; omega
                · have hkj' : ¬ (kq : Int) = j' := by omega
                  have HL := Lib.hid (leftFrom_yes (rest := l.drop (j' + 1)) (show isLeft l heads j' r = true from by unfold isLeft; rw [ha, hhd, hkp]; simp [hkj]))
                  clear hhd hkp ha hx hkj
                  go_wp2
                  go_quiet (fail)
                  have ho7 : Own ((wr.alloc (.cells #[.string r.frm, .string r.to, .bool false] 136)).drewN nq) w6.heap.size 3 1 (.slice A3 m3 c3) m3 (pre.map fun i : Nat => Value.int .i64 i) := hoa
                  have hb7 : Below w6.heap.size w6 ((wr.alloc (.cells #[.string r.frm, .string r.to, .bool false] 136)).drewN nq) := hba.drn _
                  generalize ((wr.alloc (.cells #[.string r.frm, .string r.to, .bool false] 136)).drewN nq) = w7 at ho7 hb7 ⊢
                  go_wp2_with (at_builtin; refine wpList_app _ intsT rfl (.tmp 140) (.tmp 142) rfl (ho7.alloc _) rfl rfl (news := [.int .i64 j']) rfl (Rds.one w7 (.int .i64 j') 3) (by simp [Value.oneCell']) ?_ ?_ ?_; (focus omega); (focus omega); intro A8 c8 w8 o8 n8 g8 _)
                  have hb8 := (hb7.al (.cells #[.int .i64 j'] 3)).gr g8 ho7.row
                  go_roundw
                  case rel => exact ⟨j' + 1, m3 + 1, c8, A8, pre ++ [j'], by omega, by go_num, rfl, n8, by omega, by simpa using o8, fun i hi => by
                    rcases List.mem_append.1 hi with h | h
                    · exact hpre i h
                    · simp at h; omega, by show _ = _; rw [hr.out, hd.out, HL.out]; simp, hb8⟩
                  case measure => simp [intOf]; omega
            · have e1 := (hka.lookI0 hs1 rfl).1
              have e2 := hgh.lookB hs1 hhd
              have HL := Lib.hid (leftFrom_yes (rest := l.drop (j' + 1)) (show isLeft l heads j' r = true from by unfold isLeft; rw [ha, hhd]; rfl))
              generalize kept l heads r.frm = vk at e1
              clear hhd ha hx
              go_wp2
              go_quiet (fail)
              have ho7 : Own ((wr.alloc (.cells #[.string r.frm, .string r.to, .bool false] 136)).drewN nq) w6.heap.size 3 1 (.slice A3 m3 c3) m3 (pre.map fun i : Nat => Value.int .i64 i) := hoa
              have hb7 : Below w6.heap.size w6 ((wr.alloc (.cells #[.string r.frm, .string r.to, .bool false] 136)).drewN nq) := hba.drn _
              generalize ((wr.alloc (.cells #[.string r.frm, .string r.to, .bool false] 136)).drewN nq) = w7 at ho7 hb7 ⊢
              go_wp2_with (at_builtin; refine wpList_app _ intsT rfl (.tmp 140) (.tmp 142) rfl (ho7.alloc _) rfl rfl (news := [.int .i64 j']) rfl (Rds.one w7 (.int .i64 j') 3) (by simp [Value.oneCell']) ?_ ?_ ?_; (focus omega); (focus omega); intro A8 c8 w8 o8 n8 g8 _)
              have hb8 := (hb7.al (.cells #[.int .i64 j'] 3)).gr g8 ho7.row
              go_roundw
              case rel => exact ⟨j' + 1, m3 + 1, c8, A8, pre ++ [j'], by omega, by go_num, rfl, n8, by omega, by simpa using o8, fun i hi => by
                rcases List.mem_append.1 hi with h | h
                · exact hpre i h
                · simp at h; omega, by show _ = _; rw [hr.out, hd.out, HL.out]; simp, hb8⟩
              case measure => simp [intOf]; omega
          · rw [ha] at hoa hba hka hga hd3
            have e1 := (hka.lookI0 hs1 rfl).1
            generalize kept l heads r.frm = vk at e1
            have hwr := wrong_range l heads j' r
            have hlf : ∀ v, wrong l heads j' r = v → isLeft l heads j' r = (v != 0) := fun v hv => by unfold isLeft; rw [ha, hv]; simp [eOK]
            generalize hwv : wrong l heads j' r = v at hwc hwr
            have hlf2 := hlf v hwv
            clear hwv hlf ha
            go_wp2
            have q2 : (wr.alloc (.cells #[.string r.frm, .string r.to, .bool true] 136)).cell? ⟨wr.heap.size, 2, none⟩ = some (.bool true) := by simp
            have hsw : wr.heap.size < (wr.alloc (.cells #[.string r.frm, .string r.to, .bool true] 136)).heap.size := by simp
            generalize (wr.alloc (.cells #[.string r.frm, .string r.to, .bool true] 136)) = w5 at hoa hba hga q2 hsw ⊢
            have hS : w5.drew.cell? ⟨wr.heap.size, 2, none⟩ = some (.bool true) := q2
            have hwd := hwc w5.drew (by omega) hga hx
            have hb5 : Below w6.heap.size w6 w5.drew := hba.drn 1
            have ho5 := hoa.drew
            replace hsw : wr.heap.size < w5.drew.heap.size := hsw
            clear hwc hga hka e1 hba hoa q2 hx
            by_cases hv : v = 0
            · subst hv
              have HL := Lib.hid (leftFrom_no (rest := l.drop (j' + 1)) hlf2)
              clear hlf2
              refine wp_region_mix [(true, 0), (true, 1), (true, 2), (true, 3), (true, 4), (false, 5), (true, 6), (true, 7), (true, 8), (true, 9), (true, 10), (true, 11), (true, 12), (true, 13), (true, 14), (true, 15), (true, 16), (true, 17), (true, 18), (true, 19), (true, 20), (true, 21), (true, 22), (true, 23), (true, 24), (true, 25), (true, 26), (true, 27), (true, 28), (true, 29), (true, 30)] 31 (fun wz => wz.cell? ⟨wr.heap.size, 2, none⟩ = some (.bool true)) (by kernel_rfl) (by kernel_rfl) ?_
              refine wpMix_put (v := ?_) rfl rfl (Or.inl ⟨by rfl, fun wz hz => ?_⟩) hS ?_
              rotate_left
              (focus (go_simp; try (with_reducible rfl)))
              simp only [List.setIfInBounds_toArray, List.set_cons_succ, List.set_cons_zero]
              refine wpMix_put (v := ?_) rfl rfl (Or.inl ⟨by rfl, fun wz hz => ?_⟩) hS ?_
              rotate_left
              (focus (go_simp; try (with_reducible rfl)))
              simp only [List.setIfInBounds_toArray, List.set_cons_succ, List.set_cons_zero]
              refine wpMix_put (v := ?_) rfl rfl (Or.inl ⟨by rfl, fun wz hz => ?_⟩) hS ?_
              rotate_left
              (focus (go_simp; try (with_reducible rfl)))
              simp only [List.setIfInBounds_toArray, List.set_cons_succ, List.set_cons_zero]
              refine wpMix_put (v := ?_) rfl rfl (Or.inl ⟨by rfl, fun wz hz => ?_⟩) hS ?_
              rotate_left
              (focus (go_simp; try (with_reducible rfl)))
              simp only [List.setIfInBounds_toArray, List.set_cons_succ, List.set_cons_zero]
              refine wpMix_put (v := ?_) rfl rfl (Or.inl ⟨by rfl, fun wz hz => ?_⟩) hS ?_
              rotate_left
              (focus (go_simp; try (with_reducible rfl)))
              simp only [List.setIfInBounds_toArray, List.set_cons_succ, List.set_cons_zero]
              refine wpMix_step rfl (fun K hK => ?_)
              go_simp
              refine hwd.mono ?_
              rintro e w7 ⟨rfl, hbc⟩
              go_simp
              have hS7 : w7.cell? ⟨wr.heap.size, 2, none⟩ = some (.bool true) := (hbc.cell (p := ⟨wr.heap.size, 2, none⟩) hsw).trans hS
              refine hK _ _ (fun _ => hS7) ?_
              clear hK K hS
              have hS := hS7
              clear hS7 hwd
              have hb7 := hb5.tr hbc
              have ho7 := ho5.below hbc
              clear hb5 ho5 hbc hsw
              refine wpMix_put (v := ?_) rfl rfl (Or.inl ⟨by rfl, fun wz hz => ?_⟩) hS ?_
              rotate_left
              (focus (go_simp; try (with_reducible rfl)))
              simp only [List.setIfInBounds_toArray, List.set_cons_succ, List.set_cons_zero]
              refine wpMix_put (v := ?_) rfl rfl (Or.inl ⟨by rfl, fun wz hz => ?_⟩) hS ?_
              rotate_left
              (focus (go_simp; try (with_reducible rfl)))
              simp only [List.setIfInBounds_toArray, List.set_cons_succ, List.set_cons_zero]
              refine wpMix_put (v := ?_) rfl rfl (Or.inl ⟨by rfl, fun wz hz => ?_⟩) hS ?_
              rotate_left
              (focus (go_simp; try (with_reducible rfl)))
              simp only [List.setIfInBounds_toArray, List.set_cons_succ, List.set_cons_zero]
              refine wpMix_put (v := ?_) rfl rfl (Or.inl ⟨by rfl, fun wz hz => ?_⟩) hS ?_
              rotate_left
              (focus (go_simp; try (with_reducible rfl)))
              simp only [List.setIfInBounds_toArray, List.set_cons_succ, List.set_cons_zero]
              refine wpMix_put (v := ?_) rfl rfl (Or.inl ⟨by rfl, fun wz hz => ?_⟩) hS ?_
              rotate_left
              (focus (go_simp; try (with_reducible rfl)))
              simp only [List.setIfInBounds_toArray, List.set_cons_succ, List.set_cons_zero]
              refine wpMix_put (v := ?_) rfl rfl (Or.inl ⟨by rfl, fun wz hz => ?_⟩) hS ?_
              rotate_left
              (focus (go_simp; try (with_reducible rfl)))
              simp only [List.setIfInBounds_toArray, List.set_cons_succ, List.set_cons_zero]
              refine wpMix_put (v := ?_) rfl rfl (Or.inl ⟨by rfl, fun wz hz => ?_⟩) hS ?_
              rotate_left
              (focus (go_simp; try (with_reducible rfl)))
              simp only [List.setIfInBounds_toArray, List.set_cons_succ, List.set_cons_zero]
              refine wpMix_put (v := undef) rfl rfl (Or.inr ⟨by rfl, rfl⟩) hS ?_
              simp only [List.setIfInBounds_toArray, List.set_cons_succ, List.set_cons_zero]
              refine wpMix_put (v := undef) rfl rfl (Or.inr ⟨by rfl, rfl⟩) hS ?_
              simp only [List.setIfInBounds_toArray, List.set_cons_succ, List.set_cons_zero]
              refine wpMix_put (v := undef) rfl rfl (Or.inr ⟨by rfl, rfl⟩) hS ?_
              simp only [List.setIfInBounds_toArray, List.set_cons_succ, List.set_cons_zero]
              refine wpMix_put (v := undef) rfl rfl (Or.inr ⟨by rfl, rfl⟩) hS ?_
              simp only [List.setIfInBounds_toArray, List.set_cons_succ, List.set_cons_zero]
              refine wpMix_put (v := undef) rfl rfl (Or.inr ⟨by rfl, rfl⟩) hS ?_
              simp only [List.setIfInBounds_toArray, List.set_cons_succ, List.set_cons_zero]
              refine wpMix_put (v := undef) rfl rfl (Or.inr ⟨by rfl, rfl⟩) hS ?_
              simp only [List.setIfInBounds_toArray, List.set_cons_succ, List.set_cons_zero]
              refine wpMix_put (v := undef) rfl rfl (Or.inr ⟨by rfl, rfl⟩) hS ?_
              simp only [List.setIfInBounds_toArray, List.set_cons_succ, List.set_cons_zero]
              refine wpMix_put (v := undef) rfl rfl (Or.inr ⟨by rfl, rfl⟩) hS ?_
              simp only [List.setIfInBounds_toArray, List.set_cons_succ, List.set_cons_zero]
              refine wpMix_put (v := undef) rfl rfl (Or.inr ⟨by rfl, rfl⟩) hS ?_
              simp only [List.setIfInBounds_toArray, List.set_cons_succ, List.set_cons_zero]
              refine wpMix_put (v := undef) rfl rfl (Or.inr ⟨by rfl, rfl⟩) hS ?_
              simp only [List.setIfInBounds_toArray, List.set_cons_succ, List.set_cons_zero]
              refine wpMix_put (v := undef) rfl rfl (Or.inr ⟨by rfl, rfl⟩) hS ?_
              simp only [List.setIfInBounds_toArray, List.set_cons_succ, List.set_cons_zero]
              refine wpMix_put (v := undef) rfl rfl (Or.inr ⟨by rfl, rfl⟩) hS ?_
              simp only [List.setIfInBounds_toArray, List.set_cons_succ, List.set_cons_zero]
              refine wpMix_put (v := undef) rfl rfl (Or.inr ⟨by rfl, rfl⟩) hS ?_
              simp only [List.setIfInBounds_toArray, List.set_cons_succ, List.set_cons_zero]
              refine wpMix_put (v := undef) rfl rfl (Or.inr ⟨by rfl, rfl⟩) hS ?_
              simp only [List.setIfInBounds_toArray, List.set_cons_succ, List.set_cons_zero]
              refine wpMix_put (v := undef) rfl rfl (Or.inr ⟨by rfl, rfl⟩) hS ?_
              simp only [List.setIfInBounds_toArray, List.set_cons_succ, List.set_cons_zero]
              refine wpMix_put (v := undef) rfl rfl (Or.inr ⟨by rfl, rfl⟩) hS ?_
              simp only [List.setIfInBounds_toArray, List.set_cons_succ, List.set_cons_zero]
              refine wpMix_put (v := ?_) rfl rfl (Or.inl ⟨by rfl, fun wz hz => ?_⟩) hS ?_
              rotate_left
              (focus (go_simp; try (with_reducible rfl)))
              simp only [List.setIfInBounds_toArray, List.set_cons_succ, List.set_cons_zero]
              refine wpMix_put (v := ?_) rfl rfl (Or.inl ⟨by rfl, fun wz hz => ?_⟩) hS ?_
              rotate_left
              (focus (go_simp; try (with_reducible rfl)))
              simp only [List.setIfInBounds_toArray, List.set_cons_succ, List.set_cons_zero]
              refine wpMix_nil ?_
              clear hS
              go_wp2
              go_roundw
              case rel => exact ⟨j' + 1, m3, c3, A3, pre, by omega, by go_num, rfl, hc3, by omega, ho7, hpre, by show _ = _; rw [hr.out, hd.out, HL.out], hb7⟩
              case measure => simp [intOf]; omega
            · have HL := Lib.hid (leftFrom_yes (rest := l.drop (j' + 1)) (show isLeft l heads j' r = true from by rw [hlf2]; simpa using hv))
              clear hlf2
              have hv1 : (v == 0) = false := by simpa using hv
              have hv2 : (v != 0) = true := by simpa using hv
              have hv3 : decide (v = 0) = false := by simpa using hv
              refine wp_region_mix [(true, 0), (true, 1), (true, 2), (true, 3), (true, 4), (false, 5), (true, 6), (true, 7), (true, 8), (true, 9), (true, 10), (true, 11), (true, 12), (true, 13), (true, 14), (true, 15), (true, 16), (true, 17), (true, 18), (true, 19), (true, 20), (true, 21), (true, 22), (true, 23), (true, 24), (true, 25), (true, 26), (true, 27), (true, 28), (true, 29), (true, 30)] 31 (fun wz => wz.cell? ⟨wr.heap.size, 2, none⟩ = some (.bool true)) (by kernel_rfl) (by kernel_rfl) ?_
              refine wpMix_put (v := ?_) rfl rfl (Or.inl ⟨by rfl, fun wz hz => ?_⟩) hS ?_
              rotate_left
              (focus (go_simp; try (with_reducible rfl)))
              simp only [List.setIfInBounds_toArray, List.set_cons_succ, List.set_cons_zero]
              refine wpMix_put (v := ?_) rfl rfl (Or.inl ⟨by rfl, fun wz hz => ?_⟩) hS ?_
              rotate_left
              (focus (go_simp; try (with_reducible rfl)))
              simp only [List.setIfInBounds_toArray, List.set_cons_succ, List.set_cons_zero]
              refine wpMix_put (v := ?_) rfl rfl (Or.inl ⟨by rfl, fun wz hz => ?_⟩) hS ?_
              rotate_left
              (focus (go_simp; try (with_reducible rfl)))
              simp only [List.setIfInBounds_toArray, List.set_cons_succ, List.set_cons_zero]
              refine wpMix_put (v := ?_) rfl rfl (Or.inl ⟨by rfl, fun wz hz => ?_⟩) hS ?_
              rotate_left
              (focus (go_simp; try (with_reducible rfl)))
              simp only [List.setIfInBounds_toArray, List.set_cons_succ, List.set_cons_zero]
              refine wpMix_put (v := ?_) rfl rfl (Or.inl ⟨by rfl, fun wz hz => ?_⟩) hS ?_
              rotate_left
              (focus (go_simp; try (with_reducible rfl)))
              simp only [List.setIfInBounds_toArray, List.set_cons_succ, List.set_cons_zero]
              refine wpMix_step rfl (fun K hK => ?_)
              go_simp
              refine hwd.mono ?_
              rintro e w7 ⟨rfl, hbc⟩
              go_simp
              have hS7 : w7.cell? ⟨wr.heap.size, 2, none⟩ = some (.bool true) := (hbc.cell (p := ⟨wr.heap.size, 2, none⟩) hsw).trans hS
              refine hK _ _ (fun _ => hS7) ?_
              clear hK K hS
              have hS := hS7
              clear hS7 hwd
              have hb7 := hb5.tr hbc
              have ho7 := ho5.below hbc
              clear hb5 ho5 hbc hsw
              refine wpMix_put (v := ?_) rfl rfl (Or.inl ⟨by rfl, fun wz hz => ?_⟩) hS ?_
              rotate_left
              (focus (go_simp; try (with_reducible rfl)))
              simp only [List.setIfInBounds_toArray, List.set_cons_succ, List.set_cons_zero]
              refine wpMix_put (v := ?_) rfl rfl (Or.inl ⟨by rfl, fun wz hz => ?_⟩) hS ?_
              rotate_left
              (focus (go_simp; try (with_reducible rfl)))
              simp only [List.setIfInBounds_toArray, List.set_cons_succ, List.set_cons_zero]
              refine wpMix_put (v := ?_) rfl rfl (Or.inl ⟨by rfl, fun wz hz => ?_⟩) hS ?_
              rotate_left
              (focus (go_simp; try (with_reducible rfl)))
              simp only [List.setIfInBounds_toArray, List.set_cons_succ, List.set_cons_zero]
              refine wpMix_put (v := undef) rfl rfl (Or.inr ⟨by rfl, rfl⟩) hS ?_
              simp only [List.setIfInBounds_toArray, List.set_cons_succ, List.set_cons_zero]
              refine wpMix_put (v := undef) rfl rfl (Or.inr ⟨by rfl, rfl⟩) hS ?_
              simp only [List.setIfInBounds_toArray, List.set_cons_succ, List.set_cons_zero]
              refine wpMix_put (v := undef) rfl rfl (Or.inr ⟨by rfl, rfl⟩) hS ?_
              simp only [List.setIfInBounds_toArray, List.set_cons_succ, List.set_cons_zero]
              refine wpMix_put (v := undef) rfl rfl (Or.inr ⟨by rfl, rfl⟩) hS ?_
              simp only [List.setIfInBounds_toArray, List.set_cons_succ, List.set_cons_zero]
              refine wpMix_put (v := undef) rfl rfl (Or.inr ⟨by rfl, rfl⟩) hS ?_
              simp only [List.setIfInBounds_toArray, List.set_cons_succ, List.set_cons_zero]
              refine wpMix_put (v := undef) rfl rfl (Or.inr ⟨by rfl, rfl⟩) hS ?_
              simp only [List.setIfInBounds_toArray, List.set_cons_succ, List.set_cons_zero]
              refine wpMix_put (v := undef) rfl rfl (Or.inr ⟨by rfl, rfl⟩) hS ?_
              simp only [List.setIfInBounds_toArray, List.set_cons_succ, List.set_cons_zero]
              refine wpMix_put (v := undef) rfl rfl (Or.inr ⟨by rfl, rfl⟩) hS ?_
              simp only [List.setIfInBounds_toArray, List.set_cons_succ, List.set_cons_zero]
              refine wpMix_put (v := undef) rfl rfl (Or.inr ⟨by rfl, rfl⟩) hS ?_
              simp only [List.setIfInBounds_toArray, List.set_cons_succ, List.set_cons_zero]
              refine wpMix_put (v := undef) rfl rfl (Or.inr ⟨by rfl, rfl⟩) hS ?_
              simp only [List.setIfInBounds_toArray, List.set_cons_succ, List.set_cons_zero]
              refine wpMix_put (v := undef) rfl rfl (Or.inr ⟨by rfl, rfl⟩) hS ?_
              simp only [List.setIfInBounds_toArray, List.set_cons_succ, List.set_cons_zero]
              refine wpMix_put (v := undef) rfl rfl (Or.inr ⟨by rfl, rfl⟩) hS ?_
              simp only [List.setIfInBounds_toArray, List.set_cons_succ, List.set_cons_zero]
              refine wpMix_put (v := undef) rfl rfl (Or.inr ⟨by rfl, rfl⟩) hS ?_
              simp only [List.setIfInBounds_toArray, List.set_cons_succ, List.set_cons_zero]
              refine wpMix_put (v := undef) rfl rfl (Or.inr ⟨by rfl, rfl⟩) hS ?_
              simp only [List.setIfInBounds_toArray, List.set_cons_succ, List.set_cons_zero]
              refine wpMix_put (v := undef) rfl rfl (Or.inr ⟨by rfl, rfl⟩) hS ?_
              simp only [List.setIfInBounds_toArray, List.set_cons_succ, List.set_cons_zero]
              refine wpMix_put (v := undef) rfl rfl (Or.inr ⟨by rfl, rfl⟩) hS ?_
              simp only [List.setIfInBounds_toArray, List.set_cons_succ, List.set_cons_zero]
              refine wpMix_put (v := undef) rfl rfl (Or.inr ⟨by rfl, rfl⟩) hS ?_
              simp only [List.setIfInBounds_toArray, List.set_cons_succ, List.set_cons_zero]
              refine wpMix_put (v := undef) rfl rfl (Or.inr ⟨by rfl, rfl⟩) hS ?_
              simp only [List.setIfInBounds_toArray, List.set_cons_succ, List.set_cons_zero]
              refine wpMix_put (v := undef) rfl rfl (Or.inr ⟨by rfl, rfl⟩) hS ?_
              simp only [List.setIfInBounds_toArray, List.set_cons_succ, List.set_cons_zero]
              refine wpMix_put (v := undef) rfl rfl (Or.inr ⟨by rfl, rfl⟩) hS ?_
              simp only [List.setIfInBounds_toArray, List.set_cons_succ, List.set_cons_zero]
              refine wpMix_put (v := undef) rfl rfl (Or.inr ⟨by rfl, rfl⟩) hS ?_
              simp only [List.setIfInBounds_toArray, List.set_cons_succ, List.set_cons_zero]
              refine wpMix_put (v := ?_) rfl rfl (Or.inl ⟨by rfl, fun wz hz => ?_⟩) hS ?_
              rotate_left
              (focus (go_simp; try (with_reducible rfl)))
              simp only [List.setIfInBounds_toArray, List.set_cons_succ, List.set_cons_zero]
              refine wpMix_nil ?_
              clear hS hv1 hv2 hv3
              go_wp2_with (at_builtin; refine wpList_app _ intsT rfl (.tmp 140) (.tmp 142) rfl (ho7.alloc _) rfl rfl (news := [.int .i64 j']) rfl (Rds.one w7 (.int .i64 j') 3) (by simp [Value.oneCell']) ?_ ?_ ?_; (focus omega); (focus omega); intro A8 c8 w8 o8 n8 g8 _)
              have hb8 := (hb7.al (.cells #[.int .i64 j'] 3)).gr g8 ho7.row
              go_roundw
              case rel => exact ⟨j' + 1, m3 + 1, c8, A8, pre ++ [j'], by omega, by go_num, rfl, n8, by omega, by simpa using o8, fun i hi => by
                rcases List.mem_append.1 hi with h | h
                · exact hpre i h
                · simp at h; omega, by show _ = _; rw [hr.out, hd.out, HL.out]; simp, hb8⟩
              case measure => simp [intOf]; omega
        · have hfin : leftFrom l heads l 0 = pre := by rw [hr.out, drop_len hll hlt3]; simp [leftFrom]
          have HF := Lib.hid hfin
          clear hfin
          go_wp2_with (go_at_call 159; refine (sorted_any _ _ _ _ _ (by omega) (hds.below hbl3)).mono ?_; rintro e w7 ⟨A2, k2, c2, rfl, hck, hkn, hss, _, hb7⟩)
          go_ret2
          refine ⟨A3, m3, c3, A2, k2, c2, rfl, hc3, by omega, hck, by omega, ?_, ?_, hbw.tr (hbl3.tr hb7)⟩
          · rw [HR.out]
            show Ints _ _ _ ((leftFrom l heads l 0).map _)
            rw [HF.out]
            exact (Ints.own ho (l := pre.map fun i : Nat => (i : Int)) (by simp) (fun s hs => by
              obtain ⟨i, hi, rfl⟩ := List.mem_map.1 hs
              have := hpre i hi
              unfold i64ok; omega)).below hb7
          · rw [HR.out]; exact hss
end Go.Proofs.YtdfnfimajhagfaaGreatDoor
