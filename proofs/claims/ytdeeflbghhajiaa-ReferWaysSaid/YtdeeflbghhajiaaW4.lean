/- Walks: Within, Steps, Reach of the reference model. -/
import Derived.Test.YtdeeflbghhajiaaW3
import Derived.Test.YtdeeflbghhajiaaGraph
namespace Go.Proofs.Ytdeeflbghhajiaa
open Go.RowKit Go.Maps Rf
/-- a sorted list of names that an edge leads to, and the first one -/
def Grow (l : List Ref) (frm : S) (x : List S) : Prop := Sorted x ∧ ∀ y ∈ x, y ∈ frm :: l.map Ref.to
theorem Grow.one (l : List Ref) (frm : S) : Grow l frm [frm] := ⟨sorted_single _, by simp⟩
theorem Grow.put {l : List Ref} {frm : S} {x : List S} (h : Grow l frm x) {r : Ref} (hr : r ∈ l) : Grow l frm (Rf.put x r.to) :=
  ⟨sorted_put h.1 _, fun y hy => by
    rcases (mem_put _ _ _).1 hy with e | hy
    · rw [e]; exact List.mem_cons_of_mem _ (List.mem_map.2 ⟨r, hr, rfl⟩)
    · exact h.2 y hy⟩
theorem Grow.len {l : List Ref} {frm : S} {x : List S} (h : Grow l frm x) {n : Nat} (hn : l.length = n) : x.length ≤ n + 1 := by
  have := length_le_of_subset h.1.nodup h.2
  simp only [List.length_cons, List.length_map] at this
  omega
theorem wstep_hit {out nx : List S} {r : Ref} {l : List Ref} (h : Rf.has out r.frm = true) : wstep out (r :: l) nx = wstep out l (Rf.put nx r.to) := by rw [wstep, if_pos h]
theorem wstep_miss {out nx : List S} {r : Ref} {l : List Ref} (h : Rf.has out r.frm = false) : wstep out (r :: l) nx = wstep out l nx := by rw [wstep, if_neg (by simp [h])]
theorem withinN_pred (l : List Ref) {k M : Nat} (h : k < M) (out : List S) : withinN l (M - k) out = withinN l (M - (k + 1)) (wstep out l out) := by
  obtain ⟨d, hd⟩ : ∃ d, M - k = d + 1 := ⟨M - k - 1, by omega⟩
  rw [hd, show M - (k + 1) = d from by omega]; rfl
set_option maxHeartbeats 1000000 in
theorem within_any (A : Option Addr) (n c : Nat) (l : List Ref) (frm : S) (most : Int) (w : World) (hm : n ≤ 100000) (hmo : most ≤ 9223372036854775807) (hl : Refs w A n l) (hf : frm.size ≤ maxLen) :
    Calls Try.prog 34 #[.slice A n c, .string frm, .int .i64 most] w fun e w' =>
      ∃ A' m c', e = .returned (.slice A' m c') ∧ m ≤ c' ∧ m ≤ n + 1 ∧ Strs w' A' m (within l frm most.toNat) ∧ Below w.heap.size w w' := by
  have HN := Lib.hid hl.1
  go_enter Try.func34, Try.ntmps34
  go_wp2
  go_loopw [7, 8] (fun o i wr => ∃ (k m c1 : Nat) (A1 : Option Addr) (out : List S), k ≤ min most.toNat (n + 1) ∧ i = .int .i64 k ∧ o = .slice A1 m c1 ∧ m ≤ c1 ∧ Strs wr A1 m out ∧ Grow l frm out ∧
      Hid (within l frm most.toNat = withinN l (min most.toNat (n + 1) - k) out) ∧ Below w.heap.size w wr) (fun _ i _ => n + 1 - (intOf i).toNat)
  case atStart =>
    refine ⟨0, 1, 1, _, [frm], by omega, rfl, rfl, Nat.le_refl _, ⟨rfl, by simp [hf], ?_⟩, Grow.one _ _, ?_, brefl.al _⟩
    · exact Rds.one w (.string frm) 9
    · show _ = _; unfold within; rw [hl.1]; rfl
  case round =>
    obtain ⟨k, m, c1, A1, out, hk, rfl, rfl, hc1, ho, hgo, hr, hbl⟩ := hrel
    have hm1 := hgo.len hl.1
    have hm2 := ho.1
    have hm3 : m ≤ n + 1 := by omega
    clear hm1 hm2
    by_cases hlt : (k : Int) < most ∧ k ≤ n
    · obtain ⟨hlt1, hlt2⟩ := hlt
      have hkM : k < min most.toNat (n + 1) := by omega
      have hown := Own.empty wr 9 1 (base := w.heap.size) hbl.size
      have L1 := Lib.hid (show (out.map Value.string).length = m * 1 from by have := ho.1; simpa using this)
      have R1 := Lib.hid (ho.2.2.below (brefl.al (.cells #[] 9)))
      go_wp2_with (at_builtin; refine wpList_app _ stringsT rfl (.tmp 24) (.tmp 25) rfl hown rfl rfl L1.out R1.out (strs_one _) ?_ ?_ ?_; (focus omega); (focus omega); intro A2 c2 w2 o2 n2 g2 _)
      simp only [Nat.zero_add, List.nil_append] at o2 n2
      have hb2 := (hbl.al _).gr g2 hown.row
      have ho2 := ho.below ((brefl.al _).gr g2 (row_ge (Nat.le_refl _)))
      have hs2 := Strs.own o2 rfl ho.2.1
      clear L1 R1 hown g2 o2
      obtain ⟨wo, rfl⟩ : ∃ wo : World, wo = w2 := ⟨_, rfl⟩
      go_loopw [9, 10] (fun o i wr => ∃ (k2 m3 c3 : Nat) (A3 : Option Addr) (nx : List S), k2 ≤ n ∧ i = .int .i64 k2 ∧ o = .slice A3 m3 c3 ∧ m3 ≤ c3 ∧ Strs wr A3 m3 nx ∧ Grow l frm nx ∧
        Hid (wstep out l out = wstep out (l.drop k2) nx) ∧ Below wo.heap.size wo wr) (fun _ i _ => n - (intOf i).toNat)
      case atStart => exact ⟨0, m, c2, A2, out, by omega, rfl, rfl, n2, hs2, hgo, rfl, brefl⟩
      case round =>
        obtain ⟨k2, m3, c3, A3, nx, hk2, rfl, rfl, hc3, hs3, hg3, hr3, hbl3⟩ := hrel
        have hbw := hb2.tr hbl3
        by_cases hlt2 : k2 < n
        · obtain ⟨b, off, r, rfl, hx, hsz1, hsz2, hb, hcell1, hcell2, _⟩ := (hl.below hbw).at_ hlt2
          have hd := Lib.hid (drop_get hx)
          have hmem := List.mem_of_getElem? hx
          have hl3 : m3 ≤ 1000000 := by have h1 := hg3.len hl.1; have h2 := hs3.1; omega
          clear hx hb
          have ho3 := ho2.below hbl3
          cases hh : Rf.has out r.frm
          · go_wp2_with (go_at_call 30; refine (has_any _ _ _ _ _ _ (by omega) ho3).mono ?_; rintro e w' ⟨rfl, rfl⟩)
            go_roundw
            case rel => exact ⟨k2 + 1, m3, c3, A3, nx, by omega, by go_num, rfl, hc3, hs3, hg3, by show _ = _; rw [hr3.out, hd.out, wstep_miss hh], hbl3⟩
            case measure => simp [intOf]; omega
          · go_wp2_with (first
              | (go_at_call 30; refine (has_any _ _ _ _ _ _ (by omega) ho3).mono ?_; rintro e w' ⟨rfl, rfl⟩)
              | (go_at_call 48; refine (put_any _ _ _ _ _ _ hl3 hc3 hsz2 hs3).mono ?_; rintro e w4 ⟨A4, m4, c4, rfl, hc4, hs4, hb4⟩))
            go_roundw
            case rel => exact ⟨k2 + 1, m4, c4, A4, _, by omega, by go_num, rfl, hc4, hs4, hg3.put hmem, by show _ = _; rw [hr3.out, hd.out, wstep_hit hh], hbl3.tr hb4⟩
            case measure => simp [intOf]; omega
        · go_wp2
          go_roundw
          case rel =>
            refine ⟨k + 1, m3, c3, A3, nx, by omega, by go_num, rfl, hc3, hs3, hg3, ?_, hbw⟩
            show _ = _
            rw [hr.out, withinN_pred l hkM, hr3.out, drop_len hl.1 hlt2]; rfl
          case measure => simp [intOf]; omega
    · have hkM : k = min most.toNat (n + 1) := by omega
      have hfin : within l frm most.toNat = out := by rw [hr.out, ← hkM, Nat.sub_self]; rfl
      have HF := Lib.hid hfin
      clear hfin hkM
      by_cases h1 : (k : Int) < most
      · have h2 : ¬ k ≤ n := by omega
        go_wp2
        go_ret
        exact ⟨A1, m, c1, rfl, hc1, hm3, by rw [HF.out]; exact ho, hbl⟩
      · go_wp2
        go_ret
        exact ⟨A1, m, c1, rfl, hc1, hm3, by rw [HF.out]; exact ho, hbl⟩
theorem take_filter {p : S → Bool} {l : List S} {k : Nat} {x : S} (h : l[k]? = some x) : (l.take (k + 1)).filter p = (l.take k).filter p ++ (if p x then [x] else []) := by
  obtain ⟨hl, rfl⟩ := List.getElem?_eq_some_iff.1 h
  rw [List.take_succ_eq_append_getElem hl, List.filter_append]
  cases hp : p l[k] <;> simp [hp]
theorem stepsFrom_hit {l : List Ref} {frm to : S} {k n : Nat} (h : Rf.has (within l frm n) to = true) : stepsFrom l frm to (k + 1) n = some n := by rw [stepsFrom, if_pos h]
theorem stepsFrom_miss {l : List Ref} {frm to : S} {k n : Nat} (h : Rf.has (within l frm n) to = false) : stepsFrom l frm to (k + 1) n = stepsFrom l frm to k (n + 1) := by rw [stepsFrom, if_neg (by simp [h])]
set_option maxHeartbeats 1000000 in
theorem steps_any (A B : Option Addr) (n m c d : Nat) (l : List Ref) (heads : List S) (frm to : S) (w : World) (hm : n ≤ 100000) (hmh : m ≤ 1000000) (hl : Refs w A n l) (hh : Strs w B m heads) (hf : frm.size ≤ maxLen) :
    Calls Try.prog 38 #[.slice A n c, .slice B m d, .string frm, .string to] w fun e w' => e = .returned (.int .i64 (idx (steps l heads frm to))) ∧ Below w.heap.size w w' := by
  cases hhas : Rf.has heads to
  · have hfin : idx (steps l heads frm to) = -1 := by unfold steps; rw [hhas]; rfl
    have HF := Lib.hid hfin
    clear hfin
    go_enter Try.func38, Try.ntmps38
    go_wp2_with (go_at_call 30; refine (has_any _ _ _ _ _ _ (by omega) hh).mono ?_; rintro e w' ⟨rfl, rfl⟩)
    go_ret
    exact ⟨ret_i64 HF.out.symm, brefl⟩
  · have hfin : steps l heads frm to = stepsFrom l frm to (n + 1) 0 := by unfold steps; rw [hhas, hl.1]; rfl
    have HF := Lib.hid hfin
    clear hfin
    go_enter Try.func38, Try.ntmps38
    go_wp2_with (go_at_call 30; refine (has_any _ _ _ _ _ _ (by omega) hh).mono ?_; rintro e w' ⟨rfl, rfl⟩)
    go_loopw [9] (fun i wr => ∃ k : Nat, k ≤ n + 1 ∧ i = .int .i64 k ∧ Hid (steps l heads frm to = stepsFrom l frm to (n + 1 - k) k) ∧ Below w.heap.size w wr) (fun i _ => n + 1 - (intOf i).toNat)
    case atStart => exact ⟨0, by omega, rfl, HF.out, brefl⟩
    case round =>
      obtain ⟨k, hk, rfl, hr, hbl⟩ := hrel
      by_cases hlt : k ≤ n
      · have hp : n + 1 - k = (n - k) + 1 := by omega
        have HP := Lib.hid hp
        clear hp
        cases hit : Rf.has (within l frm k) to
        · go_wp2_with (first
            | (go_at_call 34; refine (within_any _ _ _ _ _ _ _ hm (by omega) (hl.below hbl) hf).mono ?_; rintro e w2 ⟨A2, m2, c2, rfl, hc2, hm2, hs2, hb2⟩; rw [Int.toNat_natCast] at hs2)
            | (go_at_call 30; refine (has_any _ _ _ _ _ _ (by omega) hs2).mono ?_; rintro e w' ⟨rfl, rfl⟩))
          go_roundw
          case rel => exact ⟨k + 1, by omega, by go_num, by show _ = _; rw [hr.out, HP.out, stepsFrom_miss hit, show n + 1 - (k + 1) = n - k from by omega], hbl.tr hb2⟩
          case measure => simp [intOf]; omega
        · go_wp2_with (first
            | (go_at_call 34; refine (within_any _ _ _ _ _ _ _ hm (by omega) (hl.below hbl) hf).mono ?_; rintro e w2 ⟨A2, m2, c2, rfl, hc2, hm2, hs2, hb2⟩; rw [Int.toNat_natCast] at hs2)
            | (go_at_call 30; refine (has_any _ _ _ _ _ _ (by omega) hs2).mono ?_; rintro e w' ⟨rfl, rfl⟩))
          go_ret
          exact ⟨ret_i64 (by rw [hr.out, HP.out, stepsFrom_hit hit]; rfl), hbl.tr hb2⟩
      · go_wp2
        go_ret
        exact ⟨ret_i64 (by rw [hr.out, show n + 1 - k = 0 from by omega]; rfl), hbl⟩
theorem one_app {w : World} {base : Nat} {e : TypeId} {A : Option Addr} {n c : Nat} {l : List S} {s : S} {xs : List Value} (o : Own w base e 1 (.slice A n c) n (xs ++ [.string s])) (h : xs = l.map Value.string) : Own w base e 1 (.slice A n c) n ((l ++ [s]).map Value.string) := by
  subst h; simpa using o
set_option maxHeartbeats 1000000 in
theorem reach_ref (A B : Option Addr) (n m c d : Nat) (l : List Ref) (heads : List S) (frm : S) (most : Int) (w : World) (hm : n ≤ 100000) (hmh : m ≤ 1000000) (hmo : most ≤ 9223372036854775807) (hl : Refs w A n l) (hh : Strs w B m heads) (hf : frm.size ≤ maxLen) :
    Calls Try.prog 13 #[.slice A n c, .slice B m d, .string frm, .int .i64 most] w fun e w' =>
      ∃ A' k c', e = .returned (.slice A' k c') ∧ k ≤ c' ∧ k ≤ n + 1 ∧ Strs w' A' k (reach l heads frm most) ∧ Below w.heap.size w w' := by
  by_cases h0 : most < 0
  · have hfin : reach l heads frm most = [] := by unfold reach; rw [if_pos h0]
    have HF := Lib.hid hfin
    clear hfin
    go_enter Try.func13, Try.ntmps13
    go_wp2
    go_ret
    exact ⟨none, 0, 0, rfl, Nat.le_refl _, by omega, by rw [HF.out]; exact Strs.nil _, brefl⟩
  · have hfin : reach l heads frm most = (within l frm most.toNat).filter (Rf.has heads) := by unfold reach; rw [if_neg h0]
    have HF := Lib.hid hfin
    clear hfin
    go_enter Try.func13, Try.ntmps13
    go_wp2_with (go_at_call 34; refine (within_any _ _ _ _ _ _ _ hm hmo hl hf).mono ?_; rintro e w2 ⟨A2, m2, c2, rfl, hc2, hm2, hs2, hb2⟩)
    generalize within l frm most.toNat = all at *
    go_loopw [9, 11] (fun o i wr => ∃ (k m3 c3 : Nat) (A3 : Option Addr), k ≤ m2 ∧ i = .int .i64 k ∧ o = .slice A3 m3 c3 ∧ m3 ≤ c3 ∧ m3 ≤ k ∧ Own wr w2.heap.size 9 1 (.slice A3 m3 c3) m3 (((all.take k).filter (Rf.has heads)).map Value.string) ∧ Below w2.heap.size w2 wr) (fun _ i _ => m2 - (intOf i).toNat)
    case atStart => exact ⟨0, 0, 0, none, by omega, rfl, rfl, by omega, by omega, Own.nil _ _ _ (Nat.le_refl _), brefl⟩
    case round =>
      obtain ⟨k, m3, c3, A3, hk, rfl, rfl, hc3, hmk, ho, hbl⟩ := hrel
      by_cases hlt : k < m2
      · obtain ⟨b, off, x, rfl, hx, hsz, hb, hcell⟩ := (hs2.below hbl).at_ hlt
        have hd := Lib.hid (take_filter (p := Rf.has heads) hx)
        clear hx hb
        have hh1 := hh.below (hb2.tr hbl)
        cases hit : Rf.has heads x
        · go_wp2_with (go_at_call 30; refine (has_any _ _ _ _ _ _ (by omega) hh1).mono ?_; rintro e w' ⟨rfl, rfl⟩)
          go_roundw
          case rel =>
            refine ⟨k + 1, m3, c3, A3, by omega, by go_num, rfl, hc3, by omega, ?_, hbl⟩
            rw [hd.out, hit]; simpa using ho
          case measure => simp [intOf]; omega
        · go_wp2_with (first
            | (go_at_call 30; refine (has_any _ _ _ _ _ _ (by omega) hh1).mono ?_; rintro e w' ⟨rfl, rfl⟩)
            | (at_builtin; refine wpList_app _ stringsT rfl (.tmp 30) (.tmp 35) rfl (ho.alloc _) rfl rfl (news := [.string x]) rfl (Rds.one wr (.string x) 9) (by simp [Value.oneCell']) ?_ ?_ ?_; (focus omega); (focus omega); intro A4 c4 w4 o4 n4 g4 _))
          have hb4 := (hbl.al _).gr g4 ho.row
          go_roundw
          case rel =>
            refine ⟨k + 1, m3 + 1, c4, A4, by omega, by go_num, rfl, n4, by omega, ?_, hb4⟩
            rw [hd.out, hit]; exact one_app o4 rfl
          case measure => simp [intOf]; omega
      · go_wp2
        go_ret
        refine ⟨A3, m3, c3, rfl, hc3, by omega, ?_, hb2.tr hbl⟩
        rw [HF.out]
        refine Strs.own ho (by rw [List.take_of_length_le (by have := hs2.1; omega)]) fun s hs' => hs2.2.1 s (List.mem_filter.1 hs').1
end Go.Proofs.Ytdeeflbghhajiaa
