/- Walk: Bent; the arguments of a law as lists. -/
import Derived.Test.YtdeeflbghhajiaaL1
import Derived.OpenShut
namespace Go.Proofs.Ytdeeflbghhajiaa
open Go.RowKit Go.Maps Rf
/-- a slice of numbers that came in, as a list -/
theorem ints_in {w : World} {x : Addr} {len cap : Nat} {zs : List Int} (hl : len ≤ cap) (hz : zs.length = cap) (hc : ∀ i, i < zs.length → w.cell? (x.add i) = some (.int .i64 (zs.getD i 0))) (hw : ∀ n ∈ zs, (Lit.int .i64 n).wf = true) : Ints w (some x) len (zs.take len) := by
  refine ⟨by rw [List.length_take]; omega, fun i hi => ?_, fun hp => ?_⟩
  · have := hw i (List.mem_of_mem_take hi)
    simpa [Lit.wf, IntKind.min, IntKind.max, IntKind.signed, IntKind.bits, i64ok] using this
  · rw [List.length_map, List.length_take] at hp
    obtain ⟨b, off, rfl, hc'⟩ := Go.ints_at hc (by omega)
    refine ⟨b, off, rfl, World.block_lt_of_cell? w ⟨b, off, none⟩ (u := .int .i64 (zs.getD 0 0)) (by have := hc' 0 (by omega); rwa [Nat.add_zero] at this), fun j u hu => ?_⟩
    rw [List.getElem?_map] at hu
    cases hj : (zs.take len)[j]? with
    | none => rw [hj] at hu; cases hu
    | some y =>
      rw [hj] at hu
      injection hu with hu
      subst hu
      obtain ⟨hjl, rfl⟩ := List.getElem?_eq_some_iff.1 hj
      rw [List.length_take] at hjl
      rw [hc' j (by omega), List.getElem_take]
      simp [List.getD_eq_getElem?_getD, List.getElem?_eq_getElem (show j < zs.length by omega)]
theorem Ints.set {w : World} {b off n : Nat} {l : List Int} (h : Ints w (some ⟨b, off, none⟩) n l) {k : Nat} (hk : k < n) {x : Int} (hx : i64ok x) : Ints (w.setCell ⟨b, off + k, none⟩ (.int .i64 x)) (some ⟨b, off, none⟩) n (l.set k x) := by
  refine ⟨by rw [List.length_set]; exact h.1, fun i hi => ?_, fun hp => ?_⟩
  · rcases List.mem_or_eq_of_mem_set hi with h1 | rfl
    · exact h.2.1 i h1
    · exact hx
  · obtain ⟨b', off', hA, hb, hc⟩ := h.2.2 (by rw [List.length_map, h.1]; omega)
    injection hA with hA
    injection hA with h1 h2
    subst h1; subst h2
    refine ⟨b, off, rfl, by simpa using hb, fun j u hu => ?_⟩
    rw [List.getElem?_map, List.getElem?_set] at hu
    by_cases e : k = j
    · subst e
      rw [if_pos rfl, if_pos (by rw [h.1]; exact hk)] at hu
      simp at hu
      subst hu
      exact World.cell?_setCell_same _ _ _ (hc k _ (by rw [List.getElem?_map, List.getElem?_eq_getElem (by rw [h.1]; exact hk)]; rfl))
    · rw [if_neg e] at hu
      rw [World.cell?_setCell_other _ _ _ _ (by simp only [ne_eq, Addr.mk.injEq, true_and, and_true]; omega)]
      exact hc j u (by rw [List.getElem?_map]; exact hu)
theorem Own.free {w : World} {base : Nat} {e : TypeId} {size : Nat} {b off n c : Nat} {xs : List Value} (h : Own w base e size (.slice (some ⟨b, off, none⟩) n c) n xs) (j : Nat) : off = 0 ∧ w.frozen? ⟨b, j, none⟩ = false := by
  rcases h.1.2 with ⟨hv, _⟩ | ⟨g, cap, cur, hv, _, hh, _⟩
  · cases hv
  · injection hv with hv
    injection hv with hv
    injection hv with h1 h2
    subst h1; subst h2
    exact ⟨rfl, by simp [World.frozen?, hh]⟩
def ABent (n m : Nat) (w : World) (e : Ending) (w' : World) : Prop := ∃ A1 n1 c1 l1 A2 n2 c2 l2, e = .returned (.tuple #[.slice A1 n1 c1, .slice A2 n2 c2]) ∧ n1 ≤ c1 ∧ n1 ≤ n + 31 ∧ Ints w' A1 n1 l1 ∧ n2 ≤ c2 ∧ n2 ≤ m + 1 ∧ Strs w' A2 n2 l2 ∧ Below w.heap.size w w'
set_option maxRecDepth 20000 in
set_option maxHeartbeats 4000000 in
theorem bent_any (A B : Option Addr) (n m c d : Nat) (x : List Int) (y : List S) (how by_ : Int) (w : World) (hm : n ≤ 100000) (hmh : m ≤ 100000) (hx : Ints w A n x) (hy : Strs w B m y) (h0 : i64ok how) (h1 : i64ok by_) :
    Calls Try.prog 22 #[.slice A n c, .slice B m d, .int .i64 how, .int .i64 by_] w (ABent n m w) := by
  obtain ⟨h01, h02⟩ := h0
  have h1' := h1
  obtain ⟨h11, h12⟩ := h1
  have L1 := Lib.hid (show (x.map (Value.int .i64)).length = n * 1 from by have := hx.1; simpa using this)
  have L2 := Lib.hid (show (y.map Value.string).length = m * 1 from by have := hy.1; simpa using this)
  have hr := around_range how 7 (by omega)
  obtain ⟨v, hv⟩ : ∃ v, around how 7 = v := ⟨_, rfl⟩
  have HV := Lib.hid hv
  rw [hv] at hr
  clear hv
  have e1 : Own (w.alloc (.cells #[] 3)) w.heap.size 3 1 (.slice (some ⟨w.heap.size, 0, none⟩) 0 0) 0 [] := Own.empty w 3 1 (Nat.le_refl _)
  have r1 := hx.2.2.below (brefl.al (.cells #[] 3))
  go_enter Try.func22, Try.ntmps22
  go_wp2_with (first
    | (at_builtin; refine wpList_app _ intsT rfl (.tmp 12) (.tmp 13) rfl e1 rfl rfl L1.out r1 (ints_one _) ?_ ?_ ?_; (focus omega); (focus omega); intro A1 c1 w2 o2 n2 g2 _)
    | (at_builtin; refine wpList_app _ stringsT rfl (.tmp 15) (.tmp 16) rfl (Own.empty w2 9 1 (base := w2.heap.size) (Nat.le_refl _)) rfl rfl L2.out (hy.2.2.below (((brefl.al _).gr g2 e1.row).tr (brefl.al _))) (strs_one _) ?_ ?_ ?_; (focus omega); (focus omega); intro A4 c4 w4 o4 n4 g4 _)
    )
  have b2 : Below w.heap.size w w2 := (brefl.al _).gr g2 e1.row
  have b24 : Below w2.heap.size w2 w4 := (brefl.al _).gr g4 (Own.empty w2 9 1 (base := w2.heap.size) (Nat.le_refl _)).row
  simp only [Nat.zero_add, List.nil_append] at o2 n2 o4 n4
  have o2' := o2.below b24
  have X := Ints.own o2' rfl hx.2.1
  have Y := Strs.own o4 rfl hy.2.1
  have b4 := b2.tr b24
  have hne : ∀ j, (Value.slice A4 m c4).ownBlock = some j → (Value.slice A1 n c1).ownBlock ≠ some j := fun j hj h => by have h1 := o4.row j hj; have h2 := o2.lt j h; omega
  have hsz := b2.size
  clear b2 b24 g2 g4 r1 e1 o2 L1 L2 hx hy
  refine (around_any _ _ _ h01 h02 (by omega) (by omega)).mono ?_
  rintro e w' ⟨rfl, rfl⟩
  rw [HV.out]
  have hv7 : v = 0 ∨ v = 1 ∨ v = 2 ∨ v = 3 ∨ v = 4 ∨ v = 5 ∨ v = 6 := by omega
  clear HV hr
  rcases hv7 with rfl | rfl | rfl | rfl | rfl | rfl | rfl
  · go_wp2_with (at_builtin; refine wpList_app _ intsT rfl (.tmp 24) (.tmp 26) rfl (o2'.alloc _) rfl rfl (news := [.int .i64 by_]) rfl (Rds.one w4 (.int .i64 by_) 3) (by simp [Value.oneCell']) ?_ ?_ ?_; (focus omega); (focus omega); intro A6 c6 w6 o6 n6 g6 _)
    have b6 := (b4.al (.cells #[.int .i64 by_] 3)).gr g6 o2'.row
    have Y6 : Strs w6 A4 m y := ⟨Y.1, Y.2.1, (Y.2.2.alloc _).grown g6 (fun b off e h => hne b (by subst e; rfl) h.symm)⟩
    have X6 : Ints w6 A6 (n + 1) (x ++ [by_]) := Ints.own o6 (by simp) (fun s hs => by
      rcases List.mem_append.1 hs with h | h
      · exact X.2.1 s h
      · simp at h; rw [h]; exact h1')
    go_ret2
    exact ⟨A6, n + 1, c6, _, A4, m, c4, y, rfl, n6, by omega, X6, n4, by omega, Y6, b6⟩
  · by_cases hn : 0 < n
    · have X6 := X.drop (k := 1) (c := c1) (by omega) n2
      by_cases hc : c1 = 1
      · rw [if_pos hc] at X6
        have hn1 : n = 1 := by omega
        subst hc; subst hn1
        go_wp2
        go_ret2
        exact ⟨A1, 0, 0, _, A4, m, c4, y, rfl, by omega, by omega, X6, n4, by omega, Y, b4⟩
      · rw [if_neg hc] at X6
        have hn' : (1 : Int) ≤ n := by omega
        have hc' : (1 : Int) ≤ c1 := by omega
        go_wp2
        go_ret2
        exact ⟨_, n - 1, c1 - 1, _, A4, m, c4, y, rfl, by omega, by omega, X6, n4, by omega, Y, b4⟩
    · go_wp2
      go_ret2
      exact ⟨A1, n, c1, x, A4, m, c4, y, rfl, n2, by omega, X, n4, by omega, Y, b4⟩
  · by_cases hn : 0 < n
    · have hr2 := around_range by_ n (by omega)
      obtain ⟨k, hk⟩ : ∃ k : Nat, around by_ n = k := ⟨(around by_ n).toNat, by omega⟩
      have hkn : k < n := by omega
      have HK := Lib.hid hk
      clear hk hr2
      obtain ⟨b, off, i, rfl, hi, hiok, hb, hci⟩ := X.at_ hkn
      obtain ⟨rfl, hff⟩ := o2'.free (0 + k)
      have hbw : w.heap.size ≤ b := o2'.row b rfl
      have X6 := X.set hkn h1'
      have Y6 : Strs (w4.setCell ⟨b, 0 + k, none⟩ (.int .i64 by_)) A4 m y := ⟨Y.1, Y.2.1, Y.2.2.grown (grown_set w4 ⟨b, 0 + k, none⟩ _) (fun b' off' e h => hne b' (by subst e; rfl) (by injection h with h; subst h; rfl))⟩
      clear hi
      simp only [Nat.zero_add] at X6 Y6 hff hci
      have hkz : (0 : Int) ≤ k := by omega
      have hkn2 : (k : Int) < n := by omega
      go_wp2_with (go_at_call 28; refine (around_any _ _ _ h11 h12 (by omega) (by omega)).mono ?_; rintro e w' ⟨rfl, rfl⟩; rw [HK.out])
      go_ret2
      exact ⟨_, n, c1, _, A4, m, c4, y, rfl, n2, by omega, X6, n4, by omega, Y6, b4.st hbw _⟩
    · go_wp2
      go_ret2
      exact ⟨A1, n, c1, x, A4, m, c4, y, rfl, n2, by omega, X, n4, by omega, Y, b4⟩
  · go_wp2_with fail
    refine (name_any _ _ h11 h12).mono ?_
    rintro e w5 ⟨s, rfl, hs, b5⟩
    go_wp2_with fail
    refine (put_any _ _ _ _ _ _ (by omega) n4 hs (Y.below b5)).mono ?_
    rintro e w6 ⟨A6, m6, c6, rfl, hc6, hs6, b6⟩
    have h6 := hs6.1
    have hpl := put_len y s
    have hyl := Y.1
    go_wp2
    go_ret2
    exact ⟨A1, n, c1, x, A6, m6, c6, _, rfl, n2, by omega, X.below (b5.tr b6), hc6, by omega, hs6, b4.tr (b5.tr b6)⟩
  · by_cases hn : 0 < m
    · have Y6 := Y.drop (k := 1) (c := c4) (by omega) n4
      by_cases hc : c4 = 1
      · rw [if_pos hc] at Y6
        have hn1 : m = 1 := by omega
        subst hc; subst hn1
        go_wp2
        go_ret2
        exact ⟨A1, n, c1, x, A4, 0, 0, _, rfl, n2, by omega, X, by omega, by omega, Y6, b4⟩
      · rw [if_neg hc] at Y6
        have hn' : (1 : Int) ≤ m := by omega
        have hc' : (1 : Int) ≤ c4 := by omega
        go_wp2
        go_ret2
        exact ⟨A1, n, c1, x, _, m - 1, c4 - 1, _, rfl, n2, by omega, X, by omega, by omega, Y6, b4⟩
    · go_wp2
      go_ret2
      exact ⟨A1, n, c1, x, A4, m, c4, y, rfl, n2, by omega, X, n4, by omega, Y, b4⟩
  · go_wp2_with fail
    refine (name_any _ _ h11 h12).mono ?_
    rintro e w5 ⟨s, rfl, hs, b5⟩
    go_wp2_with (at_builtin; refine wpList_app _ stringsT rfl (.tmp 62) (.tmp 65) rfl ((o4.below b5).alloc _) rfl rfl (news := [.string s]) rfl (Rds.one w5 (.string s) 9) (by simp [Value.oneCell']) ?_ ?_ ?_; (focus omega); (focus omega); intro A6 c6 w6 o6 n6 g6 _)
    have b6 := ((b4.tr b5).al (.cells #[.string s] 9)).gr g6 (fun j hj => by have := o4.row j hj; omega)
    have X6 : Ints w6 A1 n x := ⟨X.1, X.2.1, ((X.2.2.below b5).alloc _).grown g6 (fun b off e h => hne b h.symm (by subst e; rfl))⟩
    have Y6 : Strs w6 A6 (m + 1) (y ++ [s]) := Strs.own o6 (by simp) (fun q hq => by
      rcases List.mem_append.1 hq with h | h
      · exact Y.2.1 q h
      · simp at h; rw [h]; exact hs)
    go_ret2
    exact ⟨A1, n, c1, x, A6, m + 1, c6, _, rfl, n2, by omega, X6, n6, by omega, Y6, b6⟩
  · go_wp2_with (go_at_call 27; refine (some_any _ _ _).mono ?_; rintro e w6 ⟨A6, n6, c6, l6, rfl, hc6, hn6, hi6, b6⟩)
    go_ret2
    exact ⟨A6, n6, c6, l6, A4, m, c4, y, rfl, hc6, by omega, hi6, n4, by omega, Y.below b6, b4.tr b6⟩
end Go.Proofs.Ytdeeflbghhajiaa
