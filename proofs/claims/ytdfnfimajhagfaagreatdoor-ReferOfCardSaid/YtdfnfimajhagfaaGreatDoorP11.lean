/- Walks of package refer: increasing, slices.ContainsFunc, slices.Contains, as Check calls them. -/
import Derived.Test.YtdfnfimajhagfaaGreatDoorP6
import Derived.Test.YtdfnfimajhagfaaGreatDoorW11
namespace Go.Proofs.YtdfnfimajhagfaaGreatDoor
open Go.RowKit Go.Maps Rf
def badInc : List Int → Bool
  | x :: y :: l => decide (y ≤ x) || badInc (y :: l)
  | _ => false
theorem badInc_cons (x y : Int) (l : List Int) : badInc (x :: y :: l) = (decide (y ≤ x) || badInc (y :: l)) := rfl
theorem badInc_short : ∀ {l : List Int}, l.length ≤ 1 → badInc l = false
  | [], _ => rfl
  | [_], _ => rfl
  | _ :: _ :: _, h => by simp at h
set_option maxRecDepth 20000 in
set_option maxHeartbeats 2000000 in
theorem incInt_any (A : Option Addr) (n c : Nat) (l : List Int) (w : World) (hm : n ≤ 100000) (hl : Ints w A n l) :
    Calls Tryz.prog 163 #[.slice A n c] w fun e w' => e = .returned (.bool (!badInc l)) ∧ Below w.heap.size w w' := by
  go_enter Tryz.func163, Tryz.ntmps163
  go_wp2
  go_loopw [3] (fun jj wz => ∃ q : Nat, q ≤ n ∧ jj = .int .i64 ((q : Int) + 1) ∧ Hid (badInc l = badInc (l.drop q)) ∧ Below w.heap.size w wz) (fun jj _ => n + 1 - (intOf jj).toNat)
  case atStart => exact ⟨0, by omega, rfl, rfl, brefl⟩
  case round =>
    obtain ⟨q, hq, rfl, hr2, hbl⟩ := hrel
    by_cases hlt2 : q + 1 < n
    · obtain ⟨b, off, x, rfl, hx, hxs, hb0, hcx⟩ := hl.at_ (k := q) (by omega)
      obtain ⟨b', off', y, hA', hy, hys, hb0', hcy⟩ := hl.at_ (k := q + 1) hlt2
      injection hA' with hA'
      injection hA' with hA1 hA2
      subst hA1; subst hA2
      have HD := Lib.hid (show badInc (l.drop q) = (decide (y ≤ x) || badInc (l.drop (q + 1))) from by rw [drop_get hx, drop_get hy, badInc_cons])
      have hS : wr.drew.cell? ⟨b, off + q, none⟩ = some (.int .i64 x) ∧ wr.drew.cell? ⟨b, off + (q + 1), none⟩ = some (.int .i64 y) := ⟨(hbl.cell (p := ⟨b, off + q, none⟩) hb0).trans hcx, (hbl.cell (p := ⟨b, off + (q + 1), none⟩) hb0).trans hcy⟩
      have hbd : Below w.heap.size w wr.drew := hbl.drn 1
      have hq1 : (q : Int) + 1 < n := by omega
      have hq2 : (q : Int) < n := by omega
      have hq3 : (0 : Int) ≤ q := by omega
      have hq4 : (0 : Int) ≤ (q : Int) + 1 := by omega
      clear hx hy
      cases hxy : decide (y ≤ x)
      · have HD2 := Lib.hid (show badInc l = badInc (l.drop (q + 1)) from by rw [hr2.out, HD.out, hxy]; rfl)
        go_wp2
        have hwrap := IntWalk.i64_in (q : Int) (by omega)
        refine wp_region_mix [(true, 0), (true, 1), (true, 2), (true, 3), (true, 4), (true, 5), (true, 6), (true, 7), (true, 8), (true, 9)] 10 (fun wz => wz.cell? ⟨b, off + q, none⟩ = some (.int .i64 x) ∧ wz.cell? ⟨b, off + (q + 1), none⟩ = some (.int .i64 y)) (by kernel_rfl) (by kernel_rfl) ?_
        refine wpMix_put (v := ?_) rfl rfl (Or.inl ⟨by rfl, fun wz hz => ?_⟩) hS ?_
        rotate_left
        (focus (go_simp; try (with_reducible rfl)))
        simp only [List.setIfInBounds_toArray, List.set_cons_succ, List.set_cons_zero]
        refine wpMix_put (v := ?_) rfl rfl (Or.inl ⟨by rfl, fun wz hz => ?_⟩) hS ?_
        rotate_left
        (focus (go_simp; try (with_reducible rfl)))
        simp only [List.setIfInBounds_toArray, List.set_cons_succ, List.set_cons_zero]
        refine wpMix_put (v := ?_) rfl rfl (Or.inl ⟨by rfl, fun wz hz => ?_⟩) hS ?_
        rotate_left
        (focus (go_simp; try (with_reducible rfl)))
        simp only [List.setIfInBounds_toArray, List.set_cons_succ, List.set_cons_zero]
        refine wpMix_put (v := ?_) rfl rfl (Or.inl ⟨by rfl, fun wz hz => ?_⟩) hS ?_
        rotate_left
        (focus (go_simp; try (with_reducible rfl)))
        simp only [List.setIfInBounds_toArray, List.set_cons_succ, List.set_cons_zero]
        refine wpMix_put (v := ?_) rfl rfl (Or.inl ⟨by rfl, fun wz hz => ?_⟩) hS ?_
        rotate_left
        (focus (go_simp; try (with_reducible rfl)))
        simp only [List.setIfInBounds_toArray, List.set_cons_succ, List.set_cons_zero]
        refine wpMix_put (v := ?_) rfl rfl (Or.inl ⟨by rfl, fun wz hz => ?_⟩) hS ?_
        rotate_left
        (focus (go_simp; try (with_reducible rfl)))
        simp only [List.setIfInBounds_toArray, List.set_cons_succ, List.set_cons_zero]
        refine wpMix_put (v := ?_) rfl rfl (Or.inl ⟨by rfl, fun wz hz => ?_⟩) hS ?_
        rotate_left
        (focus (go_simp; try (with_reducible rfl)))
        simp only [List.setIfInBounds_toArray, List.set_cons_succ, List.set_cons_zero]
        refine wpMix_put (v := ?_) rfl rfl (Or.inl ⟨by rfl, fun wz hz => ?_⟩) hS ?_
        rotate_left
        (focus (go_simp; try (with_reducible rfl)))
        simp only [List.setIfInBounds_toArray, List.set_cons_succ, List.set_cons_zero]
        refine wpMix_put (v := ?_) rfl rfl (Or.inl ⟨by rfl, fun wz hz => ?_⟩) hS ?_
        rotate_left
        (focus (go_simp; try (with_reducible rfl)))
        simp only [List.setIfInBounds_toArray, List.set_cons_succ, List.set_cons_zero]
        refine wpMix_put (v := ?_) rfl rfl (Or.inl ⟨by rfl, fun wz hz => ?_⟩) hS ?_
        rotate_left
        (focus (go_simp; try (with_reducible rfl)))
        simp only [List.setIfInBounds_toArray, List.set_cons_succ, List.set_cons_zero]
        refine wpMix_nil ?_
        clear hwrap
        go_wp2
        go_roundw
        case rel => exact ⟨q + 1, by omega, by go_num, HD2.out, hbd⟩
        case measure => simp [intOf]; omega
      · have hfin := Lib.hid (show badInc l = true from by rw [hr2.out, HD.out, hxy]; rfl)
        go_wp2
        have hwrap := IntWalk.i64_in (q : Int) (by omega)
        refine wp_region_mix [(true, 0), (true, 1), (true, 2), (true, 3), (true, 4), (true, 5), (true, 6), (true, 7), (true, 8), (true, 9)] 10 (fun wz => wz.cell? ⟨b, off + q, none⟩ = some (.int .i64 x) ∧ wz.cell? ⟨b, off + (q + 1), none⟩ = some (.int .i64 y)) (by kernel_rfl) (by kernel_rfl) ?_
        refine wpMix_put (v := ?_) rfl rfl (Or.inl ⟨by rfl, fun wz hz => ?_⟩) hS ?_
        rotate_left
        (focus (go_simp; try (with_reducible rfl)))
        simp only [List.setIfInBounds_toArray, List.set_cons_succ, List.set_cons_zero]
        refine wpMix_put (v := ?_) rfl rfl (Or.inl ⟨by rfl, fun wz hz => ?_⟩) hS ?_
        rotate_left
        (focus (go_simp; try (with_reducible rfl)))
        simp only [List.setIfInBounds_toArray, List.set_cons_succ, List.set_cons_zero]
        refine wpMix_put (v := ?_) rfl rfl (Or.inl ⟨by rfl, fun wz hz => ?_⟩) hS ?_
        rotate_left
        (focus (go_simp; try (with_reducible rfl)))
        simp only [List.setIfInBounds_toArray, List.set_cons_succ, List.set_cons_zero]
        refine wpMix_put (v := ?_) rfl rfl (Or.inl ⟨by rfl, fun wz hz => ?_⟩) hS ?_
        rotate_left
        (focus (go_simp; try (with_reducible rfl)))
        simp only [List.setIfInBounds_toArray, List.set_cons_succ, List.set_cons_zero]
        refine wpMix_put (v := ?_) rfl rfl (Or.inl ⟨by rfl, fun wz hz => ?_⟩) hS ?_
        rotate_left
        (focus (go_simp; try (with_reducible rfl)))
        simp only [List.setIfInBounds_toArray, List.set_cons_succ, List.set_cons_zero]
        refine wpMix_put (v := ?_) rfl rfl (Or.inl ⟨by rfl, fun wz hz => ?_⟩) hS ?_
        rotate_left
        (focus (go_simp; try (with_reducible rfl)))
        simp only [List.setIfInBounds_toArray, List.set_cons_succ, List.set_cons_zero]
        refine wpMix_put (v := ?_) rfl rfl (Or.inl ⟨by rfl, fun wz hz => ?_⟩) hS ?_
        rotate_left
        (focus (go_simp; try (with_reducible rfl)))
        simp only [List.setIfInBounds_toArray, List.set_cons_succ, List.set_cons_zero]
        refine wpMix_put (v := ?_) rfl rfl (Or.inl ⟨by rfl, fun wz hz => ?_⟩) hS ?_
        rotate_left
        (focus (go_simp; try (with_reducible rfl)))
        simp only [List.setIfInBounds_toArray, List.set_cons_succ, List.set_cons_zero]
        refine wpMix_put (v := ?_) rfl rfl (Or.inl ⟨by rfl, fun wz hz => ?_⟩) hS ?_
        rotate_left
        (focus (go_simp; try (with_reducible rfl)))
        simp only [List.setIfInBounds_toArray, List.set_cons_succ, List.set_cons_zero]
        refine wpMix_put (v := ?_) rfl rfl (Or.inl ⟨by rfl, fun wz hz => ?_⟩) hS ?_
        rotate_left
        (focus (go_simp; try (with_reducible rfl)))
        simp only [List.setIfInBounds_toArray, List.set_cons_succ, List.set_cons_zero]
        refine wpMix_nil ?_
        go_wp2
        go_ret
        exact ⟨ret_bool (by rw [hfin.out]; rfl), hbd⟩
    · have hfin := Lib.hid (show badInc l = false from by rw [hr2.out]; exact badInc_short (by rw [List.length_drop, hl.1]; omega))
      have hq1 : ¬ (q : Int) + 1 < n := by omega
      go_wp2
      go_ret
      exact ⟨ret_bool (by rw [hfin.out]; rfl), hbl⟩
set_option maxRecDepth 20000 in
set_option maxHeartbeats 2000000 in
theorem incStr_any (A : Option Addr) (n c : Nat) (l : List S) (w : World) (hm : n ≤ 100000) (hl : Strs w A n l) :
    Calls Tryz.prog 164 #[.slice A n c] w fun e w' => e = .returned (.bool (!badDead l)) ∧ Below w.heap.size w w' := by
  go_enter Tryz.func164, Tryz.ntmps164
  go_wp2
  go_loopw [3] (fun jj wz => ∃ q : Nat, q ≤ n ∧ jj = .int .i64 ((q : Int) + 1) ∧ Hid (badDead l = badDead (l.drop q)) ∧ Below w.heap.size w wz) (fun jj _ => n + 1 - (intOf jj).toNat)
  case atStart => exact ⟨0, by omega, rfl, rfl, brefl⟩
  case round =>
    obtain ⟨q, hq, rfl, hr2, hbl⟩ := hrel
    by_cases hlt2 : q + 1 < n
    · obtain ⟨b, off, x, rfl, hx, hxs, hb0, hcx⟩ := hl.at_ (k := q) (by omega)
      obtain ⟨b', off', y, hA', hy, hys, hb0', hcy⟩ := hl.at_ (k := q + 1) hlt2
      injection hA' with hA'
      injection hA' with hA1 hA2
      subst hA1; subst hA2
      have HD := Lib.hid (show badDead (l.drop q) = (!ltS x y || badDead (l.drop (q + 1))) from by rw [drop_get hx, drop_get hy, badDead_cons])
      have hS : wr.drew.cell? ⟨b, off + q, none⟩ = some (.string x) ∧ wr.drew.cell? ⟨b, off + (q + 1), none⟩ = some (.string y) := ⟨(hbl.cell (p := ⟨b, off + q, none⟩) hb0).trans hcx, (hbl.cell (p := ⟨b, off + (q + 1), none⟩) hb0).trans hcy⟩
      have hbd : Below w.heap.size w wr.drew := hbl.drn 1
      have hq1 : (q : Int) + 1 < n := by omega
      have hq2 : (q : Int) < n := by omega
      have hq3 : (0 : Int) ≤ q := by omega
      have hq4 : (0 : Int) ≤ (q : Int) + 1 := by omega
      clear hx hy
      rcases cmp3 y x with ⟨f1, f2, f3⟩ | ⟨f1, f2, f3⟩ | ⟨f1, f2, f3⟩
      · skip
        have hfin := Lib.hid (show badDead l = true from by rw [hr2.out, HD.out, f3]; rfl)
        go_wp2
        have hwrap := IntWalk.i64_in (q : Int) (by omega)
        refine wp_region_mix [(true, 0), (true, 1), (true, 2), (true, 3), (true, 4), (true, 5), (true, 6), (true, 7), (true, 8), (true, 9)] 10 (fun wz => wz.cell? ⟨b, off + q, none⟩ = some (.string x) ∧ wz.cell? ⟨b, off + (q + 1), none⟩ = some (.string y)) (by kernel_rfl) (by kernel_rfl) ?_
        refine wpMix_put (v := ?_) rfl rfl (Or.inl ⟨by rfl, fun wz hz => ?_⟩) hS ?_
        rotate_left
        (focus (go_simp; try (with_reducible rfl)))
        simp only [List.setIfInBounds_toArray, List.set_cons_succ, List.set_cons_zero]
        refine wpMix_put (v := ?_) rfl rfl (Or.inl ⟨by rfl, fun wz hz => ?_⟩) hS ?_
        rotate_left
        (focus (go_simp; try (with_reducible rfl)))
        simp only [List.setIfInBounds_toArray, List.set_cons_succ, List.set_cons_zero]
        refine wpMix_put (v := ?_) rfl rfl (Or.inl ⟨by rfl, fun wz hz => ?_⟩) hS ?_
        rotate_left
        (focus (go_simp; try (with_reducible rfl)))
        simp only [List.setIfInBounds_toArray, List.set_cons_succ, List.set_cons_zero]
        refine wpMix_put (v := ?_) rfl rfl (Or.inl ⟨by rfl, fun wz hz => ?_⟩) hS ?_
        rotate_left
        (focus (go_simp; try (with_reducible rfl)))
        simp only [List.setIfInBounds_toArray, List.set_cons_succ, List.set_cons_zero]
        refine wpMix_put (v := ?_) rfl rfl (Or.inl ⟨by rfl, fun wz hz => ?_⟩) hS ?_
        rotate_left
        (focus (go_simp; try (with_reducible rfl)))
        simp only [List.setIfInBounds_toArray, List.set_cons_succ, List.set_cons_zero]
        refine wpMix_put (v := ?_) rfl rfl (Or.inl ⟨by rfl, fun wz hz => ?_⟩) hS ?_
        rotate_left
        (focus (go_simp; try (with_reducible rfl)))
        simp only [List.setIfInBounds_toArray, List.set_cons_succ, List.set_cons_zero]
        refine wpMix_put (v := ?_) rfl rfl (Or.inl ⟨by rfl, fun wz hz => ?_⟩) hS ?_
        rotate_left
        (focus (go_simp; try (with_reducible rfl)))
        simp only [List.setIfInBounds_toArray, List.set_cons_succ, List.set_cons_zero]
        refine wpMix_put (v := ?_) rfl rfl (Or.inl ⟨by rfl, fun wz hz => ?_⟩) hS ?_
        rotate_left
        (focus (go_simp; try (with_reducible rfl)))
        simp only [List.setIfInBounds_toArray, List.set_cons_succ, List.set_cons_zero]
        refine wpMix_put (v := ?_) rfl rfl (Or.inl ⟨by rfl, fun wz hz => ?_⟩) hS ?_
        rotate_left
        (focus (go_simp; try (with_reducible rfl)))
        simp only [List.setIfInBounds_toArray, List.set_cons_succ, List.set_cons_zero]
        refine wpMix_put (v := ?_) rfl rfl (Or.inl ⟨by rfl, fun wz hz => ?_⟩) hS ?_
        rotate_left
        (focus (go_simp; try (with_reducible rfl)))
        simp only [List.setIfInBounds_toArray, List.set_cons_succ, List.set_cons_zero]
        refine wpMix_nil ?_
        go_wp2
        go_ret
        exact ⟨ret_bool (by rw [hfin.out]; rfl), hbd⟩
      · skip
        have hfin := Lib.hid (show badDead l = true from by rw [hr2.out, HD.out, f3]; rfl)
        go_wp2
        have hwrap := IntWalk.i64_in (q : Int) (by omega)
        refine wp_region_mix [(true, 0), (true, 1), (true, 2), (true, 3), (true, 4), (true, 5), (true, 6), (true, 7), (true, 8), (true, 9)] 10 (fun wz => wz.cell? ⟨b, off + q, none⟩ = some (.string x) ∧ wz.cell? ⟨b, off + (q + 1), none⟩ = some (.string y)) (by kernel_rfl) (by kernel_rfl) ?_
        refine wpMix_put (v := ?_) rfl rfl (Or.inl ⟨by rfl, fun wz hz => ?_⟩) hS ?_
        rotate_left
        (focus (go_simp; try (with_reducible rfl)))
        simp only [List.setIfInBounds_toArray, List.set_cons_succ, List.set_cons_zero]
        refine wpMix_put (v := ?_) rfl rfl (Or.inl ⟨by rfl, fun wz hz => ?_⟩) hS ?_
        rotate_left
        (focus (go_simp; try (with_reducible rfl)))
        simp only [List.setIfInBounds_toArray, List.set_cons_succ, List.set_cons_zero]
        refine wpMix_put (v := ?_) rfl rfl (Or.inl ⟨by rfl, fun wz hz => ?_⟩) hS ?_
        rotate_left
        (focus (go_simp; try (with_reducible rfl)))
        simp only [List.setIfInBounds_toArray, List.set_cons_succ, List.set_cons_zero]
        refine wpMix_put (v := ?_) rfl rfl (Or.inl ⟨by rfl, fun wz hz => ?_⟩) hS ?_
        rotate_left
        (focus (go_simp; try (with_reducible rfl)))
        simp only [List.setIfInBounds_toArray, List.set_cons_succ, List.set_cons_zero]
        refine wpMix_put (v := ?_) rfl rfl (Or.inl ⟨by rfl, fun wz hz => ?_⟩) hS ?_
        rotate_left
        (focus (go_simp; try (with_reducible rfl)))
        simp only [List.setIfInBounds_toArray, List.set_cons_succ, List.set_cons_zero]
        refine wpMix_put (v := ?_) rfl rfl (Or.inl ⟨by rfl, fun wz hz => ?_⟩) hS ?_
        rotate_left
        (focus (go_simp; try (with_reducible rfl)))
        simp only [List.setIfInBounds_toArray, List.set_cons_succ, List.set_cons_zero]
        refine wpMix_put (v := ?_) rfl rfl (Or.inl ⟨by rfl, fun wz hz => ?_⟩) hS ?_
        rotate_left
        (focus (go_simp; try (with_reducible rfl)))
        simp only [List.setIfInBounds_toArray, List.set_cons_succ, List.set_cons_zero]
        refine wpMix_put (v := ?_) rfl rfl (Or.inl ⟨by rfl, fun wz hz => ?_⟩) hS ?_
        rotate_left
        (focus (go_simp; try (with_reducible rfl)))
        simp only [List.setIfInBounds_toArray, List.set_cons_succ, List.set_cons_zero]
        refine wpMix_put (v := ?_) rfl rfl (Or.inl ⟨by rfl, fun wz hz => ?_⟩) hS ?_
        rotate_left
        (focus (go_simp; try (with_reducible rfl)))
        simp only [List.setIfInBounds_toArray, List.set_cons_succ, List.set_cons_zero]
        refine wpMix_put (v := ?_) rfl rfl (Or.inl ⟨by rfl, fun wz hz => ?_⟩) hS ?_
        rotate_left
        (focus (go_simp; try (with_reducible rfl)))
        simp only [List.setIfInBounds_toArray, List.set_cons_succ, List.set_cons_zero]
        refine wpMix_nil ?_
        go_wp2
        go_ret
        exact ⟨ret_bool (by rw [hfin.out]; rfl), hbd⟩
      · have HD2 := Lib.hid (show badDead l = badDead (l.drop (q + 1)) from by rw [hr2.out, HD.out, f3]; rfl)
        go_wp2
        have hwrap := IntWalk.i64_in (q : Int) (by omega)
        refine wp_region_mix [(true, 0), (true, 1), (true, 2), (true, 3), (true, 4), (true, 5), (true, 6), (true, 7), (true, 8), (true, 9)] 10 (fun wz => wz.cell? ⟨b, off + q, none⟩ = some (.string x) ∧ wz.cell? ⟨b, off + (q + 1), none⟩ = some (.string y)) (by kernel_rfl) (by kernel_rfl) ?_
        refine wpMix_put (v := ?_) rfl rfl (Or.inl ⟨by rfl, fun wz hz => ?_⟩) hS ?_
        rotate_left
        (focus (go_simp; try (with_reducible rfl)))
        simp only [List.setIfInBounds_toArray, List.set_cons_succ, List.set_cons_zero]
        refine wpMix_put (v := ?_) rfl rfl (Or.inl ⟨by rfl, fun wz hz => ?_⟩) hS ?_
        rotate_left
        (focus (go_simp; try (with_reducible rfl)))
        simp only [List.setIfInBounds_toArray, List.set_cons_succ, List.set_cons_zero]
        refine wpMix_put (v := ?_) rfl rfl (Or.inl ⟨by rfl, fun wz hz => ?_⟩) hS ?_
        rotate_left
        (focus (go_simp; try (with_reducible rfl)))
        simp only [List.setIfInBounds_toArray, List.set_cons_succ, List.set_cons_zero]
        refine wpMix_put (v := ?_) rfl rfl (Or.inl ⟨by rfl, fun wz hz => ?_⟩) hS ?_
        rotate_left
        (focus (go_simp; try (with_reducible rfl)))
        simp only [List.setIfInBounds_toArray, List.set_cons_succ, List.set_cons_zero]
        refine wpMix_put (v := ?_) rfl rfl (Or.inl ⟨by rfl, fun wz hz => ?_⟩) hS ?_
        rotate_left
        (focus (go_simp; try (with_reducible rfl)))
        simp only [List.setIfInBounds_toArray, List.set_cons_succ, List.set_cons_zero]
        refine wpMix_put (v := ?_) rfl rfl (Or.inl ⟨by rfl, fun wz hz => ?_⟩) hS ?_
        rotate_left
        (focus (go_simp; try (with_reducible rfl)))
        simp only [List.setIfInBounds_toArray, List.set_cons_succ, List.set_cons_zero]
        refine wpMix_put (v := ?_) rfl rfl (Or.inl ⟨by rfl, fun wz hz => ?_⟩) hS ?_
        rotate_left
        (focus (go_simp; try (with_reducible rfl)))
        simp only [List.setIfInBounds_toArray, List.set_cons_succ, List.set_cons_zero]
        refine wpMix_put (v := ?_) rfl rfl (Or.inl ⟨by rfl, fun wz hz => ?_⟩) hS ?_
        rotate_left
        (focus (go_simp; try (with_reducible rfl)))
        simp only [List.setIfInBounds_toArray, List.set_cons_succ, List.set_cons_zero]
        refine wpMix_put (v := ?_) rfl rfl (Or.inl ⟨by rfl, fun wz hz => ?_⟩) hS ?_
        rotate_left
        (focus (go_simp; try (with_reducible rfl)))
        simp only [List.setIfInBounds_toArray, List.set_cons_succ, List.set_cons_zero]
        refine wpMix_put (v := ?_) rfl rfl (Or.inl ⟨by rfl, fun wz hz => ?_⟩) hS ?_
        rotate_left
        (focus (go_simp; try (with_reducible rfl)))
        simp only [List.setIfInBounds_toArray, List.set_cons_succ, List.set_cons_zero]
        refine wpMix_nil ?_
        clear hwrap
        go_wp2
        go_roundw
        case rel => exact ⟨q + 1, by omega, by go_num, HD2.out, hbd⟩
        case measure => simp [intOf]; omega
    · have hfin := Lib.hid (show badDead l = false from by rw [hr2.out]; exact badDead_short (by rw [List.length_drop, hl.1]; omega))
      have hq1 : ¬ (q : Int) + 1 < n := by omega
      go_wp2
      go_ret
      exact ⟨ret_bool (by rw [hfin.out]; rfl), hbl⟩
/-! ### the first element for which a test holds -/
def idxP {α : Type} (p : α → Bool) : List α → Nat → Int
  | [], _ => -1
  | x :: l, i => if p x then i else idxP p l (i + 1)
theorem idxP_pos {α : Type} (p : α → Bool) : ∀ (l : List α) (i : Nat), decide (0 ≤ idxP p l i) = l.any p
  | [], i => rfl
  | x :: l, i => by
    unfold idxP
    cases h : p x
    · rw [if_neg (by simp), idxP_pos p l (i + 1)]; simp [h]
    · rw [if_pos rfl]; simp [h]
theorem idxP_ge {α : Type} (p : α → Bool) : ∀ (l : List α) (i : Nat), -1 ≤ idxP p l i ∧ idxP p l i ≤ i + l.length
  | [], i => by simp [idxP]
  | x :: l, i => by
    unfold idxP
    split
    · simp; omega
    · have := idxP_ge p l (i + 1); simp only [List.length_cons]; omega
theorem idxP_hit {α : Type} {p : α → Bool} {x : α} {l : List α} {i : Nat} (h : p x = true) : idxP p (x :: l) i = i := by rw [idxP, if_pos h]
theorem idxP_miss {α : Type} {p : α → Bool} {x : α} {l : List α} {i : Nat} (h : p x = false) : idxP p (x :: l) i = idxP p l (i + 1) := by rw [idxP, if_neg (by simp [h])]
/-- outside: no index of a list of n elements -/
def outs (n : Nat) (k : Int) : Bool := decide (k < 0) || decide ((n : Int) ≤ k)
set_option maxRecDepth 20000 in
set_option maxHeartbeats 1000000 in
theorem outside_any (bx : Nat) (A : Option Addr) (n c : Nat) (k : Int) (w : World) (_hn : n ≤ 100000) (hc : w.cell? ⟨bx, 0, none⟩ = some (.slice A n c)) :
    Calls Tryz.prog 161 #[.int .i64 k, .pointer (some ⟨bx, 0, none⟩)] w fun e w' => e = .returned (.bool (outs n k)) ∧ w = w' := by
  by_cases h0 : k < 0
  · go_enter Tryz.func161, Tryz.ntmps161
    go_wp2
    go_ret
    exact ⟨ret_bool (by unfold outs; simp [h0]), rfl⟩
  · have h0b : decide (k < 0) = false := by simpa using h0
    go_enter Tryz.func161, Tryz.ntmps161
    go_wp2
    go_ret
    exact ⟨ret_bool (by unfold outs; rw [h0b]; rfl), rfl⟩
set_option maxRecDepth 20000 in
set_option maxHeartbeats 1000000 in
theorem indexOutside_any (bx : Nat) (A B : Option Addr) (n c m d : Nat) (l : List Int) (w : World) (hn : n ≤ 100000) (hm : m ≤ 100000) (hc : w.cell? ⟨bx, 0, none⟩ = some (.slice A n c)) (hl : Ints w B m l) :
    Calls Tryz.prog 193 #[.slice B m d, .func (.func 161) #[] #[.pointer (some ⟨bx, 0, none⟩)]] w fun e w' => e = .returned (.int .i64 (idxP (outs n) l 0)) ∧ w = w' := by
  go_enter Tryz.func193, Tryz.ntmps193
  go_wp2
  go_loop [8] (fun i => ∃ k : Nat, k ≤ m ∧ i = .int .i64 k ∧ Hid (idxP (outs n) l 0 = idxP (outs n) (l.drop k) k)) (fun i => m - (intOf i).toNat)
  case atStart => exact ⟨0, by omega, rfl, rfl⟩
  case round =>
    obtain ⟨k, hk, rfl, hr⟩ := hrel
    by_cases hlt : k < m
    · obtain ⟨b, off, x, rfl, hx, hxok, hb0, hcx⟩ := hl.at_ hlt
      have hd := Lib.hid (drop_get hx)
      clear hx hb0
      cases ho : outs n x
      · go_wp2_with (go_at_call 161; refine (outside_any _ _ _ _ _ _ hn hc).mono ?_; rintro e w' ⟨rfl, rfl⟩; rw [ho])
        go_round
        case rel => exact ⟨k + 1, by omega, by go_num, by show _ = _; rw [hr.out, hd.out, idxP_miss ho]⟩
        case measure => simp [intOf]; omega
      · go_wp2_with (go_at_call 161; refine (outside_any _ _ _ _ _ _ hn hc).mono ?_; rintro e w' ⟨rfl, rfl⟩; rw [ho])
        go_ret
        exact ⟨ret_i64 (by rw [hr.out, hd.out, idxP_hit ho]), rfl⟩
    · have hd := Lib.hid (drop_len hl.1 hlt)
      go_wp2
      go_ret
      exact ⟨ret_i64 (by rw [hr.out, hd.out]; rfl), rfl⟩
set_option maxRecDepth 20000 in
set_option maxHeartbeats 1000000 in
theorem containsOutside_any (bx : Nat) (A B : Option Addr) (n c m d : Nat) (l : List Int) (w : World) (hn : n ≤ 100000) (hm : m ≤ 100000) (hc : w.cell? ⟨bx, 0, none⟩ = some (.slice A n c)) (hl : Ints w B m l) :
    Calls Tryz.prog 162 #[.slice B m d, .func (.func 161) #[] #[.pointer (some ⟨bx, 0, none⟩)]] w fun e w' => e = .returned (.bool (l.any (outs n))) ∧ w = w' := by
  have hp := Lib.hid (idxP_pos (outs n) l 0)
  have hb := idxP_ge (outs n) l 0
  have hll := hl.1
  obtain ⟨i, hi⟩ : ∃ i, idxP (outs n) l 0 = i := ⟨_, rfl⟩
  rw [hi] at hb
  have HI := Lib.hid hi
  clear hi
  go_enter Tryz.func162, Tryz.ntmps162
  go_wp2_with (go_at_call 193; refine (indexOutside_any _ _ _ _ _ _ _ _ _ hn hm hc hl).mono ?_; rintro e w' ⟨rfl, rfl⟩; rw [HI.out])
  go_ret
  exact ⟨ret_bool (by rw [← hp.out, HI.out]), rfl⟩
set_option maxRecDepth 20000 in
set_option maxHeartbeats 1000000 in
theorem inHead_any (bx g : Nat) (A : Option Addr) (n c hb sb : Nat) (l : List Ref) (heads : List S) (s : S) (w : World) (hs : s.size ≤ maxLen) (hg : Gr w g A n c hb sb l heads) (hc : w.cell? ⟨bx, 0, none⟩ = some (.pointer (some ⟨g, 0, none⟩))) :
    Calls Tryz.prog 167 #[.string s, .pointer (some ⟨bx, 0, none⟩)] w fun e w' => e = .returned (.bool (Rf.has heads s)) ∧ w = w' := by
  obtain ⟨hg0, hnc, hl, hfh, hfs, c0, c1, c2⟩ := hg
  have e1 := hfh.lookB0 hs rfl
  generalize Rf.has heads s = v at e1 ⊢
  go_enter Tryz.func167, Tryz.ntmps167
  go_wp2
  go_ret
  exact ⟨rfl, rfl⟩
set_option maxRecDepth 20000 in
set_option maxHeartbeats 1000000 in
theorem indexHead_any (bx g : Nat) (A B : Option Addr) (n c hb sb m d : Nat) (l : List Ref) (heads dead : List S) (w : World) (hm : m ≤ 100000) (hg : Gr w g A n c hb sb l heads) (hc : w.cell? ⟨bx, 0, none⟩ = some (.pointer (some ⟨g, 0, none⟩))) (hl : Strs w B m dead) :
    Calls Tryz.prog 195 #[.slice B m d, .func (.func 167) #[] #[.pointer (some ⟨bx, 0, none⟩)]] w fun e w' => e = .returned (.int .i64 (idxP (Rf.has heads) dead 0)) ∧ w = w' := by
  go_enter Tryz.func195, Tryz.ntmps195
  go_wp2
  go_loop [8] (fun i => ∃ k : Nat, k ≤ m ∧ i = .int .i64 k ∧ Hid (idxP (Rf.has heads) dead 0 = idxP (Rf.has heads) (dead.drop k) k)) (fun i => m - (intOf i).toNat)
  case atStart => exact ⟨0, by omega, rfl, rfl⟩
  case round =>
    obtain ⟨k, hk, rfl, hr⟩ := hrel
    by_cases hlt : k < m
    · obtain ⟨b, off, x, rfl, hx, hxs, hb0, hcx⟩ := hl.at_ hlt
      have hd := Lib.hid (drop_get hx)
      clear hx hb0
      cases ho : Rf.has heads x
      · go_wp2_with (go_at_call 167; refine (inHead_any _ _ _ _ _ _ _ _ _ _ _ hxs hg hc).mono ?_; rintro e w' ⟨rfl, rfl⟩; rw [ho])
        go_round
        case rel => exact ⟨k + 1, by omega, by go_num, by show _ = _; rw [hr.out, hd.out, idxP_miss ho]⟩
        case measure => simp [intOf]; omega
      · go_wp2_with (go_at_call 167; refine (inHead_any _ _ _ _ _ _ _ _ _ _ _ hxs hg hc).mono ?_; rintro e w' ⟨rfl, rfl⟩; rw [ho])
        go_ret
        exact ⟨ret_i64 (by rw [hr.out, hd.out, idxP_hit ho]), rfl⟩
    · have hd := Lib.hid (drop_len hl.1 hlt)
      go_wp2
      go_ret
      exact ⟨ret_i64 (by rw [hr.out, hd.out]; rfl), rfl⟩
set_option maxRecDepth 20000 in
set_option maxHeartbeats 1000000 in
theorem containsHead_any (bx g : Nat) (A B : Option Addr) (n c hb sb m d : Nat) (l : List Ref) (heads dead : List S) (w : World) (hm : m ≤ 100000) (hg : Gr w g A n c hb sb l heads) (hc : w.cell? ⟨bx, 0, none⟩ = some (.pointer (some ⟨g, 0, none⟩))) (hl : Strs w B m dead) :
    Calls Tryz.prog 166 #[.slice B m d, .func (.func 167) #[] #[.pointer (some ⟨bx, 0, none⟩)]] w fun e w' => e = .returned (.bool (dead.any (Rf.has heads))) ∧ w = w' := by
  have hp := Lib.hid (idxP_pos (Rf.has heads) dead 0)
  have hbb := idxP_ge (Rf.has heads) dead 0
  have hll := hl.1
  obtain ⟨i, hi⟩ : ∃ i, idxP (Rf.has heads) dead 0 = i := ⟨_, rfl⟩
  rw [hi] at hbb
  have HI := Lib.hid hi
  clear hi
  go_enter Tryz.func166, Tryz.ntmps166
  go_wp2_with (go_at_call 195; refine (indexHead_any _ _ _ _ _ _ _ _ _ _ _ _ _ _ hm hg hc hl).mono ?_; rintro e w' ⟨rfl, rfl⟩; rw [HI.out])
  go_ret
  exact ⟨ret_bool (by rw [← hp.out, HI.out]), rfl⟩
set_option maxRecDepth 20000 in
set_option maxHeartbeats 1000000 in
theorem indexInt_any (B : Option Addr) (m d : Nat) (l : List Int) (x : Int) (w : World) (hm : m ≤ 100000) (hl : Ints w B m l) :
    Calls Tryz.prog 194 #[.slice B m d, .int .i64 x] w fun e w' => e = .returned (.int .i64 (idxP (fun y => x == y) l 0)) ∧ w = w' := by
  go_enter Tryz.func194, Tryz.ntmps194
  go_wp2
  go_loop [8] (fun i => ∃ k : Nat, k ≤ m ∧ i = .int .i64 k ∧ Hid (idxP (fun y => x == y) l 0 = idxP (fun y => x == y) (l.drop k) k)) (fun i => m - (intOf i).toNat)
  case atStart => exact ⟨0, by omega, rfl, rfl⟩
  case round =>
    obtain ⟨k, hk, rfl, hr⟩ := hrel
    by_cases hlt : k < m
    · obtain ⟨b, off, y, rfl, hx, hxok, hb0, hcx⟩ := hl.at_ hlt
      have hd := Lib.hid (drop_get hx)
      clear hx hb0
      cases ho : (x == y)
      · go_wp2
        go_round
        case rel => exact ⟨k + 1, by omega, by go_num, by show _ = _; rw [hr.out, hd.out, idxP_miss ho]⟩
        case measure => simp [intOf]; omega
      · go_wp2
        go_ret
        exact ⟨ret_i64 (by rw [hr.out, hd.out, idxP_hit ho]), rfl⟩
    · have hd := Lib.hid (drop_len hl.1 hlt)
      go_wp2
      go_ret
      exact ⟨ret_i64 (by rw [hr.out, hd.out]; rfl), rfl⟩
set_option maxRecDepth 20000 in
set_option maxHeartbeats 1000000 in
theorem containsInt_any (B : Option Addr) (m d : Nat) (l : List Int) (x : Int) (w : World) (hm : m ≤ 100000) (hl : Ints w B m l) :
    Calls Tryz.prog 165 #[.slice B m d, .int .i64 x] w fun e w' => e = .returned (.bool (l.any fun y => x == y)) ∧ w = w' := by
  have hp := Lib.hid (idxP_pos (fun y => x == y) l 0)
  have hbb := idxP_ge (fun y => x == y) l 0
  have hll := hl.1
  obtain ⟨i, hi⟩ : ∃ i, idxP (fun y => x == y) l 0 = i := ⟨_, rfl⟩
  rw [hi] at hbb
  have HI := Lib.hid hi
  clear hi
  go_enter Tryz.func165, Tryz.ntmps165
  go_wp2_with (go_at_call 194; refine (indexInt_any _ _ _ _ _ _ hm hl).mono ?_; rintro e w' ⟨rfl, rfl⟩; rw [HI.out])
  go_ret
  exact ⟨ret_bool (by rw [← hp.out, HI.out]), rfl⟩
end Go.Proofs.YtdfnfimajhagfaaGreatDoor
