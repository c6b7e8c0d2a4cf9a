/- The law VocabularyOrders, walked. -/
import Derived.Test.YtdfnfimajhagfaaGreatDoorT13
import Derived.Test.YtdfnfimajhagfaaGreatDoorOrd
namespace Go.Proofs.YtdfnfimajhagfaaGreatDoor
open Go.RowKit Go.Maps Rf
theorem abv {l : List Term} {s : S} (h : (vvalid l).2 = 0) : aboveOf l s = ups (brd l) s := by unfold aboveOf; rw [if_pos (show _ = eOK from h)]
set_option maxRecDepth 20000 in
set_option maxHeartbeats 8000000 in
theorem orders_law (A : Option Addr) (n c : Nat) (l : List Int) (w : World) (hr : Rdy w) (hl : Ints w A n l) :
    Calls Tryz.prog 8 #[.slice A n c] w fun e w' => e = .returned (.bool true) ∧ Below w.heap.size w w' := by
  go_enter Tryz.func8, Tryz.ntmps8
  go_wp2_with (go_at_call 42; go_loud (refine (terms_any _ _ _ _ _ hl).mono ?_; rintro e w1 ⟨A1, n1, c1, ms, rfl, hc1, h81, ht, hmade, hb1⟩))
  have hr1 := hr.below hb1
  have H0 := Lib.hid (show (vvalid (terms ms)).2 = 0 from by rw [hmade.valid ht (by omega)])
  have hok := Lib.hid (vok (show (vvalid (terms ms)).2 = eOK from H0.out))
  clear hl hmade
  go_loopw [4] (fun ii wr => ∃ i : Nat, i ≤ n1 ∧ ii = .int .i64 i ∧ Below w1.heap.size w1 wr) (fun ii _ => n1 - (intOf ii).toNat)
  case atStart => exact ⟨0, by omega, rfl, brefl⟩
  case round =>
    obtain ⟨i, hi, rfl, hbi⟩ := hrel
    by_cases hlt : i < n1
    · obtain ⟨b, off, m, rfl, hx, hmk, hb0, d1, d2, d3, d4, d5⟩ := (ht.below hbi).at_ hlt
      have hlt' : (i : Int) < n1 := by omega
      have htm := Lib.hid (show m.t ∈ terms ms from List.mem_map_of_mem (List.mem_of_getElem? hx))
      have AB := Lib.hid (show aboveOf (terms ms) m.t.name = ups (brd (terms ms)) m.t.name from abv H0.out)
      have NU := Lib.hid (show Rf.has (ups (brd (terms ms)) m.t.name) m.t.name = false from hok.out.not_up htm.out)
      have hcells : ∀ wz, Below wr.heap.size wr wz → wz.cell? ⟨b, off + i * 5, none⟩ = some (.string m.t.name) := fun wz hz => (hz.cell (p := ⟨b, off + i * 5, none⟩) hb0).trans d1
      have hcellsI := hcells
      clear hx hmk d2 d3 d4 d5
      by_cases hp : prefT m.t = m.t.name
      · have P1 := Lib.hid (show prefer (terms ms) m.t.name = (m.t.name, 0) from by rw [hok.out.prefer_once htm.out H0.out, hp])
        have HA := Lib.hid (show Rf.has (aliases (terms ms) m.t.name) m.t.name = false from by have := hok.out.alias_has htm.out H0.out; rw [hp] at this; rw [this]; simp)
        clear hp
        go_wp2_with (first
          | (go_at_call 33; (with_reducible refine (prefer_any _ n1 c1 ms m.t.name _ ?_ (hr1.below hbi) (ht.below hbi)).mono ?_); (focus omega); rw [P1.out]; rintro e w2 ⟨rfl, hb2⟩; have hc2 := hcells _ hb2)
          | (go_at_call 33; go_loud (refine (prefer_any _ n1 c1 ms m.t.name _ (by omega) ((hr1.below hbi).below hb2) ((ht.below hbi).below hb2)).mono ?_; rw [P1.out]; rintro e w3 ⟨rfl, hb3⟩; have hc3 := hcells _ (hb2.tr hb3)))
          | (go_at_call 38; go_loud (refine (aboveOf_any _ n1 c1 ms m.t.name _ (by omega) ((hr1.below hbi).below (hb2.tr hb3)) ((ht.below hbi).below (hb2.tr hb3))).mono ?_; rw [AB.out]; rintro e w5 ⟨A5, k5, c5, rfl, hk5, hs5, hb5⟩)))
        have hbc : Below wr.heap.size wr w5.drew := ((hb2.tr hb3).tr hb5).drn 1
        have hb5c : Below w5.heap.size w5 w5.drew := brefl.drn 1
        have hS := hcells _ hbc
        refine wp_region_mix [(true, 0), (true, 1), (true, 2), (true, 3), (true, 4), (true, 5), (false, 6), (true, 7), (true, 8), (true, 9), (true, 11), (true, 12), (true, 13), (true, 14), (true, 15), (true, 17), (true, 18), (true, 19), (true, 20), (true, 21), (true, 22), (true, 23), (false, 10), (false, 16), (true, 24), (true, 25)] 26 (fun wz => wz.cell? ⟨b, off + i * 5, none⟩ = some (.string m.t.name)) (by kernel_rfl) (by kernel_rfl) ?_
        refine wpMix_put (v := ?_) rfl rfl (Or.inl ⟨by rfl, fun wz hz => ?_⟩) hS ?_
        rotate_left
        (focus (go_simp; try (with_reducible rfl)))
        simp only [List.setIfInBounds_toArray, List.set_cons_succ, List.set_cons_zero]
        refine wpMix_put (v := ?_) rfl rfl (Or.inl ⟨by rfl, fun wz hz => ?_⟩) hS ?_
        rotate_left
        (focus (go_simp; try (with_reducible rfl)))
        simp only [List.setIfInBounds_toArray, List.set_cons_succ, List.set_cons_zero]
        refine wpMix_put (v := ?_) rfl rfl (Or.inl ⟨by rfl, fun wz hz => ?_⟩) hS ?_
        rotate_left
        (focus (go_simp; try (with_reducible rfl)))
        simp only [List.setIfInBounds_toArray, List.set_cons_succ, List.set_cons_zero]
        refine wpMix_put (v := ?_) rfl rfl (Or.inl ⟨by rfl, fun wz hz => ?_⟩) hS ?_
        rotate_left
        (focus (go_simp; try (with_reducible rfl)))
        simp only [List.setIfInBounds_toArray, List.set_cons_succ, List.set_cons_zero]
        refine wpMix_put (v := ?_) rfl rfl (Or.inl ⟨by rfl, fun wz hz => ?_⟩) hS ?_
        rotate_left
        (focus (go_simp; try (with_reducible rfl)))
        simp only [List.setIfInBounds_toArray, List.set_cons_succ, List.set_cons_zero]
        refine wpMix_put (v := ?_) rfl rfl (Or.inl ⟨by rfl, fun wz hz => ?_⟩) hS ?_
        rotate_left
        (focus (go_simp; try (with_reducible rfl)))
        simp only [List.setIfInBounds_toArray, List.set_cons_succ, List.set_cons_zero]
        refine wpMix_step rfl (fun K hK => ?_)
        go_simp
        refine (has_any _ _ _ _ _ _ (by omega) (hs5.below hb5c)).mono ?_
        rintro e _ ⟨rfl, rfl⟩
        rw [NU.out]
        go_simp
        refine hK _ _ (fun _ => hS) ?_
        clear hK K
        refine wpMix_put (v := ?_) rfl rfl (Or.inl ⟨by rfl, fun wz hz => ?_⟩) hS ?_
        rotate_left
        (focus (go_simp; try (with_reducible rfl)))
        simp only [List.setIfInBounds_toArray, List.set_cons_succ, List.set_cons_zero]
        refine wpMix_put (v := ?_) rfl rfl (Or.inl ⟨by rfl, fun wz hz => ?_⟩) hS ?_
        rotate_left
        (focus (go_simp; try (with_reducible rfl)))
        simp only [List.setIfInBounds_toArray, List.set_cons_succ, List.set_cons_zero]
        refine wpMix_put (v := ?_) rfl rfl (Or.inl ⟨by rfl, fun wz hz => ?_⟩) hS ?_
        rotate_left
        (focus (go_simp; try (with_reducible rfl)))
        simp only [List.setIfInBounds_toArray, List.set_cons_succ, List.set_cons_zero]
        refine wpMix_put (v := ?_) rfl rfl (Or.inl ⟨by rfl, fun wz hz => ?_⟩) hS ?_
        rotate_left
        (focus (go_simp; try (with_reducible rfl)))
        simp only [List.setIfInBounds_toArray, List.set_cons_succ, List.set_cons_zero]
        refine wpMix_put (v := ?_) rfl rfl (Or.inl ⟨by rfl, fun wz hz => ?_⟩) hS ?_
        rotate_left
        (focus (go_simp; try (with_reducible rfl)))
        simp only [List.setIfInBounds_toArray, List.set_cons_succ, List.set_cons_zero]
        refine wpMix_put (v := ?_) rfl rfl (Or.inl ⟨by rfl, fun wz hz => ?_⟩) hS ?_
        rotate_left
        (focus (go_simp; try (with_reducible rfl)))
        simp only [List.setIfInBounds_toArray, List.set_cons_succ, List.set_cons_zero]
        refine wpMix_put (v := ?_) rfl rfl (Or.inl ⟨by rfl, fun wz hz => ?_⟩) hS ?_
        rotate_left
        (focus (go_simp; try (with_reducible rfl)))
        simp only [List.setIfInBounds_toArray, List.set_cons_succ, List.set_cons_zero]
        refine wpMix_put (v := ?_) rfl rfl (Or.inl ⟨by rfl, fun wz hz => ?_⟩) hS ?_
        rotate_left
        (focus (go_simp; try (with_reducible rfl)))
        simp only [List.setIfInBounds_toArray, List.set_cons_succ, List.set_cons_zero]
        refine wpMix_put (v := ?_) rfl rfl (Or.inl ⟨by rfl, fun wz hz => ?_⟩) hS ?_
        rotate_left
        (focus (go_simp; try (with_reducible rfl)))
        simp only [List.setIfInBounds_toArray, List.set_cons_succ, List.set_cons_zero]
        refine wpMix_put (v := ?_) rfl rfl (Or.inl ⟨by rfl, fun wz hz => ?_⟩) hS ?_
        rotate_left
        (focus (go_simp; try (with_reducible rfl)))
        simp only [List.setIfInBounds_toArray, List.set_cons_succ, List.set_cons_zero]
        refine wpMix_put (v := ?_) rfl rfl (Or.inl ⟨by rfl, fun wz hz => ?_⟩) hS ?_
        rotate_left
        (focus (go_simp; try (with_reducible rfl)))
        simp only [List.setIfInBounds_toArray, List.set_cons_succ, List.set_cons_zero]
        refine wpMix_put (v := ?_) rfl rfl (Or.inl ⟨by rfl, fun wz hz => ?_⟩) hS ?_
        rotate_left
        (focus (go_simp; try (with_reducible rfl)))
        simp only [List.setIfInBounds_toArray, List.set_cons_succ, List.set_cons_zero]
        refine wpMix_put (v := ?_) rfl rfl (Or.inl ⟨by rfl, fun wz hz => ?_⟩) hS ?_
        rotate_left
        (focus (go_simp; try (with_reducible rfl)))
        simp only [List.setIfInBounds_toArray, List.set_cons_succ, List.set_cons_zero]
        refine wpMix_put (v := ?_) rfl rfl (Or.inl ⟨by rfl, fun wz hz => ?_⟩) hS ?_
        rotate_left
        (focus (go_simp; try (with_reducible rfl)))
        simp only [List.setIfInBounds_toArray, List.set_cons_succ, List.set_cons_zero]
        refine wpMix_put (v := ?_) rfl rfl (Or.inl ⟨by rfl, fun wz hz => ?_⟩) hS ?_
        rotate_left
        (focus (go_simp; try (with_reducible rfl)))
        simp only [List.setIfInBounds_toArray, List.set_cons_succ, List.set_cons_zero]
        refine wpMix_step rfl (fun K hK => ?_)
        go_simp
        refine (aliases_any _ n1 c1 ms m.t.name _ (by omega) ((hr1.below hbi).below hbc) ((ht.below hbi).below hbc)).mono ?_
        rintro e w7 ⟨A7, k7, c7, rfl, hc7, hk7, hs7, hbd⟩
        go_simp
        have hbc' := hbc.tr hbd
        have hb5c' := hb5c.tr hbd
        clear hbc hbd hb5c
        have hbc := hbc'
        have hb5c := hb5c'
        clear hbc' hb5c'
        have hS7 := hcells _ hbc
        refine hK _ _ (fun _ => hS7) ?_
        clear hK K hS
        have hS := hS7
        clear hS7
        refine wpMix_step rfl (fun K hK => ?_)
        go_simp
        refine (has_any _ _ _ _ _ _ (by omega) hs7).mono ?_
        rintro e _ ⟨rfl, rfl⟩
        rw [HA.out]
        go_simp
        refine hK _ _ (fun _ => hS) ?_
        clear hK K
        refine wpMix_put (v := ?_) rfl rfl (Or.inl ⟨by rfl, fun wz hz => ?_⟩) hS ?_
        rotate_left
        (focus (go_simp; try (with_reducible rfl)))
        simp only [List.setIfInBounds_toArray, List.set_cons_succ, List.set_cons_zero]
        refine wpMix_put (v := ?_) rfl rfl (Or.inl ⟨by rfl, fun wz hz => ?_⟩) hS ?_
        rotate_left
        (focus (go_simp; try (with_reducible rfl)))
        simp only [List.setIfInBounds_toArray, List.set_cons_succ, List.set_cons_zero]
        refine wpMix_nil ?_
        go_wp2
        clear hcells
        obtain ⟨wi, hwi⟩ : ∃ wi : World, wi = wr := ⟨_, rfl⟩
        subst hwi
        go_loopw [10] (fun kk wk => ∃ k : Nat, k ≤ n1 ∧ kk = .int .i64 k ∧ Below wi.heap.size wi wk ∧ Below w5.heap.size w5 wk) (fun kk _ => n1 - (intOf kk).toNat)
        case atStart => exact ⟨0, by omega, rfl, hbc, hb5c⟩
        case round =>
          clear hbc hb5c hS
          obtain ⟨k, hk, rfl, hbk, hb5k⟩ := hrel
          by_cases hlk : k < n1
          · obtain ⟨b', off', u, e', hx', huk, hb0', e1, e2, e3, e4, e5⟩ := ((ht.below hbi).below hbk).at_ hlk
            injection e' with e'
            injection e' with e6 e7
            subst e6
            subst e7
            have hlk' : (k : Int) < n1 := by omega
            have hum := Lib.hid (show u.t ∈ terms ms from List.mem_map_of_mem (List.mem_of_getElem? hx'))
            have AU := Lib.hid (show aboveOf (terms ms) u.t.name = ups (brd (terms ms)) u.t.name from abv H0.out)
            obtain ⟨is, his⟩ : ∃ is, Rf.has (ups (brd (terms ms)) m.t.name) u.t.name = is := ⟨_, rfl⟩
            have HIS := Lib.hid his
            have HB := Lib.hid (show Rf.has (belowOf (terms ms) u.t.name) m.t.name = is from by rw [hok.out.below_has htm.out H0.out]; exact his)
            clear his hx' huk e2 e3 e4 e5
            cases is
            · have hcells : ∀ wz, Below wr.heap.size wr wz → wz.cell? ⟨b, off + k * 5, none⟩ = some (.string u.t.name) ∧ wz.cell? ⟨b, off + i * 5, none⟩ = some (.string m.t.name) := fun wz hz => ⟨(hz.cell (p := ⟨b, off + k * 5, none⟩) hb0').trans e1, hcellsI _ (hbk.tr hz)⟩
              go_wp2_with (go_at_call 50; go_loud (refine (has_any _ _ _ _ _ _ (by omega) (hs5.below hb5k)).mono ?_; rintro e _ ⟨rfl, rfl⟩; rw [HIS.out]))
              have hbc : Below wr.heap.size wr wr.drew := brefl.drn 1
              have hb5c : Below w5.heap.size w5 wr.drew := hb5k.drn 1
              have hS := hcells _ hbc
              refine wp_region_mix [(true, 0), (true, 1), (true, 2), (true, 3), (true, 4), (true, 5), (true, 6), (true, 8), (true, 9), (true, 10), (true, 11), (true, 12), (false, 7), (false, 13), (true, 14)] 15 (fun wz => wz.cell? ⟨b, off + k * 5, none⟩ = some (.string u.t.name) ∧ wz.cell? ⟨b, off + i * 5, none⟩ = some (.string m.t.name)) (by kernel_rfl) (by kernel_rfl) ?_
              refine wpMix_put (v := ?_) rfl rfl (Or.inl ⟨by rfl, fun wz hz => ?_⟩) hS ?_
              rotate_left
              (focus (go_simp; try (with_reducible rfl)))
              simp only [List.setIfInBounds_toArray, List.set_cons_succ, List.set_cons_zero]
              refine wpMix_put (v := ?_) rfl rfl (Or.inl ⟨by rfl, fun wz hz => ?_⟩) hS ?_
              rotate_left
              (focus (go_simp; try (with_reducible rfl)))
              simp only [List.setIfInBounds_toArray, List.set_cons_succ, List.set_cons_zero]
              refine wpMix_put (v := ?_) rfl rfl (Or.inl ⟨by rfl, fun wz hz => ?_⟩) hS ?_
              rotate_left
              (focus (go_simp; try (with_reducible rfl)))
              simp only [List.setIfInBounds_toArray, List.set_cons_succ, List.set_cons_zero]
              refine wpMix_put (v := ?_) rfl rfl (Or.inl ⟨by rfl, fun wz hz => ?_⟩) hS ?_
              rotate_left
              (focus (go_simp; try (with_reducible rfl)))
              simp only [List.setIfInBounds_toArray, List.set_cons_succ, List.set_cons_zero]
              refine wpMix_put (v := ?_) rfl rfl (Or.inl ⟨by rfl, fun wz hz => ?_⟩) hS ?_
              rotate_left
              (focus (go_simp; try (with_reducible rfl)))
              simp only [List.setIfInBounds_toArray, List.set_cons_succ, List.set_cons_zero]
              refine wpMix_put (v := ?_) rfl rfl (Or.inl ⟨by rfl, fun wz hz => ?_⟩) hS ?_
              rotate_left
              (focus (go_simp; try (with_reducible rfl)))
              simp only [List.setIfInBounds_toArray, List.set_cons_succ, List.set_cons_zero]
              refine wpMix_put (v := ?_) rfl rfl (Or.inl ⟨by rfl, fun wz hz => ?_⟩) hS ?_
              rotate_left
              (focus (go_simp; try (with_reducible rfl)))
              simp only [List.setIfInBounds_toArray, List.set_cons_succ, List.set_cons_zero]
              refine wpMix_put (v := ?_) rfl rfl (Or.inl ⟨by rfl, fun wz hz => ?_⟩) hS ?_
              rotate_left
              (focus (go_simp; try (with_reducible rfl)))
              simp only [List.setIfInBounds_toArray, List.set_cons_succ, List.set_cons_zero]
              refine wpMix_put (v := ?_) rfl rfl (Or.inl ⟨by rfl, fun wz hz => ?_⟩) hS ?_
              rotate_left
              (focus (go_simp; try (with_reducible rfl)))
              simp only [List.setIfInBounds_toArray, List.set_cons_succ, List.set_cons_zero]
              refine wpMix_put (v := ?_) rfl rfl (Or.inl ⟨by rfl, fun wz hz => ?_⟩) hS ?_
              rotate_left
              (focus (go_simp; try (with_reducible rfl)))
              simp only [List.setIfInBounds_toArray, List.set_cons_succ, List.set_cons_zero]
              refine wpMix_put (v := ?_) rfl rfl (Or.inl ⟨by rfl, fun wz hz => ?_⟩) hS ?_
              rotate_left
              (focus (go_simp; try (with_reducible rfl)))
              simp only [List.setIfInBounds_toArray, List.set_cons_succ, List.set_cons_zero]
              refine wpMix_put (v := ?_) rfl rfl (Or.inl ⟨by rfl, fun wz hz => ?_⟩) hS ?_
              rotate_left
              (focus (go_simp; try (with_reducible rfl)))
              simp only [List.setIfInBounds_toArray, List.set_cons_succ, List.set_cons_zero]
              refine wpMix_step rfl (fun K hK => ?_)
              go_simp
              refine (below_any _ n1 c1 ms u.t.name _ (by omega) ((hr1.below hbi).below (hbk.tr hbc)) ((ht.below hbi).below (hbk.tr hbc))).mono ?_
              rintro e w7 ⟨A7, k7, c7, rfl, hc7, hk7, hs7, hbd⟩
              go_simp
              have hbc' := hbc.tr hbd
              have hb5c' := hb5c.tr hbd
              clear hbc hbd hb5c
              have hbc := hbc'
              have hb5c := hb5c'
              clear hbc' hb5c'
              have hS7 := hcells _ hbc
              refine hK _ _ (fun _ => hS7) ?_
              clear hK K hS
              have hS := hS7
              clear hS7
              refine wpMix_step rfl (fun K hK => ?_)
              go_simp
              refine (has_any _ _ _ _ _ _ (by omega) hs7).mono ?_
              rintro e _ ⟨rfl, rfl⟩
              rw [HB.out]
              go_simp
              refine hK _ _ (fun _ => hS) ?_
              clear hK K
              refine wpMix_put (v := ?_) rfl rfl (Or.inl ⟨by rfl, fun wz hz => ?_⟩) hS ?_
              rotate_left
              (focus (go_simp; try (with_reducible rfl)))
              simp only [List.setIfInBounds_toArray, List.set_cons_succ, List.set_cons_zero]
              refine wpMix_nil ?_
              obtain ⟨hS1, hS2⟩ := hS
              go_wp2_with (go_at_call 38; go_loud (refine (aboveOf_any _ n1 c1 ms u.t.name _ (by omega) ((hr1.below hbi).below (hbk.tr hbc)) ((ht.below hbi).below (hbk.tr hbc))).mono ?_; rw [AU.out]; rintro e w8 ⟨A8, k8, c8, rfl, hk8, hs8, hb8⟩))
              have hbk8 := hbk.tr (hbc.tr hb8)
              have hb58 := hb5c.tr hb8
              obtain ⟨wj0, hwj0⟩ : ∃ wj0 : World, wj0 = wr := ⟨_, rfl⟩
              subst hwj0
              go_loopw [13] (fun jj wj => ∃ j : Nat, j ≤ k8 ∧ jj = .int .i64 j ∧ Below w8.heap.size w8 wj) (fun jj _ => k8 - (intOf jj).toNat)
              case atStart => exact ⟨0, by omega, rfl, brefl⟩
              case round =>
                obtain ⟨j, hj, rfl, hbj⟩ := hrel
                by_cases hlj : j < k8
                · have hlj' : (j : Int) < k8 := by omega
                  go_wp2
                  go_roundw
                  case rel => exact ⟨k + 1, by omega, by go_num, hbk8.tr hbj, hb58.tr hbj⟩
                  case measure => simp [intOf]; omega
                · have hlj' : ¬ (j : Int) < k8 := by omega
                  go_wp2
                  go_roundw
                  case rel => exact ⟨k + 1, by omega, by go_num, hbk8.tr hbj, hb58.tr hbj⟩
                  case measure => simp [intOf]; omega
            · have hcells : ∀ wz, Below wr.heap.size wr wz → wz.cell? ⟨b, off + k * 5, none⟩ = some (.string u.t.name) ∧ wz.cell? ⟨b, off + i * 5, none⟩ = some (.string m.t.name) := fun wz hz => ⟨(hz.cell (p := ⟨b, off + k * 5, none⟩) hb0').trans e1, hcellsI _ (hbk.tr hz)⟩
              go_wp2_with (go_at_call 50; go_loud (refine (has_any _ _ _ _ _ _ (by omega) (hs5.below hb5k)).mono ?_; rintro e _ ⟨rfl, rfl⟩; rw [HIS.out]))
              have hbc : Below wr.heap.size wr wr.drew := brefl.drn 1
              have hb5c : Below w5.heap.size w5 wr.drew := hb5k.drn 1
              have hS := hcells _ hbc
              refine wp_region_mix [(true, 0), (true, 1), (true, 2), (true, 3), (true, 4), (true, 5), (true, 6), (true, 8), (true, 9), (true, 10), (true, 11), (true, 12), (false, 7), (false, 13), (true, 14)] 15 (fun wz => wz.cell? ⟨b, off + k * 5, none⟩ = some (.string u.t.name) ∧ wz.cell? ⟨b, off + i * 5, none⟩ = some (.string m.t.name)) (by kernel_rfl) (by kernel_rfl) ?_
              refine wpMix_put (v := ?_) rfl rfl (Or.inl ⟨by rfl, fun wz hz => ?_⟩) hS ?_
              rotate_left
              (focus (go_simp; try (with_reducible rfl)))
              simp only [List.setIfInBounds_toArray, List.set_cons_succ, List.set_cons_zero]
              refine wpMix_put (v := ?_) rfl rfl (Or.inl ⟨by rfl, fun wz hz => ?_⟩) hS ?_
              rotate_left
              (focus (go_simp; try (with_reducible rfl)))
              simp only [List.setIfInBounds_toArray, List.set_cons_succ, List.set_cons_zero]
              refine wpMix_put (v := ?_) rfl rfl (Or.inl ⟨by rfl, fun wz hz => ?_⟩) hS ?_
              rotate_left
              (focus (go_simp; try (with_reducible rfl)))
              simp only [List.setIfInBounds_toArray, List.set_cons_succ, List.set_cons_zero]
              refine wpMix_put (v := ?_) rfl rfl (Or.inl ⟨by rfl, fun wz hz => ?_⟩) hS ?_
              rotate_left
              (focus (go_simp; try (with_reducible rfl)))
              simp only [List.setIfInBounds_toArray, List.set_cons_succ, List.set_cons_zero]
              refine wpMix_put (v := ?_) rfl rfl (Or.inl ⟨by rfl, fun wz hz => ?_⟩) hS ?_
              rotate_left
              (focus (go_simp; try (with_reducible rfl)))
              simp only [List.setIfInBounds_toArray, List.set_cons_succ, List.set_cons_zero]
              refine wpMix_put (v := ?_) rfl rfl (Or.inl ⟨by rfl, fun wz hz => ?_⟩) hS ?_
              rotate_left
              (focus (go_simp; try (with_reducible rfl)))
              simp only [List.setIfInBounds_toArray, List.set_cons_succ, List.set_cons_zero]
              refine wpMix_put (v := ?_) rfl rfl (Or.inl ⟨by rfl, fun wz hz => ?_⟩) hS ?_
              rotate_left
              (focus (go_simp; try (with_reducible rfl)))
              simp only [List.setIfInBounds_toArray, List.set_cons_succ, List.set_cons_zero]
              refine wpMix_put (v := ?_) rfl rfl (Or.inl ⟨by rfl, fun wz hz => ?_⟩) hS ?_
              rotate_left
              (focus (go_simp; try (with_reducible rfl)))
              simp only [List.setIfInBounds_toArray, List.set_cons_succ, List.set_cons_zero]
              refine wpMix_put (v := ?_) rfl rfl (Or.inl ⟨by rfl, fun wz hz => ?_⟩) hS ?_
              rotate_left
              (focus (go_simp; try (with_reducible rfl)))
              simp only [List.setIfInBounds_toArray, List.set_cons_succ, List.set_cons_zero]
              refine wpMix_put (v := ?_) rfl rfl (Or.inl ⟨by rfl, fun wz hz => ?_⟩) hS ?_
              rotate_left
              (focus (go_simp; try (with_reducible rfl)))
              simp only [List.setIfInBounds_toArray, List.set_cons_succ, List.set_cons_zero]
              refine wpMix_put (v := ?_) rfl rfl (Or.inl ⟨by rfl, fun wz hz => ?_⟩) hS ?_
              rotate_left
              (focus (go_simp; try (with_reducible rfl)))
              simp only [List.setIfInBounds_toArray, List.set_cons_succ, List.set_cons_zero]
              refine wpMix_put (v := ?_) rfl rfl (Or.inl ⟨by rfl, fun wz hz => ?_⟩) hS ?_
              rotate_left
              (focus (go_simp; try (with_reducible rfl)))
              simp only [List.setIfInBounds_toArray, List.set_cons_succ, List.set_cons_zero]
              refine wpMix_step rfl (fun K hK => ?_)
              go_simp
              refine (below_any _ n1 c1 ms u.t.name _ (by omega) ((hr1.below hbi).below (hbk.tr hbc)) ((ht.below hbi).below (hbk.tr hbc))).mono ?_
              rintro e w7 ⟨A7, k7, c7, rfl, hc7, hk7, hs7, hbd⟩
              go_simp
              have hbc' := hbc.tr hbd
              have hb5c' := hb5c.tr hbd
              clear hbc hbd hb5c
              have hbc := hbc'
              have hb5c := hb5c'
              clear hbc' hb5c'
              have hS7 := hcells _ hbc
              refine hK _ _ (fun _ => hS7) ?_
              clear hK K hS
              have hS := hS7
              clear hS7
              refine wpMix_step rfl (fun K hK => ?_)
              go_simp
              refine (has_any _ _ _ _ _ _ (by omega) hs7).mono ?_
              rintro e _ ⟨rfl, rfl⟩
              rw [HB.out]
              go_simp
              refine hK _ _ (fun _ => hS) ?_
              clear hK K
              refine wpMix_put (v := ?_) rfl rfl (Or.inl ⟨by rfl, fun wz hz => ?_⟩) hS ?_
              rotate_left
              (focus (go_simp; try (with_reducible rfl)))
              simp only [List.setIfInBounds_toArray, List.set_cons_succ, List.set_cons_zero]
              refine wpMix_nil ?_
              obtain ⟨hS1, hS2⟩ := hS
              go_wp2_with (go_at_call 38; go_loud (refine (aboveOf_any _ n1 c1 ms u.t.name _ (by omega) ((hr1.below hbi).below (hbk.tr hbc)) ((ht.below hbi).below (hbk.tr hbc))).mono ?_; rw [AU.out]; rintro e w8 ⟨A8, k8, c8, rfl, hk8, hs8, hb8⟩))
              have hbk8 := hbk.tr (hbc.tr hb8)
              have hb58 := hb5c.tr hb8
              obtain ⟨wj0, hwj0⟩ : ∃ wj0 : World, wj0 = wr := ⟨_, rfl⟩
              subst hwj0
              go_loopw [13] (fun jj wj => ∃ j : Nat, j ≤ k8 ∧ jj = .int .i64 j ∧ Below w8.heap.size w8 wj) (fun jj _ => k8 - (intOf jj).toNat)
              case atStart => exact ⟨0, by omega, rfl, brefl⟩
              case round =>
                obtain ⟨j, hj, rfl, hbj⟩ := hrel
                by_cases hlj : j < k8
                · have hlj' : (j : Int) < k8 := by omega
                  obtain ⟨b9, off9, x9, rfl, hx9, hs9, hb9, hc9⟩ := (hs8.below hbj).at_ hlj
                  have HX := Lib.hid (show Rf.has (ups (brd (terms ms)) m.t.name) x9 = true from up_more HIS.out (List.mem_of_getElem? hx9))
                  clear hx9
                  go_wp2_with (go_at_call 50; go_loud (refine (has_any _ _ _ _ _ _ (by omega) (hs5.below (hb58.tr hbj))).mono ?_; rintro e _ ⟨rfl, rfl⟩; rw [HX.out]))
                  go_roundw
                  case rel => exact ⟨j + 1, by omega, by go_num, hbj⟩
                  case measure => simp [intOf]; omega
                · have hlj' : ¬ (j : Int) < k8 := by omega
                  go_wp2
                  go_roundw
                  case rel => exact ⟨k + 1, by omega, by go_num, hbk8.tr hbj, hb58.tr hbj⟩
                  case measure => simp [intOf]; omega
          · have hlk' : ¬ (k : Int) < n1 := by omega
            go_wp2
            go_roundw
            case rel => exact ⟨i + 1, by omega, by go_num, hbi.tr hbk⟩
            case measure => simp [intOf]; omega
      · have hpn : ((prefT m.t).toList == m.t.name.toList) = false := by
          cases h : ((prefT m.t).toList == m.t.name.toList)
          · rfl
          · exact absurd ((eqS_iff _ _).1 h) hp
        have P1 := Lib.hid (hok.out.prefer_once htm.out H0.out)
        have P2 := Lib.hid (hok.out.prefer_twice htm.out H0.out)
        have AN := Lib.hid (hok.out.alias_none htm.out hp)
        have HA := Lib.hid (show Rf.has (aliases (terms ms) (prefT m.t)) m.t.name = true from by rw [hok.out.alias_has htm.out H0.out]; simp [hp])
        clear hp
        go_wp2_with (first
          | (go_at_call 33; (with_reducible refine (prefer_any _ n1 c1 ms m.t.name _ ?_ (hr1.below hbi) (ht.below hbi)).mono ?_); (focus omega); rw [P1.out]; rintro e w2 ⟨rfl, hb2⟩; have hc2 := hcells _ hb2)
          | (go_at_call 33; go_loud (refine (prefer_any _ n1 c1 ms (prefT m.t) _ (by omega) ((hr1.below hbi).below hb2) ((ht.below hbi).below hb2)).mono ?_; rw [P2.out]; rintro e w3 ⟨rfl, hb3⟩; have hc3 := hcells _ (hb2.tr hb3)))
          | (go_at_call 36; go_loud (refine (aliases_any _ n1 c1 ms m.t.name _ (by omega) ((hr1.below hbi).below (hb2.tr hb3)) ((ht.below hbi).below (hb2.tr hb3))).mono ?_; rw [AN.out]; rintro e w4 ⟨A4, k4, c4, rfl, hc4, hk4, hs4, hb4⟩; obtain rfl : k4 = 0 := hs4.1.symm; have hc4 := hcells _ ((hb2.tr hb3).tr hb4)))
          | (go_at_call 38; go_loud (refine (aboveOf_any _ n1 c1 ms m.t.name _ (by omega) ((hr1.below hbi).below ((hb2.tr hb3).tr hb4)) ((ht.below hbi).below ((hb2.tr hb3).tr hb4))).mono ?_; rw [AB.out]; rintro e w5 ⟨A5, k5, c5, rfl, hk5, hs5, hb5⟩)))
        have hbc : Below wr.heap.size wr w5.drew := (((hb2.tr hb3).tr hb4).tr hb5).drn 1
        have hb5c : Below w5.heap.size w5 w5.drew := brefl.drn 1
        have hS := hcells _ hbc
        refine wp_region_mix [(true, 0), (true, 1), (true, 2), (true, 3), (true, 4), (true, 5), (false, 6), (true, 7), (true, 8), (true, 9), (true, 11), (true, 12), (true, 13), (true, 14), (true, 15), (true, 17), (true, 18), (true, 19), (true, 20), (true, 21), (true, 22), (true, 23), (false, 10), (false, 16), (true, 24), (true, 25)] 26 (fun wz => wz.cell? ⟨b, off + i * 5, none⟩ = some (.string m.t.name)) (by kernel_rfl) (by kernel_rfl) ?_
        refine wpMix_put (v := ?_) rfl rfl (Or.inl ⟨by rfl, fun wz hz => ?_⟩) hS ?_
        rotate_left
        (focus (go_simp; try (with_reducible rfl)))
        simp only [List.setIfInBounds_toArray, List.set_cons_succ, List.set_cons_zero]
        refine wpMix_put (v := ?_) rfl rfl (Or.inl ⟨by rfl, fun wz hz => ?_⟩) hS ?_
        rotate_left
        (focus (go_simp; try (with_reducible rfl)))
        simp only [List.setIfInBounds_toArray, List.set_cons_succ, List.set_cons_zero]
        refine wpMix_put (v := ?_) rfl rfl (Or.inl ⟨by rfl, fun wz hz => ?_⟩) hS ?_
        rotate_left
        (focus (go_simp; try (with_reducible rfl)))
        simp only [List.setIfInBounds_toArray, List.set_cons_succ, List.set_cons_zero]
        refine wpMix_put (v := ?_) rfl rfl (Or.inl ⟨by rfl, fun wz hz => ?_⟩) hS ?_
        rotate_left
        (focus (go_simp; try (with_reducible rfl)))
        simp only [List.setIfInBounds_toArray, List.set_cons_succ, List.set_cons_zero]
        refine wpMix_put (v := ?_) rfl rfl (Or.inl ⟨by rfl, fun wz hz => ?_⟩) hS ?_
        rotate_left
        (focus (go_simp; try (with_reducible rfl)))
        simp only [List.setIfInBounds_toArray, List.set_cons_succ, List.set_cons_zero]
        refine wpMix_put (v := ?_) rfl rfl (Or.inl ⟨by rfl, fun wz hz => ?_⟩) hS ?_
        rotate_left
        (focus (go_simp; try (with_reducible rfl)))
        simp only [List.setIfInBounds_toArray, List.set_cons_succ, List.set_cons_zero]
        refine wpMix_step rfl (fun K hK => ?_)
        go_simp
        refine (has_any _ _ _ _ _ _ (by omega) (hs5.below hb5c)).mono ?_
        rintro e _ ⟨rfl, rfl⟩
        rw [NU.out]
        go_simp
        refine hK _ _ (fun _ => hS) ?_
        clear hK K
        refine wpMix_put (v := ?_) rfl rfl (Or.inl ⟨by rfl, fun wz hz => ?_⟩) hS ?_
        rotate_left
        (focus (go_simp; try (with_reducible rfl)))
        simp only [List.setIfInBounds_toArray, List.set_cons_succ, List.set_cons_zero]
        refine wpMix_put (v := ?_) rfl rfl (Or.inl ⟨by rfl, fun wz hz => ?_⟩) hS ?_
        rotate_left
        (focus (go_simp; try (with_reducible rfl)))
        simp only [List.setIfInBounds_toArray, List.set_cons_succ, List.set_cons_zero]
        refine wpMix_put (v := ?_) rfl rfl (Or.inl ⟨by rfl, fun wz hz => ?_⟩) hS ?_
        rotate_left
        (focus (go_simp; try (with_reducible rfl)))
        simp only [List.setIfInBounds_toArray, List.set_cons_succ, List.set_cons_zero]
        refine wpMix_put (v := ?_) rfl rfl (Or.inl ⟨by rfl, fun wz hz => ?_⟩) hS ?_
        rotate_left
        (focus (go_simp; try (with_reducible rfl)))
        simp only [List.setIfInBounds_toArray, List.set_cons_succ, List.set_cons_zero]
        refine wpMix_put (v := ?_) rfl rfl (Or.inl ⟨by rfl, fun wz hz => ?_⟩) hS ?_
        rotate_left
        (focus (go_simp; try (with_reducible rfl)))
        simp only [List.setIfInBounds_toArray, List.set_cons_succ, List.set_cons_zero]
        refine wpMix_put (v := ?_) rfl rfl (Or.inl ⟨by rfl, fun wz hz => ?_⟩) hS ?_
        rotate_left
        (focus (go_simp; try (with_reducible rfl)))
        simp only [List.setIfInBounds_toArray, List.set_cons_succ, List.set_cons_zero]
        refine wpMix_put (v := ?_) rfl rfl (Or.inl ⟨by rfl, fun wz hz => ?_⟩) hS ?_
        rotate_left
        (focus (go_simp; try (with_reducible rfl)))
        simp only [List.setIfInBounds_toArray, List.set_cons_succ, List.set_cons_zero]
        refine wpMix_put (v := ?_) rfl rfl (Or.inl ⟨by rfl, fun wz hz => ?_⟩) hS ?_
        rotate_left
        (focus (go_simp; try (with_reducible rfl)))
        simp only [List.setIfInBounds_toArray, List.set_cons_succ, List.set_cons_zero]
        refine wpMix_put (v := ?_) rfl rfl (Or.inl ⟨by rfl, fun wz hz => ?_⟩) hS ?_
        rotate_left
        (focus (go_simp; try (with_reducible rfl)))
        simp only [List.setIfInBounds_toArray, List.set_cons_succ, List.set_cons_zero]
        refine wpMix_put (v := ?_) rfl rfl (Or.inl ⟨by rfl, fun wz hz => ?_⟩) hS ?_
        rotate_left
        (focus (go_simp; try (with_reducible rfl)))
        simp only [List.setIfInBounds_toArray, List.set_cons_succ, List.set_cons_zero]
        refine wpMix_put (v := ?_) rfl rfl (Or.inl ⟨by rfl, fun wz hz => ?_⟩) hS ?_
        rotate_left
        (focus (go_simp; try (with_reducible rfl)))
        simp only [List.setIfInBounds_toArray, List.set_cons_succ, List.set_cons_zero]
        refine wpMix_put (v := ?_) rfl rfl (Or.inl ⟨by rfl, fun wz hz => ?_⟩) hS ?_
        rotate_left
        (focus (go_simp; try (with_reducible rfl)))
        simp only [List.setIfInBounds_toArray, List.set_cons_succ, List.set_cons_zero]
        refine wpMix_put (v := ?_) rfl rfl (Or.inl ⟨by rfl, fun wz hz => ?_⟩) hS ?_
        rotate_left
        (focus (go_simp; try (with_reducible rfl)))
        simp only [List.setIfInBounds_toArray, List.set_cons_succ, List.set_cons_zero]
        refine wpMix_put (v := ?_) rfl rfl (Or.inl ⟨by rfl, fun wz hz => ?_⟩) hS ?_
        rotate_left
        (focus (go_simp; try (with_reducible rfl)))
        simp only [List.setIfInBounds_toArray, List.set_cons_succ, List.set_cons_zero]
        refine wpMix_put (v := ?_) rfl rfl (Or.inl ⟨by rfl, fun wz hz => ?_⟩) hS ?_
        rotate_left
        (focus (go_simp; try (with_reducible rfl)))
        simp only [List.setIfInBounds_toArray, List.set_cons_succ, List.set_cons_zero]
        refine wpMix_step rfl (fun K hK => ?_)
        go_simp
        refine (aliases_any _ n1 c1 ms (prefT m.t) _ (by omega) ((hr1.below hbi).below hbc) ((ht.below hbi).below hbc)).mono ?_
        rintro e w7 ⟨A7, k7, c7, rfl, hc7, hk7, hs7, hbd⟩
        go_simp
        have hbc' := hbc.tr hbd
        have hb5c' := hb5c.tr hbd
        clear hbc hbd hb5c
        have hbc := hbc'
        have hb5c := hb5c'
        clear hbc' hb5c'
        have hS7 := hcells _ hbc
        refine hK _ _ (fun _ => hS7) ?_
        clear hK K hS
        have hS := hS7
        clear hS7
        refine wpMix_step rfl (fun K hK => ?_)
        go_simp
        refine (has_any _ _ _ _ _ _ (by omega) hs7).mono ?_
        rintro e _ ⟨rfl, rfl⟩
        rw [HA.out]
        go_simp
        refine hK _ _ (fun _ => hS) ?_
        clear hK K
        refine wpMix_put (v := ?_) rfl rfl (Or.inl ⟨by rfl, fun wz hz => ?_⟩) hS ?_
        rotate_left
        (focus (go_simp; try (with_reducible rfl)))
        simp only [List.setIfInBounds_toArray, List.set_cons_succ, List.set_cons_zero]
        refine wpMix_put (v := ?_) rfl rfl (Or.inl ⟨by rfl, fun wz hz => ?_⟩) hS ?_
        rotate_left
        (focus (go_simp; try (with_reducible rfl)))
        simp only [List.setIfInBounds_toArray, List.set_cons_succ, List.set_cons_zero]
        refine wpMix_nil ?_
        go_wp2
        clear hcells
        obtain ⟨wi, hwi⟩ : ∃ wi : World, wi = wr := ⟨_, rfl⟩
        subst hwi
        go_loopw [10] (fun kk wk => ∃ k : Nat, k ≤ n1 ∧ kk = .int .i64 k ∧ Below wi.heap.size wi wk ∧ Below w5.heap.size w5 wk) (fun kk _ => n1 - (intOf kk).toNat)
        case atStart => exact ⟨0, by omega, rfl, hbc, hb5c⟩
        case round =>
          clear hbc hb5c hS
          obtain ⟨k, hk, rfl, hbk, hb5k⟩ := hrel
          by_cases hlk : k < n1
          · obtain ⟨b', off', u, e', hx', huk, hb0', e1, e2, e3, e4, e5⟩ := ((ht.below hbi).below hbk).at_ hlk
            injection e' with e'
            injection e' with e6 e7
            subst e6
            subst e7
            have hlk' : (k : Int) < n1 := by omega
            have hum := Lib.hid (show u.t ∈ terms ms from List.mem_map_of_mem (List.mem_of_getElem? hx'))
            have AU := Lib.hid (show aboveOf (terms ms) u.t.name = ups (brd (terms ms)) u.t.name from abv H0.out)
            obtain ⟨is, his⟩ : ∃ is, Rf.has (ups (brd (terms ms)) m.t.name) u.t.name = is := ⟨_, rfl⟩
            have HIS := Lib.hid his
            have HB := Lib.hid (show Rf.has (belowOf (terms ms) u.t.name) m.t.name = is from by rw [hok.out.below_has htm.out H0.out]; exact his)
            clear his hx' huk e2 e3 e4 e5
            cases is
            · have hcells : ∀ wz, Below wr.heap.size wr wz → wz.cell? ⟨b, off + k * 5, none⟩ = some (.string u.t.name) ∧ wz.cell? ⟨b, off + i * 5, none⟩ = some (.string m.t.name) := fun wz hz => ⟨(hz.cell (p := ⟨b, off + k * 5, none⟩) hb0').trans e1, hcellsI _ (hbk.tr hz)⟩
              go_wp2_with (go_at_call 50; go_loud (refine (has_any _ _ _ _ _ _ (by omega) (hs5.below hb5k)).mono ?_; rintro e _ ⟨rfl, rfl⟩; rw [HIS.out]))
              have hbc : Below wr.heap.size wr wr.drew := brefl.drn 1
              have hb5c : Below w5.heap.size w5 wr.drew := hb5k.drn 1
              have hS := hcells _ hbc
              refine wp_region_mix [(true, 0), (true, 1), (true, 2), (true, 3), (true, 4), (true, 5), (true, 6), (true, 8), (true, 9), (true, 10), (true, 11), (true, 12), (false, 7), (false, 13), (true, 14)] 15 (fun wz => wz.cell? ⟨b, off + k * 5, none⟩ = some (.string u.t.name) ∧ wz.cell? ⟨b, off + i * 5, none⟩ = some (.string m.t.name)) (by kernel_rfl) (by kernel_rfl) ?_
              refine wpMix_put (v := ?_) rfl rfl (Or.inl ⟨by rfl, fun wz hz => ?_⟩) hS ?_
              rotate_left
              (focus (go_simp; try (with_reducible rfl)))
              simp only [List.setIfInBounds_toArray, List.set_cons_succ, List.set_cons_zero]
              refine wpMix_put (v := ?_) rfl rfl (Or.inl ⟨by rfl, fun wz hz => ?_⟩) hS ?_
              rotate_left
              (focus (go_simp; try (with_reducible rfl)))
              simp only [List.setIfInBounds_toArray, List.set_cons_succ, List.set_cons_zero]
              refine wpMix_put (v := ?_) rfl rfl (Or.inl ⟨by rfl, fun wz hz => ?_⟩) hS ?_
              rotate_left
              (focus (go_simp; try (with_reducible rfl)))
              simp only [List.setIfInBounds_toArray, List.set_cons_succ, List.set_cons_zero]
              refine wpMix_put (v := ?_) rfl rfl (Or.inl ⟨by rfl, fun wz hz => ?_⟩) hS ?_
              rotate_left
              (focus (go_simp; try (with_reducible rfl)))
              simp only [List.setIfInBounds_toArray, List.set_cons_succ, List.set_cons_zero]
              refine wpMix_put (v := ?_) rfl rfl (Or.inl ⟨by rfl, fun wz hz => ?_⟩) hS ?_
              rotate_left
              (focus (go_simp; try (with_reducible rfl)))
              simp only [List.setIfInBounds_toArray, List.set_cons_succ, List.set_cons_zero]
              refine wpMix_put (v := ?_) rfl rfl (Or.inl ⟨by rfl, fun wz hz => ?_⟩) hS ?_
              rotate_left
              (focus (go_simp; try (with_reducible rfl)))
              simp only [List.setIfInBounds_toArray, List.set_cons_succ, List.set_cons_zero]
              refine wpMix_put (v := ?_) rfl rfl (Or.inl ⟨by rfl, fun wz hz => ?_⟩) hS ?_
              rotate_left
              (focus (go_simp; try (with_reducible rfl)))
              simp only [List.setIfInBounds_toArray, List.set_cons_succ, List.set_cons_zero]
              refine wpMix_put (v := ?_) rfl rfl (Or.inl ⟨by rfl, fun wz hz => ?_⟩) hS ?_
              rotate_left
              (focus (go_simp; try (with_reducible rfl)))
              simp only [List.setIfInBounds_toArray, List.set_cons_succ, List.set_cons_zero]
              refine wpMix_put (v := ?_) rfl rfl (Or.inl ⟨by rfl, fun wz hz => ?_⟩) hS ?_
              rotate_left
              (focus (go_simp; try (with_reducible rfl)))
              simp only [List.setIfInBounds_toArray, List.set_cons_succ, List.set_cons_zero]
              refine wpMix_put (v := ?_) rfl rfl (Or.inl ⟨by rfl, fun wz hz => ?_⟩) hS ?_
              rotate_left
              (focus (go_simp; try (with_reducible rfl)))
              simp only [List.setIfInBounds_toArray, List.set_cons_succ, List.set_cons_zero]
              refine wpMix_put (v := ?_) rfl rfl (Or.inl ⟨by rfl, fun wz hz => ?_⟩) hS ?_
              rotate_left
              (focus (go_simp; try (with_reducible rfl)))
              simp only [List.setIfInBounds_toArray, List.set_cons_succ, List.set_cons_zero]
              refine wpMix_put (v := ?_) rfl rfl (Or.inl ⟨by rfl, fun wz hz => ?_⟩) hS ?_
              rotate_left
              (focus (go_simp; try (with_reducible rfl)))
              simp only [List.setIfInBounds_toArray, List.set_cons_succ, List.set_cons_zero]
              refine wpMix_step rfl (fun K hK => ?_)
              go_simp
              refine (below_any _ n1 c1 ms u.t.name _ (by omega) ((hr1.below hbi).below (hbk.tr hbc)) ((ht.below hbi).below (hbk.tr hbc))).mono ?_
              rintro e w7 ⟨A7, k7, c7, rfl, hc7, hk7, hs7, hbd⟩
              go_simp
              have hbc' := hbc.tr hbd
              have hb5c' := hb5c.tr hbd
              clear hbc hbd hb5c
              have hbc := hbc'
              have hb5c := hb5c'
              clear hbc' hb5c'
              have hS7 := hcells _ hbc
              refine hK _ _ (fun _ => hS7) ?_
              clear hK K hS
              have hS := hS7
              clear hS7
              refine wpMix_step rfl (fun K hK => ?_)
              go_simp
              refine (has_any _ _ _ _ _ _ (by omega) hs7).mono ?_
              rintro e _ ⟨rfl, rfl⟩
              rw [HB.out]
              go_simp
              refine hK _ _ (fun _ => hS) ?_
              clear hK K
              refine wpMix_put (v := ?_) rfl rfl (Or.inl ⟨by rfl, fun wz hz => ?_⟩) hS ?_
              rotate_left
              (focus (go_simp; try (with_reducible rfl)))
              simp only [List.setIfInBounds_toArray, List.set_cons_succ, List.set_cons_zero]
              refine wpMix_nil ?_
              obtain ⟨hS1, hS2⟩ := hS
              go_wp2_with (go_at_call 38; go_loud (refine (aboveOf_any _ n1 c1 ms u.t.name _ (by omega) ((hr1.below hbi).below (hbk.tr hbc)) ((ht.below hbi).below (hbk.tr hbc))).mono ?_; rw [AU.out]; rintro e w8 ⟨A8, k8, c8, rfl, hk8, hs8, hb8⟩))
              have hbk8 := hbk.tr (hbc.tr hb8)
              have hb58 := hb5c.tr hb8
              obtain ⟨wj0, hwj0⟩ : ∃ wj0 : World, wj0 = wr := ⟨_, rfl⟩
              subst hwj0
              go_loopw [13] (fun jj wj => ∃ j : Nat, j ≤ k8 ∧ jj = .int .i64 j ∧ Below w8.heap.size w8 wj) (fun jj _ => k8 - (intOf jj).toNat)
              case atStart => exact ⟨0, by omega, rfl, brefl⟩
              case round =>
                obtain ⟨j, hj, rfl, hbj⟩ := hrel
                by_cases hlj : j < k8
                · have hlj' : (j : Int) < k8 := by omega
                  go_wp2
                  go_roundw
                  case rel => exact ⟨k + 1, by omega, by go_num, hbk8.tr hbj, hb58.tr hbj⟩
                  case measure => simp [intOf]; omega
                · have hlj' : ¬ (j : Int) < k8 := by omega
                  go_wp2
                  go_roundw
                  case rel => exact ⟨k + 1, by omega, by go_num, hbk8.tr hbj, hb58.tr hbj⟩
                  case measure => simp [intOf]; omega
            · have hcells : ∀ wz, Below wr.heap.size wr wz → wz.cell? ⟨b, off + k * 5, none⟩ = some (.string u.t.name) ∧ wz.cell? ⟨b, off + i * 5, none⟩ = some (.string m.t.name) := fun wz hz => ⟨(hz.cell (p := ⟨b, off + k * 5, none⟩) hb0').trans e1, hcellsI _ (hbk.tr hz)⟩
              go_wp2_with (go_at_call 50; go_loud (refine (has_any _ _ _ _ _ _ (by omega) (hs5.below hb5k)).mono ?_; rintro e _ ⟨rfl, rfl⟩; rw [HIS.out]))
              have hbc : Below wr.heap.size wr wr.drew := brefl.drn 1
              have hb5c : Below w5.heap.size w5 wr.drew := hb5k.drn 1
              have hS := hcells _ hbc
              refine wp_region_mix [(true, 0), (true, 1), (true, 2), (true, 3), (true, 4), (true, 5), (true, 6), (true, 8), (true, 9), (true, 10), (true, 11), (true, 12), (false, 7), (false, 13), (true, 14)] 15 (fun wz => wz.cell? ⟨b, off + k * 5, none⟩ = some (.string u.t.name) ∧ wz.cell? ⟨b, off + i * 5, none⟩ = some (.string m.t.name)) (by kernel_rfl) (by kernel_rfl) ?_
              refine wpMix_put (v := ?_) rfl rfl (Or.inl ⟨by rfl, fun wz hz => ?_⟩) hS ?_
              rotate_left
              (focus (go_simp; try (with_reducible rfl)))
              simp only [List.setIfInBounds_toArray, List.set_cons_succ, List.set_cons_zero]
              refine wpMix_put (v := ?_) rfl rfl (Or.inl ⟨by rfl, fun wz hz => ?_⟩) hS ?_
              rotate_left
              (focus (go_simp; try (with_reducible rfl)))
              simp only [List.setIfInBounds_toArray, List.set_cons_succ, List.set_cons_zero]
              refine wpMix_put (v := ?_) rfl rfl (Or.inl ⟨by rfl, fun wz hz => ?_⟩) hS ?_
              rotate_left
              (focus (go_simp; try (with_reducible rfl)))
              simp only [List.setIfInBounds_toArray, List.set_cons_succ, List.set_cons_zero]
              refine wpMix_put (v := ?_) rfl rfl (Or.inl ⟨by rfl, fun wz hz => ?_⟩) hS ?_
              rotate_left
              (focus (go_simp; try (with_reducible rfl)))
              simp only [List.setIfInBounds_toArray, List.set_cons_succ, List.set_cons_zero]
              refine wpMix_put (v := ?_) rfl rfl (Or.inl ⟨by rfl, fun wz hz => ?_⟩) hS ?_
              rotate_left
              (focus (go_simp; try (with_reducible rfl)))
              simp only [List.setIfInBounds_toArray, List.set_cons_succ, List.set_cons_zero]
              refine wpMix_put (v := ?_) rfl rfl (Or.inl ⟨by rfl, fun wz hz => ?_⟩) hS ?_
              rotate_left
              (focus (go_simp; try (with_reducible rfl)))
              simp only [List.setIfInBounds_toArray, List.set_cons_succ, List.set_cons_zero]
              refine wpMix_put (v := ?_) rfl rfl (Or.inl ⟨by rfl, fun wz hz => ?_⟩) hS ?_
              rotate_left
              (focus (go_simp; try (with_reducible rfl)))
              simp only [List.setIfInBounds_toArray, List.set_cons_succ, List.set_cons_zero]
              refine wpMix_put (v := ?_) rfl rfl (Or.inl ⟨by rfl, fun wz hz => ?_⟩) hS ?_
              rotate_left
              (focus (go_simp; try (with_reducible rfl)))
              simp only [List.setIfInBounds_toArray, List.set_cons_succ, List.set_cons_zero]
              refine wpMix_put (v := ?_) rfl rfl (Or.inl ⟨by rfl, fun wz hz => ?_⟩) hS ?_
              rotate_left
              (focus (go_simp; try (with_reducible rfl)))
              simp only [List.setIfInBounds_toArray, List.set_cons_succ, List.set_cons_zero]
              refine wpMix_put (v := ?_) rfl rfl (Or.inl ⟨by rfl, fun wz hz => ?_⟩) hS ?_
              rotate_left
              (focus (go_simp; try (with_reducible rfl)))
              simp only [List.setIfInBounds_toArray, List.set_cons_succ, List.set_cons_zero]
              refine wpMix_put (v := ?_) rfl rfl (Or.inl ⟨by rfl, fun wz hz => ?_⟩) hS ?_
              rotate_left
              (focus (go_simp; try (with_reducible rfl)))
              simp only [List.setIfInBounds_toArray, List.set_cons_succ, List.set_cons_zero]
              refine wpMix_put (v := ?_) rfl rfl (Or.inl ⟨by rfl, fun wz hz => ?_⟩) hS ?_
              rotate_left
              (focus (go_simp; try (with_reducible rfl)))
              simp only [List.setIfInBounds_toArray, List.set_cons_succ, List.set_cons_zero]
              refine wpMix_step rfl (fun K hK => ?_)
              go_simp
              refine (below_any _ n1 c1 ms u.t.name _ (by omega) ((hr1.below hbi).below (hbk.tr hbc)) ((ht.below hbi).below (hbk.tr hbc))).mono ?_
              rintro e w7 ⟨A7, k7, c7, rfl, hc7, hk7, hs7, hbd⟩
              go_simp
              have hbc' := hbc.tr hbd
              have hb5c' := hb5c.tr hbd
              clear hbc hbd hb5c
              have hbc := hbc'
              have hb5c := hb5c'
              clear hbc' hb5c'
              have hS7 := hcells _ hbc
              refine hK _ _ (fun _ => hS7) ?_
              clear hK K hS
              have hS := hS7
              clear hS7
              refine wpMix_step rfl (fun K hK => ?_)
              go_simp
              refine (has_any _ _ _ _ _ _ (by omega) hs7).mono ?_
              rintro e _ ⟨rfl, rfl⟩
              rw [HB.out]
              go_simp
              refine hK _ _ (fun _ => hS) ?_
              clear hK K
              refine wpMix_put (v := ?_) rfl rfl (Or.inl ⟨by rfl, fun wz hz => ?_⟩) hS ?_
              rotate_left
              (focus (go_simp; try (with_reducible rfl)))
              simp only [List.setIfInBounds_toArray, List.set_cons_succ, List.set_cons_zero]
              refine wpMix_nil ?_
              obtain ⟨hS1, hS2⟩ := hS
              go_wp2_with (go_at_call 38; go_loud (refine (aboveOf_any _ n1 c1 ms u.t.name _ (by omega) ((hr1.below hbi).below (hbk.tr hbc)) ((ht.below hbi).below (hbk.tr hbc))).mono ?_; rw [AU.out]; rintro e w8 ⟨A8, k8, c8, rfl, hk8, hs8, hb8⟩))
              have hbk8 := hbk.tr (hbc.tr hb8)
              have hb58 := hb5c.tr hb8
              obtain ⟨wj0, hwj0⟩ : ∃ wj0 : World, wj0 = wr := ⟨_, rfl⟩
              subst hwj0
              go_loopw [13] (fun jj wj => ∃ j : Nat, j ≤ k8 ∧ jj = .int .i64 j ∧ Below w8.heap.size w8 wj) (fun jj _ => k8 - (intOf jj).toNat)
              case atStart => exact ⟨0, by omega, rfl, brefl⟩
              case round =>
                obtain ⟨j, hj, rfl, hbj⟩ := hrel
                by_cases hlj : j < k8
                · have hlj' : (j : Int) < k8 := by omega
                  obtain ⟨b9, off9, x9, rfl, hx9, hs9, hb9, hc9⟩ := (hs8.below hbj).at_ hlj
                  have HX := Lib.hid (show Rf.has (ups (brd (terms ms)) m.t.name) x9 = true from up_more HIS.out (List.mem_of_getElem? hx9))
                  clear hx9
                  go_wp2_with (go_at_call 50; go_loud (refine (has_any _ _ _ _ _ _ (by omega) (hs5.below (hb58.tr hbj))).mono ?_; rintro e _ ⟨rfl, rfl⟩; rw [HX.out]))
                  go_roundw
                  case rel => exact ⟨j + 1, by omega, by go_num, hbj⟩
                  case measure => simp [intOf]; omega
                · have hlj' : ¬ (j : Int) < k8 := by omega
                  go_wp2
                  go_roundw
                  case rel => exact ⟨k + 1, by omega, by go_num, hbk8.tr hbj, hb58.tr hbj⟩
                  case measure => simp [intOf]; omega
          · have hlk' : ¬ (k : Int) < n1 := by omega
            go_wp2
            go_roundw
            case rel => exact ⟨i + 1, by omega, by go_num, hbi.tr hbk⟩
            case measure => simp [intOf]; omega
    · have hin : i = n1 := by omega
      subst hin
      go_wp2_with (go_at_call 14; go_loud (refine (lives_any _ (hr1.below hbi)).mono ?_; rintro e w2 ⟨rfl, hb2⟩))
      go_ret
      exact ⟨rfl, hb1.tr (hbi.tr hb2)⟩
end Go.Proofs.YtdfnfimajhagfaaGreatDoor
