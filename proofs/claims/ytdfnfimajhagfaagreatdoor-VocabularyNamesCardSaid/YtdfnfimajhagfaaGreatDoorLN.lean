/- The law VocabularyNames, walked. -/
import Derived.Test.YtdfnfimajhagfaaGreatDoorT13
import Derived.Test.YtdfnfimajhagfaaGreatDoorRN
namespace Go.Proofs.YtdfnfimajhagfaaGreatDoor
open Go.RowKit Go.Maps Rf
set_option maxRecDepth 20000 in
set_option maxHeartbeats 1000000 in
theorem short_any (s : S) (most : Nat) (w : World) (_hm : most ≤ 1000000) (_hs : s.size ≤ maxLen) :
    Calls Tryz.prog 16 #[.string s, .int .i64 most] w fun e w' => ∃ r : S, e = .returned (.string r) ∧ r.size ≤ most ∧ w = w' := by
  unfold maxLen at _hs
  by_cases h : most < s.size
  · have h' : (most : Int) < s.size := by omega
    have h2 : (most : Int) ≤ s.size := by omega
    go_enter Tryz.func16, Tryz.ntmps16
    go_wp2
    go_ret
    exact ⟨_, rfl, by rw [ByteArray.size_extract]; omega, rfl⟩
  · have h' : ¬ (most : Int) < s.size := by omega
    go_enter Tryz.func16, Tryz.ntmps16
    go_wp2
    go_ret
    exact ⟨s, rfl, by omega, rfl⟩
set_option maxRecDepth 20000 in
set_option maxHeartbeats 1000000 in
theorem list_own (w : World) : Calls Tryz.prog 32 #[] w fun e w' => e = .returned (.slice (some ⟨w.heap.size, 0, none⟩) 8 8) ∧ Own w' w.heap.size 9 1 (.slice (some ⟨w.heap.size, 0, none⟩) 8 8) 8 (names8.map Value.string) ∧ Below w.heap.size w w' := by
  go_enter Tryz.func32, Tryz.ntmps32
  go_wp2
  go_ret
  exact ⟨rfl, Own.made w (names8.map Value.string) 9 (Nat.le_refl _) rfl (by decide), brefl.al _⟩
set_option maxRecDepth 20000 in
set_option maxHeartbeats 8000000 in
theorem names_law (A : Option Addr) (n c : Nat) (l : List Int) (how bys : Int) (raw : S) (w : World) (hr : Rdy w) (hl : Ints w A n l) (hh : i64ok how) (hb : i64ok bys) (hraw : raw.size ≤ maxLen) :
    Calls Tryz.prog 6 #[.slice A n c, .int .i64 how, .int .i64 bys, .string raw] w fun e w' => e = .returned (.bool true) ∧ Below w.heap.size w w' := by
  go_enter Tryz.func6, Tryz.ntmps6
  go_wp2_with (first
    | (go_at_call 11; go_loud (refine (lists_any _ _ _ _ _ _ _ hl hh hb).mono ?_; rintro e w1 ⟨bl, rfl, hV1, hb1⟩))
    | (go_at_call 32; go_loud (refine (list_own _).mono ?_; rintro e w2 ⟨rfl, ho2, hb2⟩))
    | (go_at_call 16; go_loud (refine (short_any raw 30 _ (by omega) hraw).mono ?_; rintro e _ ⟨sr, rfl, hsr, rfl⟩))
    | (at_builtin; go_loud (refine wpList_app _ stringsT rfl (.tmp 22) (.tmp 25) rfl (ho2.alloc _) rfl rfl (news := [.string sr, .string ⟨#[]⟩, .string eQueen]) rfl (rds_three w2 _ _ _ 9) (by simp [Value.oneCell']) ?_ ?_ ?_; (focus omega); (focus omega); intro A3 c3 w3 o3 n3 g3 _)))
  have hb3 : Below w1.heap.size w1 w3 := (hb2.al (.cells #[.string sr, .string ⟨#[]⟩, .string eQueen] 9)).gr g3 ho2.row
  have hS3 : Strs w3 A3 11 (names8 ++ [sr, ⟨#[]⟩, eQueen]) := Strs.own o3 (by simp) (fun x hx => by
    have hmx : (1000 : Nat) ≤ maxLen := by decide
    rcases List.mem_append.1 hx with hx | hx
    · have := names8_size x hx; omega
    · have h9 : eQueen.size ≤ 1000 ∧ (⟨#[]⟩ : S).size ≤ 1000 := by decide
      simp only [List.mem_cons, List.not_mem_nil, or_false] at hx
      rcases hx with rfl | rfl | rfl
      · omega
      · omega
      · omega)
  have hV3 := hV1.below hb3
  have hr3 := (hr.below hb1).below hb3
  have hb13 := hb1.tr hb3
  generalize names8 ++ [sr, ⟨#[]⟩, eQueen] = NL at hS3
  clear o3 g3 ho2 hV1 hl hr
  go_loopw [11] (fun ii wr => ∃ i : Nat, i ≤ 4 ∧ ii = .int .i64 i ∧ Below w3.heap.size w3 wr) (fun ii _ => 4 - (intOf ii).toNat)
  case atStart => exact ⟨0, by omega, rfl, brefl⟩
  case round =>
    obtain ⟨i, hi, rfl, hbi⟩ := hrel
    by_cases hlt : i < 4
    · have hlt' : (i : Int) < 4 := by omega
      go_wp2
      obtain ⟨wi, hwi⟩ : ∃ wi : World, wi = wr := ⟨_, rfl⟩
      subst hwi
      go_loopw [12] (fun kk wk => ∃ k : Nat, k ≤ 11 ∧ kk = .int .i64 k ∧ Below w3.heap.size w3 wk) (fun kk _ => 11 - (intOf kk).toNat)
      case atStart => exact ⟨0, by omega, rfl, hbi⟩
      case round =>
        clear hbi
        obtain ⟨k, hk, rfl, hbk⟩ := hrel
        by_cases hlk : k < 11
        · have hlk' : (k : Int) < 11 := by omega
          obtain ⟨bn, offn, nm, rfl, hxn, hnm, hbn0, hcn⟩ := (hS3.below hbk).at_ hlk
          have hVk := hV3.below hbk
          obtain ⟨Av, nv, cv, ms, hcv, hcap, hnv, ht, hsm, _⟩ := hVk.el i hlt
          have hrw := hr3.below hbk
          have hcells : ∀ wz, Below wr.heap.size wr wz → wz.cell? ⟨bl, i, none⟩ = some (.slice Av nv cv) := fun wz hz => (hz.cell (p := ⟨bl, i, none⟩) hVk.lt).trans hcv
          clear hxn
          have hpp := prefer_any Av nv cv ms nm wr (by omega) hrw ht
          have hpr := fun w2 (hb2 : Below wr.heap.size wr w2) => rprefer_any Av nv cv ms nm w2 (by omega) (ht.below hb2) hsm
          generalize prefer (terms ms) nm = PR at hpp hpr
          obtain ⟨PS, PE⟩ := PR
          dsimp only at hpp hpr
          have HR := Lib.hid hpr
          clear hpr
          go_wp2_with (first
            | (go_at_call 33; go_loud (refine hpp.mono ?_; rintro e w4 ⟨rfl, hb4⟩; have hc4 := hcells _ hb4))
            | (go_at_call 34; go_loud (refine (HR.out w4 hb4).mono ?_; rintro e w5 ⟨rfl, hb5⟩)))
          have hbc : Below wr.heap.size wr w5.drew := (hb4.tr hb5).drn 1
          have hS := hcells _ hbc
          refine wp_region_mix [(true, 0), (true, 1), (true, 2), (true, 3), (true, 4), (true, 6), (true, 7), (true, 8), (true, 9), (true, 10), (false, 5), (false, 11), (true, 12), (true, 13), (true, 14), (true, 15), (true, 16), (true, 17), (true, 18), (true, 19), (true, 20), (true, 21), (true, 22), (true, 23), (true, 24), (true, 25), (true, 26), (true, 27), (true, 28), (true, 30), (true, 31), (true, 32), (true, 33), (true, 34), (false, 29), (false, 35), (false, 36), (true, 37), (true, 38)] 39 (fun wz => wz.cell? ⟨bl, i, none⟩ = some (.slice Av nv cv)) (by kernel_rfl) (by kernel_rfl) ?_
          refine wpMix_put (v := ?_) rfl rfl (Or.inl ⟨by rfl, fun wz hz => ?_⟩) hS ?_
          rotate_left
          (focus (go_simp; try (with_reducible rfl)))
          simp only [List.setIfInBounds_toArray, List.set_cons_succ, List.set_cons_zero]
          refine wpMix_put (v := ?_) rfl rfl (Or.inl ⟨by rfl, fun wz hz => ?_⟩) hS ?_
          rotate_left
          (focus (go_simp; try (with_reducible rfl)))
          simp only [List.setIfInBounds_toArray, List.set_cons_succ, List.set_cons_zero]
          refine wpMix_put (v := ?_) rfl rfl (Or.inl ⟨by rfl, fun wz hz => ?_⟩) hS ?_
          rotate_left
          (focus (go_simp; try (with_reducible rfl)))
          simp only [List.setIfInBounds_toArray, List.set_cons_succ, List.set_cons_zero]
          refine wpMix_put (v := ?_) rfl rfl (Or.inl ⟨by rfl, fun wz hz => ?_⟩) hS ?_
          rotate_left
          (focus (go_simp; try (with_reducible rfl)))
          simp only [List.setIfInBounds_toArray, List.set_cons_succ, List.set_cons_zero]
          refine wpMix_put (v := ?_) rfl rfl (Or.inl ⟨by rfl, fun wz hz => ?_⟩) hS ?_
          rotate_left
          (focus (go_simp; try (with_reducible rfl)))
          simp only [List.setIfInBounds_toArray, List.set_cons_succ, List.set_cons_zero]
          refine wpMix_put (v := ?_) rfl rfl (Or.inl ⟨by rfl, fun wz hz => ?_⟩) hS ?_
          rotate_left
          (focus (go_simp; try (with_reducible rfl)))
          simp only [List.setIfInBounds_toArray, List.set_cons_succ, List.set_cons_zero]
          refine wpMix_put (v := ?_) rfl rfl (Or.inl ⟨by rfl, fun wz hz => ?_⟩) hS ?_
          rotate_left
          (focus (go_simp; try (with_reducible rfl)))
          simp only [List.setIfInBounds_toArray, List.set_cons_succ, List.set_cons_zero]
          refine wpMix_put (v := ?_) rfl rfl (Or.inl ⟨by rfl, fun wz hz => ?_⟩) hS ?_
          rotate_left
          (focus (go_simp; try (with_reducible rfl)))
          simp only [List.setIfInBounds_toArray, List.set_cons_succ, List.set_cons_zero]
          refine wpMix_put (v := ?_) rfl rfl (Or.inl ⟨by rfl, fun wz hz => ?_⟩) hS ?_
          rotate_left
          (focus (go_simp; try (with_reducible rfl)))
          simp only [List.setIfInBounds_toArray, List.set_cons_succ, List.set_cons_zero]
          refine wpMix_put (v := ?_) rfl rfl (Or.inl ⟨by rfl, fun wz hz => ?_⟩) hS ?_
          rotate_left
          (focus (go_simp; try (with_reducible rfl)))
          simp only [List.setIfInBounds_toArray, List.set_cons_succ, List.set_cons_zero]
          refine wpMix_step rfl (fun K hK => ?_)
          go_simp
          refine (vfind_any Av nv cv ms nm _ (by omega) (ht.below hbc)).mono ?_
          rintro e w5 ⟨rfl, hbd⟩
          go_simp
          have hbc' := hbc.tr hbd
          clear hbc hbd
          have hbc := hbc'
          clear hbc'
          have hS7 := hcells _ hbc
          refine hK _ _ (fun _ => hS7) ?_
          clear hK K hS
          have hS := hS7
          clear hS7
          refine wpMix_step rfl (fun K hK => ?_)
          go_simp
          refine (rfind_any Av nv cv ms nm _ (by omega) (ht.below hbc)).mono ?_
          rintro e _ ⟨rfl, rfl⟩
          go_simp
          refine hK _ _ (fun _ => hS) ?_
          clear hK K
          refine wpMix_put (v := ?_) rfl rfl (Or.inl ⟨by rfl, fun wz hz => ?_⟩) hS ?_
          rotate_left
          (focus (go_simp; try (with_reducible rfl)))
          simp only [List.setIfInBounds_toArray, List.set_cons_succ, List.set_cons_zero]
          refine wpMix_put (v := ?_) rfl rfl (Or.inl ⟨by rfl, fun wz hz => ?_⟩) hS ?_
          rotate_left
          (focus (go_simp; try (with_reducible rfl)))
          simp only [List.setIfInBounds_toArray, List.set_cons_succ, List.set_cons_zero]
          refine wpMix_put (v := ?_) rfl rfl (Or.inl ⟨by rfl, fun wz hz => ?_⟩) hS ?_
          rotate_left
          (focus (go_simp; try (with_reducible rfl)))
          simp only [List.setIfInBounds_toArray, List.set_cons_succ, List.set_cons_zero]
          refine wpMix_put (v := ?_) rfl rfl (Or.inl ⟨by rfl, fun wz hz => ?_⟩) hS ?_
          rotate_left
          (focus (go_simp; try (with_reducible rfl)))
          simp only [List.setIfInBounds_toArray, List.set_cons_succ, List.set_cons_zero]
          refine wpMix_put (v := ?_) rfl rfl (Or.inl ⟨by rfl, fun wz hz => ?_⟩) hS ?_
          rotate_left
          (focus (go_simp; try (with_reducible rfl)))
          simp only [List.setIfInBounds_toArray, List.set_cons_succ, List.set_cons_zero]
          refine wpMix_put (v := ?_) rfl rfl (Or.inl ⟨by rfl, fun wz hz => ?_⟩) hS ?_
          rotate_left
          (focus (go_simp; try (with_reducible rfl)))
          simp only [List.setIfInBounds_toArray, List.set_cons_succ, List.set_cons_zero]
          refine wpMix_put (v := ?_) rfl rfl (Or.inl ⟨by rfl, fun wz hz => ?_⟩) hS ?_
          rotate_left
          (focus (go_simp; try (with_reducible rfl)))
          simp only [List.setIfInBounds_toArray, List.set_cons_succ, List.set_cons_zero]
          refine wpMix_put (v := ?_) rfl rfl (Or.inl ⟨by rfl, fun wz hz => ?_⟩) hS ?_
          rotate_left
          (focus (go_simp; try (with_reducible rfl)))
          simp only [List.setIfInBounds_toArray, List.set_cons_succ, List.set_cons_zero]
          refine wpMix_put (v := ?_) rfl rfl (Or.inl ⟨by rfl, fun wz hz => ?_⟩) hS ?_
          rotate_left
          (focus (go_simp; try (with_reducible rfl)))
          simp only [List.setIfInBounds_toArray, List.set_cons_succ, List.set_cons_zero]
          refine wpMix_put (v := ?_) rfl rfl (Or.inl ⟨by rfl, fun wz hz => ?_⟩) hS ?_
          rotate_left
          (focus (go_simp; try (with_reducible rfl)))
          simp only [List.setIfInBounds_toArray, List.set_cons_succ, List.set_cons_zero]
          refine wpMix_put (v := ?_) rfl rfl (Or.inl ⟨by rfl, fun wz hz => ?_⟩) hS ?_
          rotate_left
          (focus (go_simp; try (with_reducible rfl)))
          simp only [List.setIfInBounds_toArray, List.set_cons_succ, List.set_cons_zero]
          refine wpMix_put (v := ?_) rfl rfl (Or.inl ⟨by rfl, fun wz hz => ?_⟩) hS ?_
          rotate_left
          (focus (go_simp; try (with_reducible rfl)))
          simp only [List.setIfInBounds_toArray, List.set_cons_succ, List.set_cons_zero]
          refine wpMix_put (v := ?_) rfl rfl (Or.inl ⟨by rfl, fun wz hz => ?_⟩) hS ?_
          rotate_left
          (focus (go_simp; try (with_reducible rfl)))
          simp only [List.setIfInBounds_toArray, List.set_cons_succ, List.set_cons_zero]
          refine wpMix_put (v := ?_) rfl rfl (Or.inl ⟨by rfl, fun wz hz => ?_⟩) hS ?_
          rotate_left
          (focus (go_simp; try (with_reducible rfl)))
          simp only [List.setIfInBounds_toArray, List.set_cons_succ, List.set_cons_zero]
          refine wpMix_put (v := ?_) rfl rfl (Or.inl ⟨by rfl, fun wz hz => ?_⟩) hS ?_
          rotate_left
          (focus (go_simp; try (with_reducible rfl)))
          simp only [List.setIfInBounds_toArray, List.set_cons_succ, List.set_cons_zero]
          refine wpMix_put (v := ?_) rfl rfl (Or.inl ⟨by rfl, fun wz hz => ?_⟩) hS ?_
          rotate_left
          (focus (go_simp; try (with_reducible rfl)))
          simp only [List.setIfInBounds_toArray, List.set_cons_succ, List.set_cons_zero]
          refine wpMix_put (v := ?_) rfl rfl (Or.inl ⟨by rfl, fun wz hz => ?_⟩) hS ?_
          rotate_left
          (focus (go_simp; try (with_reducible rfl)))
          simp only [List.setIfInBounds_toArray, List.set_cons_succ, List.set_cons_zero]
          refine wpMix_put (v := ?_) rfl rfl (Or.inl ⟨by rfl, fun wz hz => ?_⟩) hS ?_
          rotate_left
          (focus (go_simp; try (with_reducible rfl)))
          simp only [List.setIfInBounds_toArray, List.set_cons_succ, List.set_cons_zero]
          refine wpMix_put (v := ?_) rfl rfl (Or.inl ⟨by rfl, fun wz hz => ?_⟩) hS ?_
          rotate_left
          (focus (go_simp; try (with_reducible rfl)))
          simp only [List.setIfInBounds_toArray, List.set_cons_succ, List.set_cons_zero]
          refine wpMix_put (v := ?_) rfl rfl (Or.inl ⟨by rfl, fun wz hz => ?_⟩) hS ?_
          rotate_left
          (focus (go_simp; try (with_reducible rfl)))
          simp only [List.setIfInBounds_toArray, List.set_cons_succ, List.set_cons_zero]
          refine wpMix_put (v := ?_) rfl rfl (Or.inl ⟨by rfl, fun wz hz => ?_⟩) hS ?_
          rotate_left
          (focus (go_simp; try (with_reducible rfl)))
          simp only [List.setIfInBounds_toArray, List.set_cons_succ, List.set_cons_zero]
          refine wpMix_put (v := ?_) rfl rfl (Or.inl ⟨by rfl, fun wz hz => ?_⟩) hS ?_
          rotate_left
          (focus (go_simp; try (with_reducible rfl)))
          simp only [List.setIfInBounds_toArray, List.set_cons_succ, List.set_cons_zero]
          refine wpMix_step rfl (fun K hK => ?_)
          go_simp
          refine (aliases_any Av nv cv ms nm _ (by omega) (hrw.below hbc) (ht.below hbc)).mono ?_
          rintro e w6 ⟨A6, k6, c6, rfl, hc6, hk6, hs6, hbd⟩
          go_simp
          have hbc' := hbc.tr hbd
          clear hbc hbd
          have hbc := hbc'
          clear hbc'
          have hS7 := hcells _ hbc
          refine hK _ _ (fun _ => hS7) ?_
          clear hK K hS
          have hS := hS7
          clear hS7
          refine wpMix_step rfl (fun K hK => ?_)
          go_simp
          refine (raliases_any Av nv cv ms nm _ (by omega) (ht.below hbc) hsm).mono ?_
          rintro e w7 ⟨A7, k7, c7, rfl, hc7, hk7, hs7, hbd⟩
          have hs6d := hs6.below hbd
          clear hs6
          have hs6 := hs6d
          clear hs6d
          obtain rfl : k6 = k7 := hs6.1.symm.trans hs7.1
          go_simp
          have hbc' := hbc.tr hbd
          clear hbc hbd
          have hbc := hbc'
          clear hbc'
          have hS7 := hcells _ hbc
          refine hK _ _ (fun _ => hS7) ?_
          clear hK K hS
          have hS := hS7
          clear hS7
          refine wpMix_step rfl (fun K hK => ?_)
          go_simp
          refine (sameTexts_any A6 A7 k6 c6 c7 _ _ (by omega) hs6 hs7).mono ?_
          rintro e w8 ⟨rfl, hbd⟩
          clear hs6 hs7
          go_simp
          have hbc' := hbc.tr hbd
          clear hbc hbd
          have hbc := hbc'
          clear hbc'
          have hS7 := hcells _ hbc
          refine hK _ _ (fun _ => hS7) ?_
          clear hK K hS
          have hS := hS7
          clear hS7
          refine wpMix_put (v := ?_) rfl rfl (Or.inl ⟨by rfl, fun wz hz => ?_⟩) hS ?_
          rotate_left
          (focus (go_simp; try (with_reducible rfl)))
          simp only [List.setIfInBounds_toArray, List.set_cons_succ, List.set_cons_zero]
          refine wpMix_put (v := ?_) rfl rfl (Or.inl ⟨by rfl, fun wz hz => ?_⟩) hS ?_
          rotate_left
          (focus (go_simp; try (with_reducible rfl)))
          simp only [List.setIfInBounds_toArray, List.set_cons_succ, List.set_cons_zero]
          refine wpMix_nil ?_
          have hbc9 := hbc.drn 1
          clear hbc hS hc4 hpp
          have hbc := hbc9
          clear hbc9
          go_wp2
          have hS := hcells _ hbc
          refine wp_region_mix [(true, 0), (true, 1), (true, 2), (true, 3), (true, 4), (true, 6), (true, 7), (true, 8), (true, 9), (true, 10), (false, 5), (false, 11), (false, 12), (true, 13), (true, 14), (true, 15), (true, 16), (true, 17), (true, 18), (true, 19), (true, 21), (true, 22), (true, 23), (true, 24), (true, 25), (false, 20), (false, 26), (false, 27), (true, 28), (true, 29)] 30 (fun wz => wz.cell? ⟨bl, i, none⟩ = some (.slice Av nv cv)) (by kernel_rfl) (by kernel_rfl) ?_
          refine wpMix_put (v := ?_) rfl rfl (Or.inl ⟨by rfl, fun wz hz => ?_⟩) hS ?_
          rotate_left
          (focus (go_simp; try (with_reducible rfl)))
          simp only [List.setIfInBounds_toArray, List.set_cons_succ, List.set_cons_zero]
          refine wpMix_put (v := ?_) rfl rfl (Or.inl ⟨by rfl, fun wz hz => ?_⟩) hS ?_
          rotate_left
          (focus (go_simp; try (with_reducible rfl)))
          simp only [List.setIfInBounds_toArray, List.set_cons_succ, List.set_cons_zero]
          refine wpMix_put (v := ?_) rfl rfl (Or.inl ⟨by rfl, fun wz hz => ?_⟩) hS ?_
          rotate_left
          (focus (go_simp; try (with_reducible rfl)))
          simp only [List.setIfInBounds_toArray, List.set_cons_succ, List.set_cons_zero]
          refine wpMix_put (v := ?_) rfl rfl (Or.inl ⟨by rfl, fun wz hz => ?_⟩) hS ?_
          rotate_left
          (focus (go_simp; try (with_reducible rfl)))
          simp only [List.setIfInBounds_toArray, List.set_cons_succ, List.set_cons_zero]
          refine wpMix_put (v := ?_) rfl rfl (Or.inl ⟨by rfl, fun wz hz => ?_⟩) hS ?_
          rotate_left
          (focus (go_simp; try (with_reducible rfl)))
          simp only [List.setIfInBounds_toArray, List.set_cons_succ, List.set_cons_zero]
          refine wpMix_put (v := ?_) rfl rfl (Or.inl ⟨by rfl, fun wz hz => ?_⟩) hS ?_
          rotate_left
          (focus (go_simp; try (with_reducible rfl)))
          simp only [List.setIfInBounds_toArray, List.set_cons_succ, List.set_cons_zero]
          refine wpMix_put (v := ?_) rfl rfl (Or.inl ⟨by rfl, fun wz hz => ?_⟩) hS ?_
          rotate_left
          (focus (go_simp; try (with_reducible rfl)))
          simp only [List.setIfInBounds_toArray, List.set_cons_succ, List.set_cons_zero]
          refine wpMix_put (v := ?_) rfl rfl (Or.inl ⟨by rfl, fun wz hz => ?_⟩) hS ?_
          rotate_left
          (focus (go_simp; try (with_reducible rfl)))
          simp only [List.setIfInBounds_toArray, List.set_cons_succ, List.set_cons_zero]
          refine wpMix_put (v := ?_) rfl rfl (Or.inl ⟨by rfl, fun wz hz => ?_⟩) hS ?_
          rotate_left
          (focus (go_simp; try (with_reducible rfl)))
          simp only [List.setIfInBounds_toArray, List.set_cons_succ, List.set_cons_zero]
          refine wpMix_put (v := ?_) rfl rfl (Or.inl ⟨by rfl, fun wz hz => ?_⟩) hS ?_
          rotate_left
          (focus (go_simp; try (with_reducible rfl)))
          simp only [List.setIfInBounds_toArray, List.set_cons_succ, List.set_cons_zero]
          refine wpMix_step rfl (fun K hK => ?_)
          go_simp
          refine (aboveOf_any Av nv cv ms nm _ (by omega) (hrw.below hbc) (ht.below hbc)).mono ?_
          rintro e w6 ⟨A6, k6, c6, rfl, hk6, hs6, hbd⟩
          go_simp
          have hbc' := hbc.tr hbd
          clear hbc hbd
          have hbc := hbc'
          clear hbc'
          have hS7 := hcells _ hbc
          refine hK _ _ (fun _ => hS7) ?_
          clear hK K hS
          have hS := hS7
          clear hS7
          refine wpMix_step rfl (fun K hK => ?_)
          go_simp
          refine (rabove_any Av nv cv ms nm _ (by omega) hnm (ht.below hbc) hsm).mono ?_
          rintro e w7 ⟨A7, k7, c7, rfl, hk7, hs7, hbd⟩
          have hs6d := hs6.below hbd
          clear hs6
          have hs6 := hs6d
          clear hs6d
          obtain rfl : k6 = k7 := hs6.1.symm.trans hs7.1
          go_simp
          have hbc' := hbc.tr hbd
          clear hbc hbd
          have hbc := hbc'
          clear hbc'
          have hS7 := hcells _ hbc
          refine hK _ _ (fun _ => hS7) ?_
          clear hK K hS
          have hS := hS7
          clear hS7
          refine wpMix_step rfl (fun K hK => ?_)
          go_simp
          refine (sameTexts_any A6 A7 k6 c6 c7 _ _ (by omega) hs6 hs7).mono ?_
          rintro e w8 ⟨rfl, hbd⟩
          clear hs6 hs7
          go_simp
          have hbc' := hbc.tr hbd
          clear hbc hbd
          have hbc := hbc'
          clear hbc'
          have hS7 := hcells _ hbc
          refine hK _ _ (fun _ => hS7) ?_
          clear hK K hS
          have hS := hS7
          clear hS7
          refine wpMix_put (v := ?_) rfl rfl (Or.inl ⟨by rfl, fun wz hz => ?_⟩) hS ?_
          rotate_left
          (focus (go_simp; try (with_reducible rfl)))
          simp only [List.setIfInBounds_toArray, List.set_cons_succ, List.set_cons_zero]
          refine wpMix_put (v := ?_) rfl rfl (Or.inl ⟨by rfl, fun wz hz => ?_⟩) hS ?_
          rotate_left
          (focus (go_simp; try (with_reducible rfl)))
          simp only [List.setIfInBounds_toArray, List.set_cons_succ, List.set_cons_zero]
          refine wpMix_put (v := ?_) rfl rfl (Or.inl ⟨by rfl, fun wz hz => ?_⟩) hS ?_
          rotate_left
          (focus (go_simp; try (with_reducible rfl)))
          simp only [List.setIfInBounds_toArray, List.set_cons_succ, List.set_cons_zero]
          refine wpMix_put (v := ?_) rfl rfl (Or.inl ⟨by rfl, fun wz hz => ?_⟩) hS ?_
          rotate_left
          (focus (go_simp; try (with_reducible rfl)))
          simp only [List.setIfInBounds_toArray, List.set_cons_succ, List.set_cons_zero]
          refine wpMix_put (v := ?_) rfl rfl (Or.inl ⟨by rfl, fun wz hz => ?_⟩) hS ?_
          rotate_left
          (focus (go_simp; try (with_reducible rfl)))
          simp only [List.setIfInBounds_toArray, List.set_cons_succ, List.set_cons_zero]
          refine wpMix_put (v := ?_) rfl rfl (Or.inl ⟨by rfl, fun wz hz => ?_⟩) hS ?_
          rotate_left
          (focus (go_simp; try (with_reducible rfl)))
          simp only [List.setIfInBounds_toArray, List.set_cons_succ, List.set_cons_zero]
          refine wpMix_put (v := ?_) rfl rfl (Or.inl ⟨by rfl, fun wz hz => ?_⟩) hS ?_
          rotate_left
          (focus (go_simp; try (with_reducible rfl)))
          simp only [List.setIfInBounds_toArray, List.set_cons_succ, List.set_cons_zero]
          refine wpMix_put (v := ?_) rfl rfl (Or.inl ⟨by rfl, fun wz hz => ?_⟩) hS ?_
          rotate_left
          (focus (go_simp; try (with_reducible rfl)))
          simp only [List.setIfInBounds_toArray, List.set_cons_succ, List.set_cons_zero]
          refine wpMix_put (v := ?_) rfl rfl (Or.inl ⟨by rfl, fun wz hz => ?_⟩) hS ?_
          rotate_left
          (focus (go_simp; try (with_reducible rfl)))
          simp only [List.setIfInBounds_toArray, List.set_cons_succ, List.set_cons_zero]
          refine wpMix_put (v := ?_) rfl rfl (Or.inl ⟨by rfl, fun wz hz => ?_⟩) hS ?_
          rotate_left
          (focus (go_simp; try (with_reducible rfl)))
          simp only [List.setIfInBounds_toArray, List.set_cons_succ, List.set_cons_zero]
          refine wpMix_put (v := ?_) rfl rfl (Or.inl ⟨by rfl, fun wz hz => ?_⟩) hS ?_
          rotate_left
          (focus (go_simp; try (with_reducible rfl)))
          simp only [List.setIfInBounds_toArray, List.set_cons_succ, List.set_cons_zero]
          refine wpMix_put (v := ?_) rfl rfl (Or.inl ⟨by rfl, fun wz hz => ?_⟩) hS ?_
          rotate_left
          (focus (go_simp; try (with_reducible rfl)))
          simp only [List.setIfInBounds_toArray, List.set_cons_succ, List.set_cons_zero]
          refine wpMix_step rfl (fun K hK => ?_)
          go_simp
          refine (below_any Av nv cv ms nm _ (by omega) (hrw.below hbc) (ht.below hbc)).mono ?_
          rintro e w6 ⟨A6, k6, c6, rfl, hc6, hk6, hs6, hbd⟩
          go_simp
          have hbc' := hbc.tr hbd
          clear hbc hbd
          have hbc := hbc'
          clear hbc'
          have hS7 := hcells _ hbc
          refine hK _ _ (fun _ => hS7) ?_
          clear hK K hS
          have hS := hS7
          clear hS7
          refine wpMix_step rfl (fun K hK => ?_)
          go_simp
          refine (rbelow_any Av nv cv ms nm _ (by omega) (ht.below hbc) hsm).mono ?_
          rintro e w7 ⟨A7, k7, c7, rfl, hc7, hk7, hs7, hbd⟩
          have hs6d := hs6.below hbd
          clear hs6
          have hs6 := hs6d
          clear hs6d
          obtain rfl : k6 = k7 := hs6.1.symm.trans hs7.1
          go_simp
          have hbc' := hbc.tr hbd
          clear hbc hbd
          have hbc := hbc'
          clear hbc'
          have hS7 := hcells _ hbc
          refine hK _ _ (fun _ => hS7) ?_
          clear hK K hS
          have hS := hS7
          clear hS7
          refine wpMix_step rfl (fun K hK => ?_)
          go_simp
          refine (sameTexts_any A6 A7 k6 c6 c7 _ _ (by omega) hs6 hs7).mono ?_
          rintro e w8 ⟨rfl, hbd⟩
          clear hs6 hs7
          go_simp
          have hbc' := hbc.tr hbd
          clear hbc hbd
          have hbc := hbc'
          clear hbc'
          have hS7 := hcells _ hbc
          refine hK _ _ (fun _ => hS7) ?_
          clear hK K hS
          have hS := hS7
          clear hS7
          refine wpMix_put (v := ?_) rfl rfl (Or.inl ⟨by rfl, fun wz hz => ?_⟩) hS ?_
          rotate_left
          (focus (go_simp; try (with_reducible rfl)))
          simp only [List.setIfInBounds_toArray, List.set_cons_succ, List.set_cons_zero]
          refine wpMix_put (v := ?_) rfl rfl (Or.inl ⟨by rfl, fun wz hz => ?_⟩) hS ?_
          rotate_left
          (focus (go_simp; try (with_reducible rfl)))
          simp only [List.setIfInBounds_toArray, List.set_cons_succ, List.set_cons_zero]
          refine wpMix_nil ?_
          go_wp2
          go_roundw
          case rel => exact ⟨k + 1, by omega, by go_num, hbk.tr hbc⟩
          case measure => simp [intOf]; omega
        · have hlk' : ¬ (k : Int) < 11 := by omega
          go_wp2
          go_roundw
          case rel => exact ⟨i + 1, by omega, by go_num, hbk⟩
          case measure => simp [intOf]; omega
    · have hi4 : i = 4 := by omega
      subst hi4
      go_wp2_with (go_at_call 14; go_loud (refine (lives_any _ (hr3.below hbi)).mono ?_; rintro e w2 ⟨rfl, hb2⟩))
      go_ret
      exact ⟨rfl, hb13.tr (hbi.tr hb2)⟩
end Go.Proofs.YtdfnfimajhagfaaGreatDoor
