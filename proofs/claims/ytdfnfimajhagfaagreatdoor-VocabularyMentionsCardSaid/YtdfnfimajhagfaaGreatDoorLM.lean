/- The law VocabularyMentions, walked. -/
import Derived.Test.YtdfnfimajhagfaaGreatDoorT13
import Derived.Test.YtdfnfimajhagfaaGreatDoorMF
namespace Go.Proofs.YtdfnfimajhagfaaGreatDoor
open Go.RowKit Go.Maps Rf
set_option maxRecDepth 20000 in
set_option maxHeartbeats 8000000 in
theorem mentions_law (A : Option Addr) (n c : Nat) (l : List Int) (how bys : Int) (A3 : Option Addr) (n3 c3 : Nat) (l3 : List Int) (raw : S) (lang : Int) (w : World) (hr : Rdy w) (hl : Ints w A n l) (hh : i64ok how) (hb : i64ok bys) (hl3 : Ints w A3 n3 l3) (hlang : i64ok lang) :
    Calls Tryz.prog 5 #[.slice A n c, .int .i64 how, .int .i64 bys, .slice A3 n3 c3, .string raw, .int .i64 lang] w fun e w' => e = .returned (.bool true) ∧ Below w.heap.size w w' := by
  go_enter Tryz.func5, Tryz.ntmps5
  go_wp2_with (first
    | (go_at_call 11; go_loud (refine (lists_any _ _ _ _ _ _ _ hl hh hb).mono ?_; rintro e w1 ⟨bl, rfl, hV1, hb1⟩))
    | (go_at_call 21; go_loud (refine (ltext_any A3 n3 c3 l3 raw _ (hl3.below hb1)).mono ?_; rintro e w2 ⟨s0, rfl, hs0, hb2⟩))
    | (go_at_call 22; go_loud (refine (rtext_any A3 n3 c3 l3 0 _ (hl3.below (hb1.tr hb2)) (by omega)).mono ?_; rintro e w3 ⟨s1, rfl, hs1, hb3⟩))
    | (go_at_call 23; go_loud (refine (rmarked_any A3 n3 c3 l3 1 _ (hl3.below ((hb1.tr hb2).tr hb3)) (by omega)).mono ?_; rintro e w4 ⟨s2, rfl, hs2, hb4⟩))
    | (go_at_call 24; go_loud (refine (around_nat lang 4 _ hlang (by omega) (by omega)).mono ?_; rintro e _ ⟨⟨v4, rfl, hv4⟩, rfl⟩)))
  obtain ⟨w5, hw5⟩ : ∃ w5, (w4.alloc (.cells #[.string s0, .string s1, .string s2] 9)).alloc (.cells #[.int .i64 0, .int .i64 v4, .int .i64 lang] 3) = w5 := ⟨_, rfl⟩
  have hb45 : Below w4.heap.size w4 w5 := by rw [← hw5]; exact (brefl.al _).al _
  obtain ⟨SB, hSB⟩ : ∃ SB, w4.heap.size = SB := ⟨_, rfl⟩
  have hstr : ∀ q, q < 3 → ∃ x : S, x.size ≤ 400 ∧ ∀ wz, Below w5.heap.size w5 wz → wz.cell? ⟨SB, q, none⟩ = some (.string x) := fun q hq => by
    have hlt : SB < w5.heap.size := by rw [← hw5, ← hSB]; simp; omega
    match q, hq with
    | 0, _ => exact ⟨s0, hs0, fun wz hz => (hz.cell (p := ⟨SB, 0, none⟩) hlt).trans (by rw [← hw5, ← hSB]; simp)⟩
    | 1, _ => exact ⟨s1, by omega, fun wz hz => (hz.cell (p := ⟨SB, 1, none⟩) hlt).trans (by rw [← hw5, ← hSB]; simp)⟩
    | 2, _ => exact ⟨s2, hs2, fun wz hz => (hz.cell (p := ⟨SB, 2, none⟩) hlt).trans (by rw [← hw5, ← hSB]; simp)⟩
  have hint : ∀ q, q < 3 → ∃ x : Int, ∀ wz, Below w5.heap.size w5 wz → wz.cell? ⟨SB + 1, q, none⟩ = some (.int .i64 x) := fun q hq => by
    have hlt : SB + 1 < w5.heap.size := by rw [← hw5, ← hSB]; simp
    match q, hq with
    | 0, _ => exact ⟨0, fun wz hz => (hz.cell (p := ⟨SB + 1, 0, none⟩) hlt).trans (by rw [← hw5, ← hSB]; exact cell_of_row _ _ 0 #[.int .i64 0, .int .i64 v4, .int .i64 lang] 3 (0, 0) (by rw [← World.size_alloc w4 (.cells #[.string s0, .string s1, .string s2] 9)]; exact heap_alloc_new _ _))⟩
    | 1, _ => exact ⟨v4, fun wz hz => (hz.cell (p := ⟨SB + 1, 1, none⟩) hlt).trans (by rw [← hw5, ← hSB]; exact cell_of_row _ _ 1 #[.int .i64 0, .int .i64 v4, .int .i64 lang] 3 (0, 0) (by rw [← World.size_alloc w4 (.cells #[.string s0, .string s1, .string s2] 9)]; exact heap_alloc_new _ _))⟩
    | 2, _ => exact ⟨lang, fun wz hz => (hz.cell (p := ⟨SB + 1, 2, none⟩) hlt).trans (by rw [← hw5, ← hSB]; exact cell_of_row _ _ 2 #[.int .i64 0, .int .i64 v4, .int .i64 lang] 3 (0, 0) (by rw [← World.size_alloc w4 (.cells #[.string s0, .string s1, .string s2] 9)]; exact heap_alloc_new _ _))⟩
  have HSTR := Lib.hid hstr
  have HINT := Lib.hid hint
  have hb14 := ((hb1.tr hb2).tr (hb3.tr hb4)).tr hb45
  have hV5 := ((hV1.below hb2).below (hb3.tr hb4)).below hb45
  have hr5 := hr.below hb14
  rw [hw5, hSB]
  clear hw5 hSB hstr hint hV1 hl hl3 hr hb45 hb4 hb3 hb2 hb1 hs0 hs1 hs2
  go_loopw [16] (fun ii wr => ∃ i : Nat, i ≤ 4 ∧ ii = .int .i64 i ∧ Below w5.heap.size w5 wr) (fun ii _ => 4 - (intOf ii).toNat)
  case atStart => exact ⟨0, by omega, rfl, brefl⟩
  case round =>
    obtain ⟨i, hi, rfl, hbi⟩ := hrel
    by_cases hlt : i < 4
    · have hlt' : (i : Int) < 4 := by omega
      go_wp2
      obtain ⟨wi, hwi⟩ : ∃ wi : World, wi = wr := ⟨_, rfl⟩
      subst hwi
      go_loopw [17] (fun kk wk => ∃ k : Nat, k ≤ 9 ∧ kk = .int .i64 k ∧ Below w5.heap.size w5 wk) (fun kk _ => 9 - (intOf kk).toNat)
      case atStart => exact ⟨0, by omega, rfl, hbi⟩
      case round =>
        clear hbi
        obtain ⟨k, hk, rfl, hbk⟩ := hrel
        by_cases hlk : k < 9
        · have hlk' : (k : Int) < 9 := by omega
          obtain ⟨q, hqq⟩ : ∃ q : Nat, k % 3 = q := ⟨_, rfl⟩
          obtain ⟨d, hdd⟩ : ∃ d : Nat, k / 3 = d := ⟨_, rfl⟩
          obtain ⟨x, hxs, hx⟩ := HSTR.out q (by omega)
          obtain ⟨g, hg⟩ := HINT.out d (by omega)
          have hq3 : (q : Int) < 3 := by omega
          have hd3 : (d : Int) < 3 := by omega
          have hq : (k : Int).tmod 3 = q := by rw [Int.tmod_eq_emod_of_nonneg (by omega)]; omega
          have hd : (k : Int).tdiv 3 = d := by rw [Int.tdiv_eq_ediv_of_nonneg (by omega)]; omega
          have hq0 : (0 : Int) ≤ q := by omega
          have hd0 : (0 : Int) ≤ d := by omega
          have hdw := IntWalk.i64_in (d : Int) (by omega)
          have hk0 : (0 : Int) ≤ k := by omega
          have hVk := hV5.below hbk
          obtain ⟨Av, nv, cv, ms, hcv, hcap, hnv, ht, hsm, _⟩ := hVk.el i hlt
          have hrw := hr5.below hbk
          have hcells : ∀ wz, Below wr.heap.size wr wz → wz.cell? ⟨bl, i, none⟩ = some (.slice Av nv cv) ∧ wz.cell? ⟨SB, q, none⟩ = some (.string x) ∧ wz.cell? ⟨SB + 1, d, none⟩ = some (.int .i64 g) := fun wz hz => ⟨(hz.cell (p := ⟨bl, i, none⟩) hVk.lt).trans hcv, hx _ (hbk.tr hz), hg _ (hbk.tr hz)⟩
          clear hx hg hqq hdd
          have hbc : Below wr.heap.size wr wr.drew := brefl.drn 1
          have hS := hcells _ hbc
          go_wp2
          refine wp_region_mix [(true, 0), (true, 1), (true, 2), (true, 3), (true, 4), (true, 5), (true, 6), (true, 7), (true, 8), (true, 9), (true, 10), (true, 11), (true, 12), (true, 13), (true, 16), (true, 17), (true, 18), (true, 19), (true, 20), (true, 21), (true, 22), (true, 23), (true, 24), (true, 25), (true, 26), (true, 27), (true, 28), (true, 29), (false, 14), (false, 15), (false, 30), (false, 31), (true, 32)] 33 (fun wz => wz.cell? ⟨bl, i, none⟩ = some (.slice Av nv cv) ∧ wz.cell? ⟨SB, q, none⟩ = some (.string x) ∧ wz.cell? ⟨SB + 1, d, none⟩ = some (.int .i64 g)) (by kernel_rfl) (by kernel_rfl) ?_
          refine wpMix_put (v := ?_) rfl rfl (Or.inl ⟨by rfl, fun wz hz => ?_⟩) hS ?_
          rotate_left
          (focus (go_simp; try (with_reducible rfl)))
          simp only [List.setIfInBounds_toArray, List.set_cons_succ, List.set_cons_zero]
          refine wpMix_put (v := ?_) rfl rfl (Or.inl ⟨by rfl, fun wz hz => ?_⟩) hS ?_
          rotate_left
          (focus (go_simp; try (with_reducible rfl)))
          simp only [List.setIfInBounds_toArray, List.set_cons_succ, List.set_cons_zero]
          refine wpMix_put (v := ?_) rfl rfl (Or.inl ⟨by rfl, fun wz hz => ?_⟩) hS ?_
          rotate_left
          (focus (go_simp; try (with_reducible rfl)))
          simp only [List.setIfInBounds_toArray, List.set_cons_succ, List.set_cons_zero]
          refine wpMix_put (v := ?_) rfl rfl (Or.inl ⟨by rfl, fun wz hz => ?_⟩) hS ?_
          rotate_left
          (focus (go_simp; try (with_reducible rfl)))
          simp only [List.setIfInBounds_toArray, List.set_cons_succ, List.set_cons_zero]
          refine wpMix_put (v := ?_) rfl rfl (Or.inl ⟨by rfl, fun wz hz => ?_⟩) hS ?_
          rotate_left
          (focus (go_simp; try (with_reducible rfl)))
          simp only [List.setIfInBounds_toArray, List.set_cons_succ, List.set_cons_zero]
          refine wpMix_put (v := ?_) rfl rfl (Or.inl ⟨by rfl, fun wz hz => ?_⟩) hS ?_
          rotate_left
          (focus (go_simp; try (with_reducible rfl)))
          simp only [List.setIfInBounds_toArray, List.set_cons_succ, List.set_cons_zero]
          refine wpMix_put (v := ?_) rfl rfl (Or.inl ⟨by rfl, fun wz hz => ?_⟩) hS ?_
          rotate_left
          (focus (go_simp; try (with_reducible rfl)))
          simp only [List.setIfInBounds_toArray, List.set_cons_succ, List.set_cons_zero]
          refine wpMix_put (v := ?_) rfl rfl (Or.inl ⟨by rfl, fun wz hz => ?_⟩) hS ?_
          rotate_left
          (focus (go_simp; try (with_reducible rfl)))
          simp only [List.setIfInBounds_toArray, List.set_cons_succ, List.set_cons_zero]
          refine wpMix_put (v := ?_) rfl rfl (Or.inl ⟨by rfl, fun wz hz => ?_⟩) hS ?_
          rotate_left
          (focus (go_simp; try (with_reducible rfl)))
          simp only [List.setIfInBounds_toArray, List.set_cons_succ, List.set_cons_zero]
          refine wpMix_put (v := ?_) rfl rfl (Or.inl ⟨by rfl, fun wz hz => ?_⟩) hS ?_
          rotate_left
          (focus (go_simp; try (with_reducible rfl)))
          simp only [List.setIfInBounds_toArray, List.set_cons_succ, List.set_cons_zero]
          refine wpMix_put (v := ?_) rfl rfl (Or.inl ⟨by rfl, fun wz hz => ?_⟩) hS ?_
          rotate_left
          (focus (go_simp; try (with_reducible rfl)))
          simp only [List.setIfInBounds_toArray, List.set_cons_succ, List.set_cons_zero]
          refine wpMix_put (v := ?_) rfl rfl (Or.inl ⟨by rfl, fun wz hz => ?_⟩) hS ?_
          rotate_left
          (focus (go_simp; try (with_reducible rfl)))
          simp only [List.setIfInBounds_toArray, List.set_cons_succ, List.set_cons_zero]
          refine wpMix_put (v := ?_) rfl rfl (Or.inl ⟨by rfl, fun wz hz => ?_⟩) hS ?_
          rotate_left
          (focus (go_simp; try (with_reducible rfl)))
          simp only [List.setIfInBounds_toArray, List.set_cons_succ, List.set_cons_zero]
          refine wpMix_put (v := ?_) rfl rfl (Or.inl ⟨by rfl, fun wz hz => ?_⟩) hS ?_
          rotate_left
          (focus (go_simp; try (with_reducible rfl)))
          simp only [List.setIfInBounds_toArray, List.set_cons_succ, List.set_cons_zero]
          refine wpMix_put (v := ?_) rfl rfl (Or.inl ⟨by rfl, fun wz hz => ?_⟩) hS ?_
          rotate_left
          (focus (go_simp; try (with_reducible rfl)))
          simp only [List.setIfInBounds_toArray, List.set_cons_succ, List.set_cons_zero]
          refine wpMix_put (v := ?_) rfl rfl (Or.inl ⟨by rfl, fun wz hz => ?_⟩) hS ?_
          rotate_left
          (focus (go_simp; try (with_reducible rfl)))
          simp only [List.setIfInBounds_toArray, List.set_cons_succ, List.set_cons_zero]
          refine wpMix_put (v := ?_) rfl rfl (Or.inl ⟨by rfl, fun wz hz => ?_⟩) hS ?_
          rotate_left
          (focus (go_simp; try (with_reducible rfl)))
          simp only [List.setIfInBounds_toArray, List.set_cons_succ, List.set_cons_zero]
          refine wpMix_put (v := ?_) rfl rfl (Or.inl ⟨by rfl, fun wz hz => ?_⟩) hS ?_
          rotate_left
          (focus (go_simp; try (with_reducible rfl)))
          simp only [List.setIfInBounds_toArray, List.set_cons_succ, List.set_cons_zero]
          refine wpMix_put (v := ?_) rfl rfl (Or.inl ⟨by rfl, fun wz hz => ?_⟩) hS ?_
          rotate_left
          (focus (go_simp; try (with_reducible rfl)))
          simp only [List.setIfInBounds_toArray, List.set_cons_succ, List.set_cons_zero]
          refine wpMix_put (v := ?_) rfl rfl (Or.inl ⟨by rfl, fun wz hz => ?_⟩) hS ?_
          rotate_left
          (focus (go_simp; try (with_reducible rfl)))
          simp only [List.setIfInBounds_toArray, List.set_cons_succ, List.set_cons_zero]
          refine wpMix_put (v := ?_) rfl rfl (Or.inl ⟨by rfl, fun wz hz => ?_⟩) hS ?_
          rotate_left
          (focus (go_simp; try (with_reducible rfl)))
          simp only [List.setIfInBounds_toArray, List.set_cons_succ, List.set_cons_zero]
          refine wpMix_put (v := ?_) rfl rfl (Or.inl ⟨by rfl, fun wz hz => ?_⟩) hS ?_
          rotate_left
          (focus (go_simp; try (with_reducible rfl)))
          simp only [List.setIfInBounds_toArray, List.set_cons_succ, List.set_cons_zero]
          refine wpMix_put (v := ?_) rfl rfl (Or.inl ⟨by rfl, fun wz hz => ?_⟩) hS ?_
          rotate_left
          (focus (go_simp; try (with_reducible rfl)))
          simp only [List.setIfInBounds_toArray, List.set_cons_succ, List.set_cons_zero]
          refine wpMix_put (v := ?_) rfl rfl (Or.inl ⟨by rfl, fun wz hz => ?_⟩) hS ?_
          rotate_left
          (focus (go_simp; try (with_reducible rfl)))
          simp only [List.setIfInBounds_toArray, List.set_cons_succ, List.set_cons_zero]
          refine wpMix_put (v := ?_) rfl rfl (Or.inl ⟨by rfl, fun wz hz => ?_⟩) hS ?_
          rotate_left
          (focus (go_simp; try (with_reducible rfl)))
          simp only [List.setIfInBounds_toArray, List.set_cons_succ, List.set_cons_zero]
          refine wpMix_put (v := ?_) rfl rfl (Or.inl ⟨by rfl, fun wz hz => ?_⟩) hS ?_
          rotate_left
          (focus (go_simp; try (with_reducible rfl)))
          simp only [List.setIfInBounds_toArray, List.set_cons_succ, List.set_cons_zero]
          refine wpMix_put (v := ?_) rfl rfl (Or.inl ⟨by rfl, fun wz hz => ?_⟩) hS ?_
          rotate_left
          (focus (go_simp; try (with_reducible rfl)))
          simp only [List.setIfInBounds_toArray, List.set_cons_succ, List.set_cons_zero]
          refine wpMix_put (v := ?_) rfl rfl (Or.inl ⟨by rfl, fun wz hz => ?_⟩) hS ?_
          rotate_left
          (focus (go_simp; try (with_reducible rfl)))
          simp only [List.setIfInBounds_toArray, List.set_cons_succ, List.set_cons_zero]
          refine wpMix_step rfl (fun K hK => ?_)
          go_simp
          refine (mentions_any Av nv cv ms x g _ (by omega) (hrw.below hbc) (ht.below hbc) (by omega)).mono ?_
          rintro e w5 ⟨A5, k5, c5, rfl, hc5, hk5, hl5, ho5, hbd⟩
          go_simp
          have hbc' := hbc.tr hbd
          clear hbc hbd
          have hbc := hbc'
          clear hbc'
          have hS7 := hcells _ hbc
          refine hK _ _ (fun _ => hS7) ?_
          clear hK K hS
          have hS := hS7
          clear hS7
          refine wpMix_step rfl (fun K hK => ?_)
          go_simp
          refine (plain_any A5 k5 c5 _ _ (by omega) hl5 ho5.reads).mono ?_
          rintro e w6 ⟨A6, c6, rfl, hc6, ho6, hbd⟩
          go_simp
          have hbc' := hbc.tr hbd
          clear hbc hbd
          have hbc := hbc'
          clear hbc'
          have hS7 := hcells _ hbc
          refine hK _ _ (fun _ => hS7) ?_
          clear hK K hS
          have hS := hS7
          clear hS7
          refine wpMix_step rfl (fun K hK => ?_)
          go_simp
          refine (rmentions_any Av nv cv ms x g _ (by omega) (ht.below hbc) hsm (by omega)).mono ?_
          rintro e w7 ⟨A7, k7, c7, rfl, hc7, hk7, hl7, ho7, hbd⟩
          obtain rfl : k5 = k7 := hl5.symm.trans hl7
          have hr6 := ho6.reads.below hbd
          go_simp
          have hbc' := hbc.tr hbd
          clear hbc hbd
          have hbc := hbc'
          clear hbc'
          have hS7 := hcells _ hbc
          refine hK _ _ (fun _ => hS7) ?_
          clear hK K hS
          have hS := hS7
          clear hS7
          refine wpMix_step rfl (fun K hK => ?_)
          go_simp
          refine (sameM_any A6 A7 k5 c6 c7 _ _ (by omega) hl5 hr6 ho7.reads).mono ?_
          rintro e w8 ⟨rfl, hbd⟩
          go_simp
          have hbc' := hbc.tr hbd
          clear hbc hbd
          have hbc := hbc'
          clear hbc'
          have hS7 := hcells _ hbc
          refine hK _ _ (fun _ => hS7) ?_
          clear hK K hS
          have hS := hS7
          clear hS7
          refine wpMix_put (v := ?_) rfl rfl (Or.inl ⟨by rfl, fun wz hz => ?_⟩) hS ?_
          rotate_left
          (focus (go_simp; try (with_reducible rfl)))
          simp only [List.setIfInBounds_toArray, List.set_cons_succ, List.set_cons_zero]
          refine wpMix_nil ?_
          have hbc9 := hbc.drn 1
          clear hbc hS
          have hbc := hbc9
          clear hbc9
          go_wp2
          have hS := hcells _ hbc
          refine wp_region_mix [(true, 0), (true, 1), (true, 2), (true, 3), (true, 4), (true, 5), (true, 6), (true, 7), (true, 8), (true, 9), (true, 10), (true, 11), (true, 12), (true, 13), (true, 15), (true, 16), (true, 17), (true, 18), (true, 19), (true, 20), (true, 21), (true, 22), (true, 23), (true, 24), (true, 25), (true, 26), (true, 27), (true, 28), (false, 14), (false, 29), (false, 30), (true, 31)] 32 (fun wz => wz.cell? ⟨bl, i, none⟩ = some (.slice Av nv cv) ∧ wz.cell? ⟨SB, q, none⟩ = some (.string x) ∧ wz.cell? ⟨SB + 1, d, none⟩ = some (.int .i64 g)) (by kernel_rfl) (by kernel_rfl) ?_
          refine wpMix_put (v := ?_) rfl rfl (Or.inl ⟨by rfl, fun wz hz => ?_⟩) hS ?_
          rotate_left
          (focus (go_simp; try (with_reducible rfl)))
          simp only [List.setIfInBounds_toArray, List.set_cons_succ, List.set_cons_zero]
          refine wpMix_put (v := ?_) rfl rfl (Or.inl ⟨by rfl, fun wz hz => ?_⟩) hS ?_
          rotate_left
          (focus (go_simp; try (with_reducible rfl)))
          simp only [List.setIfInBounds_toArray, List.set_cons_succ, List.set_cons_zero]
          refine wpMix_put (v := ?_) rfl rfl (Or.inl ⟨by rfl, fun wz hz => ?_⟩) hS ?_
          rotate_left
          (focus (go_simp; try (with_reducible rfl)))
          simp only [List.setIfInBounds_toArray, List.set_cons_succ, List.set_cons_zero]
          refine wpMix_put (v := ?_) rfl rfl (Or.inl ⟨by rfl, fun wz hz => ?_⟩) hS ?_
          rotate_left
          (focus (go_simp; try (with_reducible rfl)))
          simp only [List.setIfInBounds_toArray, List.set_cons_succ, List.set_cons_zero]
          refine wpMix_put (v := ?_) rfl rfl (Or.inl ⟨by rfl, fun wz hz => ?_⟩) hS ?_
          rotate_left
          (focus (go_simp; try (with_reducible rfl)))
          simp only [List.setIfInBounds_toArray, List.set_cons_succ, List.set_cons_zero]
          refine wpMix_put (v := ?_) rfl rfl (Or.inl ⟨by rfl, fun wz hz => ?_⟩) hS ?_
          rotate_left
          (focus (go_simp; try (with_reducible rfl)))
          simp only [List.setIfInBounds_toArray, List.set_cons_succ, List.set_cons_zero]
          refine wpMix_put (v := ?_) rfl rfl (Or.inl ⟨by rfl, fun wz hz => ?_⟩) hS ?_
          rotate_left
          (focus (go_simp; try (with_reducible rfl)))
          simp only [List.setIfInBounds_toArray, List.set_cons_succ, List.set_cons_zero]
          refine wpMix_put (v := ?_) rfl rfl (Or.inl ⟨by rfl, fun wz hz => ?_⟩) hS ?_
          rotate_left
          (focus (go_simp; try (with_reducible rfl)))
          simp only [List.setIfInBounds_toArray, List.set_cons_succ, List.set_cons_zero]
          refine wpMix_put (v := ?_) rfl rfl (Or.inl ⟨by rfl, fun wz hz => ?_⟩) hS ?_
          rotate_left
          (focus (go_simp; try (with_reducible rfl)))
          simp only [List.setIfInBounds_toArray, List.set_cons_succ, List.set_cons_zero]
          refine wpMix_put (v := ?_) rfl rfl (Or.inl ⟨by rfl, fun wz hz => ?_⟩) hS ?_
          rotate_left
          (focus (go_simp; try (with_reducible rfl)))
          simp only [List.setIfInBounds_toArray, List.set_cons_succ, List.set_cons_zero]
          refine wpMix_put (v := ?_) rfl rfl (Or.inl ⟨by rfl, fun wz hz => ?_⟩) hS ?_
          rotate_left
          (focus (go_simp; try (with_reducible rfl)))
          simp only [List.setIfInBounds_toArray, List.set_cons_succ, List.set_cons_zero]
          refine wpMix_put (v := ?_) rfl rfl (Or.inl ⟨by rfl, fun wz hz => ?_⟩) hS ?_
          rotate_left
          (focus (go_simp; try (with_reducible rfl)))
          simp only [List.setIfInBounds_toArray, List.set_cons_succ, List.set_cons_zero]
          refine wpMix_put (v := ?_) rfl rfl (Or.inl ⟨by rfl, fun wz hz => ?_⟩) hS ?_
          rotate_left
          (focus (go_simp; try (with_reducible rfl)))
          simp only [List.setIfInBounds_toArray, List.set_cons_succ, List.set_cons_zero]
          refine wpMix_put (v := ?_) rfl rfl (Or.inl ⟨by rfl, fun wz hz => ?_⟩) hS ?_
          rotate_left
          (focus (go_simp; try (with_reducible rfl)))
          simp only [List.setIfInBounds_toArray, List.set_cons_succ, List.set_cons_zero]
          refine wpMix_put (v := ?_) rfl rfl (Or.inl ⟨by rfl, fun wz hz => ?_⟩) hS ?_
          rotate_left
          (focus (go_simp; try (with_reducible rfl)))
          simp only [List.setIfInBounds_toArray, List.set_cons_succ, List.set_cons_zero]
          refine wpMix_put (v := ?_) rfl rfl (Or.inl ⟨by rfl, fun wz hz => ?_⟩) hS ?_
          rotate_left
          (focus (go_simp; try (with_reducible rfl)))
          simp only [List.setIfInBounds_toArray, List.set_cons_succ, List.set_cons_zero]
          refine wpMix_put (v := ?_) rfl rfl (Or.inl ⟨by rfl, fun wz hz => ?_⟩) hS ?_
          rotate_left
          (focus (go_simp; try (with_reducible rfl)))
          simp only [List.setIfInBounds_toArray, List.set_cons_succ, List.set_cons_zero]
          refine wpMix_put (v := ?_) rfl rfl (Or.inl ⟨by rfl, fun wz hz => ?_⟩) hS ?_
          rotate_left
          (focus (go_simp; try (with_reducible rfl)))
          simp only [List.setIfInBounds_toArray, List.set_cons_succ, List.set_cons_zero]
          refine wpMix_put (v := ?_) rfl rfl (Or.inl ⟨by rfl, fun wz hz => ?_⟩) hS ?_
          rotate_left
          (focus (go_simp; try (with_reducible rfl)))
          simp only [List.setIfInBounds_toArray, List.set_cons_succ, List.set_cons_zero]
          refine wpMix_put (v := ?_) rfl rfl (Or.inl ⟨by rfl, fun wz hz => ?_⟩) hS ?_
          rotate_left
          (focus (go_simp; try (with_reducible rfl)))
          simp only [List.setIfInBounds_toArray, List.set_cons_succ, List.set_cons_zero]
          refine wpMix_put (v := ?_) rfl rfl (Or.inl ⟨by rfl, fun wz hz => ?_⟩) hS ?_
          rotate_left
          (focus (go_simp; try (with_reducible rfl)))
          simp only [List.setIfInBounds_toArray, List.set_cons_succ, List.set_cons_zero]
          refine wpMix_put (v := ?_) rfl rfl (Or.inl ⟨by rfl, fun wz hz => ?_⟩) hS ?_
          rotate_left
          (focus (go_simp; try (with_reducible rfl)))
          simp only [List.setIfInBounds_toArray, List.set_cons_succ, List.set_cons_zero]
          refine wpMix_put (v := ?_) rfl rfl (Or.inl ⟨by rfl, fun wz hz => ?_⟩) hS ?_
          rotate_left
          (focus (go_simp; try (with_reducible rfl)))
          simp only [List.setIfInBounds_toArray, List.set_cons_succ, List.set_cons_zero]
          refine wpMix_put (v := ?_) rfl rfl (Or.inl ⟨by rfl, fun wz hz => ?_⟩) hS ?_
          rotate_left
          (focus (go_simp; try (with_reducible rfl)))
          simp only [List.setIfInBounds_toArray, List.set_cons_succ, List.set_cons_zero]
          refine wpMix_put (v := ?_) rfl rfl (Or.inl ⟨by rfl, fun wz hz => ?_⟩) hS ?_
          rotate_left
          (focus (go_simp; try (with_reducible rfl)))
          simp only [List.setIfInBounds_toArray, List.set_cons_succ, List.set_cons_zero]
          refine wpMix_put (v := ?_) rfl rfl (Or.inl ⟨by rfl, fun wz hz => ?_⟩) hS ?_
          rotate_left
          (focus (go_simp; try (with_reducible rfl)))
          simp only [List.setIfInBounds_toArray, List.set_cons_succ, List.set_cons_zero]
          refine wpMix_put (v := ?_) rfl rfl (Or.inl ⟨by rfl, fun wz hz => ?_⟩) hS ?_
          rotate_left
          (focus (go_simp; try (with_reducible rfl)))
          simp only [List.setIfInBounds_toArray, List.set_cons_succ, List.set_cons_zero]
          refine wpMix_put (v := ?_) rfl rfl (Or.inl ⟨by rfl, fun wz hz => ?_⟩) hS ?_
          rotate_left
          (focus (go_simp; try (with_reducible rfl)))
          simp only [List.setIfInBounds_toArray, List.set_cons_succ, List.set_cons_zero]
          refine wpMix_step rfl (fun K hK => ?_)
          go_simp
          refine (vnames_any Av nv cv ms x g _ (by omega) (hrw.below hbc) (ht.below hbc) (by omega)).mono ?_
          rintro e w9 ⟨A9, k9, c9, rfl, hc9, hk9, hs9, hbd⟩
          go_simp
          have hbc' := hbc.tr hbd
          clear hbc hbd
          have hbc := hbc'
          clear hbc'
          have hS7 := hcells _ hbc
          refine hK _ _ (fun _ => hS7) ?_
          clear hK K hS
          have hS := hS7
          clear hS7
          refine wpMix_step rfl (fun K hK => ?_)
          go_simp
          refine (rnames_any Av nv cv ms x g _ (by omega) (ht.below hbc) hsm (by omega)).mono ?_
          rintro e w10 ⟨A10, k10, c10, rfl, hc10, hk10, hs10, hbd⟩
          obtain rfl : k9 = k10 := hs9.1.symm.trans hs10.1
          have hs9b := hs9.below hbd
          go_simp
          have hbc' := hbc.tr hbd
          clear hbc hbd
          have hbc := hbc'
          clear hbc'
          have hS7 := hcells _ hbc
          refine hK _ _ (fun _ => hS7) ?_
          clear hK K hS
          have hS := hS7
          clear hS7
          refine wpMix_step rfl (fun K hK => ?_)
          go_simp
          refine (sameTexts_any A9 A10 k9 c9 c10 _ _ (by omega) hs9b hs10).mono ?_
          rintro e w11 ⟨rfl, hbd⟩
          go_simp
          have hbc' := hbc.tr hbd
          clear hbc hbd
          have hbc := hbc'
          clear hbc'
          have hS7 := hcells _ hbc
          refine hK _ _ (fun _ => hS7) ?_
          clear hK K hS
          have hS := hS7
          clear hS7
          refine wpMix_put (v := ?_) rfl rfl (Or.inl ⟨by rfl, fun wz hz => ?_⟩) hS ?_
          rotate_left
          (focus (go_simp; try (with_reducible rfl)))
          simp only [List.setIfInBounds_toArray, List.set_cons_succ, List.set_cons_zero]
          refine wpMix_nil ?_
          go_wp2
          go_roundw
          case rel => exact ⟨k + 1, by omega, by go_num, hbk.tr hbc⟩
          case measure => simp [intOf]; omega
        · have hlk' : ¬ (k : Int) < 9 := by omega
          go_wp2
          go_roundw
          case rel => exact ⟨i + 1, by omega, by go_num, hbk⟩
          case measure => simp [intOf]; omega
    · have hi4 : i = 4 := by omega
      subst hi4
      go_wp2_with (go_at_call 14; go_loud (refine (lives_any _ (hr5.below hbi)).mono ?_; rintro e w2 ⟨rfl, hb2⟩))
      go_ret
      exact ⟨rfl, hb14.tr (hbi.tr hb2)⟩
end Go.Proofs.YtdfnfimajhagfaaGreatDoor
