/- The law VocabularyAdds, walked. -/
import Derived.Test.YtdfnfimajhagfaaGreatDoorRT
namespace Go.Proofs.YtdfnfimajhagfaaGreatDoor
open Go.RowKit Go.Maps Rf
theorem Tms.one {w : World} {b off n k : Nat} {ms : List TM} {m : TM} (h : Tms w (some ⟨b, off, none⟩) n ms) (hk : ms[k]? = some m) : Tms w (some ⟨b, off + k * 5, none⟩) 1 [m] := by
  refine ⟨rfl, fun x hx => by simp at hx; subst hx; exact h.2.1 _ (List.mem_of_getElem? hk), fun _ => ?_⟩
  have hkl := (List.getElem?_eq_some_iff.1 hk).1
  obtain ⟨b', off', e, hlt, hc⟩ := h.2.2 (by rw [tmsCells_length]; omega)
  injection e with e
  injection e with e1 e2
  subst e1; subst e2
  refine ⟨b, off + k * 5, rfl, hlt, fun j u hu => ?_⟩
  have hj : j < 5 := by have := (List.getElem?_eq_some_iff.1 hu).1; rw [tmsCells_length] at this; simpa using this
  rw [Nat.add_assoc]
  refine hc (k * 5 + j) u ?_
  rw [tmsCells_get ms k j hj, hk]
  simpa [tmsCells] using hu
theorem tms_len {w w' : World} {A B : Option Addr} {n k : Nat} {ms ls : List TM} (h : Tms w A n ms) (h' : Tms w' B k ls) (e : terms ms = terms ls) : n = k := by rw [← terms_length h, ← terms_length h', e]
set_option maxRecDepth 20000 in
set_option maxHeartbeats 16000000 in
theorem adds_law (A : Option Addr) (n c : Nat) (l : List Int) (how bys : Int) (A3 : Option Addr) (n3 c3 : Nat) (l3 : List Int) (raw : S) (w : World) (hr : Rdy w) (hl : Ints w A n l) (hh : i64ok how) (hb : i64ok bys) (hl3 : Ints w A3 n3 l3) :
    Calls Tryz.prog 4 #[.slice A n c, .int .i64 how, .int .i64 bys, .slice A3 n3 c3, .string raw] w fun e w' => e = .returned (.bool true) ∧ Below w.heap.size w w' := by
  go_enter Tryz.func4, Tryz.ntmps4
  go_wp2_with (first
    | (go_at_call 11; go_loud (refine (lists_any _ _ _ _ _ _ _ hl hh hb).mono ?_; rintro e w1 ⟨bl, rfl, hV1, hb1⟩))
    | (go_at_call 16; go_loud (refine (short12_any raw _).mono ?_; rintro e _ ⟨sr, rfl, hsr, rfl⟩))
    | (go_at_call 15; go_loud (refine (term_any A3 n3 c3 l3 sr _ (hl3.below hb1) hsr).mono ?_; rintro e w2 ⟨mt, rfl, hok, hst, hb2⟩)))
  obtain ⟨w4, hw4⟩ : ∃ w4, w2.alloc (.cells #[.string mt.t.name, .int .i64 mt.t.kind, .int .i64 mt.t.lang, .string mt.t.see, .slice mt.A mt.n mt.c] 33) = w4 := ⟨_, rfl⟩
  have hb4 : Below w2.heap.size w2 w4 := by rw [← hw4]; exact brefl.al _
  obtain ⟨T, hT⟩ : ∃ T, w2.heap.size = T := ⟨_, rfl⟩
  have hbox : ∀ wz, Below w4.heap.size w4 wz → wz.cell? ⟨T, 0, none⟩ = some (.string mt.t.name) ∧ wz.cell? ⟨T, 1, none⟩ = some (.int .i64 mt.t.kind) ∧ wz.cell? ⟨T, 2, none⟩ = some (.int .i64 mt.t.lang) ∧ wz.cell? ⟨T, 3, none⟩ = some (.string mt.t.see) ∧ wz.cell? ⟨T, 4, none⟩ = some (.slice mt.A mt.n mt.c) := fun wz hz => by
    rw [← hw4] at hz
    rw [← hT]
    exact box_five w2 _ _ _ _ _ _ hz
  have HBX := Lib.hid hbox
  have hV4 := (hV1.below hb2).below hb4
  have hr4 := ((hr.below hb1).below hb2).below hb4
  have hok4 := hok.below hb4
  have hb14 := (hb1.tr hb2).tr hb4
  rw [hw4, hT]
  clear hw4 hT hbox hV1 hl hr hok hb4 hb2 hl3
  go_loopw [13] (fun ii wr => ∃ i : Nat, i ≤ 4 ∧ ii = .int .i64 i ∧ Below w4.heap.size w4 wr) (fun ii _ => 4 - (intOf ii).toNat)
  case atStart => exact ⟨0, by omega, rfl, brefl⟩
  case round =>
    obtain ⟨i, hi, rfl, hbi⟩ := hrel
    by_cases hlt : i < 4
    · have hlt' : (i : Int) < 4 := by omega
      have hVi := hV4.below hbi
      obtain ⟨Av, nv, cv, ms, hcv, hcap, hnv, ht, hsm, _⟩ := hVi.el i hlt
      have hrw := hr4.below hbi
      have hok := hok4.below hbi
      have hcells : ∀ wz, Below wr.heap.size wr wz → wz.cell? ⟨bl, i, none⟩ = some (.slice Av nv cv) ∧ wz.cell? ⟨T, 0, none⟩ = some (.string mt.t.name) ∧ wz.cell? ⟨T, 1, none⟩ = some (.int .i64 mt.t.kind) ∧ wz.cell? ⟨T, 2, none⟩ = some (.int .i64 mt.t.lang) ∧ wz.cell? ⟨T, 3, none⟩ = some (.string mt.t.see) ∧ wz.cell? ⟨T, 4, none⟩ = some (.slice mt.A mt.n mt.c) := fun wz hz => ⟨(hz.cell (p := ⟨bl, i, none⟩) hVi.lt).trans hcv, HBX.out wz (hbi.tr hz)⟩
      have hbc : Below wr.heap.size wr wr.drew := brefl.drn 1
      have hS := hcells _ hbc
      go_wp2
      refine wp_region_mix [(true, 0), (true, 1), (true, 2), (true, 3), (true, 4), (false, 5), (true, 6), (true, 7), (true, 8), (true, 9), (true, 10)] 11 (fun wz => wz.cell? ⟨bl, i, none⟩ = some (.slice Av nv cv) ∧ wz.cell? ⟨T, 0, none⟩ = some (.string mt.t.name) ∧ wz.cell? ⟨T, 1, none⟩ = some (.int .i64 mt.t.kind) ∧ wz.cell? ⟨T, 2, none⟩ = some (.int .i64 mt.t.lang) ∧ wz.cell? ⟨T, 3, none⟩ = some (.string mt.t.see) ∧ wz.cell? ⟨T, 4, none⟩ = some (.slice mt.A mt.n mt.c)) (by kernel_rfl) (by kernel_rfl) ?_
      refine wpMix_put (v := ?_) rfl rfl (Or.inl ⟨by rfl, fun wz hz => ?_⟩) hS ?_
      rotate_left
      (focus (go_simp; try (with_reducible rfl)))
      simp only [List.setIfInBounds_toArray, List.set_cons_succ, List.set_cons_zero]
      refine wpMix_put (v := ?_) rfl rfl (Or.inl ⟨by rfl, fun wz hz => ?_⟩) hS ?_
      rotate_left
      (focus (go_simp; try (with_reducible rfl)))
      simp only [List.setIfInBounds_toArray, List.set_cons_succ, List.set_cons_zero]
      refine wpMix_put (v := ?_) rfl rfl (Or.inl ⟨by rfl, fun wz hz => ?_⟩) hS ?_
      rotate_left
      (focus (go_simp; try (with_reducible rfl)))
      simp only [List.setIfInBounds_toArray, List.set_cons_succ, List.set_cons_zero]
      refine wpMix_put (v := ?_) rfl rfl (Or.inl ⟨by rfl, fun wz hz => ?_⟩) hS ?_
      rotate_left
      (focus (go_simp; try (with_reducible rfl)))
      simp only [List.setIfInBounds_toArray, List.set_cons_succ, List.set_cons_zero]
      refine wpMix_put (v := ?_) rfl rfl (Or.inl ⟨by rfl, fun wz hz => ?_⟩) hS ?_
      rotate_left
      (focus (go_simp; try (with_reducible rfl)))
      simp only [List.setIfInBounds_toArray, List.set_cons_succ, List.set_cons_zero]
      refine wpMix_step rfl (fun K hK => ?_)
      go_simp
      refine (add_any Av nv cv ms mt _ (by omega) (hrw.below hbc) (ht.below hbc) hsm (hok.below hbc) hst).mono ?_
      rintro e w5 ⟨A5, k5, c5, ms5, rfl, hc5, hk5, hT5, hE5, hs5, hbd⟩
      go_simp
      have hbc' := hbc.tr hbd
      clear hbc hbd
      have hbc := hbc'
      clear hbc'
      have hS7 := hcells _ hbc
      refine hK _ _ (fun _ => hS7) ?_
      clear hK K hS
      have hS := hS7
      clear hS7
      refine wpMix_put (v := ?_) rfl rfl (Or.inl ⟨by rfl, fun wz hz => ?_⟩) hS ?_
      rotate_left
      (focus (go_simp; try (with_reducible rfl)))
      simp only [List.setIfInBounds_toArray, List.set_cons_succ, List.set_cons_zero]
      refine wpMix_put (v := ?_) rfl rfl (Or.inl ⟨by rfl, fun wz hz => ?_⟩) hS ?_
      rotate_left
      (focus (go_simp; try (with_reducible rfl)))
      simp only [List.setIfInBounds_toArray, List.set_cons_succ, List.set_cons_zero]
      refine wpMix_put (v := ?_) rfl rfl (Or.inl ⟨by rfl, fun wz hz => ?_⟩) hS ?_
      rotate_left
      (focus (go_simp; try (with_reducible rfl)))
      simp only [List.setIfInBounds_toArray, List.set_cons_succ, List.set_cons_zero]
      refine wpMix_put (v := ?_) rfl rfl (Or.inl ⟨by rfl, fun wz hz => ?_⟩) hS ?_
      rotate_left
      (focus (go_simp; try (with_reducible rfl)))
      simp only [List.setIfInBounds_toArray, List.set_cons_succ, List.set_cons_zero]
      refine wpMix_put (v := ?_) rfl rfl (Or.inl ⟨by rfl, fun wz hz => ?_⟩) hS ?_
      rotate_left
      (focus (go_simp; try (with_reducible rfl)))
      simp only [List.setIfInBounds_toArray, List.set_cons_succ, List.set_cons_zero]
      refine wpMix_nil ?_
      have hbc9 := hbc.drn 1
      clear hbc hS
      have hbc : Below wr.heap.size wr w5.drew := hbc9
      clear hbc9
      have hS := hcells _ hbc
      go_wp2
      refine wp_region_mix [(true, 0), (true, 1), (true, 2), (true, 3), (true, 4), (false, 5), (true, 6), (true, 7), (true, 8), (true, 9), (true, 10)] 11 (fun wz => wz.cell? ⟨bl, i, none⟩ = some (.slice Av nv cv) ∧ wz.cell? ⟨T, 0, none⟩ = some (.string mt.t.name) ∧ wz.cell? ⟨T, 1, none⟩ = some (.int .i64 mt.t.kind) ∧ wz.cell? ⟨T, 2, none⟩ = some (.int .i64 mt.t.lang) ∧ wz.cell? ⟨T, 3, none⟩ = some (.string mt.t.see) ∧ wz.cell? ⟨T, 4, none⟩ = some (.slice mt.A mt.n mt.c)) (by kernel_rfl) (by kernel_rfl) ?_
      refine wpMix_put (v := ?_) rfl rfl (Or.inl ⟨by rfl, fun wz hz => ?_⟩) hS ?_
      rotate_left
      (focus (go_simp; try (with_reducible rfl)))
      simp only [List.setIfInBounds_toArray, List.set_cons_succ, List.set_cons_zero]
      refine wpMix_put (v := ?_) rfl rfl (Or.inl ⟨by rfl, fun wz hz => ?_⟩) hS ?_
      rotate_left
      (focus (go_simp; try (with_reducible rfl)))
      simp only [List.setIfInBounds_toArray, List.set_cons_succ, List.set_cons_zero]
      refine wpMix_put (v := ?_) rfl rfl (Or.inl ⟨by rfl, fun wz hz => ?_⟩) hS ?_
      rotate_left
      (focus (go_simp; try (with_reducible rfl)))
      simp only [List.setIfInBounds_toArray, List.set_cons_succ, List.set_cons_zero]
      refine wpMix_put (v := ?_) rfl rfl (Or.inl ⟨by rfl, fun wz hz => ?_⟩) hS ?_
      rotate_left
      (focus (go_simp; try (with_reducible rfl)))
      simp only [List.setIfInBounds_toArray, List.set_cons_succ, List.set_cons_zero]
      refine wpMix_put (v := ?_) rfl rfl (Or.inl ⟨by rfl, fun wz hz => ?_⟩) hS ?_
      rotate_left
      (focus (go_simp; try (with_reducible rfl)))
      simp only [List.setIfInBounds_toArray, List.set_cons_succ, List.set_cons_zero]
      refine wpMix_step rfl (fun K hK => ?_)
      go_simp
      refine (radd_any Av nv cv ms mt _ (by omega) hcap (ht.below hbc) hsm (hok.below hbc) hst).mono ?_
      rintro e w6 ⟨A6, k6, c6, ms6, rfl, hc6, hk6, hT6, hE6, hs6, hbd⟩
      have hT5' := hT5.below ((brefl.drn 1 : Below w5.heap.size w5 w5.drew).tr hbd)
      go_simp
      have hbc' := hbc.tr hbd
      clear hbc hbd
      have hbc := hbc'
      clear hbc'
      have hS7 := hcells _ hbc
      refine hK _ _ (fun _ => hS7) ?_
      clear hK K hS
      have hS := hS7
      clear hS7
      refine wpMix_put (v := ?_) rfl rfl (Or.inl ⟨by rfl, fun wz hz => ?_⟩) hS ?_
      rotate_left
      (focus (go_simp; try (with_reducible rfl)))
      simp only [List.setIfInBounds_toArray, List.set_cons_succ, List.set_cons_zero]
      refine wpMix_put (v := ?_) rfl rfl (Or.inl ⟨by rfl, fun wz hz => ?_⟩) hS ?_
      rotate_left
      (focus (go_simp; try (with_reducible rfl)))
      simp only [List.setIfInBounds_toArray, List.set_cons_succ, List.set_cons_zero]
      refine wpMix_put (v := ?_) rfl rfl (Or.inl ⟨by rfl, fun wz hz => ?_⟩) hS ?_
      rotate_left
      (focus (go_simp; try (with_reducible rfl)))
      simp only [List.setIfInBounds_toArray, List.set_cons_succ, List.set_cons_zero]
      refine wpMix_put (v := ?_) rfl rfl (Or.inl ⟨by rfl, fun wz hz => ?_⟩) hS ?_
      rotate_left
      (focus (go_simp; try (with_reducible rfl)))
      simp only [List.setIfInBounds_toArray, List.set_cons_succ, List.set_cons_zero]
      refine wpMix_put (v := ?_) rfl rfl (Or.inl ⟨by rfl, fun wz hz => ?_⟩) hS ?_
      rotate_left
      (focus (go_simp; try (with_reducible rfl)))
      simp only [List.setIfInBounds_toArray, List.set_cons_succ, List.set_cons_zero]
      refine wpMix_nil ?_
      clear hT5
      have hT5 := hT5'
      clear hT5'
      have h56 : terms ms5 = terms ms6 := hE5.trans hE6.symm
      obtain rfl : k5 = k6 := tms_len hT5 hT6 h56
      obtain ⟨ve, hve⟩ : ∃ ve, (addV (terms ms) mt.t).2 = ve := ⟨_, rfl⟩
      rw [hve]
      by_cases hz : ve = 0
      · subst hz
        have hVE := Lib.hid hve
        have HX := Lib.hid (show terms ms5 = addL (terms ms) mt.t from by rw [hE5]; exact (addV_ok hve).2.2)
        clear hve
        obtain ⟨hS1, hS2, hS3, hS4, hS5, hS6⟩ := hS
        go_wp2_with (first
          | (go_at_call 19; ((with_reducible refine (rsame_any A5 A6 k5 c5 c6 ms5 ms6 _ ?_ hT5 hT6 h56).mono ?_); (focus omega); rintro e w7 ⟨rfl, hb7⟩; obtain ⟨q1, q2, q3, q4, q5, q6⟩ := hcells _ (hbc.tr hb7)))
          | (go_at_call 17; go_loud (refine (add_any A5 k5 c5 ms5 mt _ (by omega) (hrw.below (hbc.tr hb7)) (hT5.below hb7) hs5 (hok.below (hbc.tr hb7)) hst).mono ?_; rintro e w8 ⟨A8, k8, c8, ms8, rfl, hc8, hk8, hT8, hE8, hs8, hb8⟩; rw [HX.out, addV_again hVE.out] at hE8 ⊢; obtain rfl : k5 = k8 := tms_len hT5 hT8 (HX.out.trans hE8.symm)))
          | (go_at_call 19; go_loud (refine (rsame_any A8 A5 k5 c8 c5 ms8 ms5 _ (by omega) hT8 (hT5.below (hb7.tr hb8)) (hE8.trans HX.out.symm)).mono ?_; rintro e w9 ⟨rfl, hb9⟩)))
        have hb69 := (hb7.tr hb8).tr hb9
        have hT5f := hT5.below hb69
        have hbc9 := hbc.tr hb69
        clear hS1 hS2 hS3 hS4 hS5 hS6 q1 q2 q3 q4 q5 q6 hT5 hT6 hT8 hE8 hE5 hE6 h56 hbc
        obtain ⟨wo, hwo⟩ : ∃ wo : World, wo = wr := ⟨_, rfl⟩
        subst hwo
        go_loopw [20] (fun kk wk => ∃ k : Nat, k ≤ nv ∧ kk = .int .i64 k ∧ Below w9.heap.size w9 wk) (fun kk _ => nv - (intOf kk).toNat)
        case atStart => exact ⟨0, by omega, rfl, brefl⟩
        case round =>
          obtain ⟨k, hk, rfl, hbk⟩ := hrel
          have hbw := hbc9.tr hbk
          have hblr : bl < wr.heap.size := Nat.lt_of_lt_of_le hVi.lt hbw.size
          have hcvr := (hbw.cell (p := ⟨bl, i, none⟩) hVi.lt).trans hcv
          by_cases hlk : k < nv
          · have hlk' : (k : Int) < nv := by omega
            obtain ⟨bv, offv, u, rfl, hxu, huk, hbv0, u1, u2, u3, u4, u5⟩ := (ht.below hbw).at_ hlk
            have hsu := hsm u (List.mem_of_getElem? hxu)
            have htu := terms_get hxu
            obtain ⟨j, v5, hfj, hjl, hjv, hje⟩ := addL_find hVE.out htu
            rw [← HX.out, terms_length hT5f] at hjl
            have hT5x := hT5f.below hbk
            obtain ⟨b5, off5, x5, rfl, hx5, _, _, _⟩ := hT5x.at_ hjl
            have hxe0 : ¬ u.t.name = mt.t.name → x5.t = u.t := fun hn => by
              have h1 := terms_get hx5
              rw [HX.out, hjv] at h1
              rw [← hje hn]
              exact (Option.some.inj h1).symm
            have HU := Lib.hid (addV_own (addV_ok hVE.out).1 htu)
            have HF := Lib.hid (show findAt (terms ms5) u.t.name 0 = ((j : Nat) : Int) from by rw [HX.out]; exact hfj)
            clear htu hfj hjv hje
            have hjk : (j : Int) < k5 := by omega
            have hj0 : ¬ (j : Int) < 0 := by omega
            have hjk2 : ¬ (k5 : Int) ≤ j := by omega
            go_wp2_with (go_at_call 20; go_loud (refine (vfind_any _ k5 c5 ms5 u.t.name _ (by omega) hT5x).mono ?_; rintro e w10 ⟨rfl, hb10⟩; rw [HF.out]))
            have hbc : Below wr.heap.size wr w10.drew := hb10.drn 1
            have hcells : ∀ wz, Below wr.heap.size wr wz → wz.cell? ⟨bl, i, none⟩ = some (.slice (some ⟨bv, offv, none⟩) nv cv) ∧ wz.cell? ⟨bv, offv + k * 5, none⟩ = some (.string u.t.name) ∧ wz.cell? ⟨T, 0, none⟩ = some (.string mt.t.name) := fun wz hz => ⟨(hz.cell (p := ⟨bl, i, none⟩) hblr).trans hcvr, (hz.cell (p := ⟨bv, offv + k * 5, none⟩) hbv0).trans u1, (HBX.out wz (hbi.tr (hbw.tr hz))).1⟩
            have hS := hcells _ hbc
            have hwr1 := IntWalk.i64_in ((j : Int) + 1) (by omega)
            have hwr2 := IntWalk.i64_in ((k : Int) + 1) (by omega)
            have hcj : ¬ c5 = j := by omega
            have hck : ¬ cv = k := by omega
            have hjc : (j : Int) + 1 ≤ c5 := by omega
            have hkc : (k : Int) + 1 ≤ cv := by omega
            have hj1 : (0 : Int) ≤ (j : Int) + 1 := by omega
            have hk1 : (0 : Int) ≤ (k : Int) + 1 := by omega
            by_cases hn : u.t.name = mt.t.name
            · have hn1 : (u.t.name.toList == mt.t.name.toList) = true := (eqS_iff _ _).2 hn
              clear hn hxe0
              go_wp2
              refine wp_region_mix [(true, 0), (true, 1), (true, 2), (true, 3), (true, 4), (true, 5), (true, 6), (true, 7), (true, 8), (true, 9), (true, 10), (true, 11), (true, 12), (true, 13), (true, 14), (true, 15), (true, 16), (true, 17), (true, 18), (true, 19), (true, 20), (true, 21), (true, 22), (true, 23), (true, 24), (true, 25), (true, 26), (true, 27)] 28 (fun wz => wz.cell? ⟨bl, i, none⟩ = some (.slice (some ⟨bv, offv, none⟩) nv cv) ∧ wz.cell? ⟨bv, offv + k * 5, none⟩ = some (.string u.t.name) ∧ wz.cell? ⟨T, 0, none⟩ = some (.string mt.t.name)) (by kernel_rfl) (by kernel_rfl) ?_
              refine wpMix_put (v := ?_) rfl rfl (Or.inl ⟨by rfl, fun wz hz => ?_⟩) hS ?_
              rotate_left
              (focus (go_simp; try (with_reducible rfl)))
              simp only [List.setIfInBounds_toArray, List.set_cons_succ, List.set_cons_zero]
              refine wpMix_put (v := ?_) rfl rfl (Or.inl ⟨by rfl, fun wz hz => ?_⟩) hS ?_
              rotate_left
              (focus (go_simp; try (with_reducible rfl)))
              simp only [List.setIfInBounds_toArray, List.set_cons_succ, List.set_cons_zero]
              refine wpMix_put (v := ?_) rfl rfl (Or.inl ⟨by rfl, fun wz hz => ?_⟩) hS ?_
              rotate_left
              (focus (go_simp; try (with_reducible rfl)))
              simp only [List.setIfInBounds_toArray, List.set_cons_succ, List.set_cons_zero]
              refine wpMix_put (v := ?_) rfl rfl (Or.inl ⟨by rfl, fun wz hz => ?_⟩) hS ?_
              rotate_left
              (focus (go_simp; try (with_reducible rfl)))
              simp only [List.setIfInBounds_toArray, List.set_cons_succ, List.set_cons_zero]
              refine wpMix_put (v := ?_) rfl rfl (Or.inl ⟨by rfl, fun wz hz => ?_⟩) hS ?_
              rotate_left
              (focus (go_simp; try (with_reducible rfl)))
              simp only [List.setIfInBounds_toArray, List.set_cons_succ, List.set_cons_zero]
              refine wpMix_put (v := ?_) rfl rfl (Or.inl ⟨by rfl, fun wz hz => ?_⟩) hS ?_
              rotate_left
              (focus (go_simp; try (with_reducible rfl)))
              simp only [List.setIfInBounds_toArray, List.set_cons_succ, List.set_cons_zero]
              refine wpMix_put (v := ?_) rfl rfl (Or.inl ⟨by rfl, fun wz hz => ?_⟩) hS ?_
              rotate_left
              (focus (go_simp; try (with_reducible rfl)))
              simp only [List.setIfInBounds_toArray, List.set_cons_succ, List.set_cons_zero]
              refine wpMix_put (v := ?_) rfl rfl (Or.inl ⟨by rfl, fun wz hz => ?_⟩) hS ?_
              rotate_left
              (focus (go_simp; try (with_reducible rfl)))
              simp only [List.setIfInBounds_toArray, List.set_cons_succ, List.set_cons_zero]
              refine wpMix_put (v := ?_) rfl rfl (Or.inl ⟨by rfl, fun wz hz => ?_⟩) hS ?_
              rotate_left
              (focus (go_simp; try (with_reducible rfl)))
              simp only [List.setIfInBounds_toArray, List.set_cons_succ, List.set_cons_zero]
              refine wpMix_put (v := ?_) rfl rfl (Or.inl ⟨by rfl, fun wz hz => ?_⟩) hS ?_
              rotate_left
              (focus (go_simp; try (with_reducible rfl)))
              simp only [List.setIfInBounds_toArray, List.set_cons_succ, List.set_cons_zero]
              refine wpMix_put (v := ?_) rfl rfl (Or.inl ⟨by rfl, fun wz hz => ?_⟩) hS ?_
              rotate_left
              (focus (go_simp; try (with_reducible rfl)))
              simp only [List.setIfInBounds_toArray, List.set_cons_succ, List.set_cons_zero]
              refine wpMix_put (v := ?_) rfl rfl (Or.inl ⟨by rfl, fun wz hz => ?_⟩) hS ?_
              rotate_left
              (focus (go_simp; try (with_reducible rfl)))
              simp only [List.setIfInBounds_toArray, List.set_cons_succ, List.set_cons_zero]
              refine wpMix_put (v := undef) rfl rfl (Or.inr ⟨by rfl, rfl⟩) hS ?_
              simp only [List.setIfInBounds_toArray, List.set_cons_succ, List.set_cons_zero]
              refine wpMix_put (v := undef) rfl rfl (Or.inr ⟨by rfl, rfl⟩) hS ?_
              simp only [List.setIfInBounds_toArray, List.set_cons_succ, List.set_cons_zero]
              refine wpMix_put (v := undef) rfl rfl (Or.inr ⟨by rfl, rfl⟩) hS ?_
              simp only [List.setIfInBounds_toArray, List.set_cons_succ, List.set_cons_zero]
              refine wpMix_put (v := undef) rfl rfl (Or.inr ⟨by rfl, rfl⟩) hS ?_
              simp only [List.setIfInBounds_toArray, List.set_cons_succ, List.set_cons_zero]
              refine wpMix_put (v := undef) rfl rfl (Or.inr ⟨by rfl, rfl⟩) hS ?_
              simp only [List.setIfInBounds_toArray, List.set_cons_succ, List.set_cons_zero]
              refine wpMix_put (v := undef) rfl rfl (Or.inr ⟨by rfl, rfl⟩) hS ?_
              simp only [List.setIfInBounds_toArray, List.set_cons_succ, List.set_cons_zero]
              refine wpMix_put (v := undef) rfl rfl (Or.inr ⟨by rfl, rfl⟩) hS ?_
              simp only [List.setIfInBounds_toArray, List.set_cons_succ, List.set_cons_zero]
              refine wpMix_put (v := undef) rfl rfl (Or.inr ⟨by rfl, rfl⟩) hS ?_
              simp only [List.setIfInBounds_toArray, List.set_cons_succ, List.set_cons_zero]
              refine wpMix_put (v := undef) rfl rfl (Or.inr ⟨by rfl, rfl⟩) hS ?_
              simp only [List.setIfInBounds_toArray, List.set_cons_succ, List.set_cons_zero]
              refine wpMix_put (v := undef) rfl rfl (Or.inr ⟨by rfl, rfl⟩) hS ?_
              simp only [List.setIfInBounds_toArray, List.set_cons_succ, List.set_cons_zero]
              refine wpMix_put (v := undef) rfl rfl (Or.inr ⟨by rfl, rfl⟩) hS ?_
              simp only [List.setIfInBounds_toArray, List.set_cons_succ, List.set_cons_zero]
              refine wpMix_put (v := undef) rfl rfl (Or.inr ⟨by rfl, rfl⟩) hS ?_
              simp only [List.setIfInBounds_toArray, List.set_cons_succ, List.set_cons_zero]
              refine wpMix_put (v := undef) rfl rfl (Or.inr ⟨by rfl, rfl⟩) hS ?_
              simp only [List.setIfInBounds_toArray, List.set_cons_succ, List.set_cons_zero]
              refine wpMix_put (v := undef) rfl rfl (Or.inr ⟨by rfl, rfl⟩) hS ?_
              simp only [List.setIfInBounds_toArray, List.set_cons_succ, List.set_cons_zero]
              refine wpMix_put (v := undef) rfl rfl (Or.inr ⟨by rfl, rfl⟩) hS ?_
              simp only [List.setIfInBounds_toArray, List.set_cons_succ, List.set_cons_zero]
              refine wpMix_put (v := ?_) rfl rfl (Or.inl ⟨by rfl, fun wz hz => ?_⟩) hS ?_
              rotate_left
              (focus (go_simp; try (with_reducible rfl)))
              simp only [List.setIfInBounds_toArray, List.set_cons_succ, List.set_cons_zero]
              refine wpMix_nil ?_
              clear hwr1 hwr2
              go_wp2
              have hbc9 : Below wr.heap.size wr w10.drew.drew := hbc.drn 1
              clear hbc hS hcells
              have hbc := hbc9
              clear hbc9
              have hcells : ∀ wz, Below wr.heap.size wr wz → wz.cell? ⟨bl, i, none⟩ = some (.slice (some ⟨bv, offv, none⟩) nv cv) ∧ wz.cell? ⟨bv, offv + k * 5, none⟩ = some (.string u.t.name) ∧ wz.cell? ⟨bv, offv + k * 5 + 1, none⟩ = some (.int .i64 u.t.kind) ∧ wz.cell? ⟨bv, offv + k * 5 + 2, none⟩ = some (.int .i64 u.t.lang) ∧ wz.cell? ⟨bv, offv + k * 5 + 3, none⟩ = some (.string u.t.see) ∧ wz.cell? ⟨bv, offv + k * 5 + 4, none⟩ = some (.slice u.A u.n u.c) := fun wz hz => ⟨(hz.cell (p := ⟨bl, i, none⟩) hblr).trans hcvr, (hz.cell (p := ⟨bv, offv + k * 5, none⟩) hbv0).trans u1, (hz.cell (p := ⟨bv, offv + k * 5 + 1, none⟩) hbv0).trans u2, (hz.cell (p := ⟨bv, offv + k * 5 + 2, none⟩) hbv0).trans u3, (hz.cell (p := ⟨bv, offv + k * 5 + 3, none⟩) hbv0).trans u4, (hz.cell (p := ⟨bv, offv + k * 5 + 4, none⟩) hbv0).trans u5⟩
              have hS := hcells _ hbc
              go_wp2
              refine wp_region_mix [(true, 0), (true, 1), (true, 2), (true, 3), (true, 4), (true, 5), (true, 6), (true, 7), (true, 8), (true, 9), (true, 10), (false, 11), (true, 12), (true, 13), (true, 14), (true, 15), (true, 16)] 17 (fun wz => wz.cell? ⟨bl, i, none⟩ = some (.slice (some ⟨bv, offv, none⟩) nv cv) ∧ wz.cell? ⟨bv, offv + k * 5, none⟩ = some (.string u.t.name) ∧ wz.cell? ⟨bv, offv + k * 5 + 1, none⟩ = some (.int .i64 u.t.kind) ∧ wz.cell? ⟨bv, offv + k * 5 + 2, none⟩ = some (.int .i64 u.t.lang) ∧ wz.cell? ⟨bv, offv + k * 5 + 3, none⟩ = some (.string u.t.see) ∧ wz.cell? ⟨bv, offv + k * 5 + 4, none⟩ = some (.slice u.A u.n u.c)) (by kernel_rfl) (by kernel_rfl) ?_
              refine wpMix_put (v := ?_) rfl rfl (Or.inl ⟨by rfl, fun wz hz => ?_⟩) hS ?_
              rotate_left
              (focus (go_simp; try (with_reducible rfl)))
              simp only [List.setIfInBounds_toArray, List.set_cons_succ, List.set_cons_zero]
              refine wpMix_put (v := ?_) rfl rfl (Or.inl ⟨by rfl, fun wz hz => ?_⟩) hS ?_
              rotate_left
              (focus (go_simp; try (with_reducible rfl)))
              simp only [List.setIfInBounds_toArray, List.set_cons_succ, List.set_cons_zero]
              refine wpMix_put (v := ?_) rfl rfl (Or.inl ⟨by rfl, fun wz hz => ?_⟩) hS ?_
              rotate_left
              (focus (go_simp; try (with_reducible rfl)))
              simp only [List.setIfInBounds_toArray, List.set_cons_succ, List.set_cons_zero]
              refine wpMix_put (v := ?_) rfl rfl (Or.inl ⟨by rfl, fun wz hz => ?_⟩) hS ?_
              rotate_left
              (focus (go_simp; try (with_reducible rfl)))
              simp only [List.setIfInBounds_toArray, List.set_cons_succ, List.set_cons_zero]
              refine wpMix_put (v := ?_) rfl rfl (Or.inl ⟨by rfl, fun wz hz => ?_⟩) hS ?_
              rotate_left
              (focus (go_simp; try (with_reducible rfl)))
              simp only [List.setIfInBounds_toArray, List.set_cons_succ, List.set_cons_zero]
              refine wpMix_put (v := ?_) rfl rfl (Or.inl ⟨by rfl, fun wz hz => ?_⟩) hS ?_
              rotate_left
              (focus (go_simp; try (with_reducible rfl)))
              simp only [List.setIfInBounds_toArray, List.set_cons_succ, List.set_cons_zero]
              refine wpMix_put (v := ?_) rfl rfl (Or.inl ⟨by rfl, fun wz hz => ?_⟩) hS ?_
              rotate_left
              (focus (go_simp; try (with_reducible rfl)))
              simp only [List.setIfInBounds_toArray, List.set_cons_succ, List.set_cons_zero]
              refine wpMix_put (v := ?_) rfl rfl (Or.inl ⟨by rfl, fun wz hz => ?_⟩) hS ?_
              rotate_left
              (focus (go_simp; try (with_reducible rfl)))
              simp only [List.setIfInBounds_toArray, List.set_cons_succ, List.set_cons_zero]
              refine wpMix_put (v := ?_) rfl rfl (Or.inl ⟨by rfl, fun wz hz => ?_⟩) hS ?_
              rotate_left
              (focus (go_simp; try (with_reducible rfl)))
              simp only [List.setIfInBounds_toArray, List.set_cons_succ, List.set_cons_zero]
              refine wpMix_put (v := ?_) rfl rfl (Or.inl ⟨by rfl, fun wz hz => ?_⟩) hS ?_
              rotate_left
              (focus (go_simp; try (with_reducible rfl)))
              simp only [List.setIfInBounds_toArray, List.set_cons_succ, List.set_cons_zero]
              refine wpMix_put (v := ?_) rfl rfl (Or.inl ⟨by rfl, fun wz hz => ?_⟩) hS ?_
              rotate_left
              (focus (go_simp; try (with_reducible rfl)))
              simp only [List.setIfInBounds_toArray, List.set_cons_succ, List.set_cons_zero]
              refine wpMix_step rfl (fun K hK => ?_)
              go_simp
              refine (add_any (some ⟨bv, offv, none⟩) nv cv ms u _ (by omega) ((hrw.below hbw).below hbc) ((ht.below hbw).below hbc) hsm (huk.below hbc) hsu).mono ?_
              rintro e w10 ⟨A10, k10, c10, ms10, rfl, hc10, hk10, hT10, hE10, hs10, hbd⟩
              rw [HU.out] at hE10 ⊢
              go_simp
              have hbc' := hbc.tr hbd
              clear hbc hbd
              have hbc := hbc'
              clear hbc'
              have hS7 := hcells _ hbc
              refine hK _ _ (fun _ => hS7) ?_
              clear hK K hS
              have hS := hS7
              clear hS7
              refine wpMix_put (v := ?_) rfl rfl (Or.inl ⟨by rfl, fun wz hz => ?_⟩) hS ?_
              rotate_left
              (focus (go_simp; try (with_reducible rfl)))
              simp only [List.setIfInBounds_toArray, List.set_cons_succ, List.set_cons_zero]
              refine wpMix_put (v := ?_) rfl rfl (Or.inl ⟨by rfl, fun wz hz => ?_⟩) hS ?_
              rotate_left
              (focus (go_simp; try (with_reducible rfl)))
              simp only [List.setIfInBounds_toArray, List.set_cons_succ, List.set_cons_zero]
              refine wpMix_put (v := ?_) rfl rfl (Or.inl ⟨by rfl, fun wz hz => ?_⟩) hS ?_
              rotate_left
              (focus (go_simp; try (with_reducible rfl)))
              simp only [List.setIfInBounds_toArray, List.set_cons_succ, List.set_cons_zero]
              refine wpMix_put (v := ?_) rfl rfl (Or.inl ⟨by rfl, fun wz hz => ?_⟩) hS ?_
              rotate_left
              (focus (go_simp; try (with_reducible rfl)))
              simp only [List.setIfInBounds_toArray, List.set_cons_succ, List.set_cons_zero]
              refine wpMix_put (v := ?_) rfl rfl (Or.inl ⟨by rfl, fun wz hz => ?_⟩) hS ?_
              rotate_left
              (focus (go_simp; try (with_reducible rfl)))
              simp only [List.setIfInBounds_toArray, List.set_cons_succ, List.set_cons_zero]
              refine wpMix_nil ?_
              obtain rfl : k10 = nv := tms_len hT10 ht hE10
              have hS1 := hS.1
              go_wp2_with (go_at_call 19; go_loud (refine (rsame_any A10 (some ⟨bv, offv, none⟩) k10 c10 cv ms10 ms _ (by omega) hT10 ((ht.below hbw).below hbc) hE10).mono ?_; rintro e w11 ⟨rfl, hb11⟩))
              go_roundw
              case rel => exact ⟨k + 1, by omega, by go_num, hbk.tr (hbc.tr hb11)⟩
              case measure => simp [intOf]; omega
            · have hn1 : (u.t.name.toList == mt.t.name.toList) = false := by
                cases h : (u.t.name.toList == mt.t.name.toList)
                · rfl
                · exact absurd ((eqS_iff _ _).1 h) hn
              have hxe := Lib.hid (hxe0 hn)
              clear hn hxe0
              go_wp2
              refine wp_region_mix [(true, 0), (true, 1), (true, 2), (true, 3), (true, 4), (true, 5), (true, 6), (true, 7), (true, 8), (true, 9), (true, 10), (true, 11), (true, 12), (true, 13), (true, 14), (true, 15), (true, 16), (true, 17), (true, 18), (true, 19), (true, 20), (true, 21), (true, 22), (true, 23), (true, 24), (false, 25), (true, 26), (true, 27)] 28 (fun wz => wz.cell? ⟨bl, i, none⟩ = some (.slice (some ⟨bv, offv, none⟩) nv cv) ∧ wz.cell? ⟨bv, offv + k * 5, none⟩ = some (.string u.t.name) ∧ wz.cell? ⟨T, 0, none⟩ = some (.string mt.t.name)) (by kernel_rfl) (by kernel_rfl) ?_
              refine wpMix_put (v := ?_) rfl rfl (Or.inl ⟨by rfl, fun wz hz => ?_⟩) hS ?_
              rotate_left
              (focus (go_simp; try (with_reducible rfl)))
              simp only [List.setIfInBounds_toArray, List.set_cons_succ, List.set_cons_zero]
              refine wpMix_put (v := ?_) rfl rfl (Or.inl ⟨by rfl, fun wz hz => ?_⟩) hS ?_
              rotate_left
              (focus (go_simp; try (with_reducible rfl)))
              simp only [List.setIfInBounds_toArray, List.set_cons_succ, List.set_cons_zero]
              refine wpMix_put (v := ?_) rfl rfl (Or.inl ⟨by rfl, fun wz hz => ?_⟩) hS ?_
              rotate_left
              (focus (go_simp; try (with_reducible rfl)))
              simp only [List.setIfInBounds_toArray, List.set_cons_succ, List.set_cons_zero]
              refine wpMix_put (v := ?_) rfl rfl (Or.inl ⟨by rfl, fun wz hz => ?_⟩) hS ?_
              rotate_left
              (focus (go_simp; try (with_reducible rfl)))
              simp only [List.setIfInBounds_toArray, List.set_cons_succ, List.set_cons_zero]
              refine wpMix_put (v := ?_) rfl rfl (Or.inl ⟨by rfl, fun wz hz => ?_⟩) hS ?_
              rotate_left
              (focus (go_simp; try (with_reducible rfl)))
              simp only [List.setIfInBounds_toArray, List.set_cons_succ, List.set_cons_zero]
              refine wpMix_put (v := ?_) rfl rfl (Or.inl ⟨by rfl, fun wz hz => ?_⟩) hS ?_
              rotate_left
              (focus (go_simp; try (with_reducible rfl)))
              simp only [List.setIfInBounds_toArray, List.set_cons_succ, List.set_cons_zero]
              refine wpMix_put (v := ?_) rfl rfl (Or.inl ⟨by rfl, fun wz hz => ?_⟩) hS ?_
              rotate_left
              (focus (go_simp; try (with_reducible rfl)))
              simp only [List.setIfInBounds_toArray, List.set_cons_succ, List.set_cons_zero]
              refine wpMix_put (v := ?_) rfl rfl (Or.inl ⟨by rfl, fun wz hz => ?_⟩) hS ?_
              rotate_left
              (focus (go_simp; try (with_reducible rfl)))
              simp only [List.setIfInBounds_toArray, List.set_cons_succ, List.set_cons_zero]
              refine wpMix_put (v := ?_) rfl rfl (Or.inl ⟨by rfl, fun wz hz => ?_⟩) hS ?_
              rotate_left
              (focus (go_simp; try (with_reducible rfl)))
              simp only [List.setIfInBounds_toArray, List.set_cons_succ, List.set_cons_zero]
              refine wpMix_put (v := ?_) rfl rfl (Or.inl ⟨by rfl, fun wz hz => ?_⟩) hS ?_
              rotate_left
              (focus (go_simp; try (with_reducible rfl)))
              simp only [List.setIfInBounds_toArray, List.set_cons_succ, List.set_cons_zero]
              refine wpMix_put (v := ?_) rfl rfl (Or.inl ⟨by rfl, fun wz hz => ?_⟩) hS ?_
              rotate_left
              (focus (go_simp; try (with_reducible rfl)))
              simp only [List.setIfInBounds_toArray, List.set_cons_succ, List.set_cons_zero]
              refine wpMix_put (v := ?_) rfl rfl (Or.inl ⟨by rfl, fun wz hz => ?_⟩) hS ?_
              rotate_left
              (focus (go_simp; try (with_reducible rfl)))
              simp only [List.setIfInBounds_toArray, List.set_cons_succ, List.set_cons_zero]
              refine wpMix_put (v := ?_) rfl rfl (Or.inl ⟨by rfl, fun wz hz => ?_⟩) hS ?_
              rotate_left
              (focus (go_simp; try (with_reducible rfl)))
              simp only [List.setIfInBounds_toArray, List.set_cons_succ, List.set_cons_zero]
              refine wpMix_put (v := ?_) rfl rfl (Or.inl ⟨by rfl, fun wz hz => ?_⟩) hS ?_
              rotate_left
              (focus (go_simp; try (with_reducible rfl)))
              simp only [List.setIfInBounds_toArray, List.set_cons_succ, List.set_cons_zero]
              refine wpMix_put (v := ?_) rfl rfl (Or.inl ⟨by rfl, fun wz hz => ?_⟩) hS ?_
              rotate_left
              (focus (go_simp; try (with_reducible rfl)))
              simp only [List.setIfInBounds_toArray, List.set_cons_succ, List.set_cons_zero]
              refine wpMix_put (v := ?_) rfl rfl (Or.inl ⟨by rfl, fun wz hz => ?_⟩) hS ?_
              rotate_left
              (focus (go_simp; try (with_reducible rfl)))
              simp only [List.setIfInBounds_toArray, List.set_cons_succ, List.set_cons_zero]
              refine wpMix_put (v := ?_) rfl rfl (Or.inl ⟨by rfl, fun wz hz => ?_⟩) hS ?_
              rotate_left
              (focus (go_simp; try (with_reducible rfl)))
              simp only [List.setIfInBounds_toArray, List.set_cons_succ, List.set_cons_zero]
              refine wpMix_put (v := ?_) rfl rfl (Or.inl ⟨by rfl, fun wz hz => ?_⟩) hS ?_
              rotate_left
              (focus (go_simp; try (with_reducible rfl)))
              simp only [List.setIfInBounds_toArray, List.set_cons_succ, List.set_cons_zero]
              refine wpMix_put (v := ?_) rfl rfl (Or.inl ⟨by rfl, fun wz hz => ?_⟩) hS ?_
              rotate_left
              (focus (go_simp; try (with_reducible rfl)))
              simp only [List.setIfInBounds_toArray, List.set_cons_succ, List.set_cons_zero]
              refine wpMix_put (v := ?_) rfl rfl (Or.inl ⟨by rfl, fun wz hz => ?_⟩) hS ?_
              rotate_left
              (focus (go_simp; try (with_reducible rfl)))
              simp only [List.setIfInBounds_toArray, List.set_cons_succ, List.set_cons_zero]
              refine wpMix_put (v := ?_) rfl rfl (Or.inl ⟨by rfl, fun wz hz => ?_⟩) hS ?_
              rotate_left
              (focus (go_simp; try (with_reducible rfl)))
              simp only [List.setIfInBounds_toArray, List.set_cons_succ, List.set_cons_zero]
              refine wpMix_put (v := ?_) rfl rfl (Or.inl ⟨by rfl, fun wz hz => ?_⟩) hS ?_
              rotate_left
              (focus (go_simp; try (with_reducible rfl)))
              simp only [List.setIfInBounds_toArray, List.set_cons_succ, List.set_cons_zero]
              refine wpMix_put (v := ?_) rfl rfl (Or.inl ⟨by rfl, fun wz hz => ?_⟩) hS ?_
              rotate_left
              (focus (go_simp; try (with_reducible rfl)))
              simp only [List.setIfInBounds_toArray, List.set_cons_succ, List.set_cons_zero]
              refine wpMix_put (v := ?_) rfl rfl (Or.inl ⟨by rfl, fun wz hz => ?_⟩) hS ?_
              rotate_left
              (focus (go_simp; try (with_reducible rfl)))
              simp only [List.setIfInBounds_toArray, List.set_cons_succ, List.set_cons_zero]
              refine wpMix_put (v := ?_) rfl rfl (Or.inl ⟨by rfl, fun wz hz => ?_⟩) hS ?_
              rotate_left
              (focus (go_simp; try (with_reducible rfl)))
              simp only [List.setIfInBounds_toArray, List.set_cons_succ, List.set_cons_zero]
              refine wpMix_step rfl (fun K hK => ?_)
              go_simp
              refine (rsame_any (some ⟨b5, off5 + j * 5, none⟩) (some ⟨bv, offv + k * 5, none⟩) 1 _ _ [x5] [u] _ (by omega) ((hT5x.below hbc).one hx5) (((ht.below hbw).below hbc).one hxu) (by unfold terms; simp [hxe.out])).mono ?_
              rintro e w9 ⟨rfl, hbd⟩
              go_simp
              have hbc' := hbc.tr hbd
              clear hbc hbd
              have hbc := hbc'
              clear hbc'
              have hS7 := hcells _ hbc
              refine hK _ _ (fun _ => hS7) ?_
              clear hK K hS
              have hS := hS7
              clear hS7
              refine wpMix_put (v := ?_) rfl rfl (Or.inl ⟨by rfl, fun wz hz => ?_⟩) hS ?_
              rotate_left
              (focus (go_simp; try (with_reducible rfl)))
              simp only [List.setIfInBounds_toArray, List.set_cons_succ, List.set_cons_zero]
              refine wpMix_put (v := ?_) rfl rfl (Or.inl ⟨by rfl, fun wz hz => ?_⟩) hS ?_
              rotate_left
              (focus (go_simp; try (with_reducible rfl)))
              simp only [List.setIfInBounds_toArray, List.set_cons_succ, List.set_cons_zero]
              refine wpMix_nil ?_
              clear hwr1 hwr2
              go_wp2
              have hbc9 : Below wr.heap.size wr w9.drew := hbc.drn 1
              clear hbc hS hcells
              have hbc := hbc9
              clear hbc9
              have hcells : ∀ wz, Below wr.heap.size wr wz → wz.cell? ⟨bl, i, none⟩ = some (.slice (some ⟨bv, offv, none⟩) nv cv) ∧ wz.cell? ⟨bv, offv + k * 5, none⟩ = some (.string u.t.name) ∧ wz.cell? ⟨bv, offv + k * 5 + 1, none⟩ = some (.int .i64 u.t.kind) ∧ wz.cell? ⟨bv, offv + k * 5 + 2, none⟩ = some (.int .i64 u.t.lang) ∧ wz.cell? ⟨bv, offv + k * 5 + 3, none⟩ = some (.string u.t.see) ∧ wz.cell? ⟨bv, offv + k * 5 + 4, none⟩ = some (.slice u.A u.n u.c) := fun wz hz => ⟨(hz.cell (p := ⟨bl, i, none⟩) hblr).trans hcvr, (hz.cell (p := ⟨bv, offv + k * 5, none⟩) hbv0).trans u1, (hz.cell (p := ⟨bv, offv + k * 5 + 1, none⟩) hbv0).trans u2, (hz.cell (p := ⟨bv, offv + k * 5 + 2, none⟩) hbv0).trans u3, (hz.cell (p := ⟨bv, offv + k * 5 + 3, none⟩) hbv0).trans u4, (hz.cell (p := ⟨bv, offv + k * 5 + 4, none⟩) hbv0).trans u5⟩
              have hS := hcells _ hbc
              go_wp2
              refine wp_region_mix [(true, 0), (true, 1), (true, 2), (true, 3), (true, 4), (true, 5), (true, 6), (true, 7), (true, 8), (true, 9), (true, 10), (false, 11), (true, 12), (true, 13), (true, 14), (true, 15), (true, 16)] 17 (fun wz => wz.cell? ⟨bl, i, none⟩ = some (.slice (some ⟨bv, offv, none⟩) nv cv) ∧ wz.cell? ⟨bv, offv + k * 5, none⟩ = some (.string u.t.name) ∧ wz.cell? ⟨bv, offv + k * 5 + 1, none⟩ = some (.int .i64 u.t.kind) ∧ wz.cell? ⟨bv, offv + k * 5 + 2, none⟩ = some (.int .i64 u.t.lang) ∧ wz.cell? ⟨bv, offv + k * 5 + 3, none⟩ = some (.string u.t.see) ∧ wz.cell? ⟨bv, offv + k * 5 + 4, none⟩ = some (.slice u.A u.n u.c)) (by kernel_rfl) (by kernel_rfl) ?_
              refine wpMix_put (v := ?_) rfl rfl (Or.inl ⟨by rfl, fun wz hz => ?_⟩) hS ?_
              rotate_left
              (focus (go_simp; try (with_reducible rfl)))
              simp only [List.setIfInBounds_toArray, List.set_cons_succ, List.set_cons_zero]
              refine wpMix_put (v := ?_) rfl rfl (Or.inl ⟨by rfl, fun wz hz => ?_⟩) hS ?_
              rotate_left
              (focus (go_simp; try (with_reducible rfl)))
              simp only [List.setIfInBounds_toArray, List.set_cons_succ, List.set_cons_zero]
              refine wpMix_put (v := ?_) rfl rfl (Or.inl ⟨by rfl, fun wz hz => ?_⟩) hS ?_
              rotate_left
              (focus (go_simp; try (with_reducible rfl)))
              simp only [List.setIfInBounds_toArray, List.set_cons_succ, List.set_cons_zero]
              refine wpMix_put (v := ?_) rfl rfl (Or.inl ⟨by rfl, fun wz hz => ?_⟩) hS ?_
              rotate_left
              (focus (go_simp; try (with_reducible rfl)))
              simp only [List.setIfInBounds_toArray, List.set_cons_succ, List.set_cons_zero]
              refine wpMix_put (v := ?_) rfl rfl (Or.inl ⟨by rfl, fun wz hz => ?_⟩) hS ?_
              rotate_left
              (focus (go_simp; try (with_reducible rfl)))
              simp only [List.setIfInBounds_toArray, List.set_cons_succ, List.set_cons_zero]
              refine wpMix_put (v := ?_) rfl rfl (Or.inl ⟨by rfl, fun wz hz => ?_⟩) hS ?_
              rotate_left
              (focus (go_simp; try (with_reducible rfl)))
              simp only [List.setIfInBounds_toArray, List.set_cons_succ, List.set_cons_zero]
              refine wpMix_put (v := ?_) rfl rfl (Or.inl ⟨by rfl, fun wz hz => ?_⟩) hS ?_
              rotate_left
              (focus (go_simp; try (with_reducible rfl)))
              simp only [List.setIfInBounds_toArray, List.set_cons_succ, List.set_cons_zero]
              refine wpMix_put (v := ?_) rfl rfl (Or.inl ⟨by rfl, fun wz hz => ?_⟩) hS ?_
              rotate_left
              (focus (go_simp; try (with_reducible rfl)))
              simp only [List.setIfInBounds_toArray, List.set_cons_succ, List.set_cons_zero]
              refine wpMix_put (v := ?_) rfl rfl (Or.inl ⟨by rfl, fun wz hz => ?_⟩) hS ?_
              rotate_left
              (focus (go_simp; try (with_reducible rfl)))
              simp only [List.setIfInBounds_toArray, List.set_cons_succ, List.set_cons_zero]
              refine wpMix_put (v := ?_) rfl rfl (Or.inl ⟨by rfl, fun wz hz => ?_⟩) hS ?_
              rotate_left
              (focus (go_simp; try (with_reducible rfl)))
              simp only [List.setIfInBounds_toArray, List.set_cons_succ, List.set_cons_zero]
              refine wpMix_put (v := ?_) rfl rfl (Or.inl ⟨by rfl, fun wz hz => ?_⟩) hS ?_
              rotate_left
              (focus (go_simp; try (with_reducible rfl)))
              simp only [List.setIfInBounds_toArray, List.set_cons_succ, List.set_cons_zero]
              refine wpMix_step rfl (fun K hK => ?_)
              go_simp
              refine (add_any (some ⟨bv, offv, none⟩) nv cv ms u _ (by omega) ((hrw.below hbw).below hbc) ((ht.below hbw).below hbc) hsm (huk.below hbc) hsu).mono ?_
              rintro e w10 ⟨A10, k10, c10, ms10, rfl, hc10, hk10, hT10, hE10, hs10, hbd⟩
              rw [HU.out] at hE10 ⊢
              go_simp
              have hbc' := hbc.tr hbd
              clear hbc hbd
              have hbc := hbc'
              clear hbc'
              have hS7 := hcells _ hbc
              refine hK _ _ (fun _ => hS7) ?_
              clear hK K hS
              have hS := hS7
              clear hS7
              refine wpMix_put (v := ?_) rfl rfl (Or.inl ⟨by rfl, fun wz hz => ?_⟩) hS ?_
              rotate_left
              (focus (go_simp; try (with_reducible rfl)))
              simp only [List.setIfInBounds_toArray, List.set_cons_succ, List.set_cons_zero]
              refine wpMix_put (v := ?_) rfl rfl (Or.inl ⟨by rfl, fun wz hz => ?_⟩) hS ?_
              rotate_left
              (focus (go_simp; try (with_reducible rfl)))
              simp only [List.setIfInBounds_toArray, List.set_cons_succ, List.set_cons_zero]
              refine wpMix_put (v := ?_) rfl rfl (Or.inl ⟨by rfl, fun wz hz => ?_⟩) hS ?_
              rotate_left
              (focus (go_simp; try (with_reducible rfl)))
              simp only [List.setIfInBounds_toArray, List.set_cons_succ, List.set_cons_zero]
              refine wpMix_put (v := ?_) rfl rfl (Or.inl ⟨by rfl, fun wz hz => ?_⟩) hS ?_
              rotate_left
              (focus (go_simp; try (with_reducible rfl)))
              simp only [List.setIfInBounds_toArray, List.set_cons_succ, List.set_cons_zero]
              refine wpMix_put (v := ?_) rfl rfl (Or.inl ⟨by rfl, fun wz hz => ?_⟩) hS ?_
              rotate_left
              (focus (go_simp; try (with_reducible rfl)))
              simp only [List.setIfInBounds_toArray, List.set_cons_succ, List.set_cons_zero]
              refine wpMix_nil ?_
              obtain rfl : k10 = nv := tms_len hT10 ht hE10
              have hS1 := hS.1
              go_wp2_with (go_at_call 19; go_loud (refine (rsame_any A10 (some ⟨bv, offv, none⟩) k10 c10 cv ms10 ms _ (by omega) hT10 ((ht.below hbw).below hbc) hE10).mono ?_; rintro e w11 ⟨rfl, hb11⟩))
              go_roundw
              case rel => exact ⟨k + 1, by omega, by go_num, hbk.tr (hbc.tr hb11)⟩
              case measure => simp [intOf]; omega
          · have hlk' : ¬ (k : Int) < nv := by omega
            go_wp2
            go_roundw
            case rel => exact ⟨i + 1, by omega, by go_num, hbi.tr hbw⟩
            case measure => simp [intOf]; omega
      · have hzb : (ve == 0) = false := by simpa using hz
        clear hz hve
        go_wp2_with (go_at_call 19; go_loud (refine (rsame_any A5 A6 k5 c5 c6 ms5 ms6 _ (by omega) hT5 hT6 h56).mono ?_; rintro e w7 ⟨rfl, hb7⟩))
        go_roundw
        case rel => exact ⟨i + 1, by omega, by go_num, hbi.tr (hbc.tr hb7)⟩
        case measure => simp [intOf]; omega
    · have hi4 : i = 4 := by omega
      subst hi4
      go_wp2_with (go_at_call 14; go_loud (refine (lives_any _ (hr4.below hbi)).mono ?_; rintro e w7 ⟨rfl, hb7⟩))
      go_ret
      exact ⟨rfl, hb14.tr (hbi.tr hb7)⟩
end Go.Proofs.YtdfnfimajhagfaaGreatDoor
