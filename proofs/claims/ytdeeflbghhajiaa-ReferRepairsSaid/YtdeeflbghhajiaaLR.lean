/- Walk of the law ReferRepairs. -/
import Derived.Test.YtdeeflbghhajiaaG4
namespace Go.Proofs.Ytdeeflbghhajiaa
open Go.RowKit Go.Maps Rf
/-- a slice of strings that came in, as a list -/
theorem strs_in {w : World} {x : Addr} {len cap : Nat} {zs : List S} (hl : len ≤ cap) (hz : zs.length = cap) (hc : ∀ i, i < zs.length → w.cell? (x.add i) = some (.string (zs.getD i ByteArray.empty))) (hw : ∀ s ∈ zs, s.size ≤ maxLen) : Strs w (some x) len (zs.take len) := by
  refine ⟨by rw [List.length_take]; omega, fun i hi => hw i (List.mem_of_mem_take hi), fun hp => ?_⟩
  rw [List.length_map, List.length_take] at hp
  obtain ⟨b, off, spot⟩ := x
  have hspot : spot = none := by simpa [Addr.add] using World.cell?_spot (hc 0 (by omega))
  subst hspot
  have hc' : ∀ j, j < zs.length → w.cell? ⟨b, off + j, none⟩ = some (.string (zs.getD j ByteArray.empty)) := fun j hj => by rw [← addr_add]; exact hc j hj
  refine ⟨b, off, rfl, World.block_lt_of_cell? w ⟨b, off, none⟩ (u := .string (zs.getD 0 ByteArray.empty)) (by have := hc' 0 (by omega); rwa [Nat.add_zero] at this), fun j u hu => ?_⟩
  rw [List.getElem?_map] at hu
  cases hj : (zs.take len)[j]? with
  | none => rw [hj] at hu; cases hu
  | some y =>
    rw [hj] at hu
    injection hu with hu
    subst hu
    obtain ⟨hjl, rfl⟩ := List.getElem?_eq_some_iff.1 hj
    rw [List.length_take] at hjl
    rw [hc' j (by omega), List.getElem_take]
    simp [List.getD_eq_getElem?_getD, List.getElem?_eq_getElem (show j < zs.length by omega)]
/-- a block of slices of numbers -/
def IRow (w : World) (b N M : Nat) : Prop := b < w.heap.size ∧ ∀ i, i < N → ∃ A n c l, w.cell? ⟨b, i, none⟩ = some (.slice A n c) ∧ n ≤ M ∧ Ints w A n l
theorem IRow.below {w w' : World} {b N M : Nat} (h : IRow w b N M) (hb : Below w.heap.size w w') : IRow w' b N M :=
  ⟨Nat.lt_of_lt_of_le h.1 hb.size, fun i hi => by
    obtain ⟨A, n, c, l, h1, h2, h3⟩ := h.2 i hi
    exact ⟨A, n, c, l, (hb.cell (p := ⟨b, i, none⟩) h.1).trans h1, h2, h3.below hb⟩⟩
def SRow (w : World) (b N M : Nat) : Prop := b < w.heap.size ∧ ∀ i, i < N → ∃ A n c l, w.cell? ⟨b, i, none⟩ = some (.slice A n c) ∧ n ≤ M ∧ Strs w A n l
theorem SRow.below {w w' : World} {b N M : Nat} (h : SRow w b N M) (hb : Below w.heap.size w w') : SRow w' b N M :=
  ⟨Nat.lt_of_lt_of_le h.1 hb.size, fun i hi => by
    obtain ⟨A, n, c, l, h1, h2, h3⟩ := h.2 i hi
    exact ⟨A, n, c, l, (hb.cell (p := ⟨b, i, none⟩) h.1).trans h1, h2, h3.below hb⟩⟩
theorem IRow.four {w : World} {A0 A1 A2 A3 : Option Addr} {n0 n1 n2 n3 c0 c1 c2 c3 M : Nat} {l0 l1 l2 l3 : List Int} {t : TypeId} (h0 : Ints w A0 n0 l0) (h1 : Ints w A1 n1 l1) (h2 : Ints w A2 n2 l2) (h3 : Ints w A3 n3 l3) (m0 : n0 ≤ M) (m1 : n1 ≤ M) (m2 : n2 ≤ M) (m3 : n3 ≤ M) :
    IRow (w.alloc (.cells #[.slice A0 n0 c0, .slice A1 n1 c1, .slice A2 n2 c2, .slice A3 n3 c3] t)) w.heap.size 4 M :=
  ⟨by simp, fun i hi => by
    match i, hi with
    | 0, _ => exact ⟨A0, n0, c0, l0, by simp, m0, h0.below (brefl.al _)⟩
    | 1, _ => exact ⟨A1, n1, c1, l1, by simp, m1, h1.below (brefl.al _)⟩
    | 2, _ => exact ⟨A2, n2, c2, l2, by simp, m2, h2.below (brefl.al _)⟩
    | 3, _ => exact ⟨A3, n3, c3, l3, by simp, m3, h3.below (brefl.al _)⟩⟩
theorem SRow.four {w : World} {A0 A1 A2 A3 : Option Addr} {n0 n1 n2 n3 c0 c1 c2 c3 M : Nat} {l0 l1 l2 l3 : List S} {t : TypeId} (h0 : Strs w A0 n0 l0) (h1 : Strs w A1 n1 l1) (h2 : Strs w A2 n2 l2) (h3 : Strs w A3 n3 l3) (m0 : n0 ≤ M) (m1 : n1 ≤ M) (m2 : n2 ≤ M) (m3 : n3 ≤ M) :
    SRow (w.alloc (.cells #[.slice A0 n0 c0, .slice A1 n1 c1, .slice A2 n2 c2, .slice A3 n3 c3] t)) w.heap.size 4 M :=
  ⟨by simp, fun i hi => by
    match i, hi with
    | 0, _ => exact ⟨A0, n0, c0, l0, by simp, m0, h0.below (brefl.al _)⟩
    | 1, _ => exact ⟨A1, n1, c1, l1, by simp, m1, h1.below (brefl.al _)⟩
    | 2, _ => exact ⟨A2, n2, c2, l2, by simp, m2, h2.below (brefl.al _)⟩
    | 3, _ => exact ⟨A3, n3, c3, l3, by simp, m3, h3.below (brefl.al _)⟩⟩
theorem Own.emptyAt (w : World) {b : Nat} (hb : b = w.heap.size) (t : TypeId) (size : Nat) {base : Nat} (h : base ≤ w.heap.size) : Own (w.alloc (.cells #[] t)) base t size (.slice (some ⟨b, 0, none⟩) 0 0) 0 [] := by subst hb; exact Own.empty w t size h
set_option maxRecDepth 200000 in
set_option maxHeartbeats 4000000 in
theorem repairs_law (A A1 A2 : Option Addr) (n c n1 c1 n2 c2 : Nat) (l l1 : List Int) (l2 : List S) (a1 a2 a3 : Int) (w : World) (hn : n ≤ maxLen) (hl : Ints w A n l) (hc1 : n1 ≤ c1) (hn1 : n1 ≤ maxLen) (hl1 : Ints w A1 n1 l1) (hc2 : n2 ≤ c2) (hn2 : n2 ≤ maxLen) (hl2 : Strs w A2 n2 l2) (h1 : i64ok a1) (h2 : i64ok a2) (h3 : i64ok a3) :
    Calls Try.prog 4 #[.slice A n c, .int .i64 a1, .int .i64 a2, .int .i64 a3, .slice A1 n1 c1, .slice A2 n2 c2] w fun e w' => e = .returned (.bool true) ∧ Below w.heap.size w w' := by
  unfold maxLen at hn hn1 hn2
  go_enter Try.func4, Try.ntmps4
  go_wp2_with fail
  refine (heads_any a1 w h1.1 h1.2).mono ?_
  rintro e w2 ⟨B, m, d, heads, rfl, hmd, hm4, hh, b2⟩
  go_wp2_with fail
  refine (refs_any A n c l 10 w2 (by omega) (by omega) hn (hl.below b2)).mono ?_
  rintro e w3 ⟨A3, n3, c3, x, rfl, hc3, hn3, hx, b3⟩
  replace hn3 : n3 ≤ 10 := hn3
  go_wp2_with fail
  refine (own_any A3 n3 c3 x w3 (by omega) hx).mono ?_
  rintro e w4 ⟨A4, c4, rfl, hc4, hx4, b4⟩
  go_wp2_with fail
  have b24 := b3.tr b4
  refine (repair_any A4 B n3 m c4 d x heads w4 (by omega) (by omega) hc4 hx4 (hh.below b24)).mono ?_
  rintro e w5 ⟨A5, k5, c5, A6, k6, c6, rfl, hk5, hkn5, hk6, hkn6, hi5, hs5, b5⟩
  go_wp2_with fail
  have b25 := b24.tr b5
  have b35 := b4.tr b5
  refine (repair_ref A3 B n3 m c3 d x heads w5 (by omega) (by omega) (hx.below b35) (hh.below b25)).mono ?_
  rintro e w6 ⟨A7, k7, c7, A8, k8, c8, rfl, hk7, hkn7, hk8, hkn8, hi7, hs7, b6⟩
  obtain rfl : k5 = k7 := hi5.1.symm.trans hi7.1
  obtain rfl : k6 = k8 := hs5.1.symm.trans hs7.1
  have b36 := b35.tr b6
  have b46 := b5.tr b6
  have b26 := b25.tr b6
  replace hi5 := hi5.below b6
  replace hs5 := hs5.below b6
  generalize (repair x heads).1.map (fun i : Nat => (i : Int)) = li at hi5 hi7
  generalize (repair x heads).2 = ls at hs5 hs7
  go_wp2_with fail
  refine (sameInts_any A5 A7 k5 c5 c7 li w6 (by omega) hi5 hi7).mono ?_
  rintro e w7 ⟨rfl, b7⟩
  go_wp2_with fail
  refine (sameTexts_any A6 A8 k6 c6 c8 ls w7 (by omega) (hs5.below b7) (hs7.below b7)).mono ?_
  rintro e w8 ⟨rfl, b8⟩
  have b68 := b7.tr b8
  replace hi7 := hi7.below b68
  replace hs7 := hs7.below b68
  have b28 := b26.tr b68
  have b38 := b36.tr b68
  have b48 := b46.tr b68
  have bw8 := b2.tr b28
  clear hi5 hs5 b7 b8 b6 b5 b24 b25 b35 b26 b36 b46 b68
  go_wp2_with fail
  refine (bent_any A7 A8 k5 k6 c7 c8 li ls a2 a3 w8 (by omega) (by omega) hi7 hs7 h2 h3).mono ?_
  rintro e w9 ⟨A9, n9, c9, l9, A10, n10, c10, l10, rfl, hc9, hn9, hi9, hc10, hn10, hs10, b9⟩
  go_wp2_with fail
  refine (bent_any A9 A10 n9 n10 c9 c10 l9 l10 a3 a2 w9 (by omega) (by omega) hi9 hs10 h3 h2).mono ?_
  rintro e w10 ⟨A11, n11, c11, l11, A12, n12, c12, l12, rfl, hc11, hn11, hi11, hc12, hn12, hs12, b10⟩
  have b810 := b9.tr b10
  replace hi7 := hi7.below b810
  replace hs7 := hs7.below b810
  replace hi9 := hi9.below b10
  replace hs10 := hs10.below b10
  have b210 := b28.tr b810
  have b310 := b38.tr b810
  have b410 := b48.tr b810
  have bw10 := bw8.tr b810
  clear b9 b10 b28 b38 b48 bw8 b810
  obtain ⟨p1, hp1⟩ : ∃ p1, p1 = min n1 10 := ⟨_, rfl⟩
  obtain ⟨p2, hp2⟩ : ∃ p2, p2 = min n2 6 := ⟨_, rfl⟩
  have hp1n : p1 ≤ n1 := by omega
  have hp2n : p2 ≤ n2 := by omega
  have hp110 : p1 ≤ 10 := by omega
  have hp26 : p2 ≤ 6 := by omega
  have hp1c : (p1 : Int) ≤ c1 := by omega
  have hp2c : (p2 : Int) ≤ c2 := by omega
  have T1 := (hl1.below bw10).take hp1n
  have T2 := (hl2.below bw10).take hp2n
  have hmin1 : min (n1 : Int) 10 = p1 := by omega
  have hmin2 : min (n2 : Int) 6 = p2 := by omega
  have hp10 : (0 : Int) ≤ p1 := by omega
  have hp20 : (0 : Int) ≤ p2 := by omega
  clear hp1 hp2
  generalize l1.take p1 = u1 at T1
  generalize l2.take p2 = u2 at T2
  have L1 := Lib.hid (show (u1.map (Value.int .i64)).length = p1 * 1 from by have := T1.1; simpa using this)
  have L2 := Lib.hid (show (u2.map Value.string).length = p2 * 1 from by have := T2.1; simpa using this)
  have E1 : Own (w10.alloc (.cells #[] 3)) w10.heap.size 3 1 (.slice (some ⟨w10.heap.size, 0, none⟩) 0 0) 0 [] := Own.empty w10 3 1 (Nat.le_refl _)
  have R1 := T1.2.2.below (brefl.al (.cells #[] 3))
  go_wp2_with (first
    | (at_builtin; refine wpList_app _ intsT rfl (.tmp 75) (.tmp 80) rfl E1 rfl rfl L1.out R1 (ints_one _) ?_ ?_ ?_; (focus omega); (focus omega); intro A13 c13 w11 o13 n13 g13 _; have b1011 := (brefl (a := w10)).al (.cells #[] 3) |>.gr g13 E1.row; have S13 := Ints.own o13 (by simp) T1.2.1; simp only [Nat.zero_add] at S13 n13; have I4 := IRow.four (c0 := c7) (c1 := c9) (c2 := c11) (c3 := c13) (M := 1000) (t := 22) (hi7.below b1011) (hi9.below b1011) (hi11.below b1011) S13 (by omega) (by omega) (by omega) (by omega); have hz11 := Lib.hid (show w11.heap.size + 1 = (w11.alloc (.cells #[.slice A7 k5 c7, .slice A9 n9 c9, .slice A11 n11 c11, .slice A13 p1 c13] 22)).heap.size from by simp))
    | (at_builtin; refine wpList_app _ stringsT rfl (.tmp 86) (.tmp 91) rfl (Own.emptyAt (w11.alloc (.cells #[.slice A7 k5 c7, .slice A9 n9 c9, .slice A11 n11 c11, .slice A13 p1 c13] 22)) hz11.out 9 1 (Nat.le_refl _)) rfl rfl L2.out (T2.2.2.below ((b1011.al _).al _)) (strs_one _) ?_ ?_ ?_; (focus omega); (focus omega); intro A14 c14 w12 o14 n14 g14 _))
  have b1112 : Below (w11.alloc (.cells #[.slice A7 k5 c7, .slice A9 n9 c9, .slice A11 n11 c11, .slice A13 p1 c13] 22)).heap.size (w11.alloc (.cells #[.slice A7 k5 c7, .slice A9 n9 c9, .slice A11 n11 c11, .slice A13 p1 c13] 22)) w12 := (brefl.al (.cells #[] 9)).gr g14 (by rw [hz11.out]; exact (Own.empty _ 9 1 (Nat.le_refl _)).row)
  have b1012 := (b1011.al (.cells #[.slice A7 k5 c7, .slice A9 n9 c9, .slice A11 n11 c11, .slice A13 p1 c13] 22)).tr b1112
  have S14 := Strs.own o14 (by simp) T2.2.1
  simp only [Nat.zero_add] at S14 n14
  have I12 := I4.below b1112
  have J4 := SRow.four (c0 := c8) (c1 := c10) (c2 := c12) (c3 := c14) (M := 1000) (t := 23) (hs7.below b1012) (hs10.below b1012) (hs12.below b1012) S14 (by omega) (by omega) (by omega) (by omega)
  have I13 := I12.below (brefl.al (.cells #[.slice A8 k6 c8, .slice A10 n10 c10, .slice A12 n12 c12, .slice A14 p2 c14] 23))
  have b1013 := b1012.al (.cells #[.slice A8 k6 c8, .slice A10 n10 c10, .slice A12 n12 c12, .slice A14 p2 c14] 23)
  generalize (w12.alloc (.cells #[.slice A8 k6 c8, .slice A10 n10 c10, .slice A12 n12 c12, .slice A14 p2 c14] 23)) = w13 at J4 I13 b1013 ⊢
  generalize w12.heap.size = bS at J4 ⊢
  generalize w11.heap.size = bI at I13 ⊢
  have hx13 := hx.below (b310.tr b1013)
  have hx413 := hx4.below (b410.tr b1013)
  have hh13 := hh.below (b210.tr b1013)
  have bw13 := bw10.tr b1013
  clear hi7 hs7 hi9 hs10 hi11 hs12 S14 I12 b1012 b1112 T1 T2 L1 L2 E1 R1 hx hx4 hh hl hl1 hl2 b210 b310 b410 bw10 b1013 hmin1 hmin2 hp10 hp20 hp1n hp2n hp110 hp26 hp1c hp2c b2 b3 b4
  go_loopw [26] (fun ii wr => ∃ i : Nat, i ≤ 4 ∧ ii = .int .i64 i ∧ Below w13.heap.size w13 wr) (fun ii _ => 4 - (intOf ii).toNat)
  case atStart => exact ⟨0, by omega, rfl, brefl⟩
  case round =>
    obtain ⟨i, hi, rfl, hbl⟩ := hrel
    by_cases hlt : i < 4
    · have hi4 : (i : Int) < 4 := by omega
      obtain ⟨wo, hwo⟩ : ∃ wo : World, wo = wr := ⟨_, rfl⟩
      subst hwo
      go_wp2
      go_loopw [27] (fun kk wr => ∃ k : Nat, k ≤ 4 ∧ kk = .int .i64 k ∧ Below w13.heap.size w13 wr) (fun kk _ => 4 - (intOf kk).toNat)
      case atStart => exact ⟨0, by omega, rfl, hbl⟩
      case round =>
        clear hbl
        obtain ⟨k, hk, rfl, hbl⟩ := hrel
        by_cases hlk : k < 4
        · have hk4 : (k : Int) < 4 := by omega
          obtain ⟨A20, n20, c20, l20, hcI, hn20, hi20⟩ := (I13.below hbl).2 i hlt
          obtain ⟨A21, n21, c21, l21, hcS, hn21, hs21⟩ := (J4.below hbl).2 k hlk
          have hIz := (I13.below hbl).1
          have hSz := (J4.below hbl).1
          have hcells : ∀ wz, Below wr.heap.size wr wz → wz.cell? ⟨bI, i, none⟩ = some (.slice A20 n20 c20) ∧ wz.cell? ⟨bS, k, none⟩ = some (.slice A21 n21 c21) := fun wz hz =>
            ⟨(hz.cell (p := ⟨bI, i, none⟩) hIz).trans hcI, (hz.cell (p := ⟨bS, k, none⟩) hSz).trans hcS⟩
          have hdr : Below wr.heap.size wr wr.drew := brefl.drn 1
          have hS := hcells _ hdr
          have hxr := hx13.below hbl
          have hhr := hh13.below hbl
          have hck := check_any A4 B A20 A21 n3 m n20 n21 c4 d c20 c21 x heads l20 l21 wr.drew (by omega) (by omega) (by omega) (by omega) hc4 ((hx413.below hbl).below hdr) (hhr.below hdr) (hi20.below hdr) (hs21.below hdr)
          obtain ⟨v, hv⟩ : ∃ v, check x heads l20 l21 = v := ⟨_, rfl⟩
          rw [hv] at hck
          have HV := Lib.hid hv
          clear hv hIz hSz hcI hcS
          go_wp2
          refine wp_region_mix [(true, 0), (true, 1), (true, 2), (true, 3), (true, 4), (true, 5), (true, 6), (true, 7), (true, 8), (true, 9), (true, 11), (true, 12), (true, 13), (true, 14), (true, 15), (true, 16), (true, 17), (true, 18), (true, 19), (true, 20), (false, 10), (false, 21), (true, 22)] 23 (fun wz => wz.cell? ⟨bI, i, none⟩ = some (.slice A20 n20 c20) ∧ wz.cell? ⟨bS, k, none⟩ = some (.slice A21 n21 c21)) (by kernel_rfl) (by kernel_rfl) ?_
          refine wpMix_put (v := ?_) rfl rfl (Or.inl ⟨by rfl, fun wz hz => ?_⟩) hS ?_
          rotate_left
          (focus (go_simp; try (with_reducible rfl)))
          simp only [List.setIfInBounds_toArray, List.set_cons_succ, List.set_cons_zero]
          refine wpMix_put (v := ?_) rfl rfl (Or.inl ⟨by rfl, fun wz hz => ?_⟩) hS ?_
          rotate_left
          (focus (go_simp; try (with_reducible rfl)))
          simp only [List.setIfInBounds_toArray, List.set_cons_succ, List.set_cons_zero]
          refine wpMix_put (v := ?_) rfl rfl (Or.inl ⟨by rfl, fun wz hz => ?_⟩) hS ?_
          rotate_left
          (focus (go_simp; try (with_reducible rfl)))
          simp only [List.setIfInBounds_toArray, List.set_cons_succ, List.set_cons_zero]
          refine wpMix_put (v := ?_) rfl rfl (Or.inl ⟨by rfl, fun wz hz => ?_⟩) hS ?_
          rotate_left
          (focus (go_simp; try (with_reducible rfl)))
          simp only [List.setIfInBounds_toArray, List.set_cons_succ, List.set_cons_zero]
          refine wpMix_put (v := ?_) rfl rfl (Or.inl ⟨by rfl, fun wz hz => ?_⟩) hS ?_
          rotate_left
          (focus (go_simp; try (with_reducible rfl)))
          simp only [List.setIfInBounds_toArray, List.set_cons_succ, List.set_cons_zero]
          refine wpMix_put (v := ?_) rfl rfl (Or.inl ⟨by rfl, fun wz hz => ?_⟩) hS ?_
          rotate_left
          (focus (go_simp; try (with_reducible rfl)))
          simp only [List.setIfInBounds_toArray, List.set_cons_succ, List.set_cons_zero]
          refine wpMix_put (v := ?_) rfl rfl (Or.inl ⟨by rfl, fun wz hz => ?_⟩) hS ?_
          rotate_left
          (focus (go_simp; try (with_reducible rfl)))
          simp only [List.setIfInBounds_toArray, List.set_cons_succ, List.set_cons_zero]
          refine wpMix_put (v := ?_) rfl rfl (Or.inl ⟨by rfl, fun wz hz => ?_⟩) hS ?_
          rotate_left
          (focus (go_simp; try (with_reducible rfl)))
          simp only [List.setIfInBounds_toArray, List.set_cons_succ, List.set_cons_zero]
          refine wpMix_put (v := ?_) rfl rfl (Or.inl ⟨by rfl, fun wz hz => ?_⟩) hS ?_
          rotate_left
          (focus (go_simp; try (with_reducible rfl)))
          simp only [List.setIfInBounds_toArray, List.set_cons_succ, List.set_cons_zero]
          refine wpMix_put (v := ?_) rfl rfl (Or.inl ⟨by rfl, fun wz hz => ?_⟩) hS ?_
          rotate_left
          (focus (go_simp; try (with_reducible rfl)))
          simp only [List.setIfInBounds_toArray, List.set_cons_succ, List.set_cons_zero]
          refine wpMix_put (v := ?_) rfl rfl (Or.inl ⟨by rfl, fun wz hz => ?_⟩) hS ?_
          rotate_left
          (focus (go_simp; try (with_reducible rfl)))
          simp only [List.setIfInBounds_toArray, List.set_cons_succ, List.set_cons_zero]
          refine wpMix_put (v := ?_) rfl rfl (Or.inl ⟨by rfl, fun wz hz => ?_⟩) hS ?_
          rotate_left
          (focus (go_simp; try (with_reducible rfl)))
          simp only [List.setIfInBounds_toArray, List.set_cons_succ, List.set_cons_zero]
          refine wpMix_put (v := ?_) rfl rfl (Or.inl ⟨by rfl, fun wz hz => ?_⟩) hS ?_
          rotate_left
          (focus (go_simp; try (with_reducible rfl)))
          simp only [List.setIfInBounds_toArray, List.set_cons_succ, List.set_cons_zero]
          refine wpMix_put (v := ?_) rfl rfl (Or.inl ⟨by rfl, fun wz hz => ?_⟩) hS ?_
          rotate_left
          (focus (go_simp; try (with_reducible rfl)))
          simp only [List.setIfInBounds_toArray, List.set_cons_succ, List.set_cons_zero]
          refine wpMix_put (v := ?_) rfl rfl (Or.inl ⟨by rfl, fun wz hz => ?_⟩) hS ?_
          rotate_left
          (focus (go_simp; try (with_reducible rfl)))
          simp only [List.setIfInBounds_toArray, List.set_cons_succ, List.set_cons_zero]
          refine wpMix_put (v := ?_) rfl rfl (Or.inl ⟨by rfl, fun wz hz => ?_⟩) hS ?_
          rotate_left
          (focus (go_simp; try (with_reducible rfl)))
          simp only [List.setIfInBounds_toArray, List.set_cons_succ, List.set_cons_zero]
          refine wpMix_put (v := ?_) rfl rfl (Or.inl ⟨by rfl, fun wz hz => ?_⟩) hS ?_
          rotate_left
          (focus (go_simp; try (with_reducible rfl)))
          simp only [List.setIfInBounds_toArray, List.set_cons_succ, List.set_cons_zero]
          refine wpMix_put (v := ?_) rfl rfl (Or.inl ⟨by rfl, fun wz hz => ?_⟩) hS ?_
          rotate_left
          (focus (go_simp; try (with_reducible rfl)))
          simp only [List.setIfInBounds_toArray, List.set_cons_succ, List.set_cons_zero]
          refine wpMix_put (v := ?_) rfl rfl (Or.inl ⟨by rfl, fun wz hz => ?_⟩) hS ?_
          rotate_left
          (focus (go_simp; try (with_reducible rfl)))
          simp only [List.setIfInBounds_toArray, List.set_cons_succ, List.set_cons_zero]
          refine wpMix_put (v := ?_) rfl rfl (Or.inl ⟨by rfl, fun wz hz => ?_⟩) hS ?_
          rotate_left
          (focus (go_simp; try (with_reducible rfl)))
          simp only [List.setIfInBounds_toArray, List.set_cons_succ, List.set_cons_zero]
          refine wpMix_step rfl (fun K hK => ?_)
          go_simp
          refine hck.mono ?_
          rintro e w7 ⟨rfl, hbc⟩
          go_simp
          have hS7 := hcells _ (hdr.tr hbc)
          refine hK _ _ (fun _ => hS7) ?_
          clear hK K hS
          have hS := hS7
          clear hS7 hck
          have hb7 := hdr.tr hbc
          clear hbc
          refine wpMix_step rfl (fun K hK => ?_)
          go_simp
          refine (check_ref A3 B A20 A21 n3 m n20 n21 c3 d c20 c21 x heads l20 l21 w7 (by omega) (by omega) (by omega) (by omega) (hxr.below hb7) (hhr.below hb7) (hi20.below hb7) (hs21.below hb7)).mono ?_
          rintro e w8 ⟨rfl, hbc⟩
          rw [HV.out]
          go_simp
          have hS7 := hcells _ (hb7.tr hbc)
          refine hK _ _ (fun _ => hS7) ?_
          clear hK K hS
          have hS := hS7
          clear hS7
          have hb8 := hb7.tr hbc
          clear hbc
          refine wpMix_put (v := ?_) rfl rfl (Or.inl ⟨by rfl, fun wz hz => ?_⟩) hS ?_
          rotate_left
          (focus (go_simp; try (with_reducible rfl)))
          simp only [List.setIfInBounds_toArray, List.set_cons_succ, List.set_cons_zero]
          refine wpMix_nil ?_
          clear hS hcells
          go_wp2
          go_roundw
          case rel => exact ⟨k + 1, by omega, by go_num, hbl.tr hb8⟩
          case measure => simp [intOf]; omega
        · have hk4 : ¬ (k : Int) < 4 := by omega
          go_wp2
          go_roundw
          case rel => exact ⟨i + 1, by omega, by go_num, hbl⟩
          case measure => simp [intOf]; omega
    · have hi4 : ¬ (i : Int) < 4 := by omega
      go_wp2_with fail
      refine (lives_any wr).mono ?_
      rintro e w14 ⟨rfl, b14⟩
      go_wp2
      go_ret
      exact ⟨rfl, (bw13.tr hbl).tr b14⟩
end Go.Proofs.Ytdeeflbghhajiaa
