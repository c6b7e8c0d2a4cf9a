/- Walk of the law ReferSteps. -/
import Derived.Test.YtdeeflbghhajiaaG4
import Derived.Test.YtdeeflbghhajiaaStep
namespace Go.Proofs.Ytdeeflbghhajiaa
open Go.RowKit Go.Maps Rf
/-- one reference more -/
theorem found_next {x : List Ref} {a b : S} {j : Nat} {f g : Bool} {r : Ref} (h : (∃ r ∈ x.take j, r.frm = a ∧ r.to = b) → f = true) (hx : x[j]? = some r) (hg : (f || (r.frm.toList == a.toList && r.to.toList == b.toList)) = g) : Hid ((∃ r ∈ x.take (j + 1), r.frm = a ∧ r.to = b) → g = true) := by
  subst hg
  show _ → _
  rintro ⟨q, hq, h1, h2⟩
  rw [take_snoc hx, List.mem_append] at hq
  rcases hq with hq | hq
  · rw [h ⟨q, hq, h1, h2⟩]; rfl
  · simp at hq
    subst hq; subst h1; subst h2
    simp
set_option maxRecDepth 200000 in
set_option maxHeartbeats 4000000 in
theorem steps_law (A A1 : Option Addr) (n c n1 c1 : Nat) (l l1 : List Int) (a2 a3 : Int) (w : World) (hn : n ≤ maxLen) (hl : Ints w A n l) (hn1 : n1 ≤ maxLen) (hl1 : Ints w A1 n1 l1) (h2 : i64ok a2) (h3 : i64ok a3) :
    Calls Try.prog 6 #[.slice A n c, .slice A1 n1 c1, .int .i64 a2, .int .i64 a3] w fun e w' => e = .returned (.bool true) ∧ Below w.heap.size w w' := by
  unfold maxLen at hn hn1
  go_enter Try.func6, Try.ntmps6
  go_wp2_with fail
  refine (heads_any a2 w h2.1 h2.2).mono ?_
  rintro e w2 ⟨B, m, d, heads, rfl, hmd, hm4, hh, b2⟩
  go_wp2_with fail
  refine (refs_any A n c l 8 w2 (by omega) (by omega) (by omega) (hl.below b2)).mono ?_
  rintro e w3 ⟨A3, n3, c3, x, rfl, hc3, hn3, hx, b3⟩
  replace hn3 : n3 ≤ 8 := hn3
  go_wp2_with fail
  refine (own_any A3 n3 c3 x w3 (by omega) hx).mono ?_
  rintro e w4 ⟨A4, c4, rfl, hc4, hx4, b4⟩
  go_wp2_with fail
  have b24 := b3.tr b4
  refine (refs_any A1 n1 c1 l1 4 w4 (by omega) (by omega) (by omega) (hl1.below (b2.tr b24))).mono ?_
  rintro e w5 ⟨A5, n5, c5, y, rfl, hc5, hn5, hy, b5⟩
  replace hn5 : n5 ≤ 4 := hn5
  go_wp2_with fail
  refine (own_new A5 n5 c5 y w5 (by omega) hy).mono ?_
  rintro e w6 ⟨A6, c6, rfl, hc6, o6, b6⟩
  have hx6 := hx4.below (b5.tr b6)
  have L1 := Lib.hid (show (refsCells x).length = n3 * 3 from by rw [refsCells_length, hx4.1])
  have R1 := Lib.hid hx6.2.2
  go_wp2_with (at_builtin; refine wpList_app _ refsT rfl (.tmp 27) (.tmp 28) rfl o6 rfl rfl L1.out R1.out (refs_one _) ?_ ?_ ?_; (focus omega); (focus omega); intro A7 c7 w7 o7 n7 g7 _)
  have b57 : Below w5.heap.size w5 w7 := b6.gr g7 o6.row
  have hm7 : Refs w7 A7 (n5 + n3) (y ++ x) := Refs.own o7 (by simp [refsCells]) (fun q hq => by
    rcases List.mem_append.1 hq with h | h
    · exact hy.2.1 q h
    · exact hx.2.1 q h)
  have b47 := b5.tr b57
  have b27 := b24.tr b47
  refine (name_any a3 w7 h3.1 h3.2).mono ?_
  rintro e w8 ⟨nm, rfl, hnm, b8⟩
  have hx8 := hx4.below (b47.tr b8)
  have hh8 := hh.below (b27.tr b8)
  have hm8 := hm7.below b8
  have bw8 := b2.tr (b27.tr b8)
  clear b8 b27 b47 b57 b5 b6 b24 b3 b4 b2 g7 o7 o6 R1 L1 hx6 hx4 hh hl hl1 hx hy
  go_wp2
  go_loopw [13] (fun ii wr => ∃ i : Nat, i ≤ m ∧ ii = .int .i64 i ∧ Below w8.heap.size w8 wr) (fun ii _ => m - (intOf ii).toNat)
  case atStart => exact ⟨0, by omega, rfl, brefl⟩
  case round =>
    obtain ⟨i, hi, rfl, hbl⟩ := hrel
    by_cases hlt : i < m
    · obtain ⟨bh, oh, xi, rfl, hxi, hxs, hb0, hci⟩ := (hh8.below hbl).at_ hlt
      have hlti : (i : Int) < m := by omega
      have hhas : has heads xi = true := (has_iff _ _).2 (List.mem_of_getElem? hxi)
      have HH := Lib.hid hxi
      clear hxi
      obtain ⟨wo, hwo⟩ : ∃ wo : World, wo = wr := ⟨_, rfl⟩
      subst hwo
      go_wp2_with fail
      refine (way_any A4 (some ⟨bh, oh, none⟩) n3 m c4 d x heads nm xi wo (by omega) (by omega) hc4 (hx8.below hbl) (hh8.below hbl) hnm hxs).mono ?_
      rintro e w9 ⟨A9, k9, c9, rfl, hk9, hkn9, hs9, b9⟩
      have b89 := hbl.tr b9
      have hci9 := (b9.cell (p := ⟨bh, oh + i, none⟩) hb0).trans hci
      have hb9 := Nat.lt_of_lt_of_le hb0 b9.size
      cases hst : steps x heads nm xi with
      | none =>
        rw [way_none hst] at hs9 ⊢
        have HR0 := Lib.hid (reach_no hhas hst 20)
        have hcells : ∀ wz, Below w9.heap.size w9 wz → wz.cell? ⟨bh, oh + i, none⟩ = some (.string xi) := fun wz hz => (hz.cell (p := ⟨bh, oh + i, none⟩) hb9).trans hci9
        have hbc : Below w9.heap.size w9 w9.drew := brefl.drn 1
        have hS := hcells _ hbc
        have hxr := hx8.below b89
        have hhr := hh8.below b89
        clear hci hci9 hst hs9
        go_wp2
        refine wp_region_mix [(true, 0), (true, 1), (true, 2), (true, 4), (true, 5), (true, 6), (true, 7), (false, 3), (false, 8)] 9 (fun wz => wz.cell? ⟨bh, oh + i, none⟩ = some (.string xi)) (by kernel_rfl) (by kernel_rfl) ?_
        refine wpMix_put (v := ?_) rfl rfl (Or.inl ⟨by rfl, fun wz hz => ?_⟩) hS ?_
        rotate_left
        (focus (go_simp; try (with_reducible rfl)))
        simp only [List.setIfInBounds_toArray, List.set_cons_succ, List.set_cons_zero]
        refine wpMix_put (v := ?_) rfl rfl (Or.inl ⟨by rfl, fun wz hz => ?_⟩) hS ?_
        rotate_left
        (focus (go_simp; try (with_reducible rfl)))
        simp only [List.setIfInBounds_toArray, List.set_cons_succ, List.set_cons_zero]
        refine wpMix_put (v := ?_) rfl rfl (Or.inl ⟨by rfl, fun wz hz => ?_⟩) hS ?_
        rotate_left
        (focus (go_simp; try (with_reducible rfl)))
        simp only [List.setIfInBounds_toArray, List.set_cons_succ, List.set_cons_zero]
        refine wpMix_put (v := ?_) rfl rfl (Or.inl ⟨by rfl, fun wz hz => ?_⟩) hS ?_
        rotate_left
        (focus (go_simp; try (with_reducible rfl)))
        simp only [List.setIfInBounds_toArray, List.set_cons_succ, List.set_cons_zero]
        refine wpMix_put (v := ?_) rfl rfl (Or.inl ⟨by rfl, fun wz hz => ?_⟩) hS ?_
        rotate_left
        (focus (go_simp; try (with_reducible rfl)))
        simp only [List.setIfInBounds_toArray, List.set_cons_succ, List.set_cons_zero]
        refine wpMix_put (v := ?_) rfl rfl (Or.inl ⟨by rfl, fun wz hz => ?_⟩) hS ?_
        rotate_left
        (focus (go_simp; try (with_reducible rfl)))
        simp only [List.setIfInBounds_toArray, List.set_cons_succ, List.set_cons_zero]
        refine wpMix_put (v := ?_) rfl rfl (Or.inl ⟨by rfl, fun wz hz => ?_⟩) hS ?_
        rotate_left
        (focus (go_simp; try (with_reducible rfl)))
        simp only [List.setIfInBounds_toArray, List.set_cons_succ, List.set_cons_zero]
        refine wpMix_step rfl (fun K hK => ?_)
        go_simp
        refine (reach_any A4 (some ⟨bh, oh, none⟩) n3 m c4 d x heads nm 20 _ (by omega) (by omega) hc4 ⟨by omega, by omega⟩ (hxr.below hbc) (hhr.below hbc) hnm).mono ?_
        rintro e w10 ⟨A10, k10, c10, rfl, hk10, hkn10, hs10, hbd⟩
        go_simp
        have hbc' := hbc.tr hbd
        clear hbc hbd
        have hbc := hbc'
        clear hbc'
        have hS7 := hcells _ hbc
        refine hK _ _ (fun _ => hS7) ?_
        clear hK K hS
        have hS := hS7
        clear hS7
        refine wpMix_step rfl (fun K hK => ?_)
        go_simp
        have hq := has_any A10 k10 c10 _ xi w10 (by omega) hs10
        rw [HR0.out] at hq
        refine hq.mono ?_
        clear hq
        rintro e _ ⟨rfl, rfl⟩
        go_simp
        refine hK _ _ (fun _ => hS) ?_
        clear hK K hs10
        refine wpMix_nil ?_
        clear hS hcells
        go_wp2
        go_roundw
        case rel => exact ⟨i + 1, by omega, by go_num, b89.tr hbc⟩
        case measure => simp [intOf]; omega
      | some s =>
        obtain ⟨hl9, hal, hlast⟩ := wayN_ok hhas (steps_dist hst).2
        have HR1 := Lib.hid (reach_yes hst)
        have HR2 := Lib.hid (fun h : (s : Int) - 1 < s => reach_less hst h)
        have HR3 := Lib.hid (reach_more (m := y ++ x) (fun r h => List.mem_append_right _ h) hst)
        rw [way_some hst] at hs9 ⊢
        replace hs9 : Strs w9 A9 k9 (nm :: wayN x heads xi s nm) := hs9
        have HA := Lib.hid (fun (k : Nat) (a b : S) (h1 : (nm :: wayN x heads xi s nm)[k]? = some a) (h2 : (nm :: wayN x heads xi s nm)[k + 1]? = some b) => along_get hal h1 h2)
        have hp0 : (nm :: wayN x heads xi s nm)[0]? = some nm := rfl
        have hpl : (nm :: wayN x heads xi s nm).length = s + 1 := by rw [List.length_cons, hl9]
        generalize nm :: wayN x heads xi s nm = p at hs9 hlast hpl HA hp0 
        obtain rfl : k9 = s + 1 := hs9.1.symm.trans hpl
        rw [List.getLast?_eq_getElem?, hpl, Nat.add_sub_cancel] at hlast
        obtain ⟨bp, op, z0, rfl, hz0, _, hbp, hc0⟩ := hs9.at_ (k := 0) (by omega)
        obtain ⟨bp', op', zs, hA', hzs, _, _, hcs⟩ := hs9.at_ (k := s) (by omega)
        injection hA' with hA'
        injection hA' with hA1 hA2
        subst hA1; subst hA2
        obtain rfl : nm = z0 := by rw [hp0] at hz0; injection hz0
        obtain rfl : xi = zs := by rw [hlast] at hzs; injection hzs
        rw [Nat.add_zero] at hc0
        have hx9 := hx8.below b89
        have hn9 : s ≤ 8 := by omega
        clear hal hl9 hz0 hzs hpl hlast hst hp0
        go_wp2
        go_quiet (fail)
        go_wp2
        go_loopw [16] (fun kk wz => ∃ k : Nat, k ≤ s ∧ kk = .int .i64 k ∧ Below w9.heap.size w9 wz) (fun kk _ => s - (intOf kk).toNat)
        case atStart => exact ⟨0, by omega, rfl, brefl.drn _⟩
        case round =>
          obtain ⟨k, hk, rfl, hbk⟩ := hrel
          by_cases hlk : k < s
          · have hlk' : (k : Int) < s := by omega
            obtain ⟨wk, hwk⟩ : ∃ wk : World, wk = wr := ⟨_, rfl⟩
            subst hwk
            obtain ⟨bp', op', za, hA', hza, _, _, hca⟩ := hs9.at_ (k := k) (by omega)
            injection hA' with hA'
            injection hA' with hA1 hA2
            subst hA1; subst hA2
            obtain ⟨bp', op', zb, hA', hzb, _, _, hcb⟩ := hs9.at_ (k := k + 1) (by omega)
            injection hA' with hA'
            injection hA' with hA1 hA2
            subst hA1; subst hA2
            have hex := Lib.hid (HA.out k za zb hza hzb)
            clear hza hzb
            go_wp2
            go_loopw [17, 18] (fun ff jj wj => ∃ (j : Nat) (f : Bool), j ≤ n3 ∧ jj = .int .i64 j ∧ ff = .bool f ∧ Hid ((∃ r ∈ x.take j, r.frm = za ∧ r.to = zb) → f = true) ∧ Below w9.heap.size w9 wj) (fun _ jj _ => n3 - (intOf jj).toNat)
            case atStart => exact ⟨0, false, by omega, rfl, rfl, (by show _ → _; simp), hbk⟩
            case round =>
              obtain ⟨j, f, hj, rfl, rfl, hf, hbj⟩ := hrel
              by_cases hlj : j < n3
              · have hlj' : (j : Int) < n3 := by omega
                obtain ⟨bx, ox, r, rfl, hxr', _, _, _, hr1, hr2, _⟩ := (hx9.below hbj).at_ hlj
                have hcaj := (hbj.cell (p := ⟨bp, op + k, none⟩) hbp).trans hca
                have hcbj := (hbj.cell (p := ⟨bp, op + (k + 1), none⟩) hbp).trans hcb
                clear hc0 hcs hci hci9
                cases f
                · cases he1 : (r.frm.toList == za.toList)
                  · go_wp2
                    go_quiet (fail)
                    go_wp2
                    go_roundw
                    case rel => exact ⟨j + 1, false, by omega, by go_num, rfl, found_next (f := false) hf.out hxr' (by simp [he1]), hbj.drn _⟩
                    case measure => simp [intOf]; omega
                  · cases he2 : (r.to.toList == zb.toList)
                    · go_wp2
                      go_quiet (fail)
                      go_wp2
                      go_roundw
                      case rel => exact ⟨j + 1, false, by omega, by go_num, rfl, found_next (f := false) hf.out hxr' (by simp [he1, he2]), hbj.drn _⟩
                      case measure => simp [intOf]; omega
                    · go_wp2
                      go_quiet (fail)
                      go_wp2
                      go_roundw
                      case rel => exact ⟨j + 1, true, by omega, by go_num, rfl, found_next (f := false) hf.out hxr' (by simp [he1, he2]), hbj.drn _⟩
                      case measure => simp [intOf]; omega
                · go_wp2
                  go_quiet (fail)
                  go_wp2
                  go_roundw
                  case rel => exact ⟨j + 1, true, by omega, by go_num, rfl, fun _ => rfl, hbj.drn _⟩
                  case measure => simp [intOf]; omega
              · obtain rfl : f = true := hf.out (by rw [take_all hx9.1 hj hlj]; exact hex.out)
                go_wp2
                go_roundw
                case rel => first | exact ⟨k + 1, by omega, by go_num, hbj⟩ | exact ⟨k + 1, by omega, by omega⟩
                case measure => simp [intOf]; omega
          · obtain rfl : k = s := by omega
            have hmr := hm8.below (b89.tr hbk)
            have hxr := hx8.below (b89.tr hbk)
            have hhr := hh8.below (b89.tr hbk)
            have hcells : ∀ wz, Below wr.heap.size wr wz → wz.cell? ⟨bh, oh + i, none⟩ = some (.string xi) := fun wz hz => ((hbk.tr hz).cell (p := ⟨bh, oh + i, none⟩) hb9).trans hci9
            have hbc : Below wr.heap.size wr wr.drew := brefl.drn 1
            have hS := hcells _ hbc
            have HR2' := fun h => Lib.hid (HR2.out h)
            clear hc0 hcs hci hci9
            by_cases hs0 : 0 < k
            · have hs0' : (0 : Int) < k := by omega
              have hwrap := IntWalk.i64_in ((k : Int) - 1) (by omega)
              have HR2 := HR2' (by omega)
              go_wp2
              refine wp_region_mix [(true, 0), (true, 1), (true, 2), (true, 3), (true, 5), (true, 6), (true, 7), (true, 8), (false, 4), (false, 9), (true, 10), (true, 11), (true, 12), (true, 13), (true, 14), (true, 15), (true, 16), (true, 17), (true, 18), (true, 19), (true, 21), (true, 22), (true, 23), (true, 24), (false, 20), (false, 25), (true, 26), (true, 27), (true, 28), (true, 29), (true, 30), (true, 31), (true, 32), (true, 34), (true, 35), (true, 36), (true, 37), (false, 33), (false, 38), (true, 39), (true, 40)] 41 (fun wz => wz.cell? ⟨bh, oh + i, none⟩ = some (.string xi)) (by kernel_rfl) (by kernel_rfl) ?_
              refine wpMix_put (v := ?_) rfl rfl (Or.inl ⟨by rfl, fun wz hz => ?_⟩) hS ?_
              rotate_left
              (focus (go_simp; try (with_reducible rfl)))
              simp only [List.setIfInBounds_toArray, List.set_cons_succ, List.set_cons_zero]
              refine wpMix_put (v := ?_) rfl rfl (Or.inl ⟨by rfl, fun wz hz => ?_⟩) hS ?_
              rotate_left
              (focus (go_simp; try (with_reducible rfl)))
              simp only [List.setIfInBounds_toArray, List.set_cons_succ, List.set_cons_zero]
              refine wpMix_put (v := ?_) rfl rfl (Or.inl ⟨by rfl, fun wz hz => ?_⟩) hS ?_
              rotate_left
              (focus (go_simp; try (with_reducible rfl)))
              simp only [List.setIfInBounds_toArray, List.set_cons_succ, List.set_cons_zero]
              refine wpMix_put (v := ?_) rfl rfl (Or.inl ⟨by rfl, fun wz hz => ?_⟩) hS ?_
              rotate_left
              (focus (go_simp; try (with_reducible rfl)))
              simp only [List.setIfInBounds_toArray, List.set_cons_succ, List.set_cons_zero]
              refine wpMix_put (v := ?_) rfl rfl (Or.inl ⟨by rfl, fun wz hz => ?_⟩) hS ?_
              rotate_left
              (focus (go_simp; try (with_reducible rfl)))
              simp only [List.setIfInBounds_toArray, List.set_cons_succ, List.set_cons_zero]
              refine wpMix_put (v := ?_) rfl rfl (Or.inl ⟨by rfl, fun wz hz => ?_⟩) hS ?_
              rotate_left
              (focus (go_simp; try (with_reducible rfl)))
              simp only [List.setIfInBounds_toArray, List.set_cons_succ, List.set_cons_zero]
              refine wpMix_put (v := ?_) rfl rfl (Or.inl ⟨by rfl, fun wz hz => ?_⟩) hS ?_
              rotate_left
              (focus (go_simp; try (with_reducible rfl)))
              simp only [List.setIfInBounds_toArray, List.set_cons_succ, List.set_cons_zero]
              refine wpMix_put (v := ?_) rfl rfl (Or.inl ⟨by rfl, fun wz hz => ?_⟩) hS ?_
              rotate_left
              (focus (go_simp; try (with_reducible rfl)))
              simp only [List.setIfInBounds_toArray, List.set_cons_succ, List.set_cons_zero]
              refine wpMix_step rfl (fun K hK => ?_)
              go_simp
              refine (reach_any A4 (some ⟨bh, oh, none⟩) n3 m c4 d x heads nm (k : Int) _ (by omega) (by omega) hc4 ⟨by omega, by omega⟩ (hxr.below hbc) (hhr.below hbc) hnm).mono ?_
              rintro e w10 ⟨A10, k10, c10, rfl, hk10, hkn10, hs10, hbd⟩
              go_simp
              have hbc' := hbc.tr hbd
              clear hbc hbd
              have hbc := hbc'
              clear hbc'
              have hS7 := hcells _ hbc
              refine hK _ _ (fun _ => hS7) ?_
              clear hK K hS
              have hS := hS7
              clear hS7
              refine wpMix_step rfl (fun K hK => ?_)
              go_simp
              have hq := has_any A10 k10 c10 _ xi w10 (by omega) hs10
              rw [HR1.out] at hq
              refine hq.mono ?_
              clear hq
              rintro e _ ⟨rfl, rfl⟩
              go_simp
              refine hK _ _ (fun _ => hS) ?_
              clear hK K hs10
              refine wpMix_put (v := ?_) rfl rfl (Or.inl ⟨by rfl, fun wz hz => ?_⟩) hS ?_
              rotate_left
              (focus (go_simp; try (with_reducible rfl)))
              simp only [List.setIfInBounds_toArray, List.set_cons_succ, List.set_cons_zero]
              refine wpMix_put (v := ?_) rfl rfl (Or.inl ⟨by rfl, fun wz hz => ?_⟩) hS ?_
              rotate_left
              (focus (go_simp; try (with_reducible rfl)))
              simp only [List.setIfInBounds_toArray, List.set_cons_succ, List.set_cons_zero]
              refine wpMix_put (v := ?_) rfl rfl (Or.inl ⟨by rfl, fun wz hz => ?_⟩) hS ?_
              rotate_left
              (focus (go_simp; try (with_reducible rfl)))
              simp only [List.setIfInBounds_toArray, List.set_cons_succ, List.set_cons_zero]
              refine wpMix_put (v := ?_) rfl rfl (Or.inl ⟨by rfl, fun wz hz => ?_⟩) hS ?_
              rotate_left
              (focus (go_simp; try (with_reducible rfl)))
              simp only [List.setIfInBounds_toArray, List.set_cons_succ, List.set_cons_zero]
              refine wpMix_put (v := ?_) rfl rfl (Or.inl ⟨by rfl, fun wz hz => ?_⟩) hS ?_
              rotate_left
              (focus (go_simp; try (with_reducible rfl)))
              simp only [List.setIfInBounds_toArray, List.set_cons_succ, List.set_cons_zero]
              refine wpMix_put (v := ?_) rfl rfl (Or.inl ⟨by rfl, fun wz hz => ?_⟩) hS ?_
              rotate_left
              (focus (go_simp; try (with_reducible rfl)))
              simp only [List.setIfInBounds_toArray, List.set_cons_succ, List.set_cons_zero]
              refine wpMix_put (v := ?_) rfl rfl (Or.inl ⟨by rfl, fun wz hz => ?_⟩) hS ?_
              rotate_left
              (focus (go_simp; try (with_reducible rfl)))
              simp only [List.setIfInBounds_toArray, List.set_cons_succ, List.set_cons_zero]
              refine wpMix_put (v := ?_) rfl rfl (Or.inl ⟨by rfl, fun wz hz => ?_⟩) hS ?_
              rotate_left
              (focus (go_simp; try (with_reducible rfl)))
              simp only [List.setIfInBounds_toArray, List.set_cons_succ, List.set_cons_zero]
              refine wpMix_put (v := ?_) rfl rfl (Or.inl ⟨by rfl, fun wz hz => ?_⟩) hS ?_
              rotate_left
              (focus (go_simp; try (with_reducible rfl)))
              simp only [List.setIfInBounds_toArray, List.set_cons_succ, List.set_cons_zero]
              refine wpMix_put (v := ?_) rfl rfl (Or.inl ⟨by rfl, fun wz hz => ?_⟩) hS ?_
              rotate_left
              (focus (go_simp; try (with_reducible rfl)))
              simp only [List.setIfInBounds_toArray, List.set_cons_succ, List.set_cons_zero]
              refine wpMix_put (v := ?_) rfl rfl (Or.inl ⟨by rfl, fun wz hz => ?_⟩) hS ?_
              rotate_left
              (focus (go_simp; try (with_reducible rfl)))
              simp only [List.setIfInBounds_toArray, List.set_cons_succ, List.set_cons_zero]
              refine wpMix_put (v := ?_) rfl rfl (Or.inl ⟨by rfl, fun wz hz => ?_⟩) hS ?_
              rotate_left
              (focus (go_simp; try (with_reducible rfl)))
              simp only [List.setIfInBounds_toArray, List.set_cons_succ, List.set_cons_zero]
              refine wpMix_put (v := ?_) rfl rfl (Or.inl ⟨by rfl, fun wz hz => ?_⟩) hS ?_
              rotate_left
              (focus (go_simp; try (with_reducible rfl)))
              simp only [List.setIfInBounds_toArray, List.set_cons_succ, List.set_cons_zero]
              refine wpMix_put (v := ?_) rfl rfl (Or.inl ⟨by rfl, fun wz hz => ?_⟩) hS ?_
              rotate_left
              (focus (go_simp; try (with_reducible rfl)))
              simp only [List.setIfInBounds_toArray, List.set_cons_succ, List.set_cons_zero]
              refine wpMix_step rfl (fun K hK => ?_)
              go_simp
              refine (reach_any A4 (some ⟨bh, oh, none⟩) n3 m c4 d x heads nm ((k : Int) - 1) _ (by omega) (by omega) hc4 ⟨by omega, by omega⟩ (hxr.below hbc) (hhr.below hbc) hnm).mono ?_
              rintro e w10 ⟨A10, k10, c10, rfl, hk10, hkn10, hs10, hbd⟩
              go_simp
              have hbc' := hbc.tr hbd
              clear hbc hbd
              have hbc := hbc'
              clear hbc'
              have hS7 := hcells _ hbc
              refine hK _ _ (fun _ => hS7) ?_
              clear hK K hS
              have hS := hS7
              clear hS7
              refine wpMix_step rfl (fun K hK => ?_)
              go_simp
              have hq := has_any A10 k10 c10 _ xi w10 (by omega) hs10
              rw [HR2.out] at hq
              refine hq.mono ?_
              clear hq
              rintro e _ ⟨rfl, rfl⟩
              go_simp
              refine hK _ _ (fun _ => hS) ?_
              clear hK K hs10
              refine wpMix_put (v := ?_) rfl rfl (Or.inl ⟨by rfl, fun wz hz => ?_⟩) hS ?_
              rotate_left
              (focus (go_simp; try (with_reducible rfl)))
              simp only [List.setIfInBounds_toArray, List.set_cons_succ, List.set_cons_zero]
              refine wpMix_put (v := ?_) rfl rfl (Or.inl ⟨by rfl, fun wz hz => ?_⟩) hS ?_
              rotate_left
              (focus (go_simp; try (with_reducible rfl)))
              simp only [List.setIfInBounds_toArray, List.set_cons_succ, List.set_cons_zero]
              refine wpMix_put (v := ?_) rfl rfl (Or.inl ⟨by rfl, fun wz hz => ?_⟩) hS ?_
              rotate_left
              (focus (go_simp; try (with_reducible rfl)))
              simp only [List.setIfInBounds_toArray, List.set_cons_succ, List.set_cons_zero]
              refine wpMix_put (v := ?_) rfl rfl (Or.inl ⟨by rfl, fun wz hz => ?_⟩) hS ?_
              rotate_left
              (focus (go_simp; try (with_reducible rfl)))
              simp only [List.setIfInBounds_toArray, List.set_cons_succ, List.set_cons_zero]
              refine wpMix_put (v := ?_) rfl rfl (Or.inl ⟨by rfl, fun wz hz => ?_⟩) hS ?_
              rotate_left
              (focus (go_simp; try (with_reducible rfl)))
              simp only [List.setIfInBounds_toArray, List.set_cons_succ, List.set_cons_zero]
              refine wpMix_put (v := ?_) rfl rfl (Or.inl ⟨by rfl, fun wz hz => ?_⟩) hS ?_
              rotate_left
              (focus (go_simp; try (with_reducible rfl)))
              simp only [List.setIfInBounds_toArray, List.set_cons_succ, List.set_cons_zero]
              refine wpMix_put (v := ?_) rfl rfl (Or.inl ⟨by rfl, fun wz hz => ?_⟩) hS ?_
              rotate_left
              (focus (go_simp; try (with_reducible rfl)))
              simp only [List.setIfInBounds_toArray, List.set_cons_succ, List.set_cons_zero]
              refine wpMix_put (v := ?_) rfl rfl (Or.inl ⟨by rfl, fun wz hz => ?_⟩) hS ?_
              rotate_left
              (focus (go_simp; try (with_reducible rfl)))
              simp only [List.setIfInBounds_toArray, List.set_cons_succ, List.set_cons_zero]
              refine wpMix_put (v := ?_) rfl rfl (Or.inl ⟨by rfl, fun wz hz => ?_⟩) hS ?_
              rotate_left
              (focus (go_simp; try (with_reducible rfl)))
              simp only [List.setIfInBounds_toArray, List.set_cons_succ, List.set_cons_zero]
              refine wpMix_put (v := ?_) rfl rfl (Or.inl ⟨by rfl, fun wz hz => ?_⟩) hS ?_
              rotate_left
              (focus (go_simp; try (with_reducible rfl)))
              simp only [List.setIfInBounds_toArray, List.set_cons_succ, List.set_cons_zero]
              refine wpMix_put (v := ?_) rfl rfl (Or.inl ⟨by rfl, fun wz hz => ?_⟩) hS ?_
              rotate_left
              (focus (go_simp; try (with_reducible rfl)))
              simp only [List.setIfInBounds_toArray, List.set_cons_succ, List.set_cons_zero]
              refine wpMix_step rfl (fun K hK => ?_)
              go_simp
              refine (reach_any A7 (some ⟨bh, oh, none⟩) (n5 + n3) m c7 d (y ++ x) heads nm (k : Int) _ (by omega) (by omega) n7 ⟨by omega, by omega⟩ (hmr.below hbc) (hhr.below hbc) hnm).mono ?_
              rintro e w10 ⟨A10, k10, c10, rfl, hk10, hkn10, hs10, hbd⟩
              go_simp
              have hbc' := hbc.tr hbd
              clear hbc hbd
              have hbc := hbc'
              clear hbc'
              have hS7 := hcells _ hbc
              refine hK _ _ (fun _ => hS7) ?_
              clear hK K hS
              have hS := hS7
              clear hS7
              refine wpMix_step rfl (fun K hK => ?_)
              go_simp
              have hq := has_any A10 k10 c10 _ xi w10 (by omega) hs10
              rw [HR3.out] at hq
              refine hq.mono ?_
              clear hq
              rintro e _ ⟨rfl, rfl⟩
              go_simp
              refine hK _ _ (fun _ => hS) ?_
              clear hK K hs10
              refine wpMix_put (v := ?_) rfl rfl (Or.inl ⟨by rfl, fun wz hz => ?_⟩) hS ?_
              rotate_left
              (focus (go_simp; try (with_reducible rfl)))
              simp only [List.setIfInBounds_toArray, List.set_cons_succ, List.set_cons_zero]
              refine wpMix_put (v := ?_) rfl rfl (Or.inl ⟨by rfl, fun wz hz => ?_⟩) hS ?_
              rotate_left
              (focus (go_simp; try (with_reducible rfl)))
              simp only [List.setIfInBounds_toArray, List.set_cons_succ, List.set_cons_zero]
              refine wpMix_nil ?_
              clear hS hcells
              go_wp2
              go_roundw
              case rel => exact ⟨i + 1, by omega, by go_num, (b89.tr hbk).tr hbc⟩
              case measure => simp [intOf]; omega
            · have hs0' : ¬ (0 : Int) < k := by omega
              go_wp2
              refine wp_region_mix [(true, 0), (true, 1), (true, 2), (true, 3), (true, 5), (true, 6), (true, 7), (true, 8), (false, 4), (false, 9), (true, 10), (true, 11), (true, 12), (true, 13), (true, 14), (true, 15), (true, 16), (true, 17), (true, 18), (true, 19), (true, 20), (true, 21), (true, 22), (true, 23), (true, 24), (true, 25), (true, 26), (true, 27), (true, 28), (true, 29), (true, 30), (true, 31), (true, 32), (true, 34), (true, 35), (true, 36), (true, 37), (false, 33), (false, 38), (true, 39), (true, 40)] 41 (fun wz => wz.cell? ⟨bh, oh + i, none⟩ = some (.string xi)) (by kernel_rfl) (by kernel_rfl) ?_
              refine wpMix_put (v := ?_) rfl rfl (Or.inl ⟨by rfl, fun wz hz => ?_⟩) hS ?_
              rotate_left
              (focus (go_simp; try (with_reducible rfl)))
              simp only [List.setIfInBounds_toArray, List.set_cons_succ, List.set_cons_zero]
              refine wpMix_put (v := ?_) rfl rfl (Or.inl ⟨by rfl, fun wz hz => ?_⟩) hS ?_
              rotate_left
              (focus (go_simp; try (with_reducible rfl)))
              simp only [List.setIfInBounds_toArray, List.set_cons_succ, List.set_cons_zero]
              refine wpMix_put (v := ?_) rfl rfl (Or.inl ⟨by rfl, fun wz hz => ?_⟩) hS ?_
              rotate_left
              (focus (go_simp; try (with_reducible rfl)))
              simp only [List.setIfInBounds_toArray, List.set_cons_succ, List.set_cons_zero]
              refine wpMix_put (v := ?_) rfl rfl (Or.inl ⟨by rfl, fun wz hz => ?_⟩) hS ?_
              rotate_left
              (focus (go_simp; try (with_reducible rfl)))
              simp only [List.setIfInBounds_toArray, List.set_cons_succ, List.set_cons_zero]
              refine wpMix_put (v := ?_) rfl rfl (Or.inl ⟨by rfl, fun wz hz => ?_⟩) hS ?_
              rotate_left
              (focus (go_simp; try (with_reducible rfl)))
              simp only [List.setIfInBounds_toArray, List.set_cons_succ, List.set_cons_zero]
              refine wpMix_put (v := ?_) rfl rfl (Or.inl ⟨by rfl, fun wz hz => ?_⟩) hS ?_
              rotate_left
              (focus (go_simp; try (with_reducible rfl)))
              simp only [List.setIfInBounds_toArray, List.set_cons_succ, List.set_cons_zero]
              refine wpMix_put (v := ?_) rfl rfl (Or.inl ⟨by rfl, fun wz hz => ?_⟩) hS ?_
              rotate_left
              (focus (go_simp; try (with_reducible rfl)))
              simp only [List.setIfInBounds_toArray, List.set_cons_succ, List.set_cons_zero]
              refine wpMix_put (v := ?_) rfl rfl (Or.inl ⟨by rfl, fun wz hz => ?_⟩) hS ?_
              rotate_left
              (focus (go_simp; try (with_reducible rfl)))
              simp only [List.setIfInBounds_toArray, List.set_cons_succ, List.set_cons_zero]
              refine wpMix_step rfl (fun K hK => ?_)
              go_simp
              refine (reach_any A4 (some ⟨bh, oh, none⟩) n3 m c4 d x heads nm (k : Int) _ (by omega) (by omega) hc4 ⟨by omega, by omega⟩ (hxr.below hbc) (hhr.below hbc) hnm).mono ?_
              rintro e w10 ⟨A10, k10, c10, rfl, hk10, hkn10, hs10, hbd⟩
              go_simp
              have hbc' := hbc.tr hbd
              clear hbc hbd
              have hbc := hbc'
              clear hbc'
              have hS7 := hcells _ hbc
              refine hK _ _ (fun _ => hS7) ?_
              clear hK K hS
              have hS := hS7
              clear hS7
              refine wpMix_step rfl (fun K hK => ?_)
              go_simp
              have hq := has_any A10 k10 c10 _ xi w10 (by omega) hs10
              rw [HR1.out] at hq
              refine hq.mono ?_
              clear hq
              rintro e _ ⟨rfl, rfl⟩
              go_simp
              refine hK _ _ (fun _ => hS) ?_
              clear hK K hs10
              refine wpMix_put (v := ?_) rfl rfl (Or.inl ⟨by rfl, fun wz hz => ?_⟩) hS ?_
              rotate_left
              (focus (go_simp; try (with_reducible rfl)))
              simp only [List.setIfInBounds_toArray, List.set_cons_succ, List.set_cons_zero]
              refine wpMix_put (v := ?_) rfl rfl (Or.inl ⟨by rfl, fun wz hz => ?_⟩) hS ?_
              rotate_left
              (focus (go_simp; try (with_reducible rfl)))
              simp only [List.setIfInBounds_toArray, List.set_cons_succ, List.set_cons_zero]
              refine wpMix_put (v := ?_) rfl rfl (Or.inl ⟨by rfl, fun wz hz => ?_⟩) hS ?_
              rotate_left
              (focus (go_simp; try (with_reducible rfl)))
              simp only [List.setIfInBounds_toArray, List.set_cons_succ, List.set_cons_zero]
              refine wpMix_put (v := ?_) rfl rfl (Or.inl ⟨by rfl, fun wz hz => ?_⟩) hS ?_
              rotate_left
              (focus (go_simp; try (with_reducible rfl)))
              simp only [List.setIfInBounds_toArray, List.set_cons_succ, List.set_cons_zero]
              refine wpMix_put (v := ?_) rfl rfl (Or.inl ⟨by rfl, fun wz hz => ?_⟩) hS ?_
              rotate_left
              (focus (go_simp; try (with_reducible rfl)))
              simp only [List.setIfInBounds_toArray, List.set_cons_succ, List.set_cons_zero]
              refine wpMix_put (v := undef) rfl rfl (Or.inr ⟨by rfl, rfl⟩) hS ?_
              simp only [List.setIfInBounds_toArray, List.set_cons_succ, List.set_cons_zero]
              refine wpMix_put (v := undef) rfl rfl (Or.inr ⟨by rfl, rfl⟩) hS ?_
              simp only [List.setIfInBounds_toArray, List.set_cons_succ, List.set_cons_zero]
              refine wpMix_put (v := undef) rfl rfl (Or.inr ⟨by rfl, rfl⟩) hS ?_
              simp only [List.setIfInBounds_toArray, List.set_cons_succ, List.set_cons_zero]
              refine wpMix_put (v := undef) rfl rfl (Or.inr ⟨by rfl, rfl⟩) hS ?_
              simp only [List.setIfInBounds_toArray, List.set_cons_succ, List.set_cons_zero]
              refine wpMix_put (v := undef) rfl rfl (Or.inr ⟨by rfl, rfl⟩) hS ?_
              simp only [List.setIfInBounds_toArray, List.set_cons_succ, List.set_cons_zero]
              refine wpMix_put (v := undef) rfl rfl (Or.inr ⟨by rfl, rfl⟩) hS ?_
              simp only [List.setIfInBounds_toArray, List.set_cons_succ, List.set_cons_zero]
              refine wpMix_put (v := undef) rfl rfl (Or.inr ⟨by rfl, rfl⟩) hS ?_
              simp only [List.setIfInBounds_toArray, List.set_cons_succ, List.set_cons_zero]
              refine wpMix_put (v := undef) rfl rfl (Or.inr ⟨by rfl, rfl⟩) hS ?_
              simp only [List.setIfInBounds_toArray, List.set_cons_succ, List.set_cons_zero]
              refine wpMix_put (v := undef) rfl rfl (Or.inr ⟨by rfl, rfl⟩) hS ?_
              simp only [List.setIfInBounds_toArray, List.set_cons_succ, List.set_cons_zero]
              refine wpMix_put (v := undef) rfl rfl (Or.inr ⟨by rfl, rfl⟩) hS ?_
              simp only [List.setIfInBounds_toArray, List.set_cons_succ, List.set_cons_zero]
              refine wpMix_put (v := undef) rfl rfl (Or.inr ⟨by rfl, rfl⟩) hS ?_
              simp only [List.setIfInBounds_toArray, List.set_cons_succ, List.set_cons_zero]
              refine wpMix_put (v := ?_) rfl rfl (Or.inl ⟨by rfl, fun wz hz => ?_⟩) hS ?_
              rotate_left
              (focus (go_simp; try (with_reducible rfl)))
              simp only [List.setIfInBounds_toArray, List.set_cons_succ, List.set_cons_zero]
              refine wpMix_put (v := ?_) rfl rfl (Or.inl ⟨by rfl, fun wz hz => ?_⟩) hS ?_
              rotate_left
              (focus (go_simp; try (with_reducible rfl)))
              simp only [List.setIfInBounds_toArray, List.set_cons_succ, List.set_cons_zero]
              refine wpMix_put (v := ?_) rfl rfl (Or.inl ⟨by rfl, fun wz hz => ?_⟩) hS ?_
              rotate_left
              (focus (go_simp; try (with_reducible rfl)))
              simp only [List.setIfInBounds_toArray, List.set_cons_succ, List.set_cons_zero]
              refine wpMix_put (v := ?_) rfl rfl (Or.inl ⟨by rfl, fun wz hz => ?_⟩) hS ?_
              rotate_left
              (focus (go_simp; try (with_reducible rfl)))
              simp only [List.setIfInBounds_toArray, List.set_cons_succ, List.set_cons_zero]
              refine wpMix_put (v := ?_) rfl rfl (Or.inl ⟨by rfl, fun wz hz => ?_⟩) hS ?_
              rotate_left
              (focus (go_simp; try (with_reducible rfl)))
              simp only [List.setIfInBounds_toArray, List.set_cons_succ, List.set_cons_zero]
              refine wpMix_put (v := ?_) rfl rfl (Or.inl ⟨by rfl, fun wz hz => ?_⟩) hS ?_
              rotate_left
              (focus (go_simp; try (with_reducible rfl)))
              simp only [List.setIfInBounds_toArray, List.set_cons_succ, List.set_cons_zero]
              refine wpMix_put (v := ?_) rfl rfl (Or.inl ⟨by rfl, fun wz hz => ?_⟩) hS ?_
              rotate_left
              (focus (go_simp; try (with_reducible rfl)))
              simp only [List.setIfInBounds_toArray, List.set_cons_succ, List.set_cons_zero]
              refine wpMix_put (v := ?_) rfl rfl (Or.inl ⟨by rfl, fun wz hz => ?_⟩) hS ?_
              rotate_left
              (focus (go_simp; try (with_reducible rfl)))
              simp only [List.setIfInBounds_toArray, List.set_cons_succ, List.set_cons_zero]
              refine wpMix_put (v := ?_) rfl rfl (Or.inl ⟨by rfl, fun wz hz => ?_⟩) hS ?_
              rotate_left
              (focus (go_simp; try (with_reducible rfl)))
              simp only [List.setIfInBounds_toArray, List.set_cons_succ, List.set_cons_zero]
              refine wpMix_put (v := ?_) rfl rfl (Or.inl ⟨by rfl, fun wz hz => ?_⟩) hS ?_
              rotate_left
              (focus (go_simp; try (with_reducible rfl)))
              simp only [List.setIfInBounds_toArray, List.set_cons_succ, List.set_cons_zero]
              refine wpMix_put (v := ?_) rfl rfl (Or.inl ⟨by rfl, fun wz hz => ?_⟩) hS ?_
              rotate_left
              (focus (go_simp; try (with_reducible rfl)))
              simp only [List.setIfInBounds_toArray, List.set_cons_succ, List.set_cons_zero]
              refine wpMix_step rfl (fun K hK => ?_)
              go_simp
              refine (reach_any A7 (some ⟨bh, oh, none⟩) (n5 + n3) m c7 d (y ++ x) heads nm (k : Int) _ (by omega) (by omega) n7 ⟨by omega, by omega⟩ (hmr.below hbc) (hhr.below hbc) hnm).mono ?_
              rintro e w10 ⟨A10, k10, c10, rfl, hk10, hkn10, hs10, hbd⟩
              go_simp
              have hbc' := hbc.tr hbd
              clear hbc hbd
              have hbc := hbc'
              clear hbc'
              have hS7 := hcells _ hbc
              refine hK _ _ (fun _ => hS7) ?_
              clear hK K hS
              have hS := hS7
              clear hS7
              refine wpMix_step rfl (fun K hK => ?_)
              go_simp
              have hq := has_any A10 k10 c10 _ xi w10 (by omega) hs10
              rw [HR3.out] at hq
              refine hq.mono ?_
              clear hq
              rintro e _ ⟨rfl, rfl⟩
              go_simp
              refine hK _ _ (fun _ => hS) ?_
              clear hK K hs10
              refine wpMix_put (v := ?_) rfl rfl (Or.inl ⟨by rfl, fun wz hz => ?_⟩) hS ?_
              rotate_left
              (focus (go_simp; try (with_reducible rfl)))
              simp only [List.setIfInBounds_toArray, List.set_cons_succ, List.set_cons_zero]
              refine wpMix_put (v := ?_) rfl rfl (Or.inl ⟨by rfl, fun wz hz => ?_⟩) hS ?_
              rotate_left
              (focus (go_simp; try (with_reducible rfl)))
              simp only [List.setIfInBounds_toArray, List.set_cons_succ, List.set_cons_zero]
              refine wpMix_nil ?_
              clear hS hcells
              go_wp2
              go_roundw
              case rel => exact ⟨i + 1, by omega, by go_num, (b89.tr hbk).tr hbc⟩
              case measure => simp [intOf]; omega
    · have hlti : ¬ (i : Int) < m := by omega
      go_wp2_with fail
      refine (lives_any wr).mono ?_
      rintro e w14 ⟨rfl, b14⟩
      go_wp2
      go_ret
      exact ⟨rfl, (bw8.tr hbl).tr b14⟩
end Go.Proofs.Ytdeeflbghhajiaa
