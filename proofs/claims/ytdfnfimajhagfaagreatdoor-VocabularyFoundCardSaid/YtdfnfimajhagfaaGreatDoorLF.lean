/- The law VocabularyFound, walked. -/
import Derived.Test.YtdfnfimajhagfaaGreatDoorT13
import Derived.Test.YtdfnfimajhagfaaGreatDoorMF
import Derived.Test.YtdfnfimajhagfaaGreatDoorFP
namespace Go.Proofs.YtdfnfimajhagfaaGreatDoor
open Go.RowKit Go.Maps Rf
set_option maxRecDepth 100000 in
set_option maxHeartbeats 2000000 in
theorem lcap_any (s : S) (w : World) (hs : s.size ≤ 1000000) :
    Calls Tryz.prog 45 #[.string s] w fun e w' => e = .returned (.string (capS s)) ∧ Below w.heap.size w w' := by
  obtain ⟨cap, w1, hcv, hcap, hrow1, hb1⟩ := conv_in s w
  have hbl : (byts s).length = s.size := by simp [byts]
  have hback := fun (wr : World) (l : List UInt8) (h : BRow wr w.heap.size l) (hn : l.length = s.size) => conv_out (cap := cap) h hn
  have HB := Lib.hid hback
  clear hback
  obtain ⟨b, hb⟩ : ∃ b, w.heap.size = b := ⟨_, rfl⟩
  have hbw : w.heap.size ≤ b := Nat.le_of_eq hb
  rw [hb] at hcv hrow1 HB
  clear hb
  go_enter Tryz.func45, Tryz.ntmps45
  go_wp2
  go_loopw [4] (fun t4 wr => ∃ i : Nat, i ≤ s.size ∧ t4 = .int .i64 i ∧ BRow wr b (midB capB (byts s) i) ∧ Below w.heap.size w wr) (fun t4 _ => s.size - (intOf t4).toNat)
  case atStart => exact ⟨0, by omega, rfl, by rw [midB_zero]; exact hrow1, hb1⟩
  case round =>
    obtain ⟨i, hi, rfl, hrow, hbr⟩ := hrel
    by_cases hlt : i < s.size
    · have hlt' : (i : Int) < s.size := by omega
      have hil : i < (byts s).length := by omega
      have hc := hrow.cell i _ (midB_get capB hil)
      have hf := hrow.fr i (by rw [midB_len]; exact hil)
      rw [byts_at hlt hil] at hc
      by_cases h1 : 97 ≤ s[i].toNat
      · have h1' : (97 : Int) ≤ s[i].toNat := by omega
        by_cases h2 : s[i].toNat ≤ 122
        · have h2' : (s[i].toNat : Int) ≤ 122 := by omega
          have HR := Lib.hid (show BRow (wr.setCell ⟨b, i, none⟩ (.int .u8 ((s[i].toNat : Int) - 97 + 65))) b (midB capB (byts s) (i + 1)) from by
            rw [← midB_set capB hil]
            refine hrow.set (by rw [midB_len]; exact hil) ?_
            rw [byts_at hlt hil, capB_up ⟨h1, h2⟩]; omega)
          go_wp2
          go_roundw
          case rel => exact ⟨i + 1, by omega, by go_num, HR.out, hbr.st (p := ⟨b, i, none⟩) hbw _⟩
          case measure => simp [intOf]; omega
        · have h2' : ¬ (s[i].toNat : Int) ≤ 122 := by omega
          have HR := Lib.hid (show BRow wr b (midB capB (byts s) (i + 1)) from by
            rw [← midB_keep capB hil (by rw [byts_at hlt hil]; exact capB_same (fun h => h2 h.2))]; exact hrow)
          go_wp2
          go_roundw
          case rel => exact ⟨i + 1, by omega, by go_num, HR.out, hbr⟩
          case measure => simp [intOf]; omega
      · have h1' : ¬ (97 : Int) ≤ s[i].toNat := by omega
        have HR := Lib.hid (show BRow wr b (midB capB (byts s) (i + 1)) from by
          rw [← midB_keep capB hil (by rw [byts_at hlt hil]; exact capB_same (fun h => h1 h.1))]; exact hrow)
        go_wp2
        go_roundw
        case rel => exact ⟨i + 1, by omega, by go_num, HR.out, hbr⟩
        case measure => simp [intOf]; omega
    · have hlt' : ¬ (i : Int) < s.size := by omega
      rw [midB_end capB (by omega)] at hrow
      have hcv2 := HB.out wr _ hrow (by rw [List.length_map]; exact hbl)
      go_wp2
      go_ret
      exact ⟨rfl, hbr⟩
/-- in capital letters the text has the same mentions -/
theorem mentions_cap (l : List Term) (s : S) (lang : Int) : mentions l (capS s) lang = mentions l s lang := by unfold mentions; rw [words_cap]
set_option maxRecDepth 20000 in
set_option maxHeartbeats 16000000 in
theorem found_law (A : Option Addr) (n c : Nat) (l : List Int) (A1 : Option Addr) (n1 c1 : Nat) (l1 : List Int) (raw : S) (lang : Int) (w : World) (hr : Rdy w) (hl : Ints w A n l) (hl1 : Ints w A1 n1 l1) (hlang : i64ok lang) :
    Calls Tryz.prog 7 #[.slice A n c, .slice A1 n1 c1, .string raw, .int .i64 lang] w fun e w' => e = .returned (.bool true) ∧ Below w.heap.size w w' := by
  go_enter Tryz.func7, Tryz.ntmps7
  go_wp2_with (first
    | (go_at_call 42; go_loud (refine (terms_any _ _ _ _ _ hl).mono ?_; rintro e w1 ⟨At, kt, ct, ms, rfl, hct, h8, ht1, hmade, hb1⟩))
    | (go_at_call 21; go_loud (refine (ltext_any A1 n1 c1 l1 raw _ (hl1.below hb1)).mono ?_; rintro e w2 ⟨s, rfl, hs, hb2⟩))
    | (go_at_call 24; go_loud (refine (around_nat lang 4 _ hlang (by omega) (by omega)).mono ?_; rintro e _ ⟨⟨v4, rfl, hv4⟩, rfl⟩))
    | (go_at_call 27; (with_reducible refine (mentions_any At kt ct ms s (v4 : Int) w2 ?_ ?_ ?_ ?_).mono ?_); (focus omega); (focus (exact (hr.below hb1).below hb2)); (focus (exact ht1.below hb2)); (focus omega); rintro e w3 ⟨Ag, kg, cg, rfl, hcg, hkg, hlg, hog, hb3⟩)
    | (go_at_call 43; go_loud (refine (tsplit_any s _ (by omega)).mono ?_; rintro e w4 ⟨Ak, nk, ck, rfl, hnk, hlk, hok, hb4⟩))
    | (go_at_call 44; go_loud (refine (rfolded_any s _ (by omega)).mono ?_; rintro e w5 ⟨Aw, nW, cW, rfl, hcW, hnW, hsw, hb5⟩; obtain rfl : nk = nW := by { have h1 := hsw.1; rw [folded_len s _ _ hlk] at h1; exact h1 }))
    | (go_at_call 26; (with_reducible refine (plain_any Ag kg cg (mentions (terms ms) s (v4 : Int)) w5 ?_ hlg ?_).mono ?_); (focus omega); (focus (exact hog.reads.below (hb4.tr hb5))); rintro e w6 ⟨A6, c6, rfl, hc6, ho6, hb6⟩)
    | (go_at_call 45; go_loud (refine (lcap_any s _ (by omega)).mono ?_; rintro e w7 ⟨rfl, hb7⟩; have hcs := capS_size s))
    | (go_at_call 27; go_loud (refine (mentions_any At kt ct ms (capS s) (v4 : Int) w7 (by omega) ((hr.below hb1).below (hb2.tr (hb3.tr (hb4.tr (hb5.tr (hb6.tr hb7)))))) (ht1.below (hb2.tr (hb3.tr (hb4.tr (hb5.tr (hb6.tr hb7)))))) (by omega)).mono ?_; rw [mentions_cap]; rintro e w8 ⟨A8, k8, c8, rfl, hc8, hk8, hl8, ho8, hb8⟩; obtain rfl : kg = k8 := hlg.symm.trans hl8))
    | (go_at_call 26; go_loud (refine (plain_any A8 kg c8 _ w8 (by omega) hl8 ho8.reads).mono ?_; rintro e w9a ⟨A9, c9, rfl, hc9, ho9, hb9⟩))
    | (go_at_call 25; go_loud (refine (sameM_any A6 A9 kg c6 c9 _ w9a (by omega) hlg (ho6.reads.below (hb7.tr (hb8.tr hb9))) ho9.reads).mono ?_; rintro e w9 ⟨rfl, hb10⟩)))
  have hb29 : Below w2.heap.size w2 w9 := hb3.tr (hb4.tr (hb5.tr (hb6.tr (hb7.tr (hb8.tr (hb9.tr hb10))))))
  have hms := ht1.below (hb2.tr hb29)
  have hr9 := (hr.below hb1).below (hb2.tr hb29)
  have hrdg := hog.reads.below (hb4.tr (hb5.tr (hb6.tr (hb7.tr (hb8.tr (hb9.tr hb10))))))
  have hsw9 := hsw.below (hb6.tr (hb7.tr (hb8.tr (hb9.tr hb10))))
  have hb09 : Below w.heap.size w w9 := hb1.tr (hb2.tr hb29)
  have hsm := hmade.small
  have hvd := hmade.valid ht1 (by omega)
  have hlent := terms_length ht1
  have hv0 : (vvalid (terms ms)).2 = 0 := by rw [hvd]
  obtain ⟨W, hW⟩ : ∃ W, folded s (toks (byts s) 0) = W := ⟨_, rfl⟩
  have hM0 : MenOk (terms ms) (v4 : Int) W 0 (mentions (terms ms) s (v4 : Int)) := by
    unfold mentions; rw [if_pos hv0, hW]; exact mens_ok _ _ _ _ _ rfl
  have hfacts : ∀ (a : Nat) (m : Men) (rest : List Men), MenOk (terms ms) (v4 : Int) W a (m :: rest) → prefer (terms ms) m.name = (m.pref, 0) ∧ (nw m.name).length = m.hi - m.lo ∧ m.name.size ≤ 1000000 ∧
      (∀ (i : Nat) (y : S), (nw m.name)[i]? = some y → ∃ t, (toks (byts s) 0)[m.lo + i]? = some t ∧ y = foldS (s.extract t.lo t.hi)) := fun a m rest h => by
    rw [← hW] at h
    have hv := vok (show (vvalid (terms ms)).2 = eOK from hv0)
    obtain ⟨h1, h2⟩ := men_words hv h
    refine ⟨(men_at_ok hv h).resolve_right (fun h => h hv0), h1, ?_, h2⟩
    obtain ⟨g1, g2, g3, g4, g5, _⟩ := h
    obtain ⟨t, ht, _, hb⟩ := best_is (l := terms ms) (lang := (v4 : Int)) (W := folded s (toks (byts s) 0)) (q := m.lo) (by rw [g5]; dsimp only; omega)
    rw [g5] at hb
    injection hb with _ hb
    injection hb with hn _
    rw [hn]
    obtain ⟨u, hu, rfl⟩ := List.mem_map.1 ht
    exact Nat.le_trans (hsm u hu).nm (by decide)
  have HFACTS := Lib.hid hfacts
  rw [hW] at hsw9
  generalize mentions (terms ms) s (v4 : Int) = L at hM0 hlg hrdg
  have HM0 := Lib.hid hM0
  have hsw := hsw9
  have hWl := Lib.hid hsw.1
  clear hsw9 hM0 hfacts hW hvd hv0 hb29 hog hb3 hb4 hb5 hb6 hb7 hb8 hb9 hb10 ho6 ho8 ho9 hl8 hok hlk ht1 hmade hb1 hb2 hl hl1 hr
  go_loopw [14, 15] (fun t14 t15 wr => ∃ (i a : Nat), i ≤ kg + 1 ∧ t15 = .int .i64 i ∧ t14 = .int .i64 a ∧ a ≤ nk ∧ Hid (MenOk (terms ms) (v4 : Int) W a (L.drop i)) ∧ Below w9.heap.size w9 wr) (fun _ t15 _ => kg + 1 - (intOf t15).toNat)
  case atStart => exact ⟨0, 0, by omega, rfl, rfl, by omega, HM0, brefl⟩
  case round =>
    obtain ⟨i, a, hi, rfl, rfl, haW, hMh, hbw⟩ := hrel
    have hM := hMh.out
    by_cases hik : i < kg
    · obtain ⟨m, hmi⟩ : ∃ m, L[i]? = some m := ⟨_, List.getElem?_eq_getElem (by omega)⟩
      obtain ⟨hi1, hi2⟩ := List.getElem?_eq_some_iff.1 hmi
      rw [List.drop_eq_getElem_cons hi1, hi2] at hM
      obtain ⟨HPF0, HWL0, HNM0, HWN0⟩ := HFACTS.out a m _ hM
      have HPF := Lib.hid HPF0
      have HWL := Lib.hid HWL0
      have HNM := Lib.hid HNM0
      have HWN := Lib.hid HWN0
      obtain ⟨halo, hlh, hhW, hfree, hbest, hrest⟩ := hM
      rw [hWl.out] at hhW
      have HFREE := Lib.hid hfree
      have HBM := Lib.hid hbest
      have HREST := Lib.hid hrest
      clear HPF0 HWL0 HNM0 HWN0 hfree hbest hrest hi2 hMh
      have hik1 : (i : Int) ≤ kg := by omega
      have hik2 : (i : Int) < kg := by omega
      obtain ⟨bg, offg, rfl, hbg0, m1, m2, m3, m4⟩ := men_at (hrdg.below hbw) hmi
      have halo' : ¬ (m.lo : Int) < a := by omega
      have hloW : ¬ (nk : Int) < m.lo := by omega
      clear hi1
      go_wp2
      clear m1 m2 m3 m4
      obtain ⟨wo, hwo⟩ : ∃ wo : World, wo = wr := ⟨_, rfl⟩
      subst hwo
      go_loopw [17] (fun t17 wr => ∃ k : Nat, a ≤ k ∧ k ≤ m.lo ∧ t17 = .int .i64 k ∧ Below w9.heap.size w9 wr) (fun t17 _ => m.lo - (intOf t17).toNat)
      case atStart => exact ⟨a, Nat.le_refl _, halo, rfl, hbw⟩
      case round =>
        as_aux_lemma =>
        obtain ⟨k, hak, hke, rfl, hbk⟩ := hrel
        by_cases hlk : k < m.lo
        · have hlk' : (k : Int) < m.lo := by omega
          have HFR := Lib.hid (HFREE.out k hak hlk)
          go_wp2
          obtain ⟨wk, hwk⟩ : ∃ wk : World, wk = wr := ⟨_, rfl⟩
          subst hwk
          go_loopw [18] (fun t18 wr => ∃ j : Nat, j ≤ kt ∧ t18 = .int .i64 j ∧ Below w9.heap.size w9 wr) (fun t18 _ => kt - (intOf t18).toNat)
          case atStart => exact ⟨0, by omega, rfl, hbk⟩
          case round =>
            as_aux_lemma =>
            clear hbk
            obtain ⟨j, hj, rfl, hbj⟩ := hrel
            by_cases hlj : j < kt
            · obtain ⟨bt, offt, t, rfl, hx, hok, hb0, d1, d2, d3, d4, d5⟩ := (hms.below hbj).at_ hlj
              have hlj' : (j : Int) < kt := by omega
              have htm := List.mem_of_getElem? (terms_get hx)
              have hsn : t.t.name.size ≤ 1000000 := Nat.le_trans (hsm t (List.mem_of_getElem? hx)).nm (by decide)
              by_cases hl0 : t.t.lang = 0
              · have hl0' : (t.t.lang == 0) = true := by rw [hl0]; rfl
                have HSV := Lib.hid (best_free HFR.out htm (.inl hl0))
                clear hl0 hx hok
                go_wp2_with (go_at_call 46; go_loud (refine (rstands_any Aw nk cW W k t.t.name _ (by omega) hsn (hsw.below hbj) (by omega)).mono ?_; rintro e w4 ⟨rfl, hb4⟩; rw [HSV.out]))
                go_roundw
                case rel => exact ⟨j + 1, by omega, by go_num, hbj.tr hb4⟩
                case measure => simp [intOf]; omega
              · have hl0' : (t.t.lang == 0) = false := by rw [beq_eq_false_iff_ne]; exact hl0
                by_cases hl1 : t.t.lang = (v4 : Int)
                · have hl1' : (t.t.lang == (v4 : Int)) = true := by rw [hl1]; exact beq_self_eq_true _
                  have HSV := Lib.hid (best_free HFR.out htm (.inr hl1))
                  clear hl1 hl0 hx hok
                  go_wp2_with (go_at_call 46; go_loud (refine (rstands_any Aw nk cW W k t.t.name _ (by omega) hsn (hsw.below hbj) (by omega)).mono ?_; rintro e w4 ⟨rfl, hb4⟩; rw [HSV.out]))
                  go_roundw
                  case rel => exact ⟨j + 1, by omega, by go_num, hbj.tr hb4⟩
                  case measure => simp [intOf]; omega
                · have hl1' : (t.t.lang == (v4 : Int)) = false := by rw [beq_eq_false_iff_ne]; exact hl1
                  clear hl1 hl0 hx hok
                  go_wp2
                  go_roundw
                  case rel => exact ⟨j + 1, by omega, by go_num, hbj⟩
                  case measure => simp [intOf]; omega
            · have hlj' : ¬ (j : Int) < kt := by omega
              go_wp2
              go_roundw
              case rel => exact ⟨k + 1, by omega, by omega, by go_num, hbj⟩
              case measure => simp [intOf]; omega
        · have hlk' : ¬ (k : Int) < m.lo := by omega
          clear HFREE
          clear hbg0
          obtain ⟨_, _, e9, hbg0, m1, m2, m3, m4⟩ := men_at (hrdg.below hbk) hmi
          injection e9 with e9
          injection e9 with e8 e9
          subst e8
          subst e9
          have hik : ((i : Int) == (kg : Int)) = false := by rw [beq_eq_false_iff_ne]; omega
          have hpp : (m.pref.toList == m.pref.toList) = true := (eqS_iff _ _).2 rfl
          have hnm : m.name.size ≤ 1000000 := HNM.out
          have hlohi : ¬ (m.hi : Int) ≤ m.lo := by omega
          have hhiW : ¬ (nk : Int) < m.hi := by omega
          go_wp2_with (go_at_call 33; go_loud (refine (prefer_any _ kt ct ms m.name _ (by omega) (hr9.below hbk) (hms.below hbk)).mono ?_; rw [HPF.out]; rintro e wp ⟨rfl, hbp⟩; have p1 := (hbp.cell (p := ⟨bg, offg + i * 4, none⟩) hbg0).trans m1; have p2 := (hbp.cell (p := ⟨bg, offg + i * 4 + 1, none⟩) hbg0).trans m2; have p3 := (hbp.cell (p := ⟨bg, offg + i * 4 + 2, none⟩) hbg0).trans m3; have p4 := (hbp.cell (p := ⟨bg, offg + i * 4 + 3, none⟩) hbg0).trans m4))
          go_quiet (fail)
          clear m1 m2 m3 m4
          have hpq := fun (q : Nat) => (hbk.tr hbp).drn q
          obtain ⟨q3, hq3⟩ : ∃ q3, (nw m.name).length = q3 := ⟨_, rfl⟩
          have HQ3 := Lib.hid hq3
          have hq3i : (m.hi : Int) - m.lo = q3 := by have := HWL.out; omega
          clear hq3
          go_wp2_with (go_at_call 47; go_loud (refine (words_any m.name _ hnm).mono ?_; rintro e w10 ⟨A3, n3, c3, rfl, hc3, hn3, hs3, hb10⟩; obtain rfl : n3 = q3 := hs3.1.symm.trans HQ3.out; have hb910 := (hpq _).tr hb10; have u1 := (hb10.cell (p := ⟨bg, offg + i * 4, none⟩) (Nat.lt_of_lt_of_le hbg0 hbp.size)).trans p1; have u2 := (hb10.cell (p := ⟨bg, offg + i * 4 + 1, none⟩) (Nat.lt_of_lt_of_le hbg0 hbp.size)).trans p2))
          go_quiet (fail)
          clear u1 u2 p1 p2 p3 p4 hbk hq3i hpq hb10 hbp
          go_wp2
          go_loopw [22] (fun t22 wr => ∃ k : Nat, k ≤ n3 ∧ t22 = .int .i64 k ∧ Strs wr A3 n3 (nw m.name) ∧ Below w9.heap.size w9 wr) (fun t22 _ => n3 - (intOf t22).toNat)
          case atStart => exact ⟨0, by omega, rfl, hs3.below (brefl.drn _), hb910.drn _⟩
          case round =>
            as_aux_lemma =>
            clear hs3 hb910
            obtain ⟨k, hk, rfl, hs10, hbk⟩ := hrel
            by_cases hlk : k < n3
            · have hlk' : (k : Int) < n3 := by omega
              obtain ⟨b3, o3, y, rfl, hy, hys, hby, cy⟩ := hs10.at_ hlk
              obtain ⟨_, _, e9, hbg9, m1, _, _, _⟩ := men_at (hrdg.below hbk) hmi
              injection e9 with e9
              injection e9 with e8 e9
              subst e8
              subst e9
              obtain ⟨tk, htk, hyt⟩ := HWN.out k y hy
              obtain ⟨p, hp0⟩ : ∃ p, m.lo + k = p := ⟨_, rfl⟩
              rw [hp0] at htk
              have hp : (m.lo : Int) + k = p := by omega
              have hpw := IntWalk.i64_in (p : Int) (by omega)
              have hpw1 := IntWalk.i64_in ((p : Int) + 1) (by omega)
              have htok := toks_ok htk
              have HTK := Lib.hid htk
              have HY := Lib.hid hyt
              have hyy : (y.toList == y.toList) = true := (eqS_iff _ _).2 rfl
              have hcells : ∀ wz, Below wr.heap.size wr wz → wz.cell? ⟨bg, offg + i * 4, none⟩ = some (.int .i64 m.lo) ∧ wz.cell? ⟨b3, o3 + k, none⟩ = some (.string y) := fun wz hz => ⟨(hz.cell (p := ⟨bg, offg + i * 4, none⟩) hbg9).trans m1, (hz.cell (p := ⟨b3, o3 + k, none⟩) hby).trans cy⟩
              have hbc : Below wr.heap.size wr wr.drew := brefl.drn 1
              have hS := hcells _ hbc
              clear htk hyt hy hp0 m1 cy
              go_wp2
              refine wp_region_mix [(true, 0), (true, 1), (true, 2), (true, 3), (true, 4), (true, 5), (true, 6), (true, 7), (true, 8), (true, 9), (true, 10), (true, 11), (true, 12), (true, 13), (true, 14), (true, 15), (true, 18), (true, 19), (true, 20), (true, 21), (false, 16), (false, 17), (true, 22)] 23 (fun wz => wz.cell? ⟨bg, offg + i * 4, none⟩ = some (.int .i64 m.lo) ∧ wz.cell? ⟨b3, o3 + k, none⟩ = some (.string y)) (by kernel_rfl) (by kernel_rfl) ?_
              refine wpMix_put (v := ?_) rfl rfl (Or.inl ⟨by rfl, fun wz hz => ?_⟩) hS ?_
              rotate_left
              (focus (go_simp; try (with_reducible rfl)))
              simp only [List.setIfInBounds_toArray, List.set_cons_succ, List.set_cons_zero]
              refine wpMix_put (v := ?_) rfl rfl (Or.inl ⟨by rfl, fun wz hz => ?_⟩) hS ?_
              rotate_left
              (focus (go_simp; try (with_reducible rfl)))
              simp only [List.setIfInBounds_toArray, List.set_cons_succ, List.set_cons_zero]
              refine wpMix_put (v := ?_) rfl rfl (Or.inl ⟨by rfl, fun wz hz => ?_⟩) hS ?_
              rotate_left
              (focus (go_simp; try (with_reducible rfl)))
              simp only [List.setIfInBounds_toArray, List.set_cons_succ, List.set_cons_zero]
              refine wpMix_put (v := ?_) rfl rfl (Or.inl ⟨by rfl, fun wz hz => ?_⟩) hS ?_
              rotate_left
              (focus (go_simp; try (with_reducible rfl)))
              simp only [List.setIfInBounds_toArray, List.set_cons_succ, List.set_cons_zero]
              refine wpMix_put (v := ?_) rfl rfl (Or.inl ⟨by rfl, fun wz hz => ?_⟩) hS ?_
              rotate_left
              (focus (go_simp; try (with_reducible rfl)))
              simp only [List.setIfInBounds_toArray, List.set_cons_succ, List.set_cons_zero]
              refine wpMix_put (v := ?_) rfl rfl (Or.inl ⟨by rfl, fun wz hz => ?_⟩) hS ?_
              rotate_left
              (focus (go_simp; try (with_reducible rfl)))
              simp only [List.setIfInBounds_toArray, List.set_cons_succ, List.set_cons_zero]
              refine wpMix_put (v := ?_) rfl rfl (Or.inl ⟨by rfl, fun wz hz => ?_⟩) hS ?_
              rotate_left
              (focus (go_simp; try (with_reducible rfl)))
              simp only [List.setIfInBounds_toArray, List.set_cons_succ, List.set_cons_zero]
              refine wpMix_put (v := ?_) rfl rfl (Or.inl ⟨by rfl, fun wz hz => ?_⟩) hS ?_
              rotate_left
              (focus (go_simp; try (with_reducible rfl)))
              simp only [List.setIfInBounds_toArray, List.set_cons_succ, List.set_cons_zero]
              refine wpMix_put (v := ?_) rfl rfl (Or.inl ⟨by rfl, fun wz hz => ?_⟩) hS ?_
              rotate_left
              (focus (go_simp; try (with_reducible rfl)))
              simp only [List.setIfInBounds_toArray, List.set_cons_succ, List.set_cons_zero]
              refine wpMix_put (v := ?_) rfl rfl (Or.inl ⟨by rfl, fun wz hz => ?_⟩) hS ?_
              rotate_left
              (focus (go_simp; try (with_reducible rfl)))
              simp only [List.setIfInBounds_toArray, List.set_cons_succ, List.set_cons_zero]
              refine wpMix_put (v := ?_) rfl rfl (Or.inl ⟨by rfl, fun wz hz => ?_⟩) hS ?_
              rotate_left
              (focus (go_simp; try (with_reducible rfl)))
              simp only [List.setIfInBounds_toArray, List.set_cons_succ, List.set_cons_zero]
              refine wpMix_put (v := ?_) rfl rfl (Or.inl ⟨by rfl, fun wz hz => ?_⟩) hS ?_
              rotate_left
              (focus (go_simp; try (with_reducible rfl)))
              simp only [List.setIfInBounds_toArray, List.set_cons_succ, List.set_cons_zero]
              refine wpMix_put (v := ?_) rfl rfl (Or.inl ⟨by rfl, fun wz hz => ?_⟩) hS ?_
              rotate_left
              (focus (go_simp; try (with_reducible rfl)))
              simp only [List.setIfInBounds_toArray, List.set_cons_succ, List.set_cons_zero]
              refine wpMix_put (v := ?_) rfl rfl (Or.inl ⟨by rfl, fun wz hz => ?_⟩) hS ?_
              rotate_left
              (focus (go_simp; try (with_reducible rfl)))
              simp only [List.setIfInBounds_toArray, List.set_cons_succ, List.set_cons_zero]
              refine wpMix_put (v := ?_) rfl rfl (Or.inl ⟨by rfl, fun wz hz => ?_⟩) hS ?_
              rotate_left
              (focus (go_simp; try (with_reducible rfl)))
              simp only [List.setIfInBounds_toArray, List.set_cons_succ, List.set_cons_zero]
              refine wpMix_put (v := ?_) rfl rfl (Or.inl ⟨by rfl, fun wz hz => ?_⟩) hS ?_
              rotate_left
              (focus (go_simp; try (with_reducible rfl)))
              simp only [List.setIfInBounds_toArray, List.set_cons_succ, List.set_cons_zero]
              refine wpMix_put (v := ?_) rfl rfl (Or.inl ⟨by rfl, fun wz hz => ?_⟩) hS ?_
              rotate_left
              (focus (go_simp; try (with_reducible rfl)))
              simp only [List.setIfInBounds_toArray, List.set_cons_succ, List.set_cons_zero]
              refine wpMix_put (v := ?_) rfl rfl (Or.inl ⟨by rfl, fun wz hz => ?_⟩) hS ?_
              rotate_left
              (focus (go_simp; try (with_reducible rfl)))
              simp only [List.setIfInBounds_toArray, List.set_cons_succ, List.set_cons_zero]
              refine wpMix_put (v := ?_) rfl rfl (Or.inl ⟨by rfl, fun wz hz => ?_⟩) hS ?_
              rotate_left
              (focus (go_simp; try (with_reducible rfl)))
              simp only [List.setIfInBounds_toArray, List.set_cons_succ, List.set_cons_zero]
              refine wpMix_put (v := ?_) rfl rfl (Or.inl ⟨by rfl, fun wz hz => ?_⟩) hS ?_
              rotate_left
              (focus (go_simp; try (with_reducible rfl)))
              simp only [List.setIfInBounds_toArray, List.set_cons_succ, List.set_cons_zero]
              refine wpMix_step rfl (fun K hK => ?_)
              go_simp
              refine (part_any s p tk _ (by omega) HTK.out).mono ?_
              rintro e w11 ⟨rfl, hbd⟩
              go_simp
              have hbc7 := hbc.tr hbd
              have hS7 := hcells _ hbc7
              refine hK _ _ (fun _ => hS7) ?_
              clear hK K hS
              have hS := hS7
              clear hS7
              refine wpMix_step rfl (fun K hK => ?_)
              go_simp
              refine (fold_any _ _ (by rw [ByteArray.size_extract]; omega)).mono ?_
              rw [← HY.out]
              rintro e w12 ⟨rfl, hbd2⟩
              go_simp
              have hbc8 := hbc7.tr hbd2
              have hS7 := hcells _ hbc8
              refine hK _ _ (fun _ => hS7) ?_
              clear hK K hS
              have hS := hS7
              clear hS7
              refine wpMix_put (v := ?_) rfl rfl (Or.inl ⟨by rfl, fun wz hz => ?_⟩) hS ?_
              rotate_left
              (focus (go_simp; try (with_reducible rfl)))
              simp only [List.setIfInBounds_toArray, List.set_cons_succ, List.set_cons_zero]
              refine wpMix_nil ?_
              go_wp2
              go_roundw
              case rel => exact ⟨k + 1, by omega, by go_num, hs10.below hbc8, hbk.tr hbc8⟩
              case measure => simp [intOf]; omega
            · have hlk' : ¬ (k : Int) < n3 := by omega
              have hbX := hbk
              clear hbk hs10 HWN
              go_wp2
              obtain ⟨wx, hwx⟩ : ∃ wx : World, wx = wr := ⟨_, rfl⟩
              subst hwx
              go_loopw [23] (fun t23 wr => ∃ j : Nat, j ≤ kt ∧ t23 = .int .i64 j ∧ Below w9.heap.size w9 wr) (fun t23 _ => kt - (intOf t23).toNat)
              case atStart => exact ⟨0, by omega, rfl, hbX⟩
              case round =>
                as_aux_lemma =>
                clear hbX
                obtain ⟨j, hj, rfl, hbj⟩ := hrel
                by_cases hlj : j < kt
                · obtain ⟨bt, offt, t, rfl, hx, hok, hb0, d1, d2, d3, d4, d5⟩ := (hms.below hbj).at_ hlj
                  have hlj' : (j : Int) < kt := by omega
                  have htm := List.mem_of_getElem? (terms_get hx)
                  have hsn : t.t.name.size ≤ 1000000 := Nat.le_trans (hsm t (List.mem_of_getElem? hx)).nm (by decide)
                  by_cases hl0 : t.t.lang = 0
                  · have hl0' : (t.t.lang == 0) = true := by rw [hl0]; rfl
                    have HL := Lib.hid hl0
                    clear hl0 hx hok
                    cases hsv : stands W m.lo (nw t.t.name)
                    · have HSV := Lib.hid hsv
                      clear hsv
                      go_wp2_with (go_at_call 46; go_loud (refine (rstands_any Aw nk cW W m.lo t.t.name _ (by omega) hsn (hsw.below hbj) (by omega)).mono ?_; rintro e w4 ⟨rfl, hb4⟩; rw [HSV.out]))
                      go_roundw
                      case rel => exact ⟨j + 1, by omega, by go_num, hbj.tr hb4⟩
                      case measure => simp [intOf]; omega
                    · have HSV := Lib.hid hsv
                      have HLE := Lib.hid (show (nw t.t.name).length ≤ n3 from by have := best_max (lang := (v4 : Int)) htm (.inl HL.out) hsv; rw [HBM.out] at this; dsimp only at this; have h1 := HWL.out; have h2 := HQ3.out; omega)
                      clear hsv
                      have hcell1 := fun wz (hz : Below wr.heap.size wr wz) => (hz.cell (p := ⟨bt, offt + j * 5, none⟩) hb0).trans d1
                      have HC1 := Lib.hid hcell1
                      clear hcell1
                      go_wp2_with (first
                        | (go_at_call 46; go_loud (refine (rstands_any Aw nk cW W m.lo t.t.name _ (by omega) hsn (hsw.below hbj) (by omega)).mono ?_; rintro e w4 ⟨rfl, hb4⟩; rw [HSV.out]; have d1b := HC1.out _ hb4))
                        | (go_at_call 47; go_loud (refine (words_any t.t.name _ hsn).mono ?_; rintro e w5 ⟨A5, n5, c5, rfl, hc5, hn5, hs5, hb5⟩; have hn5e := hs5.1; have hle := HLE.out; have hle2 : ¬ (n3 : Int) < n5 := by { have : (nw t.t.name).length = n5 := hn5e; omega }))
                        )
                      go_roundw
                      case rel => exact ⟨j + 1, by omega, by go_num, (hbj.tr hb4).tr hb5⟩
                      case measure => simp [intOf]; omega
                  · have hl0' : (t.t.lang == 0) = false := by rw [beq_eq_false_iff_ne]; exact hl0
                    by_cases hl1 : t.t.lang = (v4 : Int)
                    · have hl1' : (t.t.lang == (v4 : Int)) = true := by rw [hl1]; exact beq_self_eq_true _
                      have HL := Lib.hid hl1
                      clear hl1 hl0 hx hok
                      cases hsv : stands W m.lo (nw t.t.name)
                      · have HSV := Lib.hid hsv
                        clear hsv
                        go_wp2_with (go_at_call 46; go_loud (refine (rstands_any Aw nk cW W m.lo t.t.name _ (by omega) hsn (hsw.below hbj) (by omega)).mono ?_; rintro e w4 ⟨rfl, hb4⟩; rw [HSV.out]))
                        go_roundw
                        case rel => exact ⟨j + 1, by omega, by go_num, hbj.tr hb4⟩
                        case measure => simp [intOf]; omega
                      · have HSV := Lib.hid hsv
                        have HLE := Lib.hid (show (nw t.t.name).length ≤ n3 from by have := best_max (lang := (v4 : Int)) htm (.inr HL.out) hsv; rw [HBM.out] at this; dsimp only at this; have h1 := HWL.out; have h2 := HQ3.out; omega)
                        clear hsv
                        have hcell1 := fun wz (hz : Below wr.heap.size wr wz) => (hz.cell (p := ⟨bt, offt + j * 5, none⟩) hb0).trans d1
                        have HC1 := Lib.hid hcell1
                        clear hcell1
                        go_wp2_with (first
                          | (go_at_call 46; go_loud (refine (rstands_any Aw nk cW W m.lo t.t.name _ (by omega) hsn (hsw.below hbj) (by omega)).mono ?_; rintro e w4 ⟨rfl, hb4⟩; rw [HSV.out]; have d1b := HC1.out _ hb4))
                          | (go_at_call 47; go_loud (refine (words_any t.t.name _ hsn).mono ?_; rintro e w5 ⟨A5, n5, c5, rfl, hc5, hn5, hs5, hb5⟩; have hn5e := hs5.1; have hle := HLE.out; have hle2 : ¬ (n3 : Int) < n5 := by { have : (nw t.t.name).length = n5 := hn5e; omega }))
                          )
                        go_roundw
                        case rel => exact ⟨j + 1, by omega, by go_num, (hbj.tr hb4).tr hb5⟩
                        case measure => simp [intOf]; omega
                    · have hl1' : (t.t.lang == (v4 : Int)) = false := by rw [beq_eq_false_iff_ne]; exact hl1
                      clear hl1 hl0 hx hok
                      go_wp2
                      go_roundw
                      case rel => exact ⟨j + 1, by omega, by go_num, hbj⟩
                      case measure => simp [intOf]; omega
                · have hlj' : ¬ (j : Int) < kt := by omega
                  obtain ⟨_, _, e9, hbg9, m1, m2, _, _⟩ := men_at (hrdg.below hbj) hmi
                  injection e9 with e9
                  injection e9 with e8 e9
                  subst e8
                  subst e9
                  go_wp2
                  go_roundw
                  case rel => exact ⟨i + 1, m.hi, by omega, by go_num, rfl, by omega, HREST, hbj⟩
                  case measure => simp [intOf]; omega
    · by_cases hie : i = kg
      · subst hie
        rw [List.drop_of_length_le (by omega)] at hM
        have HFREE := Lib.hid (fun q h1 h2 => hM q h1 (by rw [hWl.out]; exact h2))
        have hik1 : (i : Int) ≤ i := by omega
        have hik2 : ¬ (i : Int) < i := by omega
        have haw' : ¬ (nk : Int) < a := by omega
        clear hMh hik
        go_wp2
        obtain ⟨wo, hwo⟩ : ∃ wo : World, wo = wr := ⟨_, rfl⟩
        subst hwo
        go_loopw [17] (fun t17 wr => ∃ k : Nat, a ≤ k ∧ k ≤ nk ∧ t17 = .int .i64 k ∧ Below w9.heap.size w9 wr) (fun t17 _ => nk - (intOf t17).toNat)
        case atStart => exact ⟨a, Nat.le_refl _, haW, rfl, hbw⟩
        case round =>
          as_aux_lemma =>
          obtain ⟨k, hak, hke, rfl, hbk⟩ := hrel
          by_cases hlk : k < nk
          · have hlk' : (k : Int) < nk := by omega
            have HFR := Lib.hid (HFREE.out k hak hlk)
            go_wp2
            obtain ⟨wk, hwk⟩ : ∃ wk : World, wk = wr := ⟨_, rfl⟩
            subst hwk
            go_loopw [18] (fun t18 wr => ∃ j : Nat, j ≤ kt ∧ t18 = .int .i64 j ∧ Below w9.heap.size w9 wr) (fun t18 _ => kt - (intOf t18).toNat)
            case atStart => exact ⟨0, by omega, rfl, hbk⟩
            case round =>
              as_aux_lemma =>
              clear hbk
              obtain ⟨j, hj, rfl, hbj⟩ := hrel
              by_cases hlj : j < kt
              · obtain ⟨bt, offt, t, rfl, hx, hok, hb0, d1, d2, d3, d4, d5⟩ := (hms.below hbj).at_ hlj
                have hlj' : (j : Int) < kt := by omega
                have htm := List.mem_of_getElem? (terms_get hx)
                have hsn : t.t.name.size ≤ 1000000 := Nat.le_trans (hsm t (List.mem_of_getElem? hx)).nm (by decide)
                by_cases hl0 : t.t.lang = 0
                · have hl0' : (t.t.lang == 0) = true := by rw [hl0]; rfl
                  have HSV := Lib.hid (best_free HFR.out htm (.inl hl0))
                  clear hl0 hx hok
                  go_wp2_with (go_at_call 46; go_loud (refine (rstands_any Aw nk cW W k t.t.name _ (by omega) hsn (hsw.below hbj) (by omega)).mono ?_; rintro e w4 ⟨rfl, hb4⟩; rw [HSV.out]))
                  go_roundw
                  case rel => exact ⟨j + 1, by omega, by go_num, hbj.tr hb4⟩
                  case measure => simp [intOf]; omega
                · have hl0' : (t.t.lang == 0) = false := by rw [beq_eq_false_iff_ne]; exact hl0
                  by_cases hl1 : t.t.lang = (v4 : Int)
                  · have hl1' : (t.t.lang == (v4 : Int)) = true := by rw [hl1]; exact beq_self_eq_true _
                    have HSV := Lib.hid (best_free HFR.out htm (.inr hl1))
                    clear hl1 hl0 hx hok
                    go_wp2_with (go_at_call 46; go_loud (refine (rstands_any Aw nk cW W k t.t.name _ (by omega) hsn (hsw.below hbj) (by omega)).mono ?_; rintro e w4 ⟨rfl, hb4⟩; rw [HSV.out]))
                    go_roundw
                    case rel => exact ⟨j + 1, by omega, by go_num, hbj.tr hb4⟩
                    case measure => simp [intOf]; omega
                  · have hl1' : (t.t.lang == (v4 : Int)) = false := by rw [beq_eq_false_iff_ne]; exact hl1
                    clear hl1 hl0 hx hok
                    go_wp2
                    go_roundw
                    case rel => exact ⟨j + 1, by omega, by go_num, hbj⟩
                    case measure => simp [intOf]; omega
              · have hlj' : ¬ (j : Int) < kt := by omega
                go_wp2
                go_roundw
                case rel => exact ⟨k + 1, by omega, by omega, by go_num, hbj⟩
                case measure => simp [intOf]; omega
          · have hlk' : ¬ (k : Int) < nk := by omega
            clear HFREE
            go_wp2
            go_roundw
            case rel => exact ⟨i + 1, a, by omega, by go_num, rfl, haW, Lib.hid (by rw [List.drop_of_length_le (by omega)]; exact hM), hbk⟩
            case measure => simp [intOf]
      · have hik1 : ¬ (i : Int) ≤ kg := by omega
        clear hM hMh
        go_wp2_with (go_at_call 14; go_loud (refine (lives_any _ (hr9.below hbw)).mono ?_; rintro e w20 ⟨rfl, hb20⟩))
        go_ret
        exact ⟨rfl, hb09.tr (hbw.tr hb20)⟩
end Go.Proofs.YtdfnfimajhagfaaGreatDoor
