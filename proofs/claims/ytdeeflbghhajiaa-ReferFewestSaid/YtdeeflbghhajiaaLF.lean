/- Walk of the law ReferFewest. -/
import Derived.Test.YtdeeflbghhajiaaG4
namespace Go.Proofs.Ytdeeflbghhajiaa
open Go.RowKit Go.Maps Rf
set_option maxRecDepth 20000 in
set_option maxHeartbeats 4000000 in
theorem fewest_law (A : Option Addr) (n c : Nat) (l : List Int) (a1 a2 : Int) (w : World) (hn : n ≤ 9223372036854775807) (hl : Ints w A n l) (h1 : i64ok a1) (h2 : i64ok a2) :
    Calls Try.prog 5 #[.slice A n c, .int .i64 a1, .int .i64 a2] w fun e w' => e = .returned (.bool true) ∧ Below w.heap.size w w' := by
  go_enter Try.func5, Try.ntmps5
  go_wp2_with fail
  refine (heads_any a1 w h1.1 h1.2).mono ?_
  rintro e w2 ⟨B, m, d, heads, rfl, hmd, hm4, hh, b2⟩
  go_wp2_with fail
  refine (refs_any A n c l 7 w2 (by omega) (by omega) hn (hl.below b2)).mono ?_
  rintro e w3 ⟨A3, n3, c3, x, rfl, hc3, hn3, hx, b3⟩
  replace hn3 : n3 ≤ 7 := hn3
  go_wp2_with fail
  refine (own_any A3 n3 c3 x w3 (by omega) hx).mono ?_
  rintro e w4 ⟨A4, c4, rfl, hc4, hx4, b4⟩
  go_wp2_with fail
  have b24 := b3.tr b4
  refine (repair_any A4 B n3 m c4 d x heads w4 (by omega) (by omega) hc4 hx4 (hh.below b24)).mono ?_
  rintro e w5 ⟨A5, k5, c5, A6, k6, c6, rfl, hk5, hkn5, hk6, hkn6, hi5, hs5, b5⟩
  go_wp2_with fail
  have b25 := b24.tr b5
  refine (check_any A4 B A5 A6 n3 m k5 k6 c4 d c5 c6 x heads _ _ w5 (by omega) (by omega) (by omega) (by omega) hc4 (hx4.below b5) (hh.below b25) hi5 hs5).mono ?_
  rintro e w6 ⟨rfl, b6⟩
  rw [check_repair, show eOK = (0 : Int) from rfl]
  have HL := Lib.hid (show (repair x heads).1.length = k5 from by have := hi5.1; simpa using this)
  have HE := Lib.hid (rest_eq (l := x) (heads := heads))
  have HR := Lib.hid (rest_length (l := x) (heads := heads) x 0)
  go_wp2_with fail
  have b36 := (b4.tr b5).tr b6
  have hi6 := hi5.below b6
  refine (without_any A3 A5 n3 k5 c3 c5 x _ w6 (by omega) (by omega) (hx.below b36) hi6).mono ?_
  rintro e w7 ⟨A7, k7, c7, rfl, hc7, hk7, hr7, b7⟩
  go_wp2_with fail
  refine (own_any A7 k7 c7 _ w7 (by omega) hr7).mono ?_
  rintro e w8 ⟨A8, c8, rfl, hc8, hr8, b8⟩
  rw [HE.out] at hr8 hr7
  have b28 := ((b25.tr b6).tr b7).tr b8
  have HK := Lib.hid (show (rest x heads).length = k7 from hr7.1)
  go_wp2_with fail
  refine (valid_any A8 B k7 m c8 d (rest x heads) heads w8 (by omega) (by omega) hc8 hr8 (hh.below b28)).mono ?_
  rintro e w9 ⟨rfl, b9⟩
  rw [valid_of_ok rest_ok, HK.out, show eOK = (0 : Int) from rfl]
  go_wp2_with fail
  have b29 := b28.tr b9
  refine (repair_any A8 B k7 m c8 d (rest x heads) heads w9 (by omega) (by omega) hc8 (hr8.below b9) (hh.below b29)).mono ?_
  rintro e w10 ⟨A10, k10, c10, A11, k11, c11, rfl, _, _, _, _, hi10, hs10, b10⟩
  rw [repair_ok rest_ok] at hi10 hs10
  obtain rfl : k10 = 0 := hi10.1.symm
  obtain rfl : k11 = 0 := hs10.1.symm
  have b210 := b29.tr b10
  have hsum : k7 + k5 = n3 := by
    have h1 := HR.out
    have h2 := HK.out
    have h3 := HL.out
    have h4 := hx.1
    have h5 : (repair x heads).1.length = (leftFrom x heads x 0).length := rfl
    unfold rest at h2
    omega
  have hsum' : (k7 : Int) + k5 = n3 := by omega
  have HSUM := Lib.hid hsum
  clear hsum
  go_wp2_with fail
  obtain ⟨N, hN⟩ : ∃ N : Nat, 2 ^ n3 = N := ⟨_, rfl⟩
  have hN128 : N ≤ 128 := by rw [← hN]; exact Nat.pow_le_pow_right (n := 2) (by omega) hn3
  have hp : (2 : Int) ^ n3 = (N : Int) := by rw [← hN]; simp [Int.natCast_pow]
  clear hN
  go_loopw [17] (fun ii wr => ∃ s : Nat, s ≤ N ∧ ii = .int .i64 s ∧ Below w10.heap.size w10 wr) (fun ii _ => N - (intOf ii).toNat)
  case atStart => exact ⟨0, by omega, rfl, brefl⟩
  case round =>
    obtain ⟨s, hs, rfl, hbl⟩ := hrel
    have b3r := ((((b36.tr b7).tr b8).tr b9).tr b10).tr hbl
    by_cases hlt : s < N
    · have hlt' : (s : Int) < N := by omega
      go_wp2_with fail
      refine (around_any _ _ _ h2.1 h2.2 (by omega) (by omega)).mono ?_
      rintro e w' ⟨rfl, rfl⟩
      go_wp2_with fail
      refine (some_any _ _ _).mono ?_
      rintro e w11 ⟨A12, k12, c12, less, rfl, hc12, hk12, hless, b11⟩
      by_cases hlk : k12 < k5
      · have hlk' : (k12 : Int) < k5 := by omega
        have hv : (valid (without x less) heads).2 ≠ eOK := fewest (by rw [HL.out, hless.1]; exact hlk)
        obtain ⟨v, hvv⟩ : ∃ v, (valid (without x less) heads).2 = v := ⟨_, rfl⟩
        rw [hvv] at hv
        have HV := Lib.hid hvv
        have hv1 : (v == 0) = false := by simpa [eOK] using hv
        have hv3 : decide (v = 0) = false := by simpa [eOK] using hv
        clear hvv hv
        go_wp2_with fail
        refine (without_any A3 A12 n3 k12 c3 c12 x less w11 (by omega) (by omega) (hx.below (b3r.tr b11)) hless).mono ?_
        rintro e w12 ⟨A13, k13, c13, rfl, hc13, hk13, hr13, b12⟩
        go_wp2_with fail
        refine (own_any A13 k13 c13 _ w12 (by omega) hr13).mono ?_
        rintro e w13 ⟨A14, c14, rfl, hc14, hr14, b13⟩
        go_wp2_with fail
        have b1113 := (b11.tr b12).tr b13
        refine (valid_any A14 B k13 m c14 d (without x less) heads w13 (by omega) (by omega) hc14 hr14 (hh.below (((b210.tr hbl).tr b1113)))).mono ?_
        rintro e w14 ⟨rfl, b14⟩
        rw [HV.out]
        go_wp2
        go_roundw
        case rel => exact ⟨s + 1, by omega, by go_num, hbl.tr (b1113.tr b14)⟩
        case measure => simp [intOf]; omega
      · have hlk' : ¬ (k12 : Int) < k5 := by omega
        go_wp2
        go_roundw
        case rel => exact ⟨s + 1, by omega, by go_num, hbl.tr b11⟩
        case measure => simp [intOf]; omega
    · have hlt' : ¬ (s : Int) < N := by omega
      go_wp2_with fail
      refine (lives_any wr).mono ?_
      rintro e w11 ⟨rfl, b11⟩
      go_wp2
      go_ret
      exact ⟨rfl, ((b2.tr b210).tr hbl).tr b11⟩
end Go.Proofs.Ytdeeflbghhajiaa
