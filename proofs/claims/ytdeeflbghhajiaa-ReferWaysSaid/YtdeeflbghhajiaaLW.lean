/- Walk of the law ReferWays. -/
import Derived.Test.YtdeeflbghhajiaaG4
namespace Rf
theorem farOut_nil (l : List Ref) (heads : List S) : ∀ (fs : List S) (b : Int × S × S), farOut l heads [] fs b = b
  | [], b => rfl
  | f :: fs, b => by rw [farOut, farIn]; exact farOut_nil l heads fs b
theorem far_nil (l : List Ref) : far l [] = (0, ByteArray.empty, ByteArray.empty) := by
  show (max (farOut l [] (names [] []) (names l []) (-1, ByteArray.empty, ByteArray.empty)).1 0, (farOut l [] (names [] []) (names l []) (-1, ByteArray.empty, ByteArray.empty)).2) = _
  rw [show names [] [] = [] from rfl, farOut_nil]
  rfl
end Rf
namespace Go.Proofs.Ytdeeflbghhajiaa
open Go.RowKit Go.Maps Rf
abbrev nAnna : S := ⟨#[97, 110, 110, 97]⟩
/-- a block of slices of references -/
def RRow (w : World) (b N M : Nat) : Prop := b < w.heap.size ∧ ∀ i, i < N → ∃ A n c l, w.cell? ⟨b, i, none⟩ = some (.slice A n c) ∧ n ≤ M ∧ Refs w A n l
theorem RRow.below {w w' : World} {b N M : Nat} (h : RRow w b N M) (hb : Below w.heap.size w w') : RRow w' b N M :=
  ⟨Nat.lt_of_lt_of_le h.1 hb.size, fun i hi => by
    obtain ⟨A, n, c, l, h1, h2, h3⟩ := h.2 i hi
    exact ⟨A, n, c, l, (hb.cell (p := ⟨b, i, none⟩) h.1).trans h1, h2, h3.below hb⟩⟩
/-- a block of strings -/
def TRow (w : World) (b N : Nat) : Prop := b < w.heap.size ∧ ∀ i, i < N → ∃ s : S, w.cell? ⟨b, i, none⟩ = some (.string s) ∧ s.size ≤ maxLen
theorem TRow.below {w w' : World} {b N : Nat} (h : TRow w b N) (hb : Below w.heap.size w w') : TRow w' b N :=
  ⟨Nat.lt_of_lt_of_le h.1 hb.size, fun i hi => by
    obtain ⟨s, h1, h2⟩ := h.2 i hi
    exact ⟨s, (hb.cell (p := ⟨b, i, none⟩) h.1).trans h1, h2⟩⟩
/-- a block of numbers -/
def NRow (w : World) (b N : Nat) : Prop := b < w.heap.size ∧ ∀ i, i < N → ∃ v : Int, w.cell? ⟨b, i, none⟩ = some (.int .i64 v) ∧ i64ok v
theorem NRow.below {w w' : World} {b N : Nat} (h : NRow w b N) (hb : Below w.heap.size w w') : NRow w' b N :=
  ⟨Nat.lt_of_lt_of_le h.1 hb.size, fun i hi => by
    obtain ⟨s, h1, h2⟩ := h.2 i hi
    exact ⟨s, (hb.cell (p := ⟨b, i, none⟩) h.1).trans h1, h2⟩⟩
theorem RRow.two {w : World} {A0 A1 : Option Addr} {n0 n1 c0 c1 M : Nat} {l0 l1 : List Ref} {t : TypeId} (h0 : Refs w A0 n0 l0) (h1 : Refs w A1 n1 l1) (m0 : n0 ≤ M) (m1 : n1 ≤ M) :
    RRow (w.alloc (.cells #[.slice A0 n0 c0, .slice A1 n1 c1] t)) w.heap.size 2 M :=
  ⟨by simp, fun i hi => by
    match i, hi with
    | 0, _ => exact ⟨A0, n0, c0, l0, by simp, m0, h0.below (brefl.al _)⟩
    | 1, _ => exact ⟨A1, n1, c1, l1, by simp, m1, h1.below (brefl.al _)⟩⟩
theorem TRow.six (w : World) (s0 s1 s2 s3 s4 s5 : S) (t : TypeId) (h : s0.size ≤ maxLen ∧ s1.size ≤ maxLen ∧ s2.size ≤ maxLen ∧ s3.size ≤ maxLen ∧ s4.size ≤ maxLen ∧ s5.size ≤ maxLen) :
    TRow (w.alloc (.cells #[.string s0, .string s1, .string s2, .string s3, .string s4, .string s5] t)) w.heap.size 6 :=
  ⟨by simp, fun i hi => by
    obtain ⟨h0, h1, h2, h3, h4, h5⟩ := h
    match i, hi with
    | 0, _ => exact ⟨s0, by simp, h0⟩
    | 1, _ => exact ⟨s1, by simp, h1⟩
    | 2, _ => exact ⟨s2, by simp, h2⟩
    | 3, _ => exact ⟨s3, by simp, h3⟩
    | 4, _ => exact ⟨s4, by simp, h4⟩
    | 5, _ => exact ⟨s5, by simp, h5⟩⟩
theorem NRow.five (w : World) (s0 s1 s2 s3 s4 : Int) (t : TypeId) (h : i64ok s0 ∧ i64ok s1 ∧ i64ok s2 ∧ i64ok s3 ∧ i64ok s4) :
    NRow (w.alloc (.cells #[.int .i64 s0, .int .i64 s1, .int .i64 s2, .int .i64 s3, .int .i64 s4] t)) w.heap.size 5 :=
  ⟨by simp, fun i hi => by
    obtain ⟨h0, h1, h2, h3, h4⟩ := h
    match i, hi with
    | 0, _ => exact ⟨s0, by simp, h0⟩
    | 1, _ => exact ⟨s1, by simp, h1⟩
    | 2, _ => exact ⟨s2, by simp, h2⟩
    | 3, _ => exact ⟨s3, by simp, h3⟩
    | 4, _ => exact ⟨s4, by simp, h4⟩⟩
set_option maxRecDepth 200000 in
set_option maxHeartbeats 4000000 in
theorem ways_law (A : Option Addr) (n c : Nat) (l : List Int) (a1 a4 : Int) (s2 s3 : S) (w : World) (hn : n ≤ maxLen) (hl : Ints w A n l) (h1 : i64ok a1) (h2 : s2.size ≤ maxLen) (h3 : s3.size ≤ maxLen) (h4 : i64ok a4) :
    Calls Try.prog 3 #[.slice A n c, .int .i64 a1, .string s2, .string s3, .int .i64 a4] w fun e w' => e = .returned (.bool true) ∧ Below w.heap.size w w' := by
  have hn' : n ≤ 9223372036854775807 := by unfold maxLen at hn; omega
  go_enter Try.func3, Try.ntmps3
  go_wp2_with fail
  refine (heads_any a1 w h1.1 h1.2).mono ?_
  rintro e w2 ⟨B, m, d, heads, rfl, hmd, hm4, hh, b2⟩
  go_wp2_with fail
  refine (refs_any A n c l 8 w2 (by omega) (by omega) hn' (hl.below b2)).mono ?_
  rintro e w3 ⟨A3, n3, c3, x, rfl, hc3, hn3, hx, b3⟩
  replace hn3 : n3 ≤ 8 := hn3
  go_wp2_with fail
  refine (repaired_any A B n m c d l heads 10 w3 (by omega) (by omega) hn' (by omega) (hl.below (b2.tr b3)) (hh.below b3)).mono ?_
  rintro e w4 ⟨A4, n4, c4, z, rfl, hc4, hn4, hz, b4⟩
  replace hn4 : n4 ≤ 10 := hn4
  have hx4 := hx.below b4
  have hh4 := hh.below (b3.tr b4)
  have bw4 := b2.tr (b3.tr b4)
  clear hx hh b2 b3 b4 hl
  have RR := RRow.two (c0 := c3) (c1 := c4) (M := 10) (t := 25) hx4 hz (by omega) (by omega)
  have hc0 : (w4.alloc (.cells #[.slice A3 n3 c3, .slice A4 n4 c4] 25)).cell? ⟨w4.heap.size, 0, none⟩ = some (.slice A3 n3 c3) := by simp
  have hb0 : w4.heap.size < (w4.alloc (.cells #[.slice A3 n3 c3, .slice A4 n4 c4] 25)).heap.size := by simp
  have b5 : Below w4.heap.size w4 (w4.alloc (.cells #[.slice A3 n3 c3, .slice A4 n4 c4] 25)) := brefl.al _
  have TT := TRow.six (w4.alloc (.cells #[.slice A3 n3 c3, .slice A4 n4 c4] 25)) s2 s3 nAnna nEmperor nKaiser nKing 9 ⟨h2, h3, by decide, by decide, by decide, by decide⟩
  have b6 := b5.al (.cells #[.string s2, .string s3, .string nAnna, .string nEmperor, .string nKaiser, .string nKing] 9)
  have HZ := Lib.hid (show w4.heap.size + 1 = (w4.alloc (.cells #[.slice A3 n3 c3, .slice A4 n4 c4] 25)).heap.size from by simp)
  rw [← HZ.out] at TT
  replace RR := RR.below (brefl.al (.cells #[.string s2, .string s3, .string nAnna, .string nEmperor, .string nKaiser, .string nKing] 9))
  replace hc0 := (brefl.al (.cells #[.string s2, .string s3, .string nAnna, .string nEmperor, .string nKaiser, .string nKing] 9)).cell (p := ⟨w4.heap.size, 0, none⟩) hb0 |>.trans hc0
  replace hx4 := hx4.below b6
  replace hh4 := hh4.below b6
  have bw6 := bw4.tr b6
  replace hb0 : w4.heap.size < ((w4.alloc (.cells #[.slice A3 n3 c3, .slice A4 n4 c4] 25)).alloc (.cells #[.string s2, .string s3, .string nAnna, .string nEmperor, .string nKaiser, .string nKing] 9)).heap.size := RR.1
  clear hz b5 b6 bw4
  go_wp2_with fail
  generalize ((w4.alloc (.cells #[.slice A3 n3 c3, .slice A4 n4 c4] 25)).alloc (.cells #[.string s2, .string s3, .string nAnna, .string nEmperor, .string nKaiser, .string nKing] 9)) = w6 at RR TT hc0 hx4 hh4 bw6 hb0 ⊢
  obtain ⟨bN, hbN⟩ : ∃ bN, w4.heap.size + 1 = bN := ⟨_, rfl⟩
  rw [hbN] at TT ⊢
  clear hbN HZ
  generalize w4.heap.size = bL at RR hc0 hb0 ⊢
  go_loopw [14] (fun ii wr => ∃ i : Nat, i ≤ 2 ∧ ii = .int .i64 i ∧ Below w6.heap.size w6 wr) (fun ii _ => 2 - (intOf ii).toNat)
  case atStart => exact ⟨0, by omega, rfl, brefl⟩
  case round =>
    obtain ⟨i, hi, rfl, hbl⟩ := hrel
    by_cases hlt : i < 2
    · have hlt' : (i : Int) < 2 := by omega
      obtain ⟨A20, n20, c20, x20, hcL, hn20, hx20⟩ := (RR.below hbl).2 i hlt
      have hLz := (RR.below hbl).1
      obtain ⟨w7, hw7⟩ : ∃ w7 : World, w7 = wr := ⟨_, rfl⟩
      subst hw7
      go_wp2_with fail
      refine (own_any A20 n20 c20 x20 w7 (by omega) hx20).mono ?_
      rintro e w8 ⟨A21, c21, rfl, hc21, hx21, b8⟩
      have b68 := hbl.tr b8
      have hcL8 := (b8.cell (p := ⟨bL, i, none⟩) hLz).trans hcL
      have hLz8 := Nat.lt_of_lt_of_le hLz b8.size
      have hx8 := hx20.below b8
      have hh8 := hh4.below b68
      have TT8 := TT.below b68
      clear hcL hx20 hbl
      go_wp2
      go_loopw [16] (fun ii wz => ∃ k : Nat, k ≤ 6 ∧ ii = .int .i64 k ∧ Below w8.heap.size w8 wz) (fun ii _ => 6 - (intOf ii).toNat)
      case atStart => exact ⟨0, by omega, rfl, brefl⟩
      case round =>
        obtain ⟨k, hk, rfl, hbk⟩ := hrel
        by_cases hlk : k < 6
        · have hlk' : (k : Int) < 6 := by omega
          obtain ⟨nk, hck, hnk⟩ := (TT8.below hbk).2 k hlk
          have hTz := (TT8.below hbk).1
          obtain ⟨w9, hw9⟩ : ∃ w9 : World, w9 = wr := ⟨_, rfl⟩
          subst hw9
          have NN := NRow.five w9 a4 0 1 3 20 3 ⟨h4, ⟨by omega, by omega⟩, ⟨by omega, by omega⟩, ⟨by omega, by omega⟩, ⟨by omega, by omega⟩⟩
          have b10 : Below w9.heap.size w9 (w9.alloc (.cells #[.int .i64 a4, .int .i64 0, .int .i64 1, .int .i64 3, .int .i64 20] 3)) := brefl.al _
          go_wp2_with fail
          generalize (w9.alloc (.cells #[.int .i64 a4, .int .i64 0, .int .i64 1, .int .i64 3, .int .i64 20] 3)) = w10 at NN b10 ⊢
          generalize w9.heap.size = bK at NN ⊢
          have hck10 := (b10.cell (p := ⟨bN, k, none⟩) hTz).trans hck
          have hTz10 := Nat.lt_of_lt_of_le hTz b10.size
          have b810 := hbk.tr b10
          have hLz10 := Nat.lt_of_lt_of_le hLz8 b810.size
          have hcL10 := (b810.cell (p := ⟨bL, i, none⟩) hLz8).trans hcL8
          clear hck hbk hTz b10
          go_loopw [18] (fun ii wz => ∃ j : Nat, j ≤ 5 ∧ ii = .int .i64 j ∧ Below w10.heap.size w10 wz) (fun ii _ => 5 - (intOf ii).toNat)
          case atStart => exact ⟨0, by omega, rfl, brefl⟩
          case round =>
            obtain ⟨j, hj, rfl, hbj⟩ := hrel
            by_cases hlj : j < 5
            · have hlj' : (j : Int) < 5 := by omega
              obtain ⟨v, hcv, hv⟩ := (NN.below hbj).2 j hlj
              have hNz := (NN.below hbj).1
              have hcells : ∀ wz, Below wr.heap.size wr wz → wz.cell? ⟨bL, i, none⟩ = some (.slice A20 n20 c20) ∧ wz.cell? ⟨bN, k, none⟩ = some (.string nk) ∧ wz.cell? ⟨bK, j, none⟩ = some (.int .i64 v) := fun wz hz =>
                ⟨((hbj.tr hz).cell (p := ⟨bL, i, none⟩) hLz10).trans hcL10, ((hbj.tr hz).cell (p := ⟨bN, k, none⟩) hTz10).trans hck10, (hz.cell (p := ⟨bK, j, none⟩) hNz).trans hcv⟩
              have hbc : Below wr.heap.size wr wr.drew := brefl.drn 1
              have hS := hcells _ hbc
              have hxo := hx21.below (b810.tr hbj)
              have hxr := hx8.below (b810.tr hbj)
              have hhr := hh8.below (b810.tr hbj)
              clear hcL8 hcL10 hck10 hcv
              go_wp2
              refine wp_region_mix [(true, 0), (true, 1), (true, 2), (true, 3), (true, 4), (true, 5), (true, 6), (true, 7), (true, 8), (true, 9), (true, 11), (true, 12), (true, 13), (true, 14), (true, 15), (true, 16), (true, 17), (true, 18), (true, 19), (true, 20), (true, 21), (true, 22), (true, 23), (false, 10), (false, 24), (false, 25), (true, 26)] 27 (fun wz => wz.cell? ⟨bL, i, none⟩ = some (.slice A20 n20 c20) ∧ wz.cell? ⟨bN, k, none⟩ = some (.string nk) ∧ wz.cell? ⟨bK, j, none⟩ = some (.int .i64 v)) (by kernel_rfl) (by kernel_rfl) ?_
              refine wpMix_put (v := ?_) rfl rfl (Or.inl ⟨by rfl, fun wz hz => ?_⟩) hS ?_
              rotate_left
              (focus (go_simp; try (with_reducible rfl)))
              simp only [List.setIfInBounds_toArray, List.set_cons_succ, List.set_cons_zero]
              refine wpMix_put (v := ?_) rfl rfl (Or.inl ⟨by rfl, fun wz hz => ?_⟩) hS ?_
              rotate_left
              (focus (go_simp; try (with_reducible rfl)))
              simp only [List.setIfInBounds_toArray, List.set_cons_succ, List.set_cons_zero]
              refine wpMix_put (v := ?_) rfl rfl (Or.inl ⟨by rfl, fun wz hz => ?_⟩) hS ?_
              rotate_left
              (focus (go_simp; try (with_reducible rfl)))
              simp only [List.setIfInBounds_toArray, List.set_cons_succ, List.set_cons_zero]
              refine wpMix_put (v := ?_) rfl rfl (Or.inl ⟨by rfl, fun wz hz => ?_⟩) hS ?_
              rotate_left
              (focus (go_simp; try (with_reducible rfl)))
              simp only [List.setIfInBounds_toArray, List.set_cons_succ, List.set_cons_zero]
              refine wpMix_put (v := ?_) rfl rfl (Or.inl ⟨by rfl, fun wz hz => ?_⟩) hS ?_
              rotate_left
              (focus (go_simp; try (with_reducible rfl)))
              simp only [List.setIfInBounds_toArray, List.set_cons_succ, List.set_cons_zero]
              refine wpMix_put (v := ?_) rfl rfl (Or.inl ⟨by rfl, fun wz hz => ?_⟩) hS ?_
              rotate_left
              (focus (go_simp; try (with_reducible rfl)))
              simp only [List.setIfInBounds_toArray, List.set_cons_succ, List.set_cons_zero]
              refine wpMix_put (v := ?_) rfl rfl (Or.inl ⟨by rfl, fun wz hz => ?_⟩) hS ?_
              rotate_left
              (focus (go_simp; try (with_reducible rfl)))
              simp only [List.setIfInBounds_toArray, List.set_cons_succ, List.set_cons_zero]
              refine wpMix_put (v := ?_) rfl rfl (Or.inl ⟨by rfl, fun wz hz => ?_⟩) hS ?_
              rotate_left
              (focus (go_simp; try (with_reducible rfl)))
              simp only [List.setIfInBounds_toArray, List.set_cons_succ, List.set_cons_zero]
              refine wpMix_put (v := ?_) rfl rfl (Or.inl ⟨by rfl, fun wz hz => ?_⟩) hS ?_
              rotate_left
              (focus (go_simp; try (with_reducible rfl)))
              simp only [List.setIfInBounds_toArray, List.set_cons_succ, List.set_cons_zero]
              refine wpMix_put (v := ?_) rfl rfl (Or.inl ⟨by rfl, fun wz hz => ?_⟩) hS ?_
              rotate_left
              (focus (go_simp; try (with_reducible rfl)))
              simp only [List.setIfInBounds_toArray, List.set_cons_succ, List.set_cons_zero]
              refine wpMix_put (v := ?_) rfl rfl (Or.inl ⟨by rfl, fun wz hz => ?_⟩) hS ?_
              rotate_left
              (focus (go_simp; try (with_reducible rfl)))
              simp only [List.setIfInBounds_toArray, List.set_cons_succ, List.set_cons_zero]
              refine wpMix_put (v := ?_) rfl rfl (Or.inl ⟨by rfl, fun wz hz => ?_⟩) hS ?_
              rotate_left
              (focus (go_simp; try (with_reducible rfl)))
              simp only [List.setIfInBounds_toArray, List.set_cons_succ, List.set_cons_zero]
              refine wpMix_put (v := ?_) rfl rfl (Or.inl ⟨by rfl, fun wz hz => ?_⟩) hS ?_
              rotate_left
              (focus (go_simp; try (with_reducible rfl)))
              simp only [List.setIfInBounds_toArray, List.set_cons_succ, List.set_cons_zero]
              refine wpMix_put (v := ?_) rfl rfl (Or.inl ⟨by rfl, fun wz hz => ?_⟩) hS ?_
              rotate_left
              (focus (go_simp; try (with_reducible rfl)))
              simp only [List.setIfInBounds_toArray, List.set_cons_succ, List.set_cons_zero]
              refine wpMix_put (v := ?_) rfl rfl (Or.inl ⟨by rfl, fun wz hz => ?_⟩) hS ?_
              rotate_left
              (focus (go_simp; try (with_reducible rfl)))
              simp only [List.setIfInBounds_toArray, List.set_cons_succ, List.set_cons_zero]
              refine wpMix_put (v := ?_) rfl rfl (Or.inl ⟨by rfl, fun wz hz => ?_⟩) hS ?_
              rotate_left
              (focus (go_simp; try (with_reducible rfl)))
              simp only [List.setIfInBounds_toArray, List.set_cons_succ, List.set_cons_zero]
              refine wpMix_put (v := ?_) rfl rfl (Or.inl ⟨by rfl, fun wz hz => ?_⟩) hS ?_
              rotate_left
              (focus (go_simp; try (with_reducible rfl)))
              simp only [List.setIfInBounds_toArray, List.set_cons_succ, List.set_cons_zero]
              refine wpMix_put (v := ?_) rfl rfl (Or.inl ⟨by rfl, fun wz hz => ?_⟩) hS ?_
              rotate_left
              (focus (go_simp; try (with_reducible rfl)))
              simp only [List.setIfInBounds_toArray, List.set_cons_succ, List.set_cons_zero]
              refine wpMix_put (v := ?_) rfl rfl (Or.inl ⟨by rfl, fun wz hz => ?_⟩) hS ?_
              rotate_left
              (focus (go_simp; try (with_reducible rfl)))
              simp only [List.setIfInBounds_toArray, List.set_cons_succ, List.set_cons_zero]
              refine wpMix_put (v := ?_) rfl rfl (Or.inl ⟨by rfl, fun wz hz => ?_⟩) hS ?_
              rotate_left
              (focus (go_simp; try (with_reducible rfl)))
              simp only [List.setIfInBounds_toArray, List.set_cons_succ, List.set_cons_zero]
              refine wpMix_put (v := ?_) rfl rfl (Or.inl ⟨by rfl, fun wz hz => ?_⟩) hS ?_
              rotate_left
              (focus (go_simp; try (with_reducible rfl)))
              simp only [List.setIfInBounds_toArray, List.set_cons_succ, List.set_cons_zero]
              refine wpMix_put (v := ?_) rfl rfl (Or.inl ⟨by rfl, fun wz hz => ?_⟩) hS ?_
              rotate_left
              (focus (go_simp; try (with_reducible rfl)))
              simp only [List.setIfInBounds_toArray, List.set_cons_succ, List.set_cons_zero]
              refine wpMix_put (v := ?_) rfl rfl (Or.inl ⟨by rfl, fun wz hz => ?_⟩) hS ?_
              rotate_left
              (focus (go_simp; try (with_reducible rfl)))
              simp only [List.setIfInBounds_toArray, List.set_cons_succ, List.set_cons_zero]
              refine wpMix_step rfl (fun K hK => ?_)
              go_simp
              refine (reach_any A21 B n20 m c21 d x20 heads nk v _ (by omega) (by omega) hc21 hv (hxo.below hbc) (hhr.below hbc) hnk).mono ?_
              rintro e w20 ⟨A30, k30, c30, rfl, hk30, hkn30, hs30, hbd⟩
              go_simp
              have hbc' := hbc.tr hbd
              clear hbc hbd
              have hbc := hbc'
              clear hbc'
              have hS7 := hcells _ hbc
              refine hK _ _ (fun _ => hS7) ?_
              clear hK K hS
              have hS := hS7
              clear hS7
              refine wpMix_step rfl (fun K hK => ?_)
              go_simp
              refine (reach_ref A20 B n20 m c20 d x20 heads nk v _ (by omega) (by omega) hv.2 (hxr.below hbc) (hhr.below hbc) hnk).mono ?_
              rintro e w21 ⟨A31, k31, c31, rfl, hk31, hkn31, hs31, hbd⟩
              replace hs30 := hs30.below hbd
              go_simp
              have hbc' := hbc.tr hbd
              clear hbc hbd
              have hbc := hbc'
              clear hbc'
              have hS7 := hcells _ hbc
              refine hK _ _ (fun _ => hS7) ?_
              clear hK K hS
              have hS := hS7
              clear hS7
              refine wpMix_step rfl (fun K hK => ?_)
              go_simp
              obtain rfl : k30 = k31 := hs30.1.symm.trans hs31.1
              refine (sameTexts_any A30 A31 k30 c30 c31 _ _ (by omega) hs30 hs31).mono ?_
              rintro e w22 ⟨rfl, hbd⟩
              clear hs30 hs31
              go_simp
              have hbc' := hbc.tr hbd
              clear hbc hbd
              have hbc := hbc'
              clear hbc'
              have hS7 := hcells _ hbc
              refine hK _ _ (fun _ => hS7) ?_
              clear hK K hS
              have hS := hS7
              clear hS7
              refine wpMix_put (v := ?_) rfl rfl (Or.inl ⟨by rfl, fun wz hz => ?_⟩) hS ?_
              rotate_left
              (focus (go_simp; try (with_reducible rfl)))
              simp only [List.setIfInBounds_toArray, List.set_cons_succ, List.set_cons_zero]
              refine wpMix_nil ?_
              clear hS hcells
              go_wp2
              go_roundw
              case rel => first | exact ⟨j + 1, by omega, by go_num, hbj.tr hbc⟩ | exact ⟨j + 1, by omega, by omega⟩
              case measure => simp [intOf]; omega
            · have hlj' : ¬ (j : Int) < 5 := by omega
              obtain ⟨w11, hw11⟩ : ∃ w11 : World, w11 = wr := ⟨_, rfl⟩
              subst hw11
              clear hlj hj NN
              go_wp2
              go_loopw [19] (fun ii wz => ∃ j : Nat, j ≤ 6 ∧ ii = .int .i64 j ∧ Below w10.heap.size w10 wz) (fun ii _ => 6 - (intOf ii).toNat)
              case atStart => exact ⟨0, by omega, rfl, hbj⟩
              case round =>
                clear hbj
                obtain ⟨q, hq, rfl, hbj⟩ := hrel
                by_cases hlq : q < 6
                · have hlq' : (q : Int) < 6 := by omega
                  obtain ⟨nj, hcj, hnj⟩ := (TT8.below (b810.tr hbj)).2 q hlq
                  have hcells : ∀ wz, Below wr.heap.size wr wz → wz.cell? ⟨bN, k, none⟩ = some (.string nk) ∧ wz.cell? ⟨bN, q, none⟩ = some (.string nj) := fun wz hz =>
                    ⟨((hbj.tr hz).cell (p := ⟨bN, k, none⟩) hTz10).trans hck10, (hz.cell (p := ⟨bN, q, none⟩) (Nat.lt_of_lt_of_le hTz10 hbj.size)).trans hcj⟩
                  have hcells2 : ∀ wz, Below wr.heap.size wr wz → wz.cell? ⟨bL, i, none⟩ = some (.slice A20 n20 c20) ∧ wz.cell? ⟨bN, k, none⟩ = some (.string nk) ∧ wz.cell? ⟨bN, q, none⟩ = some (.string nj) := fun wz hz =>
                    ⟨((hbj.tr hz).cell (p := ⟨bL, i, none⟩) hLz10).trans hcL10, hcells wz hz⟩
                  have hbc : Below wr.heap.size wr wr.drew := brefl.drn 1
                  have hS := hcells _ hbc
                  have hxo := hx21.below (b810.tr hbj)
                  have hxr := hx8.below (b810.tr hbj)
                  have hhr := hh8.below (b810.tr hbj)
                  obtain ⟨⟨p, bv⟩, hwv⟩ : ∃ wv, way x20 heads nk nj = wv := ⟨_, rfl⟩
                  have HV := Lib.hid hwv
                  clear hcL8 hcL10 hck10 hcj hwv
                  go_wp2
                  refine wp_region_mix [(true, 0), (true, 1), (true, 2), (true, 3), (true, 4), (true, 5), (true, 6), (true, 7), (true, 8), (true, 9), (false, 10), (true, 11), (true, 12), (true, 13), (true, 14), (true, 15)] 16 (fun wz => wz.cell? ⟨bN, k, none⟩ = some (.string nk) ∧ wz.cell? ⟨bN, q, none⟩ = some (.string nj)) (by kernel_rfl) (by kernel_rfl) ?_
                  refine wpMix_put (v := ?_) rfl rfl (Or.inl ⟨by rfl, fun wz hz => ?_⟩) hS ?_
                  rotate_left
                  (focus (go_simp; try (with_reducible rfl)))
                  simp only [List.setIfInBounds_toArray, List.set_cons_succ, List.set_cons_zero]
                  refine wpMix_put (v := ?_) rfl rfl (Or.inl ⟨by rfl, fun wz hz => ?_⟩) hS ?_
                  rotate_left
                  (focus (go_simp; try (with_reducible rfl)))
                  simp only [List.setIfInBounds_toArray, List.set_cons_succ, List.set_cons_zero]
                  refine wpMix_put (v := ?_) rfl rfl (Or.inl ⟨by rfl, fun wz hz => ?_⟩) hS ?_
                  rotate_left
                  (focus (go_simp; try (with_reducible rfl)))
                  simp only [List.setIfInBounds_toArray, List.set_cons_succ, List.set_cons_zero]
                  refine wpMix_put (v := ?_) rfl rfl (Or.inl ⟨by rfl, fun wz hz => ?_⟩) hS ?_
                  rotate_left
                  (focus (go_simp; try (with_reducible rfl)))
                  simp only [List.setIfInBounds_toArray, List.set_cons_succ, List.set_cons_zero]
                  refine wpMix_put (v := ?_) rfl rfl (Or.inl ⟨by rfl, fun wz hz => ?_⟩) hS ?_
                  rotate_left
                  (focus (go_simp; try (with_reducible rfl)))
                  simp only [List.setIfInBounds_toArray, List.set_cons_succ, List.set_cons_zero]
                  refine wpMix_put (v := ?_) rfl rfl (Or.inl ⟨by rfl, fun wz hz => ?_⟩) hS ?_
                  rotate_left
                  (focus (go_simp; try (with_reducible rfl)))
                  simp only [List.setIfInBounds_toArray, List.set_cons_succ, List.set_cons_zero]
                  refine wpMix_put (v := ?_) rfl rfl (Or.inl ⟨by rfl, fun wz hz => ?_⟩) hS ?_
                  rotate_left
                  (focus (go_simp; try (with_reducible rfl)))
                  simp only [List.setIfInBounds_toArray, List.set_cons_succ, List.set_cons_zero]
                  refine wpMix_put (v := ?_) rfl rfl (Or.inl ⟨by rfl, fun wz hz => ?_⟩) hS ?_
                  rotate_left
                  (focus (go_simp; try (with_reducible rfl)))
                  simp only [List.setIfInBounds_toArray, List.set_cons_succ, List.set_cons_zero]
                  refine wpMix_put (v := ?_) rfl rfl (Or.inl ⟨by rfl, fun wz hz => ?_⟩) hS ?_
                  rotate_left
                  (focus (go_simp; try (with_reducible rfl)))
                  simp only [List.setIfInBounds_toArray, List.set_cons_succ, List.set_cons_zero]
                  refine wpMix_put (v := ?_) rfl rfl (Or.inl ⟨by rfl, fun wz hz => ?_⟩) hS ?_
                  rotate_left
                  (focus (go_simp; try (with_reducible rfl)))
                  simp only [List.setIfInBounds_toArray, List.set_cons_succ, List.set_cons_zero]
                  refine wpMix_step rfl (fun K hK => ?_)
                  go_simp
                  refine (way_any A21 B n20 m c21 d x20 heads nk nj _ (by omega) (by omega) hc21 (hxo.below hbc) (hhr.below hbc) hnk hnj).mono ?_
                  rintro e w20 ⟨A30, k30, c30, rfl, hk30, hkn30, hs30, hbd⟩
                  rw [HV.out] at hs30 ⊢
                  replace hs30 : Strs w20 A30 k30 p := hs30
                  go_simp
                  have hbc' := hbc.tr hbd
                  clear hbc hbd
                  have hbc := hbc'
                  clear hbc'
                  have hS7 := hcells _ hbc
                  refine hK _ _ (fun _ => hS7) ?_
                  clear hK K hS
                  have hS := hS7
                  clear hS7
                  refine wpMix_put (v := ?_) rfl rfl (Or.inl ⟨by rfl, fun wz hz => ?_⟩) hS ?_
                  rotate_left
                  (focus (go_simp; try (with_reducible rfl)))
                  simp only [List.setIfInBounds_toArray, List.set_cons_succ, List.set_cons_zero]
                  refine wpMix_put (v := ?_) rfl rfl (Or.inl ⟨by rfl, fun wz hz => ?_⟩) hS ?_
                  rotate_left
                  (focus (go_simp; try (with_reducible rfl)))
                  simp only [List.setIfInBounds_toArray, List.set_cons_succ, List.set_cons_zero]
                  refine wpMix_put (v := ?_) rfl rfl (Or.inl ⟨by rfl, fun wz hz => ?_⟩) hS ?_
                  rotate_left
                  (focus (go_simp; try (with_reducible rfl)))
                  simp only [List.setIfInBounds_toArray, List.set_cons_succ, List.set_cons_zero]
                  refine wpMix_put (v := ?_) rfl rfl (Or.inl ⟨by rfl, fun wz hz => ?_⟩) hS ?_
                  rotate_left
                  (focus (go_simp; try (with_reducible rfl)))
                  simp only [List.setIfInBounds_toArray, List.set_cons_succ, List.set_cons_zero]
                  refine wpMix_put (v := ?_) rfl rfl (Or.inl ⟨by rfl, fun wz hz => ?_⟩) hS ?_
                  rotate_left
                  (focus (go_simp; try (with_reducible rfl)))
                  simp only [List.setIfInBounds_toArray, List.set_cons_succ, List.set_cons_zero]
                  refine wpMix_nil ?_
                  have hbc' := hbc.drn 1
                  clear hbc hS
                  have hbc := hbc'
                  clear hbc'
                  have hS := hcells2 _ hbc
                  replace hs30 := hs30.below (brefl.drn 1)
                  go_wp2
                  refine wp_region_mix [(true, 0), (true, 1), (true, 2), (true, 3), (true, 4), (true, 5), (true, 6), (true, 7), (true, 8), (true, 9), (true, 10), (true, 11), (true, 12), (false, 13), (true, 14), (true, 15), (true, 16), (true, 17), (true, 18)] 19 (fun wz => wz.cell? ⟨bL, i, none⟩ = some (.slice A20 n20 c20) ∧ wz.cell? ⟨bN, k, none⟩ = some (.string nk) ∧ wz.cell? ⟨bN, q, none⟩ = some (.string nj)) (by kernel_rfl) (by kernel_rfl) ?_
                  refine wpMix_put (v := ?_) rfl rfl (Or.inl ⟨by rfl, fun wz hz => ?_⟩) hS ?_
                  rotate_left
                  (focus (go_simp; try (with_reducible rfl)))
                  simp only [List.setIfInBounds_toArray, List.set_cons_succ, List.set_cons_zero]
                  refine wpMix_put (v := ?_) rfl rfl (Or.inl ⟨by rfl, fun wz hz => ?_⟩) hS ?_
                  rotate_left
                  (focus (go_simp; try (with_reducible rfl)))
                  simp only [List.setIfInBounds_toArray, List.set_cons_succ, List.set_cons_zero]
                  refine wpMix_put (v := ?_) rfl rfl (Or.inl ⟨by rfl, fun wz hz => ?_⟩) hS ?_
                  rotate_left
                  (focus (go_simp; try (with_reducible rfl)))
                  simp only [List.setIfInBounds_toArray, List.set_cons_succ, List.set_cons_zero]
                  refine wpMix_put (v := ?_) rfl rfl (Or.inl ⟨by rfl, fun wz hz => ?_⟩) hS ?_
                  rotate_left
                  (focus (go_simp; try (with_reducible rfl)))
                  simp only [List.setIfInBounds_toArray, List.set_cons_succ, List.set_cons_zero]
                  refine wpMix_put (v := ?_) rfl rfl (Or.inl ⟨by rfl, fun wz hz => ?_⟩) hS ?_
                  rotate_left
                  (focus (go_simp; try (with_reducible rfl)))
                  simp only [List.setIfInBounds_toArray, List.set_cons_succ, List.set_cons_zero]
                  refine wpMix_put (v := ?_) rfl rfl (Or.inl ⟨by rfl, fun wz hz => ?_⟩) hS ?_
                  rotate_left
                  (focus (go_simp; try (with_reducible rfl)))
                  simp only [List.setIfInBounds_toArray, List.set_cons_succ, List.set_cons_zero]
                  refine wpMix_put (v := ?_) rfl rfl (Or.inl ⟨by rfl, fun wz hz => ?_⟩) hS ?_
                  rotate_left
                  (focus (go_simp; try (with_reducible rfl)))
                  simp only [List.setIfInBounds_toArray, List.set_cons_succ, List.set_cons_zero]
                  refine wpMix_put (v := ?_) rfl rfl (Or.inl ⟨by rfl, fun wz hz => ?_⟩) hS ?_
                  rotate_left
                  (focus (go_simp; try (with_reducible rfl)))
                  simp only [List.setIfInBounds_toArray, List.set_cons_succ, List.set_cons_zero]
                  refine wpMix_put (v := ?_) rfl rfl (Or.inl ⟨by rfl, fun wz hz => ?_⟩) hS ?_
                  rotate_left
                  (focus (go_simp; try (with_reducible rfl)))
                  simp only [List.setIfInBounds_toArray, List.set_cons_succ, List.set_cons_zero]
                  refine wpMix_put (v := ?_) rfl rfl (Or.inl ⟨by rfl, fun wz hz => ?_⟩) hS ?_
                  rotate_left
                  (focus (go_simp; try (with_reducible rfl)))
                  simp only [List.setIfInBounds_toArray, List.set_cons_succ, List.set_cons_zero]
                  refine wpMix_put (v := ?_) rfl rfl (Or.inl ⟨by rfl, fun wz hz => ?_⟩) hS ?_
                  rotate_left
                  (focus (go_simp; try (with_reducible rfl)))
                  simp only [List.setIfInBounds_toArray, List.set_cons_succ, List.set_cons_zero]
                  refine wpMix_put (v := ?_) rfl rfl (Or.inl ⟨by rfl, fun wz hz => ?_⟩) hS ?_
                  rotate_left
                  (focus (go_simp; try (with_reducible rfl)))
                  simp only [List.setIfInBounds_toArray, List.set_cons_succ, List.set_cons_zero]
                  refine wpMix_put (v := ?_) rfl rfl (Or.inl ⟨by rfl, fun wz hz => ?_⟩) hS ?_
                  rotate_left
                  (focus (go_simp; try (with_reducible rfl)))
                  simp only [List.setIfInBounds_toArray, List.set_cons_succ, List.set_cons_zero]
                  refine wpMix_step rfl (fun K hK => ?_)
                  go_simp
                  refine (way_ref A20 B n20 m c20 d x20 heads nk nj _ (by omega) (by omega) (hxr.below hbc) (hhr.below hbc) hnk hnj).mono ?_
                  rintro e w21 ⟨A31, k31, c31, rfl, hk31, hs31, hbd⟩
                  rw [HV.out] at hs31 ⊢
                  replace hs31 : Strs w21 A31 k31 p := hs31
                  replace hs30 := hs30.below hbd
                  go_simp
                  have hbc' := hbc.tr hbd
                  clear hbc hbd
                  have hbc := hbc'
                  clear hbc'
                  have hS7 := hcells2 _ hbc
                  refine hK _ _ (fun _ => hS7) ?_
                  clear hK K hS
                  have hS := hS7
                  clear hS7
                  refine wpMix_put (v := ?_) rfl rfl (Or.inl ⟨by rfl, fun wz hz => ?_⟩) hS ?_
                  rotate_left
                  (focus (go_simp; try (with_reducible rfl)))
                  simp only [List.setIfInBounds_toArray, List.set_cons_succ, List.set_cons_zero]
                  refine wpMix_put (v := ?_) rfl rfl (Or.inl ⟨by rfl, fun wz hz => ?_⟩) hS ?_
                  rotate_left
                  (focus (go_simp; try (with_reducible rfl)))
                  simp only [List.setIfInBounds_toArray, List.set_cons_succ, List.set_cons_zero]
                  refine wpMix_put (v := ?_) rfl rfl (Or.inl ⟨by rfl, fun wz hz => ?_⟩) hS ?_
                  rotate_left
                  (focus (go_simp; try (with_reducible rfl)))
                  simp only [List.setIfInBounds_toArray, List.set_cons_succ, List.set_cons_zero]
                  refine wpMix_put (v := ?_) rfl rfl (Or.inl ⟨by rfl, fun wz hz => ?_⟩) hS ?_
                  rotate_left
                  (focus (go_simp; try (with_reducible rfl)))
                  simp only [List.setIfInBounds_toArray, List.set_cons_succ, List.set_cons_zero]
                  refine wpMix_put (v := ?_) rfl rfl (Or.inl ⟨by rfl, fun wz hz => ?_⟩) hS ?_
                  rotate_left
                  (focus (go_simp; try (with_reducible rfl)))
                  simp only [List.setIfInBounds_toArray, List.set_cons_succ, List.set_cons_zero]
                  refine wpMix_nil ?_
                  clear hS hcells hcells2
                  obtain rfl : k30 = k31 := hs30.1.symm.trans hs31.1
                  go_wp2_with fail
                  refine (sameTexts_any A30 A31 k30 c30 c31 p _ (by omega) hs30 hs31).mono ?_
                  rintro e w22 ⟨rfl, hbd⟩
                  go_wp2
                  go_roundw
                  case rel => first | exact ⟨q + 1, by omega, by go_num, (hbj.tr hbc).tr hbd⟩ | exact ⟨q + 1, by omega, by omega⟩
                  case measure => simp [intOf]; omega
                · have hlq' : ¬ (q : Int) < 6 := by omega
                  go_wp2
                  go_roundw
                  case rel => first | exact ⟨k + 1, by omega, by go_num, b810.tr hbj⟩ | exact ⟨k + 1, by omega, by omega⟩
                  case measure => simp [intOf]; omega
        · have hlk' : ¬ (k : Int) < 6 := by omega
          have hcLr := (hbk.cell (p := ⟨bL, i, none⟩) hLz8).trans hcL8
          have hLzr := Nat.lt_of_lt_of_le hLz8 hbk.size
          have hep := neq_pair (far x20 heads).2.1 (far x20 heads).2.2 (far x20 heads).2.1 (far x20 heads).2.2
          generalize hfv : far x20 heads = fv at hep
          have HV := Lib.hid hfv
          obtain ⟨f0, p0, p1⟩ := fv
          clear hfv
          simp only [beq_self_eq_true, Bool.and_self, Bool.not_true] at hep
          go_wp2_with fail
          refine (far_any A21 B n20 m c21 d x20 heads wr (by omega) (by omega) hc21 (hx21.below hbk) (hh8.below hbk)).mono ?_
          rintro e w40 ⟨rfl, b40⟩
          rw [HV.out]
          have hcL40 := (b40.cell (p := ⟨bL, i, none⟩) hLzr).trans hcLr
          have hLz40 := Nat.lt_of_lt_of_le hLzr b40.size
          have b840 := hbk.tr b40
          clear hcLr hcL8
          go_wp2_with fail
          have b41 : Below w40.heap.size w40 (w40.alloc (.cells #[.string p0, .string p1] 37)) := brefl.al _
          have g0 : (w40.alloc (.cells #[.string p0, .string p1] 37)).cell? ⟨w40.heap.size, 0, none⟩ = some (.string p0) := by simp
          have g1 : (w40.alloc (.cells #[.string p0, .string p1] 37)).cell? ⟨w40.heap.size, 1, none⟩ = some (.string p1) := by simp
          have gz : w40.heap.size < (w40.alloc (.cells #[.string p0, .string p1] 37)).heap.size := by simp
          generalize (w40.alloc (.cells #[.string p0, .string p1] 37)) = w41 at b41 g0 g1 gz ⊢
          generalize w40.heap.size = pb at g0 g1 gz ⊢
          have b841 := b840.tr b41
          refine (far_ref A20 B n20 m c20 d x20 heads w41 (by omega) (by omega) (hx8.below b841) (hh8.below b841)).mono ?_
          rintro e w42 ⟨rfl, b42⟩
          rw [HV.out]
          replace g0 := (b42.cell (p := ⟨pb, 0, none⟩) gz).trans g0
          replace g1 := (b42.cell (p := ⟨pb, 1, none⟩) gz).trans g1
          have gz42 := Nat.lt_of_lt_of_le gz b42.size
          have g0' := ((brefl (a := w42)).al (.cells #[.string p0, .string p1] 37)).cell (p := ⟨pb, 0, none⟩) gz42 |>.trans g0
          have g1' := ((brefl (a := w42)).al (.cells #[.string p0, .string p1] 37)).cell (p := ⟨pb, 1, none⟩) gz42 |>.trans g1
          have b842 := b841.tr b42
          have b843 := b842.al (.cells #[.string p0, .string p1] 37)
          clear hcL40
          go_wp2
          go_roundw
          case rel => first | exact ⟨i + 1, by omega, by go_num, b68.tr b843⟩ | exact ⟨i + 1, by omega, by omega⟩
          case measure => simp [intOf]; omega
    · have hlt' : ¬ (i : Int) < 2 := by omega
      have hcr := (hbl.cell (p := ⟨bL, 0, none⟩) hb0).trans hc0
      have hep : ∀ w, Sem.run Try.prog (binOp .eql 37 (.agg #[.string ByteArray.empty, .string ByteArray.empty]) (.agg #[.string ⟨#[]⟩, .string ⟨#[]⟩])) w = .ok (.bool true) w := fun w => by
        rw [eql_pair, show (⟨#[]⟩ : ByteArray) = ByteArray.empty from rfl]; simp
      go_wp2_with fail
      refine (own_any A3 n3 c3 x wr (by omega) (hx4.below hbl)).mono ?_
      rintro e w50 ⟨A51, c51, rfl, hc51, hx51, b50⟩
      go_wp2_with fail
      refine (far_any A51 none n3 0 c51 0 x [] w50 (by omega) (by omega) hc51 hx51 (Strs.nil _)).mono ?_
      rintro e w51 ⟨rfl, b51⟩
      rw [far_nil]
      go_wp2_with fail
      refine (lives_any _).mono ?_
      rintro e w53 ⟨rfl, b53⟩
      go_wp2
      go_ret
      exact ⟨rfl, (bw6.tr (((hbl.tr b50).tr b51).al (.cells #[.string ByteArray.empty, .string ByteArray.empty] 37))).tr b53⟩
end Go.Proofs.Ytdeeflbghhajiaa
