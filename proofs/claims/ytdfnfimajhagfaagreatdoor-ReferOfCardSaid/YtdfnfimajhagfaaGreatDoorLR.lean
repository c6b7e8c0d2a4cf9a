/- Walk: Far of the reference model. -/
import Derived.Test.YtdfnfimajhagfaaGreatDoorW5
import Derived.Test.YtdfnfimajhagfaaGreatDoorP8
import Derived.Test.YtdfnfimajhagfaaGreatDoorG3
import Derived.Test.YtdfnfimajhagfaaGreatDoorP12
import Derived.Test.YtdfnfimajhagfaaGreatDoorP9
import Derived.Test.YtdfnfimajhagfaaGreatDoorP7
import Derived.OpenShut
namespace Go.Proofs.YtdfnfimajhagfaaGreatDoor
open Go.RowKit Go.Maps Rf
end Go.Proofs.YtdfnfimajhagfaaGreatDoor
/- Walk: lives, the documented examples. -/
namespace Go.Proofs.YtdfnfimajhagfaaGreatDoor
open Go.RowKit Go.Maps Rf
abbrev nKing : S := ⟨#[107, 105, 110, 103]⟩
abbrev nOde : S := ⟨#[111, 100, 101]⟩
abbrev nRuler : S := ⟨#[114, 117, 108, 101, 114]⟩
abbrev nEmperor : S := ⟨#[101, 109, 112, 101, 114, 111, 114]⟩
abbrev nKaiser : S := ⟨#[107, 97, 105, 115, 101, 114]⟩
abbrev nSong : S := ⟨#[115, 111, 110, 103]⟩
abbrev nPoem : S := ⟨#[112, 111, 101, 109]⟩
abbrev nA : S := ⟨#[97]⟩
abbrev nB : S := ⟨#[98]⟩
abbrev exl : List Ref := [⟨nEmperor, nKing, false⟩, ⟨nRuler, nKing, true⟩, ⟨nKaiser, nEmperor, false⟩, ⟨nSong, nPoem, false⟩, ⟨nEmperor, nRuler, false⟩]
abbrev exh3 : List S := [nKing, nOde, nRuler]
abbrev exl3 : List Ref := [⟨nEmperor, nKing, false⟩, ⟨nRuler, nKing, true⟩, ⟨nKaiser, nEmperor, false⟩]
abbrev exab : List Ref := [⟨nA, nB, false⟩, ⟨nB, nA, false⟩]
theorem x1 : valid exl exh3 = (3, 6) := by decide +kernel
theorem x2 : valid exl3 exh3 = (3, 0) := by decide +kernel
theorem x3 : way exl3 exh3 nKaiser nKing = ([nKaiser, nEmperor, nKing], true) := by decide +kernel
theorem x4 : (way exl3 exh3 nKaiser nOde).2 = false := by decide +kernel
theorem x5 : far exl3 exh3 = (2, nKaiser, nKing) := by decide +kernel
theorem x6 : repair exl exh3 = ([3, 4], [nSong]) := by decide +kernel
theorem x7 : valid exab [] = (0, 13) := by decide +kernel
theorem x8 : reach exl3 exh3 nKaiser 1 = [] := by decide +kernel
theorem x9 : reach exl3 exh3 nKaiser 2 = [nKing] := by decide +kernel
theorem x10 : check exl exh3 [3, 4] [nSong] = 0 := by decide +kernel
theorem x11 : check exl exh3 [3, 4] [] = 17 := by decide +kernel
set_option maxRecDepth 20000 in
set_option maxHeartbeats 4000000 in
theorem lives_any (w : World) : Calls Tryz.prog 70 #[] w fun e w' => e = .returned (.bool true) ∧ Below w.heap.size w w' := by
  go_enter Tryz.func70, Tryz.ntmps70
  have hep : ∀ w, Sem.run Tryz.prog (binOp .neq 152 (.agg #[.string nKaiser, .string nKing]) (.agg #[.string nKaiser, .string nKing])) w = .ok (.bool false) w := fun w => by rw [neq_pair]; simp
  go_wp2_with fail
  have H0 : Strs (w.alloc (.cells #[.string nKing, .string nOde, .string nRuler] 9)) (some ⟨w.heap.size, 0, none⟩) 3 exh3 := Strs.lit w _ 9 exh3 3 rfl rfl (by decide)
  have B1 : Below w.heap.size w (w.alloc (.cells #[.string nKing, .string nOde, .string nRuler] 9)) := brefl.al _
  have hz : w.heap.size + 1 = (w.alloc (.cells #[.string nKing, .string nOde, .string nRuler] 9)).heap.size := by simp
  generalize (w.alloc (.cells #[.string nKing, .string nOde, .string nRuler] 9)) = w1 at H0 B1 hz ⊢
  have R0 : Refs (w1.alloc (.cells (refsCells exl).toArray 136)) (some ⟨w1.heap.size, 0, none⟩) 5 exl := Refs.lit w1 _ 136 exl 5 rfl rfl (by decide)
  rw [← hz] at R0
  have B2 := B1.al (.cells (refsCells exl).toArray 136)
  replace H0 := H0.below (brefl.al (.cells (refsCells exl).toArray 136))
  change Refs (w1.alloc (.cells #[.string nEmperor, .string nKing, .bool false, .string nRuler, .string nKing, .bool true, .string nKaiser, .string nEmperor, .bool false, .string nSong, .string nPoem, .bool false, .string nEmperor, .string nRuler, .bool false] 136)) _ _ _ at R0
  change Strs (w1.alloc (.cells #[.string nEmperor, .string nKing, .bool false, .string nRuler, .string nKing, .bool true, .string nKaiser, .string nEmperor, .bool false, .string nSong, .string nPoem, .bool false, .string nEmperor, .string nRuler, .bool false] 136)) _ _ _ at H0
  change Below w.heap.size w (w1.alloc (.cells #[.string nEmperor, .string nKing, .bool false, .string nRuler, .string nKing, .bool true, .string nKaiser, .string nEmperor, .bool false, .string nSong, .string nPoem, .bool false, .string nEmperor, .string nRuler, .bool false] 136)) at B2
  generalize (w1.alloc (.cells #[.string nEmperor, .string nKing, .bool false, .string nRuler, .string nKing, .bool true, .string nKaiser, .string nEmperor, .bool false, .string nSong, .string nPoem, .bool false, .string nEmperor, .string nRuler, .bool false] 136)) = w2 at H0 R0 B2 ⊢
  have T0 : Refs w2 (some ⟨w.heap.size + 1, 0, none⟩) 3 exl3 := R0.take (k := 3) (by omega)
  have HZ := Lib.hid hz
  clear B1 hz
  refine (valid_any _ _ 5 3 5 3 exl exh3 w2 (by omega) (by omega) (by omega) R0 H0).mono ?_
  rintro e w3 ⟨rfl, b3⟩
  rw [x1]
  go_wp2_with fail
  refine (valid_any _ _ 3 3 5 3 exl3 exh3 w3 (by omega) (by omega) (by omega) (T0.below b3) (H0.below b3)).mono ?_
  rintro e w4 ⟨rfl, b4'⟩
  have b4 := b3.tr b4'
  rw [x2]
  go_wp2_with fail
  refine (way_any _ _ 3 3 5 3 exl3 exh3 nKaiser nKing w4 (by omega) (by omega) (by omega) (T0.below b4) (H0.below b4) (by decide) (by decide)).mono ?_
  rintro e w5 ⟨A5, k5, c5, rfl, hc5, hk5, S5, b5'⟩
  have b5 := b4.tr b5'
  rw [x3] at S5 ⊢
  go_wp2_with fail
  refine (way_any _ _ 3 3 5 3 exl3 exh3 nKaiser nOde w5 (by omega) (by omega) (by omega) (T0.below b5) (H0.below b5) (by decide) (by decide)).mono ?_
  rintro e w6 ⟨A6, k6, c6, rfl, hc6, hk6, S6, b6'⟩
  have b6 := b5.tr b6'
  rw [x4]
  clear S6
  go_wp2_with fail
  refine (far_any _ _ 3 3 5 3 exl3 exh3 w6 (by omega) (by omega) (by omega) (T0.below b6) (H0.below b6)).mono ?_
  rintro e w7 ⟨rfl, b7'⟩
  have b7 := b6.tr b7'
  rw [x5]
  go_wp2_with fail
  have b8 : Below w2.heap.size w2 (w7.alloc (.cells #[.string nKaiser, .string nKing] 152)) := b7.al _
  have p0 : (w7.alloc (.cells #[.string nKaiser, .string nKing] 152)).cell? ⟨w7.heap.size, 0, none⟩ = some (.string nKaiser) := by simp
  have p1 : (w7.alloc (.cells #[.string nKaiser, .string nKing] 152)).cell? ⟨w7.heap.size, 1, none⟩ = some (.string nKing) := by simp
  have pz : w7.heap.size < (w7.alloc (.cells #[.string nKaiser, .string nKing] 152)).heap.size := by simp
  replace S5 := S5.below ((b6'.tr b7').al (.cells #[.string nKaiser, .string nKing] 152))
  generalize (w7.alloc (.cells #[.string nKaiser, .string nKing] 152)) = w8 at b8 p0 p1 pz S5 ⊢
  generalize w7.heap.size = pb at p0 p1 pz ⊢
  clear b3 b4 b5 b6 b7 b4' b5' b6' b7'
  refine (repair_any _ _ 5 3 5 3 exl exh3 w8 (by omega) (by omega) (by omega) (R0.below b8) (H0.below b8)).mono ?_
  rintro e w9 ⟨A8, k8, c8, A9, k9, c9, rfl, hk8, hkn8, hk9, hkn9, I8, S9, b9'⟩
  rw [x6] at I8 S9
  have b9 := b8.tr b9'
  go_wp2_with fail
  have E0 : Refs (w9.alloc (.cells #[.string nA, .string nB, .bool false, .string nB, .string nA, .bool false] 136)) (some ⟨w9.heap.size, 0, none⟩) 2 exab := Refs.lit w9 _ 136 exab 2 rfl rfl (by decide)
  refine (valid_any _ _ 2 0 2 0 exab [] _ (by omega) (by omega) (by omega) E0 (Strs.nil _)).mono ?_
  rintro e w10 ⟨rfl, b10'⟩
  rw [x7]
  have b910 : Below w9.heap.size w9 w10 := (brefl.al _).tr b10'
  have b10 := b9.tr b910
  replace p0 := ((b9'.tr b910).cell (p := ⟨pb, 0, none⟩) pz).trans p0
  replace p1 := ((b9'.tr b910).cell (p := ⟨pb, 1, none⟩) pz).trans p1
  replace S5 := S5.below (b9'.tr b910)
  replace I8 := I8.below b910
  replace S9 := S9.below b910
  clear b8 b9 b9' b10' b910 E0 pz
  obtain rfl : k5 = 3 := S5.1.symm
  obtain rfl : k8 = 2 := I8.1.symm
  obtain rfl : k9 = 1 := S9.1.symm
  go_wp2_with fail
  have L3 : Strs (w10.alloc (.cells #[.string nKaiser, .string nEmperor, .string nKing] 9)) (some ⟨w10.heap.size, 0, none⟩) 3 [nKaiser, nEmperor, nKing] := Strs.lit w10 _ 9 _ 3 rfl rfl (by decide)
  refine (sameTexts_any _ _ 3 _ _ _ _ (by omega) (S5.below (brefl.al _)) L3).mono ?_
  rintro e w11 ⟨rfl, b11'⟩
  have b1011 : Below w10.heap.size w10 w11 := (brefl.al _).tr b11'
  have b11 := b10.tr b1011
  go_wp2_with fail
  refine (reach_any _ _ 3 3 5 3 exl3 exh3 nKaiser 1 w11 (by omega) (by omega) (by omega) (by unfold i64ok; omega) (T0.below b11) (H0.below b11) (by decide)).mono ?_
  rintro e w12 ⟨A12, k12, c12, rfl, hc12, hk12, S12, b12'⟩
  rw [x8] at S12
  obtain rfl : k12 = 0 := S12.1.symm
  have b12 := b11.tr b12'
  go_wp2_with fail
  refine (reach_any _ _ 3 3 5 3 exl3 exh3 nKaiser 2 w12 (by omega) (by omega) (by omega) (by unfold i64ok; omega) (T0.below b12) (H0.below b12) (by decide)).mono ?_
  rintro e w13 ⟨A13, k13, c13, rfl, hc13, hk13, S13, b13'⟩
  rw [x9] at S13
  obtain rfl : k13 = 1 := S13.1.symm
  have b13 := b12.tr b13'
  go_wp2_with fail
  have L1 : Strs (w13.alloc (.cells #[.string nKing] 9)) (some ⟨w13.heap.size, 0, none⟩) 1 [nKing] := Strs.lit w13 _ 9 _ 1 rfl rfl (by decide)
  refine (sameTexts_any _ _ 1 _ _ _ _ (by omega) (S13.below (brefl.al _)) L1).mono ?_
  rintro e w14 ⟨rfl, b14'⟩
  have b1314 : Below w13.heap.size w13 w14 := (brefl.al _).tr b14'
  have b14 := b13.tr b1314
  have b1014 := ((b1011.tr b12').tr b13').tr b1314
  go_wp2_with fail
  have LI : Ints (w14.alloc (.cells #[.int .i64 3, .int .i64 4] 3)) (some ⟨w14.heap.size, 0, none⟩) 2 [3, 4] := Ints.lit w14 _ 3 _ 2 rfl rfl (by intro s hs; simp at hs; unfold i64ok; omega)
  refine (sameInts_any _ _ 2 _ _ _ _ (by omega) (I8.below (b1014.al _)) LI).mono ?_
  rintro e w15 ⟨rfl, b15'⟩
  have b1415 : Below w14.heap.size w14 w15 := (brefl.al _).tr b15'
  have b15 := b14.tr b1415
  have b1015 := b1014.tr b1415
  go_wp2_with fail
  have LS : Strs (w15.alloc (.cells #[.string nSong] 9)) (some ⟨w15.heap.size, 0, none⟩) 1 [nSong] := Strs.lit w15 _ 9 _ 1 rfl rfl (by decide)
  refine (sameTexts_any _ _ 1 _ _ _ _ (by omega) (S9.below (b1015.al _)) LS).mono ?_
  rintro e w16 ⟨rfl, b16'⟩
  have b1516 : Below w15.heap.size w15 w16 := (brefl.al _).tr b16'
  have b16 := b15.tr b1516
  have b1016 := b1015.tr b1516
  go_wp2_with fail
  refine (check_any _ _ _ _ 5 3 2 1 5 3 _ _ exl exh3 [3, 4] [nSong] w16 (by omega) (by omega) (by omega) (by omega) (by omega) (R0.below b16) (H0.below b16) (I8.below b1016) (S9.below b1016)).mono ?_
  rintro e w17 ⟨rfl, b17'⟩
  rw [x10]
  have b17 := b16.tr b17'
  go_wp2_with fail
  refine (check_any _ _ _ _ 5 3 2 0 5 3 _ _ exl exh3 [3, 4] [] w17 (by omega) (by omega) (by omega) (by omega) (by omega) (R0.below b17) (H0.below b17) (I8.below (b1016.tr b17')) (Strs.nil _)).mono ?_
  rintro e w18 ⟨rfl, b18'⟩
  rw [x11]
  go_wp2
  go_ret
  exact ⟨rfl, (B2.tr b17).tr b18'⟩
end Go.Proofs.YtdfnfimajhagfaaGreatDoor
/- Walk: Bent; the arguments of a law as lists. -/
namespace Go.Proofs.YtdfnfimajhagfaaGreatDoor
open Go.RowKit Go.Maps Rf
/-- a slice of numbers that came in, as a list -/
theorem ints_in {w : World} {x : Addr} {len cap : Nat} {zs : List Int} (hl : len ≤ cap) (hz : zs.length = cap) (hc : ∀ i, i < zs.length → w.cell? (x.add i) = some (.int .i64 (zs.getD i 0))) (hw : ∀ n ∈ zs, (Lit.int .i64 n).wf = true) : Ints w (some x) len (zs.take len) := by
  refine ⟨by rw [List.length_take]; omega, fun i hi => ?_, fun hp => ?_⟩
  · have := hw i (List.mem_of_mem_take hi)
    simpa [Lit.wf, IntKind.min, IntKind.max, IntKind.signed, IntKind.bits, i64ok] using this
  · rw [List.length_map, List.length_take] at hp
    obtain ⟨b, off, rfl, hc'⟩ := Go.ints_at hc (by omega)
    refine ⟨b, off, rfl, World.block_lt_of_cell? w ⟨b, off, none⟩ (u := .int .i64 (zs.getD 0 0)) (by have := hc' 0 (by omega); rwa [Nat.add_zero] at this), fun j u hu => ?_⟩
    rw [List.getElem?_map] at hu
    cases hj : (zs.take len)[j]? with
    | none => rw [hj] at hu; cases hu
    | some y =>
      rw [hj] at hu
      injection hu with hu
      subst hu
      obtain ⟨hjl, rfl⟩ := List.getElem?_eq_some_iff.1 hj
      rw [List.length_take] at hjl
      rw [hc' j (by omega), List.getElem_take]
      simp [List.getD_eq_getElem?_getD, List.getElem?_eq_getElem (show j < zs.length by omega)]
theorem Ints.set {w : World} {b off n : Nat} {l : List Int} (h : Ints w (some ⟨b, off, none⟩) n l) {k : Nat} (hk : k < n) {x : Int} (hx : i64ok x) : Ints (w.setCell ⟨b, off + k, none⟩ (.int .i64 x)) (some ⟨b, off, none⟩) n (l.set k x) := by
  refine ⟨by rw [List.length_set]; exact h.1, fun i hi => ?_, fun hp => ?_⟩
  · rcases List.mem_or_eq_of_mem_set hi with h1 | rfl
    · exact h.2.1 i h1
    · exact hx
  · obtain ⟨b', off', hA, hb, hc⟩ := h.2.2 (by rw [List.length_map, h.1]; omega)
    injection hA with hA
    injection hA with h1 h2
    subst h1; subst h2
    refine ⟨b, off, rfl, by simpa using hb, fun j u hu => ?_⟩
    rw [List.getElem?_map, List.getElem?_set] at hu
    by_cases e : k = j
    · subst e
      rw [if_pos rfl, if_pos (by rw [h.1]; exact hk)] at hu
      simp at hu
      subst hu
      exact World.cell?_setCell_same _ _ _ (hc k _ (by rw [List.getElem?_map, List.getElem?_eq_getElem (by rw [h.1]; exact hk)]; rfl))
    · rw [if_neg e] at hu
      rw [World.cell?_setCell_other _ _ _ _ (by simp only [ne_eq, Addr.mk.injEq, true_and, and_true]; omega)]
      exact hc j u (by rw [List.getElem?_map]; exact hu)
theorem Own.free {w : World} {base : Nat} {e : TypeId} {size : Nat} {b off n c : Nat} {xs : List Value} (h : Own w base e size (.slice (some ⟨b, off, none⟩) n c) n xs) (j : Nat) : off = 0 ∧ w.frozen? ⟨b, j, none⟩ = false := by
  rcases h.1.2 with ⟨hv, _⟩ | ⟨g, cap, cur, hv, _, hh, _⟩
  · cases hv
  · injection hv with hv
    injection hv with hv
    injection hv with h1 h2
    subst h1; subst h2
    exact ⟨rfl, by simp [World.frozen?, hh]⟩
def ABent (n m : Nat) (w : World) (e : Ending) (w' : World) : Prop := ∃ A1 n1 c1 l1 A2 n2 c2 l2, e = .returned (.tuple #[.slice A1 n1 c1, .slice A2 n2 c2]) ∧ n1 ≤ c1 ∧ n1 ≤ n + 31 ∧ Ints w' A1 n1 l1 ∧ n2 ≤ c2 ∧ n2 ≤ m + 1 ∧ Strs w' A2 n2 l2 ∧ Below w.heap.size w w'
end Go.Proofs.YtdfnfimajhagfaaGreatDoor
/- Walk of the law ReferRepairs. -/
namespace Go.Proofs.YtdfnfimajhagfaaGreatDoor
open Go.RowKit Go.Maps Rf
/-- a slice of strings that came in, as a list -/
theorem strs_in {w : World} {x : Addr} {len cap : Nat} {zs : List S} (hl : len ≤ cap) (hz : zs.length = cap) (hc : ∀ i, i < zs.length → w.cell? (x.add i) = some (.string (zs.getD i ByteArray.empty))) (hw : ∀ s ∈ zs, s.size ≤ maxLen) : Strs w (some x) len (zs.take len) := by
  refine ⟨by rw [List.length_take]; omega, fun i hi => hw i (List.mem_of_mem_take hi), fun hp => ?_⟩
  rw [List.length_map, List.length_take] at hp
  obtain ⟨b, off, spot⟩ := x
  have hspot : spot = none := by simpa [Addr.add] using World.cell?_spot (hc 0 (by omega))
  subst hspot
  have hc' : ∀ j, j < zs.length → w.cell? ⟨b, off + j, none⟩ = some (.string (zs.getD j ByteArray.empty)) := fun j hj => by rw [← addr_add]; exact hc j hj
  refine ⟨b, off, rfl, World.block_lt_of_cell? w ⟨b, off, none⟩ (u := .string (zs.getD 0 ByteArray.empty)) (by have := hc' 0 (by omega); rwa [Nat.add_zero] at this), fun j u hu => ?_⟩
  rw [List.getElem?_map] at hu
  cases hj : (zs.take len)[j]? with
  | none => rw [hj] at hu; cases hu
  | some y =>
    rw [hj] at hu
    injection hu with hu
    subst hu
    obtain ⟨hjl, rfl⟩ := List.getElem?_eq_some_iff.1 hj
    rw [List.length_take] at hjl
    rw [hc' j (by omega), List.getElem_take]
    simp [List.getD_eq_getElem?_getD, List.getElem?_eq_getElem (show j < zs.length by omega)]
/-- a block of slices of numbers -/
def IRow (w : World) (b N M : Nat) : Prop := b < w.heap.size ∧ ∀ i, i < N → ∃ A n c l, w.cell? ⟨b, i, none⟩ = some (.slice A n c) ∧ n ≤ M ∧ Ints w A n l
theorem IRow.below {w w' : World} {b N M : Nat} (h : IRow w b N M) (hb : Below w.heap.size w w') : IRow w' b N M :=
  ⟨Nat.lt_of_lt_of_le h.1 hb.size, fun i hi => by
    obtain ⟨A, n, c, l, h1, h2, h3⟩ := h.2 i hi
    exact ⟨A, n, c, l, (hb.cell (p := ⟨b, i, none⟩) h.1).trans h1, h2, h3.below hb⟩⟩
def SRow (w : World) (b N M : Nat) : Prop := b < w.heap.size ∧ ∀ i, i < N → ∃ A n c l, w.cell? ⟨b, i, none⟩ = some (.slice A n c) ∧ n ≤ M ∧ Strs w A n l
theorem SRow.below {w w' : World} {b N M : Nat} (h : SRow w b N M) (hb : Below w.heap.size w w') : SRow w' b N M :=
  ⟨Nat.lt_of_lt_of_le h.1 hb.size, fun i hi => by
    obtain ⟨A, n, c, l, h1, h2, h3⟩ := h.2 i hi
    exact ⟨A, n, c, l, (hb.cell (p := ⟨b, i, none⟩) h.1).trans h1, h2, h3.below hb⟩⟩
theorem IRow.four {w : World} {A0 A1 A2 A3 : Option Addr} {n0 n1 n2 n3 c0 c1 c2 c3 M : Nat} {l0 l1 l2 l3 : List Int} {t : TypeId} (h0 : Ints w A0 n0 l0) (h1 : Ints w A1 n1 l1) (h2 : Ints w A2 n2 l2) (h3 : Ints w A3 n3 l3) (m0 : n0 ≤ M) (m1 : n1 ≤ M) (m2 : n2 ≤ M) (m3 : n3 ≤ M) :
    IRow (w.alloc (.cells #[.slice A0 n0 c0, .slice A1 n1 c1, .slice A2 n2 c2, .slice A3 n3 c3] t)) w.heap.size 4 M :=
  ⟨by simp, fun i hi => by
    match i, hi with
    | 0, _ => exact ⟨A0, n0, c0, l0, by simp, m0, h0.below (brefl.al _)⟩
    | 1, _ => exact ⟨A1, n1, c1, l1, by simp, m1, h1.below (brefl.al _)⟩
    | 2, _ => exact ⟨A2, n2, c2, l2, by simp, m2, h2.below (brefl.al _)⟩
    | 3, _ => exact ⟨A3, n3, c3, l3, by simp, m3, h3.below (brefl.al _)⟩⟩
theorem SRow.four {w : World} {A0 A1 A2 A3 : Option Addr} {n0 n1 n2 n3 c0 c1 c2 c3 M : Nat} {l0 l1 l2 l3 : List S} {t : TypeId} (h0 : Strs w A0 n0 l0) (h1 : Strs w A1 n1 l1) (h2 : Strs w A2 n2 l2) (h3 : Strs w A3 n3 l3) (m0 : n0 ≤ M) (m1 : n1 ≤ M) (m2 : n2 ≤ M) (m3 : n3 ≤ M) :
    SRow (w.alloc (.cells #[.slice A0 n0 c0, .slice A1 n1 c1, .slice A2 n2 c2, .slice A3 n3 c3] t)) w.heap.size 4 M :=
  ⟨by simp, fun i hi => by
    match i, hi with
    | 0, _ => exact ⟨A0, n0, c0, l0, by simp, m0, h0.below (brefl.al _)⟩
    | 1, _ => exact ⟨A1, n1, c1, l1, by simp, m1, h1.below (brefl.al _)⟩
    | 2, _ => exact ⟨A2, n2, c2, l2, by simp, m2, h2.below (brefl.al _)⟩
    | 3, _ => exact ⟨A3, n3, c3, l3, by simp, m3, h3.below (brefl.al _)⟩⟩
theorem Own.emptyAt (w : World) {b : Nat} (hb : b = w.heap.size) (t : TypeId) (size : Nat) {base : Nat} (h : base ≤ w.heap.size) : Own (w.alloc (.cells #[] t)) base t size (.slice (some ⟨b, 0, none⟩) 0 0) 0 [] := by subst hb; exact Own.empty w t size h
end Go.Proofs.YtdfnfimajhagfaaGreatDoor
