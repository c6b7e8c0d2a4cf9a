/- The examples of the section, in plain Lean: what the vocabulary's functions return there. -/
import Derived.Test.YtdfnfimajhagfaaGreatDoorT8
import Derived.Test.YtdfnfimajhagfaaGreatDoorUnit
import Derived.Test.YtdfnfimajhagfaaGreatDoorSpo
import Derived.Test.YtdfnfimajhagfaaGreatDoorT11
import Derived.Test.YtdfnfimajhagfaaGreatDoorW3
import Derived.Test.YtdfnfimajhagfaaGreatDoorG3
namespace Rf
/-- the error of a term, the names above it given -/
def flawC (l : List Term) (p : Option Term) (t : Term) (u : List S) : Int :=
  if possible t = false then eArg
  else if late p t = true then eTwice
  else if ((leads t).any fun n => (findT l n).isNone) = true then eNone
  else if ((leads t).any (second l)) = true then eType
  else if has u t.name = true then eCycle
  else eOK
def vvFromC (U : S → List S) (l : List Term) : List Term → Option Term → Nat → Nat × Int
  | [], _, i => (i, eOK)
  | t :: r, p, i => if flawC l p t (U t.name) = eOK then vvFromC U l r (some t) (i + 1) else (i, flawC l p t (U t.name))
theorem vvFromC_eq {U : S → List S} {l : List Term} : ∀ {r : List Term} {p : Option Term} {i : Nat}, (∀ t ∈ r, ups (brd l) t.name = U t.name) → vvalidFrom l r p i = vvFromC U l r p i
  | [], _, _, _ => rfl
  | t :: r, p, i, h => by
    have h1 : flaw l p t = flawC l p t (U t.name) := by rw [← h t List.mem_cons_self]; rfl
    rw [vvalidFrom, vvFromC, h1, vvFromC_eq fun u hu => h u (List.mem_cons_of_mem _ hu)]
def vvC (U : S → List S) (l : List Term) : Nat × Int := if 128 < l.length then (0, eLimit) else vvFromC U l l none 0
theorem vvC_eq {U : S → List S} {l : List Term} (h : ∀ t ∈ l, ups (brd l) t.name = U t.name) : vvalid l = vvC U l := by unfold vvalid vvC; rw [vvFromC_eq h]
theorem ups_list {f : S → List S} {a : S} {o : List S} (hs : Sorted o) (h1 : ∀ x ∈ o, Up f a x) (h2 : ∀ y ∈ f a, y ∈ o) (h3 : ∀ x ∈ o, ∀ y ∈ f x, y ∈ o) : ups f a = o :=
  ups_wide (next := a :: o) hs (by simp) h1 (fun x hx => by
    rcases List.mem_cons.1 hx with rfl | hx
    · exact h2
    · exact h3 x hx)
theorem ups_none {f : S → List S} {a : S} (h : f a = []) : ups f a = [] := ups_list (by unfold Sorted; simp) (fun x hx => by cases hx) (by rw [h]; simp) (fun x hx => by cases hx)
theorem ups_one {f : S → List S} {a b : S} (h : f a = [b]) (h2 : f b = []) : ups f a = [b] :=
  ups_list (by unfold Sorted; simp) (fun x hx => by simp at hx; subst hx; exact .one (by rw [h]; simp)) (by rw [h]; simp) (fun x hx => by simp at hx; subst hx; rw [h2]; simp)
abbrev eAnna : S := ⟨#[97, 110, 110, 97]⟩
abbrev eAnnaKing : S := ⟨#[97, 110, 110, 97, 32, 107, 105, 110, 103]⟩
abbrev eKing : S := ⟨#[107, 105, 110, 103]⟩
abbrev eRuler : S := ⟨#[114, 117, 108, 101, 114]⟩
abbrev eQueen : S := ⟨#[113, 117, 101, 101, 110]⟩
/-- The king, Anna King; x9 anna -/
abbrev eText : S := ⟨#[84, 104, 101, 32, 107, 105, 110, 103, 44, 32, 65, 110, 110, 97, 32, 75, 105, 110, 103, 59, 32, 120, 57, 32, 97, 110, 110, 97]⟩
abbrev exV : List Term := [⟨eAnna, 0, 0, ⟨#[]⟩, []⟩, ⟨eAnnaKing, 0, 0, eAnna, []⟩, ⟨eKing, 0, 0, ⟨#[]⟩, [eRuler]⟩, ⟨eRuler, 0, 0, ⟨#[]⟩, []⟩]
abbrev exCyc : List Term := [⟨eAnna, 0, 0, ⟨#[]⟩, []⟩, ⟨eAnnaKing, 0, 0, eAnna, []⟩, ⟨eKing, 0, 0, ⟨#[]⟩, [eRuler]⟩, ⟨eRuler, 0, 0, ⟨#[]⟩, [eKing]⟩]
abbrev exTyp : List Term := [⟨eAnna, 0, 0, ⟨#[]⟩, []⟩, ⟨eAnnaKing, 0, 0, eAnna, []⟩, ⟨eKing, 0, 0, ⟨#[]⟩, [eRuler]⟩, ⟨eQueen, 0, 0, eAnnaKing, []⟩, ⟨eRuler, 0, 0, ⟨#[]⟩, []⟩]
abbrev exTwo : List Term := [⟨eKing, 0, 0, ⟨#[]⟩, []⟩, ⟨eAnna, 0, 0, ⟨#[]⟩, []⟩]
def exU (s : S) : List S := if s = eKing then [eRuler] else []
def exUc (s : S) : List S := if s = eKing then [eKing, eRuler] else if s = eRuler then [eKing, eRuler] else []
theorem exV_up : ∀ t ∈ exV, ups (brd exV) t.name = exU t.name := by
  intro t ht
  simp only [exV, List.mem_cons, List.not_mem_nil, or_false] at ht
  rcases ht with rfl | rfl | rfl | rfl
  · exact ups_none (by decide +kernel)
  · exact ups_none (by decide +kernel)
  · exact ups_one (by decide +kernel) (by decide +kernel)
  · exact ups_none (by decide +kernel)
theorem exTyp_up : ∀ t ∈ exTyp, ups (brd exTyp) t.name = exU t.name := by
  intro t ht
  simp only [exTyp, List.mem_cons, List.not_mem_nil, or_false] at ht
  rcases ht with rfl | rfl | rfl | rfl | rfl
  · exact ups_none (by decide +kernel)
  · exact ups_none (by decide +kernel)
  · exact ups_one (by decide +kernel) (by decide +kernel)
  · exact ups_none (by decide +kernel)
  · exact ups_none (by decide +kernel)
theorem exTwo_up : ∀ t ∈ exTwo, ups (brd exTwo) t.name = (fun _ => []) t.name := by
  intro t ht
  simp only [exTwo, List.mem_cons, List.not_mem_nil, or_false] at ht
  rcases ht with rfl | rfl
  · exact ups_none (by decide +kernel)
  · exact ups_none (by decide +kernel)
theorem exCyc_king : brd exCyc eKing = [eRuler] := by decide +kernel
theorem exCyc_ruler : brd exCyc eRuler = [eKing] := by decide +kernel
theorem exCyc_up : ∀ t ∈ exCyc, ups (brd exCyc) t.name = exUc t.name := by
  have hs : Sorted [eKing, eRuler] := by unfold Sorted; simp only [List.pairwise_cons, List.mem_cons, List.not_mem_nil, or_false, forall_eq, List.Pairwise.nil, and_true, false_imp_iff, implies_true]; decide +kernel
  have hcl : ∀ x ∈ [eKing, eRuler], ∀ y ∈ brd exCyc x, y ∈ [eKing, eRuler] := by
    intro x hx y hy
    simp only [List.mem_cons, List.not_mem_nil, or_false] at hx
    rcases hx with rfl | rfl
    · rw [exCyc_king] at hy; simp at hy; subst hy; simp
    · rw [exCyc_ruler] at hy; simp at hy; subst hy; simp
  have k1 : Up (brd exCyc) eKing eRuler := .one (by rw [exCyc_king]; simp)
  have k2 : Up (brd exCyc) eRuler eKing := .one (by rw [exCyc_ruler]; simp)
  intro t ht
  simp only [exCyc, List.mem_cons, List.not_mem_nil, or_false] at ht
  rcases ht with rfl | rfl | rfl | rfl
  · exact ups_none (by decide +kernel)
  · exact ups_none (by decide +kernel)
  · rw [show exUc eKing = [eKing, eRuler] from by decide +kernel]
    refine ups_list hs ?_ ?_ hcl
    · intro x hx
      simp only [List.mem_cons, List.not_mem_nil, or_false] at hx
      rcases hx with rfl | rfl
      · exact .step (by rw [exCyc_king]; simp) k2
      · exact k1
    · rw [exCyc_king]; simp
  · rw [show exUc eRuler = [eKing, eRuler] from by decide +kernel]
    refine ups_list hs ?_ ?_ hcl
    · intro x hx
      simp only [List.mem_cons, List.not_mem_nil, or_false] at hx
      rcases hx with rfl | rfl
      · exact k2
      · exact .step (by rw [exCyc_ruler]; simp) k1
    · rw [exCyc_ruler]; simp
theorem ex_valid : vvalid exV = (4, 0) := by rw [vvC_eq exV_up]; decide +kernel
theorem ex_cyc : vvalid exCyc = (2, 13) := by rw [vvC_eq exCyc_up]; decide +kernel
theorem ex_typ : vvalid exTyp = (3, 12) := by rw [vvC_eq exTyp_up]; decide +kernel
theorem ex_two : vvalid exTwo = (1, 7) := by rw [vvC_eq (U := fun _ => []) exTwo_up]; decide +kernel
theorem ex_king : ups (brd exV) eKing = [eRuler] := exV_up ⟨eKing, 0, 0, ⟨#[]⟩, [eRuler]⟩ (by simp)
theorem ex_words : folded eText (toks (byts eText) 0) = [⟨#[116, 104, 101]⟩, eKing, ⟨#[]⟩, eAnna, eKing, ⟨#[]⟩, ⟨#[]⟩, ⟨#[]⟩, eAnna] := by decide +kernel
theorem ex_mens : mens exV 0 (folded eText (toks (byts eText) 0)) 0 = [⟨1, 2, eKing, eKing⟩, ⟨3, 5, eAnnaKing, eAnna⟩, ⟨8, 9, eAnna, eAnna⟩] := by rw [ex_words]; decide +kernel
theorem ex_names : sortS [eKing, eAnna, eAnna] = [eAnna, eKing] := by decide +kernel
theorem ex_alias : aliases exV eAnna = [eAnnaKing] := by
  unfold aliases
  rw [if_pos ⟨by rw [ex_valid]; rfl, by decide +kernel⟩]
  decide +kernel
end Rf
/- Walks of the statements of layer 24: lists. -/
namespace Go.Proofs.YtdfnfimajhagfaaGreatDoor
open Go.RowKit Go.Maps Rf
/-- the block of the four lists of terms -/
structure VL (w : World) (b : Nat) : Prop where
  lt : b < w.heap.size
  el : ∀ i, i < 4 → ∃ A n c ms, w.cell? ⟨b, i, none⟩ = some (.slice A n c) ∧ n ≤ c ∧ n ≤ 500 ∧ Tms w A n ms ∧ (∀ m ∈ ms, m.small) ∧ (i = 0 → vvalid (terms ms) = (n, 0))
theorem VL.below {w w' : World} {b : Nat} (h : VL w b) (hb : Below w.heap.size w w') : VL w' b :=
  ⟨Nat.lt_of_lt_of_le h.lt hb.size, fun i hi => by
    obtain ⟨A, n, c, l, h1, h2, h3, h4, h5, h6⟩ := h.el i hi
    exact ⟨A, n, c, l, (hb.cell (p := ⟨b, i, none⟩) h.lt).trans h1, h2, h3, h4.below hb, h5, h6⟩⟩
theorem VL.new {w : World} {A0 A1 A2 : Option Addr} {n0 n1 n2 c0 c1 c2 : Nat} {l0 l1 l2 : List TM} {t : TypeId} (h0 : Tms w A0 n0 l0) (h1 : Tms w A1 n1 l1) (h2 : Tms w A2 n2 l2) (d0 : n0 ≤ c0) (d1 : n1 ≤ c1) (d2 : n2 ≤ c2) (m0 : n0 ≤ 500) (m1 : n1 ≤ 500) (m2 : n2 ≤ 500)
    (s0 : ∀ m ∈ l0, m.small) (s1 : ∀ m ∈ l1, m.small) (s2 : ∀ m ∈ l2, m.small) (hv : vvalid (terms l0) = (n0, 0)) : VL (w.alloc (.cells #[.slice A0 n0 c0, .slice A1 n1 c1, .slice A2 n2 c2, .slice none 0 0] t)) w.heap.size :=
  ⟨by simp, fun i hi => by
    match i, hi with
    | 0, _ => exact ⟨A0, n0, c0, l0, by simp, d0, m0, h0.below (brefl.al _), s0, fun _ => hv⟩
    | 1, _ => exact ⟨A1, n1, c1, l1, by simp, d1, m1, h1.below (brefl.al _), s1, (fun h => by cases h)⟩
    | 2, _ => exact ⟨A2, n2, c2, l2, by simp, d2, m2, h2.below (brefl.al _), s2, (fun h => by cases h)⟩
    | 3, _ => exact ⟨none, 0, 0, [], by simp, Nat.le_refl _, Nat.zero_le _, Tms.nil _, (fun m hm => by cases hm), (fun h => by cases h)⟩⟩
theorem Made.valid {ms : List TM} (h : Made ms) {w : World} {A : Option Addr} {n : Nat} (hl : Tms w A n ms) (hn : n ≤ 128) : vvalid (terms ms) = (n, 0) := by
  obtain ⟨i, pr, h⟩ := h
  have hlen := terms_length hl
  rw [h.valid names8_names (by omega), hlen]; rfl
set_option maxRecDepth 20000 in
set_option maxHeartbeats 2000000 in
theorem lists_any (A : Option Addr) (n c : Nat) (l : List Int) (how bys : Int) (w : World) (hl : Ints w A n l) (hh : i64ok how) (hb : i64ok bys) :
    Calls Tryz.prog 11 #[.slice A n c, .int .i64 how, .int .i64 bys] w fun e w' => ∃ b, e = .returned (.slice (some ⟨b, 0, none⟩) 4 4) ∧ VL w' b ∧ Below w.heap.size w w' := by
  go_enter Tryz.func11, Tryz.ntmps11
  go_wp2_with (first
    | (go_at_call 42; go_loud (refine (terms_any _ _ _ _ _ hl).mono ?_; rintro e w1 ⟨A1, k1, c1, ms1, rfl, hc1, h81, ht1, hmade, hb1⟩; have hsm := hmade.small; have hfw := hmade.few ht1; have hvd := hmade.valid ht1 (by omega)))
    | (go_at_call 57; (with_reducible refine (spoilt_any A1 k1 c1 ms1 how bys 8 _ ?_ ?_ ht1 hsm hfw hh hb).mono ?_); (focus omega); (focus omega); rintro e w2 ⟨A2, n2, c2, ms2, rfl, hc2, hn2, ht2, hs2, hf2, hb2⟩)
    | (go_at_call 57; go_loud ((with_reducible refine (spoilt_any A2 n2 c2 ms2 bys how 9 _ ?_ ?_ ht2 hs2 hf2 hb hh).mono ?_); (focus omega); (focus omega); rintro e w3 ⟨A3, n3, c3, ms3, rfl, hc3, hn3, ht3, hs3, hf3, hb3⟩)))
  go_ret
  exact ⟨w3.heap.size, rfl, VL.new (ht1.below (hb2.tr hb3)) (ht2.below hb3) ht3 hc1 hc2 hc3 (by omega) (by omega) (by omega) hsm hs2 hs3 hvd, ((hb1.tr hb2).tr hb3).al _⟩
end Go.Proofs.YtdfnfimajhagfaaGreatDoor
/- Walks of the statements of layer 24: plain, same, example, and lives, the documented examples. -/
namespace Go.Proofs.YtdfnfimajhagfaaGreatDoor
open Go.RowKit Go.Maps Rf
theorem mensT2 : AppT Tryz.prog 45 96 4 48 := AppT.mk Tryz.underlying45 (z := .agg #[.int .i64 0, .int .i64 0, .string ByteArray.empty, .string ByteArray.empty]) (by kernel_rfl) rfl (by omega)
set_option maxRecDepth 20000 in
set_option maxHeartbeats 4000000 in
theorem plain_any (A : Option Addr) (n c : Nat) (L : List Men) (w : World) (hm : n ≤ 1000000) (hn : L.length = n) (hl : Rds w A (menCells L)) :
    Calls Tryz.prog 26 #[.slice A n c] w fun e w' => ∃ A' c', e = .returned (.slice A' n c') ∧ n ≤ c' ∧ Own w' w.heap.size 96 4 (.slice A' n c') n (menCells L) ∧ Below w.heap.size w w' := by
  go_enter Tryz.func26, Tryz.ntmps26
  go_wp2
  go_loopw [3, 4] (fun o ii wr => ∃ (i c1 : Nat) (A1 : Option Addr), i ≤ n ∧ ii = .int .i64 i ∧ o = .slice A1 i c1 ∧ i ≤ c1 ∧ Own wr w.heap.size 96 4 (.slice A1 i c1) i (menCells (L.take i)) ∧ Below w.heap.size w wr) (fun _ ii _ => n - (intOf ii).toNat)
  case atStart => exact ⟨0, 0, none, by omega, rfl, rfl, by omega, Own.nil _ _ _ (Nat.le_refl _), brefl⟩
  case round =>
    obtain ⟨i, c1, A1, hi, rfl, rfl, hc1, ho, hbl⟩ := hrel
    by_cases hlt : i < n
    · obtain ⟨t, hx⟩ : ∃ t, L[i]? = some t := ⟨_, List.getElem?_eq_getElem (by omega)⟩
      obtain ⟨b, off, rfl, hb0, hd1, hd2, hd3, hd4⟩ := men_at hl hx
      have hd := Lib.hid (Rf.take_snoc hx)
      have hlti : (i : Int) < n := by omega
      clear hx
      have hcells : ∀ wz, Below w.heap.size w wz → wz.cell? ⟨b, off + i * 4, none⟩ = some (.int .i64 t.lo) ∧ wz.cell? ⟨b, off + i * 4 + 1, none⟩ = some (.int .i64 t.hi) ∧ wz.cell? ⟨b, off + i * 4 + 2, none⟩ = some (.string t.name) ∧ wz.cell? ⟨b, off + i * 4 + 3, none⟩ = some (.string t.pref) := fun wz hz =>
        ⟨(hz.cell (p := ⟨b, off + i * 4, none⟩) hb0).trans hd1, (hz.cell (p := ⟨b, off + i * 4 + 1, none⟩) hb0).trans hd2, (hz.cell (p := ⟨b, off + i * 4 + 2, none⟩) hb0).trans hd3, (hz.cell (p := ⟨b, off + i * 4 + 3, none⟩) hb0).trans hd4⟩
      clear hd1 hd2 hd3 hd4 hb0
      have hbw5 : Below w.heap.size w wr.drew := hbl.drn 1
      have ho5 := ho.drew
      have hS := hcells _ hbw5
      go_wp2
      refine wp_region_mix [(true, 0), (true, 1), (true, 2), (true, 3), (true, 4), (true, 5), (true, 6), (true, 7), (true, 8), (true, 9), (true, 10), (true, 11), (true, 12), (true, 13), (true, 14), (true, 15), (true, 16), (true, 17), (true, 18), (true, 19), (true, 20), (true, 21), (false, 22), (false, 23), (true, 24)] 25 (fun wz => wz.cell? ⟨b, off + i * 4, none⟩ = some (.int .i64 t.lo) ∧ wz.cell? ⟨b, off + i * 4 + 1, none⟩ = some (.int .i64 t.hi) ∧ wz.cell? ⟨b, off + i * 4 + 2, none⟩ = some (.string t.name) ∧ wz.cell? ⟨b, off + i * 4 + 3, none⟩ = some (.string t.pref)) (by kernel_rfl) (by kernel_rfl) ?_
      generalize wr.drew = w5 at hbw5 ho5 hS ⊢
      refine wpMix_put (v := ?_) rfl rfl (Or.inl ⟨by rfl, fun wz hz => ?_⟩) hS ?_
      rotate_left
      (focus (go_simp; try (with_reducible rfl)))
      simp only [List.setIfInBounds_toArray, List.set_cons_succ, List.set_cons_zero]
      refine wpMix_put (v := ?_) rfl rfl (Or.inl ⟨by rfl, fun wz hz => ?_⟩) hS ?_
      rotate_left
      (focus (go_simp; try (with_reducible rfl)))
      simp only [List.setIfInBounds_toArray, List.set_cons_succ, List.set_cons_zero]
      refine wpMix_put (v := ?_) rfl rfl (Or.inl ⟨by rfl, fun wz hz => ?_⟩) hS ?_
      rotate_left
      (focus (go_simp; try (with_reducible rfl)))
      simp only [List.setIfInBounds_toArray, List.set_cons_succ, List.set_cons_zero]
      refine wpMix_put (v := ?_) rfl rfl (Or.inl ⟨by rfl, fun wz hz => ?_⟩) hS ?_
      rotate_left
      (focus (go_simp; try (with_reducible rfl)))
      simp only [List.setIfInBounds_toArray, List.set_cons_succ, List.set_cons_zero]
      refine wpMix_put (v := ?_) rfl rfl (Or.inl ⟨by rfl, fun wz hz => ?_⟩) hS ?_
      rotate_left
      (focus (go_simp; try (with_reducible rfl)))
      simp only [List.setIfInBounds_toArray, List.set_cons_succ, List.set_cons_zero]
      refine wpMix_put (v := ?_) rfl rfl (Or.inl ⟨by rfl, fun wz hz => ?_⟩) hS ?_
      rotate_left
      (focus (go_simp; try (with_reducible rfl)))
      simp only [List.setIfInBounds_toArray, List.set_cons_succ, List.set_cons_zero]
      refine wpMix_put (v := ?_) rfl rfl (Or.inl ⟨by rfl, fun wz hz => ?_⟩) hS ?_
      rotate_left
      (focus (go_simp; try (with_reducible rfl)))
      simp only [List.setIfInBounds_toArray, List.set_cons_succ, List.set_cons_zero]
      refine wpMix_put (v := ?_) rfl rfl (Or.inl ⟨by rfl, fun wz hz => ?_⟩) hS ?_
      rotate_left
      (focus (go_simp; try (with_reducible rfl)))
      simp only [List.setIfInBounds_toArray, List.set_cons_succ, List.set_cons_zero]
      refine wpMix_put (v := ?_) rfl rfl (Or.inl ⟨by rfl, fun wz hz => ?_⟩) hS ?_
      rotate_left
      (focus (go_simp; try (with_reducible rfl)))
      simp only [List.setIfInBounds_toArray, List.set_cons_succ, List.set_cons_zero]
      refine wpMix_put (v := ?_) rfl rfl (Or.inl ⟨by rfl, fun wz hz => ?_⟩) hS ?_
      rotate_left
      (focus (go_simp; try (with_reducible rfl)))
      simp only [List.setIfInBounds_toArray, List.set_cons_succ, List.set_cons_zero]
      refine wpMix_put (v := ?_) rfl rfl (Or.inl ⟨by rfl, fun wz hz => ?_⟩) hS ?_
      rotate_left
      (focus (go_simp; try (with_reducible rfl)))
      simp only [List.setIfInBounds_toArray, List.set_cons_succ, List.set_cons_zero]
      refine wpMix_put (v := ?_) rfl rfl (Or.inl ⟨by rfl, fun wz hz => ?_⟩) hS ?_
      rotate_left
      (focus (go_simp; try (with_reducible rfl)))
      simp only [List.setIfInBounds_toArray, List.set_cons_succ, List.set_cons_zero]
      refine wpMix_put (v := ?_) rfl rfl (Or.inl ⟨by rfl, fun wz hz => ?_⟩) hS ?_
      rotate_left
      (focus (go_simp; try (with_reducible rfl)))
      simp only [List.setIfInBounds_toArray, List.set_cons_succ, List.set_cons_zero]
      refine wpMix_put (v := ?_) rfl rfl (Or.inl ⟨by rfl, fun wz hz => ?_⟩) hS ?_
      rotate_left
      (focus (go_simp; try (with_reducible rfl)))
      simp only [List.setIfInBounds_toArray, List.set_cons_succ, List.set_cons_zero]
      refine wpMix_put (v := ?_) rfl rfl (Or.inl ⟨by rfl, fun wz hz => ?_⟩) hS ?_
      rotate_left
      (focus (go_simp; try (with_reducible rfl)))
      simp only [List.setIfInBounds_toArray, List.set_cons_succ, List.set_cons_zero]
      refine wpMix_put (v := ?_) rfl rfl (Or.inl ⟨by rfl, fun wz hz => ?_⟩) hS ?_
      rotate_left
      (focus (go_simp; try (with_reducible rfl)))
      simp only [List.setIfInBounds_toArray, List.set_cons_succ, List.set_cons_zero]
      refine wpMix_put (v := ?_) rfl rfl (Or.inl ⟨by rfl, fun wz hz => ?_⟩) hS ?_
      rotate_left
      (focus (go_simp; try (with_reducible rfl)))
      simp only [List.setIfInBounds_toArray, List.set_cons_succ, List.set_cons_zero]
      refine wpMix_put (v := ?_) rfl rfl (Or.inl ⟨by rfl, fun wz hz => ?_⟩) hS ?_
      rotate_left
      (focus (go_simp; try (with_reducible rfl)))
      simp only [List.setIfInBounds_toArray, List.set_cons_succ, List.set_cons_zero]
      refine wpMix_put (v := ?_) rfl rfl (Or.inl ⟨by rfl, fun wz hz => ?_⟩) hS ?_
      rotate_left
      (focus (go_simp; try (with_reducible rfl)))
      simp only [List.setIfInBounds_toArray, List.set_cons_succ, List.set_cons_zero]
      refine wpMix_put (v := ?_) rfl rfl (Or.inl ⟨by rfl, fun wz hz => ?_⟩) hS ?_
      rotate_left
      (focus (go_simp; try (with_reducible rfl)))
      simp only [List.setIfInBounds_toArray, List.set_cons_succ, List.set_cons_zero]
      refine wpMix_put (v := ?_) rfl rfl (Or.inl ⟨by rfl, fun wz hz => ?_⟩) hS ?_
      rotate_left
      (focus (go_simp; try (with_reducible rfl)))
      simp only [List.setIfInBounds_toArray, List.set_cons_succ, List.set_cons_zero]
      refine wpMix_put (v := ?_) rfl rfl (Or.inl ⟨by rfl, fun wz hz => ?_⟩) hS ?_
      rotate_left
      (focus (go_simp; try (with_reducible rfl)))
      simp only [List.setIfInBounds_toArray, List.set_cons_succ, List.set_cons_zero]
      refine wpMix_step rfl (fun K hK => ?_)
      go_simp
      have hS7 := hcells _ (hbw5.al (.cells #[.int .i64 t.lo, .int .i64 t.hi, .string t.name, .string t.pref] 96))
      refine hK _ _ (fun _ => hS7) ?_
      clear hK K hS
      have hS := hS7
      clear hS7
      refine wpMix_step rfl (fun K hK => ?_)
      refine step_app _ mensT2 rfl (.tmp 11) (.tmp 33) rfl (ho5.alloc _) rfl rfl (news := menCells [t]) rfl (rds_four w5 _ _ _ _ 96) (mens_cell _) ?_ ?_ ?_
      · omega
      · omega
      intro A4 c4 w4 o4 n4 g4 _
      go_simp
      have hb4 := (hbw5.al (.cells #[.int .i64 t.lo, .int .i64 t.hi, .string t.name, .string t.pref] 96)).gr g4 ho5.row
      have hS7 := hcells _ hb4
      refine hK _ _ (fun _ => hS7) ?_
      clear hK K hS
      have hS := hS7
      clear hS7
      refine wpMix_put (v := ?_) rfl rfl (Or.inl ⟨by rfl, fun wz hz => ?_⟩) hS ?_
      rotate_left
      (focus (go_simp; try (with_reducible rfl)))
      simp only [List.setIfInBounds_toArray, List.set_cons_succ, List.set_cons_zero]
      refine wpMix_nil ?_
      clear hS hcells
      go_wp2
      go_roundw
      case rel => exact ⟨i + 1, c4, A4, by omega, by go_num, rfl, n4, by rw [hd.out]; exact menCells_snoc o4, hb4⟩
      case measure => simp [intOf]; omega
    · have hin : i = n := by omega
      subst hin
      go_wp2
      go_ret
      exact ⟨A1, c1, rfl, hc1, by rw [List.take_of_length_le (by omega)] at ho; exact ho, hbl⟩
theorem eql_men (t : Men) (w : World) : Sem.run Tryz.prog (binOp .eql 96 (.agg #[.int .i64 t.lo, .int .i64 t.hi, .string t.name, .string t.pref]) (.agg #[.int .i64 t.lo, .int .i64 t.hi, .string t.name, .string t.pref])) w = .ok (.bool true) w := by
  have u3 := Tryz.underlying9
  have u4 := Tryz.underlying3
  have hS : Tryz.prog.underlying 96 = some (.struct (Tryz.prog.fieldsOf 96)) := by kernel_rfl
  have hp : Tryz.prog.stoodInHeld 96 = false := by kernel_rfl
  rw [run_eql_struct, show (10000 : Nat) = 9999 + 1 from rfl, run_equalIn_agg w 9999 96 _ _ hS hp]
  simp only [Program.fieldsOf, Tryz.underlying96]
  go_simp
theorem neq_men (t : Men) (w : World) : Sem.run Tryz.prog (binOp .neq 96 (.agg #[.int .i64 t.lo, .int .i64 t.hi, .string t.name, .string t.pref]) (.agg #[.int .i64 t.lo, .int .i64 t.hi, .string t.name, .string t.pref])) w = .ok (.bool false) w := by
  have h := eql_men t w
  rw [run_eql_struct] at h
  rw [run_neq_struct]
  revert h
  cases (Op.equalIn 10000 96 (.agg #[.int .i64 t.lo, .int .i64 t.hi, .string t.name, .string t.pref]) (.agg #[.int .i64 t.lo, .int .i64 t.hi, .string t.name, .string t.pref])).run Tryz.prog w <;> simp [Result.andThen]
  all_goals (intro h; first | (intro h2; subst h2; simp_all) | simp_all)
set_option maxRecDepth 20000 in
set_option maxHeartbeats 1000000 in
theorem sameM_any (A B : Option Addr) (n c d : Nat) (L : List Men) (w : World) (hm : n ≤ 1000000) (hn : L.length = n) (ha : Rds w A (menCells L)) (hb : Rds w B (menCells L)) :
    Calls Tryz.prog 25 #[.slice A n c, .slice B n d] w fun e w' => e = .returned (.bool true) ∧ Below w.heap.size w w' := by
  go_enter Tryz.func25, Tryz.ntmps25
  go_wp2
  go_loopw [5] (fun i wr => ∃ k : Nat, k ≤ n ∧ i = .int .i64 k ∧ Below w.heap.size w wr) (fun i _ => n - (intOf i).toNat)
  case atStart => exact ⟨0, by omega, rfl, brefl⟩
  case round =>
    obtain ⟨k, hk, rfl, hbl⟩ := hrel
    by_cases hlt : k < n
    · obtain ⟨t, ht⟩ : ∃ t, L[k]? = some t := ⟨_, List.getElem?_eq_getElem (by omega)⟩
      obtain ⟨b, off, rfl, hb0, d1, d2, d3, d4⟩ := men_at (ha.below hbl) ht
      obtain ⟨b', off', rfl, hb0', e1, e2, e3, e4⟩ := men_at (hb.below hbl) ht
      have hlt' : (k : Int) < n := by omega
      have he := neq_men t
      clear ht
      go_wp2
      go_quiet (fail)
      go_wp2
      go_roundw
      case rel => exact ⟨k + 1, by omega, by go_num, hbl.drn _⟩
      case measure => simp [intOf]; omega
    · have hlt' : ¬ (k : Int) < n := by omega
      go_wp2
      go_ret
      exact ⟨rfl, hbl⟩
/-- the terms of the examples -/
abbrev exMs (r : Nat) : List TM := [⟨⟨eAnna, 0, 0, ⟨#[]⟩, []⟩, none, 0, 0⟩, ⟨⟨eAnnaKing, 0, 0, eAnna, []⟩, none, 0, 0⟩, ⟨⟨eKing, 0, 0, ⟨#[]⟩, [eRuler]⟩, some ⟨r, 0, none⟩, 1, 1⟩, ⟨⟨eRuler, 0, 0, ⟨#[]⟩, []⟩, none, 0, 0⟩]
abbrev exMs2 : List TM := [⟨⟨eKing, 0, 0, ⟨#[]⟩, []⟩, none, 0, 0⟩, ⟨⟨eAnna, 0, 0, ⟨#[]⟩, []⟩, none, 0, 0⟩]
theorem tm_ok {w : World} {m : TM} (h : m.small) (h1 : m.t.kind = 0) (h2 : m.t.lang = 0) (h3 : m.n ≤ m.c) (h4 : m.n ≤ 100) (hb : Strs w m.A m.n m.t.broader) : m.ok w := by
  have hmx : (1000 : Nat) ≤ maxLen := by decide
  exact ⟨Nat.le_trans h.nm hmx, Nat.le_trans h.se hmx, by rw [h1]; unfold i64ok; omega, by rw [h2]; unfold i64ok; omega, h3, h4, hb⟩
theorem exMs_small (r : Nat) : ∀ m ∈ exMs r, m.small := by
  intro m hm
  have h1 : eAnna.size ≤ 1000 ∧ eAnnaKing.size ≤ 1000 ∧ eKing.size ≤ 1000 ∧ eRuler.size ≤ 1000 ∧ (⟨#[]⟩ : S).size ≤ 1000 := by decide
  simp only [exMs, List.mem_cons, List.not_mem_nil, or_false] at hm
  rcases hm with rfl | rfl | rfl | rfl
  · exact ⟨h1.1, h1.2.2.2.2, fun x hx => by cases hx⟩
  · exact ⟨h1.2.1, h1.1, fun x hx => by cases hx⟩
  · exact ⟨h1.2.2.1, h1.2.2.2.2, fun x hx => by
      have : x = eRuler := by simpa using hx
      rw [this]; exact h1.2.2.2.1⟩
  · exact ⟨h1.2.2.2.1, h1.2.2.2.2, fun x hx => by cases hx⟩
theorem exMs2_small : ∀ m ∈ exMs2, m.small := by
  intro m hm
  simp only [exMs2, List.mem_cons, List.not_mem_nil, or_false] at hm
  rcases hm with rfl | rfl
  · exact ⟨by decide, by decide, by decide⟩
  · exact ⟨by decide, by decide, by decide⟩
set_option maxRecDepth 20000 in
set_option maxHeartbeats 1000000 in
theorem example_any (w : World) : Calls Tryz.prog 73 #[] w fun e w' => ∃ A, e = .returned (.slice A 4 4) ∧ Tms w' A 4 (exMs w.heap.size) ∧ Below w.heap.size w w' := by
  go_enter Tryz.func73, Tryz.ntmps73
  go_wp2
  go_ret
  have h1 : Strs (w.alloc (.cells #[.string eRuler] 9)) (some ⟨w.heap.size, 0, none⟩) 1 [eRuler] := Strs.lit w #[.string eRuler] 9 [eRuler] 1 rfl rfl (by decide)
  refine ⟨_, rfl, ⟨rfl, ?_, ?_⟩, (brefl.al _).al _⟩
  · intro m hm
    have hs := exMs_small w.heap.size m hm
    simp only [exMs, List.mem_cons, List.not_mem_nil, or_false] at hm
    rcases hm with rfl | rfl | rfl | rfl
    · exact tm_ok hs rfl rfl (Nat.le_refl _) (by decide) (Strs.nil _)
    · exact tm_ok hs rfl rfl (Nat.le_refl _) (by decide) (Strs.nil _)
    · exact tm_ok hs rfl rfl (Nat.le_refl _) (by show (1 : Nat) ≤ 100; omega) (h1.below (brefl.al _))
    · exact tm_ok hs rfl rfl (Nat.le_refl _) (by decide) (Strs.nil _)
  · have := Rds.lit (w.alloc (.cells #[.string eRuler] 9)) (tmsCells (exMs w.heap.size)).toArray 33
    rw [World.size_alloc] at this
    exact this
theorem terms_ex (r : Nat) : terms (exMs r) = exV := rfl
theorem mentions_ex (lang : Int) (h : mens exV lang (folded eText (toks (byts eText) 0)) 0 = [⟨1, 2, eKing, eKing⟩, ⟨3, 5, eAnnaKing, eAnna⟩, ⟨8, 9, eAnna, eAnna⟩]) : mentions exV eText lang = [⟨1, 2, eKing, eKing⟩, ⟨3, 5, eAnnaKing, eAnna⟩, ⟨8, 9, eAnna, eAnna⟩] := by
  unfold mentions; rw [if_pos (by rw [ex_valid]), h]
theorem ex_add1 : addV exV ⟨eRuler, 0, 0, ⟨#[]⟩, [eKing]⟩ = ([], 13) := by
  unfold addV
  rw [if_pos (by rw [ex_valid]), show addL exV ⟨eRuler, 0, 0, ⟨#[]⟩, [eKing]⟩ = exCyc from by decide +kernel, if_neg (by rw [ex_cyc]; decide), ex_cyc]
theorem ex_add2 : addV exV ⟨eQueen, 0, 0, eAnnaKing, []⟩ = ([], 12) := by
  unfold addV
  rw [if_pos (by rw [ex_valid]), show addL exV ⟨eQueen, 0, 0, eAnnaKing, []⟩ = exTyp from by decide +kernel, if_neg (by rw [ex_typ]; decide), ex_typ]
theorem ex_below : belowOf exV eRuler = [eKing] := by
  unfold belowOf
  rw [if_pos (by rw [ex_valid]), List.filter_congr (q := fun t => Rf.has (exU t.name) eRuler) (fun t ht => by rw [exV_up t ht])]
  decide +kernel
theorem ex_above : aboveOf exV eKing = [eRuler] := by
  unfold aboveOf
  rw [if_pos (by rw [ex_valid]; rfl), ex_king]
theorem ex_namesOf : namesOf exV eText 2 = [eAnna, eKing] := by
  unfold namesOf
  rw [mentions_ex 2 (by rw [ex_words]; decide +kernel)]
  exact ex_names
theorem exT1_small (A : Option Addr) (n c : Nat) : (⟨⟨eRuler, 0, 0, ⟨#[]⟩, [eKing]⟩, A, n, c⟩ : TM).small := by
  have h1 : eKing.size ≤ 1000 ∧ eRuler.size ≤ 1000 ∧ (⟨#[]⟩ : S).size ≤ 1000 := by decide
  exact ⟨h1.2.1, h1.2.2, fun x hx => by
    have : x = eKing := by simpa using hx
    rw [this]; exact h1.1⟩
abbrev exW : List Men := [⟨1, 2, eKing, eKing⟩, ⟨3, 5, eAnnaKing, eAnna⟩, ⟨8, 9, eAnna, eAnna⟩]
set_option maxRecDepth 20000 in
set_option maxHeartbeats 4000000 in
theorem lives_any (w : World) (hr : Rdy w) : Calls Tryz.prog 14 #[] w fun e w' => e = .returned (.bool true) ∧ Below w.heap.size w w' := by
  go_enter Tryz.func14, Tryz.ntmps14
  go_wp2_with fail
  refine (example_any w).mono ?_
  rintro e w1 ⟨A, rfl, hT, b1⟩
  have hs := exMs_small w.heap.size
  have hr1 := hr.below b1
  go_wp2_with fail
  refine (mentions_any A 4 4 _ eText 0 w1 (by omega) hr1 hT (by decide)).mono ?_
  rintro e w2 ⟨A2, k2, c2, rfl, hc2, hk2, hl2, ho2, b2⟩
  rw [terms_ex, mentions_ex 0 ex_mens] at hl2 ho2
  obtain rfl : k2 = 3 := hl2.symm
  have R2 := ho2.reads
  go_wp2_with fail
  have HT := Lib.hid hT
  have HS := Lib.hid hs
  have W0 := Rds.lit w2 (menCells exW).toArray 96
  have K0 : Strs ((w2.alloc (.cells (menCells exW).toArray 96)).alloc (.cells #[.string eKing] 9)) (some ⟨(w2.alloc (.cells (menCells exW).toArray 96)).heap.size, 0, none⟩) 1 [eKing] := Strs.lit _ #[.string eKing] 9 [eKing] 1 rfl rfl (by decide)
  rw [World.size_alloc] at K0
  have b3 : Below w2.heap.size w2 ((w2.alloc (.cells (menCells exW).toArray 96)).alloc (.cells #[.string eKing] 9)) := (brefl.al _).al _
  have W1 := W0.below (brefl.al (.cells #[.string eKing] 9))
  refine (add_any A 4 4 _ ⟨⟨eRuler, 0, 0, ⟨#[]⟩, [eKing]⟩, some ⟨w2.heap.size + 1, 0, none⟩, 1, 1⟩ _ (by omega) (hr1.below (b2.tr b3)) (HT.out.below (b2.tr b3)) HS.out (tm_ok (exT1_small _ _ _) rfl rfl (Nat.le_refl _) (by show (1 : Nat) ≤ 100; omega) K0) (exT1_small _ _ _)).mono ?_
  rintro e w4 ⟨A4, k4, c4, ms4, rfl, -, -, -, -, -, b4⟩
  rw [terms_ex, ex_add1]
  have b14 := b2.tr (b3.tr b4)
  have W4 := W1.below b4
  clear K0 W0 W1
  go_wp2_with fail
  refine (add_any A 4 4 _ ⟨⟨eQueen, 0, 0, eAnnaKing, []⟩, none, 0, 0⟩ _ (by omega) (hr1.below b14) (HT.out.below b14) HS.out (tm_ok ⟨(by decide : eQueen.size ≤ 1000), (by decide : eAnnaKing.size ≤ 1000), (fun x hx => by cases hx)⟩ rfl rfl (Nat.le_refl _) (Nat.zero_le _) (Strs.nil _)) ⟨(by decide : eQueen.size ≤ 1000), (by decide : eAnnaKing.size ≤ 1000), (fun x hx => by cases hx)⟩).mono ?_
  rintro e w5 ⟨A5, k5, c5, ms5, rfl, -, -, -, -, -, b5⟩
  rw [terms_ex, ex_add2]
  go_wp2_with fail
  have b6 : Below w5.heap.size w5 (w5.alloc (.cells (tmsCells exMs2).toArray 33)) := brefl.al _
  have b16 := b14.tr (b5.tr b6)
  have T6 : Tms (w5.alloc (.cells (tmsCells exMs2).toArray 33)) (some ⟨w5.heap.size, 0, none⟩) 2 exMs2 := ⟨rfl, fun m hm => by
    have hs2 := exMs2_small m hm
    simp only [exMs2, List.mem_cons, List.not_mem_nil, or_false] at hm
    rcases hm with rfl | rfl
    · exact tm_ok hs2 rfl rfl (Nat.le_refl _) (Nat.zero_le _) (Strs.nil _)
    · exact tm_ok hs2 rfl rfl (Nat.le_refl _) (Nat.zero_le _) (Strs.nil _), Rds.lit w5 (tmsCells exMs2).toArray 33⟩
  refine (vvalid_any (some ⟨w5.heap.size, 0, none⟩) 2 2 exMs2 _ (by omega) (hr1.below b16) T6).mono ?_
  rw [show vvalid (terms exMs2) = (1, 7) from ex_two]
  rintro e w7 ⟨rfl, b7⟩
  have b17 := b16.tr b7
  go_wp2_with fail
  refine (plain_any A2 3 c2 exW w7 (by omega) rfl (R2.below (((b3.tr b4).tr (b5.tr b6)).tr b7))).mono ?_
  rintro e w8 ⟨A8, c8, rfl, hc8, ho8, b8⟩
  go_wp2_with fail
  refine (sameM_any A8 _ 3 c8 3 exW w8 (by omega) rfl ho8.reads (W4.below (((b5.tr b6).tr b7).tr b8))).mono ?_
  rintro e w9 ⟨rfl, b9⟩
  have b19 := b17.tr (b8.tr b9)
  go_wp2_with fail
  refine (vnames_any A 4 4 _ eText 2 w9 (by omega) (hr1.below b19) (HT.out.below b19) (by decide)).mono ?_
  rintro e w10 ⟨A10, k10, c10, rfl, hc10, hk10, s10, b10⟩
  rw [terms_ex, ex_namesOf] at s10
  obtain rfl : k10 = 2 := s10.1.symm
  go_wp2_with fail
  have L1 : Strs (w10.alloc (.cells #[.string eAnna, .string eKing] 9)) (some ⟨w10.heap.size, 0, none⟩) 2 [eAnna, eKing] := Strs.lit w10 _ 9 _ 2 rfl rfl (by decide)
  refine (sameTexts_any _ _ 2 _ _ _ _ (by omega) (s10.below (brefl.al _)) L1).mono ?_
  rintro e w11 ⟨rfl, b11⟩
  have b111 := b19.tr (b10.tr ((brefl.al _).tr b11))
  go_wp2_with fail
  refine (aboveOf_any A 4 4 _ eKing w11 (by omega) (hr1.below b111) (HT.out.below b111)).mono ?_
  rintro e w12 ⟨A12, k12, c12, rfl, hk12, s12, b12⟩
  rw [terms_ex, ex_above] at s12
  obtain rfl : k12 = 1 := s12.1.symm
  go_wp2_with fail
  have L2 : Strs (w12.alloc (.cells #[.string eRuler] 9)) (some ⟨w12.heap.size, 0, none⟩) 1 [eRuler] := Strs.lit w12 _ 9 _ 1 rfl rfl (by decide)
  refine (sameTexts_any _ _ 1 _ _ _ _ (by omega) (s12.below (brefl.al _)) L2).mono ?_
  rintro e w13 ⟨rfl, b13⟩
  have b113 := b111.tr (b12.tr ((brefl.al _).tr b13))
  go_wp2_with fail
  refine (below_any A 4 4 _ eRuler w13 (by omega) (hr1.below b113) (HT.out.below b113)).mono ?_
  rintro e w14 ⟨A14, k14, c14, rfl, hc14, hk14, s14, b14'⟩
  rw [terms_ex, ex_below] at s14
  obtain rfl : k14 = 1 := s14.1.symm
  go_wp2_with fail
  have L3 : Strs (w14.alloc (.cells #[.string eKing] 9)) (some ⟨w14.heap.size, 0, none⟩) 1 [eKing] := Strs.lit w14 _ 9 _ 1 rfl rfl (by decide)
  refine (sameTexts_any _ _ 1 _ _ _ _ (by omega) (s14.below (brefl.al _)) L3).mono ?_
  rintro e w15 ⟨rfl, b15⟩
  have b115 := b113.tr (b14'.tr ((brefl.al _).tr b15))
  go_wp2_with fail
  refine (aliases_any A 4 4 _ eAnna w15 (by omega) (hr1.below b115) (HT.out.below b115)).mono ?_
  rintro e w16 ⟨A16, k16, c16, rfl, hc16, hk16, s16, b16'⟩
  rw [terms_ex, ex_alias] at s16
  obtain rfl : k16 = 1 := s16.1.symm
  go_wp2_with fail
  have L4 : Strs (w16.alloc (.cells #[.string eAnnaKing] 9)) (some ⟨w16.heap.size, 0, none⟩) 1 [eAnnaKing] := Strs.lit w16 _ 9 _ 1 rfl rfl (by decide)
  refine (sameTexts_any _ _ 1 _ _ _ _ (by omega) (s16.below (brefl.al _)) L4).mono ?_
  rintro e w17 ⟨rfl, b17'⟩
  have b117 := b115.tr (b16'.tr ((brefl.al _).tr b17'))
  go_wp2
  go_ret
  exact ⟨rfl, b1.tr b117⟩
end Go.Proofs.YtdfnfimajhagfaaGreatDoor
