/- Walk: Check of the reference model. -/
import Derived.Test.YtdeeflbghhajiaaW9
import Derived.Test.YtdeeflbghhajiaaFew
import Derived.Deep.RegionWith
namespace Go.Proofs.Ytdeeflbghhajiaa
open Go.RowKit Go.Maps Rf
def prevOf (left : List Int) : Nat → Option Int
  | 0 => none
  | k + 1 => left[k]?
theorem badLeft_cons (n : Nat) (k : Int) (ks : List Int) (p : Option Int) : badLeft n (k :: ks) p = (k < 0 || (n : Int) ≤ k || (match p with | none => false | some q => k ≤ q) || badLeft n ks (some k)) := rfl
theorem badLeft_range {n : Nat} : ∀ {left : List Int} {p : Option Int}, badLeft n left p = false → ∀ k ∈ left, 0 ≤ k ∧ k < n
  | [], _, _, k, hk => by cases hk
  | x :: ks, p, h, k, hk => by
    rw [badLeft_cons] at h
    simp only [Bool.or_eq_false_iff, decide_eq_false_iff_not] at h
    obtain ⟨⟨⟨h1, h2⟩, _⟩, h4⟩ := h
    rcases List.mem_cons.1 hk with rfl | hk
    · omega
    · exact badLeft_range h4 k hk
theorem badDead_cons (x y : S) (l : List S) : badDead (x :: y :: l) = (!ltS x y || badDead (y :: l)) := rfl
theorem badDead_short : ∀ {l : List S}, l.length ≤ 1 → badDead l = false
  | [], _ => rfl
  | [_], _ => rfl
  | _ :: _ :: _, h => by simp at h
theorem check_arg {l : List Ref} {heads : List S} {left : List Int} {dead : List S} (h : badLeft l.length left none = true ∨ badDead dead = true) : check l heads left dead = 1 := by
  unfold check
  rw [if_pos (by rcases h with h | h <;> simp [h])]; rfl
section
variable {l : List Ref} {heads : List S} {left : List Int} {dead : List S} (h1 : badLeft l.length left none = false) (h2 : badDead dead = false)
include h1 h2
theorem check_valid {v : Int} (hv : (valid (without l left) heads).2 = v) (h3 : ¬ v = 0) : check l heads left dead = v := by
  unfold check
  rw [if_neg (by simp [h1, h2])]
  simp only
  rw [if_pos (by rw [hv]; simpa [eOK] using h3), hv]
theorem check_heads (h3 : (valid (without l left) heads).2 = 0) (h4 : dead.any (has heads) = true) : check l heads left dead = 17 := by
  unfold check
  rw [if_neg (by simp [h1, h2])]
  simp only
  rw [if_neg (by rw [h3]; decide), if_pos h4]; rfl
theorem check_refs (h3 : (valid (without l left) heads).2 = 0) (h4 : dead.any (has heads) = false) (h5 : l.any (ckRef l (without l left) heads dead) = true) : check l heads left dead = 17 := by
  unfold check
  rw [if_neg (by simp [h1, h2])]
  simp only
  rw [if_neg (by rw [h3]; decide), if_neg (by simp [h4]), if_pos h5]; rfl
theorem check_left (h3 : (valid (without l left) heads).2 = 0) (h4 : dead.any (has heads) = false) (h5 : l.any (ckRef l (without l left) heads dead) = false) {b : Bool} (h6 : left.any (ckLeft l heads) = b) : check l heads left dead = if b then 17 else 0 := by
  unfold check
  rw [if_neg (by simp [h1, h2])]
  simp only
  rw [if_neg (by rw [h3]; decide), if_neg (by simp [h4]), if_neg (by simp [h5]), h6]; rfl
end
theorem any_drop' {α : Type} {p : α → Bool} {l : List α} {k : Nat} {x : α} (h : l[k]? = some x) : (l.drop k).any p = (p x || (l.drop (k + 1)).any p) := by rw [drop_get h]; rfl
set_option maxRecDepth 20000 in
set_option maxHeartbeats 8000000 in
theorem check_ref (A B C D : Option Addr) (n m m2 m3 c d c2 c3 : Nat) (l : List Ref) (heads : List S) (left : List Int) (dead : List S) (w : World) (hm : n ≤ 10000) (hmh : m ≤ 10000) (hm2 : m2 ≤ 100000) (hm3 : m3 ≤ 100000)
    (hl : Refs w A n l) (hh : Strs w B m heads) (hlf : Ints w C m2 left) (hdd : Strs w D m3 dead) :
    Calls Try.prog 24 #[.slice A n c, .slice B m d, .slice C m2 c2, .slice D m3 c3] w fun e w' => e = .returned (.int .i64 (check l heads left dead)) ∧ Below w.heap.size w w' := by
  have HN := Lib.hid hl.1
  go_enter Try.func24, Try.ntmps24
  go_wp2
  go_loopw [9] (fun ii wr => ∃ i : Nat, i ≤ m2 ∧ ii = .int .i64 i ∧ Hid (badLeft n left none = badLeft n (left.drop i) (prevOf left i)) ∧ Below w.heap.size w wr) (fun ii _ => m2 - (intOf ii).toNat)
  case atStart => exact ⟨0, by omega, rfl, rfl, brefl⟩
  case round =>
    obtain ⟨i, hi, rfl, hr, hbl⟩ := hrel
    by_cases hlt : i < m2
    · obtain ⟨b, off, x, rfl, hx, hxok, hb0, hcx⟩ := hlf.at_ hlt
      have hd := Lib.hid (drop_get hx)
      have hlti : (i : Int) < m2 := by omega
      have HX := Lib.hid hx
      have hS1 : wr.drew.cell? ⟨b, off + i, none⟩ = some (.int .i64 x) := (hbl.cell (p := ⟨b, off + i, none⟩) hb0).trans hcx
      have hbd : Below w.heap.size w wr.drew := hbl.drn 1
      clear hx
      by_cases hx0 : x < 0
      · have hfin := Lib.hid (check_arg (heads := heads) (dead := dead) (.inl (show badLeft l.length left none = true from by rw [HN.out, hr.out, hd.out, badLeft_cons]; simp [hx0])))
        have hS := hS1
        go_wp2
        refine wp_region_mix [(true, 0), (true, 1), (true, 2), (true, 3), (true, 4), (true, 5), (true, 6), (true, 7), (true, 8), (true, 9), (true, 10), (true, 11), (true, 12), (true, 13), (true, 14), (true, 15), (true, 16), (true, 17), (true, 18), (true, 19), (true, 20), (true, 21), (true, 22), (true, 23), (true, 24), (true, 25), (true, 26), (true, 27), (true, 28), (true, 29), (true, 30)] 31 (fun wz => wz.cell? ⟨b, off + i, none⟩ = some (.int .i64 x)) (by kernel_rfl) (by kernel_rfl) ?_
        refine wpMix_put (v := ?_) rfl rfl (Or.inl ⟨by rfl, fun wz hz => ?_⟩) hS ?_
        rotate_left
        (focus (go_simp; try (with_reducible rfl)))
        simp only [List.setIfInBounds_toArray, List.set_cons_succ, List.set_cons_zero]
        refine wpMix_put (v := ?_) rfl rfl (Or.inl ⟨by rfl, fun wz hz => ?_⟩) hS ?_
        rotate_left
        (focus (go_simp; try (with_reducible rfl)))
        simp only [List.setIfInBounds_toArray, List.set_cons_succ, List.set_cons_zero]
        refine wpMix_put (v := ?_) rfl rfl (Or.inl ⟨by rfl, fun wz hz => ?_⟩) hS ?_
        rotate_left
        (focus (go_simp; try (with_reducible rfl)))
        simp only [List.setIfInBounds_toArray, List.set_cons_succ, List.set_cons_zero]
        refine wpMix_put (v := ?_) rfl rfl (Or.inl ⟨by rfl, fun wz hz => ?_⟩) hS ?_
        rotate_left
        (focus (go_simp; try (with_reducible rfl)))
        simp only [List.setIfInBounds_toArray, List.set_cons_succ, List.set_cons_zero]
        refine wpMix_put (v := ?_) rfl rfl (Or.inl ⟨by rfl, fun wz hz => ?_⟩) hS ?_
        rotate_left
        (focus (go_simp; try (with_reducible rfl)))
        simp only [List.setIfInBounds_toArray, List.set_cons_succ, List.set_cons_zero]
        refine wpMix_put (v := ?_) rfl rfl (Or.inl ⟨by rfl, fun wz hz => ?_⟩) hS ?_
        rotate_left
        (focus (go_simp; try (with_reducible rfl)))
        simp only [List.setIfInBounds_toArray, List.set_cons_succ, List.set_cons_zero]
        refine wpMix_put (v := undef) rfl rfl (Or.inr ⟨by rfl, rfl⟩) hS ?_
        simp only [List.setIfInBounds_toArray, List.set_cons_succ, List.set_cons_zero]
        refine wpMix_put (v := undef) rfl rfl (Or.inr ⟨by rfl, rfl⟩) hS ?_
        simp only [List.setIfInBounds_toArray, List.set_cons_succ, List.set_cons_zero]
        refine wpMix_put (v := undef) rfl rfl (Or.inr ⟨by rfl, rfl⟩) hS ?_
        simp only [List.setIfInBounds_toArray, List.set_cons_succ, List.set_cons_zero]
        refine wpMix_put (v := undef) rfl rfl (Or.inr ⟨by rfl, rfl⟩) hS ?_
        simp only [List.setIfInBounds_toArray, List.set_cons_succ, List.set_cons_zero]
        refine wpMix_put (v := undef) rfl rfl (Or.inr ⟨by rfl, rfl⟩) hS ?_
        simp only [List.setIfInBounds_toArray, List.set_cons_succ, List.set_cons_zero]
        refine wpMix_put (v := undef) rfl rfl (Or.inr ⟨by rfl, rfl⟩) hS ?_
        simp only [List.setIfInBounds_toArray, List.set_cons_succ, List.set_cons_zero]
        refine wpMix_put (v := undef) rfl rfl (Or.inr ⟨by rfl, rfl⟩) hS ?_
        simp only [List.setIfInBounds_toArray, List.set_cons_succ, List.set_cons_zero]
        refine wpMix_put (v := ?_) rfl rfl (Or.inl ⟨by rfl, fun wz hz => ?_⟩) hS ?_
        rotate_left
        (focus (go_simp; try (with_reducible rfl)))
        simp only [List.setIfInBounds_toArray, List.set_cons_succ, List.set_cons_zero]
        refine wpMix_put (v := ?_) rfl rfl (Or.inl ⟨by rfl, fun wz hz => ?_⟩) hS ?_
        rotate_left
        (focus (go_simp; try (with_reducible rfl)))
        simp only [List.setIfInBounds_toArray, List.set_cons_succ, List.set_cons_zero]
        refine wpMix_put (v := undef) rfl rfl (Or.inr ⟨by rfl, rfl⟩) hS ?_
        simp only [List.setIfInBounds_toArray, List.set_cons_succ, List.set_cons_zero]
        refine wpMix_put (v := undef) rfl rfl (Or.inr ⟨by rfl, rfl⟩) hS ?_
        simp only [List.setIfInBounds_toArray, List.set_cons_succ, List.set_cons_zero]
        refine wpMix_put (v := undef) rfl rfl (Or.inr ⟨by rfl, rfl⟩) hS ?_
        simp only [List.setIfInBounds_toArray, List.set_cons_succ, List.set_cons_zero]
        refine wpMix_put (v := undef) rfl rfl (Or.inr ⟨by rfl, rfl⟩) hS ?_
        simp only [List.setIfInBounds_toArray, List.set_cons_succ, List.set_cons_zero]
        refine wpMix_put (v := undef) rfl rfl (Or.inr ⟨by rfl, rfl⟩) hS ?_
        simp only [List.setIfInBounds_toArray, List.set_cons_succ, List.set_cons_zero]
        refine wpMix_put (v := undef) rfl rfl (Or.inr ⟨by rfl, rfl⟩) hS ?_
        simp only [List.setIfInBounds_toArray, List.set_cons_succ, List.set_cons_zero]
        refine wpMix_put (v := undef) rfl rfl (Or.inr ⟨by rfl, rfl⟩) hS ?_
        simp only [List.setIfInBounds_toArray, List.set_cons_succ, List.set_cons_zero]
        refine wpMix_put (v := undef) rfl rfl (Or.inr ⟨by rfl, rfl⟩) hS ?_
        simp only [List.setIfInBounds_toArray, List.set_cons_succ, List.set_cons_zero]
        refine wpMix_put (v := undef) rfl rfl (Or.inr ⟨by rfl, rfl⟩) hS ?_
        simp only [List.setIfInBounds_toArray, List.set_cons_succ, List.set_cons_zero]
        refine wpMix_put (v := undef) rfl rfl (Or.inr ⟨by rfl, rfl⟩) hS ?_
        simp only [List.setIfInBounds_toArray, List.set_cons_succ, List.set_cons_zero]
        refine wpMix_put (v := undef) rfl rfl (Or.inr ⟨by rfl, rfl⟩) hS ?_
        simp only [List.setIfInBounds_toArray, List.set_cons_succ, List.set_cons_zero]
        refine wpMix_put (v := undef) rfl rfl (Or.inr ⟨by rfl, rfl⟩) hS ?_
        simp only [List.setIfInBounds_toArray, List.set_cons_succ, List.set_cons_zero]
        refine wpMix_put (v := undef) rfl rfl (Or.inr ⟨by rfl, rfl⟩) hS ?_
        simp only [List.setIfInBounds_toArray, List.set_cons_succ, List.set_cons_zero]
        refine wpMix_put (v := undef) rfl rfl (Or.inr ⟨by rfl, rfl⟩) hS ?_
        simp only [List.setIfInBounds_toArray, List.set_cons_succ, List.set_cons_zero]
        refine wpMix_put (v := undef) rfl rfl (Or.inr ⟨by rfl, rfl⟩) hS ?_
        simp only [List.setIfInBounds_toArray, List.set_cons_succ, List.set_cons_zero]
        refine wpMix_put (v := ?_) rfl rfl (Or.inl ⟨by rfl, fun wz hz => ?_⟩) hS ?_
        rotate_left
        (focus (go_simp; try (with_reducible rfl)))
        simp only [List.setIfInBounds_toArray, List.set_cons_succ, List.set_cons_zero]
        refine wpMix_nil ?_
        go_wp2
        go_ret
        exact ⟨ret_i64 hfin.out.symm, hbd⟩
      · have hx0b : decide (x < 0) = false := by simpa using hx0
        by_cases hxn : (n : Int) ≤ x
        · have hfin := Lib.hid (check_arg (heads := heads) (dead := dead) (.inl (show badLeft l.length left none = true from by rw [HN.out, hr.out, hd.out, badLeft_cons]; simp [hxn])))
          have hS := hS1
          go_wp2
          refine wp_region_mix [(true, 0), (true, 1), (true, 2), (true, 3), (true, 4), (true, 5), (true, 6), (true, 7), (true, 8), (true, 9), (true, 10), (true, 11), (true, 12), (true, 13), (true, 14), (true, 15), (true, 16), (true, 17), (true, 18), (true, 19), (true, 20), (true, 21), (true, 22), (true, 23), (true, 24), (true, 25), (true, 26), (true, 27), (true, 28), (true, 29), (true, 30)] 31 (fun wz => wz.cell? ⟨b, off + i, none⟩ = some (.int .i64 x)) (by kernel_rfl) (by kernel_rfl) ?_
          refine wpMix_put (v := ?_) rfl rfl (Or.inl ⟨by rfl, fun wz hz => ?_⟩) hS ?_
          rotate_left
          (focus (go_simp; try (with_reducible rfl)))
          simp only [List.setIfInBounds_toArray, List.set_cons_succ, List.set_cons_zero]
          refine wpMix_put (v := ?_) rfl rfl (Or.inl ⟨by rfl, fun wz hz => ?_⟩) hS ?_
          rotate_left
          (focus (go_simp; try (with_reducible rfl)))
          simp only [List.setIfInBounds_toArray, List.set_cons_succ, List.set_cons_zero]
          refine wpMix_put (v := ?_) rfl rfl (Or.inl ⟨by rfl, fun wz hz => ?_⟩) hS ?_
          rotate_left
          (focus (go_simp; try (with_reducible rfl)))
          simp only [List.setIfInBounds_toArray, List.set_cons_succ, List.set_cons_zero]
          refine wpMix_put (v := ?_) rfl rfl (Or.inl ⟨by rfl, fun wz hz => ?_⟩) hS ?_
          rotate_left
          (focus (go_simp; try (with_reducible rfl)))
          simp only [List.setIfInBounds_toArray, List.set_cons_succ, List.set_cons_zero]
          refine wpMix_put (v := ?_) rfl rfl (Or.inl ⟨by rfl, fun wz hz => ?_⟩) hS ?_
          rotate_left
          (focus (go_simp; try (with_reducible rfl)))
          simp only [List.setIfInBounds_toArray, List.set_cons_succ, List.set_cons_zero]
          refine wpMix_put (v := ?_) rfl rfl (Or.inl ⟨by rfl, fun wz hz => ?_⟩) hS ?_
          rotate_left
          (focus (go_simp; try (with_reducible rfl)))
          simp only [List.setIfInBounds_toArray, List.set_cons_succ, List.set_cons_zero]
          refine wpMix_put (v := ?_) rfl rfl (Or.inl ⟨by rfl, fun wz hz => ?_⟩) hS ?_
          rotate_left
          (focus (go_simp; try (with_reducible rfl)))
          simp only [List.setIfInBounds_toArray, List.set_cons_succ, List.set_cons_zero]
          refine wpMix_put (v := ?_) rfl rfl (Or.inl ⟨by rfl, fun wz hz => ?_⟩) hS ?_
          rotate_left
          (focus (go_simp; try (with_reducible rfl)))
          simp only [List.setIfInBounds_toArray, List.set_cons_succ, List.set_cons_zero]
          refine wpMix_put (v := ?_) rfl rfl (Or.inl ⟨by rfl, fun wz hz => ?_⟩) hS ?_
          rotate_left
          (focus (go_simp; try (with_reducible rfl)))
          simp only [List.setIfInBounds_toArray, List.set_cons_succ, List.set_cons_zero]
          refine wpMix_put (v := ?_) rfl rfl (Or.inl ⟨by rfl, fun wz hz => ?_⟩) hS ?_
          rotate_left
          (focus (go_simp; try (with_reducible rfl)))
          simp only [List.setIfInBounds_toArray, List.set_cons_succ, List.set_cons_zero]
          refine wpMix_put (v := ?_) rfl rfl (Or.inl ⟨by rfl, fun wz hz => ?_⟩) hS ?_
          rotate_left
          (focus (go_simp; try (with_reducible rfl)))
          simp only [List.setIfInBounds_toArray, List.set_cons_succ, List.set_cons_zero]
          refine wpMix_put (v := ?_) rfl rfl (Or.inl ⟨by rfl, fun wz hz => ?_⟩) hS ?_
          rotate_left
          (focus (go_simp; try (with_reducible rfl)))
          simp only [List.setIfInBounds_toArray, List.set_cons_succ, List.set_cons_zero]
          refine wpMix_put (v := ?_) rfl rfl (Or.inl ⟨by rfl, fun wz hz => ?_⟩) hS ?_
          rotate_left
          (focus (go_simp; try (with_reducible rfl)))
          simp only [List.setIfInBounds_toArray, List.set_cons_succ, List.set_cons_zero]
          refine wpMix_put (v := ?_) rfl rfl (Or.inl ⟨by rfl, fun wz hz => ?_⟩) hS ?_
          rotate_left
          (focus (go_simp; try (with_reducible rfl)))
          simp only [List.setIfInBounds_toArray, List.set_cons_succ, List.set_cons_zero]
          refine wpMix_put (v := ?_) rfl rfl (Or.inl ⟨by rfl, fun wz hz => ?_⟩) hS ?_
          rotate_left
          (focus (go_simp; try (with_reducible rfl)))
          simp only [List.setIfInBounds_toArray, List.set_cons_succ, List.set_cons_zero]
          refine wpMix_put (v := undef) rfl rfl (Or.inr ⟨by rfl, rfl⟩) hS ?_
          simp only [List.setIfInBounds_toArray, List.set_cons_succ, List.set_cons_zero]
          refine wpMix_put (v := undef) rfl rfl (Or.inr ⟨by rfl, rfl⟩) hS ?_
          simp only [List.setIfInBounds_toArray, List.set_cons_succ, List.set_cons_zero]
          refine wpMix_put (v := undef) rfl rfl (Or.inr ⟨by rfl, rfl⟩) hS ?_
          simp only [List.setIfInBounds_toArray, List.set_cons_succ, List.set_cons_zero]
          refine wpMix_put (v := undef) rfl rfl (Or.inr ⟨by rfl, rfl⟩) hS ?_
          simp only [List.setIfInBounds_toArray, List.set_cons_succ, List.set_cons_zero]
          refine wpMix_put (v := undef) rfl rfl (Or.inr ⟨by rfl, rfl⟩) hS ?_
          simp only [List.setIfInBounds_toArray, List.set_cons_succ, List.set_cons_zero]
          refine wpMix_put (v := undef) rfl rfl (Or.inr ⟨by rfl, rfl⟩) hS ?_
          simp only [List.setIfInBounds_toArray, List.set_cons_succ, List.set_cons_zero]
          refine wpMix_put (v := undef) rfl rfl (Or.inr ⟨by rfl, rfl⟩) hS ?_
          simp only [List.setIfInBounds_toArray, List.set_cons_succ, List.set_cons_zero]
          refine wpMix_put (v := undef) rfl rfl (Or.inr ⟨by rfl, rfl⟩) hS ?_
          simp only [List.setIfInBounds_toArray, List.set_cons_succ, List.set_cons_zero]
          refine wpMix_put (v := undef) rfl rfl (Or.inr ⟨by rfl, rfl⟩) hS ?_
          simp only [List.setIfInBounds_toArray, List.set_cons_succ, List.set_cons_zero]
          refine wpMix_put (v := undef) rfl rfl (Or.inr ⟨by rfl, rfl⟩) hS ?_
          simp only [List.setIfInBounds_toArray, List.set_cons_succ, List.set_cons_zero]
          refine wpMix_put (v := undef) rfl rfl (Or.inr ⟨by rfl, rfl⟩) hS ?_
          simp only [List.setIfInBounds_toArray, List.set_cons_succ, List.set_cons_zero]
          refine wpMix_put (v := undef) rfl rfl (Or.inr ⟨by rfl, rfl⟩) hS ?_
          simp only [List.setIfInBounds_toArray, List.set_cons_succ, List.set_cons_zero]
          refine wpMix_put (v := undef) rfl rfl (Or.inr ⟨by rfl, rfl⟩) hS ?_
          simp only [List.setIfInBounds_toArray, List.set_cons_succ, List.set_cons_zero]
          refine wpMix_put (v := undef) rfl rfl (Or.inr ⟨by rfl, rfl⟩) hS ?_
          simp only [List.setIfInBounds_toArray, List.set_cons_succ, List.set_cons_zero]
          refine wpMix_put (v := undef) rfl rfl (Or.inr ⟨by rfl, rfl⟩) hS ?_
          simp only [List.setIfInBounds_toArray, List.set_cons_succ, List.set_cons_zero]
          refine wpMix_put (v := ?_) rfl rfl (Or.inl ⟨by rfl, fun wz hz => ?_⟩) hS ?_
          rotate_left
          (focus (go_simp; try (with_reducible rfl)))
          simp only [List.setIfInBounds_toArray, List.set_cons_succ, List.set_cons_zero]
          refine wpMix_nil ?_
          go_wp2
          go_ret
          exact ⟨ret_i64 hfin.out.symm, hbd⟩
        · cases i with
          | zero =>
            have hnx := Lib.hid (show badLeft n left none = badLeft n (left.drop 1) (prevOf left 1) from by
              rw [hr.out, hd.out, badLeft_cons, show prevOf left 1 = some x from HX.out]; simp [hx0, hxn, prevOf])
            have hxnb : decide ((n : Int) ≤ x) = false := by simpa using hxn
            have hS : wr.drew.cell? ⟨b, off + 0, none⟩ = some (.int .i64 x) := hS1
            simp only [Nat.add_zero] at hS
            simp only [Int.natCast_zero] at hlti ⊢
            go_wp2
            refine wp_region_mix [(true, 0), (true, 1), (true, 2), (true, 3), (true, 4), (true, 5), (true, 6), (true, 7), (true, 8), (true, 9), (true, 10), (true, 11), (true, 12), (true, 13), (true, 14), (true, 15), (true, 16), (true, 17), (true, 18), (true, 19), (true, 20), (true, 21), (true, 22), (true, 23), (true, 24), (true, 25), (true, 26), (true, 27), (true, 28), (true, 29), (true, 30)] 31 (fun wz => wz.cell? ⟨b, off, none⟩ = some (.int .i64 x)) (by kernel_rfl) (by kernel_rfl) ?_
            refine wpMix_put (v := ?_) rfl rfl (Or.inl ⟨by rfl, fun wz hz => ?_⟩) hS ?_
            rotate_left
            (focus (go_simp; try (with_reducible rfl)))
            simp only [List.setIfInBounds_toArray, List.set_cons_succ, List.set_cons_zero]
            refine wpMix_put (v := ?_) rfl rfl (Or.inl ⟨by rfl, fun wz hz => ?_⟩) hS ?_
            rotate_left
            (focus (go_simp; try (with_reducible rfl)))
            simp only [List.setIfInBounds_toArray, List.set_cons_succ, List.set_cons_zero]
            refine wpMix_put (v := ?_) rfl rfl (Or.inl ⟨by rfl, fun wz hz => ?_⟩) hS ?_
            rotate_left
            (focus (go_simp; try (with_reducible rfl)))
            simp only [List.setIfInBounds_toArray, List.set_cons_succ, List.set_cons_zero]
            refine wpMix_put (v := ?_) rfl rfl (Or.inl ⟨by rfl, fun wz hz => ?_⟩) hS ?_
            rotate_left
            (focus (go_simp; try (with_reducible rfl)))
            simp only [List.setIfInBounds_toArray, List.set_cons_succ, List.set_cons_zero]
            refine wpMix_put (v := ?_) rfl rfl (Or.inl ⟨by rfl, fun wz hz => ?_⟩) hS ?_
            rotate_left
            (focus (go_simp; try (with_reducible rfl)))
            simp only [List.setIfInBounds_toArray, List.set_cons_succ, List.set_cons_zero]
            refine wpMix_put (v := ?_) rfl rfl (Or.inl ⟨by rfl, fun wz hz => ?_⟩) hS ?_
            rotate_left
            (focus (go_simp; try (with_reducible rfl)))
            simp only [List.setIfInBounds_toArray, List.set_cons_succ, List.set_cons_zero]
            refine wpMix_put (v := ?_) rfl rfl (Or.inl ⟨by rfl, fun wz hz => ?_⟩) hS ?_
            rotate_left
            (focus (go_simp; try (with_reducible rfl)))
            simp only [List.setIfInBounds_toArray, List.set_cons_succ, List.set_cons_zero]
            refine wpMix_put (v := ?_) rfl rfl (Or.inl ⟨by rfl, fun wz hz => ?_⟩) hS ?_
            rotate_left
            (focus (go_simp; try (with_reducible rfl)))
            simp only [List.setIfInBounds_toArray, List.set_cons_succ, List.set_cons_zero]
            refine wpMix_put (v := ?_) rfl rfl (Or.inl ⟨by rfl, fun wz hz => ?_⟩) hS ?_
            rotate_left
            (focus (go_simp; try (with_reducible rfl)))
            simp only [List.setIfInBounds_toArray, List.set_cons_succ, List.set_cons_zero]
            refine wpMix_put (v := ?_) rfl rfl (Or.inl ⟨by rfl, fun wz hz => ?_⟩) hS ?_
            rotate_left
            (focus (go_simp; try (with_reducible rfl)))
            simp only [List.setIfInBounds_toArray, List.set_cons_succ, List.set_cons_zero]
            refine wpMix_put (v := ?_) rfl rfl (Or.inl ⟨by rfl, fun wz hz => ?_⟩) hS ?_
            rotate_left
            (focus (go_simp; try (with_reducible rfl)))
            simp only [List.setIfInBounds_toArray, List.set_cons_succ, List.set_cons_zero]
            refine wpMix_put (v := ?_) rfl rfl (Or.inl ⟨by rfl, fun wz hz => ?_⟩) hS ?_
            rotate_left
            (focus (go_simp; try (with_reducible rfl)))
            simp only [List.setIfInBounds_toArray, List.set_cons_succ, List.set_cons_zero]
            refine wpMix_put (v := ?_) rfl rfl (Or.inl ⟨by rfl, fun wz hz => ?_⟩) hS ?_
            rotate_left
            (focus (go_simp; try (with_reducible rfl)))
            simp only [List.setIfInBounds_toArray, List.set_cons_succ, List.set_cons_zero]
            refine wpMix_put (v := ?_) rfl rfl (Or.inl ⟨by rfl, fun wz hz => ?_⟩) hS ?_
            rotate_left
            (focus (go_simp; try (with_reducible rfl)))
            simp only [List.setIfInBounds_toArray, List.set_cons_succ, List.set_cons_zero]
            refine wpMix_put (v := ?_) rfl rfl (Or.inl ⟨by rfl, fun wz hz => ?_⟩) hS ?_
            rotate_left
            (focus (go_simp; try (with_reducible rfl)))
            simp only [List.setIfInBounds_toArray, List.set_cons_succ, List.set_cons_zero]
            refine wpMix_put (v := ?_) rfl rfl (Or.inl ⟨by rfl, fun wz hz => ?_⟩) hS ?_
            rotate_left
            (focus (go_simp; try (with_reducible rfl)))
            simp only [List.setIfInBounds_toArray, List.set_cons_succ, List.set_cons_zero]
            refine wpMix_put (v := ?_) rfl rfl (Or.inl ⟨by rfl, fun wz hz => ?_⟩) hS ?_
            rotate_left
            (focus (go_simp; try (with_reducible rfl)))
            simp only [List.setIfInBounds_toArray, List.set_cons_succ, List.set_cons_zero]
            refine wpMix_put (v := ?_) rfl rfl (Or.inl ⟨by rfl, fun wz hz => ?_⟩) hS ?_
            rotate_left
            (focus (go_simp; try (with_reducible rfl)))
            simp only [List.setIfInBounds_toArray, List.set_cons_succ, List.set_cons_zero]
            refine wpMix_put (v := undef) rfl rfl (Or.inr ⟨by rfl, rfl⟩) hS ?_
            simp only [List.setIfInBounds_toArray, List.set_cons_succ, List.set_cons_zero]
            refine wpMix_put (v := undef) rfl rfl (Or.inr ⟨by rfl, rfl⟩) hS ?_
            simp only [List.setIfInBounds_toArray, List.set_cons_succ, List.set_cons_zero]
            refine wpMix_put (v := undef) rfl rfl (Or.inr ⟨by rfl, rfl⟩) hS ?_
            simp only [List.setIfInBounds_toArray, List.set_cons_succ, List.set_cons_zero]
            refine wpMix_put (v := undef) rfl rfl (Or.inr ⟨by rfl, rfl⟩) hS ?_
            simp only [List.setIfInBounds_toArray, List.set_cons_succ, List.set_cons_zero]
            refine wpMix_put (v := undef) rfl rfl (Or.inr ⟨by rfl, rfl⟩) hS ?_
            simp only [List.setIfInBounds_toArray, List.set_cons_succ, List.set_cons_zero]
            refine wpMix_put (v := undef) rfl rfl (Or.inr ⟨by rfl, rfl⟩) hS ?_
            simp only [List.setIfInBounds_toArray, List.set_cons_succ, List.set_cons_zero]
            refine wpMix_put (v := undef) rfl rfl (Or.inr ⟨by rfl, rfl⟩) hS ?_
            simp only [List.setIfInBounds_toArray, List.set_cons_succ, List.set_cons_zero]
            refine wpMix_put (v := undef) rfl rfl (Or.inr ⟨by rfl, rfl⟩) hS ?_
            simp only [List.setIfInBounds_toArray, List.set_cons_succ, List.set_cons_zero]
            refine wpMix_put (v := undef) rfl rfl (Or.inr ⟨by rfl, rfl⟩) hS ?_
            simp only [List.setIfInBounds_toArray, List.set_cons_succ, List.set_cons_zero]
            refine wpMix_put (v := undef) rfl rfl (Or.inr ⟨by rfl, rfl⟩) hS ?_
            simp only [List.setIfInBounds_toArray, List.set_cons_succ, List.set_cons_zero]
            refine wpMix_put (v := undef) rfl rfl (Or.inr ⟨by rfl, rfl⟩) hS ?_
            simp only [List.setIfInBounds_toArray, List.set_cons_succ, List.set_cons_zero]
            refine wpMix_put (v := ?_) rfl rfl (Or.inl ⟨by rfl, fun wz hz => ?_⟩) hS ?_
            rotate_left
            (focus (go_simp; try (with_reducible rfl)))
            simp only [List.setIfInBounds_toArray, List.set_cons_succ, List.set_cons_zero]
            refine wpMix_put (v := ?_) rfl rfl (Or.inl ⟨by rfl, fun wz hz => ?_⟩) hS ?_
            rotate_left
            (focus (go_simp; try (with_reducible rfl)))
            simp only [List.setIfInBounds_toArray, List.set_cons_succ, List.set_cons_zero]
            refine wpMix_nil ?_
            go_wp2
            go_roundw
            case rel => exact ⟨1, by omega, rfl, hnx.out, hbd⟩
            case measure => simp [intOf]; omega
          | succ q =>
            obtain ⟨b', off', y, hA', hy, hyok, hb0', hcy⟩ := hlf.at_ (k := q) (by omega)
            injection hA' with hA'
            injection hA' with hA1 hA2
            subst hA1; subst hA2
            have hS2 : wr.drew.cell? ⟨b, off + (q + 1), none⟩ = some (.int .i64 x) ∧ wr.drew.cell? ⟨b, off + q, none⟩ = some (.int .i64 y) := ⟨hS1, (hbl.cell (p := ⟨b, off + q, none⟩) hb0).trans hcy⟩
            have hpv : prevOf left (q + 1) = some y := hy
            have hxnb : decide ((n : Int) ≤ x) = false := by simpa using hxn
            have hq0 : (0 : Int) ≤ (q : Int) := by omega
            have hq1 : (q : Int) < m2 := by omega
            have hq2 : ¬ (q : Int) < 0 := by omega
            have hq3 : (q : Int) + 1 < m2 := by omega
            have hq4 : (0 : Int) ≤ (q : Int) + 1 := by omega
            have hmax : (if (q : Int) < 0 then (0 : Int) else q) = q := if_neg hq2
            rw [show ((q + 1 : Nat) : Int) = (q : Int) + 1 from rfl] at *
            by_cases hxy : x ≤ y
            · have hfin := Lib.hid (check_arg (heads := heads) (dead := dead) (.inl (show badLeft l.length left none = true from by rw [HN.out, hr.out, hd.out, badLeft_cons, hpv]; simp [hxy])))
              have hxyb : decide (x ≤ y) = true := by simpa using hxy
              have hS := hS2
              clear hy hpv
              go_wp2
              have hwrap := IntWalk.i64_in (q : Int) (by omega)
              refine wp_region_mix [(true, 0), (true, 1), (true, 2), (true, 3), (true, 4), (true, 5), (true, 6), (true, 7), (true, 8), (true, 9), (true, 10), (true, 11), (true, 12), (true, 13), (true, 14), (true, 15), (true, 16), (true, 17), (true, 18), (true, 19), (true, 20), (true, 21), (true, 22), (true, 23), (true, 24), (true, 25), (true, 26), (true, 27), (true, 28), (true, 29), (true, 30)] 31 (fun wz => wz.cell? ⟨b, off + (q + 1), none⟩ = some (.int .i64 x) ∧ wz.cell? ⟨b, off + q, none⟩ = some (.int .i64 y)) (by kernel_rfl) (by kernel_rfl) ?_
              refine wpMix_put (v := ?_) rfl rfl (Or.inl ⟨by rfl, fun wz hz => ?_⟩) hS ?_
              rotate_left
              (focus (go_simp; try (with_reducible rfl)))
              simp only [List.setIfInBounds_toArray, List.set_cons_succ, List.set_cons_zero]
              refine wpMix_put (v := ?_) rfl rfl (Or.inl ⟨by rfl, fun wz hz => ?_⟩) hS ?_
              rotate_left
              (focus (go_simp; try (with_reducible rfl)))
              simp only [List.setIfInBounds_toArray, List.set_cons_succ, List.set_cons_zero]
              refine wpMix_put (v := ?_) rfl rfl (Or.inl ⟨by rfl, fun wz hz => ?_⟩) hS ?_
              rotate_left
              (focus (go_simp; try (with_reducible rfl)))
              simp only [List.setIfInBounds_toArray, List.set_cons_succ, List.set_cons_zero]
              refine wpMix_put (v := ?_) rfl rfl (Or.inl ⟨by rfl, fun wz hz => ?_⟩) hS ?_
              rotate_left
              (focus (go_simp; try (with_reducible rfl)))
              simp only [List.setIfInBounds_toArray, List.set_cons_succ, List.set_cons_zero]
              refine wpMix_put (v := ?_) rfl rfl (Or.inl ⟨by rfl, fun wz hz => ?_⟩) hS ?_
              rotate_left
              (focus (go_simp; try (with_reducible rfl)))
              simp only [List.setIfInBounds_toArray, List.set_cons_succ, List.set_cons_zero]
              refine wpMix_put (v := ?_) rfl rfl (Or.inl ⟨by rfl, fun wz hz => ?_⟩) hS ?_
              rotate_left
              (focus (go_simp; try (with_reducible rfl)))
              simp only [List.setIfInBounds_toArray, List.set_cons_succ, List.set_cons_zero]
              refine wpMix_put (v := ?_) rfl rfl (Or.inl ⟨by rfl, fun wz hz => ?_⟩) hS ?_
              rotate_left
              (focus (go_simp; try (with_reducible rfl)))
              simp only [List.setIfInBounds_toArray, List.set_cons_succ, List.set_cons_zero]
              refine wpMix_put (v := ?_) rfl rfl (Or.inl ⟨by rfl, fun wz hz => ?_⟩) hS ?_
              rotate_left
              (focus (go_simp; try (with_reducible rfl)))
              simp only [List.setIfInBounds_toArray, List.set_cons_succ, List.set_cons_zero]
              refine wpMix_put (v := ?_) rfl rfl (Or.inl ⟨by rfl, fun wz hz => ?_⟩) hS ?_
              rotate_left
              (focus (go_simp; try (with_reducible rfl)))
              simp only [List.setIfInBounds_toArray, List.set_cons_succ, List.set_cons_zero]
              refine wpMix_put (v := ?_) rfl rfl (Or.inl ⟨by rfl, fun wz hz => ?_⟩) hS ?_
              rotate_left
              (focus (go_simp; try (with_reducible rfl)))
              simp only [List.setIfInBounds_toArray, List.set_cons_succ, List.set_cons_zero]
              refine wpMix_put (v := ?_) rfl rfl (Or.inl ⟨by rfl, fun wz hz => ?_⟩) hS ?_
              rotate_left
              (focus (go_simp; try (with_reducible rfl)))
              simp only [List.setIfInBounds_toArray, List.set_cons_succ, List.set_cons_zero]
              refine wpMix_put (v := ?_) rfl rfl (Or.inl ⟨by rfl, fun wz hz => ?_⟩) hS ?_
              rotate_left
              (focus (go_simp; try (with_reducible rfl)))
              simp only [List.setIfInBounds_toArray, List.set_cons_succ, List.set_cons_zero]
              refine wpMix_put (v := ?_) rfl rfl (Or.inl ⟨by rfl, fun wz hz => ?_⟩) hS ?_
              rotate_left
              (focus (go_simp; try (with_reducible rfl)))
              simp only [List.setIfInBounds_toArray, List.set_cons_succ, List.set_cons_zero]
              refine wpMix_put (v := ?_) rfl rfl (Or.inl ⟨by rfl, fun wz hz => ?_⟩) hS ?_
              rotate_left
              (focus (go_simp; try (with_reducible rfl)))
              simp only [List.setIfInBounds_toArray, List.set_cons_succ, List.set_cons_zero]
              refine wpMix_put (v := ?_) rfl rfl (Or.inl ⟨by rfl, fun wz hz => ?_⟩) hS ?_
              rotate_left
              (focus (go_simp; try (with_reducible rfl)))
              simp only [List.setIfInBounds_toArray, List.set_cons_succ, List.set_cons_zero]
              refine wpMix_put (v := ?_) rfl rfl (Or.inl ⟨by rfl, fun wz hz => ?_⟩) hS ?_
              rotate_left
              (focus (go_simp; try (with_reducible rfl)))
              simp only [List.setIfInBounds_toArray, List.set_cons_succ, List.set_cons_zero]
              refine wpMix_put (v := ?_) rfl rfl (Or.inl ⟨by rfl, fun wz hz => ?_⟩) hS ?_
              rotate_left
              (focus (go_simp; try (with_reducible rfl)))
              simp only [List.setIfInBounds_toArray, List.set_cons_succ, List.set_cons_zero]
              refine wpMix_put (v := ?_) rfl rfl (Or.inl ⟨by rfl, fun wz hz => ?_⟩) hS ?_
              rotate_left
              (focus (go_simp; try (with_reducible rfl)))
              simp only [List.setIfInBounds_toArray, List.set_cons_succ, List.set_cons_zero]
              refine wpMix_put (v := ?_) rfl rfl (Or.inl ⟨by rfl, fun wz hz => ?_⟩) hS ?_
              rotate_left
              (focus (go_simp; try (with_reducible rfl)))
              simp only [List.setIfInBounds_toArray, List.set_cons_succ, List.set_cons_zero]
              refine wpMix_put (v := ?_) rfl rfl (Or.inl ⟨by rfl, fun wz hz => ?_⟩) hS ?_
              rotate_left
              (focus (go_simp; try (with_reducible rfl)))
              simp only [List.setIfInBounds_toArray, List.set_cons_succ, List.set_cons_zero]
              refine wpMix_put (v := ?_) rfl rfl (Or.inl ⟨by rfl, fun wz hz => ?_⟩) hS ?_
              rotate_left
              (focus (go_simp; try (with_reducible rfl)))
              simp only [List.setIfInBounds_toArray, List.set_cons_succ, List.set_cons_zero]
              refine wpMix_put (v := ?_) rfl rfl (Or.inl ⟨by rfl, fun wz hz => ?_⟩) hS ?_
              rotate_left
              (focus (go_simp; try (with_reducible rfl)))
              simp only [List.setIfInBounds_toArray, List.set_cons_succ, List.set_cons_zero]
              refine wpMix_put (v := ?_) rfl rfl (Or.inl ⟨by rfl, fun wz hz => ?_⟩) hS ?_
              rotate_left
              (focus (go_simp; try (with_reducible rfl)))
              simp only [List.setIfInBounds_toArray, List.set_cons_succ, List.set_cons_zero]
              refine wpMix_put (v := ?_) rfl rfl (Or.inl ⟨by rfl, fun wz hz => ?_⟩) hS ?_
              rotate_left
              (focus (go_simp; try (with_reducible rfl)))
              simp only [List.setIfInBounds_toArray, List.set_cons_succ, List.set_cons_zero]
              refine wpMix_put (v := ?_) rfl rfl (Or.inl ⟨by rfl, fun wz hz => ?_⟩) hS ?_
              rotate_left
              (focus (go_simp; try (with_reducible rfl)))
              simp only [List.setIfInBounds_toArray, List.set_cons_succ, List.set_cons_zero]
              refine wpMix_put (v := ?_) rfl rfl (Or.inl ⟨by rfl, fun wz hz => ?_⟩) hS ?_
              rotate_left
              (focus (go_simp; try (with_reducible rfl)))
              simp only [List.setIfInBounds_toArray, List.set_cons_succ, List.set_cons_zero]
              refine wpMix_put (v := ?_) rfl rfl (Or.inl ⟨by rfl, fun wz hz => ?_⟩) hS ?_
              rotate_left
              (focus (go_simp; try (with_reducible rfl)))
              simp only [List.setIfInBounds_toArray, List.set_cons_succ, List.set_cons_zero]
              refine wpMix_put (v := ?_) rfl rfl (Or.inl ⟨by rfl, fun wz hz => ?_⟩) hS ?_
              rotate_left
              (focus (go_simp; try (with_reducible rfl)))
              simp only [List.setIfInBounds_toArray, List.set_cons_succ, List.set_cons_zero]
              refine wpMix_put (v := ?_) rfl rfl (Or.inl ⟨by rfl, fun wz hz => ?_⟩) hS ?_
              rotate_left
              (focus (go_simp; try (with_reducible rfl)))
              simp only [List.setIfInBounds_toArray, List.set_cons_succ, List.set_cons_zero]
              refine wpMix_put (v := ?_) rfl rfl (Or.inl ⟨by rfl, fun wz hz => ?_⟩) hS ?_
              rotate_left
              (focus (go_simp; try (with_reducible rfl)))
              simp only [List.setIfInBounds_toArray, List.set_cons_succ, List.set_cons_zero]
              refine wpMix_put (v := ?_) rfl rfl (Or.inl ⟨by rfl, fun wz hz => ?_⟩) hS ?_
              rotate_left
              (focus (go_simp; try (with_reducible rfl)))
              simp only [List.setIfInBounds_toArray, List.set_cons_succ, List.set_cons_zero]
              refine wpMix_nil ?_
              go_wp2
              go_ret
              exact ⟨ret_i64 hfin.out.symm, hbd⟩
            · have hnx := Lib.hid (show badLeft n left none = badLeft n (left.drop (q + 1 + 1)) (prevOf left (q + 1 + 1)) from by
                rw [hr.out, hd.out, badLeft_cons, hpv, show prevOf left (q + 1 + 1) = some x from HX.out]; simp [hx0, hxn, hxy])
              have hxyb : decide (x ≤ y) = false := by simpa using hxy
              have hS := hS2
              clear hy hpv
              go_wp2
              have hwrap := IntWalk.i64_in (q : Int) (by omega)
              refine wp_region_mix [(true, 0), (true, 1), (true, 2), (true, 3), (true, 4), (true, 5), (true, 6), (true, 7), (true, 8), (true, 9), (true, 10), (true, 11), (true, 12), (true, 13), (true, 14), (true, 15), (true, 16), (true, 17), (true, 18), (true, 19), (true, 20), (true, 21), (true, 22), (true, 23), (true, 24), (true, 25), (true, 26), (true, 27), (true, 28), (true, 29), (true, 30)] 31 (fun wz => wz.cell? ⟨b, off + (q + 1), none⟩ = some (.int .i64 x) ∧ wz.cell? ⟨b, off + q, none⟩ = some (.int .i64 y)) (by kernel_rfl) (by kernel_rfl) ?_
              refine wpMix_put (v := ?_) rfl rfl (Or.inl ⟨by rfl, fun wz hz => ?_⟩) hS ?_
              rotate_left
              (focus (go_simp; try (with_reducible rfl)))
              simp only [List.setIfInBounds_toArray, List.set_cons_succ, List.set_cons_zero]
              refine wpMix_put (v := ?_) rfl rfl (Or.inl ⟨by rfl, fun wz hz => ?_⟩) hS ?_
              rotate_left
              (focus (go_simp; try (with_reducible rfl)))
              simp only [List.setIfInBounds_toArray, List.set_cons_succ, List.set_cons_zero]
              refine wpMix_put (v := ?_) rfl rfl (Or.inl ⟨by rfl, fun wz hz => ?_⟩) hS ?_
              rotate_left
              (focus (go_simp; try (with_reducible rfl)))
              simp only [List.setIfInBounds_toArray, List.set_cons_succ, List.set_cons_zero]
              refine wpMix_put (v := ?_) rfl rfl (Or.inl ⟨by rfl, fun wz hz => ?_⟩) hS ?_
              rotate_left
              (focus (go_simp; try (with_reducible rfl)))
              simp only [List.setIfInBounds_toArray, List.set_cons_succ, List.set_cons_zero]
              refine wpMix_put (v := ?_) rfl rfl (Or.inl ⟨by rfl, fun wz hz => ?_⟩) hS ?_
              rotate_left
              (focus (go_simp; try (with_reducible rfl)))
              simp only [List.setIfInBounds_toArray, List.set_cons_succ, List.set_cons_zero]
              refine wpMix_put (v := ?_) rfl rfl (Or.inl ⟨by rfl, fun wz hz => ?_⟩) hS ?_
              rotate_left
              (focus (go_simp; try (with_reducible rfl)))
              simp only [List.setIfInBounds_toArray, List.set_cons_succ, List.set_cons_zero]
              refine wpMix_put (v := ?_) rfl rfl (Or.inl ⟨by rfl, fun wz hz => ?_⟩) hS ?_
              rotate_left
              (focus (go_simp; try (with_reducible rfl)))
              simp only [List.setIfInBounds_toArray, List.set_cons_succ, List.set_cons_zero]
              refine wpMix_put (v := ?_) rfl rfl (Or.inl ⟨by rfl, fun wz hz => ?_⟩) hS ?_
              rotate_left
              (focus (go_simp; try (with_reducible rfl)))
              simp only [List.setIfInBounds_toArray, List.set_cons_succ, List.set_cons_zero]
              refine wpMix_put (v := ?_) rfl rfl (Or.inl ⟨by rfl, fun wz hz => ?_⟩) hS ?_
              rotate_left
              (focus (go_simp; try (with_reducible rfl)))
              simp only [List.setIfInBounds_toArray, List.set_cons_succ, List.set_cons_zero]
              refine wpMix_put (v := ?_) rfl rfl (Or.inl ⟨by rfl, fun wz hz => ?_⟩) hS ?_
              rotate_left
              (focus (go_simp; try (with_reducible rfl)))
              simp only [List.setIfInBounds_toArray, List.set_cons_succ, List.set_cons_zero]
              refine wpMix_put (v := ?_) rfl rfl (Or.inl ⟨by rfl, fun wz hz => ?_⟩) hS ?_
              rotate_left
              (focus (go_simp; try (with_reducible rfl)))
              simp only [List.setIfInBounds_toArray, List.set_cons_succ, List.set_cons_zero]
              refine wpMix_put (v := ?_) rfl rfl (Or.inl ⟨by rfl, fun wz hz => ?_⟩) hS ?_
              rotate_left
              (focus (go_simp; try (with_reducible rfl)))
              simp only [List.setIfInBounds_toArray, List.set_cons_succ, List.set_cons_zero]
              refine wpMix_put (v := ?_) rfl rfl (Or.inl ⟨by rfl, fun wz hz => ?_⟩) hS ?_
              rotate_left
              (focus (go_simp; try (with_reducible rfl)))
              simp only [List.setIfInBounds_toArray, List.set_cons_succ, List.set_cons_zero]
              refine wpMix_put (v := ?_) rfl rfl (Or.inl ⟨by rfl, fun wz hz => ?_⟩) hS ?_
              rotate_left
              (focus (go_simp; try (with_reducible rfl)))
              simp only [List.setIfInBounds_toArray, List.set_cons_succ, List.set_cons_zero]
              refine wpMix_put (v := ?_) rfl rfl (Or.inl ⟨by rfl, fun wz hz => ?_⟩) hS ?_
              rotate_left
              (focus (go_simp; try (with_reducible rfl)))
              simp only [List.setIfInBounds_toArray, List.set_cons_succ, List.set_cons_zero]
              refine wpMix_put (v := ?_) rfl rfl (Or.inl ⟨by rfl, fun wz hz => ?_⟩) hS ?_
              rotate_left
              (focus (go_simp; try (with_reducible rfl)))
              simp only [List.setIfInBounds_toArray, List.set_cons_succ, List.set_cons_zero]
              refine wpMix_put (v := ?_) rfl rfl (Or.inl ⟨by rfl, fun wz hz => ?_⟩) hS ?_
              rotate_left
              (focus (go_simp; try (with_reducible rfl)))
              simp only [List.setIfInBounds_toArray, List.set_cons_succ, List.set_cons_zero]
              refine wpMix_put (v := ?_) rfl rfl (Or.inl ⟨by rfl, fun wz hz => ?_⟩) hS ?_
              rotate_left
              (focus (go_simp; try (with_reducible rfl)))
              simp only [List.setIfInBounds_toArray, List.set_cons_succ, List.set_cons_zero]
              refine wpMix_put (v := ?_) rfl rfl (Or.inl ⟨by rfl, fun wz hz => ?_⟩) hS ?_
              rotate_left
              (focus (go_simp; try (with_reducible rfl)))
              simp only [List.setIfInBounds_toArray, List.set_cons_succ, List.set_cons_zero]
              refine wpMix_put (v := ?_) rfl rfl (Or.inl ⟨by rfl, fun wz hz => ?_⟩) hS ?_
              rotate_left
              (focus (go_simp; try (with_reducible rfl)))
              simp only [List.setIfInBounds_toArray, List.set_cons_succ, List.set_cons_zero]
              refine wpMix_put (v := ?_) rfl rfl (Or.inl ⟨by rfl, fun wz hz => ?_⟩) hS ?_
              rotate_left
              (focus (go_simp; try (with_reducible rfl)))
              simp only [List.setIfInBounds_toArray, List.set_cons_succ, List.set_cons_zero]
              refine wpMix_put (v := ?_) rfl rfl (Or.inl ⟨by rfl, fun wz hz => ?_⟩) hS ?_
              rotate_left
              (focus (go_simp; try (with_reducible rfl)))
              simp only [List.setIfInBounds_toArray, List.set_cons_succ, List.set_cons_zero]
              refine wpMix_put (v := ?_) rfl rfl (Or.inl ⟨by rfl, fun wz hz => ?_⟩) hS ?_
              rotate_left
              (focus (go_simp; try (with_reducible rfl)))
              simp only [List.setIfInBounds_toArray, List.set_cons_succ, List.set_cons_zero]
              refine wpMix_put (v := ?_) rfl rfl (Or.inl ⟨by rfl, fun wz hz => ?_⟩) hS ?_
              rotate_left
              (focus (go_simp; try (with_reducible rfl)))
              simp only [List.setIfInBounds_toArray, List.set_cons_succ, List.set_cons_zero]
              refine wpMix_put (v := ?_) rfl rfl (Or.inl ⟨by rfl, fun wz hz => ?_⟩) hS ?_
              rotate_left
              (focus (go_simp; try (with_reducible rfl)))
              simp only [List.setIfInBounds_toArray, List.set_cons_succ, List.set_cons_zero]
              refine wpMix_put (v := ?_) rfl rfl (Or.inl ⟨by rfl, fun wz hz => ?_⟩) hS ?_
              rotate_left
              (focus (go_simp; try (with_reducible rfl)))
              simp only [List.setIfInBounds_toArray, List.set_cons_succ, List.set_cons_zero]
              refine wpMix_put (v := ?_) rfl rfl (Or.inl ⟨by rfl, fun wz hz => ?_⟩) hS ?_
              rotate_left
              (focus (go_simp; try (with_reducible rfl)))
              simp only [List.setIfInBounds_toArray, List.set_cons_succ, List.set_cons_zero]
              refine wpMix_put (v := ?_) rfl rfl (Or.inl ⟨by rfl, fun wz hz => ?_⟩) hS ?_
              rotate_left
              (focus (go_simp; try (with_reducible rfl)))
              simp only [List.setIfInBounds_toArray, List.set_cons_succ, List.set_cons_zero]
              refine wpMix_put (v := ?_) rfl rfl (Or.inl ⟨by rfl, fun wz hz => ?_⟩) hS ?_
              rotate_left
              (focus (go_simp; try (with_reducible rfl)))
              simp only [List.setIfInBounds_toArray, List.set_cons_succ, List.set_cons_zero]
              refine wpMix_put (v := ?_) rfl rfl (Or.inl ⟨by rfl, fun wz hz => ?_⟩) hS ?_
              rotate_left
              (focus (go_simp; try (with_reducible rfl)))
              simp only [List.setIfInBounds_toArray, List.set_cons_succ, List.set_cons_zero]
              refine wpMix_put (v := ?_) rfl rfl (Or.inl ⟨by rfl, fun wz hz => ?_⟩) hS ?_
              rotate_left
              (focus (go_simp; try (with_reducible rfl)))
              simp only [List.setIfInBounds_toArray, List.set_cons_succ, List.set_cons_zero]
              refine wpMix_nil ?_
              clear hwrap
              go_wp2
              go_roundw
              case rel => exact ⟨q + 1 + 1, by omega, by go_num, hnx.out, hbd⟩
              case measure => simp [intOf]; omega
    · have hbad : badLeft n left none = false := by rw [hr.out, drop_len hlf.1 hlt]; rfl
      have HB := Lib.hid (show badLeft l.length left none = false from by rw [HN.out]; exact hbad)
      have HRG := Lib.hid (badLeft_range hbad)
      clear hbad hr
      go_wp2
      obtain ⟨wo, hwo⟩ : ∃ wo : World, wo = wr := ⟨_, rfl⟩
      subst hwo
      go_loopw [10] (fun jj wz => ∃ q : Nat, q ≤ m3 ∧ jj = .int .i64 ((q : Int) + 1) ∧ Hid (badDead dead = badDead (dead.drop q)) ∧ Below w.heap.size w wz) (fun jj _ => m3 + 1 - (intOf jj).toNat)
      case atStart => exact ⟨0, by omega, rfl, rfl, hbl⟩
      case round =>
        clear hbl
        obtain ⟨q, hq, rfl, hr2, hbl⟩ := hrel
        by_cases hlt2 : q + 1 < m3
        · obtain ⟨b, off, x, rfl, hx, hxs, hb0, hcx⟩ := hdd.at_ (k := q) (by omega)
          obtain ⟨b', off', y, hA', hy, hys, hb0', hcy⟩ := hdd.at_ (k := q + 1) hlt2
          injection hA' with hA'
          injection hA' with hA1 hA2
          subst hA1; subst hA2
          have HD := Lib.hid (show badDead (dead.drop q) = (!ltS x y || badDead (dead.drop (q + 1))) from by rw [drop_get hx, drop_get hy, badDead_cons])
          have hS : wr.drew.cell? ⟨b, off + q, none⟩ = some (.string x) ∧ wr.drew.cell? ⟨b, off + (q + 1), none⟩ = some (.string y) := ⟨(hbl.cell (p := ⟨b, off + q, none⟩) hb0).trans hcx, (hbl.cell (p := ⟨b, off + (q + 1), none⟩) hb0).trans hcy⟩
          have hbd : Below w.heap.size w wr.drew := hbl.drn 1
          have hq1 : (q : Int) + 1 < m3 := by omega
          have hq2 : (q : Int) < m3 := by omega
          have hq3 : (0 : Int) ≤ q := by omega
          have hq4 : (0 : Int) ≤ (q : Int) + 1 := by omega
          clear hx hy
          rcases cmp3 y x with ⟨f1, f2, f3⟩ | ⟨f1, f2, f3⟩ | ⟨f1, f2, f3⟩
          · have hfin := Lib.hid (check_arg (l := l) (left := left) (heads := heads) (.inr (show badDead dead = true from by rw [hr2.out, HD.out, f3]; rfl)))
            go_wp2
            have hwrap := IntWalk.i64_in (q : Int) (by omega)
            refine wp_region_mix [(true, 0), (true, 1), (true, 2), (true, 3), (true, 4), (true, 5), (true, 6), (true, 7), (true, 8), (true, 9)] 10 (fun wz => wz.cell? ⟨b, off + q, none⟩ = some (.string x) ∧ wz.cell? ⟨b, off + (q + 1), none⟩ = some (.string y)) (by kernel_rfl) (by kernel_rfl) ?_
            refine wpMix_put (v := ?_) rfl rfl (Or.inl ⟨by rfl, fun wz hz => ?_⟩) hS ?_
            rotate_left
            (focus (go_simp; try (with_reducible rfl)))
            simp only [List.setIfInBounds_toArray, List.set_cons_succ, List.set_cons_zero]
            refine wpMix_put (v := ?_) rfl rfl (Or.inl ⟨by rfl, fun wz hz => ?_⟩) hS ?_
            rotate_left
            (focus (go_simp; try (with_reducible rfl)))
            simp only [List.setIfInBounds_toArray, List.set_cons_succ, List.set_cons_zero]
            refine wpMix_put (v := ?_) rfl rfl (Or.inl ⟨by rfl, fun wz hz => ?_⟩) hS ?_
            rotate_left
            (focus (go_simp; try (with_reducible rfl)))
            simp only [List.setIfInBounds_toArray, List.set_cons_succ, List.set_cons_zero]
            refine wpMix_put (v := ?_) rfl rfl (Or.inl ⟨by rfl, fun wz hz => ?_⟩) hS ?_
            rotate_left
            (focus (go_simp; try (with_reducible rfl)))
            simp only [List.setIfInBounds_toArray, List.set_cons_succ, List.set_cons_zero]
            refine wpMix_put (v := ?_) rfl rfl (Or.inl ⟨by rfl, fun wz hz => ?_⟩) hS ?_
            rotate_left
            (focus (go_simp; try (with_reducible rfl)))
            simp only [List.setIfInBounds_toArray, List.set_cons_succ, List.set_cons_zero]
            refine wpMix_put (v := ?_) rfl rfl (Or.inl ⟨by rfl, fun wz hz => ?_⟩) hS ?_
            rotate_left
            (focus (go_simp; try (with_reducible rfl)))
            simp only [List.setIfInBounds_toArray, List.set_cons_succ, List.set_cons_zero]
            refine wpMix_put (v := ?_) rfl rfl (Or.inl ⟨by rfl, fun wz hz => ?_⟩) hS ?_
            rotate_left
            (focus (go_simp; try (with_reducible rfl)))
            simp only [List.setIfInBounds_toArray, List.set_cons_succ, List.set_cons_zero]
            refine wpMix_put (v := ?_) rfl rfl (Or.inl ⟨by rfl, fun wz hz => ?_⟩) hS ?_
            rotate_left
            (focus (go_simp; try (with_reducible rfl)))
            simp only [List.setIfInBounds_toArray, List.set_cons_succ, List.set_cons_zero]
            refine wpMix_put (v := ?_) rfl rfl (Or.inl ⟨by rfl, fun wz hz => ?_⟩) hS ?_
            rotate_left
            (focus (go_simp; try (with_reducible rfl)))
            simp only [List.setIfInBounds_toArray, List.set_cons_succ, List.set_cons_zero]
            refine wpMix_put (v := ?_) rfl rfl (Or.inl ⟨by rfl, fun wz hz => ?_⟩) hS ?_
            rotate_left
            (focus (go_simp; try (with_reducible rfl)))
            simp only [List.setIfInBounds_toArray, List.set_cons_succ, List.set_cons_zero]
            refine wpMix_nil ?_
            go_wp2
            go_ret
            exact ⟨ret_i64 hfin.out.symm, hbd⟩
          · have hfin := Lib.hid (check_arg (l := l) (left := left) (heads := heads) (.inr (show badDead dead = true from by rw [hr2.out, HD.out, f3]; rfl)))
            go_wp2
            have hwrap := IntWalk.i64_in (q : Int) (by omega)
            refine wp_region_mix [(true, 0), (true, 1), (true, 2), (true, 3), (true, 4), (true, 5), (true, 6), (true, 7), (true, 8), (true, 9)] 10 (fun wz => wz.cell? ⟨b, off + q, none⟩ = some (.string x) ∧ wz.cell? ⟨b, off + (q + 1), none⟩ = some (.string y)) (by kernel_rfl) (by kernel_rfl) ?_
            refine wpMix_put (v := ?_) rfl rfl (Or.inl ⟨by rfl, fun wz hz => ?_⟩) hS ?_
            rotate_left
            (focus (go_simp; try (with_reducible rfl)))
            simp only [List.setIfInBounds_toArray, List.set_cons_succ, List.set_cons_zero]
            refine wpMix_put (v := ?_) rfl rfl (Or.inl ⟨by rfl, fun wz hz => ?_⟩) hS ?_
            rotate_left
            (focus (go_simp; try (with_reducible rfl)))
            simp only [List.setIfInBounds_toArray, List.set_cons_succ, List.set_cons_zero]
            refine wpMix_put (v := ?_) rfl rfl (Or.inl ⟨by rfl, fun wz hz => ?_⟩) hS ?_
            rotate_left
            (focus (go_simp; try (with_reducible rfl)))
            simp only [List.setIfInBounds_toArray, List.set_cons_succ, List.set_cons_zero]
            refine wpMix_put (v := ?_) rfl rfl (Or.inl ⟨by rfl, fun wz hz => ?_⟩) hS ?_
            rotate_left
            (focus (go_simp; try (with_reducible rfl)))
            simp only [List.setIfInBounds_toArray, List.set_cons_succ, List.set_cons_zero]
            refine wpMix_put (v := ?_) rfl rfl (Or.inl ⟨by rfl, fun wz hz => ?_⟩) hS ?_
            rotate_left
            (focus (go_simp; try (with_reducible rfl)))
            simp only [List.setIfInBounds_toArray, List.set_cons_succ, List.set_cons_zero]
            refine wpMix_put (v := ?_) rfl rfl (Or.inl ⟨by rfl, fun wz hz => ?_⟩) hS ?_
            rotate_left
            (focus (go_simp; try (with_reducible rfl)))
            simp only [List.setIfInBounds_toArray, List.set_cons_succ, List.set_cons_zero]
            refine wpMix_put (v := ?_) rfl rfl (Or.inl ⟨by rfl, fun wz hz => ?_⟩) hS ?_
            rotate_left
            (focus (go_simp; try (with_reducible rfl)))
            simp only [List.setIfInBounds_toArray, List.set_cons_succ, List.set_cons_zero]
            refine wpMix_put (v := ?_) rfl rfl (Or.inl ⟨by rfl, fun wz hz => ?_⟩) hS ?_
            rotate_left
            (focus (go_simp; try (with_reducible rfl)))
            simp only [List.setIfInBounds_toArray, List.set_cons_succ, List.set_cons_zero]
            refine wpMix_put (v := ?_) rfl rfl (Or.inl ⟨by rfl, fun wz hz => ?_⟩) hS ?_
            rotate_left
            (focus (go_simp; try (with_reducible rfl)))
            simp only [List.setIfInBounds_toArray, List.set_cons_succ, List.set_cons_zero]
            refine wpMix_put (v := ?_) rfl rfl (Or.inl ⟨by rfl, fun wz hz => ?_⟩) hS ?_
            rotate_left
            (focus (go_simp; try (with_reducible rfl)))
            simp only [List.setIfInBounds_toArray, List.set_cons_succ, List.set_cons_zero]
            refine wpMix_nil ?_
            go_wp2
            go_ret
            exact ⟨ret_i64 hfin.out.symm, hbd⟩
          · have HD2 := Lib.hid (show badDead dead = badDead (dead.drop (q + 1)) from by rw [hr2.out, HD.out, f3]; rfl)
            go_wp2
            have hwrap := IntWalk.i64_in (q : Int) (by omega)
            refine wp_region_mix [(true, 0), (true, 1), (true, 2), (true, 3), (true, 4), (true, 5), (true, 6), (true, 7), (true, 8), (true, 9)] 10 (fun wz => wz.cell? ⟨b, off + q, none⟩ = some (.string x) ∧ wz.cell? ⟨b, off + (q + 1), none⟩ = some (.string y)) (by kernel_rfl) (by kernel_rfl) ?_
            refine wpMix_put (v := ?_) rfl rfl (Or.inl ⟨by rfl, fun wz hz => ?_⟩) hS ?_
            rotate_left
            (focus (go_simp; try (with_reducible rfl)))
            simp only [List.setIfInBounds_toArray, List.set_cons_succ, List.set_cons_zero]
            refine wpMix_put (v := ?_) rfl rfl (Or.inl ⟨by rfl, fun wz hz => ?_⟩) hS ?_
            rotate_left
            (focus (go_simp; try (with_reducible rfl)))
            simp only [List.setIfInBounds_toArray, List.set_cons_succ, List.set_cons_zero]
            refine wpMix_put (v := ?_) rfl rfl (Or.inl ⟨by rfl, fun wz hz => ?_⟩) hS ?_
            rotate_left
            (focus (go_simp; try (with_reducible rfl)))
            simp only [List.setIfInBounds_toArray, List.set_cons_succ, List.set_cons_zero]
            refine wpMix_put (v := ?_) rfl rfl (Or.inl ⟨by rfl, fun wz hz => ?_⟩) hS ?_
            rotate_left
            (focus (go_simp; try (with_reducible rfl)))
            simp only [List.setIfInBounds_toArray, List.set_cons_succ, List.set_cons_zero]
            refine wpMix_put (v := ?_) rfl rfl (Or.inl ⟨by rfl, fun wz hz => ?_⟩) hS ?_
            rotate_left
            (focus (go_simp; try (with_reducible rfl)))
            simp only [List.setIfInBounds_toArray, List.set_cons_succ, List.set_cons_zero]
            refine wpMix_put (v := ?_) rfl rfl (Or.inl ⟨by rfl, fun wz hz => ?_⟩) hS ?_
            rotate_left
            (focus (go_simp; try (with_reducible rfl)))
            simp only [List.setIfInBounds_toArray, List.set_cons_succ, List.set_cons_zero]
            refine wpMix_put (v := ?_) rfl rfl (Or.inl ⟨by rfl, fun wz hz => ?_⟩) hS ?_
            rotate_left
            (focus (go_simp; try (with_reducible rfl)))
            simp only [List.setIfInBounds_toArray, List.set_cons_succ, List.set_cons_zero]
            refine wpMix_put (v := ?_) rfl rfl (Or.inl ⟨by rfl, fun wz hz => ?_⟩) hS ?_
            rotate_left
            (focus (go_simp; try (with_reducible rfl)))
            simp only [List.setIfInBounds_toArray, List.set_cons_succ, List.set_cons_zero]
            refine wpMix_put (v := ?_) rfl rfl (Or.inl ⟨by rfl, fun wz hz => ?_⟩) hS ?_
            rotate_left
            (focus (go_simp; try (with_reducible rfl)))
            simp only [List.setIfInBounds_toArray, List.set_cons_succ, List.set_cons_zero]
            refine wpMix_put (v := ?_) rfl rfl (Or.inl ⟨by rfl, fun wz hz => ?_⟩) hS ?_
            rotate_left
            (focus (go_simp; try (with_reducible rfl)))
            simp only [List.setIfInBounds_toArray, List.set_cons_succ, List.set_cons_zero]
            refine wpMix_nil ?_
            clear hwrap
            go_wp2
            go_roundw
            case rel => exact ⟨q + 1, by omega, by go_num, HD2.out, hbd⟩
            case measure => simp [intOf]; omega
        · have HDD := Lib.hid (show badDead dead = false from by rw [hr2.out]; exact badDead_short (by rw [List.length_drop, hdd.1]; omega))
          have hq1 : ¬ (q : Int) + 1 < m3 := by omega
          clear hr2
          obtain ⟨v, hv⟩ : ∃ v, (valid (without l left) heads).2 = v := ⟨_, rfl⟩
          have HV := Lib.hid hv
          clear hv
          go_wp2_with fail
          refine (without_any _ _ _ _ _ _ _ _ wr (by omega) (by omega) (hl.below hbl) (hlf.below hbl)).mono ?_
          rintro e w2 ⟨A2, k2, cc2, rfl, hck2, hkn2, hrest, hb2⟩
          go_wp2_with fail
          refine (valid_ref _ _ _ _ _ _ _ _ w2 (by omega) (by omega) hrest (hh.below (hbl.tr hb2))).mono ?_
          rintro e w3 ⟨rfl, hb3⟩
          rw [HV.out]
          have hb23 := hb2.tr hb3
          have hbw := hbl.tr hb23
          have hrest3 := hrest.below hb3
          have hl3 := hl.below hbw
          have hh3 := hh.below hbw
          have hd3 := hdd.below hbw
          by_cases hv0 : v = 0
          · subst hv0
            clear hrest hb2 hb3 hb23 hbl
            go_wp2
            go_loop [14] (fun ii => ∃ i : Nat, i ≤ m3 ∧ ii = .int .i64 i ∧ Hid (dead.any (Rf.has heads) = (dead.drop i).any (Rf.has heads))) (fun ii => m3 - (intOf ii).toNat)
            case atStart => exact ⟨0, by omega, rfl, rfl⟩
            case round =>
              obtain ⟨i3, hi3, rfl, hr3⟩ := hrel
              by_cases hlt3 : i3 < m3
              · obtain ⟨b, off, x, rfl, hx, hxs, hb0, hcx⟩ := hd3.at_ hlt3
                have hd := Lib.hid (any_drop' (p := Rf.has heads) hx)
                clear hx hb0
                cases hit : Rf.has heads x
                · go_wp2_with (go_at_call 30; refine (has_any _ _ _ _ _ _ (by omega) hh3).mono ?_; rintro e w' ⟨rfl, rfl⟩)
                  go_round
                  case rel => exact ⟨i3 + 1, by omega, by go_num, by show _ = _; rw [hr3.out, hd.out, hit]; rfl⟩
                  case measure => simp [intOf]; omega
                · have hfin := Lib.hid (check_heads HB.out HDD.out HV.out (show dead.any (Rf.has heads) = true from by rw [hr3.out, hd.out, hit]; rfl))
                  go_wp2_with (go_at_call 30; refine (has_any _ _ _ _ _ _ (by omega) hh3).mono ?_; rintro e w' ⟨rfl, rfl⟩)
                  go_ret
                  exact ⟨ret_i64 hfin.out.symm, hbw⟩
              · have HH := Lib.hid (show dead.any (Rf.has heads) = false from by rw [hr3.out, drop_len hdd.1 hlt3]; rfl)
                clear hr3
                go_wp2
                go_loop [15] (fun ii => ∃ i : Nat, i ≤ n ∧ ii = .int .i64 i ∧ Hid (l.any (ckRef l (without l left) heads dead) = (l.drop i).any (ckRef l (without l left) heads dead))) (fun ii => n - (intOf ii).toNat)
                case atStart => exact ⟨0, by omega, rfl, rfl⟩
                case round =>
                  obtain ⟨i4, hi4, rfl, hr4⟩ := hrel
                  by_cases hlt4 : i4 < n
                  · obtain ⟨b, off, r, rfl, hx, hs1, hs2, hb0, hd1, hd2, hd3'⟩ := hl3.at_ hlt4
                    have hd := Lib.hid (any_drop' (p := ckRef l (without l left) heads dead) hx)
                    clear hx hb0
                    cases ha : r.also
                    · rw [ha] at hd3'
                      cases hdf : Rf.has dead r.frm
                      · cases hhf : Rf.has heads r.frm
                        · cases hsr : see (without l left) r.frm with
                          | none =>
                            have HC := Lib.hid (show ckRef l (without l left) heads dead r = true from by unfold ckRef; rw [ha, hdf, hhf, hsr]; rfl)
                            go_wp2_with (first
                              | (go_at_call_of 30 (Value.slice B m d); refine (has_any _ _ _ _ _ _ (by omega) hh3).mono ?_; rintro e w' ⟨rfl, rfl⟩)
                              | (go_at_call_of 30 (Value.slice D m3 c3); refine (has_any _ _ _ _ _ _ (by omega) hd3).mono ?_; rintro e w' ⟨rfl, rfl⟩)
                              | (go_at_call_of 58 (Value.slice A2 k2 cc2); refine (see_any _ _ _ _ _ _ (by omega) hrest3).mono ?_; rintro e w' ⟨rfl, rfl⟩; rw [hsr, idx])
                              | (go_at_call_of 58 (Value.slice (some ⟨b, off, none⟩) n c); refine (see_any _ _ _ _ _ _ (by omega) hl3).mono ?_; rintro e w' ⟨rfl, rfl⟩; rw [hst, idx]))
                            have hfin := Lib.hid (check_refs HB.out HDD.out HV.out HH.out (show l.any (ckRef l (without l left) heads dead) = true from by rw [hr4.out, hd.out, HC.out]; rfl))
                            go_ret
                            exact ⟨ret_i64 hfin.out.symm, hbw⟩
                          | some j =>
                            have HC := Lib.hid (show ckRef l (without l left) heads dead r = false from by unfold ckRef; rw [ha, hdf, hhf, hsr]; rfl)
                            go_wp2_with (first
                              | (go_at_call_of 30 (Value.slice B m d); refine (has_any _ _ _ _ _ _ (by omega) hh3).mono ?_; rintro e w' ⟨rfl, rfl⟩)
                              | (go_at_call_of 30 (Value.slice D m3 c3); refine (has_any _ _ _ _ _ _ (by omega) hd3).mono ?_; rintro e w' ⟨rfl, rfl⟩)
                              | (go_at_call_of 58 (Value.slice A2 k2 cc2); refine (see_any _ _ _ _ _ _ (by omega) hrest3).mono ?_; rintro e w' ⟨rfl, rfl⟩; rw [hsr, idx])
                              | (go_at_call_of 58 (Value.slice (some ⟨b, off, none⟩) n c); refine (see_any _ _ _ _ _ _ (by omega) hl3).mono ?_; rintro e w' ⟨rfl, rfl⟩; rw [hst, idx]))
                            go_round
                            case rel => exact ⟨i4 + 1, by omega, by go_num, by show _ = _; rw [hr4.out, hd.out, HC.out]; rfl⟩
                            case measure => simp [intOf]; omega
                        · have HC := Lib.hid (show ckRef l (without l left) heads dead r = false from by unfold ckRef; rw [ha, hdf, hhf]; rfl)
                          go_wp2_with (first
                            | (go_at_call_of 30 (Value.slice B m d); refine (has_any _ _ _ _ _ _ (by omega) hh3).mono ?_; rintro e w' ⟨rfl, rfl⟩)
                            | (go_at_call_of 30 (Value.slice D m3 c3); refine (has_any _ _ _ _ _ _ (by omega) hd3).mono ?_; rintro e w' ⟨rfl, rfl⟩)
                            | (go_at_call_of 58 (Value.slice A2 k2 cc2); refine (see_any _ _ _ _ _ _ (by omega) hrest3).mono ?_; rintro e w' ⟨rfl, rfl⟩; rw [hsr, idx])
                            | (go_at_call_of 58 (Value.slice (some ⟨b, off, none⟩) n c); refine (see_any _ _ _ _ _ _ (by omega) hl3).mono ?_; rintro e w' ⟨rfl, rfl⟩; rw [hst, idx]))
                          go_round
                          case rel => exact ⟨i4 + 1, by omega, by go_num, by show _ = _; rw [hr4.out, hd.out, HC.out]; rfl⟩
                          case measure => simp [intOf]; omega
                      · cases hht : Rf.has heads r.to
                        · cases hst : see l r.to with
                          | none =>
                            have HC := Lib.hid (show ckRef l (without l left) heads dead r = false from by unfold ckRef; rw [ha, hdf, hht, hst]; rfl)
                            go_wp2_with (first
                              | (go_at_call_of 30 (Value.slice B m d); refine (has_any _ _ _ _ _ _ (by omega) hh3).mono ?_; rintro e w' ⟨rfl, rfl⟩)
                              | (go_at_call_of 30 (Value.slice D m3 c3); refine (has_any _ _ _ _ _ _ (by omega) hd3).mono ?_; rintro e w' ⟨rfl, rfl⟩)
                              | (go_at_call_of 58 (Value.slice A2 k2 cc2); refine (see_any _ _ _ _ _ _ (by omega) hrest3).mono ?_; rintro e w' ⟨rfl, rfl⟩; rw [hsr, idx])
                              | (go_at_call_of 58 (Value.slice (some ⟨b, off, none⟩) n c); refine (see_any _ _ _ _ _ _ (by omega) hl3).mono ?_; rintro e w' ⟨rfl, rfl⟩; rw [hst, idx]))
                            go_round
                            case rel => exact ⟨i4 + 1, by omega, by go_num, by show _ = _; rw [hr4.out, hd.out, HC.out]; rfl⟩
                            case measure => simp [intOf]; omega
                          | some j =>
                            cases hdt : Rf.has dead r.to
                            · have HC := Lib.hid (show ckRef l (without l left) heads dead r = true from by unfold ckRef; rw [ha, hdf, hht, hst, hdt]; rfl)
                              go_wp2_with (first
                                | (go_at_call_of 30 (Value.slice B m d); refine (has_any _ _ _ _ _ _ (by omega) hh3).mono ?_; rintro e w' ⟨rfl, rfl⟩)
                                | (go_at_call_of 30 (Value.slice D m3 c3); refine (has_any _ _ _ _ _ _ (by omega) hd3).mono ?_; rintro e w' ⟨rfl, rfl⟩)
                                | (go_at_call_of 58 (Value.slice A2 k2 cc2); refine (see_any _ _ _ _ _ _ (by omega) hrest3).mono ?_; rintro e w' ⟨rfl, rfl⟩; rw [hsr, idx])
                                | (go_at_call_of 58 (Value.slice (some ⟨b, off, none⟩) n c); refine (see_any _ _ _ _ _ _ (by omega) hl3).mono ?_; rintro e w' ⟨rfl, rfl⟩; rw [hst, idx]))
                              have hfin := Lib.hid (check_refs HB.out HDD.out HV.out HH.out (show l.any (ckRef l (without l left) heads dead) = true from by rw [hr4.out, hd.out, HC.out]; rfl))
                              go_ret
                              exact ⟨ret_i64 hfin.out.symm, hbw⟩
                            · have HC := Lib.hid (show ckRef l (without l left) heads dead r = false from by unfold ckRef; rw [ha, hdf, hht, hst, hdt]; rfl)
                              go_wp2_with (first
                                | (go_at_call_of 30 (Value.slice B m d); refine (has_any _ _ _ _ _ _ (by omega) hh3).mono ?_; rintro e w' ⟨rfl, rfl⟩)
                                | (go_at_call_of 30 (Value.slice D m3 c3); refine (has_any _ _ _ _ _ _ (by omega) hd3).mono ?_; rintro e w' ⟨rfl, rfl⟩)
                                | (go_at_call_of 58 (Value.slice A2 k2 cc2); refine (see_any _ _ _ _ _ _ (by omega) hrest3).mono ?_; rintro e w' ⟨rfl, rfl⟩; rw [hsr, idx])
                                | (go_at_call_of 58 (Value.slice (some ⟨b, off, none⟩) n c); refine (see_any _ _ _ _ _ _ (by omega) hl3).mono ?_; rintro e w' ⟨rfl, rfl⟩; rw [hst, idx]))
                              go_round
                              case rel => exact ⟨i4 + 1, by omega, by go_num, by show _ = _; rw [hr4.out, hd.out, HC.out]; rfl⟩
                              case measure => simp [intOf]; omega
                        · have HC := Lib.hid (show ckRef l (without l left) heads dead r = true from by unfold ckRef; rw [ha, hdf, hht]; rfl)
                          go_wp2_with (first
                            | (go_at_call_of 30 (Value.slice B m d); refine (has_any _ _ _ _ _ _ (by omega) hh3).mono ?_; rintro e w' ⟨rfl, rfl⟩)
                            | (go_at_call_of 30 (Value.slice D m3 c3); refine (has_any _ _ _ _ _ _ (by omega) hd3).mono ?_; rintro e w' ⟨rfl, rfl⟩)
                            | (go_at_call_of 58 (Value.slice A2 k2 cc2); refine (see_any _ _ _ _ _ _ (by omega) hrest3).mono ?_; rintro e w' ⟨rfl, rfl⟩; rw [hsr, idx])
                            | (go_at_call_of 58 (Value.slice (some ⟨b, off, none⟩) n c); refine (see_any _ _ _ _ _ _ (by omega) hl3).mono ?_; rintro e w' ⟨rfl, rfl⟩; rw [hst, idx]))
                          have hfin := Lib.hid (check_refs HB.out HDD.out HV.out HH.out (show l.any (ckRef l (without l left) heads dead) = true from by rw [hr4.out, hd.out, HC.out]; rfl))
                          go_ret
                          exact ⟨ret_i64 hfin.out.symm, hbw⟩
                    · rw [ha] at hd3'
                      have HC := Lib.hid (show ckRef l (without l left) heads dead r = false from by unfold ckRef; rw [ha]; rfl)
                      go_wp2
                      go_round
                      case rel => exact ⟨i4 + 1, by omega, by go_num, by show _ = _; rw [hr4.out, hd.out, HC.out]; rfl⟩
                      case measure => simp [intOf]; omega
                  · have HRF := Lib.hid (show l.any (ckRef l (without l left) heads dead) = false from by rw [hr4.out, drop_len hl.1 hlt4]; rfl)
                    clear hr4
                    obtain ⟨w4, hw4⟩ : ∃ w4 : World, w4 = w3 := ⟨_, rfl⟩
                    subst hw4
                    go_wp2
                    go_loopw [17] (fun ii wz => ∃ i : Nat, i ≤ m2 ∧ ii = .int .i64 i ∧ Hid (left.any (ckLeft l heads) = (left.drop i).any (ckLeft l heads)) ∧ Below w.heap.size w wz) (fun ii _ => m2 - (intOf ii).toNat)
                    case atStart => exact ⟨0, by omega, rfl, rfl, hbw⟩
                    case round =>
                      obtain ⟨i5, hi5, rfl, hr5, hb5⟩ := hrel
                      by_cases hlt5 : i5 < m2
                      · obtain ⟨b, off, x, rfl, hx, hxok, hb0, hcx⟩ := (hlf.below hb5).at_ hlt5
                        have hd := Lib.hid (any_drop' (p := ckLeft l heads) hx)
                        obtain ⟨hx0, hxn⟩ := HRG.out x (List.mem_of_getElem? hx)
                        obtain ⟨k, rfl⟩ : ∃ k : Nat, x = k := ⟨x.toNat, by omega⟩
                        have hkn : k < n := by omega
                        obtain ⟨b6, off6, r, rfl, hxr, hs1, hs2, hb6, hd1, hd2, hd3'⟩ := (hl.below hb5).at_ hkn
                        have HCK := Lib.hid (show ckLeft l heads (k : Int) = (r.also && wrong l heads k r == eOK) from by unfold ckLeft; rw [Int.toNat_natCast, hxr])
                        have hwc := wrong_ref _ B n m c d l heads k r wr (by omega) (by omega) (hl.below hb5) (hh.below hb5) hxr
                        obtain ⟨v, hv⟩ : ∃ v, wrong l heads k r = v := ⟨_, rfl⟩
                        rw [hv] at hwc
                        have HV2 := Lib.hid hv
                        clear hx hxr hb0 hb6 hv
                        cases ha : r.also
                        · rw [ha] at hd3'
                          clear hwc
                          go_wp2
                          go_roundw
                          case rel => exact ⟨i5 + 1, by omega, by go_num, by show _ = _; rw [hr5.out, hd.out, HCK.out, ha]; rfl, hb5⟩
                          case measure => simp [intOf]; omega
                        · rw [ha] at hd3'
                          by_cases hv0 : v = 0
                          · subst hv0
                            have hfin := Lib.hid (check_left HB.out HDD.out HV.out HH.out HRF.out (show left.any (ckLeft l heads) = true from by rw [hr5.out, hd.out, HCK.out, ha, HV2.out]; rfl))
                            go_wp2_with (go_at_call 45; refine hwc.mono ?_; rintro e w6 ⟨rfl, hbz⟩)
                            go_ret
                            exact ⟨ret_i64 hfin.out.symm, hb5.tr hbz⟩
                          · have hv1 : (v == 0) = false := by simpa using hv0
                            have hv3 : decide (v = 0) = false := by simpa using hv0
                            go_wp2_with (go_at_call 45; refine hwc.mono ?_; rintro e w6 ⟨rfl, hbz⟩)
                            go_roundw
                            case rel => exact ⟨i5 + 1, by omega, by go_num, by show _ = _; rw [hr5.out, hd.out, HCK.out, HV2.out, show (v == eOK) = false from hv1, Bool.and_false, Bool.false_or], hb5.tr hbz⟩
                            case measure => simp [intOf]; omega
                      · have hfin := Lib.hid (check_left HB.out HDD.out HV.out HH.out HRF.out (show left.any (ckLeft l heads) = false from by rw [hr5.out, drop_len hlf.1 hlt5]; rfl))
                        go_wp2
                        go_ret
                        exact ⟨ret_i64 hfin.out.symm, hb5⟩
          · have hfin := Lib.hid (check_valid HB.out HDD.out HV.out hv0)
            have hv1 : (v == 0) = false := by simpa using hv0
            have hv3 : decide (v = 0) = false := by simpa using hv0
            have hv2 : (v != 0) = true := by simpa using hv0
            go_wp2
            go_ret
            exact ⟨ret_i64 hfin.out.symm, hbw⟩
end Go.Proofs.Ytdeeflbghhajiaa
