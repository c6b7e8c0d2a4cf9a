/- Walk: Check of the reference model. -/
import Derived.Test.YtdfnfimajhagfaaGreatDoorW9
import Derived.Test.YtdfnfimajhagfaaGreatDoorFew
import Derived.Deep.RegionWith
namespace Go.Proofs.YtdfnfimajhagfaaGreatDoor
open Go.RowKit Go.Maps Rf
def prevOf (left : List Int) : Nat → Option Int
  | 0 => none
  | k + 1 => left[k]?
theorem badLeft_cons (n : Nat) (k : Int) (ks : List Int) (p : Option Int) : badLeft n (k :: ks) p = (k < 0 || (n : Int) ≤ k || (match p with | none => false | some q => k ≤ q) || badLeft n ks (some k)) := rfl
theorem badLeft_range {n : Nat} : ∀ {left : List Int} {p : Option Int}, badLeft n left p = false → ∀ k ∈ left, 0 ≤ k ∧ k < n
  | [], _, _, k, hk => by cases hk
  | x :: ks, p, h, k, hk => by
    rw [badLeft_cons] at h
    simp only [Bool.or_eq_false_iff, decide_eq_false_iff_not] at h
    obtain ⟨⟨⟨h1, h2⟩, _⟩, h4⟩ := h
    rcases List.mem_cons.1 hk with rfl | hk
    · omega
    · exact badLeft_range h4 k hk
theorem badDead_cons (x y : S) (l : List S) : badDead (x :: y :: l) = (!ltS x y || badDead (y :: l)) := rfl
theorem badDead_short : ∀ {l : List S}, l.length ≤ 1 → badDead l = false
  | [], _ => rfl
  | [_], _ => rfl
  | _ :: _ :: _, h => by simp at h
theorem check_arg {l : List Ref} {heads : List S} {left : List Int} {dead : List S} (h : badLeft l.length left none = true ∨ badDead dead = true) : check l heads left dead = 1 := by
  unfold check
  rw [if_pos (by rcases h with h | h <;> simp [h])]; rfl
section
variable {l : List Ref} {heads : List S} {left : List Int} {dead : List S} (h1 : badLeft l.length left none = false) (h2 : badDead dead = false)
include h1 h2
theorem check_valid {v : Int} (hv : (valid (without l left) heads).2 = v) (h3 : ¬ v = 0) : check l heads left dead = v := by
  unfold check
  rw [if_neg (by simp [h1, h2])]
  simp only
  rw [if_pos (by rw [hv]; simpa [eOK] using h3), hv]
theorem check_heads (h3 : (valid (without l left) heads).2 = 0) (h4 : dead.any (has heads) = true) : check l heads left dead = 17 := by
  unfold check
  rw [if_neg (by simp [h1, h2])]
  simp only
  rw [if_neg (by rw [h3]; decide), if_pos h4]; rfl
theorem check_refs (h3 : (valid (without l left) heads).2 = 0) (h4 : dead.any (has heads) = false) (h5 : l.any (ckRef l (without l left) heads dead) = true) : check l heads left dead = 17 := by
  unfold check
  rw [if_neg (by simp [h1, h2])]
  simp only
  rw [if_neg (by rw [h3]; decide), if_neg (by simp [h4]), if_pos h5]; rfl
theorem check_left (h3 : (valid (without l left) heads).2 = 0) (h4 : dead.any (has heads) = false) (h5 : l.any (ckRef l (without l left) heads dead) = false) {b : Bool} (h6 : left.any (ckLeft l heads) = b) : check l heads left dead = if b then 17 else 0 := by
  unfold check
  rw [if_neg (by simp [h1, h2])]
  simp only
  rw [if_neg (by rw [h3]; decide), if_neg (by simp [h4]), if_neg (by simp [h5]), h6]; rfl
end
theorem any_drop' {α : Type} {p : α → Bool} {l : List α} {k : Nat} {x : α} (h : l[k]? = some x) : (l.drop k).any p = (p x || (l.drop (k + 1)).any p) := by rw [drop_get h]; rfl
end Go.Proofs.YtdfnfimajhagfaaGreatDoor
