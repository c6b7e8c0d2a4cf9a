/- Plain laws: what package refer computes is what its reference model computes. -/
import Derived.Test.YtdfnfimajhagfaaGreatDoorRank
namespace Rf
theorem take_snoc {α : Type} {l : List α} {k : Nat} {r : α} (h : l[k]? = some r) : l.take (k + 1) = l.take k ++ [r] := by
  obtain ⟨hl, rfl⟩ := List.getElem?_eq_some_iff.1 h
  exact List.take_succ_eq_append_getElem hl
/-! ### lists of names in order -/
theorem mem_puts (s : S) : ∀ (l a : List S), s ∈ l.foldl put a ↔ s ∈ a ∨ s ∈ l
  | [], a => by simp
  | x :: l, a => by
    rw [List.foldl_cons, mem_puts s l, mem_put, List.mem_cons]
    constructor
    · rintro ((h | h) | h)
      · exact .inr (.inl h)
      · exact .inl h
      · exact .inr (.inr h)
    · rintro (h | h | h)
      · exact .inl (.inr h)
      · exact .inl (.inl h)
      · exact .inr h
theorem sorted_puts : ∀ (l : List S) {a : List S}, Sorted a → Sorted (l.foldl put a)
  | [], _, h => h
  | x :: l, _, h => sorted_puts l (sorted_put h x)
def sortS (l : List S) : List S := l.foldl put []
theorem sorted_nil : Sorted [] := List.Pairwise.nil
theorem mem_sortS {l : List S} {s : S} : s ∈ sortS l ↔ s ∈ l := by unfold sortS; rw [mem_puts]; simp
theorem sorted_sortS (l : List S) : Sorted (sortS l) := sorted_puts l sorted_nil
theorem sortS_eq {l m : List S} (hs : Sorted m) (hm : ∀ x, x ∈ m ↔ x ∈ l) : sortS l = m := Sorted.eq_of_mem (sorted_sortS l) hs fun x => by rw [mem_sortS, hm]
end Rf
