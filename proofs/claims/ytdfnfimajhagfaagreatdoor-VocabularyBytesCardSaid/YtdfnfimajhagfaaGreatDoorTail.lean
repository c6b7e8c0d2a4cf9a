/- A slice of the call's own that does not begin at its block's head: what 'q = q[1:]' and 'q = append(q, x)' leave; a slice of one element. -/
import Derived.Test.YtdfnfimajhagfaaGreatDoorMap
namespace Go.Proofs.YtdfnfimajhagfaaGreatDoor
open Go.RowKit Go.Maps Rf
/-- a row of the call's own from some offset on (elements of one cell) -/
def OwnT (w : World) (base : Nat) (e : TypeId) (v : Value) (n : Nat) (xs : List Value) : Prop :=
  xs.length = n ∧ base ≤ w.heap.size ∧ ∃ g off c cur, v = .slice (some ⟨g, off, none⟩) n c ∧ base ≤ g ∧ w.heap[g]? = some (.cells cur e (0, 0)) ∧ n ≤ c ∧ off + c ≤ cur.size ∧ c ≤ maxLen ∧ ∀ j u, xs[j]? = some u → cur[off + j]? = some u
section
variable {w w' : World} {base : Nat} {e : TypeId} {v : Value} {n : Nat} {xs : List Value}
theorem OwnT.kept {row : Option Nat} (h : OwnT w base e v n xs) (hg : w.grownBy w' row) (hne : v.ownBlock ≠ row) : OwnT w' base e v n xs := by
  obtain ⟨h1, h0, g, off, c, cur, rfl, h2, h3, h4⟩ := h
  exact ⟨h1, Nat.le_trans h0 hg.size, g, off, c, cur, rfl, h2, (hg.block g (Array.getElem?_eq_some_iff.1 h3).1 (by simpa [Value.ownBlock] using hne)).trans h3, h4⟩
theorem OwnT.drew (h : OwnT w base e v n xs) : OwnT w.drew base e v n xs := h
theorem OwnT.below (h : OwnT w base e v n xs) (hb : Below w.heap.size w w') : OwnT w' base e v n xs :=
  h.kept (row := none) ⟨hb.os, hb.tape, hb.output, hb.size, fun k hk _ => hb.block k hk⟩ (by
    obtain ⟨h1, _, g, off, c, cur, rfl, _⟩ := h
    simp [Value.ownBlock])
theorem OwnT.one (w : World) {base : Nat} (e : TypeId) (u : Value) (h : base ≤ w.heap.size) : OwnT (w.alloc (.cells #[u] e)) base e (.slice (some ⟨w.heap.size, 0, none⟩) 1 1) 1 [u] :=
  ⟨rfl, by simp; omega, w.heap.size, 0, 1, #[u], rfl, h, heap_alloc_new w _, Nat.le_refl _, by simp, by decide, fun j x hx => by
    match j, hx with
    | 0, hx => simpa using hx⟩
end
section
variable {P : Program} (w : World)
end
end Go.Proofs.YtdfnfimajhagfaaGreatDoor
