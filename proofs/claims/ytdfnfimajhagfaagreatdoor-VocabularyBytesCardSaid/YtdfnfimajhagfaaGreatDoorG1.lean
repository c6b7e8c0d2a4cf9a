/- Walks: the generators Name, Heads, Refs, Repaired; own. -/
import Derived.Test.YtdfnfimajhagfaaGreatDoorW9
namespace Go.Proofs.YtdfnfimajhagfaaGreatDoor
open Go.RowKit Go.Maps Rf
/-- a reference being made in block b -/
def Mk (w : World) (b : Nat) (r : Ref) : Prop := b < w.heap.size ∧ (w.cell? ⟨b, 0, none⟩ = some (.string r.frm) ∧ w.cell? ⟨b, 1, none⟩ = some (.string r.to) ∧ w.cell? ⟨b, 2, none⟩ = some (.bool r.also)) ∧ (∀ j, w.frozen? ⟨b, j, none⟩ = false) ∧ r.frm.size ≤ maxLen ∧ r.to.size ≤ maxLen
theorem Mk.below {w w' : World} {b : Nat} {r : Ref} (h : Mk w b r) (hb : Below w.heap.size w w') : Mk w' b r :=
  ⟨Nat.lt_of_lt_of_le h.1 hb.size, ⟨(hb.cell (p := ⟨b, 0, none⟩) h.1).trans h.2.1.1, (hb.cell (p := ⟨b, 1, none⟩) h.1).trans h.2.1.2.1, (hb.cell (p := ⟨b, 2, none⟩) h.1).trans h.2.1.2.2⟩, fun j => (hb.frozen (p := ⟨b, j, none⟩) h.1).trans (h.2.2.1 j), h.2.2.2⟩
end Go.Proofs.YtdfnfimajhagfaaGreatDoor
