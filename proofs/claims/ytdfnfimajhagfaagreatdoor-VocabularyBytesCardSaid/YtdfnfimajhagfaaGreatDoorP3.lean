/- Walks of package refer: Valid, back. -/
import Derived.Test.YtdfnfimajhagfaaGreatDoorP2
import Derived.Test.YtdfnfimajhagfaaGreatDoorReg
namespace Go.Proofs.YtdfnfimajhagfaaGreatDoor
open Go.RowKit Go.Maps Rf
/-- a graph's list -/
def Gl (w : World) (g : Nat) (A : Option Addr) (n c : Nat) (l : List Ref) : Prop := g < w.heap.size ∧ n ≤ c ∧ Refs w A n l ∧ w.cell? ⟨g, 0, none⟩ = some (.slice A n c)
theorem Gl.below {w w' : World} {g : Nat} {A : Option Addr} {n c : Nat} {l : List Ref} (h : Gl w g A n c l) (hbl : Below w.heap.size w w') : Gl w' g A n c l :=
  ⟨Nat.lt_of_lt_of_le h.1 hbl.size, h.2.1, h.2.2.1.below hbl, (hbl.cell (p := ⟨g, 0, none⟩) h.1).trans h.2.2.2⟩
end Go.Proofs.YtdfnfimajhagfaaGreatDoor
