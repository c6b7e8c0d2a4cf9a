/- Walks: Within, Steps, Reach of the reference model. -/
import Derived.Test.YtdfnfimajhagfaaGreatDoorW3
import Derived.Test.YtdfnfimajhagfaaGreatDoorGraph
namespace Go.Proofs.YtdfnfimajhagfaaGreatDoor
open Go.RowKit Go.Maps Rf
/-- a sorted list of names that an edge leads to, and the first one -/
def Grow (l : List Ref) (frm : S) (x : List S) : Prop := Sorted x ∧ ∀ y ∈ x, y ∈ frm :: l.map Ref.to
theorem Grow.one (l : List Ref) (frm : S) : Grow l frm [frm] := ⟨sorted_single _, by simp⟩
end Go.Proofs.YtdfnfimajhagfaaGreatDoor
