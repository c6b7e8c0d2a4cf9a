/- Walks: Names, Far, Way of the reference model. -/
import Derived.Test.YtdfnfimajhagfaaGreatDoorW4
import Derived.Test.YtdfnfimajhagfaaGreatDoorReg
import Derived.Deep.RegionWith
namespace Go.Proofs.YtdfnfimajhagfaaGreatDoor
open Go.RowKit Go.Maps Rf
theorem put_len (l : List S) (s : S) : (Rf.put l s).length ≤ l.length + 1 := by
  unfold put; simp only
  split
  · omega
  · have := putAt_le l s l.length; simp; omega
/-- a slice in a block that is new -/
def Fresh (B : Nat) (A : Option Addr) : Prop := ∀ b off, A = some ⟨b, off, none⟩ → B ≤ b
theorem Fresh.no (B : Nat) : Fresh B none := fun _ _ h => by cases h
def better (b : Option S) (x : S) : Bool := match b with | none => true | some y => ltS x y
end Go.Proofs.YtdfnfimajhagfaaGreatDoor
