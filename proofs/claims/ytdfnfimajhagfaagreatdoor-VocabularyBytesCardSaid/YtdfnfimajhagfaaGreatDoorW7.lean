/- Walks: Wrong and Valid of the reference model. -/
import Derived.Test.YtdfnfimajhagfaaGreatDoorW4
import Derived.Test.YtdfnfimajhagfaaGreatDoorP3
namespace Go.Proofs.YtdfnfimajhagfaaGreatDoor
open Go.RowKit Go.Maps Rf
section
variable {l : List Ref} {heads : List S} {i : Nat} {r : Ref}
end
end Go.Proofs.YtdfnfimajhagfaaGreatDoor
