/- Walks: Valid, Without, Repair of the reference model. -/
import Derived.Test.YtdfnfimajhagfaaGreatDoorW5
import Derived.Test.YtdfnfimajhagfaaGreatDoorW6
import Derived.Test.YtdfnfimajhagfaaGreatDoorW7
namespace Go.Proofs.YtdfnfimajhagfaaGreatDoor
open Go.RowKit Go.Maps Rf
end Go.Proofs.YtdfnfimajhagfaaGreatDoor
