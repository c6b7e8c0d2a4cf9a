/- Walks: rank and kept of the reference model. -/
import Derived.Test.YtdfnfimajhagfaaGreatDoorW4
import Derived.Test.YtdfnfimajhagfaaGreatDoorPlain
namespace Go.Proofs.YtdfnfimajhagfaaGreatDoor
open Go.RowKit Go.Maps Rf
end Go.Proofs.YtdfnfimajhagfaaGreatDoor
