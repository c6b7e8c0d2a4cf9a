/- Walk of package refer: from, the search in breadth. -/
import Derived.Test.YtdfnfimajhagfaaGreatDoorP3
import Derived.Test.YtdfnfimajhagfaaGreatDoorTail
import Derived.Deep.LoopGhost
namespace Go.Proofs.YtdfnfimajhagfaaGreatDoor
open Go.RowKit Go.Maps Rf
end Go.Proofs.YtdfnfimajhagfaaGreatDoor
