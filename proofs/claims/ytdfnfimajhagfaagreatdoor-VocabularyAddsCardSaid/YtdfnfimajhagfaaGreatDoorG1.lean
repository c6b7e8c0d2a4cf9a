/- Walks: the generators Name, Heads, Refs, Repaired; own. -/
import Derived.Test.YtdfnfimajhagfaaGreatDoorW9
namespace Go.Proofs.YtdfnfimajhagfaaGreatDoor
open Go.RowKit Go.Maps Rf
end Go.Proofs.YtdfnfimajhagfaaGreatDoor
