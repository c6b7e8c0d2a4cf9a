/- Walk of package refer: Far. -/
import Derived.Test.YtdfnfimajhagfaaGreatDoorP6
import Derived.Deep.RegionWith
import Derived.Deep.MidRow
namespace Go.Proofs.YtdfnfimajhagfaaGreatDoor
open Go.RowKit Go.Maps Go.Sort Rf
theorem grown_of {w w' : World} (hb : Below w.heap.size w w') (row : Option Nat) : w.grownBy w' row := ⟨hb.os, hb.tape, hb.output, hb.size, fun k hk _ => hb.block k hk⟩
end Go.Proofs.YtdfnfimajhagfaaGreatDoor
