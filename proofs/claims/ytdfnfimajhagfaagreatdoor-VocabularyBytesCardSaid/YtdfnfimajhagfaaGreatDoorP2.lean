/- Walks of package refer: circles, wrong, Valid. -/
import Derived.Test.YtdfnfimajhagfaaGreatDoorP1
import Derived.Laws.StructEq
namespace Go.Proofs.YtdfnfimajhagfaaGreatDoor
open Go.RowKit Go.Maps Rf
section
variable {w : World} {b n : Nat} {s : S}
theorem MapF.lookB0 {l : List S} (h : MapS w b n (boolF l)) (hs : s.size ≤ maxLen) {v : Bool} (hv : Rf.has l s = v) :
    (Instr.lookup 137 (.map (some b)) (.string s) false).run Tryz.prog w = .ok (.bool v) w := by
  subst hv
  have := (h.look keyS mapB (zeroB _) hs).2
  rwa [boolF_get] at this
end
section
variable {l : List Ref} {heads : List S} {i : Nat} {r : Ref} (h : l[i]? = some r)
include h
end
end Go.Proofs.YtdfnfimajhagfaaGreatDoor
