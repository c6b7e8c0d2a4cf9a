/- Walks: Repaired; own. -/
import Derived.Test.YtdfnfimajhagfaaGreatDoorG1
namespace Go.Proofs.YtdfnfimajhagfaaGreatDoor
open Go.RowKit Go.Maps Rf
end Go.Proofs.YtdfnfimajhagfaaGreatDoor
/- Pairs of names compared; blocks that are known whole; Some; Bent. -/
namespace Go.Proofs.YtdfnfimajhagfaaGreatDoor
open Go.RowKit Go.Maps Rf
/-- a block that is known whole, as a source -/
theorem Rds.lit (w : World) (u : Array Value) (t : TypeId) : Rds (w.alloc (.cells u t)) (some ⟨w.heap.size, 0, none⟩) u.toList := fun _ =>
  ⟨w.heap.size, 0, rfl, by simp, fun j v hv => by
    rw [cell_of_row _ _ (0 + j) u t (0, 0) (heap_alloc_new w _), Nat.zero_add, ← Array.getElem?_toList]; exact hv⟩
theorem Strs.lit (w : World) (u : Array Value) (t : TypeId) (l : List S) (n : Nat) (hu : u.toList = l.map Value.string) (hn : l.length = n) (hl : ∀ s ∈ l, s.size ≤ maxLen) : Strs (w.alloc (.cells u t)) (some ⟨w.heap.size, 0, none⟩) n l :=
  ⟨hn, hl, by rw [← hu]; exact Rds.lit w u t⟩
end Go.Proofs.YtdfnfimajhagfaaGreatDoor
