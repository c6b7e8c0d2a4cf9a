/- Walk: Repair of the reference model. -/
import Derived.Test.YtdfnfimajhagfaaGreatDoorW8
namespace Go.Proofs.YtdfnfimajhagfaaGreatDoor
open Go.RowKit Go.Maps Rf
/-- a slice lies apart from what is being appended to -/
def Sep (w : World) (A : Option Addr) (v : Value) : Prop := ∀ b off, A = some ⟨b, off, none⟩ → b < w.heap.size ∧ v.ownBlock ≠ some b
theorem Sep.no (w : World) (v : Value) : Sep w none v := fun _ _ h => by cases h
theorem Sep.below {w w' : World} {A : Option Addr} {v : Value} (h : Sep w A v) (hb : Below w.heap.size w w') : Sep w' A v := fun b off e => ⟨Nat.lt_of_lt_of_le (h b off e).1 hb.size, (h b off e).2⟩
theorem Sep.app {w w' : World} {A : Option Addr} {v v' : Value} {o : Obj} (h : Sep w A v) (hg : (w.alloc o).grownBy w' v.ownBlock) (hv : v'.ownBlock = v.ownBlock ∨ v'.ownBlock = some (w.alloc o).heap.size) : Sep w' A v' := fun b off e => by
  obtain ⟨h1, h2⟩ := h b off e
  have := hg.size
  simp only [World.size_alloc] at this hv
  refine ⟨by omega, ?_⟩
  rcases hv with hv | hv <;> rw [hv]
  · exact h2
  · intro h; injection h; omega
theorem Sep.put {w w' : World} {A A' : Option Addr} {v : Value} {base : Nat} {e : TypeId} {size n m : Nat} {xs : List Value} {l : List S} (h : Sep w A v) (o : Own w base e size v n xs) (hb : Below w.heap.size w w') (hA : A' = A ∨ ∀ b off, A' = some ⟨b, off, none⟩ → w.heap.size ≤ b)
    (hs : Strs w' A' m l) (hl : 0 < l.length) : Sep w' A' v := fun b off e => by
  rcases hA with rfl | hA
  · exact h.below hb b off e
  · obtain ⟨b2, off2, e2, hlt, _⟩ := hs.2.2 (by rw [List.length_map]; exact hl)
    rw [e] at e2
    injection e2 with e2
    injection e2 with e3 e4
    subst e3
    refine ⟨hlt, fun hv => ?_⟩
    have h1 := o.lt b hv
    have h2 := hA b off e
    omega
theorem Strs.app {w w' : World} {A : Option Addr} {v : Value} {n : Nat} {l : List S} {o : Obj} (h : Strs w A n l) (sp : Sep w A v) (hg : (w.alloc o).grownBy w' v.ownBlock) : Strs w' A n l :=
  ⟨h.1, h.2.1, (h.2.2.alloc o).grown hg fun b off e h => (sp b off e).2 h.symm⟩
theorem put_pos (l : List S) (s : S) : 0 < (Rf.put l s).length := List.length_pos_of_mem ((mem_put l s s).2 (.inl rfl))
end Go.Proofs.YtdfnfimajhagfaaGreatDoor
