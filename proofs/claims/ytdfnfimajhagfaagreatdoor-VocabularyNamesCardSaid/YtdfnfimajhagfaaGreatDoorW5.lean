/- Walks: Names, Far, Way of the reference model. -/
import Derived.Test.YtdfnfimajhagfaaGreatDoorW4
import Derived.Test.YtdfnfimajhagfaaGreatDoorReg
import Derived.Deep.RegionWith
namespace Go.Proofs.YtdfnfimajhagfaaGreatDoor
open Go.RowKit Go.Maps Rf
theorem foldl_drop {l : List S} {k : Nat} {x : S} {acc : List S} (h : l[k]? = some x) : (l.drop k).foldl Rf.put acc = (l.drop (k + 1)).foldl Rf.put (Rf.put acc x) := by rw [drop_get h]; rfl
theorem put_len (l : List S) (s : S) : (Rf.put l s).length ≤ l.length + 1 := by
  unfold put; simp only
  split
  · omega
  · have := putAt_le l s l.length; simp; omega
/-- a slice in a block that is new -/
def Fresh (B : Nat) (A : Option Addr) : Prop := ∀ b off, A = some ⟨b, off, none⟩ → B ≤ b
theorem Fresh.no (B : Nat) : Fresh B none := fun _ _ h => by cases h
theorem Fresh.put {B N : Nat} {A A' : Option Addr} (h : Fresh B A) (hA : A' = A ∨ ∀ b off, A' = some ⟨b, off, none⟩ → N ≤ b) (hN : B ≤ N) : Fresh B A' := fun b off e => by
  rcases hA with rfl | hA
  · exact h b off e
  · exact Nat.le_trans hN (hA b off e)
theorem idx_beq (o : Option Nat) (k : Nat) : (idx o == (k : Int)) = (o == some k) := by
  cases o with
  | none => simp [idx]
  | some d => rw [Bool.eq_iff_iff]; simp [idx]; omega
def better (b : Option S) (x : S) : Bool := match b with | none => true | some y => ltS x y
theorem best_cons (l : List Ref) (heads : List S) (last to : S) (n : Nat) (r : Ref) (rest : List Ref) (b : Option S) :
    best l heads last to n (r :: rest) b = best l heads last to n rest (if eqS r.frm last && better b r.to && (steps l heads r.to to == some n) then some r.to else b) := rfl
theorem best_skip {l : List Ref} {heads : List S} {last to : S} {n : Nat} {r : Ref} {rest : List Ref} {b : Option S} (h : eqS r.frm last = false ∨ better b r.to = false ∨ (steps l heads r.to to == some n) = false) :
    best l heads last to n (r :: rest) b = best l heads last to n rest b := by
  rw [best_cons, if_neg]
  rcases h with h | h | h <;> simp [h]
theorem best_take {l : List Ref} {heads : List S} {last to : S} {n : Nat} {r : Ref} {rest : List Ref} {b : Option S} (h1 : eqS r.frm last = true) (h2 : better b r.to = true) (h3 : (steps l heads r.to to == some n) = true) :
    best l heads last to n (r :: rest) b = best l heads last to n rest (some r.to) := by
  rw [best_cons, if_pos (by simp [h1, h2, h3])]
def strVal (b : Option S) : Value := .string (b.getD ByteArray.empty)
theorem steps_le {l : List Ref} {heads : List S} {a x : S} {d : Nat} (h : steps l heads a x = some d) : d ≤ l.length := by
  unfold steps at h
  split at h
  · exact dist_le (l := l) (a := a) (x := x) h
  · cases h
theorem Own.lit (w : World) {base : Nat} (e : TypeId) (u : Value) (h : base ≤ w.heap.size) : Own (w.alloc (.cells #[u] e)) base e 1 (.slice (some ⟨w.heap.size, 0, none⟩) 1 1) 1 [u] :=
  ⟨⟨by simp, .inr ⟨w.heap.size, 1, #[u], rfl, h, heap_alloc_new w _, Nat.le_refl _, by unfold maxLen; omega, rfl, rfl⟩⟩, Nat.le_trans h (by simp)⟩
theorem wayN_next (l : List Ref) (heads : List S) (to : S) (n : Nat) (last : S) : wayN l heads to (n + 1) last = (best l heads last to n l none).getD ByteArray.empty :: wayN l heads to n ((best l heads last to n l none).getD ByteArray.empty) := rfl
end Go.Proofs.YtdfnfimajhagfaaGreatDoor
