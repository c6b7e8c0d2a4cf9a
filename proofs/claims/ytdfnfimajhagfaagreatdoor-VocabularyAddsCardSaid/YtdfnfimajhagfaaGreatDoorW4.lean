/- Walks: Within, Steps, Reach of the reference model. -/
import Derived.Test.YtdfnfimajhagfaaGreatDoorW3
import Derived.Test.YtdfnfimajhagfaaGreatDoorGraph
namespace Go.Proofs.YtdfnfimajhagfaaGreatDoor
open Go.RowKit Go.Maps Rf
/-- a sorted list of names that an edge leads to, and the first one -/
def Grow (l : List Ref) (frm : S) (x : List S) : Prop := Sorted x ∧ ∀ y ∈ x, y ∈ frm :: l.map Ref.to
theorem Grow.one (l : List Ref) (frm : S) : Grow l frm [frm] := ⟨sorted_single _, by simp⟩
theorem Grow.put {l : List Ref} {frm : S} {x : List S} (h : Grow l frm x) {r : Ref} (hr : r ∈ l) : Grow l frm (Rf.put x r.to) :=
  ⟨sorted_put h.1 _, fun y hy => by
    rcases (mem_put _ _ _).1 hy with e | hy
    · rw [e]; exact List.mem_cons_of_mem _ (List.mem_map.2 ⟨r, hr, rfl⟩)
    · exact h.2 y hy⟩
theorem Grow.len {l : List Ref} {frm : S} {x : List S} (h : Grow l frm x) {n : Nat} (hn : l.length = n) : x.length ≤ n + 1 := by
  have := length_le_of_subset h.1.nodup h.2
  simp only [List.length_cons, List.length_map] at this
  omega
theorem wstep_hit {out nx : List S} {r : Ref} {l : List Ref} (h : Rf.has out r.frm = true) : wstep out (r :: l) nx = wstep out l (Rf.put nx r.to) := by rw [wstep, if_pos h]
theorem wstep_miss {out nx : List S} {r : Ref} {l : List Ref} (h : Rf.has out r.frm = false) : wstep out (r :: l) nx = wstep out l nx := by rw [wstep, if_neg (by simp [h])]
theorem withinN_pred (l : List Ref) {k M : Nat} (h : k < M) (out : List S) : withinN l (M - k) out = withinN l (M - (k + 1)) (wstep out l out) := by
  obtain ⟨d, hd⟩ : ∃ d, M - k = d + 1 := ⟨M - k - 1, by omega⟩
  rw [hd, show M - (k + 1) = d from by omega]; rfl
theorem take_filter {p : S → Bool} {l : List S} {k : Nat} {x : S} (h : l[k]? = some x) : (l.take (k + 1)).filter p = (l.take k).filter p ++ (if p x then [x] else []) := by
  obtain ⟨hl, rfl⟩ := List.getElem?_eq_some_iff.1 h
  rw [List.take_succ_eq_append_getElem hl, List.filter_append]
  cases hp : p l[k] <;> simp [hp]
theorem stepsFrom_hit {l : List Ref} {frm to : S} {k n : Nat} (h : Rf.has (within l frm n) to = true) : stepsFrom l frm to (k + 1) n = some n := by rw [stepsFrom, if_pos h]
theorem stepsFrom_miss {l : List Ref} {frm to : S} {k n : Nat} (h : Rf.has (within l frm n) to = false) : stepsFrom l frm to (k + 1) n = stepsFrom l frm to k (n + 1) := by rw [stepsFrom, if_neg (by simp [h])]
theorem one_app {w : World} {base : Nat} {e : TypeId} {A : Option Addr} {n c : Nat} {l : List S} {s : S} {xs : List Value} (o : Own w base e 1 (.slice A n c) n (xs ++ [.string s])) (h : xs = l.map Value.string) : Own w base e 1 (.slice A n c) n ((l ++ [s]).map Value.string) := by
  subst h; simpa using o
end Go.Proofs.YtdfnfimajhagfaaGreatDoor
