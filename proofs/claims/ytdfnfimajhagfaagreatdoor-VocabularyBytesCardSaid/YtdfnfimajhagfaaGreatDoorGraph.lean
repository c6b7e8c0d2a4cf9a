import Derived.Test.YtdfnfimajhagfaaGreatDoorOrder
namespace Rf
/-! ### ways of at most n steps -/
/-- x is reached from a in at most n steps -/
def W (l : List Ref) (a : S) : Nat → S → Prop
  | 0, x => x = a
  | n + 1, x => W l a n x ∨ ∃ r ∈ l, W l a n r.frm ∧ r.to = x
structure Bfs (l : List Ref) (a : S) (f : S → Option Nat) (todo : List S) : Prop where
  start : f a = some 0
  sound : ∀ x n, f x = some n → W l a n x
  inq : ∀ x ∈ todo, ∃ n, f x = some n
  fin : ∀ r ∈ l, ∀ n, f r.frm = some n → r.frm ∉ todo → ∃ m, f r.to = some m ∧ m ≤ n + 1
  nodup : todo.Nodup
  rise : todo.Pairwise (fun x y => ∀ m n, f x = some m → f y = some n → m ≤ n)
  near : ∀ p q, todo = p :: q → ∀ d, f p = some d → ∀ x n, f x = some n → n ≤ d + 1
end Rf
