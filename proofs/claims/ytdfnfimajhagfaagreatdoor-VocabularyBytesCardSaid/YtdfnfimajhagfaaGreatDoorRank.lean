import Derived.Test.YtdfnfimajhagfaaGreatDoorGraph
namespace Rf
/-! ### the sees alone; the fewest sees to a heading -/
def sees (l : List Ref) : List Ref := l.filter fun r => !r.also
/-- in at most n sees to a heading -/
def R (l : List Ref) (heads : List S) (x : S) (n : Nat) : Prop := ∃ h ∈ heads, W (sees l) x n h
/-! ### the search for the ranks, round by round -/
def cnt (l : List Ref) (f : S → Option Nat) : Nat := l.countP fun r => (f r.frm).isSome
structure Ranks (l : List Ref) (heads : List S) (f : S → Option Nat) : Prop where
  zero : ∀ h ∈ heads, f h = some 0
  sound : ∀ x n, f x = some n → R l heads x n
  small : ∀ x n, f x = some n → n ≤ cnt l f
end Rf
