/- Plain laws: what Repair leaves is valid and accepted by Check, and no list with fewer left out is valid. -/
import Derived.Test.YtdfnfimajhagfaaGreatDoorPlain
namespace Rf
section
variable {l : List Ref} {heads : List S}
/-! ### a reference with no fault -/
structure Good (l : List Ref) (heads : List S) (i : Nat) (r : Ref) : Prop where
  once : r ∉ l.take i
  name : has heads r.frm = r.also
  first : r.also = false → see l r.frm = some i
  goes : has heads r.to = true ∨ (r.also = false ∧ ∃ k, see l r.to = some k)
  also : r.also = true → r.frm ≠ r.to
  circ : r.also = false → circles l heads r.frm (l.length + 1) r.to = false
/-! ### what is left -/
def restFrom (l : List Ref) (heads : List S) : List Ref → Nat → List Ref
  | [], _ => []
  | r :: rest, i => if isLeft l heads i r then restFrom l heads rest (i + 1) else r :: restFrom l heads rest (i + 1)
def rest (l : List Ref) (heads : List S) : List Ref := restFrom l heads l 0
end
end Rf
