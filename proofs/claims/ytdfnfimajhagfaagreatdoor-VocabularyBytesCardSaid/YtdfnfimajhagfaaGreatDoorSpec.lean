/- Plain definitions: what the functions of package refer and of its reference model compute, in plain Lean, with no program in sight. -/
import GoSem.Op.String
import Derived.Laws.Strings
namespace Rf
abbrev S := ByteArray
/-- '<' and '==' of strings, as the model spells them. -/
def ltS (a b : S) : Bool := Go.Op.bytesLess a.toList b.toList
def eqS (a b : S) : Bool := a.toList == b.toList
structure Ref where
  frm : S
  to : S
  also : Bool
  deriving DecidableEq

/-- passimref24.Has -/
def has : List S → S → Bool
  | [], _ => false
  | x :: l, s => if eqS x s then true else has l s
/-- the k of passimref24.Put: how many elements stand before the place of s, searched from the end -/
def putAt (l : List S) (s : S) : Nat → Nat
  | 0 => 0
  | k + 1 => if ltS s (l.getD k ByteArray.empty) then putAt l s k else k + 1
def put (l : List S) (s : S) : List S :=
  let k := putAt l s l.length
  if 0 < k ∧ eqS (l.getD (k - 1) ByteArray.empty) s then l else l.take k ++ s :: l.drop k
/-- see: the index of the first see -/
def seeFrom (name : S) : List Ref → Nat → Option Nat
  | [], _ => none
  | r :: l, i => if eqS r.frm name && !r.also then some i else seeFrom name l (i + 1)
def see (l : List Ref) (name : S) : Option Nat := seeFrom name l 0

def eOK : Int := 0
def eArg : Int := 1
def eNone : Int := 6
def eTwice : Int := 7
def eName : Int := 11
def eCycle : Int := 13
def eClash : Int := 14
def eProof : Int := 17
def toOf (l : List Ref) (k : Nat) : S := ((l[k]?).map Ref.to).getD ByteArray.empty

/-- the walk along the sees: does it come to 'to'? -/
def circles (l : List Ref) (heads : List S) (to : S) : Nat → S → Bool
  | 0, _ => false
  | n + 1, at_ => if eqS at_ to then true else
    match see l at_ with
    | none => false
    | some k => if has heads at_ then false else circles l heads to n (toOf l k)
def wrong (l : List Ref) (heads : List S) (i : Nat) (r : Ref) : Int :=
  if (l.take i).contains r then eTwice
  else if has heads r.frm != r.also then eName
  else if (l.take i).any fun q => !r.also && !q.also && eqS q.frm r.frm then eClash
  else if !has heads r.to && (r.also || (see l r.to).isNone) then eNone
  else if r.also then (if eqS r.frm r.to then eCycle else eOK)
  else if circles l heads r.frm (l.length + 1) r.to then eCycle else eOK
def validFrom (l : List Ref) (heads : List S) : List Ref → Nat → Nat × Int
  | [], i => (i, eOK)
  | r :: rest, i => if wrong l heads i r != eOK then (i, wrong l heads i r) else validFrom l heads rest (i + 1)
def valid (l : List Ref) (heads : List S) : Nat × Int := validFrom l heads l 0

/-- one round of Within -/
def wstep (out : List S) : List Ref → List S → List S
  | [], next => next
  | r :: l, next => wstep out l (if has out r.frm then put next r.to else next)
def withinN (l : List Ref) : Nat → List S → List S
  | 0, out => out
  | n + 1, out => withinN l n (wstep out l out)
def within (l : List Ref) (frm : S) (most : Nat) : List S := withinN l (min most (l.length + 1)) [frm]
/-- the first n, from i on, with k candidates left -/
def stepsFrom (l : List Ref) (frm to : S) : Nat → Nat → Option Nat
  | 0, _ => none
  | k + 1, n => if has (within l frm n) to then some n else stepsFrom l frm to k (n + 1)
def steps (l : List Ref) (heads : List S) (frm to : S) : Option Nat :=
  if has heads to then stepsFrom l frm to (l.length + 1) 0 else none
def best (l : List Ref) (heads : List S) (last to : S) (n : Nat) : List Ref → Option S → Option S
  | [], b => b
  | r :: rest, b => best l heads last to n rest
      (if eqS r.frm last && (match b with | none => true | some x => ltS r.to x) && (steps l heads r.to to == some n) then some r.to else b)
/-- one round of rank: the sees alone -/
def rstep (all : List S) : List Ref → List S → List S
  | [], next => next
  | r :: l, next => rstep all l (if !r.also && has all r.frm then put next r.to else next)
def rankFrom (l : List Ref) (heads : List S) : Nat → Nat → List S → Option Nat
  | 0, _, _ => none
  | k + 1, n, all => if all.any (has heads) then some n else rankFrom l heads k (n + 1) (rstep all l all)
def rank (l : List Ref) (heads : List S) (name : S) : Option Nat := rankFrom l heads (l.length + 1) 0 [name]
def keptFrom (l : List Ref) (heads : List S) (name : S) : List Ref → Nat → Option (Nat × Nat) → Option (Nat × Nat)
  | [], _, b => b
  | r :: rest, i, b => keptFrom l heads name rest (i + 1)
      (if eqS r.frm name && !r.also then
        match rank l heads r.to with
        | none => b
        | some n => (match b with
          | none => some (i, n)
          | some (_, m) => if n < m then some (i, n) else b)
       else b)
def kept (l : List Ref) (heads : List S) (name : S) : Option Nat := (keptFrom l heads name l 0 none).map (·.1)
def isLeft (l : List Ref) (heads : List S) (i : Nat) (r : Ref) : Bool :=
  r.also && wrong l heads i r != eOK || !r.also && (has heads r.frm || kept l heads r.frm != some i)
/-- Without: 'left' is walked along -/
def withoutFrom : List Ref → Nat → List Int → List Ref
  | [], _, _ => []
  | r :: rest, i, left => match left with
    | [] => r :: withoutFrom rest (i + 1) []
    | k :: ks => if k = i then withoutFrom rest (i + 1) ks else r :: withoutFrom rest (i + 1) (k :: ks)
def without (l : List Ref) (left : List Int) : List Ref := withoutFrom l 0 left
def badLeft (n : Nat) : List Int → Option Int → Bool
  | [], _ => false
  | k :: ks, p => k < 0 || (n : Int) ≤ k || (match p with | none => false | some q => k ≤ q) || badLeft n ks (some k)
def badDead : List S → Bool
  | x :: y :: l => !ltS x y || badDead (y :: l)
  | _ => false
def ckRef (l rest : List Ref) (heads dead : List S) (r : Ref) : Bool :=
  !r.also && (if has dead r.frm then has heads r.to || (see l r.to).isSome && !has dead r.to
    else !has heads r.frm && (see rest r.frm).isNone)
def ckLeft (l : List Ref) (heads : List S) (k : Int) : Bool :=
  match l[k.toNat]? with
  | none => false
  | some r => r.also && wrong l heads k.toNat r == eOK
def check (l : List Ref) (heads : List S) (left : List Int) (dead : List S) : Int :=
  if badLeft l.length left none || badDead dead then eArg
  else
    let rest := without l left
    if (valid rest heads).2 != eOK then (valid rest heads).2
    else if dead.any (has heads) then eProof
    else if l.any (ckRef l rest heads dead) then eProof
    else if left.any (ckLeft l heads) then eProof
    else eOK

/- the documented examples -/
def str (s : String) : S := s.toUTF8
def ex1 : List Ref := [⟨str "emperor", str "king", false⟩, ⟨str "ruler", str "king", true⟩, ⟨str "kaiser", str "emperor", false⟩, ⟨str "song", str "poem", false⟩, ⟨str "emperor", str "ruler", false⟩]
def exh : List S := [str "king", str "ode", str "ruler"]
theorem t4 : check ex1 exh [3, 4] [str "song"] = eOK := by decide +kernel
end Rf
