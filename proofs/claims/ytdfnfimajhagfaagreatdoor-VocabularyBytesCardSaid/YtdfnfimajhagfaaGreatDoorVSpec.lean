/- Vocabulary, in plain Lean: terms, what stands above a name; the search in depth (the program) and the one in breadth (the reference) end at one and the same sorted list. -/
import Derived.Test.YtdfnfimajhagfaaGreatDoorSort
import Derived.Lib.SplitLaws
import Derived.Lib.SlTrimSet
namespace Rf
structure Term where
  name : S
  kind : Int
  lang : Int
  see : S
  broader : List S
  deriving DecidableEq
/-- the first term of a name -/
def findT : List Term → S → Option Term
  | [], _ => none
  | t :: l, n => if eqS t.name n then some t else findT l n
/-- Find: the index, from i on; -1: there is none -/
def findAt : List Term → S → Nat → Int
  | [], _, _ => -1
  | t :: l, n, i => if eqS t.name n then i else findAt l n (i + 1)
theorem findAt_cases : ∀ (l : List Term) (n : S) (i : Nat), (findT l n = none ∧ findAt l n i = -1) ∨ ∃ k t, findT l n = some t ∧ findAt l n i = ((i + k : Nat) : Int) ∧ l[k]? = some t
  | [], n, i => .inl ⟨rfl, rfl⟩
  | t :: l, n, i => by
    unfold findT findAt
    by_cases h : eqS t.name n
    · rw [if_pos h, if_pos h]
      exact .inr ⟨0, t, rfl, by simp, rfl⟩
    · rw [if_neg h, if_neg h]
      rcases findAt_cases l n (i + 1) with ⟨h1, h2⟩ | ⟨k, u, h1, h2, h3⟩
      · exact .inl ⟨h1, h2⟩
      · exact .inr ⟨k + 1, u, h1, by rw [h2]; congr 1; omega, by simpa using h3⟩
/-- the names right above a name -/
def brd (l : List Term) (n : S) : List S := match findT l n with
  | none => []
  | some t => t.broader
/-- what stands above, over whatever steps -/
inductive Up (f : S → List S) : S → S → Prop
  | one {a b : S} : b ∈ f a → Up f a b
  | step {a b c : S} : b ∈ f a → Up f b c → Up f a c
theorem Up.snoc {f : S → List S} {a b c : S} (h : Up f a b) (hc : c ∈ f b) : Up f a c := by
  induction h with
  | one h => exact .step h (.one hc)
  | step h _ ih => exact .step h (ih hc)
/-- the search in depth, as a relation: the names that wait, what was met, and what is met at the end -/
inductive Climb (f : S → List S) : List S → List S → List S → Prop
  | nil {o : List S} : Climb f [] o o
  | skip {b : S} {bs o o' : List S} : b ∈ o → Climb f bs o o' → Climb f (b :: bs) o o'
  | go {b : S} {bs o o1 o2 : List S} : b ∉ o → Climb f (f b) (o ++ [b]) o1 → Climb f bs o1 o2 → Climb f (b :: bs) o o2
theorem Climb.sub {f : S → List S} {bs o o' : List S} (h : Climb f bs o o') : ∀ x ∈ o, x ∈ o' := by
  induction h with
  | nil => exact fun x h => h
  | skip _ _ ih => exact ih
  | go _ _ _ ih1 ih2 => exact fun x h => ih2 x (ih1 x (List.mem_append_left _ h))
theorem Climb.nodup {f : S → List S} {bs o o' : List S} (h : Climb f bs o o') : o.Nodup → o'.Nodup := by
  induction h with
  | nil => exact id
  | skip _ _ ih => exact ih
  | go hb _ _ ih1 ih2 =>
    intro hn
    refine ih2 (ih1 (List.nodup_append.2 ⟨hn, by simp, fun a ha c hc => ?_⟩))
    simp at hc
    subst hc
    rintro rfl
    exact hb ha
theorem Climb.all {f : S → List S} {bs o o' : List S} (h : Climb f bs o o') : ∀ b ∈ bs, b ∈ o' := by
  induction h with
  | nil => intro b hb; cases hb
  | skip hb h ih =>
    intro x hx
    rcases List.mem_cons.1 hx with rfl | hx
    · exact h.sub _ hb
    · exact ih x hx
  | go hb h1 h2 ih1 ih2 =>
    intro x hx
    rcases List.mem_cons.1 hx with rfl | hx
    · exact h2.sub _ (h1.sub _ (by simp))
    · exact ih2 x hx
theorem Climb.closed {f : S → List S} {bs o o' : List S} (h : Climb f bs o o') : ∀ x ∈ o', x ∉ o → ∀ y ∈ f x, y ∈ o' := by
  induction h with
  | nil => exact fun x h k => absurd h k
  | skip _ _ ih => exact ih
  | @go b bs o o1 o2 hb h1 h2 ih1 ih2 =>
    intro x hx hn y hy
    by_cases h : x ∈ o1
    · refine h2.sub _ ?_
      by_cases hxb : x = b
      · subst hxb
        exact h1.all y hy
      · exact ih1 x h (by simp [hn, hxb]) y hy
    · exact ih2 x hx h y hy
theorem Climb.from_ {f : S → List S} {bs o o' : List S} (h : Climb f bs o o') : ∀ x ∈ o', x ∈ o ∨ ∃ b ∈ bs, b = x ∨ Up f b x := by
  induction h with
  | nil => exact fun x h => .inl h
  | skip _ _ ih =>
    intro x hx
    rcases ih x hx with h | ⟨b, hb, h⟩
    · exact .inl h
    · exact .inr ⟨b, List.mem_cons_of_mem _ hb, h⟩
  | @go b bs o o1 o2 hb h1 h2 ih1 ih2 =>
    intro x hx
    rcases ih2 x hx with h | ⟨c, hc, h⟩
    · rcases ih1 x h with h | ⟨c, hc, h⟩
      · rcases List.mem_append.1 h with h | h
        · exact .inl h
        · simp at h
          subst h
          exact .inr ⟨x, List.mem_cons_self, .inl rfl⟩
      · refine .inr ⟨b, List.mem_cons_self, .inr ?_⟩
        rcases h with rfl | h
        · exact .one hc
        · exact .step hc h
    · exact .inr ⟨c, List.mem_cons_of_mem _ hc, h⟩
/-- the search in depth from a name meets just what stands above it -/
theorem Climb.mem {f : S → List S} {a : S} {o : List S} (h : Climb f (f a) [] o) (x : S) : x ∈ o ↔ Up f a x := by
  constructor
  · intro hx
    rcases h.from_ x hx with h | ⟨b, hb, rfl | h⟩
    · cases h
    · exact .one hb
    · exact .step hb h
  · intro hu
    have hc : ∀ {b c : S}, Up f b c → (∀ y ∈ f b, y ∈ o) → c ∈ o := by
      intro b c hu
      induction hu with
      | one h1 => exact fun hb => hb _ h1
      | step h1 _ ih => exact fun hb => ih fun y hy => h.closed _ (hb _ h1) (by simp) y hy
    exact hc hu h.all
/-- a search in breadth: all steps of what was met are met -/
theorem wide_mem {f : S → List S} {a : S} {next o : List S} (h0 : ∀ x, x ∈ next ↔ x = a ∨ x ∈ o) (h1 : ∀ x ∈ o, Up f a x) (h2 : ∀ x ∈ next, ∀ y ∈ f x, y ∈ o) (x : S) : x ∈ o ↔ Up f a x := by
  refine ⟨h1 x, fun hu => ?_⟩
  have hc : ∀ {b c : S}, Up f b c → b ∈ next → c ∈ o := by
    intro b c hu
    induction hu with
    | one hy => exact fun hb => h2 _ hb _ hy
    | step hy _ ih => exact fun hb => ih ((h0 _).2 (.inr (h2 _ hb _ hy)))
  exact hc hu ((h0 a).2 (.inl rfl))
/-- what stands above a name, sorted -/
def IsUp (f : S → List S) (a : S) (o : List S) : Prop := Sorted o ∧ ∀ x, x ∈ o ↔ Up f a x
open Classical in
noncomputable def ups (f : S → List S) (a : S) : List S := if h : ∃ o, IsUp f a o then h.choose else []
theorem ups_eq {f : S → List S} {a : S} {o : List S} (h : IsUp f a o) : ups f a = o := by
  have hex : ∃ o, IsUp f a o := ⟨o, h⟩
  unfold ups
  rw [dif_pos hex]
  exact hex.choose_spec.1.eq_of_mem h.1 fun x => (hex.choose_spec.2 x).trans (h.2 x).symm
/-- sorted, what a search in depth met -/
theorem ups_depth {f : S → List S} {a : S} {o : List S} (h : Climb f (f a) [] o) : ((msort (o.map byts)).map ofB) = ups f a := by
  have hn : (o.map byts).Nodup := by
    have := h.nodup (by simp)
    unfold List.Nodup at this ⊢
    rw [List.pairwise_map]
    exact this.imp fun hab hb => hab (byts_inj hb)
  refine (ups_eq ⟨msort_sorted hn, fun x => ?_⟩).symm
  rw [← h.mem x, List.mem_map]
  constructor
  · rintro ⟨y, hy, rfl⟩
    rw [mem_msort, List.mem_map] at hy
    obtain ⟨z, hz, rfl⟩ := hy
    rw [ofB_byts]; exact hz
  · intro hx
    exact ⟨byts x, by rw [mem_msort]; exact List.mem_map_of_mem hx, ofB_byts x⟩
theorem ups_wide {f : S → List S} {a : S} {next o : List S} (hs : Sorted o) (h0 : ∀ x, x ∈ next ↔ x = a ∨ x ∈ o) (h1 : ∀ x ∈ o, Up f a x) (h2 : ∀ x ∈ next, ∀ y ∈ f x, y ∈ o) : ups f a = o :=
  ups_eq ⟨hs, wide_mem h0 h1 h2⟩
end Rf
/- Names, in plain Lean: a text cut at a byte (the library's Split, and the reference's loop), and what is empty once it is trimmed. -/
namespace Rf
open Go
/-- the parts of a text between the bytes c -/
def wordsB (c : UInt8) : List UInt8 → List (List UInt8)
  | [] => [[]]
  | b :: l => if b = c then [] :: wordsB c l else match wordsB c l with
    | [] => [[b]]
    | w :: ws => (b :: w) :: ws
theorem wordsB_none {c : UInt8} : ∀ {s : List UInt8}, c ∉ s → wordsB c s = [s]
  | [], _ => rfl
  | b :: l, h => by
    have hb : ¬ b = c := fun e => h (e ▸ List.mem_cons_self)
    rw [wordsB, if_neg hb, wordsB_none (fun k => h (List.mem_cons_of_mem _ k))]
theorem wordsB_cut {c : UInt8} {r : List UInt8} : ∀ {p : List UInt8}, c ∉ p → wordsB c (p ++ c :: r) = p :: wordsB c r
  | [], _ => by rw [List.nil_append, wordsB, if_pos rfl]
  | b :: p, h => by
    have hb : ¬ b = c := fun e => h (e ▸ List.mem_cons_self)
    rw [List.cons_append, wordsB, if_neg hb, wordsB_cut (fun k => h (List.mem_cons_of_mem _ k))]
theorem cut_at {c : UInt8} : ∀ {s : List UInt8}, c ∈ s → ∃ p r, s = p ++ c :: r ∧ c ∉ p
  | [], h => by cases h
  | b :: l, h => by
    by_cases hb : b = c
    · subst hb
      exact ⟨[], l, rfl, by simp⟩
    · obtain ⟨p, r, h1, h2⟩ := cut_at (s := l) (by
        rcases List.mem_cons.1 h with e | h
        · exact absurd e.symm hb
        · exact h)
      exact ⟨b :: p, r, by rw [h1]; rfl, fun k => by
        rcases List.mem_cons.1 k with e | k
        · exact hb e.symm
        · exact h2 k⟩
theorem index_cut {c : UInt8} {p r : List UInt8} (h : c ∉ p) : Lib.index (p ++ c :: r) [c] = p.length := by
  refine Lib.index_first (i := p.length) (by rw [List.length_append]; omega) ?_ fun j hj => ?_
  · unfold Lib.occAt
    rw [List.drop_left]; show (c == c && _) = true; rw [beq_self_eq_true]; rfl
  · unfold Lib.occAt
    have hjl : j < (p ++ c :: r).length := by rw [List.length_append]; omega
    rw [List.drop_eq_getElem_cons hjl, List.getElem_append_left hj]
    have hne : (c == p[j]) = false := by
      rw [beq_eq_false_iff_ne]
      exact fun e => h (e ▸ List.getElem_mem hj)
    show (c == p[j] && _) = false
    rw [hne]; rfl
/-- Split at one byte -/
theorem split_words (c : UInt8) : ∀ (k : Nat) (s : List UInt8), s.count c = k → Lib.splitK [c] 0 k s = wordsB c s
  | 0, s, h => by rw [Lib.splitK, wordsB_none (List.count_eq_zero.1 h)]
  | k + 1, s, h => by
    obtain ⟨p, r, rfl, hp⟩ := cut_at (c := c) (s := s) (List.count_pos_iff.1 (by omega))
    have hi := index_cut (r := r) hp
    have hr : r.count c = k := by
      rw [List.count_append, List.count_eq_zero.2 hp, List.count_cons_self] at h
      omega
    rw [Lib.splitK, hi, if_neg (by simp), wordsB_cut hp]
    have h1 : ((p.length : Int)).toNat = p.length := by omega
    rw [h1, Nat.add_zero, List.take_left, List.length_singleton]
    rw [show (p ++ c :: r).drop (p.length + 1) = r from by simp [List.drop_append], split_words c k r hr]
theorem dropWhile_none {α : Type} (f : α → Bool) : ∀ l : List α, l.dropWhile f = [] ↔ ∀ b ∈ l, f b = true
  | [] => by simp
  | b :: l => by
    rw [List.dropWhile_cons]
    by_cases h : f b = true
    · rw [if_pos h, dropWhile_none f l]
      simp [h]
    · rw [if_neg h]
      simp [h]
/-- trimmed to nothing: all bytes are of the set -/
theorem trimS_nil (l cs : List UInt8) : Lib.trimS l cs = [] ↔ ∀ b ∈ l, cs.contains b = true := by
  unfold Lib.trimS Lib.trimLeftS Lib.trimRightS
  rw [dropWhile_none]
  constructor
  · intro h
    have h2 : ∀ b ∈ l.reverse.dropWhile (cs.contains ·), cs.contains b = true := fun b hb => h b (List.mem_reverse.2 hb)
    have h3 : l.reverse.dropWhile (cs.contains ·) = [] := by
      cases hd : l.reverse.dropWhile (cs.contains ·) with
      | nil => rfl
      | cons b t =>
        have hne : l.reverse.dropWhile (cs.contains ·) ≠ [] := by rw [hd]; simp
        have := List.head_dropWhile_not (cs.contains ·) hne
        have h4 := h2 _ (List.head_mem hne)
        rw [h4] at this
        cases this
    rw [dropWhile_none] at h3
    exact fun b hb => h3 b (List.mem_reverse.2 hb)
  · intro h b hb
    rw [List.mem_reverse] at hb
    exact h b (List.mem_reverse.1 ((List.dropWhile_sublist _).subset hb))
/-- a possible name -/
def isName (s : S) : Bool := decide (s.size ≤ 24) && decide ((wordsB 32 s.data.toList).length ≤ 4) && (wordsB 32 s.data.toList).all fun w => !w.isEmpty && w.all fun b => decide (97 ≤ b.toNat ∧ b.toNat ≤ 122)
/-- a possible term -/
def increasing : List S → Bool
  | [] => true
  | [_] => true
  | a :: b :: l => ltS a b && increasing (b :: l)
def possible (t : Term) : Bool :=
  isName t.name && decide (0 ≤ t.kind ∧ t.kind ≤ 2 ∧ 0 ≤ t.lang ∧ t.lang ≤ 3) && decide (t.broader.length ≤ 8) && (t.see.data.isEmpty || (isName t.see && t.broader.isEmpty)) && t.broader.all isName && increasing t.broader
end Rf
/- Vocabularies, in plain Lean: what Valid, Aliases, Above and Below compute. -/
namespace Rf
def eLimit : Int := 4
def eType : Int := 12
/-- the names to which a term leads -/
def leads (t : Term) : List S := (if t.see.data.isEmpty then [] else [t.see]) ++ t.broader
/-- the name does not come behind the one before it -/
def late (p : Option Term) (t : Term) : Bool := match p with | none => false | some q => !ltS q.name t.name
/-- a name that is there, of a term that is not preferred -/
def second (l : List Term) (n : S) : Bool := match findT l n with | none => false | some u => !u.see.data.isEmpty
/-- the error of a term; p: the one before it -/
noncomputable def flaw (l : List Term) (p : Option Term) (t : Term) : Int :=
  if possible t = false then eArg
  else if late p t = true then eTwice
  else if ((leads t).any fun n => (findT l n).isNone) = true then eNone
  else if ((leads t).any (second l)) = true then eType
  else if has (ups (brd l) t.name) t.name = true then eCycle
  else eOK
open Classical in
noncomputable def vvalidFrom (l : List Term) : List Term → Option Term → Nat → Nat × Int
  | [], _, i => (i, eOK)
  | t :: r, p, i => if flaw l p t = eOK then vvalidFrom l r (some t) (i + 1) else (i, flaw l p t)
noncomputable def vvalid (l : List Term) : Nat × Int := if 128 < l.length then (0, eLimit) else vvalidFrom l l none 0
/-- Aliases -/
noncomputable def aliases (l : List Term) (n : S) : List S :=
  if (vvalid l).2 = eOK ∧ (findT l n).isSome = true then (l.filter fun t => eqS t.see n).map Term.name else []
noncomputable def aboveOf (l : List Term) (n : S) : List S := if (vvalid l).2 = eOK then ups (brd l) n else []
end Rf
