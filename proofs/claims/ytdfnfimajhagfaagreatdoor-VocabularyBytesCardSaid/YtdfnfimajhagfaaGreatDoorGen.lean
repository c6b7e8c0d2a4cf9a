/- The plain law of ReferTerms: what Of makes of a valid vocabulary is valid; an alias leads to its heading; what is reached lies below. -/
import Derived.Test.YtdfnfimajhagfaaGreatDoorVSpec
import Derived.Test.YtdfnfimajhagfaaGreatDoorFew
import Derived.Test.YtdfnfimajhagfaaGreatDoorSort
import Derived.Lib.Small
import Derived.Lib.SlicesCompact
namespace Rf
/-! ### what stands above, as a list -/
theorem findT_some {l : List Term} {n : S} {t : Term} (h : findT l n = some t) : t ∈ l ∧ t.name = n := by
  induction l with
  | nil => cases h
  | cons u l ih =>
    unfold findT at h
    by_cases he : eqS u.name n
    · rw [if_pos he] at h
      cases h
      exact ⟨List.mem_cons_self, (eqS_iff _ _).1 he⟩
    · rw [if_neg he] at h
      obtain ⟨h1, h2⟩ := ih h
      exact ⟨List.mem_cons_of_mem _ h1, h2⟩
theorem Up.in_ {l : List Term} {a b : S} (h : Up (brd l) a b) : b ∈ l.flatMap Term.broader := by
  have hb : ∀ {a b : S}, b ∈ brd l a → b ∈ l.flatMap Term.broader := fun {a b} h => by
    unfold brd at h
    cases hf : findT l a with
    | none => rw [hf] at h; cases h
    | some t => rw [hf] at h; exact List.mem_flatMap.2 ⟨t, (findT_some hf).1, h⟩
  induction h with
  | one h => exact hb h
  | step _ _ ih => exact ih
open Classical in
theorem isUp_ups (l : List Term) (a : S) : IsUp (brd l) a (ups (brd l) a) := by
  have h : IsUp (brd l) a (sortS ((l.flatMap Term.broader).filter fun b => decide (Up (brd l) a b))) := by
    refine ⟨sorted_sortS _, fun x => ?_⟩
    rw [mem_sortS, List.mem_filter, decide_eq_true_iff]
    exact ⟨fun h => h.2, fun h => ⟨h.in_, h⟩⟩
  rw [ups_eq h]; exact h
theorem mem_ups {l : List Term} {a x : S} : x ∈ ups (brd l) a ↔ Up (brd l) a x := (isUp_ups l a).2 x
/-! ### a valid vocabulary -/
structure Fine (l : List Term) (p : Option Term) (t : Term) : Prop where
  poss : possible t = true
  order : ∀ q, p = some q → ltS q.name t.name = true
  found : ∀ n ∈ leads t, ∃ u, findT l n = some u ∧ u.see.data.isEmpty = true
  circ : has (ups (brd l) t.name) t.name = false
theorem flaw_fine {l : List Term} {p : Option Term} {t : Term} (h : flaw l p t = eOK) : Fine l p t := by
  unfold flaw at h
  by_cases h1 : possible t = false
  · rw [if_pos h1] at h; cases h
  rw [if_neg h1] at h
  by_cases h2 : late p t = true
  · rw [if_pos h2] at h; cases h
  rw [if_neg h2] at h
  by_cases h3 : ((leads t).any fun n => (findT l n).isNone) = true
  · rw [if_pos h3] at h; cases h
  rw [if_neg h3] at h
  by_cases h4 : ((leads t).any (second l)) = true
  · rw [if_pos h4] at h; cases h
  rw [if_neg h4] at h
  by_cases h5 : has (ups (brd l) t.name) t.name = true
  · rw [if_pos h5] at h; cases h
  refine ⟨by simpa using h1, fun q hq => ?_, fun n hn => ?_, by simpa using h5⟩
  · subst hq; simpa [late] using h2
  · simp only [List.any_eq_true, not_exists, not_and] at h3 h4
    have k3 := h3 n hn
    have k4 := h4 n hn
    cases hf : findT l n with
    | none => rw [hf] at k3; exact absurd rfl k3
    | some u => unfold second at k4; rw [hf] at k4; exact ⟨u, rfl, by simpa using k4⟩
theorem vvalidFrom_fine {l : List Term} : ∀ {r : List Term} {p : Option Term} {i : Nat}, (vvalidFrom l r p i).2 = eOK →
    (∀ t ∈ r, ∃ q, Fine l q t) ∧ (∀ q, p = some q → ∀ t ∈ r, ltS q.name t.name = true) ∧ Sorted (r.map Term.name)
  | [], _, _, _ => ⟨by simp, by simp, List.Pairwise.nil⟩
  | u :: r, p, i, h => by
    unfold vvalidFrom at h
    by_cases hf : flaw l p u = eOK
    · rw [if_pos hf] at h
      have f := flaw_fine hf
      obtain ⟨h1, h2, h3⟩ := vvalidFrom_fine h
      refine ⟨fun t ht => ?_, fun q hq t ht => ?_, ?_⟩
      · rcases List.mem_cons.1 ht with rfl | ht
        · exact ⟨p, f⟩
        · exact h1 t ht
      · rcases List.mem_cons.1 ht with rfl | ht
        · exact f.order q hq
        · exact ltS_trans (f.order q hq) (h2 u rfl t ht)
      · rw [List.map_cons]
        refine List.pairwise_cons.2 ⟨fun x hx => ?_, h3⟩
        obtain ⟨t, ht, rfl⟩ := List.mem_map.1 hx
        exact h2 u rfl t ht
    · rw [if_neg hf] at h
      exact absurd h hf
structure VOk (l : List Term) : Prop where
  fine : ∀ t ∈ l, ∃ q, Fine l q t
  sorted : Sorted (l.map Term.name)
theorem vok {l : List Term} (h : (vvalid l).2 = eOK) : VOk l := by
  unfold vvalid at h
  by_cases h0 : 128 < l.length
  · rw [if_pos h0] at h; cases h
  · rw [if_neg h0] at h
    obtain ⟨h1, _, h3⟩ := vvalidFrom_fine h
    exact ⟨h1, h3⟩
theorem one_name : ∀ {l : List Term}, Sorted (l.map Term.name) → ∀ {t u : Term}, t ∈ l → u ∈ l → t.name = u.name → t = u
  | [], _, _, _, h, _, _ => by cases h
  | v :: l, hs, t, u, ht, hu, e => by
    rw [List.map_cons] at hs
    obtain ⟨h1, h2⟩ := List.pairwise_cons.1 hs
    rcases List.mem_cons.1 ht with e1 | ht1
    · rcases List.mem_cons.1 hu with e2 | hu1
      · rw [e1, e2]
      · have := h1 _ (List.mem_map_of_mem hu1); rw [← e, e1, ltS_irrefl] at this; cases this
    · rcases List.mem_cons.1 hu with e2 | hu1
      · have := h1 _ (List.mem_map_of_mem ht1); rw [e, e2, ltS_irrefl] at this; cases this
      · exact one_name h2 ht1 hu1 e
theorem findT_ex {l : List Term} {t : Term} (ht : t ∈ l) : ∃ u, findT l t.name = some u := by
  induction l with
  | nil => cases ht
  | cons v l ih =>
    unfold findT
    by_cases he : eqS v.name t.name
    · rw [if_pos he]; exact ⟨v, rfl⟩
    · rw [if_neg he]
      rcases List.mem_cons.1 ht with rfl | ht
      · exact absurd ((eqS_iff _ _).2 rfl) he
      · exact ih ht
theorem VOk.find {l : List Term} (h : VOk l) {t : Term} (ht : t ∈ l) : findT l t.name = some t := by
  obtain ⟨u, hu⟩ := findT_ex ht
  obtain ⟨h1, h2⟩ := findT_some hu
  rw [hu, one_name h.sorted h1 ht h2]
theorem possible_name {t : Term} (h : possible t = true) : isName t.name = true := by
  unfold possible at h
  simp only [Bool.and_eq_true] at h
  exact h.1.1.1.1.1
theorem isName_ne {s : S} (h : isName s = true) : s.data.isEmpty = false := by
  unfold isName at h
  simp only [Bool.and_eq_true, List.all_eq_true] at h
  cases he : s.data.isEmpty with
  | false => rfl
  | true =>
    have h0 : s.data.toList = [] := by simpa using he
    have := h.2 [] (by rw [h0, wordsB]; exact List.mem_singleton.2 rfl)
    simp at this
theorem VOk.name {l : List Term} (h : VOk l) {t : Term} (ht : t ∈ l) : t.name.data.isEmpty = false := by
  obtain ⟨q, f⟩ := h.fine t ht
  exact isName_ne (possible_name f.poss)
section
variable {l : List Term} {heads : List S} {rs : List Ref}
end
end Rf
/- References in order, in plain Lean: compared by name, by name, by kind; sorted. -/
namespace Rf
open Go Go.Lib
end Rf
/- What Of makes of a valid vocabulary, in plain Lean: no reference twice; how it grows term by term. -/
namespace Rf
end Rf
/- Sorting references with repetitions, in plain Lean: sorted and then compacted (the program), inserted one by one (the reference). -/
namespace Rf
open Go.Lib
instance : Inhabited Ref := ⟨⟨ByteArray.empty, ByteArray.empty, false⟩⟩
end Rf
/- The vocabularies that the reference makes of numbers have no flaw, in plain Lean. -/
namespace Rf
/-- the terms so far, of the first i names of N, and the names of the preferred ones -/
structure GI (N : List S) (i : Nat) (l : List Term) (pr : List S) : Prop where
  srt : Sorted (l.map Term.name)
  low : ∀ t ∈ l, t.name ∈ N.take i
  prm : ∀ x ∈ pr, ∃ u ∈ l, u.name = x ∧ u.see.data.isEmpty = true
  prs : Sorted pr
  num : ∀ t ∈ l, 0 ≤ t.kind ∧ t.kind ≤ 2 ∧ 0 ≤ t.lang ∧ t.lang ≤ 3 ∧ t.broader.length ≤ 8
  see : ∀ t ∈ l, t.see.data.isEmpty = true ∨ (t.broader = [] ∧ ∃ u ∈ l, u.name = t.see ∧ u.see.data.isEmpty = true)
  brs : ∀ t ∈ l, Sorted t.broader ∧ ∀ b ∈ t.broader, ltS b t.name = true ∧ ∃ u ∈ l, u.name = b ∧ u.see.data.isEmpty = true
section
variable {N : List S} {i : Nat} {l : List Term} {pr : List S}
theorem GI.start (N : List S) : GI N 0 [] [] :=
  ⟨List.Pairwise.nil, (fun t h => by cases h), (fun x h => by cases h), List.Pairwise.nil, (fun t h => by cases h), (fun t h => by cases h), (fun t h => by cases h)⟩
theorem take_more {α : Type} {N : List α} {i : Nat} {x : α} (h : x ∈ N.take i) : x ∈ N.take (i + 1) := (List.take_subset_take_left N (Nat.le_succ i)) h
theorem GI.skip (h : GI N i l pr) : GI N (i + 1) l pr := { h with low := fun t ht => take_more (h.low t ht) }
theorem later (hN : Sorted N) {x y : S} (hx : N[i]? = some x) (hy : y ∈ N.take i) : ltS y x = true := by
  obtain ⟨hi, rfl⟩ := List.getElem?_eq_some_iff.1 hx
  obtain ⟨j, hj, rfl⟩ := List.getElem_of_mem hy
  rw [List.length_take] at hj
  rw [List.getElem_take]
  exact List.pairwise_iff_getElem.1 hN j i (by omega) hi (by omega)
theorem at_take {x : S} (hx : N[i]? = some x) : x ∈ N.take (i + 1) := by
  rw [List.take_add_one, hx]; simp
theorem GI.names (h : GI N i l pr) (hN : Sorted N) {x : S} (hx : N[i]? = some x) (t : Term) (ht : t.name = x) : Sorted ((l ++ [t]).map Term.name) := by
  rw [List.map_append]
  refine List.pairwise_append.2 ⟨h.srt, by simp, fun a ha b hb => ?_⟩
  obtain ⟨u, hu, rfl⟩ := List.mem_map.1 ha
  simp at hb
  rw [hb, ht]
  exact later hN hx (h.low u hu)
theorem ex_more {x : S} {t : Term} (h : ∃ u ∈ l, u.name = x ∧ u.see.data.isEmpty = true) : ∃ u ∈ l ++ [t], u.name = x ∧ u.see.data.isEmpty = true := by
  obtain ⟨u, h1, h2⟩ := h; exact ⟨u, List.mem_append_left _ h1, h2⟩
theorem GI.add (h : GI N i l pr) (hN : Sorted N) {x : S} (hx : N[i]? = some x) (t : Term) (ht : t.name = x) (hnum : 0 ≤ t.kind ∧ t.kind ≤ 2 ∧ 0 ≤ t.lang ∧ t.lang ≤ 3 ∧ t.broader.length ≤ 8)
    (hs : t.see.data.isEmpty = true ∨ (t.broader = [] ∧ t.see ∈ pr)) (hb : Sorted t.broader ∧ ∀ b ∈ t.broader, b ∈ pr) : GI N (i + 1) (l ++ [t]) pr where
  srt := h.names hN hx t ht
  low u hu := by
    rcases List.mem_append.1 hu with hu | hu
    · exact take_more (h.low u hu)
    · simp at hu; subst hu; rw [ht]; exact at_take hx
  prm y hy := ex_more (h.prm y hy)
  prs := h.prs
  num u hu := by
    rcases List.mem_append.1 hu with hu | hu
    · exact h.num u hu
    · simp at hu; subst hu; exact hnum
  see u hu := by
    rcases List.mem_append.1 hu with hu | hu
    · exact (h.see u hu).imp id fun ⟨h1, h2⟩ => ⟨h1, ex_more h2⟩
    · simp at hu; subst hu
      exact hs.imp id fun ⟨h1, h2⟩ => ⟨h1, ex_more (h.prm _ h2)⟩
  brs u hu := by
    rcases List.mem_append.1 hu with hu | hu
    · exact ⟨(h.brs u hu).1, fun b hb => ⟨((h.brs u hu).2 b hb).1, ex_more ((h.brs u hu).2 b hb).2⟩⟩
    · simp at hu; subst hu
      refine ⟨hb.1, fun b hm => ?_⟩
      have hp := h.prm b (hb.2 b hm)
      refine ⟨?_, ex_more hp⟩
      obtain ⟨v, hv, rfl, _⟩ := hp
      rw [ht]
      exact later hN hx (h.low v hv)
theorem GI.pref (h : GI N i l pr) (hN : Sorted N) {x : S} (hx : N[i]? = some x) (t : Term) (ht : t.name = x) (hnum : 0 ≤ t.kind ∧ t.kind ≤ 2 ∧ 0 ≤ t.lang ∧ t.lang ≤ 3 ∧ t.broader.length ≤ 8)
    (hs : t.see.data.isEmpty = true) (hb : Sorted t.broader ∧ ∀ b ∈ t.broader, b ∈ pr) : GI N (i + 1) (l ++ [t]) (pr ++ [x]) :=
  { h.add hN hx t ht hnum (.inl hs) hb with
    prm := fun y hy => by
      rcases List.mem_append.1 hy with hy | hy
      · exact ex_more (h.prm y hy)
      · simp at hy; subst hy; exact ⟨t, by simp, ht, hs⟩
    prs := by
      refine List.pairwise_append.2 ⟨h.prs, by simp, fun a ha b hb => ?_⟩
      simp at hb; subst hb
      obtain ⟨v, hv, rfl, _⟩ := h.prm a ha
      exact later hN hx (h.low v hv) }
end
/-- the broader names that are being picked from the first k preferred ones -/
def BI (pr : List S) (k : Nat) (bl : List S) : Prop := Sorted bl ∧ ∀ b ∈ bl, b ∈ pr.take k
theorem BI.start (pr : List S) : BI pr 0 [] := ⟨List.Pairwise.nil, fun b h => by cases h⟩
theorem BI.more {pr bl : List S} {k : Nat} (h : BI pr k bl) : BI pr (k + 1) bl := ⟨h.1, fun b hb => take_more (h.2 b hb)⟩
theorem BI.push {pr bl : List S} {k : Nat} {y : S} (h : BI pr k bl) (hp : Sorted pr) (hy : pr[k]? = some y) : BI pr (k + 1) (bl ++ [y]) := by
  refine ⟨List.pairwise_append.2 ⟨h.1, by simp, fun a ha b hb => ?_⟩, fun b hb => ?_⟩
  · simp at hb; subst hb
    exact later hp hy (h.2 a ha)
  · rcases List.mem_append.1 hb with hb | hb
    · exact take_more (h.2 b hb)
    · simp at hb; subst hb
      exact at_take hy
theorem BI.fin {pr bl : List S} {k : Nat} (h : BI pr k bl) : Sorted bl ∧ ∀ b ∈ bl, b ∈ pr := ⟨h.1, fun b hb => List.mem_of_mem_take (h.2 b hb)⟩
theorem sorted_inc : ∀ {l : List S}, Sorted l → increasing l = true
  | [], _ => rfl
  | [_], _ => rfl
  | a :: b :: l, h => by
    obtain ⟨h1, h2⟩ := List.pairwise_cons.1 h
    rw [increasing, h1 b (by simp), sorted_inc h2]; rfl
section
variable {N : List S} {i : Nat} {l : List Term} {pr : List S}
theorem GI.name_in (h : GI N i l pr) {t : Term} (ht : t ∈ l) : t.name ∈ N := List.mem_of_mem_take (h.low t ht)
theorem GI.find (h : GI N i l pr) {u : Term} (hu : u ∈ l) : findT l u.name = some u := by
  obtain ⟨v, hv⟩ := findT_ex hu
  obtain ⟨h1, h2⟩ := findT_some hv
  rw [hv, one_name h.srt h1 hu h2]
theorem GI.down (h : GI N i l pr) {a b : S} (hu : Up (brd l) a b) : ltS b a = true := by
  have one : ∀ {a b : S}, b ∈ brd l a → ltS b a = true := by
    intro a b hb
    unfold brd at hb
    cases hf : findT l a with
    | none => rw [hf] at hb; cases hb
    | some t =>
      rw [hf] at hb
      obtain ⟨h1, rfl⟩ := findT_some hf
      exact ((h.brs t h1).2 b hb).1
  induction hu with
  | one hb => exact one hb
  | step hb _ ih => exact ltS_trans ih (one hb)
theorem GI.fine (h : GI N i l pr) (hN : ∀ x ∈ N, isName x = true) {p : Option Term} {t : Term} (ht : t ∈ l) (hp : ∀ q, p = some q → ltS q.name t.name = true) : flaw l p t = eOK := by
  have hnm : ∀ {x : S}, (∃ u ∈ l, u.name = x ∧ u.see.data.isEmpty = true) → isName x = true ∧ ∃ u, findT l x = some u ∧ u.see.data.isEmpty = true := by
    rintro x ⟨u, hu, rfl, hs⟩
    exact ⟨hN _ (h.name_in hu), u, h.find hu, hs⟩
  obtain ⟨k1, k2, k3, k4, k5⟩ := h.num t ht
  obtain ⟨b1, b2⟩ := h.brs t ht
  have hld : ∀ x ∈ leads t, ∃ u, findT l x = some u ∧ u.see.data.isEmpty = true := by
    intro x hx
    unfold leads at hx
    rcases List.mem_append.1 hx with hx | hx
    · rcases h.see t ht with hs | ⟨_, hs⟩
      · rw [if_pos hs] at hx; cases hx
      · split at hx
        · cases hx
        · simp at hx; subst hx; exact (hnm hs).2
    · exact (hnm (b2 x hx).2).2
  have hposs : possible t = true := by
    unfold possible
    rw [hN _ (h.name_in ht), decide_eq_true (show 0 ≤ t.kind ∧ t.kind ≤ 2 ∧ 0 ≤ t.lang ∧ t.lang ≤ 3 from ⟨k1, k2, k3, k4⟩), decide_eq_true k5, sorted_inc b1]
    have h1 : t.broader.all isName = true := by
      rw [List.all_eq_true]
      exact fun b hb => (hnm (b2 b hb).2).1
    have h2 : (t.see.data.isEmpty || (isName t.see && t.broader.isEmpty)) = true := by
      rcases h.see t ht with hs | ⟨hb, hs⟩
      · rw [hs]; rfl
      · rw [(hnm hs).1, hb]; simp
    rw [h1, h2]; rfl
  have hlate : late p t = false := by
    cases p with
    | none => rfl
    | some q => show (!ltS q.name t.name) = false; rw [hp q rfl]; rfl
  have h3 : ((leads t).any fun n => (findT l n).isNone) = false := by
    rw [List.any_eq_false]
    intro x hx
    obtain ⟨u, hu, _⟩ := hld x hx
    rw [hu]; simp
  have h4 : (leads t).any (second l) = false := by
    rw [List.any_eq_false]
    intro x hx
    obtain ⟨u, hu, hs⟩ := hld x hx
    unfold second
    rw [hu]
    show ¬ (!u.see.data.isEmpty) = true
    rw [hs]; simp
  have h5 : has (ups (brd l) t.name) t.name = false := by
    rw [has_false]
    intro hm
    have := h.down (mem_ups.1 hm)
    rw [ltS_irrefl] at this; cases this
  unfold flaw
  rw [if_neg (by rw [hposs]; simp), if_neg (by rw [hlate]; simp), if_neg (by rw [h3]; simp), if_neg (by rw [h4]; simp), if_neg (by rw [h5]; simp)]
theorem vvFrom_ok {l : List Term} : ∀ (r : List Term) (p : Option Term) (k : Nat), (∀ t ∈ r, ∀ q, (∀ v, q = some v → ltS v.name t.name = true) → flaw l q t = eOK) → Sorted (r.map Term.name) → (∀ t ∈ r, ∀ v, p = some v → ltS v.name t.name = true) → vvalidFrom l r p k = (k + r.length, eOK)
  | [], p, k, _, _, _ => rfl
  | t :: r, p, k, hf, hs, hp => by
    rw [vvalidFrom, if_pos (hf t List.mem_cons_self p (hp t List.mem_cons_self))]
    obtain ⟨h1, h2⟩ := List.pairwise_cons.1 hs
    rw [vvFrom_ok r (some t) (k + 1) (fun u hu => hf u (List.mem_cons_of_mem _ hu)) h2 (fun u hu v hv => by
      injection hv with hv; subst hv
      exact h1 u.name (List.mem_map_of_mem hu))]
    rw [show k + 1 + r.length = k + (t :: r).length from by simp only [List.length_cons]; omega]
theorem GI.valid (h : GI N i l pr) (hN : ∀ x ∈ N, isName x = true) (h8 : l.length ≤ 128) : vvalid l = (l.length, eOK) := by
  unfold vvalid
  rw [if_neg (by omega), vvFrom_ok l none 0 (fun t ht q hq => h.fine hN ht hq) h.srt (fun t _ v hv => by cases hv), Nat.zero_add]
end
end Rf
