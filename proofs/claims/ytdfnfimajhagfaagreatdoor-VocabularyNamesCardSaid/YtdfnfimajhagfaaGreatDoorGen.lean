/- The plain law of ReferTerms: what Of makes of a valid vocabulary is valid; an alias leads to its heading; what is reached lies below. -/
import Derived.Test.YtdfnfimajhagfaaGreatDoorVSpec
import Derived.Test.YtdfnfimajhagfaaGreatDoorFew
import Derived.Test.YtdfnfimajhagfaaGreatDoorSort
import Derived.Lib.Small
import Derived.Lib.SlicesCompact
namespace Rf
/-! ### what stands above, as a list -/
theorem findT_some {l : List Term} {n : S} {t : Term} (h : findT l n = some t) : t ∈ l ∧ t.name = n := by
  induction l with
  | nil => cases h
  | cons u l ih =>
    unfold findT at h
    by_cases he : eqS u.name n
    · rw [if_pos he] at h
      cases h
      exact ⟨List.mem_cons_self, (eqS_iff _ _).1 he⟩
    · rw [if_neg he] at h
      obtain ⟨h1, h2⟩ := ih h
      exact ⟨List.mem_cons_of_mem _ h1, h2⟩
theorem Up.in_ {l : List Term} {a b : S} (h : Up (brd l) a b) : b ∈ l.flatMap Term.broader := by
  have hb : ∀ {a b : S}, b ∈ brd l a → b ∈ l.flatMap Term.broader := fun {a b} h => by
    unfold brd at h
    cases hf : findT l a with
    | none => rw [hf] at h; cases h
    | some t => rw [hf] at h; exact List.mem_flatMap.2 ⟨t, (findT_some hf).1, h⟩
  induction h with
  | one h => exact hb h
  | step _ _ ih => exact ih
open Classical in
theorem isUp_ups (l : List Term) (a : S) : IsUp (brd l) a (ups (brd l) a) := by
  have h : IsUp (brd l) a (sortS ((l.flatMap Term.broader).filter fun b => decide (Up (brd l) a b))) := by
    refine ⟨sorted_sortS _, fun x => ?_⟩
    rw [mem_sortS, List.mem_filter, decide_eq_true_iff]
    exact ⟨fun h => h.2, fun h => ⟨h.in_, h⟩⟩
  rw [ups_eq h]; exact h
theorem mem_ups {l : List Term} {a x : S} : x ∈ ups (brd l) a ↔ Up (brd l) a x := (isUp_ups l a).2 x
/-! ### a valid vocabulary -/
structure Fine (l : List Term) (p : Option Term) (t : Term) : Prop where
  poss : possible t = true
  order : ∀ q, p = some q → ltS q.name t.name = true
  found : ∀ n ∈ leads t, ∃ u, findT l n = some u ∧ u.see.data.isEmpty = true
  circ : has (ups (brd l) t.name) t.name = false
theorem flaw_fine {l : List Term} {p : Option Term} {t : Term} (h : flaw l p t = eOK) : Fine l p t := by
  unfold flaw at h
  by_cases h1 : possible t = false
  · rw [if_pos h1] at h; cases h
  rw [if_neg h1] at h
  by_cases h2 : late p t = true
  · rw [if_pos h2] at h; cases h
  rw [if_neg h2] at h
  by_cases h3 : ((leads t).any fun n => (findT l n).isNone) = true
  · rw [if_pos h3] at h; cases h
  rw [if_neg h3] at h
  by_cases h4 : ((leads t).any (second l)) = true
  · rw [if_pos h4] at h; cases h
  rw [if_neg h4] at h
  by_cases h5 : has (ups (brd l) t.name) t.name = true
  · rw [if_pos h5] at h; cases h
  refine ⟨by simpa using h1, fun q hq => ?_, fun n hn => ?_, by simpa using h5⟩
  · subst hq; simpa [late] using h2
  · simp only [List.any_eq_true, not_exists, not_and] at h3 h4
    have k3 := h3 n hn
    have k4 := h4 n hn
    cases hf : findT l n with
    | none => rw [hf] at k3; exact absurd rfl k3
    | some u => unfold second at k4; rw [hf] at k4; exact ⟨u, rfl, by simpa using k4⟩
theorem vvalidFrom_fine {l : List Term} : ∀ {r : List Term} {p : Option Term} {i : Nat}, (vvalidFrom l r p i).2 = eOK →
    (∀ t ∈ r, ∃ q, Fine l q t) ∧ (∀ q, p = some q → ∀ t ∈ r, ltS q.name t.name = true) ∧ Sorted (r.map Term.name)
  | [], _, _, _ => ⟨by simp, by simp, List.Pairwise.nil⟩
  | u :: r, p, i, h => by
    unfold vvalidFrom at h
    by_cases hf : flaw l p u = eOK
    · rw [if_pos hf] at h
      have f := flaw_fine hf
      obtain ⟨h1, h2, h3⟩ := vvalidFrom_fine h
      refine ⟨fun t ht => ?_, fun q hq t ht => ?_, ?_⟩
      · rcases List.mem_cons.1 ht with rfl | ht
        · exact ⟨p, f⟩
        · exact h1 t ht
      · rcases List.mem_cons.1 ht with rfl | ht
        · exact f.order q hq
        · exact ltS_trans (f.order q hq) (h2 u rfl t ht)
      · rw [List.map_cons]
        refine List.pairwise_cons.2 ⟨fun x hx => ?_, h3⟩
        obtain ⟨t, ht, rfl⟩ := List.mem_map.1 hx
        exact h2 u rfl t ht
    · rw [if_neg hf] at h
      exact absurd h hf
structure VOk (l : List Term) : Prop where
  fine : ∀ t ∈ l, ∃ q, Fine l q t
  sorted : Sorted (l.map Term.name)
theorem vok {l : List Term} (h : (vvalid l).2 = eOK) : VOk l := by
  unfold vvalid at h
  by_cases h0 : 128 < l.length
  · rw [if_pos h0] at h; cases h
  · rw [if_neg h0] at h
    obtain ⟨h1, _, h3⟩ := vvalidFrom_fine h
    exact ⟨h1, h3⟩
theorem one_name : ∀ {l : List Term}, Sorted (l.map Term.name) → ∀ {t u : Term}, t ∈ l → u ∈ l → t.name = u.name → t = u
  | [], _, _, _, h, _, _ => by cases h
  | v :: l, hs, t, u, ht, hu, e => by
    rw [List.map_cons] at hs
    obtain ⟨h1, h2⟩ := List.pairwise_cons.1 hs
    rcases List.mem_cons.1 ht with e1 | ht1
    · rcases List.mem_cons.1 hu with e2 | hu1
      · rw [e1, e2]
      · have := h1 _ (List.mem_map_of_mem hu1); rw [← e, e1, ltS_irrefl] at this; cases this
    · rcases List.mem_cons.1 hu with e2 | hu1
      · have := h1 _ (List.mem_map_of_mem ht1); rw [e, e2, ltS_irrefl] at this; cases this
      · exact one_name h2 ht1 hu1 e
theorem findT_ex {l : List Term} {t : Term} (ht : t ∈ l) : ∃ u, findT l t.name = some u := by
  induction l with
  | nil => cases ht
  | cons v l ih =>
    unfold findT
    by_cases he : eqS v.name t.name
    · rw [if_pos he]; exact ⟨v, rfl⟩
    · rw [if_neg he]
      rcases List.mem_cons.1 ht with rfl | ht
      · exact absurd ((eqS_iff _ _).2 rfl) he
      · exact ih ht
theorem VOk.find {l : List Term} (h : VOk l) {t : Term} (ht : t ∈ l) : findT l t.name = some t := by
  obtain ⟨u, hu⟩ := findT_ex ht
  obtain ⟨h1, h2⟩ := findT_some hu
  rw [hu, one_name h.sorted h1 ht h2]
theorem VOk.brd {l : List Term} (h : VOk l) {t : Term} (ht : t ∈ l) : brd l t.name = t.broader := by
  unfold Rf.brd; rw [h.find ht]
theorem possible_name {t : Term} (h : possible t = true) : isName t.name = true := by
  unfold possible at h
  simp only [Bool.and_eq_true] at h
  exact h.1.1.1.1.1
theorem isName_ne {s : S} (h : isName s = true) : s.data.isEmpty = false := by
  unfold isName at h
  simp only [Bool.and_eq_true, List.all_eq_true] at h
  cases he : s.data.isEmpty with
  | false => rfl
  | true =>
    have h0 : s.data.toList = [] := by simpa using he
    have := h.2 [] (by rw [h0, wordsB]; exact List.mem_singleton.2 rfl)
    simp at this
theorem VOk.name {l : List Term} (h : VOk l) {t : Term} (ht : t ∈ l) : t.name.data.isEmpty = false := by
  obtain ⟨q, f⟩ := h.fine t ht
  exact isName_ne (possible_name f.poss)
/-! ### the references -/
theorem mem_ofTerm {heads : List S} {t : Term} {r : Ref} : r ∈ ofTerm heads t ↔ (has heads t.name = true ∧ has heads r.frm = true ∧ r.frm ∈ t.broader ∧ r.to = t.name ∧ r.also = true) ∨
    (has heads t.name = false ∧ t.see.data.isEmpty = false ∧ has heads t.see = true ∧ r.frm = t.name ∧ r.to = t.see ∧ r.also = false) := by
  unfold ofTerm
  by_cases h : has heads t.name = true
  · rw [if_pos h]
    simp only [List.mem_map, List.mem_filter]
    constructor
    · rintro ⟨b, ⟨h1, h2⟩, rfl⟩
      exact .inl ⟨h, h2, h1, rfl, rfl⟩
    · rintro (⟨_, h2, h3, h4, h5⟩ | ⟨h1, _⟩)
      · exact ⟨r.frm, ⟨h3, h2⟩, by cases r; simp only at h4 h5 ⊢; rw [h4, h5]⟩
      · rw [h] at h1; cases h1
  · have h' : has heads t.name = false := by simpa using h
    rw [if_neg h]
    by_cases hs : (!t.see.data.isEmpty && has heads t.see) = true
    · rw [if_pos hs]
      simp only [Bool.and_eq_true, Bool.not_eq_true'] at hs
      rw [List.mem_singleton]
      constructor
      · rintro rfl
        exact .inr ⟨h', hs.1, hs.2, rfl, rfl, rfl⟩
      · rintro (⟨h1, _⟩ | ⟨_, _, _, h4, h5, h6⟩)
        · exact absurd h1 h
        · cases r; simp only at h4 h5 h6 ⊢; rw [h4, h5, h6]
    · rw [if_neg hs]
      simp only [Bool.and_eq_true, Bool.not_eq_true', not_and] at hs
      constructor
      · intro h; cases h
      · rintro (⟨h1, _⟩ | ⟨_, h2, h3, _⟩)
        · exact absurd h1 h
        · exact absurd h3 (hs h2)
theorem mem_ofAll {l : List Term} {heads : List S} {r : Ref} : r ∈ ofAll l heads ↔ ∃ t ∈ l, r ∈ ofTerm heads t := List.mem_flatMap
section
variable {l : List Term} {heads : List S} {rs : List Ref}
theorem of_name (hm : ∀ r, r ∈ rs ↔ r ∈ ofAll l heads) {r : Ref} (hr : r ∈ rs) : has heads r.frm = r.also ∧ has heads r.to = true := by
  obtain ⟨t, _, h⟩ := mem_ofAll.1 ((hm r).1 hr)
  rcases mem_ofTerm.1 h with ⟨h1, h2, _, h4, h5⟩ | ⟨h1, _, h3, h4, h5, h6⟩
  · rw [h2, h5, h4]; exact ⟨rfl, h1⟩
  · rw [h4, h6, h5]; exact ⟨h1, h3⟩
theorem of_apart (hv : VOk l) (hn : rs.Nodup) (hm : ∀ r, r ∈ rs ↔ r ∈ ofAll l heads) : rs.Pairwise Apart := by
  refine List.Pairwise.imp_of_mem ?_ hn
  intro a b ha hb hab
  refine ⟨hab, ?_⟩
  rintro ⟨h1, h2, h3⟩
  obtain ⟨t, ht, ka⟩ := mem_ofAll.1 ((hm a).1 ha)
  obtain ⟨u, hu, kb⟩ := mem_ofAll.1 ((hm b).1 hb)
  rcases mem_ofTerm.1 ka with ⟨_, _, _, _, h5⟩ | ⟨_, _, _, a4, a5, a6⟩
  · rw [h1] at h5; cases h5
  rcases mem_ofTerm.1 kb with ⟨_, _, _, _, h5⟩ | ⟨_, _, _, b4, b5, b6⟩
  · rw [h2] at h5; cases h5
  have e : t = u := one_name hv.sorted ht hu (by rw [← a4, ← b4, h3])
  subst e
  apply hab
  cases a; cases b
  simp only at a4 a5 a6 b4 b5 b6 ⊢
  rw [a4, a5, a6, b4, b5, b6]
/-- what Of makes is valid -/
theorem of_valid (hv : VOk l) (hn : rs.Nodup) (hm : ∀ r, r ∈ rs ↔ r ∈ ofAll l heads) : valid rs heads = (rs.length, eOK) := by
  refine valid_of_ok fun i r hr => (good_iff hr).2 ?_
  have hmem := List.mem_of_getElem? hr
  have hap := of_apart hv hn hm
  obtain ⟨n1, n2⟩ := of_name hm hmem
  refine ⟨fun h => (apart_take hap hr r h).1 rfl, n1, fun ha => apart_see hap hr ha, .inl n2, fun ha e => ?_, fun ha => ?_⟩
  · obtain ⟨t, ht, k⟩ := mem_ofAll.1 ((hm r).1 hmem)
    rcases mem_ofTerm.1 k with ⟨_, _, h3, h4, _⟩ | ⟨_, _, _, _, _, h6⟩
    · obtain ⟨q, f⟩ := hv.fine t ht
      have : t.name ∈ ups (brd l) t.name := mem_ups.2 (.one (by rw [hv.brd ht, ← h4, ← e]; exact h3))
      have hc := f.circ
      rw [has_false] at hc
      exact hc this
    · rw [ha] at h6; cases h6
  · have hne : eqS r.to r.frm = false := by
      rw [eqS_false]
      intro e
      rw [ha] at n1
      rw [e, n1] at n2; cases n2
    unfold circles
    rw [if_neg (by rw [hne]; simp)]
    cases see rs r.to with
    | none => rfl
    | some k => show (if has heads r.to = true then false else _) = false; rw [if_pos n2]
/-- an alias of a heading leads to it in one step -/
theorem of_alias (hm : ∀ r, (vvalid l).2 = eOK → (r ∈ rs ↔ r ∈ ofAll l heads)) {a h : S} (ha : a ∈ aliases l h) (hh : has heads h = true) (hna : has heads a = false) : has (reach rs heads a 1) h = true := by
  unfold aliases at ha
  by_cases hc : (vvalid l).2 = eOK ∧ (findT l h).isSome = true
  · rw [if_pos hc] at ha
    obtain ⟨hok, hf⟩ := hc
    obtain ⟨t, ht, rfl⟩ := List.mem_map.1 ha
    obtain ⟨ht, he⟩ := List.mem_filter.1 ht
    have hsee := (eqS_iff _ _).1 he
    obtain ⟨u, hu⟩ := Option.isSome_iff_exists.1 hf
    obtain ⟨hu1, hu2⟩ := findT_some hu
    have hne : t.see.data.isEmpty = false := by rw [hsee, ← hu2]; exact (vok hok).name hu1
    have hr : (⟨t.name, h, false⟩ : Ref) ∈ rs := (hm _ hok).2 (mem_ofAll.2 ⟨t, ht, mem_ofTerm.2 (.inr ⟨hna, hne, by rw [hsee]; exact hh, rfl, hsee.symm, rfl⟩)⟩)
    rw [has_iff, reach_mem]
    have hw : W rs t.name 1 h := W_edge (n := 0) hr rfl
    obtain ⟨d, hd, hd1⟩ := dist_of_W hw
    exact ⟨(has_iff _ _).1 hh, d, hd, by omega⟩
  · rw [if_neg hc] at ha; cases ha
/-- what is reached from a heading lies below it -/
theorem of_below (hv : VOk l) (hm : ∀ r, r ∈ rs ↔ r ∈ ofAll l heads) {h : S} (hh : has heads h = true) : ∀ {n : Nat} {x : S}, W rs h n x → has heads x = true ∧ (x = h ∨ Up (brd l) x h)
  | 0, x, hw => by
    have e : x = h := hw
    subst e; exact ⟨hh, .inl rfl⟩
  | n + 1, x, hw => by
    rcases hw with hw | ⟨r, hr, hw, rfl⟩
    · exact of_below hv hm hh hw
    · obtain ⟨k1, k2⟩ := of_below hv hm hh hw
      obtain ⟨t, ht, k⟩ := mem_ofAll.1 ((hm r).1 hr)
      rcases mem_ofTerm.1 k with ⟨h1, h2, h3, h4, _⟩ | ⟨h1, _, _, h4, _, _⟩
      · have hb : r.frm ∈ brd l r.to := by rw [h4, hv.brd ht]; exact h3
        refine ⟨by rw [h4]; exact h1, .inr ?_⟩
        rcases k2 with k2 | k2
        · rw [k2] at hb; exact .one hb
        · exact .step hb k2
      · rw [← h4, k1] at h1; cases h1
theorem of_reach (hm : ∀ r, (vvalid l).2 = eOK → (r ∈ rs ↔ r ∈ ofAll l heads)) (h0 : (vvalid l).2 ≠ eOK → rs = []) {h x : S} (hh : has heads h = true) (hx : x ∈ reach rs heads h 8) (hne : x ≠ h) : has (aboveOf l x) h = true := by
  obtain ⟨_, d, hd, _⟩ := reach_mem.1 hx
  have hw := (dist_some.1 hd).1
  by_cases hok : (vvalid l).2 = eOK
  · rcases (of_below (vok hok) (fun r => hm r hok) hh hw).2 with e | hu
    · exact absurd e hne
    · unfold aboveOf
      rw [if_pos hok, has_iff]
      exact mem_ups.2 hu
  · rw [h0 hok] at hw
    have : ∀ {n : Nat} {x : S}, W [] h n x → x = h := by
      intro n
      induction n with
      | zero => intro x h; exact h
      | succ n ih =>
        intro x hw
        rcases hw with hw | ⟨r, hr, _⟩
        · exact ih hw
        · cases hr
    exact absurd (this hw) hne
end
end Rf
/- References in order, in plain Lean: compared by name, by name, by kind; sorted. -/
namespace Rf
open Go Go.Lib
def befR (a b : Ref) : Bool := if a.frm ≠ b.frm then ltS a.frm b.frm else if a.to ≠ b.to then ltS a.to b.to else !a.also && b.also
theorem befR_irrefl (a : Ref) : befR a a = false := by unfold befR; simp
theorem befR_total (a b : Ref) : befR a b = true ∨ a = b ∨ befR b a = true := by
  by_cases h1 : a.frm = b.frm
  · by_cases h2 : a.to = b.to
    · cases a; cases b
      simp only at h1 h2
      subst h1; subst h2
      rename_i x y
      cases x <;> cases y <;> simp [befR]
    · rcases ltS_total a.to b.to with h | h | h
      · exact .inl (by unfold befR; simp [h1, h2, h])
      · exact absurd h h2
      · exact .inr (.inr (by unfold befR; simp [h1, Ne.symm h2, h]))
  · rcases ltS_total a.frm b.frm with h | h | h
    · exact .inl (by unfold befR; simp [h1, h])
    · exact absurd h h1
    · exact .inr (.inr (by unfold befR; simp [Ne.symm h1, h]))
theorem ltS_ne {a b : S} (h : ltS a b = true) : a ≠ b := by rintro rfl; rw [ltS_irrefl] at h; cases h
theorem befR_cases {a b : Ref} (h : befR a b = true) : ltS a.frm b.frm = true ∨ (a.frm = b.frm ∧ ltS a.to b.to = true) ∨ (a.frm = b.frm ∧ a.to = b.to ∧ a.also = false ∧ b.also = true) := by
  unfold befR at h
  by_cases h1 : a.frm = b.frm
  · rw [if_neg (by simp [h1])] at h
    by_cases h2 : a.to = b.to
    · rw [if_neg (by simp [h2])] at h
      simp at h
      exact .inr (.inr ⟨h1, h2, h⟩)
    · rw [if_pos h2] at h
      exact .inr (.inl ⟨h1, h⟩)
  · rw [if_pos h1] at h
    exact .inl h
theorem befR_of {a b : Ref} (h : ltS a.frm b.frm = true ∨ (a.frm = b.frm ∧ ltS a.to b.to = true) ∨ (a.frm = b.frm ∧ a.to = b.to ∧ a.also = false ∧ b.also = true)) : befR a b = true := by
  unfold befR
  rcases h with h | ⟨h1, h⟩ | ⟨h1, h2, h3, h4⟩
  · rw [if_pos (ltS_ne h)]; exact h
  · rw [if_neg (by simp [h1]), if_pos (ltS_ne h)]; exact h
  · rw [if_neg (by simp [h1]), if_neg (by simp [h2]), h3, h4]; rfl
theorem befR_trans {a b c : Ref} (h : befR a b = true) (k : befR b c = true) : befR a c = true := by
  apply befR_of
  rcases befR_cases h with h | ⟨h1, h⟩ | ⟨h1, h2, h3, h4⟩ <;> rcases befR_cases k with k | ⟨k1, k⟩ | ⟨k1, k2, k3, k4⟩
  · exact .inl (ltS_trans h k)
  · exact .inl (k1 ▸ h)
  · exact .inl (k1 ▸ h)
  · exact .inl (h1 ▸ k)
  · exact .inr (.inl ⟨h1.trans k1, ltS_trans h k⟩)
  · exact .inr (.inl ⟨h1.trans k1, k2 ▸ h⟩)
  · exact .inl (h1 ▸ k)
  · exact .inr (.inl ⟨h1.trans k1, h2 ▸ k⟩)
  · rw [h4] at k3; cases k3
def SortedR (l : List Ref) : Prop := l.Pairwise fun a b => befR a b = true
theorem SortedR.nodup {l : List Ref} (h : SortedR l) : l.Nodup := List.Pairwise.imp (fun {a b} hab e => by subst e; rw [befR_irrefl] at hab; cases hab) h
def leR (x y : Ref) : Bool := !befR y x
theorem leR_trans (x y z : Ref) (h1 : leR x y = true) (h2 : leR y z = true) : leR x z = true := by
  unfold leR at *
  simp only [Bool.not_eq_true'] at *
  rcases befR_total x y with h | rfl | h
  · cases hz : befR z x
    · rfl
    · rw [befR_trans hz h] at h2; cases h2
  · exact h2
  · rw [h] at h1; cases h1
theorem leR_total (x y : Ref) : (leR x y || leR y x) = true := by
  unfold leR
  rcases befR_total x y with h | rfl | h
  · have : befR y x = false := by
      cases k : befR y x
      · rfl
      · have := befR_trans h k; rw [befR_irrefl] at this; cases this
    rw [this]; rfl
  · rw [befR_irrefl]; rfl
  · have : befR x y = false := by
      cases k : befR x y
      · rfl
      · have := befR_trans h k; rw [befR_irrefl] at this; cases this
    rw [this]; simp
def msortR (l : List Ref) : List Ref := l.mergeSort leR
theorem msortR_pair (l : List Ref) : (msortR l).Pairwise fun x y => leR x y = true := List.pairwise_mergeSort leR_trans leR_total l
theorem mem_msortR {l : List Ref} {x : Ref} : x ∈ msortR l ↔ x ∈ l := (List.mergeSort_perm l leR).mem_iff
theorem msortR_length (l : List Ref) : (msortR l).length = l.length := (List.mergeSort_perm l leR).length_eq
theorem msortR_sorted {l : List Ref} (h : l.Nodup) : SortedR (msortR l) := by
  have hn : (msortR l).Nodup := ((List.mergeSort_perm l leR).nodup_iff).2 h
  refine (List.Pairwise.and (msortR_pair l) hn).imp ?_
  rintro a b ⟨h1, h2⟩
  unfold leR at h1
  rcases befR_total a b with k | k | k
  · exact k
  · exact absurd k h2
  · rw [k] at h1; cases h1
/-! ### what the program's comparison says -/
def orI : List Int → Int
  | [] => 0
  | x :: l => if x = 0 then orI l else x
def alsoI (r : Ref) : Int := if r.also then 1 else 0
def cfR (a b : Ref) : Int := orI [compareBytes a.frm.data.toList b.frm.data.toList, compareBytes a.to.data.toList b.to.data.toList, compareInt (alsoI a) (alsoI b)]
theorem cmpB_zero : ∀ (x y : List UInt8), compareBytes x y = 0 ↔ x = y
  | [], [] => by simp [compareBytes]
  | [], _ :: _ => by simp [compareBytes]
  | _ :: _, [] => by simp [compareBytes]
  | a :: r, b :: t => by
    rw [compareBytes]
    by_cases h1 : a < b
    · rw [if_pos h1]; simp; rintro rfl; exact absurd h1 (UInt8.lt_irrefl _)
    · rw [if_neg h1]
      by_cases h2 : b < a
      · rw [if_pos h2]; simp; rintro rfl; exact absurd h2 (UInt8.lt_irrefl _)
      · rw [if_neg h2, cmpB_zero r t]
        have : a = b := UInt8.le_antisymm (UInt8.not_lt.1 h2) (UInt8.not_lt.1 h1)
        simp [this]
theorem cmpB_range : ∀ (x y : List UInt8), -1 ≤ compareBytes x y ∧ compareBytes x y ≤ 1
  | [], [] => by simp [compareBytes]
  | [], _ :: _ => by simp [compareBytes]
  | _ :: _, [] => by simp [compareBytes]
  | a :: r, b :: t => by
    rw [compareBytes]
    split
    · omega
    · split
      · omega
      · exact cmpB_range r t
theorem data_inj {a b : S} (h : a.data.toList = b.data.toList) : a = b := ByteArray.ext (Array.ext' h)
theorem cmpB_neg (a b : S) : compareBytes a.data.toList b.data.toList < 0 ↔ ltS a b = true := by
  rw [cmp_lt, ltS_iff, Go.ByteArray.toList_eq, Go.ByteArray.toList_eq]
theorem ltOfR (a b : Ref) : Go.Proofs.ltOf cfR a b = befR a b := by
  unfold Go.Proofs.ltOf cfR
  rw [Bool.eq_iff_iff, decide_eq_true_iff]
  have e : ∀ x y : S, compareBytes x.data.toList y.data.toList = 0 ↔ x = y := fun x y => (cmpB_zero _ _).trans ⟨data_inj, fun h => by rw [h]⟩
  by_cases h1 : a.frm = b.frm
  · rw [orI, if_pos ((e _ _).2 h1)]
    by_cases h2 : a.to = b.to
    · rw [orI, if_pos ((e _ _).2 h2)]
      unfold befR orI orI compareInt alsoI
      cases a.also <;> cases b.also <;> simp [h1, h2]
    · rw [orI, if_neg (fun h => h2 ((e _ _).1 h)), cmpB_neg]
      unfold befR; simp [h1, h2]
  · rw [orI, if_neg (fun h => h1 ((e _ _).1 h)), cmpB_neg]
    unfold befR; simp [h1]
theorem swoR : Sort.SWO (Go.Proofs.ltOf cfR) where
  irrefl x := by rw [ltOfR]; exact befR_irrefl _
  trans x y z h1 h2 := by rw [ltOfR] at *; exact befR_trans h1 h2
  ntrans x y z h1 h2 := by
    rw [ltOfR] at *
    have := leR_trans z y x (by unfold leR; rw [h2]; rfl) (by unfold leR; rw [h1]; rfl)
    unfold leR at this
    simpa using this
theorem partsR (x y : Ref) (h1 : Go.Proofs.ltOf cfR x y = false) (h2 : Go.Proofs.ltOf cfR y x = false) : x = y := by
  rw [ltOfR] at *
  rcases befR_total x y with h | h | h
  · rw [h1] at h; cases h
  · exact h
  · rw [h2] at h; cases h
end Rf
/- What Of makes of a valid vocabulary, in plain Lean: no reference twice; how it grows term by term. -/
namespace Rf
theorem inc_sorted : ∀ {l : List S}, increasing l = true → Sorted l
  | [], _ => List.Pairwise.nil
  | [a], _ => List.pairwise_singleton _ _
  | a :: b :: l, h => by
    unfold increasing at h
    simp only [Bool.and_eq_true] at h
    have ih := inc_sorted h.2
    refine List.pairwise_cons.2 ⟨fun x hx => ?_, ih⟩
    rcases List.mem_cons.1 hx with rfl | hx
    · exact h.1
    · exact ltS_trans h.1 ((List.pairwise_cons.1 ih).1 x hx)
theorem possible_inc {t : Term} (h : possible t = true) : increasing t.broader = true := by
  unfold possible at h
  simp only [Bool.and_eq_true] at h
  exact h.2
theorem ofTerm_nodup {heads : List S} {t : Term} (h : t.broader.Nodup) : (ofTerm heads t).Nodup := by
  unfold ofTerm
  by_cases h1 : has heads t.name = true
  · rw [if_pos h1]
    unfold List.Nodup
    rw [List.pairwise_map]
    exact (h.filter _).imp fun hab e => hab (by injection e)
  · rw [if_neg h1]
    split
    · exact List.pairwise_singleton _ _
    · exact List.nodup_nil
theorem pair_nodup {heads : List S} : ∀ {l : List Term}, Sorted (l.map Term.name) → (∀ t ∈ l, t.broader.Nodup) → (ofAll l heads).Nodup
  | [], _, _ => List.nodup_nil
  | t :: l, hs, hb => by
    rw [List.map_cons] at hs
    obtain ⟨h1, h2⟩ := List.pairwise_cons.1 hs
    unfold ofAll
    rw [List.flatMap_cons, List.nodup_append]
    refine ⟨ofTerm_nodup (hb t List.mem_cons_self), pair_nodup h2 fun u hu => hb u (List.mem_cons_of_mem _ hu), fun x hx y hy e => ?_⟩
    subst e
    obtain ⟨u, hu, hy⟩ := List.mem_flatMap.1 hy
    have hne : t.name ≠ u.name := ltS_ne (h1 _ (List.mem_map_of_mem hu))
    rcases mem_ofTerm.1 hx with ⟨_, _, _, a4, a5⟩ | ⟨_, _, _, a4, a5, a6⟩ <;> rcases mem_ofTerm.1 hy with ⟨_, _, _, b4, b5⟩ | ⟨_, _, _, b4, b5, b6⟩
    · exact hne (a4.symm.trans b4)
    · rw [a5] at b6; cases b6
    · rw [a6] at b5; cases b5
    · exact hne (a4.symm.trans b4)
theorem ofAll_nodup {l : List Term} {heads : List S} (h : VOk l) : (ofAll l heads).Nodup :=
  pair_nodup h.sorted fun t ht => by
    obtain ⟨q, f⟩ := h.fine t ht
    exact (inc_sorted (possible_inc f.poss)).nodup
theorem ofAll_snoc {l : List Term} {heads : List S} {k : Nat} {t : Term} (h : l[k]? = some t) : ofAll (l.take (k + 1)) heads = ofAll (l.take k) heads ++ ofTerm heads t := by
  unfold ofAll; rw [take_snoc h, List.flatMap_append]; simp
theorem ofTerm_head {heads : List S} {t : Term} (h : has heads t.name = true) : ofTerm heads t = (t.broader.filter fun b => has heads b).map fun b => ⟨b, t.name, true⟩ := by unfold ofTerm; rw [if_pos h]
theorem ofTerm_see {heads : List S} {t : Term} (h : has heads t.name = false) (h1 : t.see.data.isEmpty = false) (h2 : has heads t.see = true) : ofTerm heads t = [⟨t.name, t.see, false⟩] := by
  unfold ofTerm; rw [if_neg (by rw [h]; simp), if_pos (by rw [h1, h2]; rfl)]
theorem ofTerm_none {heads : List S} {t : Term} (h : has heads t.name = false) (h1 : (!t.see.data.isEmpty && has heads t.see) = false) : ofTerm heads t = [] := by
  unfold ofTerm; rw [if_neg (by rw [h]; simp), if_neg (by rw [h1]; simp)]
/-- the references of a head so far -/
def brTake (heads : List S) (t : Term) (j : Nat) : List Ref := ((t.broader.take j).filter fun b => has heads b).map fun b => ⟨b, t.name, true⟩
theorem brTake_zero (heads : List S) (t : Term) : brTake heads t 0 = [] := rfl
theorem brTake_hit {heads : List S} {t : Term} {j : Nat} {b : S} (h : t.broader[j]? = some b) (hb : has heads b = true) : brTake heads t (j + 1) = brTake heads t j ++ [⟨b, t.name, true⟩] := by
  unfold brTake; rw [take_snoc h, List.filter_append]; simp [hb]
theorem brTake_miss {heads : List S} {t : Term} {j : Nat} {b : S} (h : t.broader[j]? = some b) (hb : has heads b = false) : brTake heads t (j + 1) = brTake heads t j := by
  unfold brTake; rw [take_snoc h, List.filter_append]; simp [hb]
theorem brTake_all {heads : List S} {t : Term} {n : Nat} (h : t.broader.length ≤ n) (hh : has heads t.name = true) : brTake heads t n = ofTerm heads t := by
  unfold brTake; rw [ofTerm_head hh, List.take_of_length_le h]
theorem brTake_len (heads : List S) (t : Term) (j : Nat) : (brTake heads t j).length ≤ j := by
  unfold brTake; rw [List.length_map]; exact Nat.le_trans (List.length_filter_le _ _) (by rw [List.length_take]; omega)
theorem brTake_mem {heads : List S} {t : Term} {j : Nat} {r : Ref} (h : r ∈ brTake heads t j) : r.frm ∈ t.broader ∧ r.to = t.name := by
  unfold brTake at h
  obtain ⟨b, hb, rfl⟩ := List.mem_map.1 h
  exact ⟨List.mem_of_mem_take (List.mem_filter.1 hb).1, rfl⟩
end Rf
/- Sorting references with repetitions, in plain Lean: sorted and then compacted (the program), inserted one by one (the reference). -/
namespace Rf
open Go.Lib
instance : Inhabited Ref := ⟨⟨ByteArray.empty, ByteArray.empty, false⟩⟩
theorem not_befR {a b : Ref} (h : befR a b = false) (hne : a ≠ b) : befR b a = true := by
  rcases befR_total a b with k | k | k
  · rw [h] at k; cases k
  · exact absurd k hne
  · exact k
theorem compactR_sorted {l : List Ref} (h : l.Pairwise (fun x y => leR x y = true)) : SortedR (compact l) := by
  unfold compact compactUpTo SortedR
  rw [List.pairwise_map]
  have hr : ((List.range l.length).filter (keeps l.toArray)).Pairwise (fun i j => i < j ∧ j < l.length ∧ keeps l.toArray j = true) := by
    refine List.Pairwise.imp_of_mem ?_ ((List.pairwise_lt_range (n := l.length)).sublist List.filter_sublist)
    intro i j hi hj hij
    have := List.mem_filter.1 hj
    exact ⟨hij, List.mem_range.1 this.1, this.2⟩
  refine hr.imp fun {i j} ⟨hij, hj, hk⟩ => ?_
  have hle : ∀ a b, a < b → b < l.length → befR l.toArray[b]! l.toArray[a]! = false := fun a b hab hb => by
    have := List.pairwise_iff_getElem.1 h a b (by omega) hb hab
    unfold leR at this
    rw [Bool.not_eq_true'] at this
    simpa [hb, show a < l.length from by omega] using this
  have hne : l.toArray[j]! ≠ l.toArray[j - 1]! := by
    unfold keeps at hk
    rw [decide_eq_true_eq] at hk
    rcases hk with hk | hk
    · omega
    · exact hk
  have h1 : befR l.toArray[j - 1]! l.toArray[j]! = true := not_befR (hle (j - 1) j (by omega) hj) fun e => hne e
  by_cases hij' : i = j - 1
  · rw [hij']; exact h1
  · have h2 := hle i (j - 1) (by omega) (by omega)
    rcases befR_total l.toArray[i]! l.toArray[j - 1]! with hh | hh | hh
    · exact befR_trans hh h1
    · rw [hh]; exact h1
    · rw [h2] at hh; cases hh
theorem mem_compactR {l : List Ref} {x : Ref} : x ∈ compact l ↔ x ∈ l := by
  unfold compact compactUpTo
  constructor
  · intro h
    obtain ⟨i, hi, rfl⟩ := List.mem_map.1 h
    have := List.mem_range.1 (List.mem_filter.1 hi).1
    simp [this]
  · intro h
    obtain ⟨k, hk, hx⟩ := List.getElem_of_mem h
    have hex : ∃ i, i < l.length ∧ l.toArray[i]! = x := ⟨k, hk, by simp [hk, hx]⟩
    obtain ⟨i, ⟨hi, hix⟩, hmin⟩ : ∃ i, (i < l.length ∧ l.toArray[i]! = x) ∧ ∀ j, j < i → ¬ (j < l.length ∧ l.toArray[j]! = x) := by
      obtain ⟨n, hn⟩ := hex
      induction n using Nat.strongRecOn with
      | _ n ih =>
        by_cases hm : ∃ j, j < n ∧ (j < l.length ∧ l.toArray[j]! = x)
        · obtain ⟨j, hj, hj2⟩ := hm; exact ih j hj hj2
        · exact ⟨n, hn, fun j hj c => hm ⟨j, hj, c⟩⟩
    refine List.mem_map.2 ⟨i, List.mem_filter.2 ⟨List.mem_range.2 hi, ?_⟩, hix⟩
    unfold keeps
    by_cases h0 : i = 0
    · simp [h0]
    · have := hmin (i - 1) (by omega)
      have hne : l.toArray[i]! ≠ l.toArray[i - 1]! := fun e => this ⟨by omega, by rw [← e]; exact hix⟩
      exact decide_eq_true (.inr hne)
/-- one more reference at its place -/
theorem insR_sorted {o : List Ref} {r : Ref} {k : Nat} (hs : SortedR o) (hk : k ≤ o.length) (hgt : ∀ x ∈ o.drop k, befR r x = true) (hle : ∀ x, 0 < k → o[k - 1]? = some x → befR x r = true) : SortedR (o.take k ++ r :: o.drop k) := by
  have hall : ∀ x ∈ o.take k, befR x r = true := by
    intro x hx
    obtain ⟨j, hj, rfl⟩ := List.getElem_of_mem hx
    rw [List.length_take] at hj
    rw [List.getElem_take]
    have hk0 : 0 < k := by omega
    have hl : o[k - 1]? = some o[k - 1] := List.getElem?_eq_getElem (by omega)
    have h1 := hle _ hk0 hl
    by_cases e : j = k - 1
    · subst e; exact h1
    · exact befR_trans (List.pairwise_iff_getElem.1 hs j (k - 1) (by omega) (by omega) (by omega)) h1
  refine List.pairwise_append.2 ⟨hs.sublist (List.take_sublist _ _), List.pairwise_cons.2 ⟨hgt, hs.sublist (List.drop_sublist _ _)⟩, fun a ha b hb => ?_⟩
  rcases List.mem_cons.1 hb with rfl | hb
  · exact hall a ha
  · exact befR_trans (hall a ha) (hgt b hb)
theorem mem_insR {o : List Ref} {r x : Ref} {k : Nat} : x ∈ o.take k ++ r :: o.drop k ↔ x = r ∨ x ∈ o := by
  rw [List.mem_append, List.mem_cons]
  constructor
  · rintro (h | h | h)
    · exact .inr (List.mem_of_mem_take h)
    · exact .inl h
    · exact .inr (List.mem_of_mem_drop h)
  · rintro (h | h)
    · exact .inr (.inl h)
    · rw [← List.take_append_drop k o] at h
      rcases List.mem_append.1 h with h | h
      · exact .inl h
      · exact .inr (.inr h)
/-- two sorted lists of references with the same members are one -/
theorem SortedR.eq_of_mem : ∀ {l m : List Ref}, SortedR l → SortedR m → (∀ x, x ∈ l ↔ x ∈ m) → l = m
  | [], [], _, _, _ => rfl
  | [], b :: m, _, _, h => by have := (h b).2 (by simp); simp at this
  | a :: l, [], _, _, h => by have := (h a).1 (by simp); simp at this
  | a :: l, b :: m, hl, hm, h => by
    obtain ⟨h1, h2⟩ := List.pairwise_cons.1 hl
    obtain ⟨k1, k2⟩ := List.pairwise_cons.1 hm
    have asym : ∀ {x y : Ref}, befR x y = true → befR y x = true → False := fun p q => by
      have := befR_trans p q; rw [befR_irrefl] at this; cases this
    have hab : a = b := by
      have ha := (h a).1 (by simp)
      have hb := (h b).2 (by simp)
      rcases List.mem_cons.1 ha with e | ha
      · exact e
      · rcases List.mem_cons.1 hb with e | hb
        · exact e.symm
        · exact (asym (k1 a ha) (h1 b hb)).elim
    subst hab
    congr 1
    refine SortedR.eq_of_mem h2 k2 fun x => ?_
    constructor
    · intro hx
      rcases List.mem_cons.1 ((h x).1 (List.mem_cons_of_mem _ hx)) with e | hx'
      · subst e; have := h1 _ hx; rw [befR_irrefl] at this; cases this
      · exact hx'
    · intro hx
      rcases List.mem_cons.1 ((h x).2 (List.mem_cons_of_mem _ hx)) with e | hx'
      · subst e; have := k1 _ hx; rw [befR_irrefl] at this; cases this
      · exact hx'
/-- the reference's insertion under way: what is looked at behind k comes later -/
theorem Before_spec (a b : Ref) : befR a b = if eqS a.frm b.frm = false then ltS a.frm b.frm else if eqS a.to b.to = false then ltS a.to b.to else !a.also && b.also := by
  unfold befR
  by_cases h1 : a.frm = b.frm
  · rw [(eqS_iff _ _).2 h1]
    by_cases h2 : a.to = b.to
    · rw [(eqS_iff _ _).2 h2]; simp [h1, h2]
    · rw [(eqS_false _ _).2 h2]; simp [h1, h2]
  · rw [(eqS_false _ _).2 h1]; simp [h1]
end Rf
/- The vocabularies that the reference makes of numbers have no flaw, in plain Lean. -/
namespace Rf
/-- the terms so far, of the first i names of N, and the names of the preferred ones -/
structure GI (N : List S) (i : Nat) (l : List Term) (pr : List S) : Prop where
  srt : Sorted (l.map Term.name)
  low : ∀ t ∈ l, t.name ∈ N.take i
  prm : ∀ x ∈ pr, ∃ u ∈ l, u.name = x ∧ u.see.data.isEmpty = true
  prs : Sorted pr
  num : ∀ t ∈ l, 0 ≤ t.kind ∧ t.kind ≤ 2 ∧ 0 ≤ t.lang ∧ t.lang ≤ 3 ∧ t.broader.length ≤ 8
  see : ∀ t ∈ l, t.see.data.isEmpty = true ∨ (t.broader = [] ∧ ∃ u ∈ l, u.name = t.see ∧ u.see.data.isEmpty = true)
  brs : ∀ t ∈ l, Sorted t.broader ∧ ∀ b ∈ t.broader, ltS b t.name = true ∧ ∃ u ∈ l, u.name = b ∧ u.see.data.isEmpty = true
section
variable {N : List S} {i : Nat} {l : List Term} {pr : List S}
theorem GI.start (N : List S) : GI N 0 [] [] :=
  ⟨List.Pairwise.nil, (fun t h => by cases h), (fun x h => by cases h), List.Pairwise.nil, (fun t h => by cases h), (fun t h => by cases h), (fun t h => by cases h)⟩
theorem take_more {α : Type} {N : List α} {i : Nat} {x : α} (h : x ∈ N.take i) : x ∈ N.take (i + 1) := (List.take_subset_take_left N (Nat.le_succ i)) h
theorem GI.skip (h : GI N i l pr) : GI N (i + 1) l pr := { h with low := fun t ht => take_more (h.low t ht) }
theorem later (hN : Sorted N) {x y : S} (hx : N[i]? = some x) (hy : y ∈ N.take i) : ltS y x = true := by
  obtain ⟨hi, rfl⟩ := List.getElem?_eq_some_iff.1 hx
  obtain ⟨j, hj, rfl⟩ := List.getElem_of_mem hy
  rw [List.length_take] at hj
  rw [List.getElem_take]
  exact List.pairwise_iff_getElem.1 hN j i (by omega) hi (by omega)
theorem at_take {x : S} (hx : N[i]? = some x) : x ∈ N.take (i + 1) := by
  rw [List.take_add_one, hx]; simp
theorem GI.names (h : GI N i l pr) (hN : Sorted N) {x : S} (hx : N[i]? = some x) (t : Term) (ht : t.name = x) : Sorted ((l ++ [t]).map Term.name) := by
  rw [List.map_append]
  refine List.pairwise_append.2 ⟨h.srt, by simp, fun a ha b hb => ?_⟩
  obtain ⟨u, hu, rfl⟩ := List.mem_map.1 ha
  simp at hb
  rw [hb, ht]
  exact later hN hx (h.low u hu)
theorem ex_more {x : S} {t : Term} (h : ∃ u ∈ l, u.name = x ∧ u.see.data.isEmpty = true) : ∃ u ∈ l ++ [t], u.name = x ∧ u.see.data.isEmpty = true := by
  obtain ⟨u, h1, h2⟩ := h; exact ⟨u, List.mem_append_left _ h1, h2⟩
theorem GI.add (h : GI N i l pr) (hN : Sorted N) {x : S} (hx : N[i]? = some x) (t : Term) (ht : t.name = x) (hnum : 0 ≤ t.kind ∧ t.kind ≤ 2 ∧ 0 ≤ t.lang ∧ t.lang ≤ 3 ∧ t.broader.length ≤ 8)
    (hs : t.see.data.isEmpty = true ∨ (t.broader = [] ∧ t.see ∈ pr)) (hb : Sorted t.broader ∧ ∀ b ∈ t.broader, b ∈ pr) : GI N (i + 1) (l ++ [t]) pr where
  srt := h.names hN hx t ht
  low u hu := by
    rcases List.mem_append.1 hu with hu | hu
    · exact take_more (h.low u hu)
    · simp at hu; subst hu; rw [ht]; exact at_take hx
  prm y hy := ex_more (h.prm y hy)
  prs := h.prs
  num u hu := by
    rcases List.mem_append.1 hu with hu | hu
    · exact h.num u hu
    · simp at hu; subst hu; exact hnum
  see u hu := by
    rcases List.mem_append.1 hu with hu | hu
    · exact (h.see u hu).imp id fun ⟨h1, h2⟩ => ⟨h1, ex_more h2⟩
    · simp at hu; subst hu
      exact hs.imp id fun ⟨h1, h2⟩ => ⟨h1, ex_more (h.prm _ h2)⟩
  brs u hu := by
    rcases List.mem_append.1 hu with hu | hu
    · exact ⟨(h.brs u hu).1, fun b hb => ⟨((h.brs u hu).2 b hb).1, ex_more ((h.brs u hu).2 b hb).2⟩⟩
    · simp at hu; subst hu
      refine ⟨hb.1, fun b hm => ?_⟩
      have hp := h.prm b (hb.2 b hm)
      refine ⟨?_, ex_more hp⟩
      obtain ⟨v, hv, rfl, _⟩ := hp
      rw [ht]
      exact later hN hx (h.low v hv)
theorem GI.pref (h : GI N i l pr) (hN : Sorted N) {x : S} (hx : N[i]? = some x) (t : Term) (ht : t.name = x) (hnum : 0 ≤ t.kind ∧ t.kind ≤ 2 ∧ 0 ≤ t.lang ∧ t.lang ≤ 3 ∧ t.broader.length ≤ 8)
    (hs : t.see.data.isEmpty = true) (hb : Sorted t.broader ∧ ∀ b ∈ t.broader, b ∈ pr) : GI N (i + 1) (l ++ [t]) (pr ++ [x]) :=
  { h.add hN hx t ht hnum (.inl hs) hb with
    prm := fun y hy => by
      rcases List.mem_append.1 hy with hy | hy
      · exact ex_more (h.prm y hy)
      · simp at hy; subst hy; exact ⟨t, by simp, ht, hs⟩
    prs := by
      refine List.pairwise_append.2 ⟨h.prs, by simp, fun a ha b hb => ?_⟩
      simp at hb; subst hb
      obtain ⟨v, hv, rfl, _⟩ := h.prm a ha
      exact later hN hx (h.low v hv) }
end
/-- the broader names that are being picked from the first k preferred ones -/
def BI (pr : List S) (k : Nat) (bl : List S) : Prop := Sorted bl ∧ ∀ b ∈ bl, b ∈ pr.take k
theorem BI.start (pr : List S) : BI pr 0 [] := ⟨List.Pairwise.nil, fun b h => by cases h⟩
theorem BI.more {pr bl : List S} {k : Nat} (h : BI pr k bl) : BI pr (k + 1) bl := ⟨h.1, fun b hb => take_more (h.2 b hb)⟩
theorem BI.push {pr bl : List S} {k : Nat} {y : S} (h : BI pr k bl) (hp : Sorted pr) (hy : pr[k]? = some y) : BI pr (k + 1) (bl ++ [y]) := by
  refine ⟨List.pairwise_append.2 ⟨h.1, by simp, fun a ha b hb => ?_⟩, fun b hb => ?_⟩
  · simp at hb; subst hb
    exact later hp hy (h.2 a ha)
  · rcases List.mem_append.1 hb with hb | hb
    · exact take_more (h.2 b hb)
    · simp at hb; subst hb
      exact at_take hy
theorem BI.fin {pr bl : List S} {k : Nat} (h : BI pr k bl) : Sorted bl ∧ ∀ b ∈ bl, b ∈ pr := ⟨h.1, fun b hb => List.mem_of_mem_take (h.2 b hb)⟩
theorem sorted_inc : ∀ {l : List S}, Sorted l → increasing l = true
  | [], _ => rfl
  | [_], _ => rfl
  | a :: b :: l, h => by
    obtain ⟨h1, h2⟩ := List.pairwise_cons.1 h
    rw [increasing, h1 b (by simp), sorted_inc h2]; rfl
section
variable {N : List S} {i : Nat} {l : List Term} {pr : List S}
theorem GI.name_in (h : GI N i l pr) {t : Term} (ht : t ∈ l) : t.name ∈ N := List.mem_of_mem_take (h.low t ht)
theorem GI.find (h : GI N i l pr) {u : Term} (hu : u ∈ l) : findT l u.name = some u := by
  obtain ⟨v, hv⟩ := findT_ex hu
  obtain ⟨h1, h2⟩ := findT_some hv
  rw [hv, one_name h.srt h1 hu h2]
theorem GI.down (h : GI N i l pr) {a b : S} (hu : Up (brd l) a b) : ltS b a = true := by
  have one : ∀ {a b : S}, b ∈ brd l a → ltS b a = true := by
    intro a b hb
    unfold brd at hb
    cases hf : findT l a with
    | none => rw [hf] at hb; cases hb
    | some t =>
      rw [hf] at hb
      obtain ⟨h1, rfl⟩ := findT_some hf
      exact ((h.brs t h1).2 b hb).1
  induction hu with
  | one hb => exact one hb
  | step hb _ ih => exact ltS_trans ih (one hb)
theorem GI.fine (h : GI N i l pr) (hN : ∀ x ∈ N, isName x = true) {p : Option Term} {t : Term} (ht : t ∈ l) (hp : ∀ q, p = some q → ltS q.name t.name = true) : flaw l p t = eOK := by
  have hnm : ∀ {x : S}, (∃ u ∈ l, u.name = x ∧ u.see.data.isEmpty = true) → isName x = true ∧ ∃ u, findT l x = some u ∧ u.see.data.isEmpty = true := by
    rintro x ⟨u, hu, rfl, hs⟩
    exact ⟨hN _ (h.name_in hu), u, h.find hu, hs⟩
  obtain ⟨k1, k2, k3, k4, k5⟩ := h.num t ht
  obtain ⟨b1, b2⟩ := h.brs t ht
  have hld : ∀ x ∈ leads t, ∃ u, findT l x = some u ∧ u.see.data.isEmpty = true := by
    intro x hx
    unfold leads at hx
    rcases List.mem_append.1 hx with hx | hx
    · rcases h.see t ht with hs | ⟨_, hs⟩
      · rw [if_pos hs] at hx; cases hx
      · split at hx
        · cases hx
        · simp at hx; subst hx; exact (hnm hs).2
    · exact (hnm (b2 x hx).2).2
  have hposs : possible t = true := by
    unfold possible
    rw [hN _ (h.name_in ht), decide_eq_true (show 0 ≤ t.kind ∧ t.kind ≤ 2 ∧ 0 ≤ t.lang ∧ t.lang ≤ 3 from ⟨k1, k2, k3, k4⟩), decide_eq_true k5, sorted_inc b1]
    have h1 : t.broader.all isName = true := by
      rw [List.all_eq_true]
      exact fun b hb => (hnm (b2 b hb).2).1
    have h2 : (t.see.data.isEmpty || (isName t.see && t.broader.isEmpty)) = true := by
      rcases h.see t ht with hs | ⟨hb, hs⟩
      · rw [hs]; rfl
      · rw [(hnm hs).1, hb]; simp
    rw [h1, h2]; rfl
  have hlate : late p t = false := by
    cases p with
    | none => rfl
    | some q => show (!ltS q.name t.name) = false; rw [hp q rfl]; rfl
  have h3 : ((leads t).any fun n => (findT l n).isNone) = false := by
    rw [List.any_eq_false]
    intro x hx
    obtain ⟨u, hu, _⟩ := hld x hx
    rw [hu]; simp
  have h4 : (leads t).any (second l) = false := by
    rw [List.any_eq_false]
    intro x hx
    obtain ⟨u, hu, hs⟩ := hld x hx
    unfold second
    rw [hu]
    show ¬ (!u.see.data.isEmpty) = true
    rw [hs]; simp
  have h5 : has (ups (brd l) t.name) t.name = false := by
    rw [has_false]
    intro hm
    have := h.down (mem_ups.1 hm)
    rw [ltS_irrefl] at this; cases this
  unfold flaw
  rw [if_neg (by rw [hposs]; simp), if_neg (by rw [hlate]; simp), if_neg (by rw [h3]; simp), if_neg (by rw [h4]; simp), if_neg (by rw [h5]; simp)]
theorem vvFrom_ok {l : List Term} : ∀ (r : List Term) (p : Option Term) (k : Nat), (∀ t ∈ r, ∀ q, (∀ v, q = some v → ltS v.name t.name = true) → flaw l q t = eOK) → Sorted (r.map Term.name) → (∀ t ∈ r, ∀ v, p = some v → ltS v.name t.name = true) → vvalidFrom l r p k = (k + r.length, eOK)
  | [], p, k, _, _, _ => rfl
  | t :: r, p, k, hf, hs, hp => by
    rw [vvalidFrom, if_pos (hf t List.mem_cons_self p (hp t List.mem_cons_self))]
    obtain ⟨h1, h2⟩ := List.pairwise_cons.1 hs
    rw [vvFrom_ok r (some t) (k + 1) (fun u hu => hf u (List.mem_cons_of_mem _ hu)) h2 (fun u hu v hv => by
      injection hv with hv; subst hv
      exact h1 u.name (List.mem_map_of_mem hu))]
    rw [show k + 1 + r.length = k + (t :: r).length from by simp only [List.length_cons]; omega]
theorem GI.valid (h : GI N i l pr) (hN : ∀ x ∈ N, isName x = true) (h8 : l.length ≤ 128) : vvalid l = (l.length, eOK) := by
  unfold vvalid
  rw [if_neg (by omega), vvFrom_ok l none 0 (fun t ht q hq => h.fine hN ht hq) h.srt (fun t _ v hv => by cases hv), Nat.zero_add]
end
end Rf
