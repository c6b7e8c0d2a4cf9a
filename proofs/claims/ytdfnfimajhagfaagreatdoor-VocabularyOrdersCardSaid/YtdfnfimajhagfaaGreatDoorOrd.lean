/- The law of orders, in plain Lean: in a valid vocabulary, preferred names, aliases, what stands above and below. -/
import Derived.Test.YtdfnfimajhagfaaGreatDoorMent
import Derived.Test.YtdfnfimajhagfaaGreatDoorT8
namespace Rf
theorem Up.trans {f : S → List S} {a b c : S} (h : Up f a b) (k : Up f b c) : Up f a c := by
  induction h with
  | one h => exact .step h k
  | step h _ ih => exact .step h (ih k)
theorem prefT_of {t : Term} : prefT t = if t.see.data.isEmpty = true then t.name else t.see := by
  by_cases h : t.see.data.isEmpty = true
  · rw [if_pos h]; exact prefT_name (by rw [Go.Proofs.YtdfnfimajhagfaaGreatDoor.empty_data]; exact h)
  · rw [if_neg h]; exact prefT_see (by rw [Go.Proofs.YtdfnfimajhagfaaGreatDoor.empty_data]; simpa using h)
section
variable {l : List Term} (hv : VOk l)
include hv
/-- what a term that leads to a name leads to -/
theorem VOk.seen {t : Term} (ht : t ∈ l) (hs : t.see.data.isEmpty = false) : ∃ u, u ∈ l ∧ u.name = t.see ∧ findT l t.see = some u ∧ u.see.data.isEmpty = true := by
  obtain ⟨q, f⟩ := hv.fine t ht
  obtain ⟨u, h1, h2⟩ := f.found t.see (by unfold leads; rw [hs]; simp)
  obtain ⟨h3, h4⟩ := findT_some h1
  exact ⟨u, h3, h4, h1, h2⟩
theorem VOk.apart {t : Term} (ht : t ∈ l) (hs : t.see.data.isEmpty = false) : ¬ t.see = t.name := by
  intro e
  obtain ⟨u, hu, hn, _, h2⟩ := hv.seen ht hs
  have := one_name hv.sorted hu ht (by rw [hn, e])
  rw [this, hs] at h2; cases h2
theorem VOk.prefer_once {t : Term} (ht : t ∈ l) (h0 : (vvalid l).2 = 0) : prefer l t.name = (prefT t, 0) := by
  unfold prefer; rw [if_pos h0, hv.find ht]
theorem VOk.prefer_twice {t : Term} (ht : t ∈ l) (h0 : (vvalid l).2 = 0) : prefer l (prefT t) = (prefT t, 0) := by
  by_cases hs : t.see.data.isEmpty = true
  · have e : prefT t = t.name := by rw [prefT_of, if_pos hs]
    rw [e, hv.prefer_once ht h0, e]
  · have hs' : t.see.data.isEmpty = false := by simpa using hs
    obtain ⟨u, hu, hn, hf, h2⟩ := hv.seen ht hs'
    have e : prefT t = u.name := by rw [prefT_of, if_neg hs, hn]
    rw [e, hv.prefer_once hu h0, prefT_of, if_pos h2]
theorem VOk.alias_none {t : Term} (ht : t ∈ l) (hp : ¬ prefT t = t.name) : aliases l t.name = [] := by
  have hs : t.see.data.isEmpty = false := by
    cases h : t.see.data.isEmpty
    · rfl
    · exact absurd (by rw [prefT_of, if_pos h]) hp
  unfold aliases
  split
  · rw [List.map_eq_nil_iff, List.filter_eq_nil_iff]
    intro u hu h
    have e : u.see = t.name := (eqS_iff _ _).1 h
    have hus : u.see.data.isEmpty = false := by rw [e]; exact hv.name ht
    obtain ⟨v, hvv, hn, _, h2⟩ := hv.seen hu hus
    have := one_name hv.sorted hvv ht (by rw [hn, e])
    rw [this, hs] at h2; cases h2
  · rfl
theorem VOk.alias_has {t : Term} (ht : t ∈ l) (h0 : (vvalid l).2 = 0) : has (aliases l (prefT t)) t.name = decide (¬ prefT t = t.name) := by
  rw [Bool.eq_iff_iff, has_iff, decide_eq_true_iff]
  unfold aliases
  by_cases hs : t.see.data.isEmpty = true
  · have e : prefT t = t.name := by rw [prefT_of, if_pos hs]
    rw [e]
    constructor
    · intro h
      split at h
      · obtain ⟨u, hu0, hn⟩ := List.mem_map.1 h
        obtain ⟨hu, he⟩ := List.mem_filter.1 hu0
        have e2 : u.see = t.name := (eqS_iff _ _).1 he
        have e3 := one_name hv.sorted hu ht hn
        rw [e3] at e2
        have h3 := hv.name ht
        rw [← e2, hs] at h3; cases h3
      · cases h
    · intro h; exact absurd rfl h
  · have hs' : t.see.data.isEmpty = false := by simpa using hs
    have e : prefT t = t.see := by rw [prefT_of, if_neg hs]
    obtain ⟨u, hu, hn, hf, h2⟩ := hv.seen ht hs'
    rw [e, if_pos ⟨h0, by rw [hf]; rfl⟩]
    constructor
    · intro _; exact hv.apart ht hs'
    · intro _
      exact List.mem_map.2 ⟨t, List.mem_filter.2 ⟨ht, (eqS_iff _ _).2 rfl⟩, rfl⟩
theorem VOk.not_up {t : Term} (ht : t ∈ l) : has (ups (Rf.brd l) t.name) t.name = false := by
  obtain ⟨q, f⟩ := hv.fine t ht
  exact f.circ
theorem VOk.below_has {t u : Term} (ht : t ∈ l) (h0 : (vvalid l).2 = 0) : has (Go.Proofs.YtdfnfimajhagfaaGreatDoor.belowOf l u.name) t.name = has (ups (Rf.brd l) t.name) u.name := by
  rw [Bool.eq_iff_iff, has_iff]
  unfold Go.Proofs.YtdfnfimajhagfaaGreatDoor.belowOf
  rw [if_pos h0]
  constructor
  · intro h
    obtain ⟨v, hvv, hn⟩ := List.mem_map.1 h
    obtain ⟨hvv, he⟩ := List.mem_filter.1 hvv
    have := one_name hv.sorted hvv ht hn
    subst this
    exact he
  · intro h
    exact List.mem_map.2 ⟨t, List.mem_filter.2 ⟨ht, h⟩, rfl⟩
end
theorem up_more {l : List Term} {a b x : S} (h : has (ups (brd l) a) b = true) (hx : x ∈ ups (brd l) b) : has (ups (brd l) a) x = true := by
  rw [has_iff] at *
  rw [mem_ups] at *
  exact h.trans hx
end Rf
