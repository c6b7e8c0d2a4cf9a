import Derived.Test.YtdfnfimajhagfaaGreatDoorSpec
namespace Rf
theorem eqS_iff (a b : S) : eqS a b = true ↔ a = b := by
  unfold eqS
  rw [Go.ByteArray.toList_eq, Go.ByteArray.toList_eq, beq_iff_eq]
  exact ⟨fun h => ByteArray.ext (Array.ext' h), fun h => by rw [h]⟩
theorem eqS_false (a b : S) : eqS a b = false ↔ a ≠ b := by
  rw [← Bool.not_eq_true, eqS_iff]
theorem bytesLess_eq : ∀ (x y : List UInt8), Go.Op.bytesLess x y = decide (x < y)
  | _, [] => by simp [Go.Op.bytesLess]
  | [], _ :: _ => by simp [Go.Op.bytesLess]
  | a :: x, b :: y => by
    rw [Go.Op.bytesLess, bytesLess_eq x y, Bool.eq_iff_iff]
    simp [List.cons_lt_cons_iff]
theorem ltS_iff (a b : S) : ltS a b = true ↔ a.toList < b.toList := by simp [ltS, bytesLess_eq]
theorem ltS_irrefl (a : S) : ltS a a = false := by
  rw [← Bool.not_eq_true, ltS_iff]; exact List.lt_irrefl _
theorem ltS_trans {a b c : S} (h : ltS a b = true) (k : ltS b c = true) : ltS a c = true := by
  rw [ltS_iff] at *; exact List.lt_trans h k
theorem ltS_asymm {a b : S} (h : ltS a b = true) : ltS b a = false := by
  rw [← Bool.not_eq_true]; intro k; have := ltS_trans h k; rw [ltS_irrefl] at this; cases this
theorem ltS_total (a b : S) : ltS a b = true ∨ a = b ∨ ltS b a = true := by
  rw [ltS_iff, ltS_iff]
  by_cases h : a.toList < b.toList
  · exact .inl h
  · by_cases k : b.toList < a.toList
    · exact .inr (.inr k)
    · refine .inr (.inl ?_)
      have : a.toList = b.toList := List.le_antisymm (List.not_lt.1 k) (List.not_lt.1 h)
      rw [← eqS_iff]; simp [eqS, this]
theorem ltS_of_not {a b : S} (h : ltS a b = false) (hne : a ≠ b) : ltS b a = true := by
  rcases ltS_total a b with k | k | k
  · rw [h] at k; cases k
  · exact absurd k hne
  · exact k
theorem has_iff (l : List S) (s : S) : has l s = true ↔ s ∈ l := by
  induction l with
  | nil => simp [has]
  | cons x l ih =>
    rw [has]
    by_cases h : eqS x s = true
    · rw [if_pos h]; have := (eqS_iff _ _).1 h; simp [this]
    · rw [if_neg h, ih]
      have : x ≠ s := fun e => h ((eqS_iff _ _).2 e)
      simp [this.symm]
theorem has_false (l : List S) (s : S) : has l s = false ↔ s ∉ l := by rw [← Bool.not_eq_true, has_iff]
def Sorted (l : List S) : Prop := l.Pairwise (fun a b => ltS a b = true)
/-- Two sorted lists with the same members are one list. -/
theorem Sorted.eq_of_mem : ∀ {l m : List S}, Sorted l → Sorted m → (∀ x, x ∈ l ↔ x ∈ m) → l = m
  | [], [], _, _, _ => rfl
  | [], b :: m, _, _, h => by have := (h b).2 (by simp); simp at this
  | a :: l, [], _, _, h => by have := (h a).1 (by simp); simp at this
  | a :: l, b :: m, hl, hm, h => by
    obtain ⟨h1, h2⟩ := List.pairwise_cons.1 hl
    obtain ⟨k1, k2⟩ := List.pairwise_cons.1 hm
    have hab : a = b := by
      have ha := (h a).1 (by simp)
      have hb := (h b).2 (by simp)
      rcases List.mem_cons.1 ha with e | ha
      · exact e
      · rcases List.mem_cons.1 hb with e | hb
        · exact e.symm
        · have := ltS_asymm (h1 b hb); rw [k1 a ha] at this; cases this
    subst hab
    have : l = m := Sorted.eq_of_mem h2 k2 fun x => by
      have hx := h x
      simp only [List.mem_cons] at hx
      constructor
      · intro hxl
        rcases hx.1 (.inr hxl) with e | hxm
        · subst e; have := h1 x hxl; rw [ltS_irrefl] at this; cases this
        · exact hxm
      · intro hxm
        rcases hx.2 (.inr hxm) with e | hxl
        · subst e; have := k1 x hxm; rw [ltS_irrefl] at this; cases this
        · exact hxl
    rw [this]
theorem getD_lt {l : List S} {k : Nat} (h : k < l.length) : l.getD k ByteArray.empty = l[k] := by
  simp [List.getD, List.getElem?_eq_getElem h]
theorem putAt_le (l : List S) (s : S) : ∀ n, putAt l s n ≤ n
  | 0 => Nat.le_refl _
  | n + 1 => by
    rw [putAt]; split
    · exact Nat.le_succ_of_le (putAt_le l s n)
    · exact Nat.le_refl _
/-- what stands from the place on is greater -/
theorem putAt_gt (l : List S) (s : S) : ∀ n, n ≤ l.length → ∀ j (hj : j < l.length), putAt l s n ≤ j → j < n → ltS s l[j] = true
  | 0, _, _, _, _, h => by omega
  | n + 1, hn, j, hj, h1, h2 => by
    rw [putAt] at h1
    by_cases c : ltS s (l.getD n ByteArray.empty) = true
    · rw [if_pos c] at h1
      by_cases e : j = n
      · subst e; rwa [getD_lt hj] at c
      · exact putAt_gt l s n (by omega) j hj h1 (by omega)
    · rw [if_neg c] at h1; omega
/-- what stands ahead of the place is not greater -/
theorem putAt_not (l : List S) (s : S) : ∀ n, n ≤ l.length → 0 < putAt l s n → ltS s (l.getD (putAt l s n - 1) ByteArray.empty) = false
  | 0, _, h => by simp [putAt] at h
  | n + 1, hn, h => by
    rw [putAt] at h ⊢
    by_cases c : ltS s (l.getD n ByteArray.empty) = true
    · rw [if_pos c] at h ⊢; exact putAt_not l s n (by omega) h
    · rw [if_neg c]; simpa using c
theorem mem_put (l : List S) (s x : S) : x ∈ put l s ↔ x = s ∨ x ∈ l := by
  unfold put
  simp only
  split
  · rename_i h
    obtain ⟨h0, h1⟩ := h
    have hle := putAt_le l s l.length
    rw [getD_lt (by omega)] at h1
    have := (eqS_iff _ _).1 h1
    constructor
    · exact .inr
    · rintro (e | e)
      · subst e; rw [← this]; exact List.getElem_mem _
      · exact e
  · constructor
    · intro h
      rcases List.mem_append.1 h with h | h
      · exact .inr (List.mem_of_mem_take h)
      · rcases List.mem_cons.1 h with h | h
        · exact .inl h
        · exact .inr (List.mem_of_mem_drop h)
    · rintro (e | e)
      · subst e; simp
      · have := List.take_append_drop (putAt l s l.length) l
        rw [← this] at e
        rcases List.mem_append.1 e with h | h
        · exact List.mem_append.2 (.inl h)
        · exact List.mem_append.2 (.inr (List.mem_cons_of_mem _ h))
theorem sorted_put {l : List S} (h : Sorted l) (s : S) : Sorted (put l s) := by
  unfold put
  simp only
  split
  · exact h
  · rename_i hc
    have hle := putAt_le l s l.length
    have ht : Sorted (l.take (putAt l s l.length)) := List.Pairwise.sublist (List.take_sublist _ _) h
    have hd : Sorted (l.drop (putAt l s l.length)) := List.Pairwise.sublist (List.drop_sublist _ _) h
    have hgt : ∀ x ∈ l.drop (putAt l s l.length), ltS s x = true := by
      intro x hx
      obtain ⟨j, hj, rfl⟩ := List.getElem_of_mem hx
      rw [List.getElem_drop]
      rw [List.length_drop] at hj
      exact putAt_gt l s l.length (Nat.le_refl _) _ (by omega) (by omega) (by omega)
    have hlt : ∀ x ∈ l.take (putAt l s l.length), ltS x s = true := by
      intro x hx
      obtain ⟨j, hj, rfl⟩ := List.getElem_of_mem hx
      rw [List.length_take] at hj
      rw [List.getElem_take]
      have h0 : 0 < putAt l s l.length := by omega
      have hn := putAt_not l s l.length (Nat.le_refl _) h0
      rw [getD_lt (by omega)] at hn hc
      have hne : s ≠ l[putAt l s l.length - 1] := fun e => hc ⟨h0, (eqS_iff _ _).2 e.symm⟩
      have hlast := ltS_of_not hn hne
      by_cases e : j = putAt l s l.length - 1
      · subst e; exact hlast
      · exact ltS_trans (List.pairwise_iff_getElem.1 h j (putAt l s l.length - 1) (by omega) (by omega) (by omega)) hlast
    refine List.pairwise_append.2 ⟨ht, List.pairwise_cons.2 ⟨hgt, hd⟩, fun a ha b hb => ?_⟩
    rcases List.mem_cons.1 hb with e | hb
    · subst e; exact hlt a ha
    · exact ltS_trans (hlt a ha) (hgt b hb)
theorem sorted_single (s : S) : Sorted [s] := List.pairwise_singleton _ _
end Rf
