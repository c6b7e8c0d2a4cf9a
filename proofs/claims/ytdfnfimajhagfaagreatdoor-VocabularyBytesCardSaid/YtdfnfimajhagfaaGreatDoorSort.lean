/- Plain laws: the library's sort and compact, at lists of byts, as lists of names. -/
import Derived.Test.YtdfnfimajhagfaaGreatDoorPlain
import Derived.Lib.SlicesCompact
import Derived.Lib.Bytealg
import Derived.Sort.EncStr
import Derived.Sort.Statements
import Derived.Shelf.SlSortCmp.Insertion
namespace Rf
open Go Go.Lib Go.Proofs Go.Sort
def byts (s : S) : List UInt8 := s.data.toList
def ofB (x : List UInt8) : S := ⟨x.toArray⟩
theorem ofB_byts (s : S) : ofB (byts s) = s := by unfold ofB byts; rw [Array.toArray_toList]
theorem byts_ofB (x : List UInt8) : byts (ofB x) = x := by simp [ofB, byts]
theorem toList_byts (s : S) : s.toList = byts s := by rw [ByteArray.toList_eq]; rfl
theorem toList_ofB (x : List UInt8) : (ofB x).toList = x := by rw [toList_byts, byts_ofB]
theorem ofB_inj {x y : List UInt8} (h : ofB x = ofB y) : x = y := by rw [← byts_ofB x, h, byts_ofB]
theorem byts_inj {s t : S} (h : byts s = byts t) : s = t := by rw [← ofB_byts s, h, ofB_byts]
theorem cmp_lt : ∀ a b : List UInt8, compareBytes a b < 0 ↔ a < b
  | [], [] => by simp [compareBytes]
  | [], _ :: _ => by simp [compareBytes]
  | _ :: _, [] => by simp [compareBytes]
  | a :: r, b :: t => by
    rw [compareBytes, List.cons_lt_cons_iff]
    by_cases h1 : a < b
    · simp [h1]
    · rw [if_neg h1]
      by_cases h2 : b < a
      · rw [if_pos h2]
        have hne : a ≠ b := fun e => by subst e; exact h1 h2
        simp [h1, hne]
      · rw [if_neg h2, cmp_lt r t]
        have heq : a = b := UInt8.le_antisymm (UInt8.not_lt.1 h2) (UInt8.not_lt.1 h1)
        simp [heq]
theorem ltOf_eq (x y : List UInt8) : ltOf compareBytes x y = ltS (ofB x) (ofB y) := by
  unfold ltOf
  rw [Bool.eq_iff_iff, decide_eq_true_iff, cmp_lt, ltS_iff, toList_ofB, toList_ofB]
theorem le_eq (x y : List UInt8) : decide (x ≤ y) = !ltS (ofB y) (ofB x) := by
  rw [Bool.eq_iff_iff, decide_eq_true_iff, Bool.not_eq_true', ← Bool.not_eq_true, ltS_iff, toList_ofB, toList_ofB]
  exact Iff.rfl
theorem swo : Sort.SWO (ltOf compareBytes) where
  irrefl x := by rw [ltOf_eq]; exact ltS_irrefl _
  trans x y z h1 h2 := by rw [ltOf_eq] at *; exact ltS_trans h1 h2
  ntrans x y z h1 h2 := by
    rw [ltOf_eq] at *
    cases h : ltS (ofB x) (ofB z)
    · rfl
    · rcases ltS_total (ofB x) (ofB y) with hh | hh | hh
      · rw [h1] at hh; cases hh
      · rw [hh] at h; rw [h] at h2; cases h2
      · rw [ltS_trans hh h] at h2; cases h2
def leB (x y : List UInt8) : Bool := !ltS (ofB y) (ofB x)
theorem leB_trans (x y z : List UInt8) (h1 : leB x y = true) (h2 : leB y z = true) : leB x z = true := by
  unfold leB at *
  rw [Bool.not_eq_true'] at *
  have := swo.ntrans z y x (by rw [ltOf_eq]; exact h2) (by rw [ltOf_eq]; exact h1)
  rwa [ltOf_eq] at this
theorem leB_total (x y : List UInt8) : (leB x y || leB y x) = true := by
  unfold leB
  cases h : ltS (ofB y) (ofB x)
  · rfl
  · rw [ltS_asymm h]; rfl
def msort (l : List (List UInt8)) : List (List UInt8) := l.mergeSort leB
theorem msort_pair (l : List (List UInt8)) : (msort l).Pairwise (fun x y => leB x y = true) := List.pairwise_mergeSort leB_trans leB_total l
theorem mem_msort {l : List (List UInt8)} {x : List UInt8} : x ∈ msort l ↔ x ∈ l := (List.mergeSort_perm l leB).mem_iff
theorem msort_length (l : List (List UInt8)) : (msort l).length = l.length := (List.mergeSort_perm l leB).length_eq
/-- a list in which no name stands twice, sorted -/
theorem msort_sorted {l : List (List UInt8)} (h : l.Nodup) : Sorted ((msort l).map ofB) := by
  unfold Sorted
  rw [List.pairwise_map]
  have hn : (msort l).Nodup := (List.mergeSort_perm l leB).nodup_iff.2 h
  refine ((msort_pair l).and hn).imp fun {a b} ⟨h1, h2⟩ => ?_
  unfold leB at h1
  rw [Bool.not_eq_true'] at h1
  exact ltS_of_not h1 fun e => h2 (ofB_inj e).symm
theorem compact_sorted {l : List (List UInt8)} (h : l.Pairwise (fun x y => leB x y = true)) : Sorted ((compact l).map ofB) := by
  unfold compact compactUpTo Sorted
  rw [List.map_map, List.pairwise_map]
  have hr : ((List.range l.length).filter (keeps l.toArray)).Pairwise (fun i j => i < j ∧ j < l.length ∧ keeps l.toArray j = true) := by
    refine List.Pairwise.imp_of_mem ?_ ((List.pairwise_lt_range (n := l.length)).sublist List.filter_sublist)
    intro i j hi hj hij
    have := List.mem_filter.1 hj
    exact ⟨hij, List.mem_range.1 this.1, this.2⟩
  refine hr.imp fun {i j} ⟨hij, hj, hk⟩ => ?_
  have hget : ∀ k, k < l.length → l.toArray[k]! = l.getD k [] := fun k hk => by simp [hk, List.getD]
  show ltS (ofB l.toArray[i]!) (ofB l.toArray[j]!) = true
  have hle : ∀ a b, a < b → b < l.length → ltS (ofB l.toArray[b]!) (ofB l.toArray[a]!) = false := fun a b hab hb => by
    have := List.pairwise_iff_getElem.1 h a b (by omega) hb hab
    unfold leB at this
    rw [Bool.not_eq_true'] at this
    simpa [hb, show a < l.length from by omega] using this
  have hne : l.toArray[j]! ≠ l.toArray[j - 1]! := by
    unfold keeps at hk
    rw [decide_eq_true_eq] at hk
    rcases hk with hk | hk
    · omega
    · exact hk
  have h1 : ltS (ofB l.toArray[j - 1]!) (ofB l.toArray[j]!) = true := ltS_of_not (hle (j - 1) j (by omega) hj) fun e => hne (ofB_inj e)
  by_cases hij' : i = j - 1
  · rw [hij']; exact h1
  · have h2 := hle i (j - 1) (by omega) (by omega)
    rcases ltS_total (ofB l.toArray[i]!) (ofB l.toArray[j]!) with hh | hh | hh
    · exact hh
    · rw [hh] at h2; rw [h1] at h2; cases h2
    · rw [ltS_trans h1 hh] at h2; cases h2
theorem mem_compact {l : List (List UInt8)} {x : List UInt8} : x ∈ compact l ↔ x ∈ l := by
  unfold compact compactUpTo
  constructor
  · intro h
    obtain ⟨i, hi, rfl⟩ := List.mem_map.1 h
    have := List.mem_range.1 (List.mem_filter.1 hi).1
    simp [this]
  · intro h
    obtain ⟨k, hk, hx⟩ := List.getElem_of_mem h
    have hex : ∃ i, i < l.length ∧ l.toArray[i]! = x := ⟨k, hk, by simp [hk, hx]⟩
    obtain ⟨i, ⟨hi, hix⟩, hmin⟩ : ∃ i, (i < l.length ∧ l.toArray[i]! = x) ∧ ∀ j, j < i → ¬ (j < l.length ∧ l.toArray[j]! = x) := by
      obtain ⟨n, hn⟩ := hex
      induction n using Nat.strongRecOn with
      | _ n ih =>
        by_cases hm : ∃ j, j < n ∧ (j < l.length ∧ l.toArray[j]! = x)
        · obtain ⟨j, hj, hj2⟩ := hm; exact ih j hj hj2
        · exact ⟨n, hn, fun j hj c => hm ⟨j, hj, c⟩⟩
    refine List.mem_map.2 ⟨i, List.mem_filter.2 ⟨List.mem_range.2 hi, ?_⟩, hix⟩
    unfold keeps
    by_cases h0 : i = 0
    · simp [h0]
    · have := hmin (i - 1) (by omega)
      have hne : l.toArray[i]! ≠ l.toArray[i - 1]! := fun e => this ⟨by omega, by rw [← e]; exact hix⟩
      exact decide_eq_true (.inr hne)
theorem compact_sort (l : List S) : (compact (msort (l.map byts))).map ofB = sortS l := by
  refine (sortS_eq (compact_sorted (msort_pair _)) fun x => ?_).symm
  rw [List.mem_map]
  constructor
  · rintro ⟨y, hy, rfl⟩
    rw [mem_compact, mem_msort, List.mem_map] at hy
    obtain ⟨s, hs, rfl⟩ := hy
    rwa [ofB_byts]
  · intro hx
    exact ⟨byts x, by rw [mem_compact, mem_msort]; exact List.mem_map.2 ⟨x, hx, rfl⟩, ofB_byts x⟩
end Rf
