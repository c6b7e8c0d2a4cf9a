/- Walks of package refer: sorted at names; the library's clone, sort and compact in this claim's words. -/
import Derived.Test.YtdfnfimajhagfaaGreatDoorP4
import Derived.Test.YtdfnfimajhagfaaGreatDoorSort
import Derived.Test.YtdfnfimajhagfaaGreatDoorShelf
import Derived.Sort.OwnSorted
namespace Go.Proofs.YtdfnfimajhagfaaGreatDoor
open Go.RowKit Go.Maps Go.Sort Rf
theorem Rds.oneAt (w : World) {b : Nat} (hb : b = w.heap.size) (u : Value) (t : TypeId) : Rds (w.alloc (.cells #[u] t)) (some ⟨b, 0, none⟩) [u] := by subst hb; exact Rds.one w u t
theorem enc_byts (l : List S) : l.map Value.string = (l.map byts).map encStr := by
  rw [List.map_map]
  refine List.map_congr_left fun s _ => ?_
  show Value.string s = Value.string (ofB (byts s))
  rw [ofB_byts]
theorem enc_ofB (zs : List (List UInt8)) : zs.map encStr = (zs.map ofB).map Value.string := by
  rw [List.map_map]; rfl
theorem clone_any (A : Option Addr) (n c : Nat) (l : List S) (w : World) (hm : n ≤ 100000) (hl : Strs w A n l) :
    Calls Tryz.prog 129 #[.slice A n c] w fun e w' => ∃ A' c', e = .returned (.slice A' n c') ∧ n ≤ c' ∧ Own w' w.heap.size 9 1 (.slice A' n c') n (l.map Value.string) ∧ Below w.heap.size w w' := by
  have hll := hl.1
  cases A with
  | none =>
    have hn : n = 0 := by
      rcases Nat.eq_zero_or_pos n with h | h
      · exact h
      · obtain ⟨_, _, _, h2, _⟩ := hl.at_ h; cases h2
    subst hn
    obtain rfl : l = [] := List.eq_nil_of_length_eq_zero hll
    refine (Tryz.slices_Clone_string_nil 0 c w).mono ?_
    rintro e w' ⟨rfl, rfl⟩
    exact ⟨none, 0, rfl, Nat.le_refl _, Own.nil _ _ _ (Nat.le_refl _), brefl⟩
  | some a =>
    have fin : ∀ (v' : Value) (w' : World), w'.ownsRow w.heap.size 9 1 v' n (l.map Value.string) → Below w.heap.size w w' →
        ∃ A' c', Ending.returned v' = .returned (.slice A' n c') ∧ n ≤ c' ∧ Own w' w.heap.size 9 1 (.slice A' n c') n (l.map Value.string) ∧ Below w.heap.size w w' := fun v' w' ho hb => by
      obtain ⟨A', c', rfl, h1, _⟩ := form_own _ ho
      exact ⟨A', c', rfl, h1, ⟨ho, hb.size⟩, hb⟩
    rcases Nat.eq_zero_or_pos n with h0 | h0
    · subst h0
      obtain rfl : l = [] := List.eq_nil_of_length_eq_zero hll
      refine (Tryz.slices_Clone_string_zero a c w).mono ?_
      rintro e w' ⟨v', rfl, ho, _, hb⟩
      exact fin v' w' ho hb
    · obtain ⟨b, off, _, ha, _⟩ := hl.at_ h0
      cases ha
      refine (Tryz.slices_Clone_string b off n c l w (by omega) (by omega) fun j hj => ?_).mono ?_
      · obtain ⟨b2, off2, s, h1, h2, _, _, h3⟩ := hl.at_ (k := j) (by omega)
        cases h1
        rw [h3, List.getD, h2]; rfl
      · rintro e w' ⟨v', rfl, ho, _, hb⟩
        rw [List.take_of_length_le (by omega)] at ho
        exact fin v' w' ho hb
theorem compact_any {A : Option Addr} {n c base : Nat} {zs : List (List UInt8)} {w : World} (hm : n ≤ 100000) (ho : Own w base 9 1 (.slice A n c) n (zs.map encStr)) (hz : ∀ z ∈ zs, (ofB z).size ≤ maxLen) :
    Calls Tryz.prog 91 #[.slice A n c] w fun e w' => ∃ k, e = .returned (.slice A k c) ∧ k ≤ c ∧ k ≤ n ∧ Strs w' A k ((Lib.compact zs).map ofB) ∧ w.grownBy w' (Value.slice A n c).ownBlock := by
  have hll : zs.length = n := by have := ho.1.1; simpa using this
  rcases Nat.eq_zero_or_pos n with h0 | h0
  · subst h0
    obtain rfl : zs = [] := List.eq_nil_of_length_eq_zero hll
    refine (Tryz.slices_Compact_string_empty A c w).mono ?_
    rintro e w' ⟨rfl, rfl⟩
    exact ⟨0, rfl, Nat.zero_le _, Nat.le_refl _, ⟨rfl, by simp [Lib.compact, Lib.compactUpTo], by simpa [Lib.compact, Lib.compactUpTo] using Rds.nil w' A⟩, World.grownBy.refl _ _⟩
  · obtain ⟨hrow, hbase⟩ := ho
    rcases hrow.2 with ⟨_, h⟩ | ⟨g, cap, cur, hv, hbg, hb, h1, h2, h3, h4⟩
    · omega
    · injection hv with hA _ hc
      subst hA
      subst hc
      rw [Nat.mul_one] at h4
      have hH : Holds encStr w g 0 zs.toArray := holds_of_block hb (by rw [hll]; exact h4)
      have hc := Tryz.slices_Compact_string g 0 c zs w hH (by omega) (by omega)
      rw [hll] at hc
      refine hc.mono ?_
      rintro e w' ⟨rfl, q, rfl⟩
      have hkn : (Lib.compact zs).length ≤ zs.length := Lib.compact_length_le zs
      refine ⟨(Lib.compact zs).length, rfl, by omega, by omega, ?_, ?_⟩
      · refine ⟨by simp, fun s hs => ?_, ?_⟩
        · obtain ⟨z, hz1, rfl⟩ := List.mem_map.1 hs
          exact hz z (mem_compact.1 hz1)
        · rw [← enc_ofB]
          intro _
          have hheap := heap_sorted (n := q) (os := #[]) (Lib.compact zs ++ List.replicate (n - (Lib.compact zs).length) []).toArray hb
          rw [grow_empty] at hheap
          refine ⟨g, 0, rfl, (Array.getElem?_eq_some_iff.1 hheap).1, fun j u hu => ?_⟩
          rw [cell_of_row _ g _ _ _ _ hheap, Nat.zero_add]
          have ht := take_putCells cur (Lib.compact zs ++ List.replicate (n - (Lib.compact zs).length) []) (by simp; omega)
          have hj : j < (Lib.compact zs).length := by have := (List.getElem?_eq_some_iff.1 hu).1; simpa using this
          have : ((putCells encStr 0 (Lib.compact zs ++ List.replicate (n - (Lib.compact zs).length) []).toArray cur).toList.take (Lib.compact zs ++ List.replicate (n - (Lib.compact zs).length) []).length)[j]? = some u := by
            rw [ht, List.map_append, List.getElem?_append_left (by simpa using hj)]; exact hu
          rw [List.getElem?_take_of_lt (by simp; omega), Array.getElem?_toList] at this
          exact this
      · have := grownBy_sorted (w := w) (g := g) (n := q) (os := #[]) (Lib.compact zs ++ List.replicate (n - (Lib.compact zs).length) []).toArray
        rw [grow_empty] at this
        exact this
end Go.Proofs.YtdfnfimajhagfaaGreatDoor
