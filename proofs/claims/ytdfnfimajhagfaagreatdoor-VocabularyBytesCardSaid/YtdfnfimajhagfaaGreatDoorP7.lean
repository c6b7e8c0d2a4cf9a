/- Walk of package refer: Reach. -/
import Derived.Test.YtdfnfimajhagfaaGreatDoorP6
import Derived.Test.YtdfnfimajhagfaaGreatDoorW4
namespace Go.Proofs.YtdfnfimajhagfaaGreatDoor
open Go.RowKit Go.Maps Go.Sort Rf
theorem sort_any {A : Option Addr} {n c base : Nat} {l : List S} {w : World} (hm : n ≤ 1000000) (ho : Own w base 9 1 (.slice A n c) n (l.map Value.string)) :
    Calls Tryz.prog 90 #[.slice A n c] w fun e w' => e = .returned (.tuple #[]) ∧ Own w' base 9 1 (.slice A n c) n (((msort (l.map byts)).map ofB).map Value.string) ∧ w.grownBy w' (Value.slice A n c).ownBlock := by
  have hll : l.length = n := by have := ho.1.1; simpa using this
  rcases Nat.eq_zero_or_pos n with h0 | h0
  · subst h0
    obtain rfl : l = [] := List.eq_nil_of_length_eq_zero hll
    refine (Tryz.slices_Sort_string_none A c w).mono ?_
    rintro e w' ⟨rfl, rfl⟩
    refine ⟨rfl, ?_, World.grownBy.refl _ _⟩
    have : msort (([] : List S).map byts) = [] := List.eq_nil_of_length_eq_zero (by rw [msort_length]; rfl)
    rw [this]; exact ho
  · obtain ⟨hrow, hbase⟩ := ho
    rcases hrow.2 with ⟨_, h⟩ | ⟨g, cap, cur, hv, hbg, hb, h1, h2, h3, h4⟩
    · omega
    · injection hv with hA _ hc
      subst hA
      subst hc
      rw [enc_byts, Nat.mul_one] at h4
      have hlen : (l.map byts).length = n := by simpa using hll
      have hH : Holds encStr w g 0 (l.map byts).toArray := holds_of_block hb (by rw [hlen]; exact h4)
      have hc := Tryz.slices_Sort_string g 0 c (l.map byts) w hH (Array.getElem?_eq_some_iff.1 hb).1 (by simp; omega)
      rw [hlen] at hc
      refine hc.mono ?_
      rintro e w' ⟨rfl, q, os, rfl⟩
      have hms : ((l.map byts).mergeSort fun x y => decide (x ≤ y)) = msort (l.map byts) := by
        unfold msort
        congr 1
        funext x y
        rw [le_eq]; rfl
      rw [hms]
      have hlm : (msort (l.map byts)).length = (l.map byts).length := msort_length _
      refine ⟨rfl, ⟨?_, ?_⟩, grownBy_sorted _⟩
      · have := ownsRow_sorted (n := q) (os := os) hlm hbg hb (by rw [hlen]; exact h1) h2 h3
        rw [hlen] at this
        rw [← enc_ofB]
        exact this
      · exact Nat.le_trans hbase (grownBy_sorted (n := q) (os := os) (g := g) (msort (l.map byts)).toArray (w := w)).size
end Go.Proofs.YtdfnfimajhagfaaGreatDoor
