/- Walks of package refer: set, of, circles. -/
import Derived.Test.YtdfnfimajhagfaaGreatDoorW3
import Derived.Test.YtdfnfimajhagfaaGreatDoorMap
import Derived.Test.YtdfnfimajhagfaaGreatDoorPlain
import Derived.StillTailTactics
namespace Go.Proofs.YtdfnfimajhagfaaGreatDoor
open Go.RowKit Go.Maps Rf
abbrev MapS (w : World) (b n : Nat) (f : S → Option Value) : Prop := MapF w Tryz.prog 9 b n f
theorem keyS : Tryz.prog.underlying 9 = some .string := Tryz.underlying9
theorem mapB : Tryz.prog.underlying 137 = some (.map 9 4) := Tryz.underlying137
theorem zeroB (w : World) : (zeroValue 4).run Tryz.prog w = .ok (.bool false) w := by kernel_rfl
/-- the elements of a map of truths, of numbers -/
def boolF (l : List S) (s : S) : Option Value := if Rf.has l s then some (.bool true) else none
def intF (f : S → Option Nat) (s : S) : Option Value := (f s).map fun n => .int .i64 n
theorem boolF_get (l : List S) (s : S) : (boolF l s).getD (.bool false) = .bool (Rf.has l s) := by unfold boolF; cases Rf.has l s <;> rfl
theorem has_snoc (a : List S) (x s : S) : Rf.has (a ++ [x]) s = (decide (s = x) || Rf.has a s) := by
  rw [Bool.eq_iff_iff, has_iff, Bool.or_eq_true, decide_eq_true_iff, has_iff]
  simp [or_comm]
theorem boolF_snoc (a : List S) (x s : S) : boolF (a ++ [x]) s = updV (boolF a) x (.bool true) s := by
  unfold boolF updV
  rw [has_snoc]
  by_cases h : s = x
  · simp [h]
  · simp [h]
theorem take_all {α : Type} {l : List α} {n k : Nat} (h : l.length = n) (hk : k ≤ n) (hlt : ¬ k < n) : l.take k = l := List.take_of_length_le (by omega)
/-! ### the equations of look-ups, whatever was drawn -/
section
variable {w : World} {b n : Nat} {s : S}
end
/-- a graph in memory -/
def Gr (w : World) (g : Nat) (A : Option Addr) (n c hb sb : Nat) (l : List Ref) (heads : List S) : Prop :=
  g < w.heap.size ∧ n ≤ c ∧ Refs w A n l ∧ MapS w hb heads.length (boolF heads) ∧ MapS w sb n (intF (see l)) ∧
    w.cell? ⟨g, 0, none⟩ = some (.slice A n c) ∧ w.cell? ⟨g, 1, none⟩ = some (.map (some hb)) ∧ w.cell? ⟨g, 2, none⟩ = some (.map (some sb))
theorem Gr.below {w w' : World} {g : Nat} {A : Option Addr} {n c hb sb : Nat} {l : List Ref} {heads : List S} (h : Gr w g A n c hb sb l heads) (hbl : Below w.heap.size w w') : Gr w' g A n c hb sb l heads := by
  obtain ⟨h1, h2, h3, h4, h5, h6, h7, h8⟩ := h
  exact ⟨Nat.lt_of_lt_of_le h1 hbl.size, h2, h3.below hbl, h4.below hbl, h5.below hbl, (hbl.cell (p := ⟨g, 0, none⟩) h1).trans h6, (hbl.cell (p := ⟨g, 1, none⟩) h1).trans h7, (hbl.cell (p := ⟨g, 2, none⟩) h1).trans h8⟩
end Go.Proofs.YtdfnfimajhagfaaGreatDoor
