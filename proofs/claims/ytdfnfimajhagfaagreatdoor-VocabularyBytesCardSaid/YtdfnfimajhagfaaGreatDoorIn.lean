/- The numbers of an argument, as a list. -/
import Derived.Test.YtdfnfimajhagfaaGreatDoorMem
import Derived.OpenShut
namespace Go.Proofs.YtdfnfimajhagfaaGreatDoor
open Go.RowKit Go.Maps Rf
/-- a slice of numbers that came in, as a list -/
theorem ints_in {w : World} {x : Addr} {len cap : Nat} {zs : List Int} (hl : len ≤ cap) (hz : zs.length = cap) (hc : ∀ i, i < zs.length → w.cell? (x.add i) = some (.int .i64 (zs.getD i 0))) (hw : ∀ n ∈ zs, (Lit.int .i64 n).wf = true) : Ints w (some x) len (zs.take len) := by
  refine ⟨by rw [List.length_take]; omega, fun i hi => ?_, fun hp => ?_⟩
  · have := hw i (List.mem_of_mem_take hi)
    simpa [Lit.wf, IntKind.min, IntKind.max, IntKind.signed, IntKind.bits, i64ok] using this
  · rw [List.length_map, List.length_take] at hp
    obtain ⟨b, off, rfl, hc'⟩ := Go.ints_at hc (by omega)
    refine ⟨b, off, rfl, World.block_lt_of_cell? w ⟨b, off, none⟩ (u := .int .i64 (zs.getD 0 0)) (by have := hc' 0 (by omega); rwa [Nat.add_zero] at this), fun j u hu => ?_⟩
    rw [List.getElem?_map] at hu
    cases hj : (zs.take len)[j]? with
    | none => rw [hj] at hu; cases hu
    | some y =>
      rw [hj] at hu
      injection hu with hu
      subst hu
      obtain ⟨hjl, rfl⟩ := List.getElem?_eq_some_iff.1 hj
      rw [List.length_take] at hjl
      rw [hc' j (by omega), List.getElem_take]
      simp [List.getD_eq_getElem?_getD, List.getElem?_eq_getElem (show j < zs.length by omega)]
end Go.Proofs.YtdfnfimajhagfaaGreatDoor
