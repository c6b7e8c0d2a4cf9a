/- Maps keyed by strings, as functions from names to elements, whatever the elements; a range over one. -/
import Derived.Test.YtdfnfimajhagfaaGreatDoorMem
namespace Go.Proofs.YtdfnfimajhagfaaGreatDoor
open Go.RowKit Go.Maps Rf
/-- an element reads as itself -/
def held (v : Value) : Option (DataW Value × List MemPlace) := some (.held v, [])
def skey (s : S) : Lit := .string s.data.toList
theorem skey_inj {s t : S} (h : skey s = skey t) : s = t := by
  unfold skey at h
  injection h with h
  exact ByteArray.ext (Array.ext' h)
/-- block b is a map of at most n entries, whose element at s is f s -/
def MapF (w : World) (P : Program) (k : TypeId) (b n : Nat) (f : S → Option Value) : Prop :=
  ∃ D : DataW Value, w.ownsMap P k held b n D ∧ ∀ s : S, s.size ≤ maxLen → Maps.has D (skey s) = (f s).isSome ∧ ∀ v, f s = some v → ∀ z, D.atKey (skey s) z = .held v
def updV (f : S → Option Value) (s : S) (v : Value) (t : S) : Option Value := if t = s then some v else f t
theorem skey_of {P : Program} {k : TypeId} (hk : P.underlying k = some .string) {s : S} (hs : s.size ≤ maxLen) : keyOf P k (.string s) = some (skey s) := by
  simp [keyOf, hk, mapKey, hs, skey]
section
variable {w w' : World} {P : Program} {k : TypeId} {b n : Nat} {f : S → Option Value}
theorem MapF.made (w : World) (P : Program) (k : TypeId) : MapF (w.alloc (.map #[] 0)) P k w.heap.size 0 (fun _ => none) :=
  ⟨_, World.ownsMap_made w P k held, fun s _ => ⟨rfl, fun v h => by cases h⟩⟩
theorem MapF.kept {row : Option Nat} (h : MapF w P k b n f) (hg : w.grownBy w' row) (hne : some b ≠ row) : MapF w' P k b n f := by
  obtain ⟨D, h1, h2⟩ := h; exact ⟨D, h1.kept hg hne, h2⟩
theorem MapF.below (h : MapF w P k b n f) (hb : Below w.heap.size w w') : MapF w' P k b n f := h.kept (row := none) ⟨hb.os, hb.tape, hb.output, hb.size, fun k hk _ => hb.block k hk⟩ (by simp)
theorem MapF.alloc (h : MapF w P k b n f) (o : Obj) : MapF (w.alloc o) P k b n f := by
  obtain ⟨D, h1, h2⟩ := h; exact ⟨D, h1.alloc o, h2⟩
theorem MapF.drew (h : MapF w P k b n f) : MapF w.drew P k b n f := h
theorem MapF.setCell (h : MapF w P k b n f) {a : Addr} (ha : b ≠ a.block) (u : Value) : MapF (w.setCell a u) P k b n f := by
  obtain ⟨D, h1, h2⟩ := h; exact ⟨D, h1.setCell ha u, h2⟩
theorem MapF.mono (h : MapF w P k b n f) {n' : Nat} (hn : n ≤ n') : MapF w P k b n' f := by
  obtain ⟨D, h1, h2⟩ := h; exact ⟨D, h1.mono hn, h2⟩
theorem MapF.congr (h : MapF w P k b n f) {g : S → Option Value} (hg : ∀ s, g s = f s) : MapF w P k b n g := by
  obtain rfl : g = f := funext hg; exact h
theorem MapF.look {t e : TypeId} (h : MapF w P k b n f) (hk : P.underlying k = some .string) (ht : P.underlying t = some (.map k e)) {z : Value} (hz : (zeroValue e).run P w = .ok z w) {s : S} (hs : s.size ≤ maxLen) :
    (Instr.lookup t (.map (some b)) (.string s) true).run P w = .ok (.tuple #[(f s).getD z, .bool (f s).isSome]) w ∧ (Instr.lookup t (.map (some b)) (.string s) false).run P w = .ok ((f s).getD z) w := by
  obtain ⟨D, h1, h2⟩ := h
  obtain ⟨h3, h4⟩ := h2 s hs
  have K := string_keyed hk
  have hat : ∀ v, held v = some (D.atKey (skey s) (.held z), []) → v = (f s).getD z := fun v hv => by
    cases hf : f s with
    | none =>
      rw [hf] at h3
      rw [atKey_of_not_has h3] at hv
      simpa [held] using hv
    | some u =>
      rw [h4 u hf] at hv
      simpa [held] using hv
  obtain ⟨v, ps, hr, hv⟩ := h1.look_ok K ht hz (z := z) (zd := .held z) (zp := []) rfl (skey_of hk hs)
  obtain ⟨v', ps', hr', hv'⟩ := h1.lookup K ht hz (z := z) (zd := .held z) (zp := []) rfl (skey_of hk hs)
  have e1 := hat v (by rw [hv]; simp [held] at hv; rw [hv.2])
  have e2 := hat v' (by rw [hv']; simp [held] at hv'; rw [hv'.2])
  rw [hr, hr', e1, e2, h3]
  exact ⟨rfl, rfl⟩
theorem MapF.store {t e : TypeId} (h : MapF w P k b n f) (hk : P.underlying k = some .string) (ht : P.underlying t = some (.map k e)) (hn : n < maxLen) {s : S} (hs : s.size ≤ maxLen) (v : Value) :
    ∃ w', (Instr.mapUpdate t (.map (some b)) (.string s) v).run P w = .ok () w' ∧ MapF w' P k b (n + 1) (updV f s v) ∧ w.grownBy w' (some b) := by
  obtain ⟨D, h1, h2⟩ := h
  have K := string_keyed hk
  have hkey := skey_of (P := P) hk hs
  obtain ⟨w', hrun, r1, r2⟩ := h1.update K ht hn hkey (val := v) (d := .held v) (ps := []) rfl
  refine ⟨w', hrun, ⟨_, r1, fun t ht' => ?_⟩, r2⟩
  obtain ⟨h3, h4⟩ := h2 t ht'
  unfold updV
  by_cases hts : t = s
  · subst hts
    rw [if_pos rfl]
    refine ⟨has_put_same h1.isMap (K.key hkey) _, fun u hu z => ?_⟩
    cases hu
    exact atKey_put_same h1.isMap (K.key hkey) _ _
  · rw [if_neg hts]
    have hne : skey t ≠ skey s := fun e => hts (skey_inj e)
    refine ⟨by rw [has_put_other hne]; exact h3, fun u hu z => ?_⟩
    rw [atKey_put_other hne]; exact h4 u hu z
end
/-! ### at the operation -/
section
variable {P : Program} (w : World) {ops : Array Oper} {rest : List Oper} {o : Oper} {a : Act} {Q : Exit → Act → World → Prop} {K : Act → World → Prop}
theorem wp_store (m x v : Operand) (t : TypeId) (hop : o.op = Op.mapUpdate t m x v) {k e : TypeId} (hk : P.underlying k = some .string) (ht : P.underlying t = some (.map k e))
    {b n : Nat} {f : S → Option Value} (hm : a.eval m = .map (some b)) (hown : MapF w P k b n f) (s : S) (hx : a.eval x = .string s) (u : Value) (hv : a.eval v = u) (hs : s.size ≤ maxLen) (hn : n < maxLen)
    (hK : ∀ w', MapF w' P k b (n + 1) (updV f s u) → w.grownBy w' (some b) → K (a.put o.dst undef) w') : o.wp P a w K Q := by
  obtain ⟨w', hrun, r1, r2⟩ := hown.store hk ht hn hs u
  unfold Oper.wp
  simp [execOp, hop, hm, hx, hv, hrun, Result.andThen]
  exact hK w' r1 r2
theorem wpList_store (hg : o.guard = none) (m x v : Operand) (t : TypeId) (hop : o.op = Op.mapUpdate t m x v) {k e : TypeId} (hk : P.underlying k = some .string) (ht : P.underlying t = some (.map k e))
    {b n : Nat} {f : S → Option Value} (hm : a.eval m = .map (some b)) (hown : MapF w P k b n f) (s : S) (hx : a.eval x = .string s) (u : Value) (hv : a.eval v = u) (hs : s.size ≤ maxLen) (hn : n < maxLen)
    (hK : ∀ w', MapF w' P k b (n + 1) (updV f s u) → w.grownBy w' (some b) → wpList P ops Q rest (a.put o.dst undef) w') : wpList P ops Q (o :: rest) a w :=
  wpList_plain hg fun _ hK' => wp_store w m x v t hop hk ht hm hown s hx u hv hs hn fun w' h1 h2 => hK' _ _ (hK w' h1 h2)
end
/-! ### a range over one -/
/-- a range over the map in block b is under way, its iterator in block r; 'left s': the entry at s is still to come -/
def MapR (w : World) (P : Program) (k : TypeId) (b r n : Nat) (f : S → Option Value) (left : S → Bool) (cnt : Nat) : Prop :=
  ∃ (D : DataW Value) (lf : Lit → Bool), w.ranges P k held b r n D lf cnt ∧ (∀ s : S, s.size ≤ maxLen → lf (skey s) = left s) ∧
    ∀ s : S, s.size ≤ maxLen → Maps.has D (skey s) = (f s).isSome ∧ ∀ v, f s = some v → ∀ z, D.atKey (skey s) z = .held v
section
variable {w w' : World} {P : Program} {k : TypeId} {b r n : Nat} {f : S → Option Value} {left : S → Bool} {cnt : Nat}
theorem MapR.map (h : MapR w P k b r n f left cnt) : MapF w P k b n f := by obtain ⟨D, lf, h1, h2, h3⟩ := h; exact ⟨D, h1.owns, h3⟩
end
section
variable {P : Program} (w : World) {ops : Array Oper} {rest : List Oper} {o : Oper} {a : Act} {Q : Exit → Act → World → Prop}
end
end Go.Proofs.YtdfnfimajhagfaaGreatDoor
