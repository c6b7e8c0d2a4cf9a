/- Maps keyed by strings, as functions from names to elements, whatever the elements; a range over one. -/
import Derived.Test.YtdfnfimajhagfaaGreatDoorMem
namespace Go.Proofs.YtdfnfimajhagfaaGreatDoor
open Go.RowKit Go.Maps Rf
/-- an element reads as itself -/
def held (v : Value) : Option (DataW Value × List MemPlace) := some (.held v, [])
def skey (s : S) : Lit := .string s.data.toList
theorem skey_inj {s t : S} (h : skey s = skey t) : s = t := by
  unfold skey at h
  injection h with h
  exact ByteArray.ext (Array.ext' h)
/-- block b is a map of at most n entries, whose element at s is f s -/
def MapF (w : World) (P : Program) (k : TypeId) (b n : Nat) (f : S → Option Value) : Prop :=
  ∃ D : DataW Value, w.ownsMap P k held b n D ∧ ∀ s : S, s.size ≤ maxLen → Maps.has D (skey s) = (f s).isSome ∧ ∀ v, f s = some v → ∀ z, D.atKey (skey s) z = .held v
def updV (f : S → Option Value) (s : S) (v : Value) (t : S) : Option Value := if t = s then some v else f t
theorem skey_of {P : Program} {k : TypeId} (hk : P.underlying k = some .string) {s : S} (hs : s.size ≤ maxLen) : keyOf P k (.string s) = some (skey s) := by
  simp [keyOf, hk, mapKey, hs, skey]
theorem skey_inv {P : Program} {k : TypeId} (hk : P.underlying k = some .string) {key : Value} {kl : Lit} (h : keyOf P k key = some kl) : ∃ s : S, key = .string s ∧ kl = skey s ∧ s.size ≤ maxLen := by
  cases key <;> simp [keyOf, hk, mapKey] at h
  obtain ⟨h1, rfl⟩ := h
  exact ⟨_, rfl, rfl, h1⟩
section
variable {w w' : World} {P : Program} {k : TypeId} {b n : Nat} {f : S → Option Value}
theorem MapF.made (w : World) (P : Program) (k : TypeId) : MapF (w.alloc (.map #[] 0)) P k w.heap.size 0 (fun _ => none) :=
  ⟨_, World.ownsMap_made w P k held, fun s _ => ⟨rfl, fun v h => by cases h⟩⟩
theorem MapF.kept {row : Option Nat} (h : MapF w P k b n f) (hg : w.grownBy w' row) (hne : some b ≠ row) : MapF w' P k b n f := by
  obtain ⟨D, h1, h2⟩ := h; exact ⟨D, h1.kept hg hne, h2⟩
theorem MapF.lt (h : MapF w P k b n f) : b < w.heap.size := by obtain ⟨D, h1, h2⟩ := h; exact h1.lt
theorem MapF.below (h : MapF w P k b n f) (hb : Below w.heap.size w w') : MapF w' P k b n f := h.kept (row := none) ⟨hb.os, hb.tape, hb.output, hb.size, fun k hk _ => hb.block k hk⟩ (by simp)
theorem MapF.alloc (h : MapF w P k b n f) (o : Obj) : MapF (w.alloc o) P k b n f := by
  obtain ⟨D, h1, h2⟩ := h; exact ⟨D, h1.alloc o, h2⟩
theorem MapF.drew (h : MapF w P k b n f) : MapF w.drew P k b n f := h
theorem MapF.setCell (h : MapF w P k b n f) {a : Addr} (ha : b ≠ a.block) (u : Value) : MapF (w.setCell a u) P k b n f := by
  obtain ⟨D, h1, h2⟩ := h; exact ⟨D, h1.setCell ha u, h2⟩
theorem MapF.mono (h : MapF w P k b n f) {n' : Nat} (hn : n ≤ n') : MapF w P k b n' f := by
  obtain ⟨D, h1, h2⟩ := h; exact ⟨D, h1.mono hn, h2⟩
theorem MapF.congr (h : MapF w P k b n f) {g : S → Option Value} (hg : ∀ s, g s = f s) : MapF w P k b n g := by
  obtain rfl : g = f := funext hg; exact h
theorem MapF.look {t e : TypeId} (h : MapF w P k b n f) (hk : P.underlying k = some .string) (ht : P.underlying t = some (.map k e)) {z : Value} (hz : (zeroValue e).run P w = .ok z w) {s : S} (hs : s.size ≤ maxLen) :
    (Instr.lookup t (.map (some b)) (.string s) true).run P w = .ok (.tuple #[(f s).getD z, .bool (f s).isSome]) w ∧ (Instr.lookup t (.map (some b)) (.string s) false).run P w = .ok ((f s).getD z) w := by
  obtain ⟨D, h1, h2⟩ := h
  obtain ⟨h3, h4⟩ := h2 s hs
  have K := string_keyed hk
  have hat : ∀ v, held v = some (D.atKey (skey s) (.held z), []) → v = (f s).getD z := fun v hv => by
    cases hf : f s with
    | none =>
      rw [hf] at h3
      rw [atKey_of_not_has h3] at hv
      simpa [held] using hv
    | some u =>
      rw [h4 u hf] at hv
      simpa [held] using hv
  obtain ⟨v, ps, hr, hv⟩ := h1.look_ok K ht hz (z := z) (zd := .held z) (zp := []) rfl (skey_of hk hs)
  obtain ⟨v', ps', hr', hv'⟩ := h1.lookup K ht hz (z := z) (zd := .held z) (zp := []) rfl (skey_of hk hs)
  have e1 := hat v (by rw [hv]; simp [held] at hv; rw [hv.2])
  have e2 := hat v' (by rw [hv']; simp [held] at hv'; rw [hv'.2])
  rw [hr, hr', e1, e2, h3]
  exact ⟨rfl, rfl⟩
theorem MapF.store {t e : TypeId} (h : MapF w P k b n f) (hk : P.underlying k = some .string) (ht : P.underlying t = some (.map k e)) (hn : n < maxLen) {s : S} (hs : s.size ≤ maxLen) (v : Value) :
    ∃ w', (Instr.mapUpdate t (.map (some b)) (.string s) v).run P w = .ok () w' ∧ MapF w' P k b (n + 1) (updV f s v) ∧ w.grownBy w' (some b) := by
  obtain ⟨D, h1, h2⟩ := h
  have K := string_keyed hk
  have hkey := skey_of (P := P) hk hs
  obtain ⟨w', hrun, r1, r2⟩ := h1.update K ht hn hkey (val := v) (d := .held v) (ps := []) rfl
  refine ⟨w', hrun, ⟨_, r1, fun t ht' => ?_⟩, r2⟩
  obtain ⟨h3, h4⟩ := h2 t ht'
  unfold updV
  by_cases hts : t = s
  · subst hts
    rw [if_pos rfl]
    refine ⟨has_put_same h1.isMap (K.key hkey) _, fun u hu z => ?_⟩
    cases hu
    exact atKey_put_same h1.isMap (K.key hkey) _ _
  · rw [if_neg hts]
    have hne : skey t ≠ skey s := fun e => hts (skey_inj e)
    refine ⟨by rw [has_put_other hne]; exact h3, fun u hu z => ?_⟩
    rw [atKey_put_other hne]; exact h4 u hu z
end
/-! ### at the operation -/
section
variable {P : Program} (w : World) {ops : Array Oper} {rest : List Oper} {o : Oper} {a : Act} {Q : Exit → Act → World → Prop} {K : Act → World → Prop}
theorem wp_look2 (m x : Operand) (t : TypeId) (hop : o.op = Op.lookup t m x true) {k e : TypeId} (hk : P.underlying k = some .string) (ht : P.underlying t = some (.map k e)) {z : Value} (hz : (zeroValue e).run P w = .ok z w)
    {b n : Nat} {f : S → Option Value} (hm : a.eval m = .map (some b)) (hown : MapF w P k b n f) (s : S) (hx : a.eval x = .string s) (hs : s.size ≤ maxLen)
    (hK : K (a.put o.dst (.tuple #[(f s).getD z, .bool (f s).isSome])) w) : o.wp P a w K Q := by
  unfold Oper.wp
  simp [execOp, hop, hm, hx, (hown.look hk ht hz hs).1, Result.andThen]
  exact hK
theorem wp_look1 (m x : Operand) (t : TypeId) (hop : o.op = Op.lookup t m x false) {k e : TypeId} (hk : P.underlying k = some .string) (ht : P.underlying t = some (.map k e)) {z : Value} (hz : (zeroValue e).run P w = .ok z w)
    {b n : Nat} {f : S → Option Value} (hm : a.eval m = .map (some b)) (hown : MapF w P k b n f) (s : S) (hx : a.eval x = .string s) (hs : s.size ≤ maxLen)
    (hK : K (a.put o.dst ((f s).getD z)) w) : o.wp P a w K Q := by
  unfold Oper.wp
  simp [execOp, hop, hm, hx, (hown.look hk ht hz hs).2, Result.andThen]
  exact hK
theorem wp_store (m x v : Operand) (t : TypeId) (hop : o.op = Op.mapUpdate t m x v) {k e : TypeId} (hk : P.underlying k = some .string) (ht : P.underlying t = some (.map k e))
    {b n : Nat} {f : S → Option Value} (hm : a.eval m = .map (some b)) (hown : MapF w P k b n f) (s : S) (hx : a.eval x = .string s) (u : Value) (hv : a.eval v = u) (hs : s.size ≤ maxLen) (hn : n < maxLen)
    (hK : ∀ w', MapF w' P k b (n + 1) (updV f s u) → w.grownBy w' (some b) → K (a.put o.dst undef) w') : o.wp P a w K Q := by
  obtain ⟨w', hrun, r1, r2⟩ := hown.store hk ht hn hs u
  unfold Oper.wp
  simp [execOp, hop, hm, hx, hv, hrun, Result.andThen]
  exact hK w' r1 r2
theorem wpList_look2 (hg : o.guard = none) (m x : Operand) (t : TypeId) (hop : o.op = Op.lookup t m x true) {k e : TypeId} (hk : P.underlying k = some .string) (ht : P.underlying t = some (.map k e)) {z : Value} (hz : (zeroValue e).run P w = .ok z w)
    {b n : Nat} {f : S → Option Value} (hm : a.eval m = .map (some b)) (hown : MapF w P k b n f) (s : S) (hx : a.eval x = .string s) (hs : s.size ≤ maxLen)
    (hK : wpList P ops Q rest (a.put o.dst (.tuple #[(f s).getD z, .bool (f s).isSome])) w) : wpList P ops Q (o :: rest) a w :=
  wpList_plain hg fun _ hK' => wp_look2 w m x t hop hk ht hz hm hown s hx hs (hK' _ _ hK)
theorem wpList_look1 (hg : o.guard = none) (m x : Operand) (t : TypeId) (hop : o.op = Op.lookup t m x false) {k e : TypeId} (hk : P.underlying k = some .string) (ht : P.underlying t = some (.map k e)) {z : Value} (hz : (zeroValue e).run P w = .ok z w)
    {b n : Nat} {f : S → Option Value} (hm : a.eval m = .map (some b)) (hown : MapF w P k b n f) (s : S) (hx : a.eval x = .string s) (hs : s.size ≤ maxLen)
    (hK : wpList P ops Q rest (a.put o.dst ((f s).getD z)) w) : wpList P ops Q (o :: rest) a w :=
  wpList_plain hg fun _ hK' => wp_look1 w m x t hop hk ht hz hm hown s hx hs (hK' _ _ hK)
theorem wpList_store (hg : o.guard = none) (m x v : Operand) (t : TypeId) (hop : o.op = Op.mapUpdate t m x v) {k e : TypeId} (hk : P.underlying k = some .string) (ht : P.underlying t = some (.map k e))
    {b n : Nat} {f : S → Option Value} (hm : a.eval m = .map (some b)) (hown : MapF w P k b n f) (s : S) (hx : a.eval x = .string s) (u : Value) (hv : a.eval v = u) (hs : s.size ≤ maxLen) (hn : n < maxLen)
    (hK : ∀ w', MapF w' P k b (n + 1) (updV f s u) → w.grownBy w' (some b) → wpList P ops Q rest (a.put o.dst undef) w') : wpList P ops Q (o :: rest) a w :=
  wpList_plain hg fun _ hK' => wp_store w m x v t hop hk ht hm hown s hx u hv hs hn fun w' h1 h2 => hK' _ _ (hK w' h1 h2)
end
/-! ### a range over one -/
/-- a range over the map in block b is under way, its iterator in block r; 'left s': the entry at s is still to come -/
def MapR (w : World) (P : Program) (k : TypeId) (b r n : Nat) (f : S → Option Value) (left : S → Bool) (cnt : Nat) : Prop :=
  ∃ (D : DataW Value) (lf : Lit → Bool), w.ranges P k held b r n D lf cnt ∧ (∀ s : S, s.size ≤ maxLen → lf (skey s) = left s) ∧
    ∀ s : S, s.size ≤ maxLen → Maps.has D (skey s) = (f s).isSome ∧ ∀ v, f s = some v → ∀ z, D.atKey (skey s) z = .held v
def strike (left : S → Bool) (s t : S) : Bool := left t && !decide (t = s)
section
variable {w w' : World} {P : Program} {k : TypeId} {b r n : Nat} {f : S → Option Value} {left : S → Bool} {cnt : Nat}
theorem MapR.map (h : MapR w P k b r n f left cnt) : MapF w P k b n f := by obtain ⟨D, lf, h1, h2, h3⟩ := h; exact ⟨D, h1.owns, h3⟩
theorem MapR.kept {row : Option Nat} (h : MapR w P k b r n f left cnt) (hg : w.grownBy w' row) (hb' : some b ≠ row) (hr' : some r ≠ row) : MapR w' P k b r n f left cnt := by
  obtain ⟨D, lf, h1, h2, h3⟩ := h; exact ⟨D, lf, h1.kept hg hb' hr', h2, h3⟩
theorem MapR.alloc (h : MapR w P k b r n f left cnt) (o : Obj) : MapR (w.alloc o) P k b r n f left cnt := by
  obtain ⟨D, lf, h1, h2, h3⟩ := h; exact ⟨D, lf, h1.alloc o, h2, h3⟩
theorem MapR.lt (h : MapR w P k b r n f left cnt) : r < w.heap.size := by obtain ⟨D, lf, h1, h2, h3⟩ := h; exact h1.lt
theorem MapR.ne (h : MapR w P k b r n f left cnt) : r ≠ b := by obtain ⟨D, lf, h1, h2, h3⟩ := h; exact h1.ne
theorem MapR.left_eq (h : MapR w P k b r n f left cnt) : w.rangeLeft b r = cnt := by obtain ⟨D, lf, h1, h2, h3⟩ := h; exact h1.left_eq
end
section
variable {P : Program} (w : World) {ops : Array Oper} {rest : List Oper} {o : Oper} {a : Act} {Q : Exit → Act → World → Prop}
theorem wpList_range (hg : o.guard = none) (m : Operand) (t : TypeId) (hop : o.op = Op.range t m) {k e : TypeId} (hk : P.underlying k = some .string) (ht : P.underlying t = some (.map k e)) {b n : Nat} {f : S → Option Value}
    (hm : a.eval m = .map (some b)) (hown : MapF w P k b n f)
    (hK : ∀ w' cnt, MapR w' P k b w.heap.size n f (fun s => (f s).isSome) cnt → cnt ≤ n → w.grownBy w' none → w'.heap.size = w.heap.size + 1 → wpList P ops Q rest (a.put o.dst (.pointer (some ⟨w.heap.size, 0, none⟩))) w') :
    wpList P ops Q (o :: rest) a w := by
  obtain ⟨D, h1, h2⟩ := hown
  exact wpList_range_own w hg m t hop k e (string_keyed hk) ht held b n D hm h1 fun w' r1 r2 r3 => hK w' _ ⟨D, _, r1, fun s hs => (h2 s hs).1, h2⟩ h1.size_le r2 r3
theorem wpList_next (hg : o.guard = none) (it : Operand) (hop : o.op = Op.next it false) {k : TypeId} (hk : P.underlying k = some .string) {b r n : Nat} {f : S → Option Value} {left : S → Bool} {cnt : Nat}
    (hit : a.eval it = .pointer (some ⟨r, 0, none⟩)) (h : MapR w P k b r n f left cnt)
    (hDone : cnt = 0 → (∀ s : S, s.size ≤ maxLen → left s = false) → wpList P ops Q rest (a.put o.dst (.tuple #[.bool false])) w)
    (hMore : ∀ (s : S) (v : Value) (w' : World) (cnt' : Nat), s.size ≤ maxLen → left s = true → (f s).isSome = true → f s = some v → MapR w' P k b r n f (strike left s) cnt' → cnt' < cnt → w.grownBy w' (some r) → w'.heap.size = w.heap.size →
      (Instr.entry (.pointer (some ⟨r, 0, none⟩))).run P w' = .ok (.tuple #[.string s, v]) w' → wpList P ops Q rest (a.put o.dst (.tuple #[.bool true, .string s, v])) w') :
    wpList P ops Q (o :: rest) a w := by
  obtain ⟨D, lf, h1, h2, h3⟩ := h
  refine wpList_next_ranges w hg it hop k (string_keyed hk) held Value.string (fun v : Value => v) (fun key kl hkey => by obtain ⟨s, h, _⟩ := skey_inv hk hkey; exact ⟨s, h⟩) (fun v y hv => ⟨v, rfl⟩) b r n D lf cnt hit h1
    (fun h0 hl => hDone h0 fun s hs => by rw [← h2 s hs]; exact hl _) fun s v kl y w' cnt' hkey hlk hv hat hrg hlt hg2 hs2 hen => ?_
  obtain ⟨s', e1, rfl, hs⟩ := skey_inv hk hkey
  injection e1 with e1
  subst e1
  obtain ⟨h4, h5⟩ := h3 s hs
  have hsome : (f s).isSome = true := by
    cases hf : f s with
    | some u => rfl
    | none =>
      rw [hf] at h4
      have e := hat (.held (.bool true))
      have e' := hat (.held (.bool false))
      rw [atKey_of_not_has h4] at e e'
      rw [← e'] at e
      cases e
  obtain ⟨u, hu⟩ := Option.isSome_iff_exists.1 hsome
  have hvu : f s = some v := by
    have := h5 u hu (.held u)
    rw [hat] at this
    simp [held] at hv
    rw [← hv] at this
    injection this with this
    rw [hu, this]
  refine hMore s v w' cnt' hs (by rw [← h2 s hs]; exact hlk) hsome hvu ⟨D, _, hrg, fun t ht => ?_, h3⟩ hlt hg2 hs2 hen
  show (lf (skey t) && !(skey t).sameKey (skey s)) = (left t && !decide (t = s))
  rw [h2 t ht]
  congr 2
  by_cases hts : t = s
  · subst hts
    rw [decide_eq_true rfl]
    exact WideAt.sameKey_self ((string_keyed hk).key hkey)
  · rw [decide_eq_false hts]
    exact sameKey_ne fun e => hts (skey_inj e)
end
end Go.Proofs.YtdfnfimajhagfaaGreatDoor
