/- Words for memory: slices that read as lists of strings, references, numbers; maps keyed by strings; what a callee leaves. -/
import Derived.WalkKit
import Derived.WalkLawsBesides
import Derived.WalkSpells
import Derived.Lib.Hide
import Derived.Maps.OwnSet
import Derived.Maps.RangeWalk
import Derived.Maps.AppendAt
import Derived.Deep.Draws
import Derived.Test.YtdfnfimajhagfaaGreatDoorSpec
namespace Go.Proofs.YtdfnfimajhagfaaGreatDoor
open Go.RowKit Go.Maps Rf
/-! ### slices -/
/-- the slice whose address is A reads as the cells xs -/
def Rds (w : World) (A : Option Addr) (xs : List Value) : Prop :=
  0 < xs.length → ∃ b off, A = some ⟨b, off, none⟩ ∧ b < w.heap.size ∧ ∀ j u, xs[j]? = some u → w.cell? ⟨b, off + j, none⟩ = some u
theorem Rds.below {w w' : World} {A : Option Addr} {xs : List Value} (h : Rds w A xs) (hb : Below w.heap.size w w') : Rds w' A xs := fun hl => by
  obtain ⟨b, off, rfl, hlt, hc⟩ := h hl
  exact ⟨b, off, rfl, Nat.lt_of_lt_of_le hlt hb.size, fun j u hu => (hb.cell (p := ⟨b, off + j, none⟩) hlt).trans (hc j u hu)⟩
theorem Rds.nil (w : World) (A : Option Addr) : Rds w A [] := fun h => absurd h (by simp)
theorem addr_add (b off k : Nat) : (⟨b, off, none⟩ : Addr).add k = ⟨b, off + k, none⟩ := by
  unfold Addr.add; split
  · subst_vars; rfl
  · rfl
theorem Rds.drop {w : World} {A : Option Addr} {xs : List Value} (h : Rds w A xs) (k : Nat) {cap : Nat} (_hc : xs.length ≤ cap) (size : Nat) (hk : k * size ≤ xs.length → cap = k → k * size = xs.length) :
    Rds w (if cap = k then A else A.map (·.add (k * size))) (xs.drop (k * size)) := fun hl => by
  rw [List.length_drop] at hl
  obtain ⟨b, off, rfl, hlt, hcell⟩ := h (by omega)
  rw [if_neg (fun e => by have := hk (by omega) e; omega)]
  refine ⟨b, off + k * size, by simp [addr_add], hlt, fun j u hu => ?_⟩
  rw [List.getElem?_drop] at hu
  rw [Nat.add_assoc]; exact hcell _ u hu
theorem Rds.take {w : World} {A : Option Addr} {xs : List Value} (h : Rds w A xs) (k : Nat) : Rds w A (xs.take k) := fun hl => by
  rw [List.length_take] at hl
  obtain ⟨b, off, rfl, hlt, hcell⟩ := h (by omega)
  refine ⟨b, off, rfl, hlt, fun j u hu => hcell j u ?_⟩
  rw [List.getElem?_take] at hu
  split at hu
  · exact hu
  · cases hu
theorem Rds.of_own {w : World} {base : Nat} {e : TypeId} {size : Nat} {A : Option Addr} {n c : Nat} {xs : List Value} (h : w.ownsRow base e size (.slice A n c) n xs) : Rds w A xs := fun hl => by
  rcases h.2 with ⟨_, rfl⟩ | ⟨g, cap, cur, hv, _, hh, _, _, _, _⟩
  · have := h.1; omega
  · injection hv with hA _ _
    refine ⟨g, 0, hA, (Array.getElem?_eq_some_iff.1 hh).1, fun j u hu => ?_⟩
    have := h.cells (g := g) (by rw [hA]; rfl) j u hu
    rwa [addr_add] at this
/-- strings -/
def Strs (w : World) (A : Option Addr) (n : Nat) (l : List S) : Prop := l.length = n ∧ (∀ s ∈ l, s.size ≤ maxLen) ∧ Rds w A (l.map Value.string)
def refCells (r : Ref) : List Value := [.string r.frm, .string r.to, .bool r.also]
def refsCells (l : List Ref) : List Value := l.flatMap refCells
/-- references -/
def Refs (w : World) (A : Option Addr) (n : Nat) (l : List Ref) : Prop := l.length = n ∧ (∀ r ∈ l, r.frm.size ≤ maxLen ∧ r.to.size ≤ maxLen) ∧ Rds w A (refsCells l)
def i64ok (i : Int) : Prop := -9223372036854775808 ≤ i ∧ i ≤ 9223372036854775807
/-- numbers -/
def Ints (w : World) (A : Option Addr) (n : Nat) (l : List Int) : Prop := l.length = n ∧ (∀ i ∈ l, i64ok i) ∧ Rds w A (l.map (Value.int .i64))
section
variable {w w' : World} {A : Option Addr} {n : Nat}
theorem Strs.below {l : List S} (h : Strs w A n l) (hb : Below w.heap.size w w') : Strs w' A n l := ⟨h.1, h.2.1, h.2.2.below hb⟩
theorem Refs.below {l : List Ref} (h : Refs w A n l) (hb : Below w.heap.size w w') : Refs w' A n l := ⟨h.1, h.2.1, h.2.2.below hb⟩
theorem Ints.below {l : List Int} (h : Ints w A n l) (hb : Below w.heap.size w w') : Ints w' A n l := ⟨h.1, h.2.1, h.2.2.below hb⟩
theorem Strs.nil (w : World) : Strs w none 0 [] := ⟨rfl, by simp, Rds.nil _ _⟩
theorem Refs.nil (w : World) : Refs w none 0 [] := ⟨rfl, by simp, Rds.nil _ _⟩
theorem Ints.nil (w : World) : Ints w none 0 [] := ⟨rfl, by simp, Rds.nil _ _⟩
theorem Strs.at_ {l : List S} (h : Strs w A n l) {k : Nat} (hk : k < n) :
    ∃ b off s, A = some ⟨b, off, none⟩ ∧ l[k]? = some s ∧ s.size ≤ maxLen ∧ b < w.heap.size ∧ w.cell? ⟨b, off + k, none⟩ = some (.string s) := by
  obtain ⟨h1, h2, h3⟩ := h
  obtain ⟨b, off, hA, hb, hc⟩ := h3 (by rw [List.length_map]; omega)
  have hl : k < l.length := by omega
  exact ⟨b, off, l[k], hA, List.getElem?_eq_getElem hl, h2 _ (List.getElem_mem hl), hb, hc k _ (by rw [List.getElem?_map, List.getElem?_eq_getElem hl]; rfl)⟩
theorem Ints.at_ {l : List Int} (h : Ints w A n l) {k : Nat} (hk : k < n) :
    ∃ b off i, A = some ⟨b, off, none⟩ ∧ l[k]? = some i ∧ i64ok i ∧ b < w.heap.size ∧ w.cell? ⟨b, off + k, none⟩ = some (.int .i64 i) := by
  obtain ⟨h1, h2, h3⟩ := h
  obtain ⟨b, off, hA, hb, hc⟩ := h3 (by rw [List.length_map]; omega)
  have hl : k < l.length := by omega
  exact ⟨b, off, l[k], hA, List.getElem?_eq_getElem hl, h2 _ (List.getElem_mem hl), hb, hc k _ (by rw [List.getElem?_map, List.getElem?_eq_getElem hl]; rfl)⟩
theorem refsCells_length : ∀ l : List Ref, (refsCells l).length = l.length * 3
  | [] => rfl
  | r :: l => by
    have := refsCells_length l
    simp only [refsCells, List.flatMap_cons, List.length_append, List.length_cons] at *
    rw [this]; simp [refCells]; omega
theorem refsCells_get : ∀ (l : List Ref) (k j : Nat), j < 3 → (refsCells l)[k * 3 + j]? = (l[k]?).bind fun r => (refCells r)[j]?
  | [], k, j, _ => by simp [refsCells]
  | r :: l, 0, j, hj => by
    simp only [refsCells, List.flatMap_cons, Nat.zero_mul, Nat.zero_add, List.getElem?_cons_zero, Option.bind_some]
    rw [List.getElem?_append_left (by simp [refCells]; exact hj)]
  | r :: l, k + 1, j, hj => by
    have := refsCells_get l k j hj
    simp only [refsCells, List.flatMap_cons, List.getElem?_cons_succ] at *
    rw [List.getElem?_append_right (by simp [refCells]; omega), ← this]
    congr 1
    simp [refCells]; omega
theorem refsCells_take (l : List Ref) : ∀ k, (refsCells l).take (k * 3) = refsCells (l.take k) := by
  induction l with
  | nil => intro k; simp [refsCells]
  | cons r l ih =>
    intro k
    cases k with
    | zero => simp [refsCells]
    | succ k =>
      rw [List.take_succ_cons, show (k + 1) * 3 = k * 3 + 1 + 1 + 1 from by omega]
      have := ih k
      simp only [refsCells, List.flatMap_cons, refCells, List.cons_append, List.nil_append, List.take_succ_cons] at *
      rw [this]
theorem Refs.at_ {l : List Ref} (h : Refs w A n l) {k : Nat} (hk : k < n) :
    ∃ b off r, A = some ⟨b, off, none⟩ ∧ l[k]? = some r ∧ r.frm.size ≤ maxLen ∧ r.to.size ≤ maxLen ∧ b < w.heap.size ∧ w.cell? ⟨b, off + k * 3, none⟩ = some (.string r.frm) ∧
      w.cell? ⟨b, off + k * 3 + 1, none⟩ = some (.string r.to) ∧ w.cell? ⟨b, off + k * 3 + 2, none⟩ = some (.bool r.also) := by
  obtain ⟨h1, h2, h3⟩ := h
  obtain ⟨b, off, hA, hb, hc⟩ := h3 (by rw [refsCells_length]; omega)
  have hl : k < l.length := by omega
  have hm := h2 _ (List.getElem_mem hl)
  have he := List.getElem?_eq_getElem hl
  refine ⟨b, off, l[k], hA, he, hm.1, hm.2, hb, ?_, ?_, ?_⟩
  · have := hc (k * 3 + 0) (.string l[k].frm) (by rw [refsCells_get l k 0 (by omega), he]; rfl)
    simpa using this
  · have := hc (k * 3 + 1) (.string l[k].to) (by rw [refsCells_get l k 1 (by omega), he]; rfl)
    simpa [Nat.add_assoc] using this
  · have := hc (k * 3 + 2) (.bool l[k].also) (by rw [refsCells_get l k 2 (by omega), he]; rfl)
    simpa [Nat.add_assoc] using this
theorem Strs.take {l : List S} (h : Strs w A n l) {k : Nat} (hk : k ≤ n) : Strs w A k (l.take k) :=
  ⟨by rw [List.length_take, h.1]; omega, fun s hs => h.2.1 s (List.mem_of_mem_take hs), by rw [List.map_take]; exact h.2.2.take k⟩
theorem Refs.take {l : List Ref} (h : Refs w A n l) {k : Nat} (hk : k ≤ n) : Refs w A k (l.take k) :=
  ⟨by rw [List.length_take, h.1]; omega, fun s hs => h.2.1 s (List.mem_of_mem_take hs), by rw [← refsCells_take]; exact h.2.2.take _⟩
theorem Ints.take {l : List Int} (h : Ints w A n l) {k : Nat} (hk : k ≤ n) : Ints w A k (l.take k) :=
  ⟨by rw [List.length_take, h.1]; omega, fun s hs => h.2.1 s (List.mem_of_mem_take hs), by rw [List.map_take]; exact h.2.2.take k⟩
theorem Strs.drop {l : List S} (h : Strs w A n l) {k c : Nat} (_hk : k ≤ n) (hc : n ≤ c) : Strs w (if c = k then A else A.map (·.add k)) (n - k) (l.drop k) := by
  refine ⟨by rw [List.length_drop, h.1], fun s hs => h.2.1 s (List.mem_of_mem_drop hs), ?_⟩
  have := h.2.2.drop k (cap := c) (by rw [List.length_map, h.1]; exact hc) 1 (fun _ e => by rw [List.length_map, h.1]; omega)
  rw [List.map_drop]
  simpa using this
theorem Ints.drop {l : List Int} (h : Ints w A n l) {k c : Nat} (_hk : k ≤ n) (hc : n ≤ c) : Ints w (if c = k then A else A.map (·.add k)) (n - k) (l.drop k) := by
  refine ⟨by rw [List.length_drop, h.1], fun s hs => h.2.1 s (List.mem_of_mem_drop hs), ?_⟩
  have := h.2.2.drop k (cap := c) (by rw [List.length_map, h.1]; exact hc) 1 (fun _ e => by rw [List.length_map, h.1]; omega)
  rw [List.map_drop]
  simpa using this
theorem Strs.of_own {l : List S} {base : Nat} {e : TypeId} {c : Nat} (h : w.ownsRow base e 1 (.slice A n c) n (l.map Value.string)) (hs : ∀ s ∈ l, s.size ≤ maxLen) : Strs w A n l :=
  ⟨by have := h.1; simpa using this, hs, Rds.of_own h⟩
end
theorem brefl {a : World} : Below a.heap.size a a := Below.refl _ _
end Go.Proofs.YtdfnfimajhagfaaGreatDoor
namespace Go.RowKit.Below
variable {a b c w w' : World}
theorem drn (h : Below a.heap.size a w) (n : Nat) : Below a.heap.size a (w.drewN n) := ⟨h.os, h.tape, h.output, h.size, h.block⟩
theorem al (h : Below a.heap.size a w) (o : Obj) : Below a.heap.size a (w.alloc o) := h.alloc h.size o
theorem tr (h : Below a.heap.size a b) (k : Below b.heap.size b c) : Below a.heap.size a c := h.trans (k.mono h.size)
theorem st (h : Below a.heap.size a w) {p : Addr} (hp : a.heap.size ≤ p.block) (u : Value) : Below a.heap.size a (w.setCell p u) := h.setCell hp u
theorem gr (h : Below a.heap.size a w) {row : Option Nat} (hg : w.grownBy w' row) (hr : ∀ k, row = some k → a.heap.size ≤ k) : Below a.heap.size a w' := h.grown hg h.size hr
theorem no (h : Below a.heap.size a w) (hg : w.grownBy w' none) : Below a.heap.size a w' := h.grown hg h.size (by simp)
end Go.RowKit.Below
namespace Go.Proofs.YtdfnfimajhagfaaGreatDoor
open Go.RowKit Go.Maps Rf
/-- a new block of one cell, as a source -/
theorem Rds.one (w : World) (u : Value) (t : TypeId) : Rds (w.alloc (.cells #[u] t)) (some ⟨w.heap.size, 0, none⟩) [u] := fun _ =>
  ⟨w.heap.size, 0, rfl, by simp, fun j v hv => by
    match j, hv with
    | 0, hv => simp at hv; subst hv; exact cell_of_row _ _ 0 #[u] t (0, 0) (heap_alloc_new w _)⟩
theorem Rds.grown {w w' : World} {A : Option Addr} {xs : List Value} {row : Option Nat} (h : Rds w A xs) (hg : w.grownBy w' row) (hr : ∀ b off, A = some ⟨b, off, none⟩ → some b ≠ row) : Rds w' A xs := fun hl => by
  obtain ⟨b, off, rfl, hlt, hc⟩ := h hl
  exact ⟨b, off, rfl, Nat.lt_of_lt_of_le hlt hg.size, fun j u hu => hg.cell (hc j u hu) (hr b off rfl)⟩
theorem Rds.alloc {w : World} {A : Option Addr} {xs : List Value} (h : Rds w A xs) (o : Obj) : Rds (w.alloc o) A xs := h.grown (World.grownBy_alloc w o none) (by simp)
theorem Rds.drew {w : World} {A : Option Addr} {xs : List Value} (h : Rds w A xs) : Rds w.drew A xs := h
theorem strs_one (l : List S) : ∀ u ∈ l.map Value.string, u.oneCell' = true := by
  intro u hu; obtain ⟨s, _, rfl⟩ := List.mem_map.1 hu; rfl
/-! ### append, from whatever source -/
section
variable {P : Program} (w : World)
theorem run_append_of_nil (base : Nat) (t ty e : TypeId) (i : TypeInfo) (size : Nat) (ht : P.underlying t = some (.slice e)) (hi : P.info? e = some i)
    (v : Value) (n : Nat) (xs : List Value) (hown : w.ownsRow base e size v n xs) (c : Nat) : (Builtin.append_ #[t, t] ty #[v, .slice none 0 c]).run P w = .ok v w := by
  rcases hown.2 with ⟨rfl, rfl⟩ | ⟨g, cap, cur, rfl, _, _, hnc, _⟩
  · simp [Builtin.append_, run_underlying ht, sizeOf, typeInfo, hi, Builtin.lenOf, Builtin.firstCells]
  · simp [Builtin.append_, run_underlying ht, sizeOf, typeInfo, hi, Builtin.lenOf, Builtin.firstCells, hnc, storeCells]
theorem form_own {base : Nat} {e : TypeId} {size : Nat} {v : Value} {n : Nat} {xs : List Value} (h : w.ownsRow base e size v n xs) : ∃ A c, v = .slice A n c ∧ n ≤ c ∧ (∀ g, v.ownBlock = some g → A = some ⟨g, 0, none⟩ ∧ base ≤ g ∧ g < w.heap.size) := by
  rcases h.2 with ⟨rfl, rfl⟩ | ⟨g, cap, cur, rfl, hb, hh, hn, _⟩
  · exact ⟨none, 0, rfl, Nat.le_refl _, by simp [Value.ownBlock]⟩
  · exact ⟨some ⟨g, 0, none⟩, cap, rfl, hn, fun g' hg' => by
      simp [Value.ownBlock] at hg'; subst hg'; exact ⟨rfl, hb, (Array.getElem?_eq_some_iff.1 hh).1⟩⟩
/-- 'append(s, x...)', s the call's own (or nil), x whatever reads as the cells 'news': the result in its form -/
theorem run_append_any (base : Nat) (t ty e : TypeId) (i : TypeInfo) (z : Value) (size bytes : Nat) (ht : P.underlying t = some (.slice e)) (hi : P.info? e = some i) (hz : i.zero = some z)
    (hsize : i.size = size) (hby : i.bytes = bytes) (hzs : z.cells.size = size) (hsz : 0 < size)
    (v : Value) (n : Nat) (xs : List Value) (hown : w.ownsRow base e size v n xs)
    (A : Option Addr) (m c : Nat) (news : List Value) (hl : news.length = m * size) (hr : Rds w A news) (h1 : ∀ u ∈ news, u.oneCell' = true)
    (h63 : n + m ≤ maxLen) (hbytes : (n + m) * bytes ≤ 140737488355328) (hbase : base ≤ w.heap.size) (hA : A = none → c = 0 → m = 0) :
    ∃ A' c' w', (Builtin.append_ #[t, t] ty #[v, .slice A m c]).run P w = .ok (.slice A' (n + m) c') w' ∧ w'.ownsRow base e size (.slice A' (n + m) c') (n + m) (xs ++ news) ∧ n + m ≤ c' ∧ w.grownBy w' v.ownBlock ∧
      ((Value.slice A' (n + m) c').ownBlock = v.ownBlock ∨ (Value.slice A' (n + m) c').ownBlock = some w.heap.size) := by
  have fin : ∀ v' w', (Builtin.append_ #[t, t] ty #[v, .slice A m c]).run P w = .ok v' w' → w'.ownsRow base e size v' (n + m) (xs ++ news) → w.grownBy w' v.ownBlock → (v'.ownBlock = v.ownBlock ∨ v'.ownBlock = some w.heap.size) →
      ∃ A' c' w', (Builtin.append_ #[t, t] ty #[v, .slice A m c]).run P w = .ok (.slice A' (n + m) c') w' ∧ w'.ownsRow base e size (.slice A' (n + m) c') (n + m) (xs ++ news) ∧ n + m ≤ c' ∧ w.grownBy w' v.ownBlock ∧
        ((Value.slice A' (n + m) c').ownBlock = v.ownBlock ∨ (Value.slice A' (n + m) c').ownBlock = some w.heap.size) := fun v' w' r1 r2 r3 r4 => by
    obtain ⟨A', c', rfl, hn, _⟩ := form_own w' r2
    exact ⟨A', c', w', r1, r2, hn, r3, r4⟩
  rcases A with _ | ad
  · have hm : m = 0 := by
      rcases Nat.eq_zero_or_pos m with h0 | h0
      · exact h0
      · obtain ⟨b, off, h, _⟩ := hr (by rw [hl]; exact Nat.mul_pos h0 hsz)
        cases h
    subst hm
    have hn : news = [] := List.eq_nil_of_length_eq_zero (by simpa using hl)
    subst hn
    exact fin v w (run_append_of_nil w base t ty e i size ht hi v n xs hown c) (by simpa using hown) (World.grownBy.refl w _) (.inl rfl)
  · have hcells : ∀ j u, news[j]? = some u → w.cell? (ad.add j) = some u := by
      intro j u hu
      obtain ⟨b, off, h, _, hc⟩ := hr (by
        rcases Nat.eq_zero_or_pos news.length with h0 | h0
        · rw [List.eq_nil_of_length_eq_zero h0] at hu; simp at hu
        · exact h0)
      injection h with h
      subst h
      rw [addr_add]
      exact hc j u hu
    obtain ⟨v', w', hrun, h2, h3, _, h5⟩ := run_append_own_at (P := P) w base t ty e i z size bytes ht hi hz hsize hby hzs hsz v n xs hown ad m c news hl hcells h1 h63 hbytes hbase
    exact fin v' w' hrun h2 h3 h5
/-- what an append asks of its types -/
def AppT (P : Program) (t e : TypeId) (size bytes : Nat) : Prop := ∃ i z, P.underlying t = some (.slice e) ∧ P.info? e = some i ∧ i.zero = some z ∧ i.size = size ∧ i.bytes = bytes ∧ z.cells.size = size ∧ 0 < size
theorem AppT.mk {t e size bytes : Nat} {z : Value} (ht : P.underlying t = some (.slice e)) (h : (P.info? e).map (fun i => (i.zero, i.size, i.bytes)) = some (some z, size, bytes)) (hz : z.cells.size = size) (hs : 0 < size) : AppT P t e size bytes := by
  obtain ⟨i, h1, h2, h3, h4⟩ := info_parts h
  exact ⟨i, z, ht, h1, h2, h3, h4, hz, hs⟩
/-- a row of the call's own, its blocks from 'base' on -/
def Own (w : World) (base : Nat) (e : TypeId) (size : Nat) (v : Value) (n : Nat) (xs : List Value) : Prop := w.ownsRow base e size v n xs ∧ base ≤ w.heap.size
section
variable {w w' : World} {base : Nat} {e : TypeId} {size : Nat} {v : Value} {n : Nat} {xs : List Value}
theorem Own.nil (w : World) {base : Nat} (e : TypeId) (size : Nat) (h : base ≤ w.heap.size) : Own w base e size (.slice none 0 0) 0 [] := ⟨World.ownsRow_nil _ _ _ _, h⟩
/-- '[]T{}' -/
theorem Own.empty (w : World) (t : TypeId) (size : Nat) {base : Nat} (h : base ≤ w.heap.size) : Own (w.alloc (.cells #[] t)) base t size (.slice (some ⟨w.heap.size, 0, none⟩) 0 0) 0 [] :=
  ⟨World.ownsRow_made w #[] 0 h (by decide) (by simp), Nat.le_trans h (by simp)⟩
theorem Own.drew (h : Own w base e size v n xs) : Own w.drew base e size v n xs := h
theorem Own.alloc (h : Own w base e size v n xs) (o : Obj) : Own (w.alloc o) base e size v n xs := ⟨h.1.alloc o, Nat.le_trans h.2 (by simp)⟩
theorem Own.kept {row : Option Nat} (h : Own w base e size v n xs) (hg : w.grownBy w' row) (hne : v.ownBlock = none ∨ v.ownBlock ≠ row) : Own w' base e size v n xs := ⟨h.1.kept hg hne, Nat.le_trans h.2 hg.size⟩
theorem Own.below (h : Own w base e size v n xs) (hb : Below w.heap.size w w') : Own w' base e size v n xs :=
  ⟨h.1.kept (row := none) ⟨hb.os, hb.tape, hb.output, hb.size, fun k hk _ => hb.block k hk⟩ (by cases hv : v.ownBlock <;> simp), Nat.le_trans h.2 hb.size⟩
theorem Own.reads {A : Option Addr} {c : Nat} (h : Own w base e size (.slice A n c) n xs) : Rds w A xs := Rds.of_own h.1
theorem Own.row (h : Own w base e size v n xs) : ∀ k, v.ownBlock = some k → base ≤ k := fun k hk => (h.1.lt k hk).1
theorem Own.lt (h : Own w base e size v n xs) : ∀ k, v.ownBlock = some k → k < w.heap.size := fun k hk => (h.1.lt k hk).2
end
theorem Strs.own {w : World} {base : Nat} {e : TypeId} {A : Option Addr} {m c : Nat} {xs : List Value} (o : Own w base e 1 (.slice A m c) m xs) {l : List S} (h : xs = l.map Value.string) (hs : ∀ s ∈ l, s.size ≤ maxLen) : Strs w A m l := by
  subst h; exact Strs.of_own o.1 hs
/-- at the operation -/
theorem wp_app {o : Oper} {a : Act} {K : Act → World → Prop} {Q : Exit → Act → World → Prop} {t e : TypeId} {size bytes : Nat} (T : AppT P t e size bytes) (s x : Operand)
    (ho : o.op = .call { callee := .builtin .append, args := #[s, x], argTypes := #[t, t] })
    {base : Nat} {v : Value} {n : Nat} {xs : List Value} (hown : Own w base e size v n xs) (hs : a.eval s = v)
    {A : Option Addr} {m c : Nat} {news : List Value} (hx : a.eval x = .slice A m c) (hl : news.length = m * size) (hr : Rds w A news) (h1 : ∀ u ∈ news, u.oneCell' = true)
    (hbytes : (n + m) * bytes ≤ 140737488355328) (h63 : n + m ≤ 1000000000)
    (h : ∀ A' c' w', Own w' base e size (.slice A' (n + m) c') (n + m) (xs ++ news) → n + m ≤ c' → w.grownBy w' v.ownBlock → ((Value.slice A' (n + m) c').ownBlock = v.ownBlock ∨ (Value.slice A' (n + m) c').ownBlock = some w.heap.size) →
      K (a.put o.dst (.slice A' (n + m) c')) w') : o.wp P a w K Q := by
  obtain ⟨i, z, ht, hi, hz, hsize, hby, hzs, hsz⟩ := T
  obtain ⟨hown, hbase⟩ := hown
  obtain ⟨A', c', w', hrun, h2, h3, h4, h5⟩ := run_append_any (P := P) w base t o.type e i z size bytes ht hi hz hsize hby hzs hsz v n xs hown A m c news hl hr h1 (by simp only [maxLen]; omega) hbytes hbase (fun e _ => by
    subst e
    rcases Nat.eq_zero_or_pos m with h0 | h0
    · exact h0
    · obtain ⟨_, _, h, _⟩ := hr (by rw [hl]; exact Nat.mul_pos h0 hsz); cases h)
  unfold Oper.wp execOp
  simp only [ho, resolve, invoke, builtin, Sem.run_bind, Sem.run_pure, Result.andThen_ok, List.map_toArray, List.map_cons, List.map_nil, hs, hx, hrun]
  exact h A' c' w' ⟨h2, Nat.le_trans hbase h4.size⟩ h3 h4 h5
/-- in a plain region -/
theorem wpList_app {ops : Array Oper} {rest : List Oper} {o : Oper} {a : Act} {Q : Exit → Act → World → Prop} {t e : TypeId} {size bytes : Nat} (T : AppT P t e size bytes) (hgd : o.guard = none) (s x : Operand)
    (ho : o.op = .call { callee := .builtin .append, args := #[s, x], argTypes := #[t, t] })
    {base : Nat} {v : Value} {n : Nat} {xs : List Value} (hown : Own w base e size v n xs) (hs : a.eval s = v)
    {A : Option Addr} {m c : Nat} {news : List Value} (hx : a.eval x = .slice A m c) (hl : news.length = m * size) (hr : Rds w A news) (h1 : ∀ u ∈ news, u.oneCell' = true)
    (hbytes : (n + m) * bytes ≤ 140737488355328) (h63 : n + m ≤ 1000000000)
    (h : ∀ A' c' w', Own w' base e size (.slice A' (n + m) c') (n + m) (xs ++ news) → n + m ≤ c' → w.grownBy w' v.ownBlock → ((Value.slice A' (n + m) c').ownBlock = v.ownBlock ∨ (Value.slice A' (n + m) c').ownBlock = some w.heap.size) →
      wpList P ops Q rest (a.put o.dst (.slice A' (n + m) c')) w') : wpList P ops Q (o :: rest) a w :=
  wpList_plain hgd fun _ hK => wp_app w T s x ho hown hs hx hl hr h1 hbytes h63 fun A' c' w' h2 h3 h4 h5 => hK _ _ (h A' c' w' h2 h3 h4 h5)
/-- in a region that draws its order -/
theorem step_app {ops : Array Oper} {o : Oper} {a : Act} {K : Act → World → Prop} {Q : Exit → Act → World → Prop} {E : Prop} {t e : TypeId} {size bytes : Nat} (T : AppT P t e size bytes) (hgd : o.guard = none) (s x : Operand)
    (ho : o.op = .call { callee := .builtin .append, args := #[s, x], argTypes := #[t, t] })
    {base : Nat} {v : Value} {n : Nat} {xs : List Value} (hown : Own w base e size v n xs) (hs : a.eval s = v)
    {A : Option Addr} {m c : Nat} {news : List Value} (hx : a.eval x = .slice A m c) (hl : news.length = m * size) (hr : Rds w A news) (h1 : ∀ u ∈ news, u.oneCell' = true)
    (hbytes : (n + m) * bytes ≤ 140737488355328) (h63 : n + m ≤ 1000000000)
    (h : ∀ A' c' w', Own w' base e size (.slice A' (n + m) c') (n + m) (xs ++ news) → n + m ≤ c' → w.grownBy w' v.ownBlock → ((Value.slice A' (n + m) c').ownBlock = v.ownBlock ∨ (Value.slice A' (n + m) c').ownBlock = some w.heap.size) →
      K (a.put o.dst (.slice A' (n + m) c')) w') :
    if Region.wanted o (yielded ops a.tmps) = true then Oper.wp P o a w K Q else E := by
  have hw : Region.wanted o (yielded ops a.tmps) = true := by simp [Region.wanted, hgd]
  rw [if_pos hw]
  exact wp_app w T s x ho hown hs hx hl hr h1 hbytes h63 h
end
end Go.Proofs.YtdfnfimajhagfaaGreatDoor
