/- Words for memory: a slice that reads as a list of terms. -/
import Derived.Test.YtdfnfimajhagfaaGreatDoorMem
import Derived.Test.YtdfnfimajhagfaaGreatDoorVSpec
namespace Go.Proofs.YtdfnfimajhagfaaGreatDoor
open Go.RowKit Go.Maps Rf
/-- a term with the slice of its broader names -/
structure TM where
  t : Term
  A : Option Addr
  n : Nat
  c : Nat
def TM.cells (m : TM) : List Value := [.string m.t.name, .int .i64 m.t.kind, .int .i64 m.t.lang, .string m.t.see, .slice m.A m.n m.c]
def tmsCells (l : List TM) : List Value := l.flatMap TM.cells
structure TM.ok (w : World) (m : TM) : Prop where
  nm : m.t.name.size ≤ maxLen
  se : m.t.see.size ≤ maxLen
  ki : i64ok m.t.kind
  la : i64ok m.t.lang
  cap : m.n ≤ m.c
  few : m.n ≤ 100
  br : Strs w m.A m.n m.t.broader
def terms (ms : List TM) : List Term := ms.map TM.t
def Tms (w : World) (A : Option Addr) (n : Nat) (ms : List TM) : Prop := ms.length = n ∧ (∀ m ∈ ms, m.ok w) ∧ Rds w A (tmsCells ms)
theorem TM.ok.below {w w' : World} {m : TM} (h : m.ok w) (hb : Below w.heap.size w w') : m.ok w' := ⟨h.nm, h.se, h.ki, h.la, h.cap, h.few, h.br.below hb⟩
section
variable {w w' : World} {A : Option Addr} {n : Nat}
theorem Tms.below {l : List TM} (h : Tms w A n l) (hb : Below w.heap.size w w') : Tms w' A n l := ⟨h.1, fun m hm => (h.2.1 m hm).below hb, h.2.2.below hb⟩
theorem Tms.nil (w : World) : Tms w none 0 [] := ⟨rfl, by simp, Rds.nil _ _⟩
theorem tmsCells_length : ∀ l : List TM, (tmsCells l).length = l.length * 5
  | [] => rfl
  | r :: l => by
    have := tmsCells_length l
    simp only [tmsCells, List.flatMap_cons, List.length_append, List.length_cons] at *
    rw [this]; simp [TM.cells]; omega
theorem tmsCells_get : ∀ (l : List TM) (k j : Nat), j < 5 → (tmsCells l)[k * 5 + j]? = (l[k]?).bind fun r => r.cells[j]?
  | [], k, j, _ => by simp [tmsCells]
  | r :: l, 0, j, hj => by
    simp only [tmsCells, List.flatMap_cons, Nat.zero_mul, Nat.zero_add, List.getElem?_cons_zero, Option.bind_some]
    rw [List.getElem?_append_left (by simp [TM.cells]; exact hj)]
  | r :: l, k + 1, j, hj => by
    have := tmsCells_get l k j hj
    simp only [tmsCells, List.flatMap_cons, List.getElem?_cons_succ] at *
    rw [List.getElem?_append_right (by simp [TM.cells]; omega), ← this]
    congr 1
    simp [TM.cells]; omega
/-- the five cells of the k-th term -/
def AtTm (w : World) (b o : Nat) (m : TM) : Prop :=
  w.cell? ⟨b, o, none⟩ = some (.string m.t.name) ∧ w.cell? ⟨b, o + 1, none⟩ = some (.int .i64 m.t.kind) ∧ w.cell? ⟨b, o + 2, none⟩ = some (.int .i64 m.t.lang) ∧
    w.cell? ⟨b, o + 3, none⟩ = some (.string m.t.see) ∧ w.cell? ⟨b, o + 4, none⟩ = some (.slice m.A m.n m.c)
theorem AtTm.below {b o : Nat} {m : TM} (h : AtTm w b o m) (hb : Below w.heap.size w w') (hlt : b < w.heap.size) : AtTm w' b o m :=
  ⟨(hb.cell (p := ⟨b, o, none⟩) hlt).trans h.1, (hb.cell (p := ⟨b, o + 1, none⟩) hlt).trans h.2.1, (hb.cell (p := ⟨b, o + 2, none⟩) hlt).trans h.2.2.1, (hb.cell (p := ⟨b, o + 3, none⟩) hlt).trans h.2.2.2.1, (hb.cell (p := ⟨b, o + 4, none⟩) hlt).trans h.2.2.2.2⟩
theorem Tms.at_ {l : List TM} (h : Tms w A n l) {k : Nat} (hk : k < n) :
    ∃ b off m, A = some ⟨b, off, none⟩ ∧ l[k]? = some m ∧ m.ok w ∧ b < w.heap.size ∧ AtTm w b (off + k * 5) m := by
  obtain ⟨h1, h2, h3⟩ := h
  obtain ⟨b, off, hA, hb, hc⟩ := h3 (by rw [tmsCells_length]; omega)
  have hl : k < l.length := by omega
  have hm := h2 _ (List.getElem_mem hl)
  have he := List.getElem?_eq_getElem hl
  refine ⟨b, off, l[k], hA, he, hm, hb, ?_, ?_, ?_, ?_, ?_⟩
  · have := hc (k * 5 + 0) (.string l[k].t.name) (by rw [tmsCells_get l k 0 (by omega), he]; rfl)
    simpa using this
  · have := hc (k * 5 + 1) (.int .i64 l[k].t.kind) (by rw [tmsCells_get l k 1 (by omega), he]; rfl)
    simpa [Nat.add_assoc] using this
  · have := hc (k * 5 + 2) (.int .i64 l[k].t.lang) (by rw [tmsCells_get l k 2 (by omega), he]; rfl)
    simpa [Nat.add_assoc] using this
  · have := hc (k * 5 + 3) (.string l[k].t.see) (by rw [tmsCells_get l k 3 (by omega), he]; rfl)
    simpa [Nat.add_assoc] using this
  · have := hc (k * 5 + 4) (.slice l[k].A l[k].n l[k].c) (by rw [tmsCells_get l k 4 (by omega), he]; rfl)
    simpa [Nat.add_assoc] using this
theorem tms_one (l : List TM) : ∀ u ∈ tmsCells l, u.oneCell' = true := by
  intro u hu
  obtain ⟨r, _, hr⟩ := List.mem_flatMap.1 hu
  simp [TM.cells] at hr
  rcases hr with rfl | rfl | rfl | rfl | rfl <;> rfl
theorem Tms.own {base : Nat} {e : TypeId} {c : Nat} {xs : List Value} (o : Own w base e 5 (.slice A n c) n xs) {l : List TM} (h : xs = tmsCells l) (hs : ∀ m ∈ l, m.ok w) : Tms w A n l := by
  subst h
  exact ⟨by have := o.1.1; rw [tmsCells_length] at this; omega, hs, Rds.of_own o.1⟩
theorem terms_length {l : List TM} (h : Tms w A n l) : (terms l).length = n := by unfold terms; rw [List.length_map]; exact h.1
theorem terms_get {l : List TM} {k : Nat} {m : TM} (h : l[k]? = some m) : (terms l)[k]? = some m.t := by unfold terms; rw [List.getElem?_map, h]; rfl
theorem snoc_tms {base : Nat} {e : TypeId} {c : Nat} {l : List TM} {m : TM} (o : Own w base e 5 (.slice A n c) n (tmsCells l ++ m.cells)) : Own w base e 5 (.slice A n c) n (tmsCells (l ++ [m])) := by
  have : tmsCells (l ++ [m]) = tmsCells l ++ m.cells := by unfold tmsCells; simp
  rw [this]; exact o
end
end Go.Proofs.YtdfnfimajhagfaaGreatDoor
