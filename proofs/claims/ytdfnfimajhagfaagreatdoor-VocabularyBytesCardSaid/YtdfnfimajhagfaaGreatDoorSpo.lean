/- Walk of the reference of layer 24: Spoilt, a list of terms with one thing changed. -/
import Derived.Test.YtdfnfimajhagfaaGreatDoorV19
import Derived.Test.YtdfnfimajhagfaaGreatDoorV14
import Derived.Laws.BytesString
namespace Go.Proofs.YtdfnfimajhagfaaGreatDoor
open Go.RowKit Go.Maps Rf
def TM.blk (m : TM) : Option Nat := (Value.slice m.A m.n m.c).ownBlock
/-- an element of the copy: its names in a row of its own, apart from the list -/
structure SpE (base F : Nat) (w : World) (o : Option Nat) (m : TM) : Prop where
  sm : m.small
  ki : i64ok m.t.kind
  la : i64ok m.t.lang
  few : m.n ≤ F
  cap : m.n ≤ m.c
  own : Own w base 9 1 (.slice m.A m.n m.c) m.n (m.t.broader.map Value.string)
  ap : ∀ b, m.blk = some b → o ≠ some b
theorem apart_of {row p : Option Nat} (h : ∀ b, p = some b → row ≠ some b) : p = none ∨ p ≠ row := by
  cases p with
  | none => exact .inl rfl
  | some k => exact .inr fun e => h k rfl e.symm
theorem SpE.kept {base F : Nat} {w w' : World} {o row : Option Nat} {m : TM} (h : SpE base F w o m) (hg : w.grownBy w' row) (hne : ∀ b, m.blk = some b → row ≠ some b) : SpE base F w' o m :=
  ⟨h.sm, h.ki, h.la, h.few, h.cap, h.own.kept hg (apart_of hne), h.ap⟩
theorem SpE.out {base F : Nat} {w : World} {o o' : Option Nat} {m : TM} (h : SpE base F w o m) (ho : o' = o ∨ ∃ k, o' = some k ∧ w.heap.size ≤ k) : SpE base F w o' m := by
  refine ⟨h.sm, h.ki, h.la, h.few, h.cap, h.own, fun b hb e => ?_⟩
  rcases ho with ho | ⟨k, ho, hk⟩
  · exact h.ap b hb (by rw [← ho]; exact e)
  · rw [ho] at e
    injection e with e
    have := h.own.lt b hb
    omega
/-- the list under way -/
structure SpI (base F : Nat) (w : World) (A : Option Addr) (n c : Nat) (ms : List TM) : Prop where
  own : Own w base 33 5 (.slice A n c) n (tmsCells ms)
  els : ∀ m ∈ ms, SpE base F w (Value.slice A n c).ownBlock m
theorem SpI.tms {base F : Nat} {w : World} {A : Option Addr} {n c : Nat} {ms : List TM} (h : SpI base F w A n c ms) (hF : F ≤ 100) : Tms w A n ms ∧ (∀ m ∈ ms, m.small) ∧ ∀ m ∈ ms, m.n ≤ F :=
  ⟨Tms.own h.own rfl (fun m hm => by
    have e := h.els m hm
    have hmx : (1000 : Nat) ≤ maxLen := by decide
    exact ⟨Nat.le_trans e.sm.nm hmx, Nat.le_trans e.sm.se hmx, e.ki, e.la, e.cap, Nat.le_trans e.few hF, Strs.own e.own rfl (fun x hx => Nat.le_trans (e.sm.br x hx) hmx)⟩), fun m hm => (h.els m hm).sm, fun m hm => (h.els m hm).few⟩
def Pw (ms : List TM) : Prop := ms.Pairwise fun m m' => ∀ b, m.blk = some b → m'.blk ≠ some b
theorem tmsCells_set : ∀ (l : List TM) (k j : Nat) (v : Value) (m m' : TM), l[k]? = some m → j < 5 → m'.cells = m.cells.set j v → (tmsCells l).set (k * 5 + j) v = tmsCells (l.set k m')
  | [], k, j, v, m, m', h, _, _ => by simp at h
  | r :: l, 0, j, v, m, m', h, hj, hc => by
    simp at h
    subst h
    simp only [tmsCells, List.set_cons_zero, List.flatMap_cons, Nat.zero_mul, Nat.zero_add, hc]
    rw [List.set_append_left _ _ (by simp [TM.cells]; exact hj)]
  | r :: l, k + 1, j, v, m, m', h, hj, hc => by
    have ih := tmsCells_set l k j v m m' (by simpa using h) hj hc
    simp only [tmsCells, List.set_cons_succ, List.flatMap_cons] at *
    have hl : r.cells.length = 5 := rfl
    rw [List.set_append_right _ _ (by rw [hl]; omega), hl, show (k + 1) * 5 + j - 5 = k * 5 + j from by omega, ih]
/-- one cell of an element stored, where something of that element has turned -/
theorem SpI.put {base F' : Nat} {w : World} {A : Option Addr} {n c b : Nat} {ms : List TM} (ho : Own w base 33 5 (.slice A n c) n (tmsCells ms)) (hA : A = some ⟨b, 0, none⟩) {k j : Nat} {v : Value} {m m' : TM} (hk : ms[k]? = some m) (hj : j < 5) (hc : m'.cells = m.cells.set j v)
    (hel : ∀ i x, ms[i]? = some x → i ≠ k → SpE base F' w (Value.slice A n c).ownBlock x) (he : SpE base F' w (Value.slice A n c).ownBlock m') : SpI base F' (w.setCell ⟨b, k * 5 + j, none⟩ v) A n c (ms.set k m') := by
  have hob : (Value.slice A n c).ownBlock = some b := by rw [hA]; rfl
  refine ⟨by rw [← tmsCells_set ms k j v m m' hk hj hc]; exact ho.set hA v, fun x hx => ?_⟩
  have hx2 : SpE base F' w (Value.slice A n c).ownBlock x := by
    obtain ⟨i, hi, rfl⟩ := List.getElem_of_mem hx
    rw [List.length_set] at hi
    rw [List.getElem_set]
    split
    · exact he
    · next hne => exact hel i _ (List.getElem?_eq_getElem hi) (fun e => hne e.symm)
  exact hx2.kept (grownBy_set w b (k * 5 + j) v) (fun q hq e => hx2.ap q hq (by rw [hob]; exact e))
theorem SpE.more {base F F' : Nat} {w : World} {o : Option Nat} {m : TM} (h : SpE base F w o m) (hF : F ≤ F') : SpE base F' w o m := ⟨h.sm, h.ki, h.la, Nat.le_trans h.few hF, h.cap, h.own, h.ap⟩
theorem Own.tmAt {w : World} {base : Nat} {e : TypeId} {A : Option Addr} {n c b : Nat} {l : List TM} (h : Own w base e 5 (.slice A n c) n (tmsCells l)) (hA : A = some ⟨b, 0, none⟩) {k : Nat} {m : TM} (hk : l[k]? = some m) : AtTm w b (k * 5) m := by
  have g : ∀ j, j < 5 → (tmsCells l)[k * 5 + j]? = m.cells[j]? := fun j hj => by rw [tmsCells_get l k j hj, hk]; rfl
  exact ⟨h.cellAt hA (g 0 (by omega)), h.cellAt hA (g 1 (by omega)), h.cellAt hA (g 2 (by omega)), h.cellAt hA (g 3 (by omega)), h.cellAt hA (g 4 (by omega))⟩
theorem Pw.other {ms : List TM} (h : Pw ms) {i k : Nat} {x m : TM} (hi : ms[i]? = some x) (hk : ms[k]? = some m) (hne : i ≠ k) : ∀ b, x.blk = some b → m.blk ≠ some b := by
  obtain ⟨hi', rfl⟩ := List.getElem?_eq_some_iff.1 hi
  obtain ⟨hk', rfl⟩ := List.getElem?_eq_some_iff.1 hk
  rcases Nat.lt_or_ge i k with h1 | h1
  · exact List.pairwise_iff_getElem.1 h i k hi' hk' h1
  · intro b hb e
    exact List.pairwise_iff_getElem.1 h k i hk' hi' (by omega) b e hb
/-- one cell of an element stored -/
theorem SpI.set {base F F' : Nat} {w : World} {A : Option Addr} {n c b : Nat} {ms : List TM} (h : SpI base F w A n c ms) (hA : A = some ⟨b, 0, none⟩) {k j : Nat} {v : Value} {m m' : TM} (hk : ms[k]? = some m) (hj : j < 5) (hc : m'.cells = m.cells.set j v)
    (he : SpE base F' w (Value.slice A n c).ownBlock m') (hF : F ≤ F') : SpI base F' (w.setCell ⟨b, k * 5 + j, none⟩ v) A n c (ms.set k m') := by
  have hob : (Value.slice A n c).ownBlock = some b := by rw [hA]; rfl
  refine ⟨by rw [← tmsCells_set ms k j v m m' hk hj hc]; exact h.own.set hA v, fun x hx => ?_⟩
  have hx2 : SpE base F' w (Value.slice A n c).ownBlock x := by
    rcases List.mem_or_eq_of_mem_set hx with hx | rfl
    · exact { h.els x hx with few := Nat.le_trans (h.els x hx).few hF }
    · exact he
  exact hx2.kept (grownBy_set w b (k * 5 + j) v) (fun q hq e => hx2.ap q hq (by rw [hob]; exact e))
theorem tmsCells_setAll : ∀ (l : List TM) (k : Nat) (m : TM), tmsCells (l.set k m) = (((((tmsCells l).set (k * 5) (.string m.t.name)).set (k * 5 + 1) (.int .i64 m.t.kind)).set (k * 5 + 2) (.int .i64 m.t.lang)).set (k * 5 + 3) (.string m.t.see)).set (k * 5 + 4) (.slice m.A m.n m.c)
  | [], k, m => by simp [tmsCells]
  | r :: l, 0, m => by simp [tmsCells, TM.cells]
  | r :: l, k + 1, m => by
    have := tmsCells_setAll l k m
    simp only [tmsCells, List.set_cons_succ, List.flatMap_cons, TM.cells, List.cons_append, List.nil_append] at *
    rw [this, show (k + 1) * 5 = k * 5 + 1 + 1 + 1 + 1 + 1 from by omega]
    simp only [List.set_cons_succ, show k * 5 + 1 + 1 + 1 + 1 + 1 + 1 = (k * 5 + 1) + 1 + 1 + 1 + 1 + 1 from by omega, show k * 5 + 1 + 1 + 1 + 1 + 1 + 2 = (k * 5 + 2) + 1 + 1 + 1 + 1 + 1 from by omega,
      show k * 5 + 1 + 1 + 1 + 1 + 1 + 3 = (k * 5 + 3) + 1 + 1 + 1 + 1 + 1 from by omega, show k * 5 + 1 + 1 + 1 + 1 + 1 + 4 = (k * 5 + 4) + 1 + 1 + 1 + 1 + 1 from by omega]
theorem tmsCells_take (l : List TM) : ∀ k, (tmsCells l).take (k * 5) = tmsCells (l.take k) := by
  induction l with
  | nil => intro k; simp [tmsCells]
  | cons r l ih =>
    intro k
    cases k with
    | zero => simp [tmsCells]
    | succ k =>
      rw [List.take_succ_cons, show (k + 1) * 5 = k * 5 + 1 + 1 + 1 + 1 + 1 from by omega]
      have := ih k
      simp only [tmsCells, List.flatMap_cons, TM.cells, List.cons_append, List.nil_append, List.take_succ_cons] at *
      rw [this]
theorem tmsCells_drop (l : List TM) : ∀ k, (tmsCells l).drop (k * 5) = tmsCells (l.drop k) := by
  induction l with
  | nil => intro k; simp [tmsCells]
  | cons r l ih =>
    intro k
    cases k with
    | zero => simp
    | succ k =>
      rw [List.drop_succ_cons, show (k + 1) * 5 = k * 5 + 1 + 1 + 1 + 1 + 1 from by omega]
      have := ih k
      simp only [tmsCells, List.flatMap_cons, TM.cells, List.cons_append, List.nil_append, List.drop_succ_cons] at *
      rw [this]
theorem Rds.dropTm {w : World} {A : Option Addr} {l : List TM} (h : Rds w A (tmsCells l)) {k c : Nat} (hc : l.length ≤ c) : Rds w (if c = k then A else A.map (·.add (k * 5))) (tmsCells (l.drop k)) := fun hl3 => by
  have hl := tmsCells_length l
  rw [tmsCells_length, List.length_drop] at hl3
  obtain ⟨b, off, rfl, hlt, hcell⟩ := h (by omega)
  rw [if_neg (by omega)]
  refine ⟨b, off + k * 5, by simp [addr_add], hlt, fun j u hu => ?_⟩
  rw [← tmsCells_drop, List.getElem?_drop] at hu
  rw [Nat.add_assoc]; exact hcell _ u hu
theorem bdrew {a w : World} (h : Below a.heap.size a w) : Below a.heap.size a w.drew := h.drn 1
theorem grownBy_set5 (w : World) (b i1 i2 i3 i4 i5 : Nat) (v1 v2 v3 v4 v5 : Value) :
    w.grownBy (((((w.setCell ⟨b, i1, none⟩ v1).setCell ⟨b, i2, none⟩ v2).setCell ⟨b, i3, none⟩ v3).setCell ⟨b, i4, none⟩ v4).setCell ⟨b, i5, none⟩ v5) (some b) :=
  ((((grownBy_set w b i1 v1).trans (grownBy_set _ b i2 v2)).trans (grownBy_set _ b i3 v3)).trans (grownBy_set _ b i4 v4)).trans (grownBy_set _ b i5 v5)
/-- a whole element stored -/
theorem SpI.setTm {base F : Nat} {w : World} {A : Option Addr} {n c b : Nat} {ms : List TM} (h : SpI base F w A n c ms) (hA : A = some ⟨b, 0, none⟩) (k : Nat) {m : TM} (he : SpE base F w (Value.slice A n c).ownBlock m) :
    SpI base F (((((w.setCell ⟨b, k * 5, none⟩ (.string m.t.name)).setCell ⟨b, k * 5 + 1, none⟩ (.int .i64 m.t.kind)).setCell ⟨b, k * 5 + 2, none⟩ (.int .i64 m.t.lang)).setCell ⟨b, k * 5 + 3, none⟩ (.string m.t.see)).setCell ⟨b, k * 5 + 4, none⟩ (.slice m.A m.n m.c)) A n c (ms.set k m) := by
  have hob : (Value.slice A n c).ownBlock = some b := by rw [hA]; rfl
  refine ⟨by rw [tmsCells_setAll]; exact ((((h.own.set hA _).set hA _).set hA _).set hA _).set hA _, fun x hx => ?_⟩
  have hx2 : SpE base F w (Value.slice A n c).ownBlock x := by
    rcases List.mem_or_eq_of_mem_set hx with hx | rfl
    · exact h.els x hx
    · exact he
  exact hx2.kept (grownBy_set5 w b _ _ _ _ _ _ _ _ _ _) (fun q hq e => hx2.ap q hq (by rw [hob]; exact e))
theorem SpI.more {base F F' : Nat} {w : World} {A : Option Addr} {n c : Nat} {ms : List TM} (h : SpI base F w A n c ms) (hF : F ≤ F') : SpI base F' w A n c ms := ⟨h.own, fun m hm => (h.els m hm).more hF⟩
/-- one more element -/
theorem SpI.push {base F : Nat} {wz w8 : World} {A A' : Option Addr} {n c n' c' : Nat} {ms : List TM} {m0 : TM} {obj : Obj} (h : SpI base F wz A n c ms) (hp : Pw ms) (h0 : SpE base F wz (Value.slice A n c).ownBlock m0) (hn : ∀ m ∈ ms, ∀ b, m.blk = some b → m0.blk ≠ some b)
    (o8 : Own w8 base 33 5 (.slice A' n' c') n' (tmsCells ms ++ m0.cells)) (g8 : (wz.alloc obj).grownBy w8 (Value.slice A n c).ownBlock) (e8 : (Value.slice A' n' c').ownBlock = (Value.slice A n c).ownBlock ∨ (Value.slice A' n' c').ownBlock = some (wz.alloc obj).heap.size) :
    SpI base F w8 A' n' c' (ms ++ [m0]) ∧ Pw (ms ++ [m0]) := by
  refine ⟨⟨snoc_tms o8, fun x hx => ?_⟩, ?_⟩
  · have hx2 : SpE base F wz (Value.slice A n c).ownBlock x := by
      rcases List.mem_append.1 hx with hx | hx
      · exact h.els x hx
      · simp at hx; subst hx; exact h0
    have hx3 := hx2.kept (grown_of (brefl.al obj) none) (by simp)
    have hx4 := hx3.kept g8 hx3.ap
    have hx5 := hx3.out (o' := (Value.slice A' n' c').ownBlock) (by rcases e8 with e8 | e8; exact .inl e8; exact .inr ⟨_, e8, Nat.le_refl _⟩)
    exact ⟨hx4.sm, hx4.ki, hx4.la, hx4.few, hx4.cap, hx4.own, hx5.ap⟩
  · unfold Pw at *
    rw [List.pairwise_append]
    exact ⟨hp, by simp, fun a ha b hb => by simp at hb; subst hb; exact hn a ha⟩
theorem SpI.kept {base F : Nat} {w w' : World} {A : Option Addr} {n c : Nat} {ms : List TM} {row : Option Nat} (h : SpI base F w A n c ms) (hg : w.grownBy w' row) (hr : ∀ k, row = some k → w.heap.size ≤ k) : SpI base F w' A n c ms :=
  ⟨h.own.kept hg (apart_of fun b hb e => by have := hr b e; have := h.own.lt b hb; omega), fun m hm => (h.els m hm).kept hg (fun b hb e => by have := hr b e; have := (h.els m hm).own.lt b hb; omega)⟩
theorem SpI.drew {base F : Nat} {w : World} {A : Option Addr} {n c : Nat} {ms : List TM} (h : SpI base F w A n c ms) : SpI base F w.drew A n c ms := h.kept (w' := w.drew) (row := none) ⟨rfl, rfl, rfl, Nat.le_refl _, fun _ _ _ => rfl⟩ (by simp)
theorem SpI.below {base F : Nat} {w w' : World} {A : Option Addr} {n c : Nat} {ms : List TM} (h : SpI base F w A n c ms) (hb : Below w.heap.size w w') : SpI base F w' A n c ms := h.kept (grown_of hb none) (by simp)
def AVoc (k F : Nat) (w : World) (e : Ending) (w' : World) : Prop := ∃ A n c ms, e = .returned (.slice A n c) ∧ n ≤ c ∧ n ≤ k ∧ Tms w' A n ms ∧ (∀ m ∈ ms, m.small) ∧ (∀ m ∈ ms, m.n ≤ F) ∧ Below w.heap.size w w'
theorem Own.mono {w : World} {base base' : Nat} {e : TypeId} {size : Nat} {v : Value} {n : Nat} {xs : List Value} (h : Own w base e size v n xs) (hb : base' ≤ base) : Own w base' e size v n xs :=
  ⟨⟨h.1.1, h.1.2.imp id fun ⟨g, cap, cur, h1, h2, h3⟩ => ⟨g, cap, cur, h1, Nat.le_trans hb h2, h3⟩⟩, Nat.le_trans hb h.2⟩
theorem around_nat (x m : Int) (w : World) (hx : i64ok x) (hm : 1 ≤ m) (hm' : m ≤ 9223372036854775807) :
    Calls Tryz.prog 24 #[.int .i64 x, .int .i64 m] w fun e w' => (∃ j : Nat, e = .returned (.int .i64 j) ∧ (j : Int) < m) ∧ w = w' :=
  (around_any x m w hx.1 hx.2 hm hm').mono fun e w' ⟨h1, h2⟩ => by
    have hr := around_range x m hm
    exact ⟨⟨(around x m).toNat, by rw [h1]; congr 2; omega, by omega⟩, h2⟩
theorem quo8_ok {x : Int} (h : i64ok x) : i64ok (x.tdiv 8) := by
  obtain ⟨h0, h1⟩ := h
  have hb : -9223372036854775808 ≤ x.tdiv 8 ∧ x.tdiv 8 ≤ 9223372036854775807 := by
    rcases Int.le_total 0 x with h | h
    · rw [Int.tdiv_eq_ediv_of_nonneg h]; omega
    · have e : x.tdiv 8 = -((-x).tdiv 8) := by rw [Int.neg_tdiv, Int.neg_neg]
      rw [e, Int.tdiv_eq_ediv_of_nonneg (by omega)]; omega
  exact hb
def odds12 : List S := [⟨#[]⟩, ⟨#[97, 110, 110, 97]⟩, ⟨#[113, 117, 101, 101, 110]⟩, ⟨#[84, 104, 101]⟩, ⟨#[97, 32, 98, 32, 99, 32, 100]⟩, ⟨#[97, 32, 98, 32, 99, 32, 100, 32, 101]⟩, ⟨#[97, 32, 32, 98]⟩, ⟨#[32, 97]⟩,
  ⟨#[97, 98, 99, 100, 101, 102, 103, 104, 105, 106, 107, 108, 109, 110, 111, 112, 113, 114, 115, 116, 117, 118, 119, 120, 121]⟩, ⟨#[114, 111, 109, 101]⟩, ⟨#[107, 105, 110, 103]⟩, ⟨#[108, 121, 114, 101]⟩]
theorem odds_idx (j : Nat) (h : j < 12) : ∃ odd : S, ([.string ⟨#[]⟩, .string ⟨#[97, 110, 110, 97]⟩, .string ⟨#[113, 117, 101, 101, 110]⟩, .string ⟨#[84, 104, 101]⟩, .string ⟨#[97, 32, 98, 32, 99, 32, 100]⟩, .string ⟨#[97, 32, 98, 32, 99, 32, 100, 32, 101]⟩, .string ⟨#[97, 32, 32, 98]⟩, .string ⟨#[32, 97]⟩, .string ⟨#[97, 98, 99, 100, 101, 102, 103, 104, 105, 106, 107, 108, 109, 110, 111, 112, 113, 114, 115, 116, 117, 118, 119, 120, 121]⟩, .string ⟨#[114, 111, 109, 101]⟩, .string ⟨#[107, 105, 110, 103]⟩, .string ⟨#[108, 121, 114, 101]⟩] : List Value)[j]? = some (.string odd) ∧ odd.size ≤ 1000 := by
  have e : ([.string ⟨#[]⟩, .string ⟨#[97, 110, 110, 97]⟩, .string ⟨#[113, 117, 101, 101, 110]⟩, .string ⟨#[84, 104, 101]⟩, .string ⟨#[97, 32, 98, 32, 99, 32, 100]⟩, .string ⟨#[97, 32, 98, 32, 99, 32, 100, 32, 101]⟩, .string ⟨#[97, 32, 32, 98]⟩, .string ⟨#[32, 97]⟩, .string ⟨#[97, 98, 99, 100, 101, 102, 103, 104, 105, 106, 107, 108, 109, 110, 111, 112, 113, 114, 115, 116, 117, 118, 119, 120, 121]⟩, .string ⟨#[114, 111, 109, 101]⟩, .string ⟨#[107, 105, 110, 103]⟩, .string ⟨#[108, 121, 114, 101]⟩] : List Value) = odds12.map Value.string := rfl
  have hj : j < odds12.length := h
  refine ⟨odds12[j], ?_, ?_⟩
  · rw [e, List.getElem?_map, List.getElem?_eq_getElem hj]; rfl
  · have : ∀ x ∈ odds12, x.size ≤ 1000 := by decide
    exact this _ (List.getElem_mem hj)
theorem around_v {x m v : Int} (h : around x m = v) (w : World) (hx : i64ok x) (hm : 1 ≤ m) (hm' : m ≤ 9223372036854775807) :
    Calls Tryz.prog 24 #[.int .i64 x, .int .i64 m] w fun e w' => e = .returned (.int .i64 v) ∧ w = w' := by subst h; exact around_any x m w hx.1 hx.2 hm hm'
theorem conv2 (w : World) (a b : Int) : ∃ z : S, z.size = 2 ∧ (convert 70 9 (.slice (some ⟨w.heap.size, 0, none⟩) 2 2)).run Tryz.prog (w.alloc (.cells #[.int .u8 a, .int .u8 b] 5)) = .ok (.string z) (w.alloc (.cells #[.int .u8 a, .int .u8 b] 5)) := by
  refine ⟨[a, b].foldl (fun r n => r.push (UInt8.ofNat n.toNat)) ByteArray.empty, rfl, ?_⟩
  rw [run_convert_bytes_string _ _ _ _ _ _ _ Tryz.underlying70 Tryz.underlying5 Tryz.underlying9]
  refine run_bytesToString _ _ 2 2 [a, b] ?_
  exact run_loadCells_list _ ⟨w.heap.size, 0, none⟩ ([a, b].map (Value.int .u8)) (fun j v hj => by
    rw [addr_add, Nat.zero_add, cell_of_row _ _ j #[.int .u8 a, .int .u8 b] 5 (0, 0) (heap_alloc_new w _)]
    simpa using hj)
set_option maxRecDepth 20000 in
set_option maxHeartbeats 8000000 in
theorem spoilt_any (A : Option Addr) (n c : Nat) (ms : List TM) (how bys : Int) (F : Nat) (w : World) (hm : n ≤ 1000) (hF : F ≤ 98) (hl : Tms w A n ms) (hsm : ∀ m ∈ ms, m.small) (hfw : ∀ m ∈ ms, m.n ≤ F) (hh : i64ok how) (hby : i64ok bys) :
    Calls Tryz.prog 57 #[.slice A n c, .int .i64 how, .int .i64 bys] w (AVoc (n + 130) (F + 1) w) := by
  obtain ⟨hh0, hh1⟩ := hh
  obtain ⟨hby0, hby1⟩ := hby
  go_enter Tryz.func57, Tryz.ntmps57
  go_wp2
  go_loopw [7, 8] (fun o ii wr => ∃ (i m1 c1 : Nat) (A1 : Option Addr) (ms1 : List TM), i ≤ n ∧ ii = .int .i64 i ∧ o = .slice A1 m1 c1 ∧ m1 ≤ c1 ∧ i = m1 ∧ SpI w.heap.size F wr A1 m1 c1 ms1 ∧ Pw ms1 ∧ Below w.heap.size w wr) (fun _ ii _ => n - (intOf ii).toNat)
  case atStart => exact ⟨0, 0, 0, none, [], by omega, rfl, rfl, by omega, rfl, ⟨Own.nil _ _ _ (Nat.le_refl _), fun m h => by cases h⟩, List.Pairwise.nil, brefl⟩
  case round =>
    obtain ⟨i, m1, c1, A1, ms1, hi, rfl, rfl, hc1, rfl, hI, hP, hbl⟩ := hrel
    by_cases hlt : i < n
    · obtain ⟨b, off, ⟨⟨nm, ki, la, se, br⟩, Am, n5, cm⟩, rfl, hx, hok, hb0, hat⟩ := hl.at_ hlt
      obtain ⟨d1, d2, d3, d4, d5⟩ := hat.below hbl hb0
      have hsmx := hsm _ (List.mem_of_getElem? hx)
      have hfwx := hfw _ (List.mem_of_getElem? hx)
      obtain ⟨hnm, hse, hki, hla, hcap, hfew, hbr⟩ := hok
      dsimp only at d1 d2 d3 d4 d5 hnm hse hki hla hcap hfew hbr hfwx
      have hlt' : (i : Int) < n := by omega
      have hb0r := Nat.lt_of_lt_of_le hb0 hbl.size
      clear hx hat
      have o0 := Own.empty (wr.alloc (.cells #[.string nm, .int .i64 ki, .int .i64 la, .string se, .slice Am n5 cm] 33)) 9 1 (base := wr.heap.size + 1) (by simp)
      simp only [World.size_alloc] at o0
      go_wp2_with (first
        | (at_builtin; (refine wpList_app _ stringsT rfl (.tmp 23) (.tmp 28) rfl o0 rfl rfl (news := br.map Value.string) (by have := hbr.1; simpa using this) ((hbr.below ((hbl.al (.cells #[.string nm, .int .i64 ki, .int .i64 la, .string se, .slice Am n5 cm] 33)).al (.cells #[] 9))).2.2) (strs_one _) ?_ ?_ ?_; (focus omega); (focus omega); intro A4 c4 w4 o4 n4 g4 e4; simp only [Nat.zero_add, List.nil_append] at o4 n4 e4; have hb4 := (brefl.al (.cells #[] 9) : Below (wr.alloc (.cells #[.string nm, .int .i64 ki, .int .i64 la, .string se, .slice Am n5 cm] 33)).heap.size _ _).gr g4 (by intro k e; simp [Value.ownBlock] at e; simp; omega); have hTB := tb_new wr rfl hb4; have z4 := hTB.t4; have z5 := hTB.fr 4; have hT5 := hTB.broad A4 n5 c4; have y0 := hT5.t0; have y1 := hT5.t1; have y2 := hT5.t2; have y3 := hT5.t3; have y4 := hT5.t4; have hbr5 := ((brefl.al (.cells #[.string nm, .int .i64 ki, .int .i64 la, .string se, .slice Am n5 cm] 33) : Below wr.heap.size wr _).tr hb4).st (p := ⟨wr.heap.size, 4, none⟩) (Nat.le_refl _) (.slice A4 n5 c4); have hI5 := hI.below hbr5))
        | (at_builtin; go_loud (refine wpList_app _ termsT rfl (.tmp 31) (.tmp 33) rfl (hI5.own.alloc _) rfl rfl (news := [.string nm, .int .i64 ki, .int .i64 la, .string se, .slice A4 n5 c4]) rfl (Rds.new5 (w4.setCell ⟨wr.heap.size, 4, none⟩ (.slice A4 n5 c4)) (by simp) _ _ _ _ _ 33) (by simp [Value.oneCell']) ?_ ?_ ?_; (focus omega); (focus omega); intro A8 c8 w8 o8 n8 g8 e8))
        )
      have hne4 : ∀ q, (Value.slice A4 n5 c4).ownBlock = some q → wr.heap.size + 1 ≤ q := o4.row
      have hE0 : SpE w.heap.size F (w4.setCell ⟨wr.heap.size, 4, none⟩ (.slice A4 n5 c4)) (Value.slice A1 i c1).ownBlock ⟨⟨nm, ki, la, se, br⟩, A4, n5, c4⟩ :=
        ⟨⟨hsmx.nm, hsmx.se, hsmx.br⟩, hki, hla, hfwx, n4, (o4.mono (by have := hbl.size; omega)).kept (gsetV w4 wr.heap.size 4 _) (apart_of fun q hq e => by injection e with e; have := hne4 q hq; omega), fun q hq e => by
          have h1 := hne4 q hq
          have h2 := hI.own.lt q e
          omega⟩
      obtain ⟨hI8, hP8⟩ := hI5.push hP hE0 (fun m hm q hq e => by
        have h1 := hne4 q e
        have h2 := (hI.els m hm).own.lt q hq
        omega) o8 g8 e8
      have hb8 := ((hbl.tr hbr5).al (.cells #[.string nm, .int .i64 ki, .int .i64 la, .string se, .slice A4 n5 c4] 33)).gr g8 hI.own.row
      go_roundw
      case rel => exact ⟨i + 1, i + 1, c8, A8, _, by omega, by go_num, rfl, n8, rfl, hI8, hP8, hb8⟩
      case measure => simp [intOf]; omega
    · have hin : i = n := by omega
      subst hin
      have hlt' : ¬ (i : Int) < i := by omega
      have hbyk : i64ok bys := ⟨hby0, hby1⟩
      have hhk : i64ok how := ⟨hh0, hh1⟩
      have hq8 := quo8_ok hbyk
      obtain ⟨w7, hw7⟩ : ∃ w7 : World, w7 = wr := ⟨_, rfl⟩
      subst hw7
      have hml : ms1.length = i := by have := hI.own.1.1; rw [tmsCells_length] at this; omega
      rcases Nat.eq_zero_or_pos i with hi0 | hi0
      · subst hi0
        go_wp2_with (go_at_call 24; (with_reducible refine (around_nat (bys.tdiv 8) 12 _ hq8 (by omega) (by omega)).mono ?_); rintro e _ ⟨⟨j8, rfl, hj8⟩, rfl⟩; obtain ⟨odd, hidx, hods⟩ := odds_idx j8 (by omega))
        go_ret
        have hbd : Below w7.heap.size w7 ((w7.alloc (.cells #[.string ⟨#[]⟩, .string ⟨#[97, 110, 110, 97]⟩, .string ⟨#[113, 117, 101, 101, 110]⟩, .string ⟨#[84, 104, 101]⟩, .string ⟨#[97, 32, 98, 32, 99, 32, 100]⟩, .string ⟨#[97, 32, 98, 32, 99, 32, 100, 32, 101]⟩, .string ⟨#[97, 32, 32, 98]⟩, .string ⟨#[32, 97]⟩, .string ⟨#[97, 98, 99, 100, 101, 102, 103, 104, 105, 106, 107, 108, 109, 110, 111, 112, 113, 114, 115, 116, 117, 118, 119, 120, 121]⟩, .string ⟨#[114, 111, 109, 101]⟩, .string ⟨#[107, 105, 110, 103]⟩, .string ⟨#[108, 121, 114, 101]⟩] 9)).alloc (.cells #[.string odd, .int .i64 0, .int .i64 0, .string ⟨#[]⟩, .slice none 0 0] 33)) := (brefl.al _).al _
        refine ⟨_, _, _, [⟨⟨odd, 0, 0, ⟨#[]⟩, []⟩, none, 0, 0⟩], rfl, Nat.le_refl _, by omega, ⟨rfl, fun m hm => ?_, ?_⟩, fun m hm => ?_, fun m hm => ?_, hbl.tr hbd⟩
        · simp at hm; subst hm
          have hmx : (1000 : Nat) ≤ maxLen := by decide
          exact ⟨Nat.le_trans hods hmx, by show (⟨#[]⟩ : S).size ≤ maxLen; decide, by unfold i64ok; dsimp only; omega, by unfold i64ok; dsimp only; omega, Nat.le_refl _, by dsimp only; omega, Strs.nil _⟩
        · exact Rds.new5 _ (by simp) _ _ _ _ _ _
        · simp at hm; subst hm
          exact ⟨hods, by show (⟨#[]⟩ : S).size ≤ 1000; decide, fun x h => by cases h⟩
        · simp at hm; subst hm
          exact Nat.zero_le _
      · have hi0' : (0 : Int) < i := by omega
        have hi1 : ((i : Int) == 0) = false := by rw [beq_eq_false_iff_ne]; omega
        go_wp2_with (first
          | (go_at_call 24; (with_reducible refine (around_nat (bys.tdiv 8) 12 _ hq8 (by omega) (by omega)).mono ?_); rintro e _ ⟨⟨j8, rfl, hj8⟩, rfl⟩; obtain ⟨odd, hidx, hods⟩ := odds_idx j8 (by omega))
          | (go_at_call 24; (with_reducible refine (around_nat bys i _ hbyk (by omega) (by omega)).mono ?_); rintro e _ ⟨⟨k, rfl, hk⟩, rfl⟩)
          )
        with_reducible refine (around_nat how 10 _ hhk (by omega) (by omega)).mono ?_
        rintro e _ ⟨⟨j10, rfl, hj10⟩, rfl⟩
        have hki : k < i := by omega
        obtain ⟨wd, hwd⟩ : ∃ wd, w7.alloc (.cells #[.string ⟨#[]⟩, .string ⟨#[97, 110, 110, 97]⟩, .string ⟨#[113, 117, 101, 101, 110]⟩, .string ⟨#[84, 104, 101]⟩, .string ⟨#[97, 32, 98, 32, 99, 32, 100]⟩, .string ⟨#[97, 32, 98, 32, 99, 32, 100, 32, 101]⟩, .string ⟨#[97, 32, 32, 98]⟩, .string ⟨#[32, 97]⟩, .string ⟨#[97, 98, 99, 100, 101, 102, 103, 104, 105, 106, 107, 108, 109, 110, 111, 112, 113, 114, 115, 116, 117, 118, 119, 120, 121]⟩, .string ⟨#[114, 111, 109, 101]⟩, .string ⟨#[107, 105, 110, 103]⟩, .string ⟨#[108, 121, 114, 101]⟩] 9) = wd := ⟨_, rfl⟩
        have hbd : Below w7.heap.size w7 wd := by rw [← hwd]; exact brefl.al _
        rw [hwd]
        replace hI := hI.below hbd
        have hbw := hbl.tr hbd
        obtain ⟨bo, hAo, hbo1, hbo2⟩ := hI.own.addr hi0
        subst hAo
        obtain ⟨m, hmk⟩ : ∃ m, ms1[k]? = some m := ⟨_, List.getElem?_eq_getElem (by rw [hml]; exact hki)⟩
        have hel := hI.els m (List.mem_of_getElem? hmk)
        have hat := hI.own.tmAt rfl hmk
        obtain ⟨⟨nm, ki, la, se, br⟩, Am, n5, cm⟩ := m
        have hown := hel.own
        have hfewm := hel.few
        dsimp only at hown hfewm
        obtain ⟨d0, d1, d2, d3, d4⟩ := hat
        dsimp only at d0 d1 d2 d3 d4
        have f0 := hI.own.frozenAt rfl (k * 5)
        have f1 := hI.own.frozenAt rfl (k * 5 + 1)
        have f2 := hI.own.frozenAt rfl (k * 5 + 2)
        have f3 := hI.own.frozenAt rfl (k * 5 + 3)
        have f4 := hI.own.frozenAt rfl (k * 5 + 4)
        clear hwd hlt' hlt hi hl hsm hfw hbl hbd hidx hj8 hi0 hi0' hi1 hq8
        have hc10 : j10 = 0 ∨ j10 = 1 ∨ j10 = 2 ∨ j10 = 3 ∨ j10 = 4 ∨ j10 = 5 ∨ j10 = 6 ∨ j10 = 7 ∨ j10 = 8 ∨ j10 = 9 := by omega
        clear hj10
        rcases hc10 with rfl | rfl | rfl | rfl | rfl | rfl | rfl | rfl | rfl | rfl
        · go_wp2
          go_ret
          have hI9 : SpI w.heap.size (F + 1) (wd.setCell ⟨bo, k * 5 + 0, none⟩ (.string odd)) _ i c1 (ms1.set k ⟨⟨odd, ki, la, se, br⟩, Am, n5, cm⟩) := SpI.set hI rfl hmk (by omega) rfl ⟨⟨hods, hel.sm.se, hel.sm.br⟩, hel.ki, hel.la, Nat.le_succ_of_le hel.few, hel.cap, hel.own, hel.ap⟩ (by omega)
          obtain ⟨t1, t2, t3⟩ := hI9.tms (by omega)
          exact ⟨_, _, _, _, rfl, hc1, by omega, t1, t2, t3, hbw.st (p := ⟨bo, k * 5, none⟩) hbo1 _⟩
        · go_wp2
          go_ret
          have hI9 : SpI w.heap.size (F + 1) (wd.setCell ⟨bo, k * 5 + 3, none⟩ (.string odd)) _ i c1 (ms1.set k ⟨⟨nm, ki, la, odd, br⟩, Am, n5, cm⟩) := SpI.set hI rfl hmk (by omega) rfl ⟨⟨hel.sm.nm, hods, hel.sm.br⟩, hel.ki, hel.la, Nat.le_succ_of_le hel.few, hel.cap, hel.own, hel.ap⟩ (by omega)
          obtain ⟨t1, t2, t3⟩ := hI9.tms (by omega)
          exact ⟨_, _, _, _, rfl, hc1, by omega, t1, t2, t3, hbw.st (p := ⟨bo, k * 5 + 3, none⟩) hbo1 _⟩
        · go_wp2_with (at_builtin; refine wpList_app _ stringsT rfl (.tmp 98) (.tmp 100) rfl (hown.alloc _) rfl rfl (news := [.string odd]) rfl (Rds.one wd (.string odd) 9) (by simp [Value.oneCell']) ?_ ?_ ?_; (focus omega); (focus omega); intro A8 c8 w8 o8 n8 g8 e8; have ho8 := (hI.own.alloc (.cells #[.string odd] 9)).kept g8 (.inr (fun e => hel.ap bo e.symm rfl)); have z4 := (ho8.tmAt rfl hmk).2.2.2.2; dsimp only at z4; have z5 := ho8.frozenAt rfl (k * 5 + 4))
          go_ret
          have hI9 : SpI w.heap.size (F + 1) (w8.setCell ⟨bo, k * 5 + 4, none⟩ (.slice A8 (n5 + 1) c8)) _ i c1 (ms1.set k ⟨⟨nm, ki, la, se, br ++ [odd]⟩, A8, n5 + 1, c8⟩) := SpI.put ho8 rfl hmk (by omega) rfl (fun q x hx hne => (((hI.els x (List.mem_of_getElem? hx)).kept (grown_of (brefl.al _) none) (by simp)).kept g8 (hP.other hx hmk hne)).more (by omega))
            ⟨⟨hel.sm.nm, hel.sm.se, fun x hx => by
              rcases List.mem_append.1 hx with hx | hx
              · exact hel.sm.br x hx
              · simp at hx; subst hx; exact hods⟩, hel.ki, hel.la, Nat.succ_le_succ hfewm, n8, by rw [List.map_append]; exact o8, fun q hq e => by
              rcases e8 with e8 | e8
              · exact hel.ap q (by rw [← hq]; exact e8.symm) e
              · have hq2 : (Value.slice A8 (n5 + 1) c8).ownBlock = some q := hq
                rw [e8] at hq2
                have e2 : bo = q := Option.some.inj (show some bo = some q from e)
                injection hq2 with hq2
                rw [World.size_alloc] at hq2; omega⟩
          obtain ⟨t1, t2, t3⟩ := hI9.tms (by omega)
          exact ⟨_, _, _, _, rfl, hc1, by omega, t1, t2, t3, ((hbw.al _).gr g8 hown.row).st (p := ⟨bo, k * 5 + 4, none⟩) hbo1 _⟩
        · go_wp2_with (at_builtin; refine wpList_app _ stringsT rfl (.tmp 109) (.tmp 114) rfl (Own.made wd [.string odd] 9 (n := 1) (size := 1) (Nat.le_refl _) rfl (by decide)) rfl rfl (news := br.map Value.string) (by have := hown.1.1; exact this) ((hown.alloc _).reads) (strs_one _) ?_ ?_ ?_; (focus omega); (focus omega); intro A8 c8 w8 o8 n8 g8 e8; have hb8 := (brefl.al (.cells #[.string odd] 9) : Below wd.heap.size wd _).gr g8 (by intro q e; simp [Value.ownBlock] at e; omega); have hI8 := hI.below hb8; have z4 := (hI8.own.tmAt rfl hmk).2.2.2.2; dsimp only at z4; have z5 := hI8.own.frozenAt rfl (k * 5 + 4))
          go_ret
          have hI9 : SpI w.heap.size (F + 1) (w8.setCell ⟨bo, k * 5 + 4, none⟩ (.slice A8 (1 + n5) c8)) _ i c1 (ms1.set k ⟨⟨nm, ki, la, se, odd :: br⟩, A8, 1 + n5, c8⟩) := SpI.set hI8 rfl hmk (by omega) rfl
            ⟨⟨hel.sm.nm, hel.sm.se, fun x hx => by
              rcases List.mem_cons.1 hx with hx | hx
              · rw [hx]; exact hods
              · exact hel.sm.br x hx⟩, hel.ki, hel.la, by show 1 + n5 ≤ F + 1; omega, n8, o8.mono (by have := hI.own.2; omega), fun q hq e => by
              have h1 := o8.row q hq
              have e2 : bo = q := Option.some.inj (show some bo = some q from e)
              omega⟩ (by omega)
          obtain ⟨t1, t2, t3⟩ := hI9.tms (by omega)
          exact ⟨_, _, _, _, rfl, hc1, by omega, t1, t2, t3, (hbw.tr hb8).st (p := ⟨bo, k * 5 + 4, none⟩) hbo1 _⟩
        · go_wp2_with (go_at_call 24; (with_reducible refine (around_nat bys 6 _ hbyk (by omega) (by omega)).mono ?_); rintro e _ ⟨⟨j6, rfl, hj6⟩, rfl⟩)
          go_ret
          have hI9 : SpI w.heap.size (F + 1) (wd.setCell ⟨bo, k * 5 + 1, none⟩ (.int .i64 ((j6 : Int) - 1))) _ i c1 (ms1.set k ⟨⟨nm, (j6 : Int) - 1, la, se, br⟩, Am, n5, cm⟩) := SpI.set hI rfl hmk (by omega) rfl ⟨⟨hel.sm.nm, hel.sm.se, hel.sm.br⟩, by unfold i64ok; dsimp only; omega, hel.la, Nat.le_succ_of_le hel.few, hel.cap, hel.own, hel.ap⟩ (by omega)
          obtain ⟨t1, t2, t3⟩ := hI9.tms (by omega)
          exact ⟨_, _, _, _, rfl, hc1, by omega, t1, t2, t3, hbw.st (p := ⟨bo, k * 5 + 1, none⟩) hbo1 _⟩
        · go_wp2_with (go_at_call 24; (with_reducible refine (around_nat bys 7 _ hbyk (by omega) (by omega)).mono ?_); rintro e _ ⟨⟨j6, rfl, hj6⟩, rfl⟩)
          go_ret
          have hI9 : SpI w.heap.size (F + 1) (wd.setCell ⟨bo, k * 5 + 2, none⟩ (.int .i64 ((j6 : Int) - 1))) _ i c1 (ms1.set k ⟨⟨nm, ki, (j6 : Int) - 1, se, br⟩, Am, n5, cm⟩) := SpI.set hI rfl hmk (by omega) rfl ⟨⟨hel.sm.nm, hel.sm.se, hel.sm.br⟩, hel.ki, by unfold i64ok; dsimp only; omega, Nat.le_succ_of_le hel.few, hel.cap, hel.own, hel.ap⟩ (by omega)
          obtain ⟨t1, t2, t3⟩ := hI9.tms (by omega)
          exact ⟨_, _, _, _, rfl, hc1, by omega, t1, t2, t3, hbw.st (p := ⟨bo, k * 5 + 2, none⟩) hbo1 _⟩
        · have hi0 : (0 : Int) < i := by omega
          have hi0n : 0 < i := by omega
          by_cases hk0 : k = 0
          · subst hk0
            simp only [Nat.zero_mul, Nat.zero_add] at d0 d1 d2 d3 d4 f0 f1 f2 f3 f4
            go_wp2
            go_region_law (fail)
            all_goals
              go_wp2
              go_ret
              have hJ := hI.setTm rfl 0 hel
              have hK := hJ.setTm rfl 0 (hel.kept (grownBy_set5 wd bo _ _ _ _ _ _ _ _ _ _) hel.ap)
              simp only [Nat.zero_mul, Nat.zero_add] at hK
              have hI9 := (hK.more (Nat.le_succ F)).drew
              obtain ⟨t1, t2, t3⟩ := hI9.tms (by omega)
              exact ⟨_, _, _, _, rfl, hc1, by omega, t1, t2, t3, bdrew ((((((((((hbw.st (p := ⟨bo, 0, none⟩) hbo1 _).st (p := ⟨bo, 1, none⟩) hbo1 _).st (p := ⟨bo, 2, none⟩) hbo1 _).st (p := ⟨bo, 3, none⟩) hbo1 _).st (p := ⟨bo, 4, none⟩) hbo1 _).st (p := ⟨bo, 0, none⟩) hbo1 _).st (p := ⟨bo, 1, none⟩) hbo1 _).st (p := ⟨bo, 2, none⟩) hbo1 _).st (p := ⟨bo, 3, none⟩) hbo1 _).st (p := ⟨bo, 4, none⟩) hbo1 _)⟩
          · skip
            obtain ⟨m0, hm0⟩ : ∃ m0, ms1[0]? = some m0 := ⟨_, List.getElem?_eq_getElem (by rw [hml]; omega)⟩
            have hat0 := hI.own.tmAt rfl hm0
            have hel0 := hI.els m0 (List.mem_of_getElem? hm0)
            obtain ⟨⟨nm0, ki0, la0, se0, br0⟩, Am0, n50, cm0⟩ := m0
            obtain ⟨e0, e1, e2, e3, e4⟩ := hat0
            dsimp only at e0 e1 e2 e3 e4
            simp only [Nat.zero_mul, Nat.zero_add] at e0 e1 e2 e3 e4
            have g0 := hI.own.frozenAt rfl 0
            have g1 := hI.own.frozenAt rfl 1
            have g2 := hI.own.frozenAt rfl 2
            have g3 := hI.own.frozenAt rfl 3
            have g4 := hI.own.frozenAt rfl 4
            go_wp2
            go_region_law (fail)
            all_goals
              go_wp2
              go_ret
              have hJ := hI.setTm rfl k hel0
              have hK := hJ.setTm rfl 0 (hel.kept (grownBy_set5 wd bo _ _ _ _ _ _ _ _ _ _) hel.ap)
              simp only [Nat.zero_mul, Nat.zero_add] at hK
              have hI9 := (hK.more (Nat.le_succ F)).drew
              obtain ⟨t1, t2, t3⟩ := hI9.tms (by omega)
              exact ⟨_, _, _, _, rfl, hc1, by omega, t1, t2, t3, bdrew ((((((((((hbw.st (p := ⟨bo, k * 5, none⟩) hbo1 _).st (p := ⟨bo, k * 5 + 1, none⟩) hbo1 _).st (p := ⟨bo, k * 5 + 2, none⟩) hbo1 _).st (p := ⟨bo, k * 5 + 3, none⟩) hbo1 _).st (p := ⟨bo, k * 5 + 4, none⟩) hbo1 _).st (p := ⟨bo, 0, none⟩) hbo1 _).st (p := ⟨bo, 1, none⟩) hbo1 _).st (p := ⟨bo, 2, none⟩) hbo1 _).st (p := ⟨bo, 3, none⟩) hbo1 _).st (p := ⟨bo, 4, none⟩) hbo1 _)⟩
        · go_wp2_with (at_builtin; refine wpList_app _ termsT rfl (.tmp 152) (.tmp 155) rfl (hI.own.alloc _) rfl rfl (news := [.string odd, .int .i64 0, .int .i64 0, .string ⟨#[]⟩, .slice none 0 0]) rfl (Rds.new5 wd rfl _ _ _ _ _ 33) (by simp [Value.oneCell']) ?_ ?_ ?_; (focus omega); (focus omega); intro A8 c8 w8 o8 n8 g8 e8)
          go_ret
          obtain ⟨hI8, _⟩ := hI.push (m0 := ⟨⟨odd, 0, 0, ⟨#[]⟩, []⟩, none, 0, 0⟩) hP (⟨⟨hods, by show (⟨#[]⟩ : S).size ≤ 1000; decide, fun x h => by cases h⟩, by unfold i64ok; dsimp only; omega, by unfold i64ok; dsimp only; omega, Nat.zero_le _, Nat.le_refl _, Own.nil _ _ _ hI.own.2, fun b hb => by cases hb⟩
            ) (fun m hm q hq e => by cases e) o8 g8 e8
          obtain ⟨t1, t2, t3⟩ := hI8.tms (by omega)
          exact ⟨_, _, _, _, rfl, n8, by omega, t1, t2, fun m hm => Nat.le_succ_of_le (t3 m hm), (hbw.al _).gr g8 hI.own.row⟩
        · have hki2 : (k : Int) ≤ i := by omega
          have hki3 : (k : Int) + 1 ≤ i := by omega
          have hki4 : (k : Int) + 1 ≤ c1 := by omega
          have hki5 : (k : Int) ≤ c1 := by omega
          have hki6 : (0 : Int) ≤ (k : Int) + 1 := by omega
          have hS : True := trivial
          have R1 := Lib.hid (hI.own.takeN (k := k) (by omega))
          have r2 := hI.own.reads.dropTm (k := k + 1) (c := c1) (by omega)
          simp only [Option.map_some, addr_add, Nat.zero_add] at r2
          have R2 := Lib.hid r2
          have L2 := Lib.hid (show (tmsCells (ms1.drop (k + 1))).length = (i - (k + 1)) * 5 from by rw [tmsCells_length, List.length_drop, hml])
          clear r2
          have hwrap := IntWalk.i64_in ((k : Int) + 1) (by omega)
          go_wp2
          refine wp_region_mix [(true, 0), (true, 1), (true, 2), (true, 3), (true, 4), (true, 5), (true, 6), (false, 7), (true, 8)] 9 (fun _ => True) (by kernel_rfl) (by kernel_rfl) ?_
          refine wpMix_put (v := ?_) rfl rfl (Or.inl ⟨by rfl, fun wz hz => ?_⟩) hS ?_
          rotate_left
          (focus (go_simp; try (with_reducible rfl)))
          simp only [List.setIfInBounds_toArray, List.set_cons_succ, List.set_cons_zero]
          refine wpMix_put (v := ?_) rfl rfl (Or.inl ⟨by rfl, fun wz hz => ?_⟩) hS ?_
          rotate_left
          (focus (go_simp; try (with_reducible rfl)))
          simp only [List.setIfInBounds_toArray, List.set_cons_succ, List.set_cons_zero]
          refine wpMix_put (v := ?_) rfl rfl (Or.inl ⟨by rfl, fun wz hz => ?_⟩) hS ?_
          rotate_left
          (focus (go_simp; try (with_reducible rfl)))
          simp only [List.setIfInBounds_toArray, List.set_cons_succ, List.set_cons_zero]
          refine wpMix_put (v := ?_) rfl rfl (Or.inl ⟨by rfl, fun wz hz => ?_⟩) hS ?_
          rotate_left
          (focus (go_simp; try (with_reducible rfl)))
          simp only [List.setIfInBounds_toArray, List.set_cons_succ, List.set_cons_zero]
          refine wpMix_put (v := ?_) rfl rfl (Or.inl ⟨by rfl, fun wz hz => ?_⟩) hS ?_
          rotate_left
          (focus (go_simp; try (with_reducible rfl)))
          simp only [List.setIfInBounds_toArray, List.set_cons_succ, List.set_cons_zero]
          refine wpMix_put (v := ?_) rfl rfl (Or.inl ⟨by rfl, fun wz hz => ?_⟩) hS ?_
          rotate_left
          (focus (go_simp; try (with_reducible rfl)))
          simp only [List.setIfInBounds_toArray, List.set_cons_succ, List.set_cons_zero]
          refine wpMix_put (v := ?_) rfl rfl (Or.inl ⟨by rfl, fun wz hz => ?_⟩) hS ?_
          rotate_left
          (focus (go_simp; try (with_reducible rfl)))
          simp only [List.setIfInBounds_toArray, List.set_cons_succ, List.set_cons_zero]
          refine wpMix_step rfl (fun K hK => ?_)
          refine step_app _ termsT rfl (.tmp 161) (.tmp 165) rfl (R1.out.drew) rfl rfl (news := tmsCells (ms1.drop (k + 1))) L2.out (R2.out.drew) (tms_one _) ?_ ?_ ?_
          · omega
          · omega
          intro A8 c8 w8 o8 n8 g8 e9
          have e8 := Lib.hid e9
          clear e9
          go_simp
          refine hK _ _ (fun _ => trivial) ?_
          clear hK K
          refine wpMix_put (v := ?_) rfl rfl (Or.inl ⟨by rfl, fun wz hz => ?_⟩) hS ?_
          rotate_left
          (focus (go_simp; try (with_reducible rfl)))
          simp only [List.setIfInBounds_toArray, List.set_cons_succ, List.set_cons_zero]
          refine wpMix_nil ?_
          clear hwrap
          go_wp2
          all_goals
            go_ret
            have hI9 : SpI w.heap.size (F + 1) w8 A8 (k + (i - (k + 1))) c8 (ms1.take k ++ ms1.drop (k + 1)) := ⟨by
                have e : tmsCells (ms1.take k ++ ms1.drop (k + 1)) = (tmsCells ms1).take (k * 5) ++ tmsCells (ms1.drop (k + 1)) := by rw [tmsCells_take]; unfold tmsCells; rw [List.flatMap_append]
                rw [e]; exact o8, fun x hx => by
                have hx1 : x ∈ ms1 := by
                  rcases List.mem_append.1 hx with hx | hx
                  · exact List.mem_of_mem_take hx
                  · exact List.mem_of_mem_drop hx
                have h1 := (hI.drew.els x hx1).more (Nat.le_succ F)
                have h2 := h1.kept g8 h1.ap
                have h3 := h1.out (o' := (Value.slice A8 (k + (i - (k + 1))) c8).ownBlock) (by rcases e8.out with e8 | e8; exact .inl e8; exact .inr ⟨_, e8, Nat.le_refl _⟩)
                exact ⟨h2.sm, h2.ki, h2.la, h2.few, h2.cap, h2.own, h3.ap⟩⟩
            obtain ⟨t1, t2, t3⟩ := hI9.tms (by omega)
            exact ⟨_, _, _, _, rfl, n8, by omega, t1, t2, t3, (bdrew hbw).gr g8 (fun q e => by
              have e2 : bo = q := Option.some.inj (show some bo = some q from e)
              omega)⟩
        · have har := around_range bys 10 (by omega)
          obtain ⟨vt, hvt⟩ : ∃ vt : Nat, around bys 10 = vt := ⟨(around bys 10).toNat, by omega⟩
          have HVT := Lib.hid hvt
          rw [hvt] at har
          clear hvt hel hown hmk d0 d1 d2 d3 d4 f0 f1 f2 f3 f4 hfewm
          go_wp2
          obtain ⟨wq, hwq⟩ : ∃ wq : World, wq = wd := ⟨_, rfl⟩
          subst hwq
          go_loopw [7, 12] (fun o jj wr => ∃ (j m1 c2 : Nat) (A2 : Option Addr) (ms2 : List TM), j ≤ 120 + vt ∧ jj = .int .i64 j ∧ o = .slice A2 m1 c2 ∧ m1 ≤ c2 ∧ m1 ≤ i + j ∧ SpI w.heap.size F wr A2 m1 c2 ms2 ∧ Pw ms2 ∧ Below w.heap.size w wr) (fun _ jj _ => 120 + vt - (intOf jj).toNat)
          case atStart => exact ⟨0, i, c1, _, ms1, by omega, rfl, rfl, hc1, by omega, hI, hP, hbw⟩
          case round =>
            clear hI hP hbw hbo1 hbo2
            obtain ⟨j, m1, c2, A2, ms2, hj, rfl, rfl, hc2, hm1, hI, hP, hbw⟩ := hrel
            by_cases hlt : j < 120 + vt
            · have hlt' : (j : Int) < 120 + (vt : Int) := by omega
              have hj0 : (0 : Int) ≤ j := by omega
              have hj1 : (j : Int) < 200 := by omega
              obtain ⟨z, hz2, hcv⟩ := conv2 wr (97 + (j : Int) / 26 % 26) (97 + (j : Int) % 26)
              have hzs : ((⟨#[122]⟩ : S) ++ z).size ≤ 1000 := by
                rw [ByteArray.size_append, hz2]; decide
              have hz3 : z.size ≤ 2 := by omega
              have hIa := hI.below (brefl.al (.cells #[.int .u8 (97 + (j : Int) / 26 % 26), .int .u8 (97 + (j : Int) % 26)] 5))
              go_wp2_with (first
                | (go_at_call 24; (with_reducible refine (around_v HVT.out _ hbyk (by omega) (by omega)).mono ?_); rintro e _ ⟨rfl, rfl⟩)
                | (at_builtin; (refine wpList_app _ termsT rfl (.tmp 60) (.tmp 74) rfl (hIa.own.alloc _) rfl rfl (news := [.string ((⟨#[122]⟩ : S) ++ z), .int .i64 0, .int .i64 0, .string ⟨#[]⟩, .slice none 0 0]) rfl (Rds.new5 (wr.alloc (.cells #[.int .u8 (97 + (j : Int) / 26 % 26), .int .u8 (97 + (j : Int) % 26)] 5)) (by simp) _ _ _ _ _ 33) (by simp [Value.oneCell']) ?_ ?_ ?_; (focus omega); (focus omega); intro A8 c8 w8 o8 n8 g8 e8))
                )
              obtain ⟨hI8, hP8⟩ := hIa.push (m0 := ⟨⟨(⟨#[122]⟩ : S) ++ z, 0, 0, ⟨#[]⟩, []⟩, none, 0, 0⟩) hP ⟨⟨hzs, by show (⟨#[]⟩ : S).size ≤ 1000; decide, fun x h => by cases h⟩, by unfold i64ok; dsimp only; omega, by unfold i64ok; dsimp only; omega, Nat.zero_le _, Nat.le_refl _, Own.nil _ _ _ hIa.own.2, fun b hb => by cases hb⟩ (fun m hm q hq e => by cases e) o8 g8 e8
              have hb8 := ((hbw.al (.cells #[.int .u8 (97 + (j : Int) / 26 % 26), .int .u8 (97 + (j : Int) % 26)] 5)).al (.cells #[.string ((⟨#[122]⟩ : S) ++ z), .int .i64 0, .int .i64 0, .string ⟨#[]⟩, .slice none 0 0] 33)).gr g8 hI.own.row
              go_roundw
              case rel => exact ⟨j + 1, m1 + 1, c8, A8, _, by omega, by go_num, rfl, n8, by omega, hI8, hP8, hb8⟩
              case measure => simp [intOf]; omega
            · have hlt' : ¬ (j : Int) < 120 + (vt : Int) := by omega
              go_wp2_with (go_at_call 24; (with_reducible refine (around_v HVT.out _ hbyk (by omega) (by omega)).mono ?_); rintro e _ ⟨rfl, rfl⟩)
              go_ret
              obtain ⟨t1, t2, t3⟩ := hI.tms (by omega)
              exact ⟨_, _, _, _, rfl, hc2, by omega, t1, t2, fun m hm => Nat.le_succ_of_le (t3 m hm), hbw⟩
theorem names8_size : ∀ x ∈ names8, x.size ≤ 9 := by decide
theorem empty_size {s : S} (h : s.data.isEmpty = true) : s.size = 0 := by rw [is_empty h]; rfl
theorem Made.small {ms : List TM} (h : Made ms) : ∀ m ∈ ms, m.small := by
  obtain ⟨i, pr, h⟩ := h
  intro m hm
  have ht : m.t ∈ terms ms := List.mem_map_of_mem hm
  have hin : ∀ {x : S}, (∃ u ∈ terms ms, u.name = x ∧ u.see.data.isEmpty = true) → x.size ≤ 1000 := by
    rintro x ⟨u, hu, rfl, _⟩
    have := names8_size _ (h.name_in hu); omega
  refine ⟨?_, ?_, fun x hx => hin ((h.brs _ ht).2 x hx).2⟩
  · have := names8_size _ (h.name_in ht); omega
  · rcases h.see _ ht with hs | ⟨_, hs⟩
    · rw [empty_size hs]; omega
    · exact hin hs
theorem Made.few {ms : List TM} (h : Made ms) {w : World} {A : Option Addr} {n : Nat} (hl : Tms w A n ms) : ∀ m ∈ ms, m.n ≤ 8 := by
  obtain ⟨i, pr, h⟩ := h
  intro m hm
  have h1 := (h.num m.t (List.mem_map_of_mem hm)).2.2.2.2
  have h2 := (hl.2.1 m hm).br.1
  omega
end Go.Proofs.YtdfnfimajhagfaaGreatDoor
