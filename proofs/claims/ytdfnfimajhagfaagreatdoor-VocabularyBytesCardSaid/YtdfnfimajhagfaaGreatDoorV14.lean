/- Walks: the generators At, List, Terms. -/
import Derived.Test.YtdfnfimajhagfaaGreatDoorTm
import Derived.Test.YtdfnfimajhagfaaGreatDoorGen
import Derived.Test.YtdfnfimajhagfaaGreatDoorG3
import Derived.Test.YtdfnfimajhagfaaGreatDoorPlan
import Derived.Test.YtdfnfimajhagfaaGreatDoorP8
namespace Go.Proofs.YtdfnfimajhagfaaGreatDoor
open Go.RowKit Go.Maps Rf
set_option maxRecDepth 20000 in
set_option maxHeartbeats 1000000 in
theorem at_any (A : Option Addr) (n c : Nat) (l : List Int) (i m : Int) (w : World) (hm : 1 ≤ m) (hm2 : m ≤ 9223372036854775807) (hl : Ints w A n l) :
    Calls Tryz.prog 56 #[.slice A n c, .int .i64 i, .int .i64 m] w fun e w' => (∃ v, e = .returned (.int .i64 v) ∧ 0 ≤ v ∧ v < m) ∧ w = w' := by
  by_cases h0 : i < 0
  · go_enter Tryz.func56, Tryz.ntmps56
    go_wp2
    go_ret
    exact ⟨⟨0, rfl, by omega, by omega⟩, rfl⟩
  · by_cases h1 : (n : Int) ≤ i
    · go_enter Tryz.func56, Tryz.ntmps56
      go_wp2
      go_ret
      exact ⟨⟨0, rfl, by omega, by omega⟩, rfl⟩
    · obtain ⟨k, rfl⟩ : ∃ k : Nat, i = k := ⟨i.toNat, by omega⟩
      obtain ⟨b, off, x, rfl, hx, hok, hb, hc⟩ := hl.at_ (k := k) (by omega)
      have h2 : (k : Int) < n := by omega
      have h3 : k < n := by omega
      have hr := around_range x m hm
      have ha := around_any x m w hok.1 hok.2 hm hm2
      generalize around x m = v at hr ha
      clear hx hb
      go_enter Tryz.func56, Tryz.ntmps56
      go_wp2_with (go_at_call 24; refine ha.mono ?_; rintro e w' ⟨rfl, rfl⟩)
      go_ret
      exact ⟨⟨v, rfl, hr.1, hr.2⟩, rfl⟩
theorem Rds.rowS (w : World) (l : List S) (t : TypeId) : Rds (w.alloc (.cells (l.map Value.string).toArray t)) (some ⟨w.heap.size, 0, none⟩) (l.map Value.string) := fun _ =>
  ⟨w.heap.size, 0, rfl, by simp, fun j v hv => by
    rw [Nat.zero_add, cell_of_row _ _ j (l.map Value.string).toArray t (0, 0) (heap_alloc_new w _)]
    simpa using hv⟩
def names8 : List S := [⟨#[97, 110, 110, 97]⟩, ⟨#[97, 110, 110, 97, 32, 107, 105, 110, 103]⟩, ⟨#[107, 105, 110, 103]⟩, ⟨#[108, 121, 114, 101]⟩, ⟨#[111, 100, 101]⟩, ⟨#[114, 111, 109, 101]⟩, ⟨#[116, 104, 101, 32, 107, 105, 110, 103]⟩, ⟨#[120]⟩]
set_option maxRecDepth 20000 in
set_option maxHeartbeats 1000000 in
theorem list_any (w : World) : Calls Tryz.prog 32 #[] w fun e w' => e = .returned (.slice (some ⟨w.heap.size, 0, none⟩) 8 8) ∧ Strs w' (some ⟨w.heap.size, 0, none⟩) 8 names8 ∧ Below w.heap.size w w' := by
  go_enter Tryz.func32, Tryz.ntmps32
  go_wp2
  go_ret
  exact ⟨rfl, ⟨rfl, by decide, Rds.rowS w names8 9⟩, brefl.al _⟩
theorem names8_sorted : Sorted names8 := by unfold Sorted; decide +kernel
theorem names8_names : ∀ x ∈ names8, isName x = true := by decide +kernel
/-- terms that Terms made -/
def Made (ms : List TM) : Prop := ∃ i pr, GI names8 i (terms ms) pr
theorem terms_snoc {i : Nat} {ms : List TM} {m : TM} {t : Term} {pr : List S} (h : GI names8 i (terms ms ++ [t]) pr) (hm : m.t = t := by rfl) : GI names8 i (terms (ms ++ [m])) pr := by
  subst hm; unfold terms at *; rw [List.map_append]; exact h
/-! ### what Terms holds while it runs -/
theorem TM.ok.grown {w w' : World} {m : TM} {row : Option Nat} (h : m.ok w) (hg : w.grownBy w' row) (hr : ∀ b off, m.A = some ⟨b, off, none⟩ → some b ≠ row) : m.ok w' :=
  ⟨h.nm, h.se, h.ki, h.la, h.cap, h.few, h.br.1, h.br.2.1, h.br.2.2.grown hg hr⟩
/-- the terms that are made: their broader names lie apart from the two rows that still grow -/
def TInv (w : World) (o p : Option Nat) (ms : List TM) : Prop := ∀ m ∈ ms, m.ok w ∧ ∀ b off, m.A = some ⟨b, off, none⟩ → b < w.heap.size ∧ o ≠ some b ∧ p ≠ some b
theorem TInv.grown {w w' : World} {o p row : Option Nat} {ms : List TM} (h : TInv w o p ms) (hg : w.grownBy w' row) (hr : ∀ m ∈ ms, ∀ b off, m.A = some ⟨b, off, none⟩ → row ≠ some b) : TInv w' o p ms := fun m hm => by
  obtain ⟨h1, h2⟩ := h m hm
  exact ⟨h1.grown hg fun b off e => (hr m hm b off e).symm, fun b off e => ⟨Nat.lt_of_lt_of_le (h2 b off e).1 hg.size, (h2 b off e).2⟩⟩
theorem TInv.below {w w' : World} {o p : Option Nat} {ms : List TM} (h : TInv w o p ms) (hb : Below w.heap.size w w') : TInv w' o p ms :=
  h.grown (row := none) ⟨hb.os, hb.tape, hb.output, hb.size, fun k hk _ => hb.block k hk⟩ (by simp)
theorem TInv.rows {w : World} {o p o' p' : Option Nat} {ms : List TM} (h : TInv w o p ms) (ho : o' = o ∨ ∃ k, o' = some k ∧ w.heap.size ≤ k) (hp : p' = p ∨ ∃ k, p' = some k ∧ w.heap.size ≤ k) : TInv w o' p' ms := fun m hm => by
  obtain ⟨h1, h2⟩ := h m hm
  refine ⟨h1, fun b off e => ?_⟩
  obtain ⟨h3, h4, h5⟩ := h2 b off e
  refine ⟨h3, ?_, ?_⟩
  · rcases ho with rfl | ⟨k, rfl, hk⟩
    · exact h4
    · intro e; injection e with e; omega
  · rcases hp with rfl | ⟨k, rfl, hk⟩
    · exact h5
    · intro e; injection e with e; omega
theorem termsT : AppT Tryz.prog 28 33 5 72 := AppT.mk Tryz.underlying28 (z := .agg #[.string ByteArray.empty, .int .i64 0, .int .i64 0, .string ByteArray.empty, .slice none 0 0]) (by kernel_rfl) rfl (by omega)
theorem quo_rem (v d m : Int) (h0 : 0 ≤ v) (h1 : v < 96) (hd : 1 ≤ d) (hm : 1 ≤ m) : ∃ j : Nat, (IntKind.i64.wrap (v.tdiv d)).tmod m = j ∧ (j : Int) < m := by
  have h2 : 0 ≤ v / d := Int.ediv_nonneg h0 (by omega)
  have h3 : v / d ≤ v := Int.ediv_le_self _ h0
  rw [Int.tdiv_eq_ediv_of_nonneg h0, IntWalk.i64_in _ (by omega), Int.tmod_eq_emod_of_nonneg h2]
  have h4 := Int.emod_nonneg (v / d) (b := m) (by omega)
  have h5 := Int.emod_lt_of_pos (v / d) (b := m) (by omega)
  exact ⟨(v / d % m).toNat, by omega, by omega⟩
theorem quo_rem2 (v d m : Int) (h0 : 0 ≤ v) (h1 : v < 96) (hd : 1 ≤ d) (hm : 1 ≤ m) : ∃ j : Nat, (IntKind.i64.wrap (v.tdiv d)).tmod m = j ∧ v / d % m = j ∧ (j : Int) < m := by
  have h2 : 0 ≤ v / d := Int.ediv_nonneg h0 (by omega)
  have h3 : v / d ≤ v := Int.ediv_le_self _ h0
  rw [Int.tdiv_eq_ediv_of_nonneg h0, IntWalk.i64_in _ (by omega), Int.tmod_eq_emod_of_nonneg h2]
  have h4 := Int.emod_nonneg (v / d) (b := m) (by omega)
  have h5 := Int.emod_lt_of_pos (v / d) (b := m) (by omega)
  exact ⟨(v / d % m).toNat, by omega, by omega, by omega⟩
theorem tmsCells_app : ∀ (l : List TM) (m : TM), tmsCells (l ++ [m]) = tmsCells l ++ m.cells
  | [], m => by simp [tmsCells]
  | a :: l, m => by
    have := tmsCells_app l m
    simp only [tmsCells, List.cons_append, List.flatMap_cons] at *
    rw [this, List.append_assoc]
theorem tmsCells_snoc {w : World} {base : Nat} {A A0 : Option Addr} {n c n0 c0 : Nat} {l : List TM} {x se : S} {kd lg : Int} {br : List S}
    (o : Own w base 33 5 (.slice A n c) n (tmsCells l ++ [.string x, .int .i64 kd, .int .i64 lg, .string se, .slice A0 n0 c0])) : Own w base 33 5 (.slice A n c) n (tmsCells (l ++ [⟨⟨x, kd, lg, se, br⟩, A0, n0, c0⟩])) := by
  rw [tmsCells_app]; exact o
def langs8 : List Int := [0, 0, 0, 1, 2, 0, 0, 1]
theorem langs_at (j : Nat) (h : j < 8) : ∃ lg, langs8[j]? = some lg ∧ 0 ≤ lg ∧ lg ≤ 3 := by
  have : ∀ k : Fin 8, ∃ lg, langs8[k.val]? = some lg ∧ 0 ≤ lg ∧ lg ≤ 3 := by
    intro k
    have hk : k.val < langs8.length := k.isLt
    refine ⟨langs8[k.val], List.getElem?_eq_getElem hk, ?_⟩
    have : ∀ x ∈ langs8, 0 ≤ x ∧ x ≤ 3 := by decide
    exact this _ (List.getElem_mem hk)
  exact this ⟨j, h⟩
theorem langs_idx (j : Nat) (lg : Int) (h : langs8[j]? = some lg) (hj : j < ([.int .i64 0, .int .i64 0, .int .i64 0, .int .i64 1, .int .i64 2, .int .i64 0, .int .i64 0, .int .i64 1] : List Value).length) :
    ([.int .i64 0, .int .i64 0, .int .i64 0, .int .i64 1, .int .i64 2, .int .i64 0, .int .i64 0, .int .i64 1] : List Value)[j]'hj = .int .i64 lg := by
  have e : ([.int .i64 0, .int .i64 0, .int .i64 0, .int .i64 1, .int .i64 2, .int .i64 0, .int .i64 0, .int .i64 1] : List Value) = langs8.map (Value.int .i64) := rfl
  have : ([.int .i64 0, .int .i64 0, .int .i64 0, .int .i64 1, .int .i64 2, .int .i64 0, .int .i64 0, .int .i64 1] : List Value)[j]? = some (.int .i64 lg) := by rw [e, List.getElem?_map, h]; rfl
  rw [List.getElem?_eq_getElem hj] at this
  injection this
/-- a term that is being made, in block tb -/
structure TB (w : World) (tb : Nat) (x : S) (kd lg : Int) (se : S) (A : Option Addr) (n c : Nat) : Prop where
  t0 : w.cell? ⟨tb, 0, none⟩ = some (.string x)
  t1 : w.cell? ⟨tb, 1, none⟩ = some (.int .i64 kd)
  t2 : w.cell? ⟨tb, 2, none⟩ = some (.int .i64 lg)
  t3 : w.cell? ⟨tb, 3, none⟩ = some (.string se)
  t4 : w.cell? ⟨tb, 4, none⟩ = some (.slice A n c)
  fr : ∀ j, w.frozen? ⟨tb, j, none⟩ = false
  lt : tb < w.heap.size
theorem tb_new (w : World) {wz : World} {b : Nat} {x se : S} {kd lg : Int} {A : Option Addr} {n c : Nat} {t : TypeId} (hb : b = w.heap.size)
    (hz : Below (w.alloc (.cells #[.string x, .int .i64 kd, .int .i64 lg, .string se, .slice A n c] t)).heap.size (w.alloc (.cells #[.string x, .int .i64 kd, .int .i64 lg, .string se, .slice A n c] t)) wz) : TB wz b x kd lg se A n c := by
  subst hb
  have h := fun j => hz.cell (p := ⟨w.heap.size, j, none⟩) (by simp)
  have hf := fun j => hz.frozen (p := ⟨w.heap.size, j, none⟩) (by simp)
  refine ⟨(h 0).trans ?_, (h 1).trans ?_, (h 2).trans ?_, (h 3).trans ?_, (h 4).trans ?_, fun j => (hf j).trans (by simp), Nat.lt_of_lt_of_le (by simp) hz.size⟩
  all_goals rw [cell_of_row _ _ _ _ _ _ (heap_alloc_new _ _)]; rfl
section
variable {w w' : World} {tb : Nat} {x se : S} {kd lg : Int} {A : Option Addr} {n c : Nat}
theorem TB.grown (h : TB w tb x kd lg se A n c) {row : Option Nat} (hg : w.grownBy w' row) (hr : some tb ≠ row) : TB w' tb x kd lg se A n c :=
  ⟨hg.cell h.t0 hr, hg.cell h.t1 hr, hg.cell h.t2 hr, hg.cell h.t3 hr, hg.cell h.t4 hr, fun j => (World.frozen?_of_block (hg.block tb h.lt hr)).trans (h.fr j), Nat.lt_of_lt_of_le h.lt hg.size⟩
theorem TB.below (h : TB w tb x kd lg se A n c) (hb : Below w.heap.size w w') : TB w' tb x kd lg se A n c :=
  h.grown (row := none) ⟨hb.os, hb.tape, hb.output, hb.size, fun k hk _ => hb.block k hk⟩ (by simp)
theorem tb_other {j k : Nat} {v : Value} (hne : j ≠ k) : (w.setCell ⟨tb, j, none⟩ v).cell? ⟨tb, k, none⟩ = w.cell? ⟨tb, k, none⟩ := by
  have hq : (⟨tb, j, none⟩ : Addr) ≠ ⟨tb, k, none⟩ := fun e => by injection e with _ e1; exact hne e1
  exact World.cell?_setCell_other _ _ _ _ hq
theorem TB.see (h : TB w tb x kd lg se A n c) (s : S) : TB (w.setCell ⟨tb, 3, none⟩ (.string s)) tb x kd lg s A n c :=
  ⟨(tb_other (by omega)).trans h.t0, (tb_other (by omega)).trans h.t1, (tb_other (by omega)).trans h.t2, World.cell?_setCell_same _ _ _ h.t3, (tb_other (by omega)).trans h.t4, fun j => by rw [World.frozen?_setCell]; exact h.fr j, by simpa using h.lt⟩
theorem TB.broad (h : TB w tb x kd lg se A n c) (A' : Option Addr) (n' c' : Nat) : TB (w.setCell ⟨tb, 4, none⟩ (.slice A' n' c')) tb x kd lg se A' n' c' :=
  ⟨(tb_other (by omega)).trans h.t0, (tb_other (by omega)).trans h.t1, (tb_other (by omega)).trans h.t2, (tb_other (by omega)).trans h.t3, World.cell?_setCell_same _ _ _ h.t4, fun j => by rw [World.frozen?_setCell]; exact h.fr j, by simpa using h.lt⟩
theorem gsetV (w : World) (b i : Nat) (v : Value) : w.grownBy (w.setCell ⟨b, i, none⟩ v) (some b) :=
  ⟨rfl, rfl, rfl, by simp [World.setCell], fun k _ hk => Below.heap_setCell _ _ _ _ (fun e => hk (by simp [e]))⟩
end
theorem TInv.push {wz w8 : World} {o p o' : Option Nat} {ms : List TM} {m0 : TM} {obj : Obj} (h : TInv wz o p ms) (h0 : m0.ok wz) (hs : ∀ b off, m0.A = some ⟨b, off, none⟩ → b < wz.heap.size ∧ o ≠ some b ∧ p ≠ some b)
    (g8 : (wz.alloc obj).grownBy w8 o) (e8 : o' = o ∨ o' = some (wz.alloc obj).heap.size) : TInv w8 o' p (ms ++ [m0]) := by
  have h1 : TInv wz o p (ms ++ [m0]) := fun m hm => by
    rcases List.mem_append.1 hm with hm | hm
    · exact h m hm
    · simp at hm; subst hm; exact ⟨h0, hs⟩
  have h2 : TInv (wz.alloc obj) o p (ms ++ [m0]) := h1.below (brefl.al obj)
  have h3 : TInv w8 o p (ms ++ [m0]) := h2.grown g8 (fun m hm b off e => ((h2 m hm).2 b off e).2.1)
  have h4 := h2.rows (o' := o') (p' := p) (by rcases e8 with e8 | e8; exact .inl e8; exact .inr ⟨_, e8, Nat.le_refl _⟩) (.inl rfl)
  exact fun m hm => ⟨(h3 m hm).1, fun b off e => ⟨((h3 m hm).2 b off e).1, ((h4 m hm).2 b off e).2⟩⟩
theorem TInv.pref {wz w8 : World} {o p p' : Option Nat} {ms : List TM} {obj : Obj} (h : TInv wz o p ms)
    (g8 : (wz.alloc obj).grownBy w8 p) (e8 : p' = p ∨ p' = some (wz.alloc obj).heap.size) : TInv w8 o p' ms := by
  have h2 : TInv (wz.alloc obj) o p ms := h.below (brefl.al obj)
  have h3 : TInv w8 o p ms := h2.grown g8 (fun m hm b off e => ((h2 m hm).2 b off e).2.2)
  have h4 := h2.rows (o' := o) (p' := p') (.inl rfl) (by rcases e8 with e8 | e8; exact .inl e8; exact .inr ⟨_, e8, Nat.le_refl _⟩)
  exact fun m hm => ⟨(h3 m hm).1, fun b off e => ⟨((h3 m hm).2 b off e).1, ((h4 m hm).2 b off e).2⟩⟩
theorem own_apart {o p : Option Nat} (h : ∀ k, o = some k → p ≠ some k) : p = none ∨ p ≠ o := by
  cases p with
  | none => exact .inl rfl
  | some k => exact .inr fun e => h k e.symm rfl
theorem Rds.new5 (w : World) {b : Nat} (hb : b = w.heap.size) (u1 u2 u3 u4 u5 : Value) (t : TypeId) : Rds (w.alloc (.cells #[u1, u2, u3, u4, u5] t)) (some ⟨b, 0, none⟩) [u1, u2, u3, u4, u5] := fun _ =>
  ⟨w.heap.size, 0, by rw [hb], by simp, fun j v hv => by
    rw [Nat.zero_add, cell_of_row _ _ j #[u1, u2, u3, u4, u5] t (0, 0) (heap_alloc_new w _)]
    simpa using hv⟩
set_option maxRecDepth 20000 in
set_option maxHeartbeats 8000000 in
theorem terms_any (A : Option Addr) (n c : Nat) (l : List Int) (w : World) (hl : Ints w A n l) :
    Calls Tryz.prog 42 #[.slice A n c] w fun e w' => ∃ A' k c' ms, e = .returned (.slice A' k c') ∧ k ≤ c' ∧ k ≤ 8 ∧ Tms w' A' k ms ∧ Made ms ∧ Below w.heap.size w w' := by
  go_enter Tryz.func42, Tryz.ntmps42
  go_wp2_with (go_at_call 32; refine (list_any _).mono ?_; rintro e w2 ⟨rfl, hs2, hb2⟩)
  obtain ⟨wo, hwo⟩ : ∃ wo : World, wo = w2 := ⟨_, rfl⟩
  subst hwo
  go_loopw [4, 5, 6] (fun o p ii wr => ∃ (i m1 c1 m2 c2 : Nat) (A1 A2 : Option Addr) (ms : List TM) (pr : List S), i ≤ 8 ∧ ii = .int .i64 i ∧ o = .slice A1 m1 c1 ∧ p = .slice A2 m2 c2 ∧ m1 ≤ c1 ∧ m1 ≤ i ∧ m2 ≤ c2 ∧ m2 ≤ i ∧
      Own wr wo.heap.size 33 5 (.slice A1 m1 c1) m1 (tmsCells ms) ∧ Own wr wo.heap.size 9 1 (.slice A2 m2 c2) m2 (pr.map Value.string) ∧ (∀ k, (Value.slice A1 m1 c1).ownBlock = some k → (Value.slice A2 m2 c2).ownBlock ≠ some k) ∧
      TInv wr (Value.slice A1 m1 c1).ownBlock (Value.slice A2 m2 c2).ownBlock ms ∧ (∀ s ∈ pr, s.size ≤ maxLen) ∧ Below w.heap.size w wr ∧ Below wo.heap.size wo wr ∧ Hid (GI names8 i (terms ms) pr)) (fun _ _ ii _ => 8 - (intOf ii).toNat)
  case atStart => exact ⟨0, 0, 0, 0, 0, none, none, [], [], by omega, rfl, rfl, rfl, by omega, by omega, by omega, by omega, Own.nil _ _ _ (Nat.le_refl _), Own.nil _ _ _ (Nat.le_refl _), (fun k h => by cases h), (fun m h => by cases h), (fun s h => by cases h), hb2, brefl, GI.start _⟩
  case round =>
    obtain ⟨i, m1, c1, m2, c2, A1, A2, ms, pr, hi, rfl, rfl, rfl, hc1, hm1, hc2, hm2, ho, hp, hop, hti, hpr, hbl, hbo, hGI⟩ := hrel
    by_cases hlt : i < 8
    · obtain ⟨b, off, x, hA, hx, hxs, hb0, hcx⟩ := (hs2.below hbo).at_ hlt
      injection hA with hA
      injection hA with hA1 hA2
      subst hA1; subst hA2
      have HX := Lib.hid hx
      clear hx
      go_wp2_with (go_at_call 56; refine (at_any _ _ _ _ _ _ _ (by omega) (by omega) (hl.below hbl)).mono ?_; rintro e w4 ⟨⟨v7, rfl, v70, v71⟩, rfl⟩)
      · go_roundw
        case rel => exact ⟨i + 1, m1, c1, m2, c2, A1, A2, ms, pr, by omega, by go_num, rfl, rfl, hc1, by omega, hc2, by omega, ho, hp, hop, hti, hpr, hbl, hbo, hGI.out.skip⟩
        case measure => simp [intOf]; omega
      · have hcx0 : wr.cell? ⟨w.heap.size, i, none⟩ = some (.string x) := by simpa using hcx
        obtain ⟨j, hj, hj8⟩ := quo_rem v7 12 8 v70 v71 (by omega) (by omega)
        obtain ⟨kd, hkd, hkd3⟩ := quo_rem v7 4 3 v70 v71 (by omega) (by omega)
        have hj9 : j < 8 := by omega
        have hij : (i : Int) < 8 := by omega
        obtain ⟨lg, hlg, hlg0⟩ := langs_at j hj9
        clear hcx hb0
        have hb5 : Below wr.heap.size wr wr.drew := brefl.drn 1
        have hcells : ∀ wz, Below wr.drew.heap.size wr.drew wz → wz.cell? ⟨w.heap.size, i, none⟩ = some (.string x) := fun wz hz => (hz.cell (p := ⟨w.heap.size, i, none⟩) (World.block_lt_of_cell? _ _ hcx0)).trans hcx0
        have hidx : ([.int .i64 0, .int .i64 0, .int .i64 0, .int .i64 1, .int .i64 2, .int .i64 0, .int .i64 0, .int .i64 1] : List Value)[j]'(by simpa using hj9) = .int .i64 lg := langs_idx j lg hlg _
        have h43 : (v7 % 4 == 3) = false := by first | assumption | (simp; assumption) | (simp; omega)
        rw [h43]
        refine region_split fun T R hT hR => ?_
        have REST : ∀ (z29 z31 z33 z35 : Value) (tb : Nat) (w9 : World), TB w9 tb x kd lg ⟨#[]⟩ none 0 0 → Below wr.heap.size wr w9 → wr.heap.size ≤ tb →
            R .normal { tmps := (((((((((((((((T.setIfInBounds 24 (.slice (some ⟨w.heap.size, 0, none⟩) 8 8)).setIfInBounds 25 (.int .i64 i)).setIfInBounds 26 (.pointer (some ⟨w.heap.size, i, none⟩))).setIfInBounds 27 (.string x)).setIfInBounds 28 (.int .i64 v7)).setIfInBounds 29 z29).setIfInBounds 30 (.int .i64 kd)).setIfInBounds 31 z31).setIfInBounds 32 (.int .i64 v7)).setIfInBounds 33 z33).setIfInBounds 34 (.int .i64 j)).setIfInBounds 35 z35).setIfInBounds 36 (.int .i64 lg)).setIfInBounds 37 (.agg #[.string x, .int .i64 kd, .int .i64 lg, .string ⟨#[]⟩, .slice none 0 0])).setIfInBounds 8 (.pointer (some ⟨tb, 0, none⟩))), defers := [] } w9 := by
          intro z29 z31 z33 z35 tb w9 hTB hb9 htb
          subst hR
          subst hT
          simp only [List.setIfInBounds_toArray, List.set_cons_succ, List.set_cons_zero]
          clear hcells hj hkd hb5 hcx0
          have ho9 := ho.below hb9
          have hp9 := hp.below hb9
          have hti9 := hti.below hb9
          have hbl9 := hbl.tr hb9
          have hbo9 := hbo.tr hb9
          have hlo := ho.lt
          have hlp := hp.lt
          have hsw := hbo.size
          have hs3 := hb2.size
          by_cases hm20 : 1 ≤ m2
          · have hst9 := Strs.own hp9 rfl hpr
            have hm21 : (0 : Int) < m2 := by omega
            have hm22 : 0 < m2 := by omega
            have hm23 : (m2 : Int) ≠ 0 := by omega
            have hneo : (Value.slice A1 m1 c1).ownBlock ≠ some tb := fun e => by have := hlo tb e; omega
            have hgs := fun s => gsetV w9 tb 3 (.string s)
            have hbZ0 := fun s => hbl9.st (p := ⟨tb, 3, none⟩) (by show w.heap.size ≤ tb; have := hbl.size; omega) (.string s)
            have hboZ0 := fun s => hbo9.st (p := ⟨tb, 3, none⟩) (by show wo.heap.size ≤ tb; omega) (.string s)
            have hopZ := hop
            go_wp2_with (first
              | (go_at_call 56; refine (at_any _ _ _ _ _ _ _ (by omega) (by omega) (hl.below hbl9)).mono ?_; rintro e w4 ⟨⟨v9, rfl, v90, v91⟩, rfl⟩; obtain ⟨j2, hj2, hj2', hj2m⟩ := quo_rem2 v9 4 m2 v90 (by omega) (by omega) (by omega); have hj2n : j2 < m2 := (by omega); obtain ⟨bp, offp, y, rfl, hy, hys, hbp, hcy⟩ := hst9.at_ (k := j2) (by omega); have z4 := hTB.t3; have z5 := hTB.fr 3; have hTZ := hTB.see y; have y0 := hTZ.t0; have y1 := hTZ.t1; have y2 := hTZ.t2; have y3 := hTZ.t3; have y4 := hTZ.t4; have hnep : (Value.slice (some ⟨bp, offp, none⟩) m2 c2).ownBlock ≠ some tb := (fun e => by have := hlp tb e; omega); have hoZ := ho9.kept (hgs y) (.inr hneo); have hpZ := hp9.kept (hgs y) (.inr hnep); have htiZ := hti9.grown (hgs y) (fun m hm b off e he => by injection he with he; have := ((hti m hm).2 b off e).1; omega); have hbZ := hbZ0 y; have hboZ := hboZ0 y)
              | (at_builtin; go_must (refine wpList_app _ termsT rfl (.tmp 97) (.tmp 99) rfl (hoZ.alloc _) rfl rfl (news := [.string x, .int .i64 kd, .int .i64 lg, .string y, .slice none 0 0]) rfl (Rds.new5 (w9.setCell ⟨tb, 3, none⟩ (.string y)) (by first | rfl | simp) _ _ _ _ _ 33) (by simp [Value.oneCell']) ?_ ?_ ?_; (focus omega); (focus omega); intro A8 c8 w8 o8 n8 g8 e8))
              )
            · have hok0 : TM.ok (w9.setCell ⟨tb, 3, none⟩ (.string y)) ⟨⟨x, kd, lg, y, []⟩, none, 0, 0⟩ := ⟨hxs, hys, by unfold i64ok; dsimp only; omega, by unfold i64ok; dsimp only; omega, by dsimp only; omega, by dsimp only; omega, Strs.nil _⟩
              have hb8 := (hbZ.al (.cells #[.string x, .int .i64 kd, .int .i64 lg, .string y, .slice none 0 0] 33)).gr g8 (fun k e => Nat.le_trans hs3 (hoZ.row k e))
              have hbo8 := (hboZ.al (.cells #[.string x, .int .i64 kd, .int .i64 lg, .string y, .slice none 0 0] 33)).gr g8 hoZ.row
              have hp8 := (hpZ.alloc (.cells #[.string x, .int .i64 kd, .int .i64 lg, .string y, .slice none 0 0] 33)).kept g8 (own_apart hopZ)
              have hti8 := htiZ.push hok0 (fun b off e => by cases e) g8 e8
              have hop8 : ∀ q, (Value.slice A8 (m1 + 1) c8).ownBlock = some q → (Value.slice (some ⟨bp, offp, none⟩) m2 c2).ownBlock ≠ some q := fun q e hk => by
                rcases e8 with e8 | e8
                · exact hopZ q (by rw [← e8]; exact e) hk
                · rw [e8] at e
                  injection e with e
                  have := hpZ.lt q hk
                  rw [World.size_alloc] at e; omega
              exact ⟨⟨i + 1, m1 + 1, c8, m2, c2, A8, _, _, pr, by omega, by go_num, rfl, rfl, n8, by omega, hc2, by omega, tmsCells_snoc o8, hp8, hop8, hti8, hpr, hb8, hbo8, terms_snoc (hGI.out.add names8_sorted HX.out ⟨x, kd, lg, y, []⟩ rfl ⟨by dsimp only; omega, by dsimp only; omega, by dsimp only; omega, by dsimp only; omega, Nat.zero_le _⟩ (.inr ⟨rfl, List.mem_of_getElem? hy⟩) ⟨List.Pairwise.nil, fun b h => by cases h⟩)⟩, by simp [intOf]; omega⟩
            · generalize (some (⟨bp, offp, none⟩ : Addr)) = A2 at ho hp hop hti hp9 hti9 hlp hst9 hopZ ⊢
              generalize Value.int .i64 (v9 % 4) = z47
              generalize Value.bool (v9 % 4 == 0) = z48
              obtain ⟨wv, hwv⟩ : ∃ wv : World, wv = wr := ⟨_, rfl⟩
              subst hwv
              go_loopw [10] (fun kk wz => ∃ (k n5 c5 : Nat) (A5 : Option Addr) (bl : List S), k ≤ m2 ∧ kk = .int .i64 k ∧ n5 ≤ c5 ∧ n5 ≤ 8 ∧ TB wz tb x kd lg ⟨#[]⟩ A5 n5 c5 ∧ Own wz w9.heap.size 9 1 (.slice A5 n5 c5) n5 (bl.map Value.string) ∧ (∀ s ∈ bl, s.size ≤ maxLen) ∧ Below wv.heap.size wv wz ∧ Hid (BI pr k bl)) (fun kk _ => m2 - (intOf kk).toNat)
              case atStart => exact ⟨0, 0, 0, none, [], by omega, rfl, by omega, by omega, hTB, Own.nil _ _ _ (Nat.le_refl _), (fun s h => by cases h), hb9, BI.start _⟩
              case round =>
                obtain ⟨k, n5, c5, A5, bl, hk, rfl, hc5, hn5, hT5, ho5, hbs, hb5, hBI⟩ := hrel
                have y4 := hT5.t4
                by_cases hlt : k < m2
                · obtain ⟨bp, offp, y, hA2, hy, hys, hbp, hcy0⟩ := (Strs.own hp rfl hpr).at_ (k := k) hlt
                  cases hA2
                  have hcy := (hb5.cell (p := ⟨bp, offp + k, none⟩) hbp).trans hcy0
                  have hkm : (k : Int) < m2 := by omega
                  have hrt : some tb ≠ (Value.slice A5 n5 c5).ownBlock := fun e => by have := ho5.row tb e.symm; have := hTB.lt; omega
                  have hrb : some bp ≠ (Value.slice A5 n5 c5).ownBlock := fun e => by have := ho5.row bp e.symm; have := hb9.size; omega
                  have hcl : ∀ wq, wr.grownBy wq (Value.slice A5 n5 c5).ownBlock → wq.cell? ⟨tb, 4, none⟩ = some (.slice A5 n5 c5) ∧ wq.cell? ⟨bp, offp + k, none⟩ = some (.string y) := fun wq hg => ⟨hg.cell y4 hrt, hg.cell hcy hrb⟩
                  have hrow5 := ho5.row
                  have hb9s := hb9.size
                  have HBP := Lib.hid (hBI.out.push hGI.out.prs hy)
                  clear hcy0 hcy hy
                  have hb17 : Below wr.heap.size wr wr.drew := brefl.drn 1
                  have hbr17 : Below wv.heap.size wv wr.drew := hb5.drn 1
                  have ho17 := ho5.drew
                  have hS := hcl _ (grown_of hb17 _)
                  go_wp2
                  · skip
                    refine wp_region_mix [(true, 0), (true, 1), (true, 2), (true, 3), (true, 4), (true, 5), (false, 6), (false, 7), (true, 8), (false, 9)] 9 (fun wq => wq.cell? ⟨tb, 4, none⟩ = some (.slice A5 n5 c5) ∧ wq.cell? ⟨bp, offp + k, none⟩ = some (.string y)) (by kernel_rfl) (by kernel_rfl) ?_
                    generalize wr.drew = wy at hb17 hbr17 ho17 hS ⊢
                    refine wpMix_put (v := ?_) rfl rfl (Or.inl ⟨by rfl, fun wz hz => ?_⟩) hS ?_
                    rotate_left
                    (focus (go_simp; try (with_reducible rfl)))
                    simp only [List.setIfInBounds_toArray, List.set_cons_succ, List.set_cons_zero]
                    refine wpMix_put (v := ?_) rfl rfl (Or.inl ⟨by rfl, fun wz hz => ?_⟩) hS ?_
                    rotate_left
                    (focus (go_simp; try (with_reducible rfl)))
                    simp only [List.setIfInBounds_toArray, List.set_cons_succ, List.set_cons_zero]
                    refine wpMix_put (v := ?_) rfl rfl (Or.inl ⟨by rfl, fun wz hz => ?_⟩) hS ?_
                    rotate_left
                    (focus (go_simp; try (with_reducible rfl)))
                    simp only [List.setIfInBounds_toArray, List.set_cons_succ, List.set_cons_zero]
                    refine wpMix_put (v := ?_) rfl rfl (Or.inl ⟨by rfl, fun wz hz => ?_⟩) hS ?_
                    rotate_left
                    (focus (go_simp; try (with_reducible rfl)))
                    simp only [List.setIfInBounds_toArray, List.set_cons_succ, List.set_cons_zero]
                    refine wpMix_put (v := ?_) rfl rfl (Or.inl ⟨by rfl, fun wz hz => ?_⟩) hS ?_
                    rotate_left
                    (focus (go_simp; try (with_reducible rfl)))
                    simp only [List.setIfInBounds_toArray, List.set_cons_succ, List.set_cons_zero]
                    refine wpMix_put (v := ?_) rfl rfl (Or.inl ⟨by rfl, fun wz hz => ?_⟩) hS ?_
                    rotate_left
                    (focus (go_simp; try (with_reducible rfl)))
                    simp only [List.setIfInBounds_toArray, List.set_cons_succ, List.set_cons_zero]
                    refine wpMix_step rfl (fun K hK => ?_)
                    go_simp
                    have hS7 := hcl _ (grown_of (hb17.al (.cells #[.string y] 9)) _)
                    refine hK _ _ (fun _ => hS7) ?_
                    clear hK K hS
                    have hS := hS7
                    clear hS7
                    refine wpMix_step rfl (fun K hK => ?_)
                    refine step_app _ stringsT rfl (.tmp 84) (.tmp 89) rfl (ho17.alloc _) rfl rfl (news := [.string y]) rfl (Rds.one wy (.string y) 9) (by simp [Value.oneCell']) ?_ ?_ ?_
                    · omega
                    · omega
                    intro A4 c4 w4 o4 n4 g4 _
                    go_simp
                    have hg4 := (grown_of (hb17.al (.cells #[.string y] 9)) _).trans g4
                    have hbr4 := (hbr17.al (.cells #[.string y] 9)).gr g4 (fun k e => Nat.le_trans hb9s (hrow5 k e))
                    have hT4 := hT5.grown hg4 hrt
                    have z4 := hT4.fr 4
                    have hS7 := hcl _ hg4
                    refine hK _ _ (fun _ => hS7) ?_
                    clear hK K hS
                    have hS := hS7
                    clear hS7
                    refine wpMix_put (v := ?_) rfl rfl (Or.inl ⟨by rfl, fun wz hz => ?_⟩) hS ?_
                    rotate_left
                    (focus (go_simp; try (with_reducible rfl)))
                    simp only [List.setIfInBounds_toArray, List.set_cons_succ, List.set_cons_zero]
                    refine wpMix_step rfl (fun K hK => ?_)
                    go_simp
                    refine hK _ _ (fun h => absurd rfl h) ?_
                    clear hK K
                    refine wpMix_nil ?_
                    have hrow4 := o4.row
                    have hT6 := hT4.broad A4 (n5 + 1) c4
                    have hr4 : (Value.slice A4 (n5 + 1) c4).ownBlock ≠ some tb := fun e => by have := hrow4 tb e; have := hTB.lt; omega
                    have o6 := o4.kept (gsetV w4 tb 4 (.slice A4 (n5 + 1) c4)) (.inr hr4)
                    have hb6 := hbr4.st (p := ⟨tb, 4, none⟩) htb (.slice A4 (n5 + 1) c4)
                    go_wp2
                    go_roundw
                    case rel => exact ⟨k + 1, n5 + 1, c4, A4, bl ++ [y], by omega, by go_num, n4, by omega, hT6, by rw [List.map_append]; exact o6, (fun s h => by rcases List.mem_append.1 h with h | h; exact hbs s h; (simp at h; subst h; exact hys)), hb6, HBP.out⟩
                    case measure => simp [intOf]; omega
                  · go_roundw
                    case rel => exact ⟨k + 1, n5, c5, A5, bl, by omega, by go_num, hc5, hn5, hT5, ho5, hbs, hb5, hBI.out.more⟩
                    case measure => simp [intOf]; omega
                  · go_roundw
                    case rel => exact ⟨k + 1, n5, c5, A5, bl, by omega, by go_num, hc5, hn5, hT5, ho5, hbs, hb5, hBI.out.more⟩
                    case measure => simp [intOf]; omega
                  · go_roundw
                    case rel => exact ⟨k + 1, n5, c5, A5, bl, by omega, by go_num, hc5, hn5, hT5, ho5, hbs, hb5, hBI.out.more⟩
                    case measure => simp [intOf]; omega
                · have hkm : k = m2 := by omega
                  subst hkm
                  have hbt : ∀ b off, A5 = some ⟨b, off, none⟩ → b < wr.heap.size ∧ (Value.slice A1 m1 c1).ownBlock ≠ some b ∧ (Value.slice A2 k c2).ownBlock ≠ some b := fun b off e => by
                    subst e
                    have h1 := ho5.lt b rfl
                    have h2 := ho5.row b rfl
                    have h3 := hb9.size
                    exact ⟨h1, fun e => by have := hlo b e; omega, fun e => by have := hlp b e; omega⟩
                  have h25 : (Value.slice A5 n5 c5).ownBlock = none ∨ (Value.slice A5 n5 c5).ownBlock ≠ (Value.slice A2 k c2).ownBlock := own_apart fun r e1 e2 => by
                    have h2 := ho5.row r e2
                    have h3 := hb9.size
                    have := hlp r e1; omega
                  have hn2t : some tb ≠ (Value.slice A2 k c2).ownBlock := fun e => by have := hlp tb e.symm; omega
                  have hoA := ho.below hb5
                  have hpA := hp.below hb5
                  have htiA := hti.below hb5
                  have hblA := hbl.tr hb5
                  have hboA := hbo.tr hb5
                  have y0 := hT5.t0
                  clear hop hti hp9 hti9 hst9 ho hp hTB ho9 hbl9 hbo9
                  go_wp2_with (first
                    | (at_builtin; refine wpList_app _ stringsT rfl (.tmp 92) (.tmp 95) rfl (hpA.alloc _) rfl rfl (news := [.string x]) rfl (Rds.one wr (.string x) 9) (by simp [Value.oneCell']) ?_ ?_ ?_; (focus omega); (focus omega); intro A6 c6 w6 o6 n6 g6 e6; go_must (have hgz := (grown_of (brefl.al (.cells #[.string x] 9)) _).trans g6; have hTZ := hT5.grown hgz hn2t; clear y0; have y0 := hTZ.t0; have y1 := hTZ.t1; have y2 := hTZ.t2; have y3 := hTZ.t3; have y4 := hTZ.t4; have hoZ := hoA.kept hgz (own_apart fun r e1 e2 => hopZ r e2 e1); have htiZ := htiA.pref g6 e6; have hbZ := (hblA.al (.cells #[.string x] 9)).gr g6 (fun r e => Nat.le_trans hs3 (hpA.row r e)); have hboZ := (hboA.al (.cells #[.string x] 9)).gr g6 hpA.row))
                    | (at_builtin; go_must (refine wpList_app _ termsT rfl (.tmp 97) (.tmp 99) rfl (hoZ.alloc _) rfl rfl (news := [.string x, .int .i64 kd, .int .i64 lg, .string ⟨#[]⟩, .slice A5 n5 c5]) rfl (Rds.new5 w6 (by first | rfl | simp) _ _ _ _ _ 33) (by simp [Value.oneCell']) ?_ ?_ ?_; (focus omega); (focus omega); intro A8 c8 w8 o8 n8 g8 e8))
                    )
                  have hbq : ∀ b off, A5 = some ⟨b, off, none⟩ → b < w6.heap.size ∧ (Value.slice A1 m1 c1).ownBlock ≠ some b ∧ (Value.slice A6 (k + 1) c6).ownBlock ≠ some b := fun b off e => by
                    obtain ⟨h1, h2, h3⟩ := hbt b off e
                    refine ⟨Nat.lt_of_lt_of_le h1 hgz.size, h2, fun e' => ?_⟩
                    rcases e6 with e6 | e6
                    · exact h3 (by rw [← e6]; exact e')
                    · rw [e6] at e'
                      injection e' with e'
                      rw [World.size_alloc] at e'; omega
                  replace hopZ : ∀ r, (Value.slice A1 m1 c1).ownBlock = some r → (Value.slice A6 (k + 1) c6).ownBlock ≠ some r := fun r e e' => by
                    rcases e6 with e6 | e6
                    · exact hopZ r e (by rw [← e6]; exact e')
                    · rw [e6] at e'
                      injection e' with e'
                      have := hoA.lt r e
                      rw [World.size_alloc] at e'; omega
                  have hpZ := o6
                  have hok0 : TM.ok w6 ⟨⟨x, kd, lg, ⟨#[]⟩, bl⟩, A5, n5, c5⟩ := ⟨hxs, by show (⟨#[]⟩ : S).size ≤ maxLen; decide, by unfold i64ok; dsimp only; omega, by unfold i64ok; dsimp only; omega, by dsimp only; omega, by dsimp only; omega, (Strs.own (ho5.kept hgz h25) rfl hbs)⟩
                  have hb8 := (hbZ.al (.cells #[.string x, .int .i64 kd, .int .i64 lg, .string ⟨#[]⟩, .slice A5 n5 c5] 33)).gr g8 (fun k e => Nat.le_trans hs3 (hoZ.row k e))
                  have hbo8 := (hboZ.al (.cells #[.string x, .int .i64 kd, .int .i64 lg, .string ⟨#[]⟩, .slice A5 n5 c5] 33)).gr g8 hoZ.row
                  have hp8 := (hpZ.alloc (.cells #[.string x, .int .i64 kd, .int .i64 lg, .string ⟨#[]⟩, .slice A5 n5 c5] 33)).kept g8 (own_apart hopZ)
                  have hti8 := htiZ.push hok0 hbq g8 e8
                  have hop8 : ∀ q, (Value.slice A8 (m1 + 1) c8).ownBlock = some q → (Value.slice A6 (k + 1) c6).ownBlock ≠ some q := fun q e hk => by
                    rcases e8 with e8 | e8
                    · exact hopZ q (by rw [← e8]; exact e) hk
                    · rw [e8] at e
                      injection e with e
                      have := hpZ.lt q hk
                      rw [World.size_alloc] at e; omega
                  exact ⟨⟨i + 1, m1 + 1, c8, k + 1, c6, A8, A6, _, pr ++ [x], by omega, by go_num, rfl, rfl, n8, by omega, n6, by omega, tmsCells_snoc o8, by rw [List.map_append]; exact hp8, hop8, hti8, (fun s h => by rcases List.mem_append.1 h with h | h; exact hpr s h; (simp at h; subst h; exact hxs)), hb8, hbo8, terms_snoc (hGI.out.pref names8_sorted HX.out ⟨x, kd, lg, ⟨#[]⟩, bl⟩ rfl ⟨by dsimp only; omega, by dsimp only; omega, by dsimp only; omega, by dsimp only; omega, by have hbl5 := ho5.1.1; rw [List.length_map] at hbl5; dsimp only; omega⟩ rfl hBI.out.fin)⟩, by simp [intOf]; omega⟩
          · have hopZ := hop
            go_wp2_with (go_at_call 56; refine (at_any _ _ _ _ _ _ _ (by omega) (by omega) (hl.below hbl9)).mono ?_; rintro e w4 ⟨⟨v9, rfl, v90, v91⟩, rfl⟩)
            have hst9 := trivial
            all_goals try (exfalso; omega)
            generalize Value.int .i64 (v9 % 4) = z47
            generalize Value.bool (v9 % 4 == 0) = z48
            obtain ⟨wv, hwv⟩ : ∃ wv : World, wv = wr := ⟨_, rfl⟩
            subst hwv
            go_loopw [10] (fun kk wz => ∃ (k n5 c5 : Nat) (A5 : Option Addr) (bl : List S), k ≤ m2 ∧ kk = .int .i64 k ∧ n5 ≤ c5 ∧ n5 ≤ 8 ∧ TB wz tb x kd lg ⟨#[]⟩ A5 n5 c5 ∧ Own wz w9.heap.size 9 1 (.slice A5 n5 c5) n5 (bl.map Value.string) ∧ (∀ s ∈ bl, s.size ≤ maxLen) ∧ Below wv.heap.size wv wz ∧ Hid (BI pr k bl)) (fun kk _ => m2 - (intOf kk).toNat)
            case atStart => exact ⟨0, 0, 0, none, [], by omega, rfl, by omega, by omega, hTB, Own.nil _ _ _ (Nat.le_refl _), (fun s h => by cases h), hb9, BI.start _⟩
            case round =>
              obtain ⟨k, n5, c5, A5, bl, hk, rfl, hc5, hn5, hT5, ho5, hbs, hb5, hBI⟩ := hrel
              have y4 := hT5.t4
              by_cases hlt : k < m2
              · exact absurd hlt (by omega)
              · have hkm : k = m2 := by omega
                subst hkm
                have hbt : ∀ b off, A5 = some ⟨b, off, none⟩ → b < wr.heap.size ∧ (Value.slice A1 m1 c1).ownBlock ≠ some b ∧ (Value.slice A2 k c2).ownBlock ≠ some b := fun b off e => by
                  subst e
                  have h1 := ho5.lt b rfl
                  have h2 := ho5.row b rfl
                  have h3 := hb9.size
                  exact ⟨h1, fun e => by have := hlo b e; omega, fun e => by have := hlp b e; omega⟩
                have h25 : (Value.slice A5 n5 c5).ownBlock = none ∨ (Value.slice A5 n5 c5).ownBlock ≠ (Value.slice A2 k c2).ownBlock := own_apart fun r e1 e2 => by
                  have h2 := ho5.row r e2
                  have h3 := hb9.size
                  have := hlp r e1; omega
                have hn2t : some tb ≠ (Value.slice A2 k c2).ownBlock := fun e => by have := hlp tb e.symm; omega
                have hoA := ho.below hb5
                have hpA := hp.below hb5
                have htiA := hti.below hb5
                have hblA := hbl.tr hb5
                have hboA := hbo.tr hb5
                have y0 := hT5.t0
                clear hop hti hp9 hti9 hst9 ho hp hTB ho9 hbl9 hbo9
                go_wp2_with (first
                  | (at_builtin; refine wpList_app _ stringsT rfl (.tmp 92) (.tmp 95) rfl (hpA.alloc _) rfl rfl (news := [.string x]) rfl (Rds.one wr (.string x) 9) (by simp [Value.oneCell']) ?_ ?_ ?_; (focus omega); (focus omega); intro A6 c6 w6 o6 n6 g6 e6; go_must (have hgz := (grown_of (brefl.al (.cells #[.string x] 9)) _).trans g6; have hTZ := hT5.grown hgz hn2t; clear y0; have y0 := hTZ.t0; have y1 := hTZ.t1; have y2 := hTZ.t2; have y3 := hTZ.t3; have y4 := hTZ.t4; have hoZ := hoA.kept hgz (own_apart fun r e1 e2 => hopZ r e2 e1); have htiZ := htiA.pref g6 e6; have hbZ := (hblA.al (.cells #[.string x] 9)).gr g6 (fun r e => Nat.le_trans hs3 (hpA.row r e)); have hboZ := (hboA.al (.cells #[.string x] 9)).gr g6 hpA.row))
                  | (at_builtin; go_must (refine wpList_app _ termsT rfl (.tmp 97) (.tmp 99) rfl (hoZ.alloc _) rfl rfl (news := [.string x, .int .i64 kd, .int .i64 lg, .string ⟨#[]⟩, .slice A5 n5 c5]) rfl (Rds.new5 w6 (by first | rfl | simp) _ _ _ _ _ 33) (by simp [Value.oneCell']) ?_ ?_ ?_; (focus omega); (focus omega); intro A8 c8 w8 o8 n8 g8 e8))
                  )
                have hbq : ∀ b off, A5 = some ⟨b, off, none⟩ → b < w6.heap.size ∧ (Value.slice A1 m1 c1).ownBlock ≠ some b ∧ (Value.slice A6 (k + 1) c6).ownBlock ≠ some b := fun b off e => by
                  obtain ⟨h1, h2, h3⟩ := hbt b off e
                  refine ⟨Nat.lt_of_lt_of_le h1 hgz.size, h2, fun e' => ?_⟩
                  rcases e6 with e6 | e6
                  · exact h3 (by rw [← e6]; exact e')
                  · rw [e6] at e'
                    injection e' with e'
                    rw [World.size_alloc] at e'; omega
                replace hopZ : ∀ r, (Value.slice A1 m1 c1).ownBlock = some r → (Value.slice A6 (k + 1) c6).ownBlock ≠ some r := fun r e e' => by
                  rcases e6 with e6 | e6
                  · exact hopZ r e (by rw [← e6]; exact e')
                  · rw [e6] at e'
                    injection e' with e'
                    have := hoA.lt r e
                    rw [World.size_alloc] at e'; omega
                have hpZ := o6
                have hok0 : TM.ok w6 ⟨⟨x, kd, lg, ⟨#[]⟩, bl⟩, A5, n5, c5⟩ := ⟨hxs, by show (⟨#[]⟩ : S).size ≤ maxLen; decide, by unfold i64ok; dsimp only; omega, by unfold i64ok; dsimp only; omega, by dsimp only; omega, by dsimp only; omega, (Strs.own (ho5.kept hgz h25) rfl hbs)⟩
                have hb8 := (hbZ.al (.cells #[.string x, .int .i64 kd, .int .i64 lg, .string ⟨#[]⟩, .slice A5 n5 c5] 33)).gr g8 (fun k e => Nat.le_trans hs3 (hoZ.row k e))
                have hbo8 := (hboZ.al (.cells #[.string x, .int .i64 kd, .int .i64 lg, .string ⟨#[]⟩, .slice A5 n5 c5] 33)).gr g8 hoZ.row
                have hp8 := (hpZ.alloc (.cells #[.string x, .int .i64 kd, .int .i64 lg, .string ⟨#[]⟩, .slice A5 n5 c5] 33)).kept g8 (own_apart hopZ)
                have hti8 := htiZ.push hok0 hbq g8 e8
                have hop8 : ∀ q, (Value.slice A8 (m1 + 1) c8).ownBlock = some q → (Value.slice A6 (k + 1) c6).ownBlock ≠ some q := fun q e hk => by
                  rcases e8 with e8 | e8
                  · exact hopZ q (by rw [← e8]; exact e) hk
                  · rw [e8] at e
                    injection e with e
                    have := hpZ.lt q hk
                    rw [World.size_alloc] at e; omega
                exact ⟨⟨i + 1, m1 + 1, c8, k + 1, c6, A8, A6, _, pr ++ [x], by omega, by go_num, rfl, rfl, n8, by omega, n6, by omega, tmsCells_snoc o8, by rw [List.map_append]; exact hp8, hop8, hti8, (fun s h => by rcases List.mem_append.1 h with h | h; exact hpr s h; (simp at h; subst h; exact hxs)), hb8, hbo8, terms_snoc (hGI.out.pref names8_sorted HX.out ⟨x, kd, lg, ⟨#[]⟩, bl⟩ rfl ⟨by dsimp only; omega, by dsimp only; omega, by dsimp only; omega, by dsimp only; omega, by have hbl5 := ho5.1.1; rw [List.length_map] at hbl5; dsimp only; omega⟩ rfl hBI.out.fin)⟩, by simp [intOf]; omega⟩
        subst hT
        simp only [List.setIfInBounds_toArray, List.set_cons_succ, List.set_cons_zero] at REST
        refine wp_region_plan (.take 0 (.take 1 (.take 2 (.take 3 (.take 4 (.take 5 (.take 6 (.take 8 (.take 9 (.take 10 (.two 7 (.take 11 (.two 12 (.take 13 (.one 14 (.one 15 (.done)))) 14 (.one 12 (.take 13 (.one 15 (.done)))))) 14 (.one 7 (.take 11 (.one 12 (.take 13 (.one 15 (.done))))))))))))))))) 16 (fun wz => wz.cell? ⟨w.heap.size, i, none⟩ = some (.string x)) (by kernel_rfl) (by kernel_rfl) ?_
        generalize wr.drew = w5 at hcells hb5 ⊢
        refine wpPlan_put (v := ?_) rfl rfl (Or.inl ⟨by rfl, fun wz hz => ?_⟩) (hcells _ (by first | exact brefl | exact brefl.al _ | exact (brefl.al _).al _ | exact brefl)) ?_
        rotate_left
        (focus (go_simp; try (with_reducible rfl)))
        simp only [List.setIfInBounds_toArray, List.set_cons_succ, List.set_cons_zero]
        refine wpPlan_put (v := ?_) rfl rfl (Or.inl ⟨by rfl, fun wz hz => ?_⟩) (hcells _ (by first | exact brefl | exact brefl.al _ | exact (brefl.al _).al _ | exact brefl)) ?_
        rotate_left
        (focus (go_simp; try (with_reducible rfl)))
        simp only [List.setIfInBounds_toArray, List.set_cons_succ, List.set_cons_zero]
        refine wpPlan_put (v := ?_) rfl rfl (Or.inl ⟨by rfl, fun wz hz => ?_⟩) (hcells _ (by first | exact brefl | exact brefl.al _ | exact (brefl.al _).al _ | exact brefl)) ?_
        rotate_left
        (focus (go_simp; try (with_reducible rfl)))
        simp only [List.setIfInBounds_toArray, List.set_cons_succ, List.set_cons_zero]
        refine wpPlan_put (v := ?_) rfl rfl (Or.inl ⟨by rfl, fun wz hz => ?_⟩) (hcells _ (by first | exact brefl | exact brefl.al _ | exact (brefl.al _).al _ | exact brefl)) ?_
        rotate_left
        (focus (go_simp; try (with_reducible rfl)))
        simp only [List.setIfInBounds_toArray, List.set_cons_succ, List.set_cons_zero]
        refine wpPlan_put (v := ?_) rfl rfl (Or.inl ⟨by rfl, fun wz hz => ?_⟩) (hcells _ (by first | exact brefl | exact brefl.al _ | exact (brefl.al _).al _ | exact brefl)) ?_
        rotate_left
        (focus (go_simp; try (with_reducible rfl)))
        simp only [List.setIfInBounds_toArray, List.set_cons_succ, List.set_cons_zero]
        refine wpPlan_put (v := ?_) rfl rfl (Or.inl ⟨by rfl, fun wz hz => ?_⟩) (hcells _ (by first | exact brefl | exact brefl.al _ | exact (brefl.al _).al _ | exact brefl)) ?_
        rotate_left
        (focus (go_simp; try (with_reducible rfl)))
        simp only [List.setIfInBounds_toArray, List.set_cons_succ, List.set_cons_zero]
        refine wpPlan_put (v := ?_) rfl rfl (Or.inl ⟨by rfl, fun wz hz => ?_⟩) (hcells _ (by first | exact brefl | exact brefl.al _ | exact (brefl.al _).al _ | exact brefl)) ?_
        rotate_left
        (focus (go_simp; try (with_reducible rfl)))
        simp only [List.setIfInBounds_toArray, List.set_cons_succ, List.set_cons_zero]
        refine wpPlan_put (v := ?_) rfl rfl (Or.inl ⟨by rfl, fun wz hz => ?_⟩) (hcells _ (by first | exact brefl | exact brefl.al _ | exact (brefl.al _).al _ | exact brefl)) ?_
        rotate_left
        (focus (go_simp; try (with_reducible rfl)))
        simp only [List.setIfInBounds_toArray, List.set_cons_succ, List.set_cons_zero]
        refine wpPlan_put (v := ?_) rfl rfl (Or.inl ⟨by rfl, fun wz hz => ?_⟩) (hcells _ (by first | exact brefl | exact brefl.al _ | exact (brefl.al _).al _ | exact brefl)) ?_
        rotate_left
        (focus (go_simp; try (with_reducible rfl)))
        simp only [List.setIfInBounds_toArray, List.set_cons_succ, List.set_cons_zero]
        refine wpPlan_put (v := ?_) rfl rfl (Or.inl ⟨by rfl, fun wz hz => ?_⟩) (hcells _ (by first | exact brefl | exact brefl.al _ | exact (brefl.al _).al _ | exact brefl)) ?_
        rotate_left
        (focus (go_simp; try (with_reducible rfl)))
        simp only [List.setIfInBounds_toArray, List.set_cons_succ, List.set_cons_zero]
        refine wpPlan_two ?_ ?_
        · skip
          refine wpForced_step rfl (fun K hK => ?_)
          go_simp
          refine hK _ _ (fun _ => hcells _ (by first | exact brefl.al _ | exact (brefl.al _).al _)) ?_
          clear hK K
          refine wpPlan_put (v := ?_) rfl rfl (Or.inl ⟨by rfl, fun wz hz => ?_⟩) (hcells _ (by first | exact brefl | exact brefl.al _ | exact (brefl.al _).al _ | exact brefl)) ?_
          rotate_left
          (focus (go_simp; try (with_reducible rfl)))
          simp only [List.setIfInBounds_toArray, List.set_cons_succ, List.set_cons_zero]
          refine wpPlan_two ?_ ?_
          · skip
            refine wpForced_step rfl (fun K hK => ?_)
            go_simp
            refine hK _ _ (fun _ => hcells _ (by first | exact brefl.al _ | exact (brefl.al _).al _)) ?_
            clear hK K
            refine wpPlan_put (v := ?_) rfl rfl (Or.inl ⟨by rfl, fun wz hz => ?_⟩) (hcells _ (by first | exact brefl | exact brefl.al _ | exact (brefl.al _).al _ | exact brefl)) ?_
            rotate_left
            (focus (go_simp; try (with_reducible rfl)))
            simp only [List.setIfInBounds_toArray, List.set_cons_succ, List.set_cons_zero]
            refine wpPlan_one ?_
            refine wpForced_step rfl (fun K hK => ?_)
            go_simp
            refine hK _ _ (fun _ => hcells _ (by first | exact brefl.al _ | exact (brefl.al _).al _  | exact brefl)) ?_
            clear hK K
            refine wpPlan_one ?_
            refine wpForced_step rfl (fun K hK => ?_)
            go_simp
            refine hK _ _ (fun _ => hcells _ (by first | exact (brefl.al _).al _ | exact brefl.al _)) ?_
            clear hK K
            refine wpPlan_nil ?_
            first
              | exact REST _ _ _ _ _ _ (tb_new (w5.alloc (.cells #[.int .i64 0, .int .i64 0, .int .i64 0, .int .i64 1, .int .i64 2, .int .i64 0, .int .i64 0, .int .i64 1] 3)) (by simp) brefl) (hb5.tr ((brefl.al _).al _)) (Nat.le_trans hb5.size (by simp))
              | exact REST _ _ _ _ _ _ (tb_new w5 rfl (brefl.al _)) (hb5.tr ((brefl.al _).al _)) hb5.size
          · skip
            refine wpForced_step rfl (fun K hK => ?_)
            go_simp
            refine hK _ _ (fun _ => hcells _ (by first | exact brefl.al _ | exact (brefl.al _).al _  | exact brefl)) ?_
            clear hK K
            refine wpPlan_one ?_
            refine wpForced_step rfl (fun K hK => ?_)
            go_simp
            refine hK _ _ (fun _ => hcells _ (by first | exact brefl.al _ | exact (brefl.al _).al _)) ?_
            clear hK K
            refine wpPlan_put (v := ?_) rfl rfl (Or.inl ⟨by rfl, fun wz hz => ?_⟩) (hcells _ (by first | exact brefl | exact brefl.al _ | exact (brefl.al _).al _ | exact brefl)) ?_
            rotate_left
            (focus (go_simp; try (with_reducible rfl)))
            simp only [List.setIfInBounds_toArray, List.set_cons_succ, List.set_cons_zero]
            refine wpPlan_one ?_
            refine wpForced_step rfl (fun K hK => ?_)
            go_simp
            refine hK _ _ (fun _ => hcells _ (by first | exact (brefl.al _).al _ | exact brefl.al _)) ?_
            clear hK K
            refine wpPlan_nil ?_
            first
              | exact REST _ _ _ _ _ _ (tb_new (w5.alloc (.cells #[.int .i64 0, .int .i64 0, .int .i64 0, .int .i64 1, .int .i64 2, .int .i64 0, .int .i64 0, .int .i64 1] 3)) (by simp) brefl) (hb5.tr ((brefl.al _).al _)) (Nat.le_trans hb5.size (by simp))
              | exact REST _ _ _ _ _ _ (tb_new w5 rfl (brefl.al _)) (hb5.tr ((brefl.al _).al _)) hb5.size
        · skip
          refine wpForced_step rfl (fun K hK => ?_)
          go_simp
          refine hK _ _ (fun _ => hcells _ (by first | exact brefl.al _ | exact (brefl.al _).al _  | exact brefl)) ?_
          clear hK K
          refine wpPlan_one ?_
          refine wpForced_step rfl (fun K hK => ?_)
          go_simp
          refine hK _ _ (fun _ => hcells _ (by first | exact brefl.al _ | exact (brefl.al _).al _)) ?_
          clear hK K
          refine wpPlan_put (v := ?_) rfl rfl (Or.inl ⟨by rfl, fun wz hz => ?_⟩) (hcells _ (by first | exact brefl | exact brefl.al _ | exact (brefl.al _).al _ | exact brefl)) ?_
          rotate_left
          (focus (go_simp; try (with_reducible rfl)))
          simp only [List.setIfInBounds_toArray, List.set_cons_succ, List.set_cons_zero]
          refine wpPlan_one ?_
          refine wpForced_step rfl (fun K hK => ?_)
          go_simp
          refine hK _ _ (fun _ => hcells _ (by first | exact brefl.al _ | exact (brefl.al _).al _)) ?_
          clear hK K
          refine wpPlan_put (v := ?_) rfl rfl (Or.inl ⟨by rfl, fun wz hz => ?_⟩) (hcells _ (by first | exact brefl | exact brefl.al _ | exact (brefl.al _).al _ | exact brefl)) ?_
          rotate_left
          (focus (go_simp; try (with_reducible rfl)))
          simp only [List.setIfInBounds_toArray, List.set_cons_succ, List.set_cons_zero]
          refine wpPlan_one ?_
          refine wpForced_step rfl (fun K hK => ?_)
          go_simp
          refine hK _ _ (fun _ => hcells _ (by first | exact (brefl.al _).al _ | exact brefl.al _)) ?_
          clear hK K
          refine wpPlan_nil ?_
          first
            | exact REST _ _ _ _ _ _ (tb_new (w5.alloc (.cells #[.int .i64 0, .int .i64 0, .int .i64 0, .int .i64 1, .int .i64 2, .int .i64 0, .int .i64 0, .int .i64 1] 3)) (by simp) brefl) (hb5.tr ((brefl.al _).al _)) (Nat.le_trans hb5.size (by simp))
            | exact REST _ _ _ _ _ _ (tb_new w5 rfl (brefl.al _)) (hb5.tr ((brefl.al _).al _)) hb5.size
    · have hti2 := fun m hm => (hti m hm).1
      go_wp2
      go_ret
      exact ⟨A1, m1, c1, ms, rfl, hc1, by omega, Tms.own ho rfl hti2, ⟨i, pr, hGI.out⟩, hbl⟩
end Go.Proofs.YtdfnfimajhagfaaGreatDoor
