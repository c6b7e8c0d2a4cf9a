/- Walks of strings.Builder as it stands in this program (copyCheck, WriteByte): turned from the kit's own proofs of them over another translation. -/
import Derived.Test.YtdfnfimajhagfaaGreatDoorShelf
import Derived.Lib.Builder
import Derived.Lib.UnsafeStr
import Derived.Laws.Externs
import Derived.Laws.IdiomCopy
import Derived.Test.YtdfnfimajhagfaaGreatDoorT2
import Derived.StillTailTactics
import Derived.BigQuiet
namespace Go.Proofs.YtdfnfimajhagfaaGreatDoor
open Go.RowKit Go.Maps Rf
theorem bSize : (Tryz.prog.info? 123).map (·.size) = some 2 := by kernel_rfl
theorem bLies : liesAt Tryz.prog Tryz.prog.depth 123 (2 / Tryz.prog.cellsOf 123) 0 123 1 = true := by kernel_rfl
set_option maxHeartbeats 1000000 in
set_option maxRecDepth 100000 in
theorem copyCheck_used (b : Nat) (w : World) (h0 : w.cell? ⟨b, 0, none⟩ = some (.pointer (some ⟨b, 0, none⟩))) :
    Calls Tryz.prog 140 #[.pointer (some ⟨b, 0, none⟩)] w fun e w' => e = .returned (.tuple #[]) ∧ w' = w := by
  obtain ⟨j, hj, _⟩ := Option.map_eq_some_iff.1 bSize
  go_enter Tryz.func140, Tryz.ntmps140
  go_wp2
  rw [Lib.run_neq_ptr_same w _ Tryz.underlying121 hj]
  go_wp2
  go_end0
  exact ⟨rfl, rfl⟩
set_option maxHeartbeats 1000000 in
set_option maxRecDepth 100000 in
theorem copyCheck_fresh (b : Nat) (w : World) (h0 : w.cell? ⟨b, 0, none⟩ = some (.pointer none)) (hsh : w.shape? b = some (123, 2)) (hfz : w.frozen? ⟨b, 0, none⟩ = false) :
    Calls Tryz.prog 140 #[.pointer (some ⟨b, 0, none⟩)] w fun e w' => e = .returned (.tuple #[]) ∧ w' = w.setCell ⟨b, 0, none⟩ (.pointer (some ⟨b, 0, none⟩)) := by
  obtain ⟨j, hj, hjs⟩ := Option.map_eq_some_iff.1 bSize
  go_enter Tryz.func140, Tryz.ntmps140
  go_wp2
  rw [Lib.run_to_unsafe w ⟨b, 0, none⟩ Tryz.underlying121 Tryz.underlying202 hj (by rw [hjs]; decide) hsh (Nat.zero_lt_succ 1)]
  simp only [Result.andThen]
  rw [Oper.upon_value]
  go_wp2
  rw [run_callFunc_extern Tryz.func187 (by kernel_rfl) (by kernel_rfl) (by kernel_rfl) (e := Extern.AbiNoEscape.same) (by kernel_rfl)]
  rw [Lib.run_noEscape]
  simp only [Result.andThen]
  rw [Oper.upon_value]
  go_wp2
  rw [Lib.run_from_unsafe w ⟨b, 0, none⟩ Tryz.underlying202 Tryz.underlying121 hj hsh bLies]
  simp only [Result.andThen]
  rw [Oper.upon_value]
  go_wp2
  go_end0
  exact ⟨rfl, rfl⟩
theorem copyCheck_any (B b : Nat) (bs : List Value) (w : World) (h : Lib.IsBuilder 123 5 B b bs w) :
    Calls Tryz.prog 140 #[.pointer (some ⟨b, 0, none⟩)] w fun e w' => e = .returned (.tuple #[]) ∧ (Lib.BuilderAt 123 5 B b (.pointer (some ⟨b, 0, none⟩)) bs w' ∧ Below B w w') := by
  rcases h with h | h
  · refine (copyCheck_fresh b w h.cell0 h.shape h.frozen0).mono ?_
    rintro e w' ⟨rfl, rfl⟩
    exact ⟨rfl, h.used _, (Below.refl B w).setCell (p := ⟨b, 0, none⟩) h.1 _⟩
  · refine (copyCheck_used b w h.cell0).mono ?_
    rintro e w' ⟨rfl, rfl⟩
    exact ⟨rfl, h, Below.refl B _⟩
theorem bytesT : AppT Tryz.prog 70 5 1 1 := AppT.mk Tryz.underlying70 (z := .int .u8 0) (by kernel_rfl) rfl (by omega)
theorem rds_byte (w : World) (v : Value) (t : TypeId) : Rds (w.alloc (.cells #[v] t)) (some ⟨w.heap.size, 0, none⟩) [v] := fun _ =>
  ⟨w.heap.size, 0, rfl, by simp, fun j u hv => by
    match j, hv with
    | 0, hv => simp at hv; subst hv; exact cell_of_row _ _ 0 #[v] t (0, 0) (heap_alloc_new w _)⟩
set_option maxHeartbeats 2000000 in
set_option maxRecDepth 100000 in
theorem writeByte_any (B b : Nat) (bs : List Value) (c : Int) (w : World) (h : Lib.IsBuilder 123 5 B b bs w) (hlen : bs.length + 1 ≤ 1000000000) (hBw : B ≤ w.heap.size) :
    Calls Tryz.prog 101 #[.pointer (some ⟨b, 0, none⟩), .int .u8 c] w fun e w' => e = .returned .nilIface ∧ (Lib.BuilderAt 123 5 B b (.pointer (some ⟨b, 0, none⟩)) (bs ++ [.int .u8 c]) w' ∧ Below B w w') := by
  go_enter Tryz.func101, Tryz.ntmps101
  go_wp2_with (first
    | (go_at_call 140; refine (copyCheck_any B b bs _ h).mono ?_; rintro e w1 ⟨rfl, ⟨hB, v, hbk, hown, hne⟩, hb1⟩; have c0 : w1.cell? ⟨b, 0, none⟩ = some (.pointer (some ⟨b, 0, none⟩)) := by { rw [Lib.cell_of_heap hbk]; rfl }; have c1 : w1.cell? ⟨b, 1, none⟩ = some v := by { rw [Lib.cell_of_heap hbk]; rfl }; have ho : Own w1 B 5 1 v bs.length bs := ⟨hown, by have := hb1.size; omega⟩)
    | (at_builtin; go_loud (refine wpList_app _ bytesT rfl (.tmp 11) (.tmp 13) rfl (ho.alloc _) rfl rfl (news := [.int .u8 c]) rfl (rds_byte w1 _ 5) (by simp [Value.oneCell']) ?_ ?_ ?_; (focus omega); (focus omega); intro A2 c2 w2 o2 n2 g2 _; have hlt : b < w1.heap.size := (show Lib.BuilderAt 123 5 B b (.pointer (some ⟨b, 0, none⟩)) bs w1 from ⟨hB, v, hbk, hown, hne⟩).lt; have hb2 : w2.heap[b]? = some (.cells #[.pointer (some ⟨b, 0, none⟩), v] 123 (0, 0)) := by { rw [g2.block b (by simp; omega) (fun e => hne e.symm), Lib.alloc_old w1 _ b hlt]; exact hbk }; have d0 : w2.cell? ⟨b, 0, none⟩ = some (.pointer (some ⟨b, 0, none⟩)) := by { rw [Lib.cell_of_heap hb2]; rfl }; have d1 : w2.cell? ⟨b, 1, none⟩ = some v := by { rw [Lib.cell_of_heap hb2]; rfl }; have f1 : w2.frozen? ⟨b, 1, none⟩ = false := Lib.frozen_of_heap hb2 1)))
  go_ret
  refine ⟨rfl, ?_, ?_⟩
  · exact Lib.BuilderAt.put (T := 123) (e := 5) hB hb2 (bs' := bs ++ [.int .u8 c]) (by simpa using o2.1) (by decide)
  · exact ((hb1.alloc (by have := hb1.size; omega) _).grown g2 (by have := hb1.size; simp; omega) (fun k hk => (hown.lt k hk).1)).setCell (p := ⟨b, 1, none⟩) hB _
end Go.Proofs.YtdfnfimajhagfaaGreatDoor
/- Walks of package token: Fold, Part. -/
namespace Rf
def foldB (b : UInt8) : UInt8 := if 65 ≤ b.toNat ∧ b.toNat ≤ 90 then b + 32 else b
/-- small letters alone -/
def foldS (s : S) : S := ofB ((byts s).map foldB)
theorem foldB_up {b : UInt8} (h : 65 ≤ b.toNat ∧ b.toNat ≤ 90) : (foldB b).toNat = b.toNat + 32 := by
  unfold foldB; rw [if_pos h, UInt8.toNat_add]
  have : (32 : UInt8).toNat = 32 := rfl
  omega
theorem foldB_same {b : UInt8} (h : ¬ (65 ≤ b.toNat ∧ b.toNat ≤ 90)) : foldB b = b := by unfold foldB; rw [if_neg h]
theorem foldS_size (s : S) : (foldS s).size = s.size := by
  show (((byts s).map foldB).toArray).size = s.data.size
  rw [List.size_toArray, List.length_map]; rfl
theorem toks_in : ∀ (n : Nat) (l : List UInt8) (a : Nat), l.length = n → ∀ t ∈ toks l a, a ≤ t.lo ∧ t.lo < t.hi ∧ t.hi ≤ a + l.length := by
  intro n
  induction n using Nat.strongRecOn with
  | _ n ih =>
    intro l a hl t ht
    cases l with
    | nil => rw [toks_nil] at ht; cases ht
    | cons b l =>
      have hlt : l.length < n := by rw [← hl]; simp
      by_cases hb : b = 32
      · subst hb
        rw [toks_blank] at ht
        have := ih l.length hlt l (a + 1) rfl t ht
        simp; omega
      · rw [toks_more hb] at ht
        have hr := runLen_le (kindB b) l
        rcases List.mem_cons.1 ht with rfl | ht
        · simp; omega
        · have h2 := ih (l.drop (runLen (kindB b) l)).length (by rw [List.length_drop]; omega) _ _ rfl t ht
          rw [List.length_drop] at h2
          simp; omega
theorem toks_ok {s : S} {i : Nat} {t : Tok} (h : (toks (byts s) 0)[i]? = some t) : t.lo < t.hi ∧ t.hi ≤ s.size := by
  have := toks_in _ (byts s) 0 rfl t (List.mem_of_getElem? h)
  have hl : (byts s).length = s.size := by simp [byts]
  omega
end Rf
namespace Go.Proofs.YtdfnfimajhagfaaGreatDoor
open Go.RowKit Go.Maps Rf
def foldCells (l : List UInt8) (i : Nat) : List Value := Lib.byteCells ((l.take i).map foldB)
theorem foldCells_snoc {s : S} {i : Nat} (h : i < s.size) {c : Int} (hc : c = ((foldB s[i]).toNat : Int)) : foldCells (byts s) i ++ [.int .u8 c] = foldCells (byts s) (i + 1) := by
  subst hc
  have hx : (byts s)[i]? = some s[i] := by
    have h' : i < (byts s).length := by simpa [byts] using h
    rw [List.getElem?_eq_getElem h']; congr 1
  unfold foldCells
  rw [take_snoc hx]
  simp [Lib.byteCells]
theorem foldCells_len (l : List UInt8) (i : Nat) : (foldCells l i).length ≤ i := by simp [foldCells, Lib.byteCells]; omega
set_option maxHeartbeats 2000000 in
set_option maxRecDepth 100000 in
theorem fold_any (s : S) (w : World) (hs : s.size ≤ 1000000) :
    Calls Tryz.prog 48 #[.string s] w fun e w' => e = .returned (.string (foldS s)) ∧ Below w.heap.size w w' := by
  go_enter Tryz.func48, Tryz.ntmps48
  go_wp2
  go_loopw [8] (fun t8 wr => ∃ i : Nat, i ≤ s.size ∧ t8 = .int .i64 i ∧ Lib.IsBuilder 123 5 w.heap.size w.heap.size (foldCells (byts s) i) wr ∧ Below w.heap.size w wr) (fun t8 _ => s.size - (intOf t8).toNat)
  case atStart => exact ⟨0, by omega, rfl, Lib.fresh_isBuilder _ _ w, brefl.al _⟩
  case round =>
    obtain ⟨i, hi, rfl, hB, hb⟩ := hrel
    have hsz := hb.size
    by_cases hlt : i < s.size
    · have hlt' : (i : Int) < s.size := by omega
      have hfl := foldCells_len (byts s) i
      by_cases h1 : 65 ≤ s[i].toNat
      · have h1' : (65 : Int) ≤ s[i].toNat := by omega
        by_cases h2 : s[i].toNat ≤ 90
        · have h2' : (s[i].toNat : Int) ≤ 90 := by omega
          have hw := Lib.hid (show ((s[i].toNat : Int) + 32) = ((foldB s[i]).toNat : Int) from by rw [foldB_up ⟨h1, h2⟩]; omega)
          go_wp2_with (go_at_call 101; go_loud (refine (writeByte_any w.heap.size _ _ _ _ hB (by omega) (by omega)).mono ?_; rintro e w1 ⟨rfl, hB1, hb1⟩))
          go_round
          case rel => exact ⟨i + 1, by omega, by go_num, by rw [foldCells_snoc hlt hw.out] at hB1; exact .inr hB1, hb.trans hb1⟩
          case measure => simp [intOf]; omega
        · have h2' : ¬ (s[i].toNat : Int) ≤ 90 := by omega
          have hw := Lib.hid (show (s[i].toNat : Int) = ((foldB s[i]).toNat : Int) from by rw [foldB_same (fun h => h2 h.2)])
          go_wp2_with (go_at_call 101; go_loud (refine (writeByte_any w.heap.size _ _ _ _ hB (by omega) (by omega)).mono ?_; rintro e w1 ⟨rfl, hB1, hb1⟩))
          go_round
          case rel => exact ⟨i + 1, by omega, by go_num, by rw [foldCells_snoc hlt hw.out] at hB1; exact .inr hB1, hb.trans hb1⟩
          case measure => simp [intOf]; omega
      · have h1' : ¬ (65 : Int) ≤ s[i].toNat := by omega
        have hw := Lib.hid (show (s[i].toNat : Int) = ((foldB s[i]).toNat : Int) from by rw [foldB_same (fun h => h1 h.1)])
        go_wp2_with (go_at_call 101; go_loud (refine (writeByte_any w.heap.size _ _ _ _ hB (by omega) (by omega)).mono ?_; rintro e w1 ⟨rfl, hB1, hb1⟩))
        go_round
        case rel => exact ⟨i + 1, by omega, by go_num, by rw [foldCells_snoc hlt hw.out] at hB1; exact .inr hB1, hb.trans hb1⟩
        case measure => simp [intOf]; omega
    · have hlt' : ¬ (i : Int) < s.size := by omega
      have hend := Lib.hid (show foldCells (byts s) i = Lib.byteCells ((byts s).map foldB) from by unfold foldCells; rw [List.take_of_length_le (by simp [byts]; omega)])
      go_wp2_with (go_at_call 102; go_loud (rw [hend.out] at hB; refine (Tryz.Builder_String_any w.heap.size _ _ _ hB (by omega)).mono ?_; rintro e w1 ⟨rfl, hb1⟩))
      go_ret
      exact ⟨rfl, hb.trans hb1⟩
theorem tokCells_get : ∀ (l : List Tok) (k j : Nat), j < 3 → (tokCells l)[k * 3 + j]? = (l[k]?).bind fun r => (tokCell r)[j]?
  | [], k, j, _ => by simp [tokCells]
  | r :: l, 0, j, hj => by
    simp only [tokCells, List.flatMap_cons, Nat.zero_mul, Nat.zero_add, List.getElem?_cons_zero, Option.bind_some]
    rw [List.getElem?_append_left (by simp [tokCell]; exact hj)]
  | r :: l, k + 1, j, hj => by
    have := tokCells_get l k j hj
    simp only [tokCells, List.flatMap_cons, List.getElem?_cons_succ] at *
    rw [List.getElem?_append_right (by simp [tokCell]; omega), ← this]
    congr 1
    simp [tokCell]; omega
theorem tok_at {w : World} {A : Option Addr} {l : List Tok} (h : Rds w A (tokCells l)) {k : Nat} {t : Tok} (he : l[k]? = some t) :
    ∃ b off, A = some ⟨b, off, none⟩ ∧ b < w.heap.size ∧ w.cell? ⟨b, off + k * 3, none⟩ = some (.int .i64 t.lo) ∧ w.cell? ⟨b, off + k * 3 + 1, none⟩ = some (.int .i64 t.hi) ∧ w.cell? ⟨b, off + k * 3 + 2, none⟩ = some (.int .i64 t.kd) := by
  obtain ⟨b, off, hA, hb, hc⟩ := h (by rw [tokCells_len]; have := (List.getElem?_eq_some_iff.1 he).1; omega)
  refine ⟨b, off, hA, hb, ?_, ?_, ?_⟩
  · have := hc (k * 3 + 0) (.int .i64 t.lo) (by rw [tokCells_get l k 0 (by omega), he]; rfl)
    simpa using this
  · have := hc (k * 3 + 1) (.int .i64 t.hi) (by rw [tokCells_get l k 1 (by omega), he]; rfl)
    simpa [Nat.add_assoc] using this
  · have := hc (k * 3 + 2) (.int .i64 t.kd) (by rw [tokCells_get l k 2 (by omega), he]; rfl)
    simpa [Nat.add_assoc] using this
set_option maxHeartbeats 2000000 in
set_option maxRecDepth 100000 in
theorem part_any (s : S) (i : Nat) (t : Tok) (w : World) (hs : s.size ≤ 1000000) (ht : (toks (byts s) 0)[i]? = some t) :
    Calls Tryz.prog 49 #[.string s, .int .i64 i, .int .i64 (i + 1 : Nat)] w fun e w' => e = .returned (.string (s.extract t.lo t.hi)) ∧ Below w.heap.size w w' := by
  have hT := Lib.hid ht
  have hok := toks_ok ht
  have hilt := (List.getElem?_eq_some_iff.1 ht).1
  clear ht
  go_enter Tryz.func49, Tryz.ntmps49
  go_wp2_with (go_at_call 43; go_loud (refine (tsplit_any _ _ hs).mono ?_; rintro e w1 ⟨A, n, c, rfl, hn, hln, ho, hb⟩; rw [hln] at hilt; obtain ⟨b, off, rfl, hb0, c0, c1, c2⟩ := tok_at ho.reads hT.out; have g1 : (t.lo : Int) ≤ t.hi := by { omega }; have g2 : (t.hi : Int) ≤ s.size := by { omega }; have g3 : ¬ ((n : Int) < ((i + 1 : Nat) : Int)) := by { omega }; clear hT))
  go_quiet (fail)
  go_wp2
  go_ret
  exact ⟨rfl, hb.drn _⟩
end Go.Proofs.YtdfnfimajhagfaaGreatDoor
/- Units and folded words of a text, in plain Lean. -/
namespace Rf
/-- how many tokens stand side by side behind one that ends at e -/
def adj : Nat → List Tok → Nat
  | _, [] => 0
  | e, t :: l => if t.lo = e then 1 + adj t.hi l else 0
theorem adj_le : ∀ (e : Nat) (l : List Tok), adj e l ≤ l.length
  | _, [] => Nat.le_refl _
  | e, t :: l => by
    unfold adj
    split
    · have := adj_le t.hi l; simp; omega
    · simp
def unitLen : List Tok → Nat
  | [] => 0
  | t :: l => 1 + adj t.hi l
theorem unitLen_le : ∀ l : List Tok, unitLen l ≤ l.length
  | [] => Nat.le_refl _
  | t :: l => by have := adj_le t.hi l; simp [unitLen]; omega
def plainT (t : Tok) : Bool := t.kd == 0 || t.kd == 2
def eS : S := ⟨#[]⟩
def wordOf (s : S) (p : Bool) (t : Tok) : S := if p = true ∧ t.kd = 0 then foldS (s.extract t.lo t.hi) else eS
theorem wordOf_false (s : S) (t : Tok) : wordOf s false t = eS := by unfold wordOf; rw [if_neg (by rintro ⟨h, _⟩; cases h)]
/-- the folded words of a text, by units -/
def folded (s : S) (l : List Tok) : List S :=
  if _h : l = [] then [] else (l.take (unitLen l)).map (wordOf s ((l.take (unitLen l)).all plainT)) ++ folded s (l.drop (unitLen l))
termination_by l.length
decreasing_by
  cases l with
  | nil => exact absurd rfl _h
  | cons t l => simp [unitLen]; omega
theorem folded_nil (s : S) : folded s [] = [] := by rw [folded, dif_pos rfl]
theorem folded_more (s : S) {l : List Tok} (h : l ≠ []) : folded s l = (l.take (unitLen l)).map (wordOf s ((l.take (unitLen l)).all plainT)) ++ folded s (l.drop (unitLen l)) := by rw [folded, dif_neg h]
theorem folded_len (s : S) : ∀ (n : Nat) (l : List Tok), l.length = n → (folded s l).length = n := by
  intro n
  induction n using Nat.strongRecOn with
  | _ n ih =>
    intro l hl
    cases l with
    | nil => rw [folded_nil]; exact hl
    | cons t l =>
      have hu := unitLen_le (t :: l)
      have h1 : 1 ≤ unitLen (t :: l) := by simp [unitLen]
      rw [folded_more s (by simp), List.length_append, List.length_map, List.length_take, ih _ (by rw [List.length_drop]; omega) _ rfl, List.length_drop]
      omega
theorem take_drop_snoc {l : List Tok} {f k : Nat} {t : Tok} (hk : f ≤ k) (h : l[k]? = some t) : (l.drop f).take (k + 1 - f) = (l.drop f).take (k - f) ++ [t] := by
  rw [show k + 1 - f = k - f + 1 from by omega]
  rw [List.take_add_one, List.getElem?_drop, show f + (k - f) = k from by omega, h]
  rfl
/-- the program's walk through a unit: where it stands -/
def InUnit (l : List Tok) (f k : Nat) : Prop := k = f ∨ ∃ p, l[k - 1]? = some p ∧ f < k ∧ f + unitLen (l.drop f) = k + adj p.hi (l.drop k)
theorem drop_cons' {l : List Tok} {k : Nat} {t : Tok} (h : l[k]? = some t) : l.drop k = t :: l.drop (k + 1) := by
  obtain ⟨h1, h2⟩ := List.getElem?_eq_some_iff.1 h
  rw [List.drop_eq_getElem_cons h1, h2]
theorem InUnit.first {l : List Tok} {f : Nat} {t : Tok} (h : l[f]? = some t) : InUnit l f (f + 1) := .inr ⟨t, by simpa using h, by omega, by rw [drop_cons' h]; simp [unitLen]; omega⟩
theorem InUnit.next {l : List Tok} {f k : Nat} {t p : Tok} (hi : InUnit l f k) (hfk : f < k) (h : l[k]? = some t) (hp : l[k - 1]? = some p) (he : t.lo = p.hi) : InUnit l f (k + 1) := by
  rcases hi with rfl | ⟨q, hq, _, hu⟩
  · omega
  · rw [hp] at hq
    injection hq with hq
    subst hq
    refine .inr ⟨t, by simpa using h, by omega, ?_⟩
    rw [hu, drop_cons' h, adj, if_pos he]
    omega
theorem InUnit.stop {l : List Tok} {f k : Nat} {t p : Tok} (hi : InUnit l f k) (hfk : f < k) (h : l[k]? = some t) (hp : l[k - 1]? = some p) (he : ¬ t.lo = p.hi) : k = f + unitLen (l.drop f) := by
  rcases hi with rfl | ⟨q, hq, _, hu⟩
  · omega
  · rw [hp] at hq
    injection hq with hq
    subst hq
    rw [hu, drop_cons' h, adj, if_neg he]
    omega
theorem InUnit.last {l : List Tok} {f k : Nat} (hi : InUnit l f k) (hf : f < l.length) (hk : l.length ≤ k) : k = f + unitLen (l.drop f) := by
  rcases hi with rfl | ⟨q, hq, _, hu⟩
  · omega
  · rw [hu, List.drop_of_length_le hk]; rfl
end Rf
