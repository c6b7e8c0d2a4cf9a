/- Pairs of names compared; blocks that are known whole; Some; Bent. -/
import Derived.Test.YtdeeflbghhajiaaG2
namespace Go.Proofs.Ytdeeflbghhajiaa
open Go.RowKit Go.Maps Rf
set_option maxRecDepth 20000 in
theorem eqIn_pair (x y x' y' : S) (w : World) : (Op.equalIn 10000 37 (.agg #[.string x, .string y]) (.agg #[.string x', .string y'])).run Try.prog w = .ok (x.toList == x'.toList && y.toList == y'.toList) w := by
  have u3 := Try.underlying9
  have hs : ∀ w, (sizeOf 9).run Try.prog w = .ok 1 w := fun w => by kernel_rfl
  rw [show (10000 : Nat) = 9999 + 1 from rfl, Op.equalIn]
  simp only [Sem.run_bind, run_underlying Try.underlying37, Result.andThen_ok, hs]
  have p0 : ∀ (a b : S) (w : World), (part 9 #[.string a, .string b] 0).run Try.prog w = .ok (.string a) w := fun a b w => by kernel_rfl
  have p1 : ∀ (a b : S) (w : World), (part 9 #[.string a, .string b] 1).run Try.prog w = .ok (.string b) w := fun a b w => by kernel_rfl
  have e : ∀ (a b : S) (w : World), (Op.equalIn 9999 9 (.string a) (.string b)).run Try.prog w = .ok (a.toList == b.toList) w := fun a b w => run_equalIn_string w 9998 9 a b u3
  simp [Std.Legacy.Range.forIn_eq_forIn_range', List.range', p0, p1, e]
  by_cases h1 : x.toList = x'.toList
  · by_cases h2 : y.toList = y'.toList <;> simp [h1, h2]
  · simp [h1]
theorem neq_pair (x y x' y' : S) (w : World) : Sem.run Try.prog (binOp .neq 37 (.agg #[.string x, .string y]) (.agg #[.string x', .string y'])) w = .ok (.bool !(x.toList == x'.toList && y.toList == y'.toList)) w := by
  rw [run_neq_struct, eqIn_pair]; rfl
theorem eql_pair (x y x' y' : S) (w : World) : Sem.run Try.prog (binOp .eql 37 (.agg #[.string x, .string y]) (.agg #[.string x', .string y'])) w = .ok (.bool (x.toList == x'.toList && y.toList == y'.toList)) w := by
  rw [run_eql_struct, eqIn_pair]; rfl
/-- a block that is known whole, as a source -/
theorem Rds.lit (w : World) (u : Array Value) (t : TypeId) : Rds (w.alloc (.cells u t)) (some ⟨w.heap.size, 0, none⟩) u.toList := fun _ =>
  ⟨w.heap.size, 0, rfl, by simp, fun j v hv => by
    rw [cell_of_row _ _ (0 + j) u t (0, 0) (heap_alloc_new w _), Nat.zero_add, ← Array.getElem?_toList]; exact hv⟩
theorem Strs.lit (w : World) (u : Array Value) (t : TypeId) (l : List S) (n : Nat) (hu : u.toList = l.map Value.string) (hn : l.length = n) (hl : ∀ s ∈ l, s.size ≤ maxLen) : Strs (w.alloc (.cells u t)) (some ⟨w.heap.size, 0, none⟩) n l :=
  ⟨hn, hl, by rw [← hu]; exact Rds.lit w u t⟩
theorem Ints.lit (w : World) (u : Array Value) (t : TypeId) (l : List Int) (n : Nat) (hu : u.toList = l.map (Value.int .i64)) (hn : l.length = n) (hl : ∀ s ∈ l, i64ok s) : Ints (w.alloc (.cells u t)) (some ⟨w.heap.size, 0, none⟩) n l :=
  ⟨hn, hl, by rw [← hu]; exact Rds.lit w u t⟩
theorem Refs.lit (w : World) (u : Array Value) (t : TypeId) (l : List Ref) (n : Nat) (hu : u.toList = refsCells l) (hn : l.length = n) (hl : ∀ r ∈ l, r.frm.size ≤ maxLen ∧ r.to.size ≤ maxLen) : Refs (w.alloc (.cells u t)) (some ⟨w.heap.size, 0, none⟩) n l :=
  ⟨hn, hl, by rw [← hu]; exact Rds.lit w u t⟩
def AInts (k : Nat) (w : World) (e : Ending) (w' : World) : Prop := ∃ A n c l, e = .returned (.slice A n c) ∧ n ≤ c ∧ n ≤ k ∧ Ints w' A n l ∧ Below w.heap.size w w'
set_option maxRecDepth 20000 in
set_option maxHeartbeats 2000000 in
theorem some_any (bits n : Int) (w : World) :
    Calls Try.prog 27 #[.int .i64 bits, .int .i64 n] w (AInts 30 w) := by
  go_enter Try.func27, Try.ntmps27
  go_wp2
  go_loopw [5, 6] (fun o ii wr => ∃ (i m1 c1 : Nat) (A1 : Option Addr) (pre : List Int), i ≤ 30 ∧ ii = .int .i64 i ∧ o = .slice A1 m1 c1 ∧ m1 ≤ c1 ∧ m1 ≤ i ∧ Own wr w.heap.size 3 1 (.slice A1 m1 c1) m1 (pre.map (Value.int .i64)) ∧ (∀ x ∈ pre, 0 ≤ x ∧ x ≤ 30) ∧ Below w.heap.size w wr) (fun _ ii _ => 30 - (intOf ii).toNat)
  case atStart => exact ⟨0, 0, 0, none, [], by omega, rfl, rfl, by omega, by omega, Own.nil _ _ _ (Nat.le_refl _), by simp, brefl⟩
  case round =>
    obtain ⟨i, m1, c1, A1, pre, hi, rfl, rfl, hc1, hm1, ho, hpr, hbl⟩ := hrel
    by_cases h1 : (i : Int) < n
    · by_cases h2 : i < 30
      · go_wp2_with (at_builtin; refine wpList_app _ intsT rfl (.tmp 21) (.tmp 23) rfl (ho.alloc _) rfl rfl (news := [.int .i64 i]) rfl (Rds.one wr (.int .i64 i) 3) (by simp [Value.oneCell']) ?_ ?_ ?_; (focus omega); (focus omega); intro A4 c4 w4 o4 n4 g4 _; have hb4 := (hbl.al (.cells #[.int .i64 i] 3)).gr g4 ho.row)
        · go_roundw
          case rel => exact ⟨i + 1, m1 + 1, c4, A4, pre ++ [(i : Int)], by omega, by go_num, rfl, n4, by omega, by simpa using o4, (fun q hq => by
            rcases List.mem_append.1 hq with h | h
            · exact hpr q h
            · simp at h; omega), hb4⟩
          case measure => simp [intOf]; omega
        · go_roundw
          case rel => exact ⟨i + 1, m1, c1, A1, pre, by omega, by go_num, rfl, hc1, by omega, ho, hpr, hbl⟩
          case measure => simp [intOf]; omega
      · go_wp2
        go_ret
        exact ⟨A1, m1, c1, pre, rfl, hc1, by omega, Ints.own ho rfl (fun x hx => by have := hpr x hx; unfold i64ok; omega), hbl⟩
    · go_wp2
      go_ret
      exact ⟨A1, m1, c1, pre, rfl, hc1, by omega, Ints.own ho rfl (fun x hx => by have := hpr x hx; unfold i64ok; omega), hbl⟩
end Go.Proofs.Ytdeeflbghhajiaa
