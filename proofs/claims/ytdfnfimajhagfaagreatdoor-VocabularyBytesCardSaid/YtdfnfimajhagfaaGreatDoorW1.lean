/- Walks: the small functions of the reference model that only read. -/
import Derived.Test.YtdfnfimajhagfaaGreatDoorProg
import Derived.Test.YtdfnfimajhagfaaGreatDoorMem
import Derived.Test.YtdfnfimajhagfaaGreatDoorOrder
import Derived.Outline
namespace Go.Proofs.YtdfnfimajhagfaaGreatDoor
open Go.RowKit Go.Maps Rf
def around (n m : Int) : Int := (if n < 0 then -(n + 1) else n) % m
set_option maxHeartbeats 400000 in
theorem around_any (n m : Int) (w : World) (h0 : -9223372036854775808 ≤ n) (h1 : n ≤ 9223372036854775807) (hm : 1 ≤ m) (hm' : m ≤ 9223372036854775807) :
    Calls Tryz.prog 24 #[.int .i64 n, .int .i64 m] w fun e w' => e = .returned (.int .i64 (around n m)) ∧ w = w' := by
  by_cases hn : n < 0
  · go_enter Tryz.func24, Tryz.ntmps24
    go_wp2
    go_ret
    refine ⟨?_, rfl⟩
    show Ending.returned (.int .i64 (-(n + 1).tmod m)) = _
    have : -(n + 1).tmod m = around n m := by
      unfold around; rw [if_pos hn, ← Int.neg_tmod, Int.tmod_eq_emod_of_nonneg (by omega)]
    rw [this]
  · go_enter Tryz.func24, Tryz.ntmps24
    go_wp2
    go_ret
    refine ⟨?_, rfl⟩
    show Ending.returned (.int .i64 (n % m)) = _
    have : n % m = around n m := by unfold around; rw [if_neg (by omega)]
    rw [this]
theorem around_range (n m : Int) (hm : 1 ≤ m) : 0 ≤ around n m ∧ around n m < m := by
  unfold around
  exact ⟨Int.emod_nonneg _ (by omega), Int.emod_lt_of_pos _ (by omega)⟩
theorem drop_get {α : Type} {l : List α} {k : Nat} {x : α} (h : l[k]? = some x) : l.drop k = x :: l.drop (k + 1) := by
  obtain ⟨hl, e⟩ := List.getElem?_eq_some_iff.1 h
  rw [List.drop_eq_getElem_cons hl, e]
theorem drop_len {α : Type} {l : List α} {k n : Nat} (h : l.length = n) (hk : ¬ k < n) : l.drop k = [] := List.drop_eq_nil_of_le (by omega)
theorem ret_bool {a b : Bool} (h : a = b) : Ending.returned (.bool a) = Ending.returned (.bool b) := by rw [h]
theorem ret_i64 {a b : Int} (h : a = b) : Ending.returned (.int .i64 a) = Ending.returned (.int .i64 b) := by rw [h]
theorem has_hit {x s : S} {r : List S} (h : (x.toList == s.toList) = true) : Rf.has (x :: r) s = true := by
  rw [Rf.has, if_pos (show eqS x s = true from h)]
theorem has_miss {x s : S} {r : List S} (h : (x.toList == s.toList) = false) : Rf.has (x :: r) s = Rf.has r s := by
  rw [Rf.has, if_neg (show ¬ eqS x s = true from by unfold eqS; rw [h]; simp)]
set_option maxHeartbeats 400000 in
theorem has_any (A : Option Addr) (n c : Nat) (l : List S) (s : S) (w : World) (hm : n ≤ 140737488355328) (hl : Strs w A n l) :
    Calls Tryz.prog 50 #[.slice A n c, .string s] w fun e w' => e = .returned (.bool (Rf.has l s)) ∧ w = w' := by
  go_enter Tryz.func50, Tryz.ntmps50
  go_wp2
  go_loop [5] (fun i => ∃ k : Nat, k ≤ n ∧ i = .int .i64 k ∧ Hid (Rf.has l s = Rf.has (l.drop k) s)) (fun i => n - (intOf i).toNat)
  case atStart => exact ⟨0, by omega, rfl, rfl⟩
  case round =>
    obtain ⟨k, hk, rfl, hr⟩ := hrel
    by_cases hlt : k < n
    · obtain ⟨b, off, x, rfl, hx, hxs, hb, hc⟩ := hl.at_ hlt
      have hd := Lib.hid (drop_get hx)
      clear hx hxs hb
      go_wp2
      · go_ret
        have h : (x.toList == s.toList) = true := by assumption
        exact ⟨ret_bool (by rw [hr.out, hd.out, has_hit h]), rfl⟩
      · go_round
        case rel =>
          have h : (x.toList == s.toList) = false := by assumption
          exact ⟨k + 1, by omega, by go_num, by show _ = _; rw [hr.out, hd.out, has_miss h]⟩
        case measure => simp [intOf]; omega
    · go_wp2
      go_ret
      exact ⟨ret_bool (by rw [hr.out, drop_len hl.1 hlt]; rfl), rfl⟩
end Go.Proofs.YtdfnfimajhagfaaGreatDoor
