/- Walks: SameTexts, SameInts at equal lists; see; Name. -/
import Derived.Test.YtdfnfimajhagfaaGreatDoorW2
namespace Go.Proofs.YtdfnfimajhagfaaGreatDoor
open Go.RowKit Go.Maps Rf
set_option maxHeartbeats 400000 in
theorem sameTexts_any (A B : Option Addr) (n c d : Nat) (l : List S) (w : World) (hm : n ≤ 140737488355328) (ha : Strs w A n l) (hb : Strs w B n l) :
    Calls Tryz.prog 29 #[.slice A n c, .slice B n d] w fun e w' => e = .returned (.bool true) ∧ Below w.heap.size w w' := by
  go_enter Tryz.func29, Tryz.ntmps29
  go_wp2
  go_loopw [5] (fun i wr => ∃ k : Nat, k ≤ n ∧ i = .int .i64 k ∧ Below w.heap.size w wr) (fun i _ => n - (intOf i).toNat)
  case atStart => exact ⟨0, by omega, rfl, brefl⟩
  case round =>
    obtain ⟨k, hk, rfl, hbl⟩ := hrel
    by_cases hlt : k < n
    · obtain ⟨b, off, x, rfl, hx, hxs, hb1, hc⟩ := (ha.below hbl).at_ hlt
      obtain ⟨b', off', x', rfl, hx', hxs', hb1', hc'⟩ := (hb.below hbl).at_ hlt
      rw [hx] at hx'
      cases hx'
      clear hx hxs hb1 hxs' hb1'
      have hxx : (x.toList == x.toList) = true := by simp
      go_wp2
      go_quiet (fail)
      go_wp2
      go_roundw
      case rel => exact ⟨k + 1, by omega, by go_num, hbl.drn _⟩
      case measure => simp [intOf]; omega
    · go_wp2
      go_ret
      exact ⟨rfl, hbl⟩
set_option maxHeartbeats 400000 in
theorem sameInts_any (A B : Option Addr) (n c d : Nat) (l : List Int) (w : World) (hm : n ≤ 140737488355328) (ha : Ints w A n l) (hb : Ints w B n l) :
    Calls Tryz.prog 124 #[.slice A n c, .slice B n d] w fun e w' => e = .returned (.bool true) ∧ Below w.heap.size w w' := by
  go_enter Tryz.func124, Tryz.ntmps124
  go_wp2
  go_loopw [5] (fun i wr => ∃ k : Nat, k ≤ n ∧ i = .int .i64 k ∧ Below w.heap.size w wr) (fun i _ => n - (intOf i).toNat)
  case atStart => exact ⟨0, by omega, rfl, brefl⟩
  case round =>
    obtain ⟨k, hk, rfl, hbl⟩ := hrel
    by_cases hlt : k < n
    · obtain ⟨b, off, x, rfl, hx, hxs, hb1, hc⟩ := (ha.below hbl).at_ hlt
      obtain ⟨b', off', x', rfl, hx', hxs', hb1', hc'⟩ := (hb.below hbl).at_ hlt
      rw [hx] at hx'
      cases hx'
      clear hx hxs hb1 hxs' hb1'
      go_wp2
      go_quiet (fail)
      go_wp2
      go_roundw
      case rel => exact ⟨k + 1, by omega, by go_num, hbl.drn _⟩
      case measure => simp [intOf]; omega
    · go_wp2
      go_ret
      exact ⟨rfl, hbl⟩
/-- an index, or -1 -/
def idx (o : Option Nat) : Int := match o with | none => -1 | some k => k
theorem seeFrom_hit {name : S} {r : Ref} {l : List Ref} {i : Nat} (h1 : (r.frm.toList == name.toList) = true) (h2 : r.also = false) : seeFrom name (r :: l) i = some i := by
  rw [seeFrom, if_pos]; have : eqS r.frm name = true := h1; simp [this, h2]
theorem seeFrom_miss {name : S} {r : Ref} {l : List Ref} {i : Nat} (h : (r.frm.toList == name.toList) = false ∨ r.also = true) : seeFrom name (r :: l) i = seeFrom name l (i + 1) := by
  rw [seeFrom, if_neg]
  rcases h with h | h
  · have : eqS r.frm name = false := h; simp [this]
  · simp [h]
set_option maxHeartbeats 400000 in
theorem see_any (A : Option Addr) (n c : Nat) (l : List Ref) (name : S) (w : World) (hm : n ≤ 1000000) (hl : Refs w A n l) :
    Calls Tryz.prog 146 #[.slice A n c, .string name] w fun e w' => e = .returned (.int .i64 (idx (see l name))) ∧ w = w' := by
  go_enter Tryz.func146, Tryz.ntmps146
  go_wp2
  go_loop [5] (fun i => ∃ k : Nat, k ≤ n ∧ i = .int .i64 k ∧ Hid (see l name = seeFrom name (l.drop k) k)) (fun i => n - (intOf i).toNat)
  case atStart => exact ⟨0, by omega, rfl, rfl⟩
  case round =>
    obtain ⟨k, hk, rfl, hr⟩ := hrel
    by_cases hlt : k < n
    · obtain ⟨b, off, r, rfl, hx, hs1, hs2, hb, hc1, hc2, hc3⟩ := hl.at_ hlt
      have hd := Lib.hid (drop_get hx)
      clear hx hs1 hs2 hb hc2
      obtain ⟨fr, to, al⟩ := r
      simp only at hc1 hc3
      by_cases h1 : (fr.toList == name.toList) = true
      · cases al
        · go_wp2
          go_ret
          exact ⟨ret_i64 (by rw [hr.out, hd.out, seeFrom_hit h1 rfl]; rfl), rfl⟩
        · go_wp2
          go_round
          case rel => exact ⟨k + 1, by omega, by go_num, by show _ = _; rw [hr.out, hd.out, seeFrom_miss (.inr rfl)]⟩
          case measure => simp [intOf]; omega
      · have h1 : (fr.toList == name.toList) = false := by simpa using h1
        go_wp2
        go_round
        case rel => exact ⟨k + 1, by omega, by go_num, by show _ = _; rw [hr.out, hd.out, seeFrom_miss (.inl h1)]⟩
        case measure => simp [intOf]; omega
    · go_wp2
      go_ret
      exact ⟨ret_i64 (by rw [hr.out, drop_len hl.1 hlt]; rfl), rfl⟩
end Go.Proofs.YtdfnfimajhagfaaGreatDoor
