/- Walks: SameTexts, SameInts at equal lists; see; Name. -/
import Derived.Test.YtdfnfimajhagfaaGreatDoorW2
namespace Go.Proofs.YtdfnfimajhagfaaGreatDoor
open Go.RowKit Go.Maps Rf
set_option maxHeartbeats 400000 in
theorem sameTexts_any (A B : Option Addr) (n c d : Nat) (l : List S) (w : World) (hm : n ≤ 140737488355328) (ha : Strs w A n l) (hb : Strs w B n l) :
    Calls Tryz.prog 29 #[.slice A n c, .slice B n d] w fun e w' => e = .returned (.bool true) ∧ Below w.heap.size w w' := by
  go_enter Tryz.func29, Tryz.ntmps29
  go_wp2
  go_loopw [5] (fun i wr => ∃ k : Nat, k ≤ n ∧ i = .int .i64 k ∧ Below w.heap.size w wr) (fun i _ => n - (intOf i).toNat)
  case atStart => exact ⟨0, by omega, rfl, brefl⟩
  case round =>
    obtain ⟨k, hk, rfl, hbl⟩ := hrel
    by_cases hlt : k < n
    · obtain ⟨b, off, x, rfl, hx, hxs, hb1, hc⟩ := (ha.below hbl).at_ hlt
      obtain ⟨b', off', x', rfl, hx', hxs', hb1', hc'⟩ := (hb.below hbl).at_ hlt
      rw [hx] at hx'
      cases hx'
      clear hx hxs hb1 hxs' hb1'
      have hxx : (x.toList == x.toList) = true := by simp
      go_wp2
      go_quiet (fail)
      go_wp2
      go_roundw
      case rel => exact ⟨k + 1, by omega, by go_num, hbl.drn _⟩
      case measure => simp [intOf]; omega
    · go_wp2
      go_ret
      exact ⟨rfl, hbl⟩
end Go.Proofs.YtdfnfimajhagfaaGreatDoor
