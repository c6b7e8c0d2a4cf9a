/- The law VocabularyValid, walked. -/
import Derived.Test.YtdfnfimajhagfaaGreatDoorT13
namespace Go.Proofs.YtdfnfimajhagfaaGreatDoor
open Go.RowKit Go.Maps Rf
set_option maxRecDepth 20000 in
set_option maxHeartbeats 2000000 in
theorem valid_law (A : Option Addr) (n c : Nat) (l : List Int) (how bys : Int) (w : World) (hr : Rdy w) (hl : Ints w A n l) (hh : i64ok how) (hb : i64ok bys) :
    Calls Tryz.prog 3 #[.slice A n c, .int .i64 how, .int .i64 bys] w fun e w' => e = .returned (.bool true) ∧ Below w.heap.size w w' := by
  go_enter Tryz.func3, Tryz.ntmps3
  go_wp2_with (go_at_call 11; go_loud (refine (lists_any _ _ _ _ _ _ _ hl hh hb).mono ?_; rintro e w1 ⟨b, rfl, hV, hb1⟩))
  have hr1 := hr.below hb1
  go_loopw [8] (fun ii wr => ∃ i : Nat, i ≤ 4 ∧ ii = .int .i64 i ∧ Below w1.heap.size w1 wr) (fun ii _ => 4 - (intOf ii).toNat)
  case atStart => exact ⟨0, by omega, rfl, brefl⟩
  case round =>
    obtain ⟨i, hi, rfl, hbi⟩ := hrel
    by_cases hlt : i < 4
    · have hVi := hV.below hbi
      obtain ⟨A1, n1, c1, ms, hc, hcap, hn, ht, hs, hv⟩ := hVi.el i hlt
      have hlt' : (i : Int) < 4 := by omega
      have hvp := vvalid_any A1 n1 c1 ms wr (by omega) (hr1.below hbi) ht
      have hvr := fun w2 (hb2 : Below wr.heap.size wr w2) => rvalid_any A1 n1 c1 ms w2 (by omega) (ht.below hb2) hs
      have hcc := fun w2 (hb2 : Below wr.heap.size wr w2) => (hb2.cell (p := ⟨b, i, none⟩) hVi.lt).trans hc
      generalize hUV : vvalid (terms ms) = UV at hv hvp hvr
      obtain ⟨U, V⟩ := UV
      dsimp only at hvp hvr
      clear hUV
      have HR := Lib.hid hvr
      have HC := Lib.hid hcc
      clear hvr hcc
      by_cases h0 : i = 0
      · have hV0 : V = 0 := by have := hv h0; injection this
        subst hV0
        subst h0
        clear hv
        go_wp2_with (first
          | (go_at_call 12; go_loud (refine hvp.mono ?_; rintro e w2 ⟨rfl, hb2⟩; have hc2 := HC.out w2 hb2))
          | (go_at_call 13; go_loud (refine (HR.out w2 hb2).mono ?_; rintro e w3 ⟨rfl, hb3⟩)))
        go_roundw
        case rel => exact ⟨1, by omega, by go_num, hbi.tr (hb2.tr hb3)⟩
        case measure => simp [intOf]
      · have h0' : ((i : Int) == 0) = false := by rw [beq_eq_false_iff_ne]; omega
        clear hv
        go_wp2_with (first
          | (go_at_call 12; go_loud (refine hvp.mono ?_; rintro e w2 ⟨rfl, hb2⟩; have hc2 := HC.out w2 hb2))
          | (go_at_call 13; go_loud (refine (HR.out w2 hb2).mono ?_; rintro e w3 ⟨rfl, hb3⟩)))
        go_roundw
        case rel => exact ⟨i + 1, by omega, by go_num, hbi.tr (hb2.tr hb3)⟩
        case measure => simp [intOf]; omega
    · have hi4 : i = 4 := by omega
      subst hi4
      go_wp2_with (go_at_call 14; go_loud (refine (lives_any _ (hr1.below hbi)).mono ?_; rintro e w2 ⟨rfl, hb2⟩))
      go_ret
      exact ⟨rfl, hb1.tr (hbi.tr hb2)⟩
end Go.Proofs.YtdfnfimajhagfaaGreatDoor
