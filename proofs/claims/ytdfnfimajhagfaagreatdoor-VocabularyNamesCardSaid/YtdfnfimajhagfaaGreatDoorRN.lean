/- Walks of the reference of layer 24: Preferred, Prefer, Aliases, Above, Below. -/
import Derived.Test.YtdfnfimajhagfaaGreatDoorT8
import Derived.Test.YtdfnfimajhagfaaGreatDoorV19
namespace Go.Proofs.YtdfnfimajhagfaaGreatDoor
open Go.RowKit Go.Maps Rf
set_option maxRecDepth 20000 in
set_option maxHeartbeats 1000000 in
theorem rpreferred_any (m : TM) (w : World) :
    Calls Tryz.prog 89 #[.agg #[.string m.t.name, .int .i64 m.t.kind, .int .i64 m.t.lang, .string m.t.see, .slice m.A m.n m.c]] w fun e w' => e = .returned (.string (prefT m.t)) ∧ Below w.heap.size w w' := by
  cases he : m.t.see.toList.isEmpty
  · rw [prefT_see he]
    go_enter Tryz.func89, Tryz.ntmps89
    go_wp2
    go_ret
    exact ⟨rfl, brefl.al _⟩
  · rw [prefT_name he]
    go_enter Tryz.func89, Tryz.ntmps89
    go_wp2
    go_ret
    exact ⟨rfl, brefl.al _⟩
set_option maxRecDepth 20000 in
set_option maxHeartbeats 1000000 in
theorem rprefer_any (A : Option Addr) (n c : Nat) (ms : List TM) (s : S) (w : World) (hm : n ≤ 100000) (hl : Tms w A n ms) (hsm : ∀ m ∈ ms, m.small) :
    Calls Tryz.prog 34 #[.slice A n c, .string s] w fun e w' => e = .returned (.tuple #[.string (prefer (terms ms) s).1, .int .i64 (prefer (terms ms) s).2]) ∧ Below w.heap.size w w' := by
  have hv := rvalid_any A n c ms w hm hl hsm
  unfold prefer
  generalize hvl : vvalid (terms ms) = vl at hv ⊢
  obtain ⟨u, v⟩ := vl
  dsimp only at hv ⊢
  clear hvl
  generalize (u : Int) = u at hv
  by_cases h0 : v = 0
  · rw [if_pos h0]
    subst h0
    rcases findAt_cases (terms ms) s 0 with ⟨f1, f2⟩ | ⟨j, t, f1, f2, f3⟩
    · rw [f1]
      clear f1
      go_enter Tryz.func34, Tryz.ntmps34
      go_wp2_with (first
        | (go_at_call 13; go_loud (refine hv.mono ?_; rintro e w2 ⟨rfl, hb2⟩))
        | (go_at_call 35; go_loud (refine (rfind_any _ _ _ _ _ _ hm (hl.below hb2)).mono ?_; rintro e w3 ⟨rfl, rfl⟩; rw [f2])))
      go_ret2
      exact ⟨rfl, hb2⟩
    · rw [f1]
      rw [Nat.zero_add] at f2
      have hF := Lib.hid f3
      clear f1 f3
      go_enter Tryz.func34, Tryz.ntmps34
      go_wp2_with (first
        | (go_at_call 13; go_loud (refine hv.mono ?_; rintro e w2 ⟨rfl, hb2⟩))
        | (go_at_call 35; go_loud (refine (rfind_any _ _ _ _ _ _ hm (hl.below hb2)).mono ?_; rintro e w3 ⟨rfl, rfl⟩; rw [f2]; have hlt : j < n := by { have h1 := (List.getElem?_eq_some_iff.1 hF.out).1; rw [terms_length hl] at h1; exact h1 }; obtain ⟨b, off, m, rfl, hx, hok, hb0, d1, d2, d3, d4, d5⟩ := (hl.below hb2).at_ hlt; have htm : Hid (m.t = t) := Lib.hid (by { have h2 := terms_get hx; rw [hF.out] at h2; exact (Option.some.inj h2).symm })))
        | (go_at_call 89; go_loud (refine (rpreferred_any m _).mono ?_; rintro e w4 ⟨rfl, hb4⟩)))
      go_ret2
      refine ⟨?_, hb2.tr hb4⟩
      rw [← htm.out]
      rfl
  · rw [if_neg h0]
    go_enter Tryz.func34, Tryz.ntmps34
    have h0b : (v == 0) = false := by simpa using h0
    go_wp2_with (go_at_call 13; go_loud (refine hv.mono ?_; rintro e w2 ⟨rfl, hb2⟩))
    go_ret2
    exact ⟨rfl, hb2⟩
set_option maxRecDepth 20000 in
set_option maxHeartbeats 1000000 in
theorem rabove_any (A : Option Addr) (n c : Nat) (ms : List TM) (s : S) (w : World) (hm : n ≤ 100000) (hs : s.size ≤ maxLen) (hl : Tms w A n ms) (hsm : ∀ m ∈ ms, m.small) :
    Calls Tryz.prog 39 #[.slice A n c, .string s] w fun e w' => ∃ A' k c', e = .returned (.slice A' k c') ∧ k ≤ 1000000 ∧ Strs w' A' k (aboveOf (terms ms) s) ∧ Below w.heap.size w w' := by
  have hv := rgood_any A n c ms w hm hl hsm
  by_cases h0 : (vvalid (terms ms)).2 = 0
  · have h128 : n ≤ 128 := by
      rcases Nat.lt_or_ge 128 n with h | h
      · unfold vvalid at h0
        rw [if_pos (by rw [terms_length hl]; exact h)] at h0; cases h0
      · exact h
    have hres : aboveOf (terms ms) s = ups (brd (terms ms)) s := by unfold aboveOf; rw [if_pos (show _ = eOK from h0)]
    rw [hres]
    rw [decide_eq_true h0] at hv
    clear h0 hres
    go_enter Tryz.func39, Tryz.ntmps39
    go_wp2_with (first
      | (go_at_call 88; refine hv.mono ?_; rintro e w2 ⟨rfl, hb2⟩)
      | (go_at_call 94; go_loud (refine (rup_any _ _ _ _ _ _ h128 hs (hl.below hb2)).mono ?_; rintro e w3 ⟨A3, k3, c3, rfl, hc3, hk3, hs3, hb3⟩)))
    go_ret
    exact ⟨A3, k3, c3, rfl, hk3, hs3, hb2.tr hb3⟩
  · have hres : aboveOf (terms ms) s = [] := by unfold aboveOf; rw [if_neg (show ¬ (vvalid (terms ms)).2 = eOK from h0)]
    rw [hres]
    rw [decide_eq_false h0] at hv
    clear h0 hres
    go_enter Tryz.func39, Tryz.ntmps39
    go_wp2_with (go_at_call 88; refine hv.mono ?_; rintro e w2 ⟨rfl, hb2⟩)
    go_ret
    exact ⟨none, 0, 0, rfl, Nat.zero_le _, Strs.nil _, hb2⟩
set_option maxRecDepth 20000 in
set_option maxHeartbeats 2000000 in
theorem rbelow_any (A : Option Addr) (n c : Nat) (ms : List TM) (s : S) (w : World) (hm : n ≤ 100000) (hl : Tms w A n ms) (hsm : ∀ m ∈ ms, m.small) :
    Calls Tryz.prog 41 #[.slice A n c, .string s] w fun e w' => ∃ A' k c', e = .returned (.slice A' k c') ∧ k ≤ c' ∧ k ≤ n ∧ Strs w' A' k (belowOf (terms ms) s) ∧ Below w.heap.size w w' := by
  have hv := rgood_any A n c ms w hm hl hsm
  have hlen := terms_length hl
  by_cases h0 : (vvalid (terms ms)).2 = 0
  · have h128 : n ≤ 128 := by
      rcases Nat.lt_or_ge 128 n with h | h
      · unfold vvalid at h0
        rw [if_pos (by rw [hlen]; exact h)] at h0; cases h0
      · exact h
    have hres := Lib.hid (show belowOf (terms ms) s = blOf (terms ms) s (terms ms) from if_pos h0)
    rw [decide_eq_true h0] at hv
    clear h0
    go_enter Tryz.func41, Tryz.ntmps41
    go_wp2_with (go_at_call 88; refine hv.mono ?_; rintro e w2 ⟨rfl, hb2⟩)
    obtain ⟨wo, hwo⟩ : ∃ wo : World, wo = w2 := ⟨_, rfl⟩
    subst hwo
    go_loopw [5, 6] (fun o i wr => ∃ (k m1 c1 : Nat) (A1 : Option Addr), k ≤ n ∧ i = .int .i64 k ∧ o = .slice A1 m1 c1 ∧ m1 ≤ c1 ∧ m1 ≤ k ∧ Own wr w.heap.size 9 1 (.slice A1 m1 c1) m1 ((blOf (terms ms) s ((terms ms).take k)).map Value.string) ∧ Below w.heap.size w wr) (fun _ i _ => n - (intOf i).toNat)
    case atStart => exact ⟨0, 0, 0, none, by omega, rfl, rfl, by omega, by omega, Own.nil _ _ _ hb2.size, hb2⟩
    case round =>
      obtain ⟨k, m1, c1, A1, hk, rfl, rfl, hc1, hm1, ho, hbl⟩ := hrel
      by_cases hlt : k < n
      · have hlt' : (k : Int) < n := by omega
        obtain ⟨b, off, m, rfl, hx, hok, hb0, d1, d2, d3, d4, d5⟩ := (hl.below hbl).at_ hlt
        have htk := terms_get hx
        have hup := rup_any (some ⟨b, off, none⟩) n c ms m.t.name wr h128 hok.nm (hl.below hbl)
        have hcc := fun w2 (hb2 : Below wr.heap.size wr w2) => (hb2.cell (p := ⟨b, off + k * 5, none⟩) hb0).trans d1
        have HC := Lib.hid hcc
        cases he : Rf.has (ups (brd (terms ms)) m.t.name) s
        · have hms := Lib.hid (blOf_miss htk he)
          have HE := Lib.hid he
          clear hx hok htk he hcc
          go_wp2_with (first
            | (go_at_call 94; go_loud (refine hup.mono ?_; rintro e w3 ⟨A3, k3, c3, rfl, hc3, hk3, hs3, hb3⟩))
            | (go_at_call 50; go_loud (refine (has_any _ _ _ _ _ _ (Nat.le_trans hk3 (by decide)) hs3).mono ?_; rintro e _ ⟨rfl, rfl⟩; rw [HE.out])))
          go_roundw
          case rel => exact ⟨k + 1, m1, c1, A1, by omega, by go_num, rfl, hc1, by omega, by rw [hms.out]; exact ho.below hb3, hbl.tr hb3⟩
          case measure => simp [intOf]; omega
        · have hms := Lib.hid (blOf_hit htk he)
          have HE := Lib.hid he
          clear hx hok htk he hcc
          go_wp2_with (first
            | (go_at_call 94; go_loud (refine hup.mono ?_; rintro e w3 ⟨A3, k3, c3, rfl, hc3, hk3, hs3, hb3⟩; have hc3' := HC.out w3 hb3; have ho3 := ho.below hb3))
            | (go_at_call 50; go_loud (refine (has_any _ _ _ _ _ _ (Nat.le_trans hk3 (by decide)) hs3).mono ?_; rintro e _ ⟨rfl, rfl⟩; rw [HE.out]))
            | (at_builtin; go_loud (refine wpList_app _ stringsT rfl (.tmp 25) (.tmp 31) rfl (ho3.alloc _) rfl rfl (news := [.string m.t.name]) rfl (Rds.one w3 (.string m.t.name) 9) (by simp [Value.oneCell']) ?_ ?_ ?_; (focus omega); (focus omega); intro A5 c5 w5 o5 n5 g5 _)))
          have hb5 := ((hbl.tr hb3).al (.cells #[.string m.t.name] 9)).gr g5 ho.row
          go_roundw
          case rel => exact ⟨k + 1, m1 + 1, c5, A5, by omega, by go_num, rfl, n5, by omega, by rw [hms.out]; exact o5, hb5⟩
          case measure => simp [intOf]; omega
      · have hkn : k = n := by omega
        have hlt' : ¬ (k : Int) < n := by omega
        have htk := Lib.hid (take_all hlen hk hlt)
        rw [htk.out] at ho
        go_wp2
        go_ret
        exact ⟨A1, m1, c1, rfl, hc1, by omega, by rw [hres.out]; exact Strs.own ho rfl (blOf_size hl.names), hbl⟩
  · have hres := Lib.hid (show belowOf (terms ms) s = [] from if_neg h0)
    rw [decide_eq_false h0] at hv
    clear h0
    go_enter Tryz.func41, Tryz.ntmps41
    go_wp2_with (go_at_call 88; refine hv.mono ?_; rintro e w2 ⟨rfl, hb2⟩)
    go_ret
    exact ⟨none, 0, 0, rfl, Nat.le_refl _, Nat.zero_le _, by rw [hres.out]; exact Strs.nil _, hb2⟩
/-- what the reference's loop of Aliases collects -/
def ralOf (s : S) (l : List Term) : List S := if s.toList.isEmpty = true then [] else alOf s l
theorem ral_good {l : List Term} {s : S} (h0 : (vvalid l).2 = 0) (hf : (findT l s).isSome = true) : ralOf s l = aliases l s := by
  unfold ralOf
  rw [al_yes h0 hf]
  have hv := vok (show (vvalid l).2 = eOK from h0)
  cases hff : findT l s with
  | none => rw [hff] at hf; cases hf
  | some t =>
    obtain ⟨h1, h2⟩ := findT_some hff
    have := hv.name h1
    rw [h2, ← empty_data] at this
    rw [this]; rfl
set_option maxRecDepth 20000 in
set_option maxHeartbeats 2000000 in
theorem raliases_any (A : Option Addr) (n c : Nat) (ms : List TM) (s : S) (w : World) (hm : n ≤ 100000) (hl : Tms w A n ms) (hsm : ∀ m ∈ ms, m.small) :
    Calls Tryz.prog 37 #[.slice A n c, .string s] w fun e w' => ∃ A' k c', e = .returned (.slice A' k c') ∧ k ≤ c' ∧ k ≤ n ∧ Strs w' A' k (aliases (terms ms) s) ∧ Below w.heap.size w w' := by
  have hlen := terms_length hl
  cases hse : s.toList.isEmpty
  · go_enter Tryz.func37, Tryz.ntmps37
    go_wp2
    go_loopw [5, 6] (fun o i wr => ∃ (k m1 c1 : Nat) (A1 : Option Addr), k ≤ n ∧ i = .int .i64 k ∧ o = .slice A1 m1 c1 ∧ m1 ≤ c1 ∧ m1 ≤ k ∧ Own wr w.heap.size 9 1 (.slice A1 m1 c1) m1 ((alOf s ((terms ms).take k)).map Value.string) ∧ Below w.heap.size w wr) (fun _ i _ => n - (intOf i).toNat)
    case atStart => exact ⟨0, 0, 0, none, by omega, rfl, rfl, by omega, by omega, Own.nil _ _ _ (Nat.le_refl _), brefl⟩
    case round =>
      obtain ⟨k, m1, c1, A1, hk, rfl, rfl, hc1, hm1, ho, hbl⟩ := hrel
      by_cases hlt : k < n
      · have hlt' : (k : Int) < n := by omega
        obtain ⟨b, off, m, rfl, hx, hok, hb0, d1, d2, d3, d4, d5⟩ := (hl.below hbl).at_ hlt
        have htk := terms_get hx
        cases he : eqS m.t.see s
        · have hms := Lib.hid (alOf_miss htk he)
          unfold eqS at he
          clear hx hok htk
          go_wp2
          go_roundw
          case rel => exact ⟨k + 1, m1, c1, A1, by omega, by go_num, rfl, hc1, by omega, by rw [hms.out]; exact ho, hbl⟩
          case measure => simp [intOf]; omega
        · have hms := Lib.hid (alOf_hit htk he)
          unfold eqS at he
          clear hx hok htk
          go_wp2_with (at_builtin; go_loud (refine wpList_app _ stringsT rfl (.tmp 24) (.tmp 30) rfl (ho.alloc _) rfl rfl (news := [.string m.t.name]) rfl (Rds.one wr (.string m.t.name) 9) (by simp [Value.oneCell']) ?_ ?_ ?_; (focus omega); (focus omega); intro A5 c5 w5 o5 n5 g5 _))
          have hb5 := (hbl.al (.cells #[.string m.t.name] 9)).gr g5 ho.row
          go_roundw
          case rel => exact ⟨k + 1, m1 + 1, c5, A5, by omega, by go_num, rfl, n5, by omega, by rw [hms.out]; exact o5, hb5⟩
          case measure => simp [intOf]; omega
      · have hkn : k = n := by omega
        have hlt' : ¬ (k : Int) < n := by omega
        have htk := Lib.hid (take_all hlen hk hlt)
        rw [htk.out] at ho
        have hv := rgood_any A n c ms wr hm (hl.below hbl) hsm
        by_cases h0 : (vvalid (terms ms)).2 = 0
        · have H0 := Lib.hid h0
          rw [decide_eq_true h0] at hv
          clear h0
          rcases findAt_cases (terms ms) s 0 with ⟨f1, f2⟩ | ⟨j, t, f1, f2, f3⟩
          · have hres := Lib.hid (al_no (l := terms ms) (s := s) (by rw [f1]; simp))
            clear f1
            go_wp2_with (first
              | (go_at_call 88; refine hv.mono ?_; rintro e w2 ⟨rfl, hb2⟩)
              | (go_at_call 35; go_loud (refine (rfind_any _ _ _ _ _ _ hm ((hl.below hbl).below hb2)).mono ?_; rintro e w3 ⟨rfl, rfl⟩; rw [f2])))
            go_ret
            exact ⟨none, 0, 0, rfl, Nat.le_refl _, Nat.zero_le _, by rw [hres.out]; exact Strs.nil _, hbl.tr hb2⟩
          · have hres := Lib.hid (al_yes (l := terms ms) (s := s) H0.out (by rw [f1]; rfl))
            rw [Nat.zero_add] at f2
            clear f1 f3
            go_wp2_with (first
              | (go_at_call 88; refine hv.mono ?_; rintro e w2 ⟨rfl, hb2⟩)
              | (go_at_call 35; go_loud (refine (rfind_any _ _ _ _ _ _ hm ((hl.below hbl).below hb2)).mono ?_; rintro e w3 ⟨rfl, rfl⟩; rw [f2])))
            go_ret
            have hsz := alOf_size (s := s) hl.names n
            rw [List.take_of_length_le (by omega)] at hsz
            exact ⟨A1, m1, c1, rfl, hc1, by omega, by rw [hres.out]; exact (Strs.own ho rfl hsz).below hb2, hbl.tr hb2⟩
        · have hres := Lib.hid (al_no (l := terms ms) (s := s) (fun h => h0 h.1))
          rw [decide_eq_false h0] at hv
          clear h0
          go_wp2_with (go_at_call 88; refine hv.mono ?_; rintro e w2 ⟨rfl, hb2⟩)
          go_ret
          exact ⟨none, 0, 0, rfl, Nat.le_refl _, Nat.zero_le _, by rw [hres.out]; exact Strs.nil _, hbl.tr hb2⟩
  · obtain rfl := is_empty (show s.data.isEmpty = true from by rw [← empty_data]; exact hse)
    have hres := Lib.hid (show aliases (terms ms) ⟨#[]⟩ = [] from by
      unfold aliases
      split
      · next h =>
        have := ral_good (l := terms ms) (s := ⟨#[]⟩) h.1 h.2
        unfold ralOf at this
        rw [if_pos hse] at this
        unfold aliases at this
        rw [if_pos h] at this
        exact this.symm
      · rfl)
    have hgo := fun (w2 : World) (hb : Below w.heap.size w w2) => rgood_any A n c ms w2 hm (hl.below hb) hsm
    have HG := Lib.hid hgo
    have hno : Hid ((vvalid (terms ms)).2 = 0 → findAt (terms ms) ⟨#[]⟩ 0 = -1) := Lib.hid (fun h0 => by
      rcases findAt_cases (terms ms) ⟨#[]⟩ 0 with ⟨f1, f2⟩ | ⟨j, t, f1, f2, f3⟩
      · exact f2
      · obtain ⟨h1, h2⟩ := findT_some f1
        have h3 := (vok (show (vvalid (terms ms)).2 = eOK from h0)).name h1
        rw [h2, ← empty_data, hse] at h3; cases h3)
    clear hgo
    go_enter Tryz.func37, Tryz.ntmps37
    go_wp2
    go_loopw [5, 6] (fun o i wr => ∃ (k m1 c1 : Nat) (A1 : Option Addr), k ≤ n ∧ i = .int .i64 k ∧ o = .slice A1 m1 c1 ∧ Below w.heap.size w wr) (fun _ i _ => n - (intOf i).toNat)
    case atStart => exact ⟨0, 0, 0, none, by omega, rfl, rfl, brefl⟩
    case round =>
      obtain ⟨k, m1, c1, A1, hk, rfl, rfl, hbl⟩ := hrel
      by_cases hlt : k < n
      · have hlt' : (k : Int) < n := by omega
        obtain ⟨b, off, m, rfl, hx, hok, hb0, d1, d2, d3, d4, d5⟩ := (hl.below hbl).at_ hlt
        clear hx hok
        cases he : m.t.see.toList.isEmpty
        · go_wp2
          go_roundw
          case rel => exact ⟨k + 1, m1, c1, A1, by omega, by go_num, rfl, hbl⟩
          case measure => simp [intOf]; omega
        · go_wp2
          go_roundw
          case rel => exact ⟨k + 1, m1, c1, A1, by omega, by go_num, rfl, hbl⟩
          case measure => simp [intOf]; omega
      · have hlt' : ¬ (k : Int) < n := by omega
        by_cases h0 : (vvalid (terms ms)).2 = 0
        · have hv := HG.out wr hbl
          rw [decide_eq_true h0] at hv
          have f2 := hno.out h0
          clear h0
          go_wp2_with (first
            | (go_at_call 88; refine hv.mono ?_; rintro e w2 ⟨rfl, hb2⟩)
            | (go_at_call 35; go_loud (refine (rfind_any _ _ _ _ _ _ hm ((hl.below hbl).below hb2)).mono ?_; rintro e w3 ⟨rfl, rfl⟩; rw [f2])))
          go_ret
          exact ⟨none, 0, 0, rfl, Nat.le_refl _, Nat.zero_le _, by rw [hres.out]; exact Strs.nil _, hbl.tr hb2⟩
        · have hv := HG.out wr hbl
          rw [decide_eq_false h0] at hv
          clear h0
          go_wp2_with (go_at_call 88; refine hv.mono ?_; rintro e w2 ⟨rfl, hb2⟩)
          go_ret
          exact ⟨none, 0, 0, rfl, Nat.le_refl _, Nat.zero_le _, by rw [hres.out]; exact Strs.nil _, hbl.tr hb2⟩
end Go.Proofs.YtdfnfimajhagfaaGreatDoor
