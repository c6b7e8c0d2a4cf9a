/- Walks of the reference of layer 24: Preferred, Prefer, Aliases, Above, Below. -/
import Derived.Test.YtdfnfimajhagfaaGreatDoorT8
import Derived.Test.YtdfnfimajhagfaaGreatDoorV19
import Derived.Test.YtdfnfimajhagfaaGreatDoorMD
import Derived.Test.YtdfnfimajhagfaaGreatDoorV14
import Derived.Test.YtdfnfimajhagfaaGreatDoorPlan
import Derived.Test.YtdfnfimajhagfaaGreatDoorG1
import Derived.Test.YtdfnfimajhagfaaGreatDoorT13
namespace Go.Proofs.YtdfnfimajhagfaaGreatDoor
open Go.RowKit Go.Maps Rf
set_option maxRecDepth 20000 in
set_option maxHeartbeats 1000000 in
theorem rpreferred_any (m : TM) (w : World) :
    Calls Tryz.prog 89 #[.agg #[.string m.t.name, .int .i64 m.t.kind, .int .i64 m.t.lang, .string m.t.see, .slice m.A m.n m.c]] w fun e w' => e = .returned (.string (prefT m.t)) ∧ Below w.heap.size w w' := by
  cases he : m.t.see.toList.isEmpty
  · rw [prefT_see he]
    go_enter Tryz.func89, Tryz.ntmps89
    go_wp2
    go_ret
    exact ⟨rfl, brefl.al _⟩
  · rw [prefT_name he]
    go_enter Tryz.func89, Tryz.ntmps89
    go_wp2
    go_ret
    exact ⟨rfl, brefl.al _⟩
set_option maxRecDepth 20000 in
set_option maxHeartbeats 1000000 in
theorem rprefer_any (A : Option Addr) (n c : Nat) (ms : List TM) (s : S) (w : World) (hm : n ≤ 100000) (hl : Tms w A n ms) (hsm : ∀ m ∈ ms, m.small) :
    Calls Tryz.prog 34 #[.slice A n c, .string s] w fun e w' => e = .returned (.tuple #[.string (prefer (terms ms) s).1, .int .i64 (prefer (terms ms) s).2]) ∧ Below w.heap.size w w' := by
  have hv := rvalid_any A n c ms w hm hl hsm
  unfold prefer
  generalize hvl : vvalid (terms ms) = vl at hv ⊢
  obtain ⟨u, v⟩ := vl
  dsimp only at hv ⊢
  clear hvl
  generalize (u : Int) = u at hv
  by_cases h0 : v = 0
  · rw [if_pos h0]
    subst h0
    rcases findAt_cases (terms ms) s 0 with ⟨f1, f2⟩ | ⟨j, t, f1, f2, f3⟩
    · rw [f1]
      clear f1
      go_enter Tryz.func34, Tryz.ntmps34
      go_wp2_with (first
        | (go_at_call 13; go_loud (refine hv.mono ?_; rintro e w2 ⟨rfl, hb2⟩))
        | (go_at_call 35; go_loud (refine (rfind_any _ _ _ _ _ _ hm (hl.below hb2)).mono ?_; rintro e w3 ⟨rfl, rfl⟩; rw [f2])))
      go_ret2
      exact ⟨rfl, hb2⟩
    · rw [f1]
      rw [Nat.zero_add] at f2
      have hF := Lib.hid f3
      clear f1 f3
      go_enter Tryz.func34, Tryz.ntmps34
      go_wp2_with (first
        | (go_at_call 13; go_loud (refine hv.mono ?_; rintro e w2 ⟨rfl, hb2⟩))
        | (go_at_call 35; go_loud (refine (rfind_any _ _ _ _ _ _ hm (hl.below hb2)).mono ?_; rintro e w3 ⟨rfl, rfl⟩; rw [f2]; have hlt : j < n := by { have h1 := (List.getElem?_eq_some_iff.1 hF.out).1; rw [terms_length hl] at h1; exact h1 }; obtain ⟨b, off, m, rfl, hx, hok, hb0, d1, d2, d3, d4, d5⟩ := (hl.below hb2).at_ hlt; have htm : Hid (m.t = t) := Lib.hid (by { have h2 := terms_get hx; rw [hF.out] at h2; exact (Option.some.inj h2).symm })))
        | (go_at_call 89; go_loud (refine (rpreferred_any m _).mono ?_; rintro e w4 ⟨rfl, hb4⟩)))
      go_ret2
      refine ⟨?_, hb2.tr hb4⟩
      rw [← htm.out]
      rfl
  · rw [if_neg h0]
    go_enter Tryz.func34, Tryz.ntmps34
    have h0b : (v == 0) = false := by simpa using h0
    go_wp2_with (go_at_call 13; go_loud (refine hv.mono ?_; rintro e w2 ⟨rfl, hb2⟩))
    go_ret2
    exact ⟨rfl, hb2⟩
end Go.Proofs.YtdfnfimajhagfaaGreatDoor
/- Reference of layer 24: Folded, Stands. -/
namespace Rf
theorem toks_pair : ∀ (n : Nat) (l : List UInt8) (a : Nat), l.length = n → (toks l a).Pairwise (fun t u => t.hi ≤ u.lo) := by
  intro n
  induction n using Nat.strongRecOn with
  | _ n ih =>
    intro l a hl
    cases l with
    | nil => rw [toks_nil]; exact List.Pairwise.nil
    | cons b l =>
      have hlt : l.length < n := by rw [← hl]; simp
      by_cases hb : b = 32
      · subst hb
        rw [toks_blank]
        exact ih l.length hlt l (a + 1) rfl
      · rw [toks_more hb]
        exact List.Pairwise.cons (fun u hu => (toks_in _ _ _ rfl u hu).1) (ih _ (by rw [List.length_drop]; omega) _ _ rfl)
theorem toks_next {s : S} {i : Nat} {t u : Tok} (h : (toks (byts s) 0)[i]? = some t) (g : (toks (byts s) 0)[i + 1]? = some u) : t.hi ≤ u.lo := by
  obtain ⟨h1, h2⟩ := List.getElem?_eq_some_iff.1 h
  obtain ⟨g1, g2⟩ := List.getElem?_eq_some_iff.1 g
  have := List.pairwise_iff_getElem.1 (toks_pair _ (byts s) 0 rfl) i (i + 1) h1 g1 (by omega)
  rwa [h2, g2] at this
/-- the token is the last one of its unit: there the unit ends -/
theorem last_stop {s : S} {f i : Nat} (hi : i < (toks (byts s) 0).length) (hu : InUnit (toks (byts s) 0) f (i + 1)) (hf : f ≤ i) (h : lastT (toks (byts s) 0) i = true) : i + 1 = f + unitLen ((toks (byts s) 0).drop f) := by
  obtain ⟨t, ht⟩ : ∃ t, (toks (byts s) 0)[i]? = some t := ⟨_, List.getElem?_eq_getElem hi⟩
  by_cases hl : i + 1 < (toks (byts s) 0).length
  · obtain ⟨u, hu'⟩ : ∃ u, (toks (byts s) 0)[i + 1]? = some u := ⟨_, List.getElem?_eq_getElem hl⟩
    rw [lastT_two ht hu', decide_eq_true_iff] at h
    exact hu.stop (by omega) hu' (by simpa using ht) (by omega)
  · exact hu.last (by omega) (by omega)
/-- it is not: the next one belongs to the unit -/
theorem last_next {s : S} {f i : Nat} (hi : i < (toks (byts s) 0).length) (hu : InUnit (toks (byts s) 0) f (i + 1)) (hf : f ≤ i) (h : lastT (toks (byts s) 0) i = false) : i + 1 < (toks (byts s) 0).length ∧ InUnit (toks (byts s) 0) f (i + 1 + 1) := by
  obtain ⟨t, ht⟩ : ∃ t, (toks (byts s) 0)[i]? = some t := ⟨_, List.getElem?_eq_getElem hi⟩
  by_cases hl : i + 1 < (toks (byts s) 0).length
  · refine ⟨hl, ?_⟩
    obtain ⟨u, hu'⟩ : ∃ u, (toks (byts s) 0)[i + 1]? = some u := ⟨_, List.getElem?_eq_getElem hl⟩
    rw [lastT_two ht hu', decide_eq_false_iff_not] at h
    have := toks_next ht hu'
    exact hu.next (by omega) hu' (by simpa using ht) (by omega)
  · rw [lastT_end (by omega)] at h; cases h
end Rf
namespace Go.Proofs.YtdfnfimajhagfaaGreatDoor
open Go.RowKit Go.Maps Rf
set_option maxRecDepth 20000 in
set_option maxHeartbeats 4000000 in
theorem rfolded_any (s : S) (w : World) (hs : s.size ≤ 1000000) :
    Calls Tryz.prog 44 #[.string s] w fun e w' => ∃ A n c, e = .returned (.slice A n c) ∧ n ≤ c ∧ n ≤ s.size ∧ Strs w' A n (folded s (toks (byts s) 0)) ∧ Below w.heap.size w w' := by
  obtain ⟨L, hL⟩ : ∃ L, toks (byts s) 0 = L := ⟨_, rfl⟩
  have hstop := fun (f i : Nat) (hi : i < L.length) (hu : InUnit L f (i + 1)) (hf : f ≤ i) (h : lastT L i = true) => hL ▸ last_stop (s := s) (hL ▸ hi) (hL ▸ hu) hf (hL ▸ h)
  have hnext := fun (f i : Nat) (hi : i < L.length) (hu : InUnit L f (i + 1)) (hf : f ≤ i) (h : lastT L i = false) => hL ▸ last_next (s := s) (hL ▸ hi) (hL ▸ hu) hf (hL ▸ h)
  have HST := Lib.hid hstop
  have HNX := Lib.hid hnext
  clear hstop hnext
  rw [hL]
  go_enter Tryz.func44, Tryz.ntmps44
  go_wp2_with (go_at_call 98; go_loud (refine (rsplit_any _ _ hs).mono ?_; rintro e w1 ⟨A, n, c, rfl, hn, hln, hrd, hb1⟩; rw [hL] at hln hrd))
  go_loopw [4, 5, 6] (fun t4 t5 t6 wr => ∃ (f i c2 : Nat) (A2 : Option Addr) (D : List S), f ≤ i ∧ i ≤ n ∧ t6 = .int .i64 i ∧ t5 = .int .i64 f ∧ t4 = .slice A2 i c2 ∧ i ≤ c2 ∧ D.length = f ∧ Hid (folded s L = D ++ folded s (L.drop f)) ∧ Hid (i < n → InUnit L f (i + 1)) ∧ Hid (f = i ∨ i < n) ∧
      Own wr w1.heap.size 9 1 (.slice A2 i c2) i ((D ++ List.replicate (i - f) eS).map Value.string) ∧ Below w1.heap.size w1 wr) (fun _ _ t6 _ => n - (intOf t6).toNat)
  case atStart =>
    refine ⟨0, 0, 0, none, [], by omega, by omega, rfl, rfl, rfl, by omega, rfl, Lib.hid rfl, (fun h => ?_), .inl rfl, Own.nil _ _ _ (Nat.le_refl _), brefl⟩
    obtain ⟨u, hu⟩ : ∃ u, L[0]? = some u := ⟨_, List.getElem?_eq_getElem (by omega)⟩
    exact InUnit.first hu
  case round =>
    obtain ⟨f, i, c2, A2, D, hfi, hin, rfl, rfl, rfl, hc2, hDl, hD, hU, hfe, ho, hb⟩ := hrel
    by_cases hlt : i < n
    · have hlt' : (i : Int) < n := by omega
      have hrow : ((D ++ List.replicate (i - f) eS).map Value.string) ++ [.string eS] = (D ++ List.replicate (i + 1 - f) eS).map Value.string := by
        rw [show i + 1 - f = (i - f) + 1 from by omega, List.replicate_succ']
        simp
      have HROW := Lib.hid hrow
      clear hrow
      have hUi := hU.out hlt
      cases hla : lastT L i
      · have hnx := HNX.out f i (by omega) hUi hfi hla
        have HU2 := Lib.hid hnx
        have HLA := Lib.hid hla
        clear hnx hla hUi
        go_wp2_with (first
          | (at_builtin; go_loud (refine wpList_app _ stringsT rfl (.tmp 18) (.tmp 19) rfl (ho.alloc _) rfl rfl (news := [.string eS]) rfl (Rds.one wr (.string eS) 9) (by simp [Value.oneCell']) ?_ ?_ ?_; (focus omega); (focus omega); intro A4 c4 w4 o4 n4 g4 _; have hb4 := (hb.al (.cells #[.string eS] 9)).gr g4 ho.row))
          | (go_at_call 99; go_loud (refine (rlast_any A n c L i w4 hln (by omega) (hrd.below hb4) hlt).mono ?_; rintro e w5 ⟨rfl, hb5⟩; rw [HLA.out])))
        go_roundw
        case rel => exact ⟨f, i + 1, c4, A4, D, by omega, by omega, by go_num, rfl, rfl, n4, hDl, hD, (fun _ => HU2.out.2), .inr (by have := HU2.out.1; omega), by rw [← HROW.out]; exact o4.below hb5, hb4.tr hb5⟩
        case measure => simp [intOf]; omega
      · have hkU := Lib.hid (HST.out f i (by omega) hUi hfi hla)
        have HLA := Lib.hid hla
        clear hla hUi
        go_wp2_with (first
          | (at_builtin; go_loud (refine wpList_app _ stringsT rfl (.tmp 18) (.tmp 19) rfl (ho.alloc _) rfl rfl (news := [.string eS]) rfl (Rds.one wr (.string eS) 9) (by simp [Value.oneCell']) ?_ ?_ ?_; (focus omega); (focus omega); intro A4 c4 w4 o4 n4 g4 _; have hb4 := (hb.al (.cells #[.string eS] 9)).gr g4 ho.row))
          | (go_at_call 99; go_loud (refine (rlast_any A n c L i w4 hln (by omega) (hrd.below hb4) hlt).mono ?_; rintro e w5 ⟨rfl, hb5⟩; rw [HLA.out])))
        have hbx := hb4.tr hb5
        have ho5 := o4.below hb5
        rw [HROW.out] at ho5
        obtain ⟨ob, rfl, _, _⟩ := ho5.addr (by omega)
        clear o4 g4 hb4 hb5 ho hb HST HNX hU
        go_loop [7, 8] (fun t7 t8 => ∃ (k : Nat) (pl : Bool), f ≤ k ∧ k ≤ i + 1 ∧ t8 = .int .i64 k ∧ t7 = .bool pl ∧ Hid (pl = ((L.drop f).take (k - f)).all plainT)) (fun _ t8 => i + 1 - (intOf t8).toNat)
        case atStart => exact ⟨f, true, by omega, by omega, rfl, rfl, Lib.hid (by rw [Nat.sub_self]; rfl)⟩
        case round =>
          obtain ⟨k, pl, hfk, hki, rfl, rfl, hpl⟩ := hrel
          by_cases hk : k ≤ i
          · have hk' : (k : Int) ≤ i := by omega
            have hkn : (k : Int) < n := by omega
            obtain ⟨t, ht⟩ : ∃ t, L[k]? = some t := ⟨_, List.getElem?_eq_getElem (by omega)⟩
            obtain ⟨b, off, rfl, hb0, c0, c1, c2⟩ := tok_at (hrd.below hbx) ht
            have hP := Lib.hid (take_drop_snoc hfk ht)
            clear ht
            cases pl
            · have hpl2 := Lib.hid (show false = ((L.drop f).take (k + 1 - f)).all plainT from by rw [hP.out, List.all_append, ← hpl.out]; rfl)
              go_wp2
              go_round
              case rel => exact ⟨k + 1, false, by omega, by omega, by go_num, rfl, hpl2⟩
              case measure => simp [intOf]; omega
            · by_cases k0 : t.kd = 0
              · have hpl2 := Lib.hid (show true = ((L.drop f).take (k + 1 - f)).all plainT from by rw [hP.out, List.all_append, ← hpl.out]; simp [plainT, k0])
                rw [k0] at c2
                go_wp2
                go_round
                case rel => exact ⟨k + 1, true, by omega, by omega, by go_num, rfl, hpl2⟩
                case measure => simp [intOf]; omega
              · have k0' : ((t.kd : Int) == 0) = false := by rw [beq_eq_false_iff_ne]; omega
                by_cases k2 : t.kd = 2
                · have hpl2 := Lib.hid (show true = ((L.drop f).take (k + 1 - f)).all plainT from by rw [hP.out, List.all_append, ← hpl.out]; simp [plainT, k2])
                  rw [k2] at c2
                  go_wp2
                  go_round
                  case rel => exact ⟨k + 1, true, by omega, by omega, by go_num, rfl, hpl2⟩
                  case measure => simp [intOf]; omega
                · have k2' : ((t.kd : Int) == 2) = false := by rw [beq_eq_false_iff_ne]; omega
                  have hpl2 := Lib.hid (show false = ((L.drop f).take (k + 1 - f)).all plainT from by rw [hP.out, List.all_append, ← hpl.out]; simp [plainT, k0, k2])
                  go_wp2
                  go_round
                  case rel => exact ⟨k + 1, false, by omega, by omega, by go_num, rfl, hpl2⟩
                  case measure => simp [intOf]; omega
          · have hki' : k = i + 1 := by omega
            subst hki'
            have hk' : ¬ (((i + 1 : Nat) : Int)) ≤ i := by omega
            clear hk
            cases pl
            · have hE := Lib.hid (show folded s L = (D ++ List.replicate (i + 1 - f) eS) ++ folded s (L.drop (i + 1)) from by
                rw [hD.out, folded_more s (by intro e; have := congrArg List.length e; rw [List.length_drop] at this; simp at this; omega), List.append_assoc]
                have hkf : i + 1 - f = unitLen (L.drop f) := by have := hkU.out; omega
                rw [← hkf, ← hpl.out, List.drop_drop, show f + (i + 1 - f) = i + 1 from by omega]
                congr 2
                rw [List.eq_replicate_iff]
                refine ⟨by rw [List.length_map, List.length_take, List.length_drop]; omega, fun x hx => ?_⟩
                obtain ⟨y, _, rfl⟩ := List.mem_map.1 hx
                exact wordOf_false s y)
              go_wp2
              go_loopw [9] (fun t9 wy => t9 = .int .i64 f ∧ Own wy w1.heap.size 9 1 (.slice (some ⟨ob, 0, none⟩) (i + 1) c4) (i + 1) ((D ++ List.replicate (i + 1 - f) eS).map Value.string) ∧ Below w1.heap.size w1 wy) (fun _ _ => 0)
              case atStart => exact ⟨rfl, ho5, hbx⟩
              case round =>
                obtain ⟨rfl, hoy, hby⟩ := hrel
                go_wp2
                go_roundw
                case rel => exact ⟨i + 1, i + 1, c4, _, D ++ List.replicate (i + 1 - f) eS, by omega, by omega, by go_num, by go_num, rfl, n4, by rw [List.length_append, List.length_replicate]; omega, hE, (fun h => by
                  obtain ⟨u, hu⟩ : ∃ u, L[i + 1]? = some u := ⟨_, List.getElem?_eq_getElem (by omega)⟩
                  exact InUnit.first hu), .inl rfl, by rw [Nat.sub_self, List.replicate_zero, List.append_nil]; exact hoy, hby⟩
                case measure => simp [intOf]; omega
            · go_wp2
              go_loopw [9] (fun t9 wy => ∃ (k : Nat) (E : List S), f ≤ k ∧ k ≤ i + 1 ∧ t9 = .int .i64 k ∧ E.length = k ∧ Hid (E = D ++ ((L.drop f).take (k - f)).map (wordOf s true)) ∧ Own wy w1.heap.size 9 1 (.slice (some ⟨ob, 0, none⟩) (i + 1) c4) (i + 1) ((E ++ List.replicate (i + 1 - k) eS).map Value.string) ∧ Below w1.heap.size w1 wy) (fun t9 _ => i + 1 - (intOf t9).toNat)
              case atStart => exact ⟨f, D, by omega, by omega, rfl, hDl, Lib.hid (by rw [Nat.sub_self]; simp), ho5, hbx⟩
              case round =>
                obtain ⟨k, E, hfk, hki, rfl, hEl, hE, hoy, hby⟩ := hrel
                by_cases hlt3 : k ≤ i
                · have hlt3' : (k : Int) ≤ i := by omega
                  obtain ⟨t, ht⟩ : ∃ t, L[k]? = some t := ⟨_, List.getElem?_eq_getElem (by omega)⟩
                  have htk := toks_ok (hL ▸ ht)
                  obtain ⟨b3, off3, rfl, hb0, c0, c1, c2⟩ := tok_at (hrd.below hby) ht
                  obtain ⟨m, hm⟩ : ∃ m, i + 1 - k = m + 1 := ⟨i - k, by omega⟩
                  have hmm : i + 1 - (k + 1) = m := by omega
                  rw [hm] at hoy
                  have hT := Lib.hid ht
                  have hP := Lib.hid (take_drop_snoc hfk ht)
                  clear ht hm
                  by_cases hk0 : t.kd = 0
                  · have hE2 := Lib.hid (show E ++ [foldS (s.extract t.lo t.hi)] = D ++ ((L.drop f).take (k + 1 - f)).map (wordOf s true) from by rw [hP.out, List.map_append, ← List.append_assoc, ← hE.out]; simp [wordOf, hk0])
                    rw [hk0] at c2
                    have g1 : (t.lo : Int) ≤ t.hi := by omega
                    have g2 : (t.hi : Int) ≤ s.size := by omega
                    have g3 : (k : Int) < (i : Int) + 1 := by omega
                    have g4 : (k : Int) < n := by omega
                    have hcells : ∀ wz, Below wr.heap.size wr wz → wz.cell? ⟨b3, off3 + k * 3, none⟩ = some (.int .i64 t.lo) ∧ wz.cell? ⟨b3, off3 + k * 3 + 1, none⟩ = some (.int .i64 t.hi) := fun wz hz => ⟨(hz.cell (p := ⟨b3, off3 + k * 3, none⟩) hb0).trans c0, (hz.cell (p := ⟨b3, off3 + k * 3 + 1, none⟩) hb0).trans c1⟩
                    have hbc : Below wr.heap.size wr wr.drew := brefl.drn 1
                    have hS := hcells _ hbc
                    have hob : w1.heap.size ≤ ob := hoy.row ob rfl
                    go_wp2
                    refine wp_region_mix [(true, 0), (true, 1), (true, 2), (true, 3), (true, 4), (true, 5), (true, 6), (true, 7), (true, 8), (true, 9), (true, 10), (true, 11), (true, 12), (true, 13), (false, 14), (true, 15), (false, 16)] 16 (fun wz => wz.cell? ⟨b3, off3 + k * 3, none⟩ = some (.int .i64 t.lo) ∧ wz.cell? ⟨b3, off3 + k * 3 + 1, none⟩ = some (.int .i64 t.hi)) (by kernel_rfl) (by kernel_rfl) ?_
                    refine wpMix_put (v := ?_) rfl rfl (Or.inl ⟨by rfl, fun wz hz => ?_⟩) hS ?_
                    rotate_left
                    (focus (go_simp; try (with_reducible rfl)))
                    simp only [List.setIfInBounds_toArray, List.set_cons_succ, List.set_cons_zero]
                    refine wpMix_put (v := ?_) rfl rfl (Or.inl ⟨by rfl, fun wz hz => ?_⟩) hS ?_
                    rotate_left
                    (focus (go_simp; try (with_reducible rfl)))
                    simp only [List.setIfInBounds_toArray, List.set_cons_succ, List.set_cons_zero]
                    refine wpMix_put (v := ?_) rfl rfl (Or.inl ⟨by rfl, fun wz hz => ?_⟩) hS ?_
                    rotate_left
                    (focus (go_simp; try (with_reducible rfl)))
                    simp only [List.setIfInBounds_toArray, List.set_cons_succ, List.set_cons_zero]
                    refine wpMix_put (v := ?_) rfl rfl (Or.inl ⟨by rfl, fun wz hz => ?_⟩) hS ?_
                    rotate_left
                    (focus (go_simp; try (with_reducible rfl)))
                    simp only [List.setIfInBounds_toArray, List.set_cons_succ, List.set_cons_zero]
                    refine wpMix_put (v := ?_) rfl rfl (Or.inl ⟨by rfl, fun wz hz => ?_⟩) hS ?_
                    rotate_left
                    (focus (go_simp; try (with_reducible rfl)))
                    simp only [List.setIfInBounds_toArray, List.set_cons_succ, List.set_cons_zero]
                    refine wpMix_put (v := ?_) rfl rfl (Or.inl ⟨by rfl, fun wz hz => ?_⟩) hS ?_
                    rotate_left
                    (focus (go_simp; try (with_reducible rfl)))
                    simp only [List.setIfInBounds_toArray, List.set_cons_succ, List.set_cons_zero]
                    refine wpMix_put (v := ?_) rfl rfl (Or.inl ⟨by rfl, fun wz hz => ?_⟩) hS ?_
                    rotate_left
                    (focus (go_simp; try (with_reducible rfl)))
                    simp only [List.setIfInBounds_toArray, List.set_cons_succ, List.set_cons_zero]
                    refine wpMix_put (v := ?_) rfl rfl (Or.inl ⟨by rfl, fun wz hz => ?_⟩) hS ?_
                    rotate_left
                    (focus (go_simp; try (with_reducible rfl)))
                    simp only [List.setIfInBounds_toArray, List.set_cons_succ, List.set_cons_zero]
                    refine wpMix_put (v := ?_) rfl rfl (Or.inl ⟨by rfl, fun wz hz => ?_⟩) hS ?_
                    rotate_left
                    (focus (go_simp; try (with_reducible rfl)))
                    simp only [List.setIfInBounds_toArray, List.set_cons_succ, List.set_cons_zero]
                    refine wpMix_put (v := ?_) rfl rfl (Or.inl ⟨by rfl, fun wz hz => ?_⟩) hS ?_
                    rotate_left
                    (focus (go_simp; try (with_reducible rfl)))
                    simp only [List.setIfInBounds_toArray, List.set_cons_succ, List.set_cons_zero]
                    refine wpMix_put (v := ?_) rfl rfl (Or.inl ⟨by rfl, fun wz hz => ?_⟩) hS ?_
                    rotate_left
                    (focus (go_simp; try (with_reducible rfl)))
                    simp only [List.setIfInBounds_toArray, List.set_cons_succ, List.set_cons_zero]
                    refine wpMix_put (v := ?_) rfl rfl (Or.inl ⟨by rfl, fun wz hz => ?_⟩) hS ?_
                    rotate_left
                    (focus (go_simp; try (with_reducible rfl)))
                    simp only [List.setIfInBounds_toArray, List.set_cons_succ, List.set_cons_zero]
                    refine wpMix_put (v := ?_) rfl rfl (Or.inl ⟨by rfl, fun wz hz => ?_⟩) hS ?_
                    rotate_left
                    (focus (go_simp; try (with_reducible rfl)))
                    simp only [List.setIfInBounds_toArray, List.set_cons_succ, List.set_cons_zero]
                    refine wpMix_put (v := ?_) rfl rfl (Or.inl ⟨by rfl, fun wz hz => ?_⟩) hS ?_
                    rotate_left
                    (focus (go_simp; try (with_reducible rfl)))
                    simp only [List.setIfInBounds_toArray, List.set_cons_succ, List.set_cons_zero]
                    refine wpMix_step rfl (fun K hK => ?_)
                    go_simp
                    refine (rfold_any _ _ ?_).mono ?_
                    · rw [ByteArray.size_extract]; omega
                    rintro e w7 ⟨rfl, hbd⟩
                    go_simp
                    have hbc7 := hbc.tr hbd
                    have hS7 := hcells _ hbc7
                    have ho7 := (hoy.drew).below hbd
                    have z7 := ho7.cellAt rfl (hEl ▸ row_get E m)
                    have f7 := ho7.frozenAt rfl k
                    refine hK _ _ (fun _ => hS7) ?_
                    clear hK K hS
                    have hS := hS7
                    clear hS7
                    refine wpMix_put (v := ?_) rfl rfl (Or.inl ⟨by rfl, fun wz hz => ?_⟩) hS ?_
                    rotate_left
                    (focus (go_simp; try (with_reducible rfl)))
                    simp only [List.setIfInBounds_toArray, List.set_cons_succ, List.set_cons_zero]
                    refine wpMix_step rfl (fun K hK => ?_)
                    go_simp
                    refine hK _ _ (fun h => absurd rfl h) ?_
                    clear hK K
                    refine wpMix_nil ?_
                    go_wp2
                    go_roundw
                    case rel => exact ⟨k + 1, _, by omega, by omega, by go_num, by rw [List.length_append, hEl]; rfl, hE2, by
                      have := ho7.set rfl (j := k) (.string (foldS (s.extract t.lo t.hi)))
                      rw [← hEl, row_set, hEl] at this
                      rw [hmm]
                      exact this, (hby.tr hbc7).st (p := ⟨ob, k, none⟩) hob _⟩
                    case measure => simp [intOf]; omega
                  · have hE2 := Lib.hid (show E ++ [eS] = D ++ ((L.drop f).take (k + 1 - f)).map (wordOf s true) from by rw [hP.out, List.map_append, ← List.append_assoc, ← hE.out]; simp [wordOf, hk0])
                    have hk0' : ((t.kd : Int) == 0) = false := by rw [beq_eq_false_iff_ne]; omega
                    go_wp2
                    go_roundw
                    case rel => exact ⟨k + 1, _, by omega, by omega, by go_num, by rw [List.length_append, hEl]; rfl, hE2, by
                      rw [row_keep] at hoy
                      rw [hmm]
                      exact hoy, hby⟩
                    case measure => simp [intOf]; omega
                · have hki' : k = i + 1 := by omega
                  subst hki'
                  have hlt3' : ¬ (((i + 1 : Nat) : Int)) ≤ i := by omega
                  have hE3 := Lib.hid (show folded s L = E ++ folded s (L.drop (i + 1)) from by
                    rw [hD.out, folded_more s (by intro e; have := congrArg List.length e; rw [List.length_drop] at this; simp at this; omega), hE.out, List.append_assoc]
                    have hkf : i + 1 - f = unitLen (L.drop f) := by have := hkU.out; omega
                    rw [← hkf, ← hpl.out, List.drop_drop, show f + (i + 1 - f) = i + 1 from by omega])
                  go_wp2
                  go_roundw
                  case rel => exact ⟨i + 1, i + 1, c4, _, E, by omega, by omega, by go_num, by go_num, rfl, n4, hEl, hE3, (fun h => by
                    obtain ⟨u, hu⟩ : ∃ u, L[i + 1]? = some u := ⟨_, List.getElem?_eq_getElem (by omega)⟩
                    exact InUnit.first hu), .inl rfl, by rw [Nat.sub_self, List.replicate_zero, List.append_nil] at hoy; rw [Nat.sub_self, List.replicate_zero, List.append_nil]; exact hoy, hby⟩
                  case measure => simp [intOf]; omega
    · have hin' : i = n := by omega
      subst hin'
      have hlt' : ¬ (i : Int) < i := by omega
      have hfi' : f = i := by
        rcases hfe.out with h | h
        · exact h
        · omega
      have HE := Lib.hid (show folded s L = D from by rw [hD.out, List.drop_of_length_le (by omega), folded_nil, List.append_nil])
      go_wp2
      go_ret
      refine ⟨A2, i, c2, rfl, hc2, by omega, ?_, hb1.tr hb⟩
      rw [HE.out]
      refine Strs.own ho (by rw [hfi', Nat.sub_self]; simp) fun x hx => ?_
      rw [← HE.out] at hx
      have := folded_size s _ L rfl x hx
      unfold maxLen; omega
set_option maxRecDepth 20000 in
set_option maxHeartbeats 2000000 in
theorem rstands_any (Aw : Option Addr) (nW cW : Nat) (W : List S) (k : Nat) (nm : S) (w : World) (hnW : nW ≤ 1000000) (hs : nm.size ≤ 1000000) (hW : Strs w Aw nW W) (hk : k ≤ nW) :
    Calls Tryz.prog 46 #[.slice Aw nW cW, .int .i64 k, .string nm] w fun e w' => e = .returned (.bool (stands W k (nw nm))) ∧ Below w.heap.size w w' := by
  have hWl := hW.1
  obtain ⟨np, hnp⟩ : ∃ np, (nw nm).length = np := ⟨_, rfl⟩
  have hk0 : ¬ (k : Int) < 0 := by omega
  by_cases hfit : k + np ≤ nW
  · have hfit' : ¬ (nW : Int) < (k : Int) + np := by omega
    obtain ⟨sv, hsv⟩ : ∃ sv, stands W k (nw nm) = sv := ⟨_, rfl⟩
    rw [hsv]
    have HV := Lib.hid (show sv = decide ((W.drop k).take np = nw nm) from by rw [← hsv]; unfold stands; rw [hnp, decide_eq_true (by omega), Bool.true_and])
    clear hsv
    go_enter Tryz.func46, Tryz.ntmps46
    go_wp2_with (go_at_call 47; go_loud (refine (words_any nm _ hs).mono ?_; rintro e w1 ⟨A3, n3, c3, rfl, hc3, hn3, hs3, hb1⟩; obtain rfl : n3 = np := hs3.1.symm.trans hnp; replace hs3 : Strs w1 A3 n3 (nw nm) := hs3))
    go_loopw [8] (fun t8 wr => ∃ i : Nat, i ≤ n3 ∧ t8 = .int .i64 i ∧ Hid ((W.drop k).take i = (nw nm).take i) ∧ Below w1.heap.size w1 wr) (fun t8 _ => n3 - (intOf t8).toNat)
    case atStart => exact ⟨0, by omega, rfl, Lib.hid (by rw [List.take_zero, List.take_zero]), brefl⟩
    case round =>
      obtain ⟨i, hi, rfl, hI, hbr⟩ := hrel
      by_cases hlt : i < n3
      · have hlt' : (i : Int) < n3 := by omega
        obtain ⟨b1, o1, x, rfl, hx, hxs, hbx, cx⟩ := ((hW.below hb1).below hbr).at_ (k := k + i) (by omega)
        obtain ⟨b2, o2, y, rfl, hy, hys, hby, cy⟩ := (hs3.below hbr).at_ (k := i) hlt
        have hwr := IntWalk.i64_in ((k : Int) + i) (by omega)
        have hki : (k : Int) + i < nW := by omega
        have hki0 : (0 : Int) ≤ (k : Int) + i := by omega
        have hkt : ((k : Int) + i).toNat = k + i := by omega
        have hdx : (W.drop k)[i]? = some x := by rw [List.getElem?_drop]; exact hx
        by_cases hxy : x = y
        · have hxy' : (x.toList == y.toList) = true := (eqS_iff _ _).2 hxy
          have hI2 := Lib.hid (show (W.drop k).take (i + 1) = (nw nm).take (i + 1) from by rw [Rf.take_snoc hdx, Rf.take_snoc hy, hI.out, hxy])
          clear hx hy hdx hxy hnp
          go_wp2
          go_quiet (fail)
          go_wp2
          go_roundw
          case rel => exact ⟨i + 1, by omega, by go_num, hI2, hbr.drn _⟩
          case measure => simp [intOf]; omega
        · have hxy' : (x.toList == y.toList) = false := by
            cases h : (x.toList == y.toList)
            · rfl
            · exact absurd ((eqS_iff _ _).1 h) hxy
          have HF := Lib.hid (show sv = false from by
            rw [HV.out, decide_eq_false_iff_not]
            intro e
            have h1 : (nw nm)[i]? = some x := by rw [← e, List.getElem?_take, if_pos hlt]; exact hdx
            rw [hy] at h1
            exact hxy (Option.some.inj h1).symm)
          clear hx hy hdx hxy hnp
          go_wp2
          go_quiet (fail)
          go_wp2
          go_ret
          exact ⟨by rw [HF.out]; rfl, hb1.tr (hbr.drn _)⟩
      · have hlt' : ¬ (i : Int) < n3 := by omega
        have HF := Lib.hid (show sv = true from by
          rw [HV.out, decide_eq_true_iff]
          have : i = n3 := by omega
          subst this
          rw [hI.out, List.take_of_length_le (by omega)])
        go_wp2
        go_ret
        exact ⟨by rw [HF.out]; rfl, hb1.tr hbr⟩
  · have hfit' : (nW : Int) < (k : Int) + np := by omega
    have hsv : stands W k (nw nm) = false := by unfold stands; rw [hnp, decide_eq_false (by omega), Bool.false_and]
    rw [hsv]
    clear hsv
    go_enter Tryz.func46, Tryz.ntmps46
    go_wp2_with (go_at_call 47; go_loud (refine (words_any nm _ hs).mono ?_; rintro e w1 ⟨A3, n3, c3, rfl, hc3, hn3, hs3, hb1⟩; obtain rfl : n3 = np := hs3.1.symm.trans hnp; replace hs3 : Strs w1 A3 n3 (nw nm) := hs3))
    go_ret
    exact ⟨rfl, hb1⟩
end Go.Proofs.YtdfnfimajhagfaaGreatDoor
/- The texts that the laws make of numbers: some strings, not long. -/
namespace Go.Proofs.YtdfnfimajhagfaaGreatDoor
open Go.RowKit Go.Maps Rf
/-- some string of at most k bytes -/
def ASt (k : Nat) (w : World) (e : Ending) (w' : World) : Prop := ∃ s : S, e = .returned (.string s) ∧ s.size ≤ k ∧ Below w.heap.size w w'
/-- a table of strings -/
def Tbl (w : World) (b : Nat) (l : List S) : Prop := b < w.heap.size ∧ ∀ j x, l[j]? = some x → w.cell? ⟨b, j, none⟩ = some (.string x)
theorem Tbl.below {w w' : World} {b : Nat} {l : List S} (h : Tbl w b l) (hb : Below w.heap.size w w') : Tbl w' b l := ⟨Nat.lt_of_lt_of_le h.1 hb.size, fun j x hx => (hb.cell (p := ⟨b, j, none⟩) h.1).trans (h.2 j x hx)⟩
theorem Tbl.new (w : World) (l : List S) (t : TypeId) {a : Array Value} (ha : a.toList = l.map Value.string) : Tbl (w.alloc (.cells a t)) w.heap.size l := ⟨by simp, fun j x hx => by
  rw [cell_of_row _ _ j a t (0, 0) (heap_alloc_new w _), ← Array.getElem?_toList, ha, List.getElem?_map, hx]; rfl⟩
set_option maxRecDepth 20000 in
set_option maxHeartbeats 1000000 in
/-- the number made of an element of a list, the same in every world -/
theorem atd (A : Option Addr) (n c : Nat) (l : List Int) (i m : Int) (w0 : World) (h0 : Ints w0 A n l) (hm : 1 ≤ m) (hm2 : m ≤ 9223372036854775807) :
    ∃ v : Nat, (v : Int) < m ∧ ∀ w, Ints w A n l → Calls Tryz.prog 56 #[.slice A n c, .int .i64 i, .int .i64 m] w fun e w' => e = .returned (.int .i64 v) ∧ w = w' := by
  by_cases hi0 : i < 0
  · refine ⟨0, by omega, fun w _ => ?_⟩
    go_enter Tryz.func56, Tryz.ntmps56
    go_wp2
    go_ret
    exact ⟨rfl, rfl⟩
  · by_cases hi1 : (n : Int) ≤ i
    · refine ⟨0, by omega, fun w _ => ?_⟩
      go_enter Tryz.func56, Tryz.ntmps56
      go_wp2
      go_ret
      exact ⟨rfl, rfl⟩
    · obtain ⟨k, rfl⟩ : ∃ k : Nat, i = k := ⟨i.toNat, by omega⟩
      obtain ⟨_, _, x, eA, hx, hok, _, _⟩ := h0.at_ (k := k) (by omega)
      clear eA
      have hr := around_range x m hm
      obtain ⟨v, hv⟩ : ∃ v : Nat, around x m = v := ⟨(around x m).toNat, by omega⟩
      refine ⟨v, by omega, fun w hl => ?_⟩
      obtain ⟨b, off, x', rfl, hx', _, hb, hc⟩ := hl.at_ (k := k) (by omega)
      rw [hx] at hx'
      injection hx' with hx'
      subst hx'
      have h2 : (k : Int) < n := by omega
      have h3 : k < n := by omega
      have ha := around_any x m w hok.1 hok.2 hm hm2
      rw [hv] at ha
      clear hx hb h0 hr hv
      go_enter Tryz.func56, Tryz.ntmps56
      go_wp2_with (go_at_call 24; refine ha.mono ?_; rintro e w' ⟨rfl, rfl⟩)
      go_ret
      exact ⟨rfl, rfl⟩
set_option maxRecDepth 20000 in
set_option maxHeartbeats 1000000 in
theorem short120_any (s : S) (w : World) : Calls Tryz.prog 16 #[.string s, .int .i64 120] w fun e w' => ∃ r : S, e = .returned (.string r) ∧ r.size ≤ 120 ∧ w = w' := by
  by_cases h : 120 < s.size
  · have h' : (120 : Int) < s.size := by omega
    have h2 : (120 : Int) ≤ s.size := by omega
    go_enter Tryz.func16, Tryz.ntmps16
    go_wp2
    go_ret
    exact ⟨_, rfl, by rw [ByteArray.size_extract]; omega, rfl⟩
  · have h' : ¬ (120 : Int) < s.size := by omega
    go_enter Tryz.func16, Tryz.ntmps16
    go_wp2
    go_ret
    exact ⟨s, rfl, by omega, rfl⟩
set_option maxRecDepth 100000 in
set_option maxHeartbeats 2000000 in
theorem rcapital_any (s : S) (w : World) (hs : s.size ≤ 1000000) :
    Calls Tryz.prog 133 #[.string s] w (ASt s.size w) := by
  obtain ⟨cap, w1, hcv, hcap, hrow1, hb1⟩ := conv_in s w
  have hbl : (byts s).length = s.size := by simp [byts]
  obtain ⟨b, hb⟩ : ∃ b, w.heap.size = b := ⟨_, rfl⟩
  have hbw : w.heap.size ≤ b := Nat.le_of_eq hb
  rw [hb] at hcv hrow1
  clear hb
  have hof : ∀ l : List UInt8, l.length = s.size → (ofB l).size = s.size := fun l hl => by show l.toArray.size = _; rw [List.size_toArray]; exact hl
  by_cases h0 : s.size = 0
  · have hn : ¬ (0 : Int) < s.size := by omega
    have hback := conv_out (cap := cap) hrow1 hbl
    have HF := Lib.hid (hof _ hbl)
    clear h0 hof
    go_enter Tryz.func133, Tryz.ntmps133
    go_wp2
    go_ret
    exact ⟨_, rfl, by rw [HF.out]; exact Nat.le_refl _, hb1⟩
  · have hn : (0 : Int) < s.size := by omega
    have hgt : 0 < (byts s).length := by omega
    obtain ⟨x, hx⟩ : ∃ x, (byts s)[0]? = some x := ⟨_, List.getElem?_eq_getElem hgt⟩
    have hc := hrow1.cell 0 x hx
    have hf := hrow1.fr 0 hgt
    have hxl := x.toNat_lt
    by_cases h1 : 97 ≤ x.toNat
    · have h1' : (97 : Int) ≤ x.toNat := by omega
      by_cases h2 : x.toNat ≤ 122
      · have h2' : (x.toNat : Int) ≤ 122 := by omega
        have hrow2 := hrow1.set hgt (x := x - 32) (v := (x.toNat : Int) - 97 + 65) (by
          have h3 : (x - 32).toNat = x.toNat - 32 := by
            rw [UInt8.toNat_sub_of_le]
            · rfl
            · exact (UInt8.le_iff_toNat_le).2 (by show 32 ≤ x.toNat; omega)
          rw [h3]; omega)
        have hl2 : ((byts s).set 0 (x - 32)).length = s.size := by rw [List.length_set]; exact hbl
        have hback := conv_out (cap := cap) hrow2 hl2
        have HF := Lib.hid (hof _ hl2)
        clear hof hx
        go_enter Tryz.func133, Tryz.ntmps133
        go_wp2
        go_ret
        exact ⟨_, rfl, by rw [HF.out]; exact Nat.le_refl _, hb1.st (p := ⟨b, 0, none⟩) hbw _⟩
      · have h2' : ¬ (x.toNat : Int) ≤ 122 := by omega
        have hback := conv_out (cap := cap) hrow1 hbl
        have HF := Lib.hid (hof _ hbl)
        clear hof hx
        go_enter Tryz.func133, Tryz.ntmps133
        go_wp2
        go_ret
        exact ⟨_, rfl, by rw [HF.out]; exact Nat.le_refl _, hb1⟩
    · have h1' : ¬ (97 : Int) ≤ x.toNat := by omega
      have hback := conv_out (cap := cap) hrow1 hbl
      have HF := Lib.hid (hof _ hbl)
      clear hof hx
      go_enter Tryz.func133, Tryz.ntmps133
      go_wp2
      go_ret
      exact ⟨_, rfl, by rw [HF.out]; exact Nat.le_refl _, hb1⟩
set_option maxRecDepth 20000 in
set_option maxHeartbeats 2000000 in
theorem dressed_any (s : S) (how : Nat) (w : World) (hs : s.size ≤ 10) :
    Calls Tryz.prog 82 #[.string s, .int .i64 how] w (ASt 20 w) := by
  have h7 : how = 6 ∨ how = 7 ∨ how = 8 ∨ how = 9 ∨ how = 10 ∨ how = 11 ∨ (how ≠ 6 ∧ how ≠ 7 ∧ how ≠ 8 ∧ how ≠ 9 ∧ how ≠ 10 ∧ how ≠ 11) := by omega
  rcases h7 with rfl | rfl | rfl | rfl | rfl | rfl | ⟨a1, a2, a3, a4, a5, a6⟩
  · go_enter Tryz.func82, Tryz.ntmps82
    go_wp2_with (go_at_call 133; go_loud (refine (rcapital_any s _ (by omega)).mono ?_; rintro e w2 ⟨r, rfl, hrs, hb2⟩))
    go_ret
    exact ⟨_, rfl, by omega, hb2⟩
  · go_enter Tryz.func82, Tryz.ntmps82
    go_wp2
    go_ret
    exact ⟨_, rfl, by rw [ByteArray.size_append]; show s.size + 1 ≤ 20; omega, brefl⟩
  · go_enter Tryz.func82, Tryz.ntmps82
    go_wp2
    go_ret
    exact ⟨_, rfl, by rw [ByteArray.size_append]; show s.size + 1 ≤ 20; omega, brefl⟩
  · go_enter Tryz.func82, Tryz.ntmps82
    go_wp2_with (go_at_call 133; go_loud (refine (rcapital_any s _ (by omega)).mono ?_; rintro e w2 ⟨r, rfl, hrs, hb2⟩))
    go_ret
    exact ⟨_, rfl, by rw [ByteArray.size_append]; show r.size + 1 ≤ 20; omega, hb2⟩
  · go_enter Tryz.func82, Tryz.ntmps82
    go_wp2
    go_ret
    exact ⟨_, rfl, by rw [ByteArray.size_append, ByteArray.size_append]; show 1 + s.size + 1 ≤ 20; omega, brefl⟩
  · go_enter Tryz.func82, Tryz.ntmps82
    go_wp2
    go_ret
    exact ⟨_, rfl, by rw [ByteArray.size_append]; show s.size + 1 ≤ 20; omega, brefl⟩
  · have e1 : ((how : Int) == 6) = false := by rw [beq_eq_false_iff_ne]; omega
    have e2 : ((how : Int) == 7) = false := by rw [beq_eq_false_iff_ne]; omega
    have e3 : ((how : Int) == 8) = false := by rw [beq_eq_false_iff_ne]; omega
    have e4 : ((how : Int) == 9) = false := by rw [beq_eq_false_iff_ne]; omega
    have e5 : ((how : Int) == 10) = false := by rw [beq_eq_false_iff_ne]; omega
    have e6 : ((how : Int) == 11) = false := by rw [beq_eq_false_iff_ne]; omega
    clear a1 a2 a3 a4 a5 a6
    go_enter Tryz.func82, Tryz.ntmps82
    go_wp2
    go_ret
    exact ⟨_, rfl, by omega, brefl⟩
abbrev tbl9 : List S := [⟨#[97, 110, 110, 97]⟩, ⟨#[114, 111, 109, 101]⟩, ⟨#[107, 105, 110, 103]⟩, ⟨#[116, 104, 101]⟩, ⟨#[111, 102]⟩, ⟨#[111, 100, 101]⟩, ⟨#[108, 121, 114, 101]⟩, ⟨#[120]⟩, ⟨#[49, 50]⟩]
abbrev tbl16 : List S := [⟨#[97, 110, 110, 97]⟩, ⟨#[65, 110, 110, 97]⟩, ⟨#[107, 105, 110, 103]⟩, ⟨#[75, 105, 110, 103, 44]⟩, ⟨#[116, 104, 101]⟩, ⟨#[84, 104, 101]⟩, ⟨#[108, 121, 114, 101]⟩, ⟨#[111, 102]⟩, ⟨#[114, 111, 109, 101]⟩, ⟨#[120]⟩, ⟨#[120, 57]⟩, ⟨#[111, 100, 101, 46]⟩, ⟨#[64]⟩, ⟨#[107, 105, 110, 103, 45, 97, 110, 110, 97]⟩, ⟨#[82, 79, 77, 69]⟩, ⟨#[116, 104, 101, 32, 107, 105, 110, 103]⟩]
abbrev tbl5 : List S := [⟨#[32]⟩, ⟨#[32]⟩, ⟨#[32]⟩, ⟨#[32, 32]⟩, ⟨#[45]⟩]
theorem tbl_get {l : List S} {k v : Nat} (h : ∀ x ∈ l, x.size ≤ 10) (hk : l.length = k) (hv : v < k) : ∃ x, l[v]? = some x ∧ x.size ≤ 10 := ⟨_, List.getElem?_eq_getElem (by omega), h _ (List.getElem_mem _)⟩
set_option maxRecDepth 20000 in
set_option maxHeartbeats 4000000 in
theorem rtext_any (A : Option Addr) (n c : Nat) (l : List Int) (k : Nat) (w : World) (hl : Ints w A n l) (hk : k ≤ 10) :
    Calls Tryz.prog 22 #[.slice A n c, .int .i64 k] w (ASt 300 w) := by
  obtain ⟨v9, hv9, Hv9'⟩ := atd A n c l k 9 w hl (by omega) (by omega)
  have Hv9 := Lib.hid Hv9'
  clear Hv9'
  have hTn := Tbl.new w tbl9 9 (a := #[.string ⟨#[97, 110, 110, 97]⟩, .string ⟨#[114, 111, 109, 101]⟩, .string ⟨#[107, 105, 110, 103]⟩, .string ⟨#[116, 104, 101]⟩, .string ⟨#[111, 102]⟩, .string ⟨#[111, 100, 101]⟩, .string ⟨#[108, 121, 114, 101]⟩, .string ⟨#[120]⟩, .string ⟨#[49, 50]⟩]) rfl
  have hbT : Below w.heap.size w (w.alloc (.cells #[.string ⟨#[97, 110, 110, 97]⟩, .string ⟨#[114, 111, 109, 101]⟩, .string ⟨#[107, 105, 110, 103]⟩, .string ⟨#[116, 104, 101]⟩, .string ⟨#[111, 102]⟩, .string ⟨#[111, 100, 101]⟩, .string ⟨#[108, 121, 114, 101]⟩, .string ⟨#[120]⟩, .string ⟨#[49, 50]⟩] 9)) := brefl.al _
  go_enter Tryz.func22, Tryz.ntmps22
  go_wp2
  generalize w.alloc (.cells #[.string ⟨#[97, 110, 110, 97]⟩, .string ⟨#[114, 111, 109, 101]⟩, .string ⟨#[107, 105, 110, 103]⟩, .string ⟨#[116, 104, 101]⟩, .string ⟨#[111, 102]⟩, .string ⟨#[111, 100, 101]⟩, .string ⟨#[108, 121, 114, 101]⟩, .string ⟨#[120]⟩, .string ⟨#[49, 50]⟩] 9) = w1 at hTn hbT ⊢
  obtain ⟨ob, hob⟩ : ∃ ob, w.heap.size = ob := ⟨_, rfl⟩
  rw [hob] at hTn ⊢
  clear hob
  go_loopw [6, 7] (fun t6 t7 wr => ∃ (i : Nat) (st : S), i ≤ 9 ∧ t7 = .int .i64 i ∧ t6 = .string st ∧ st.size ≤ i * 30 ∧ Below w1.heap.size w1 wr) (fun _ t7 _ => 10 - (intOf t7).toNat)
  case atStart => exact ⟨0, ⟨#[]⟩, by omega, rfl, rfl, Nat.le_refl _, brefl⟩
  case round =>
    obtain ⟨i, st, hi, rfl, rfl, hst, hbr⟩ := hrel
    have hlr := hl.below (hbT.tr hbr)
    have hTr := hTn.below hbr
    by_cases hlt : i < 1 + v9
    · by_cases hi0 : i = 0
      · subst hi0
        have hlt' : (0 : Int) < 1 + (v9 : Int) := by omega
        obtain ⟨u, hu, Hu'⟩ := atd A n c l ((k : Int) + 1) 108 wr hlr (by omega) (by omega)
        have Hu := Lib.hid Hu'
        clear Hu'
        obtain ⟨q, hq⟩ : ∃ q : Nat, (u : Int) % 9 = q := ⟨u % 9, by omega⟩
        obtain ⟨d, hd⟩ : ∃ d : Nat, (u : Int) / 9 = d := ⟨u / 9, by omega⟩
        have hq9 : q < 9 := by omega
        obtain ⟨x, hx, hxs⟩ := tbl_get (l := tbl9) (k := 9) (v := q) (by decide) rfl hq9
        have hcx := hTr.2 q x hx
        have hu0 : (0 : Int) ≤ u := by omega
        have hwr1 := IntWalk.i64_in ((k : Int) + 1) (by omega)
        clear hx
        have hst0 : st.size = 0 := by omega
        go_wp2_with (first
                      | (go_at_call 56; (with_reducible refine (Hv9.out _ hlr).mono ?_); rintro e _ ⟨rfl, rfl⟩)
                      | (go_at_call 56; go_loud (refine (Hu.out _ hlr).mono ?_; rintro e _ ⟨rfl, rfl⟩))
                      | (go_at_call 82; go_loud (refine (dressed_any x d _ hxs).mono ?_; rintro e w2 ⟨r, rfl, hrs, hb2⟩)))
        go_roundw
        case rel => exact ⟨1, _, by omega, by go_num, rfl, by rw [ByteArray.size_append]; omega, hbr.tr hb2⟩
        case measure => simp [intOf]
      · have hlt' : (i : Int) < 1 + v9 := by omega
        obtain ⟨u, hu, Hu'⟩ := atd A n c l ((k : Int) + 1 + i) 108 wr hlr (by omega) (by omega)
        have Hu := Lib.hid Hu'
        clear Hu'
        obtain ⟨q, hq⟩ : ∃ q : Nat, (u : Int) % 9 = q := ⟨u % 9, by omega⟩
        obtain ⟨d, hd⟩ : ∃ d : Nat, (u : Int) / 9 = d := ⟨u / 9, by omega⟩
        have hq9 : q < 9 := by omega
        obtain ⟨x, hx, hxs⟩ := tbl_get (l := tbl9) (k := 9) (v := q) (by decide) rfl hq9
        have hcx := hTr.2 q x hx
        have hu0 : (0 : Int) ≤ u := by omega
        have hwr1 := IntWalk.i64_in ((k : Int) + 1 + i) (by omega)
        clear hx
        have hi0' : (0 : Int) < i := by omega
        have hst0 : st.size ≤ 300 := by omega
        go_wp2_with (first
                      | (go_at_call 56; (with_reducible refine (Hv9.out _ hlr).mono ?_); rintro e _ ⟨rfl, rfl⟩)
                      | (go_at_call 56; go_loud (refine (Hu.out _ hlr).mono ?_; rintro e _ ⟨rfl, rfl⟩))
                      | (go_at_call 82; go_loud (refine (dressed_any x d _ hxs).mono ?_; rintro e w2 ⟨r, rfl, hrs, hb2⟩)))
        go_roundw
        case rel => exact ⟨i + 1, _, by omega, by go_num, rfl, by rw [ByteArray.size_append, ByteArray.size_append]; show st.size + 1 + r.size ≤ _; omega, hbr.tr hb2⟩
        case measure => simp [intOf]; omega
    · have hlt' : ¬ (i : Int) < 1 + v9 := by omega
      go_wp2_with (go_at_call 56; go_loud (refine (Hv9.out _ hlr).mono ?_; rintro e _ ⟨rfl, rfl⟩))
      go_ret
      exact ⟨st, rfl, by omega, hbT.tr hbr⟩
set_option maxRecDepth 20000 in
set_option maxHeartbeats 4000000 in
theorem rmarked_any (A : Option Addr) (n c : Nat) (l : List Int) (k : Nat) (w : World) (hl : Ints w A n l) (hk : k ≤ 10) :
    Calls Tryz.prog 23 #[.slice A n c, .int .i64 k] w (ASt 400 w) := by
  obtain ⟨v3, hv3, Hv3'⟩ := atd A n c l ((k : Int) + 10) 3 w hl (by omega) (by omega)
  have Hv3 := Lib.hid Hv3'
  clear Hv3'
  have hwk := IntWalk.i64_in ((k : Int) + 10) (by omega)
  go_enter Tryz.func23, Tryz.ntmps23
  go_wp2_with (go_at_call 22; go_loud (refine (rtext_any A n c l k _ hl hk).mono ?_; rintro e w1 ⟨s0, rfl, hs0, hb1⟩))
  go_loopw [5, 6] (fun t5 t6 wr => ∃ (i : Nat) (st : S), i ≤ 3 ∧ t6 = .int .i64 i ∧ t5 = .string st ∧ st.size ≤ 300 + i * 10 ∧ Below w1.heap.size w1 wr) (fun _ t6 _ => 3 - (intOf t6).toNat)
  case atStart => exact ⟨0, s0, by omega, rfl, rfl, by omega, brefl⟩
  case round =>
    obtain ⟨i, st, hi, rfl, rfl, hst, hbr⟩ := hrel
    have hlr := hl.below (hb1.tr hbr)
    by_cases hlt : i < v3
    · have hlt' : (i : Int) < v3 := by omega
      obtain ⟨u, hu, Hu'⟩ := atd A n c l ((k : Int) + 11 + i) 4 wr hlr (by omega) (by omega)
      have hst0 : st.size ≤ 400 := by omega
      have hwr1 := IntWalk.i64_in ((k : Int) + 11 + i) (by omega)
      have hwr0 := IntWalk.i64_in ((k : Int) + 11) (by omega)
      have hbA := (brefl.al (.cells #[.string ⟨#[32, 64]⟩, .string ⟨#[32, 40, 64, 41]⟩, .string ⟨#[32, 115, 101, 101, 32, 64, 46]⟩, .string ⟨#[32, 64, 44, 32, 64]⟩] 9) : Below wr.heap.size wr _)
      have hlA := hlr.below hbA
      rcases (show (u : Int) = 0 ∨ (u : Int) = 1 ∨ (u : Int) = 2 ∨ (u : Int) = 3 by omega) with e | e | e | e
      all_goals
        rw [e] at Hu'
        have Hu := Lib.hid Hu'
        clear Hu' e
        go_wp2_with (first
          | (go_at_call 56; (with_reducible refine (Hv3.out _ hlr).mono ?_); rintro e _ ⟨rfl, rfl⟩)
          | (go_at_call 56; go_loud (refine (Hu.out _ hlA).mono ?_; rintro e _ ⟨rfl, rfl⟩)))
        go_roundw
        case rel => exact ⟨i + 1, _, by omega, by go_num, rfl, by rw [ByteArray.size_append]; exact Nat.le_trans (Nat.add_le_add_left (show _ ≤ 10 by decide) _) (by omega), hbr.tr hbA⟩
        case measure => simp [intOf]; omega
    · have hlt' : ¬ (i : Int) < v3 := by omega
      go_wp2_with (go_at_call 56; go_loud (refine (Hv3.out _ hlr).mono ?_; rintro e _ ⟨rfl, rfl⟩))
      go_ret
      exact ⟨st, rfl, by omega, hb1.tr hbr⟩
set_option maxRecDepth 20000 in
set_option maxHeartbeats 8000000 in
theorem ltext_any (A : Option Addr) (n c : Nat) (l : List Int) (raw : S) (w : World) (hl : Ints w A n l) :
    Calls Tryz.prog 21 #[.slice A n c, .string raw] w (ASt 400 w) := by
  obtain ⟨v6, hv6, Hv6'⟩ := atd A n c l 0 6 w hl (by omega) (by omega)
  have Hv6 := Lib.hid Hv6'
  clear Hv6'
  by_cases h6 : v6 = 0
  · have h6' : ((v6 : Int) == 0) = true := by rw [h6]; rfl
    clear h6
    go_enter Tryz.func21, Tryz.ntmps21
    go_wp2_with (first
      | (go_at_call 56; go_loud (refine (Hv6.out _ hl).mono ?_; rintro e _ ⟨rfl, rfl⟩))
      | (go_at_call 16; go_loud (refine (short120_any raw _).mono ?_; rintro e _ ⟨r, rfl, hr, rfl⟩)))
    go_ret
    exact ⟨r, rfl, by omega, brefl⟩
  · have h6' : ((v6 : Int) == 0) = false := by rw [beq_eq_false_iff_ne]; omega
    clear h6
    go_enter Tryz.func21, Tryz.ntmps21
    go_wp2_with (go_at_call 56; go_loud (refine (Hv6.out _ hl).mono ?_; rintro e _ ⟨rfl, rfl⟩))
    go_loopw [5, 6] (fun t5 t6 wr => ∃ (i : Nat) (st : S), 1 ≤ i ∧ i ≤ 14 ∧ t6 = .int .i64 i ∧ t5 = .string st ∧ st.size ≤ i * 20 ∧ Below w.heap.size w wr) (fun _ t6 _ => 14 - (intOf t6).toNat)
    case atStart => exact ⟨1, ⟨#[]⟩, by omega, by omega, rfl, rfl, Nat.zero_le _, brefl⟩
    case round =>
      obtain ⟨i, st, hi1, hi, rfl, rfl, hst, hbr⟩ := hrel
      have hlr := hl.below hbr
      have hst0 : st.size ≤ 400 := by omega
      by_cases hlt : i < n
      · have hlt' : decide ((i : Int) < n) = true := by rw [decide_eq_true_iff]; omega
        by_cases h14 : i < 14
        · have h14' : decide ((i : Int) < 14) = true := by rw [decide_eq_true_iff]; omega
          obtain ⟨u, hu, Hu'⟩ := atd A n c l (i : Int) 16 wr hlr (by omega) (by omega)
          obtain ⟨q, hq, Hq'⟩ := atd A n c l ((i : Int) + 1) 5 wr hlr (by omega) (by omega)
          have Hu := Lib.hid Hu'
          have Hq := Lib.hid Hq'
          clear Hu' Hq'
          have hu16 : u < 16 := by omega
          have hq5 : q < 5 := by omega
          obtain ⟨x, hx, hxs⟩ := tbl_get (l := tbl16) (k := 16) (v := u) (by decide) rfl hu16
          obtain ⟨y, hy, hys⟩ := tbl_get (l := tbl5) (k := 5) (v := q) (by decide) rfl hq5
          have HX := Lib.hid hx
          have HY := Lib.hid hy
          clear hx hy
          have hwr1 := IntWalk.i64_in ((i : Int) + 1) (by omega)
          go_wp2
          have hbX : Below wr.heap.size wr wr.drew := brefl.drn 1
          refine wp_region_plan (.take 0 (.take 2 (.take 3 (.take 9 (.take 10 (.take 11 (.three 1 (.str (.two 4 (.take 5 (.take 6 (.take 7 (.two 8 (.str (.one 12 (.take 13 (.take 14 (.take 15 (.take 16 (.done))))))) 12 (.one 8 (.str (.take 13 (.take 14 (.take 15 (.take 16 (.done))))))))))) 8 (.str (.one 4 (.take 5 (.take 6 (.take 7 (.one 12 (.take 13 (.take 14 (.take 15 (.take 16 (.done))))))))))))) 4 (.three 1 (.str (.take 5 (.take 6 (.take 7 (.two 8 (.str (.one 12 (.take 13 (.take 14 (.take 15 (.take 16 (.done))))))) 12 (.one 8 (.str (.take 13 (.take 14 (.take 15 (.take 16 (.done)))))))))))) 8 (.str (.two 1 (.str (.take 5 (.take 6 (.take 7 (.one 12 (.take 13 (.take 14 (.take 15 (.take 16 (.done)))))))))) 12 (.take 13 (.take 14 (.one 1 (.str (.take 5 (.take 6 (.take 7 (.take 15 (.take 16 (.done)))))))))))) 12 (.two 1 (.str (.take 5 (.take 6 (.take 7 (.one 8 (.str (.take 13 (.take 14 (.take 15 (.take 16 (.done))))))))))) 8 (.str (.take 13 (.take 14 (.one 1 (.str (.take 5 (.take 6 (.take 7 (.take 15 (.take 16 (.done))))))))))))) 8 (.str (.two 1 (.str (.one 4 (.take 5 (.take 6 (.take 7 (.one 12 (.take 13 (.take 14 (.take 15 (.take 16 (.done))))))))))) 4 (.two 1 (.str (.take 5 (.take 6 (.take 7 (.one 12 (.take 13 (.take 14 (.take 15 (.take 16 (.done)))))))))) 12 (.take 13 (.take 14 (.one 1 (.str (.take 5 (.take 6 (.take 7 (.take 15 (.take 16 (.done)))))))))))))))))))) 17 (fun _ => True) (by kernel_rfl) (by kernel_rfl) ?_
          generalize wr.drew = wc at hbX ⊢
          refine wpPlan_put (v := ?_) rfl rfl (Or.inl ⟨by rfl, fun wz hz => ?_⟩) (by first | exact ⟨hT1, hT2⟩ | exact hT1 | exact hT2 | trivial) ?_
          rotate_left
          (focus (go_simp; try (with_reducible rfl)))
          simp only [List.setIfInBounds_toArray, List.set_cons_succ, List.set_cons_zero]
          refine wpPlan_put (v := ?_) rfl rfl (Or.inl ⟨by rfl, fun wz hz => ?_⟩) (by first | exact ⟨hT1, hT2⟩ | exact hT1 | exact hT2 | trivial) ?_
          rotate_left
          (focus (go_simp; try (with_reducible rfl)))
          simp only [List.setIfInBounds_toArray, List.set_cons_succ, List.set_cons_zero]
          refine wpPlan_put (v := ?_) rfl rfl (Or.inl ⟨by rfl, fun wz hz => ?_⟩) (by first | exact ⟨hT1, hT2⟩ | exact hT1 | exact hT2 | trivial) ?_
          rotate_left
          (focus (go_simp; try (with_reducible rfl)))
          simp only [List.setIfInBounds_toArray, List.set_cons_succ, List.set_cons_zero]
          refine wpPlan_put (v := ?_) rfl rfl (Or.inl ⟨by rfl, fun wz hz => ?_⟩) (by first | exact ⟨hT1, hT2⟩ | exact hT1 | exact hT2 | trivial) ?_
          rotate_left
          (focus (go_simp; try (with_reducible rfl)))
          simp only [List.setIfInBounds_toArray, List.set_cons_succ, List.set_cons_zero]
          refine wpPlan_put (v := ?_) rfl rfl (Or.inl ⟨by rfl, fun wz hz => ?_⟩) (by first | exact ⟨hT1, hT2⟩ | exact hT1 | exact hT2 | trivial) ?_
          rotate_left
          (focus (go_simp; try (with_reducible rfl)))
          simp only [List.setIfInBounds_toArray, List.set_cons_succ, List.set_cons_zero]
          refine wpPlan_put (v := ?_) rfl rfl (Or.inl ⟨by rfl, fun wz hz => ?_⟩) (by first | exact ⟨hT1, hT2⟩ | exact hT1 | exact hT2 | trivial) ?_
          rotate_left
          (focus (go_simp; try (with_reducible rfl)))
          simp only [List.setIfInBounds_toArray, List.set_cons_succ, List.set_cons_zero]
          refine wpPlan_three ?_ ?_ ?_
          · skip
            refine wpForced_step rfl (fun K hK => ?_)
            go_simp
            have hX2 := hbX.al (.cells #[.string ⟨#[97, 110, 110, 97]⟩, .string ⟨#[65, 110, 110, 97]⟩, .string ⟨#[107, 105, 110, 103]⟩, .string ⟨#[75, 105, 110, 103, 44]⟩, .string ⟨#[116, 104, 101]⟩, .string ⟨#[84, 104, 101]⟩, .string ⟨#[108, 121, 114, 101]⟩, .string ⟨#[111, 102]⟩, .string ⟨#[114, 111, 109, 101]⟩, .string ⟨#[120]⟩, .string ⟨#[120, 57]⟩, .string ⟨#[111, 100, 101, 46]⟩, .string ⟨#[64]⟩, .string ⟨#[107, 105, 110, 103, 45, 97, 110, 110, 97]⟩, .string ⟨#[82, 79, 77, 69]⟩, .string ⟨#[116, 104, 101, 32, 107, 105, 110, 103]⟩] 9)
            have hT1 := Tbl.new wc tbl16 9 (a := #[.string ⟨#[97, 110, 110, 97]⟩, .string ⟨#[65, 110, 110, 97]⟩, .string ⟨#[107, 105, 110, 103]⟩, .string ⟨#[75, 105, 110, 103, 44]⟩, .string ⟨#[116, 104, 101]⟩, .string ⟨#[84, 104, 101]⟩, .string ⟨#[108, 121, 114, 101]⟩, .string ⟨#[111, 102]⟩, .string ⟨#[114, 111, 109, 101]⟩, .string ⟨#[120]⟩, .string ⟨#[120, 57]⟩, .string ⟨#[111, 100, 101, 46]⟩, .string ⟨#[64]⟩, .string ⟨#[107, 105, 110, 103, 45, 97, 110, 110, 97]⟩, .string ⟨#[82, 79, 77, 69]⟩, .string ⟨#[116, 104, 101, 32, 107, 105, 110, 103]⟩]) rfl
            try replace hT2 := hT2.below (brefl.al (.cells #[.string ⟨#[97, 110, 110, 97]⟩, .string ⟨#[65, 110, 110, 97]⟩, .string ⟨#[107, 105, 110, 103]⟩, .string ⟨#[75, 105, 110, 103, 44]⟩, .string ⟨#[116, 104, 101]⟩, .string ⟨#[84, 104, 101]⟩, .string ⟨#[108, 121, 114, 101]⟩, .string ⟨#[111, 102]⟩, .string ⟨#[114, 111, 109, 101]⟩, .string ⟨#[120]⟩, .string ⟨#[120, 57]⟩, .string ⟨#[111, 100, 101, 46]⟩, .string ⟨#[64]⟩, .string ⟨#[107, 105, 110, 103, 45, 97, 110, 110, 97]⟩, .string ⟨#[82, 79, 77, 69]⟩, .string ⟨#[116, 104, 101, 32, 107, 105, 110, 103]⟩] 9))
            refine hK _ _ (fun _ => by first | exact hT2 | trivial) ?_
            clear hK K hbX
            have hbX := hX2
            clear hX2
            generalize wc.heap.size = ob1 at *
            generalize wc.alloc (.cells #[.string ⟨#[97, 110, 110, 97]⟩, .string ⟨#[65, 110, 110, 97]⟩, .string ⟨#[107, 105, 110, 103]⟩, .string ⟨#[75, 105, 110, 103, 44]⟩, .string ⟨#[116, 104, 101]⟩, .string ⟨#[84, 104, 101]⟩, .string ⟨#[108, 121, 114, 101]⟩, .string ⟨#[111, 102]⟩, .string ⟨#[114, 111, 109, 101]⟩, .string ⟨#[120]⟩, .string ⟨#[120, 57]⟩, .string ⟨#[111, 100, 101, 46]⟩, .string ⟨#[64]⟩, .string ⟨#[107, 105, 110, 103, 45, 97, 110, 110, 97]⟩, .string ⟨#[82, 79, 77, 69]⟩, .string ⟨#[116, 104, 101, 32, 107, 105, 110, 103]⟩] 9) = wc at *
            first | (refine wpPlan_str (fun wz => Tbl wz ob1 tbl16 ∧ Tbl wz ob2 tbl5) (fun _ h => h.2) ?_) | (refine wpPlan_str (fun wz => Tbl wz ob1 tbl16) (fun _ _ => trivial) ?_)
            refine wpPlan_two ?_ ?_
            · skip
              refine wpForced_step rfl (fun K hK => ?_)
              go_simp
              refine (Hu.out _ (hlr.below hbX)).mono ?_
              rintro e _ ⟨rfl, rfl⟩
              go_simp
              refine hK _ _ (fun _ => by first | exact ⟨hT1, hT2⟩ | exact hT1 | exact hT2 | trivial) ?_
              clear hK K
              refine wpPlan_put (v := ?_) rfl rfl (Or.inl ⟨by rfl, fun wz hz => ?_⟩) (by first | exact ⟨hT1, hT2⟩ | exact hT1 | exact hT2 | trivial) ?_
              rotate_left
              (focus (go_simp; try (with_reducible rfl)))
              simp only [List.setIfInBounds_toArray, List.set_cons_succ, List.set_cons_zero]
              refine wpPlan_put (v := ?_) rfl rfl (Or.inl ⟨by rfl, fun wz hz => ?_⟩) (by first | exact ⟨hT1, hT2⟩ | exact hT1 | exact hT2 | trivial) ?_
              rotate_left
              (focus (have h6 : wz.cell? ⟨ob1, u, none⟩ = some (.string x) := (by first | exact hz.1.2 _ _ HX.out | exact hz.2 _ _ HX.out); go_simp; try (with_reducible rfl)))
              simp only [List.setIfInBounds_toArray, List.set_cons_succ, List.set_cons_zero]
              refine wpPlan_put (v := ?_) rfl rfl (Or.inl ⟨by rfl, fun wz hz => ?_⟩) (by first | exact ⟨hT1, hT2⟩ | exact hT1 | exact hT2 | trivial) ?_
              rotate_left
              (focus (have h7 : ¬ 9223372036854775807 < st.size + x.size := (by omega); go_simp; try (with_reducible rfl)))
              simp only [List.setIfInBounds_toArray, List.set_cons_succ, List.set_cons_zero]
              refine wpPlan_two ?_ ?_
              · skip
                refine wpForced_step rfl (fun K hK => ?_)
                go_simp
                have hX2 := hbX.al (.cells #[.string ⟨#[32]⟩, .string ⟨#[32]⟩, .string ⟨#[32]⟩, .string ⟨#[32, 32]⟩, .string ⟨#[45]⟩] 9)
                have hT2 := Tbl.new wc tbl5 9 (a := #[.string ⟨#[32]⟩, .string ⟨#[32]⟩, .string ⟨#[32]⟩, .string ⟨#[32, 32]⟩, .string ⟨#[45]⟩]) rfl
                try replace hT1 := hT1.below (brefl.al (.cells #[.string ⟨#[32]⟩, .string ⟨#[32]⟩, .string ⟨#[32]⟩, .string ⟨#[32, 32]⟩, .string ⟨#[45]⟩] 9))
                refine hK _ _ (fun _ => by first | exact hT1 | trivial) ?_
                clear hK K hbX
                have hbX := hX2
                clear hX2
                generalize wc.heap.size = ob2 at *
                generalize wc.alloc (.cells #[.string ⟨#[32]⟩, .string ⟨#[32]⟩, .string ⟨#[32]⟩, .string ⟨#[32, 32]⟩, .string ⟨#[45]⟩] 9) = wc at *
                first | (refine wpPlan_str (fun wz => Tbl wz ob1 tbl16 ∧ Tbl wz ob2 tbl5) (fun _ h => h.1) ?_) | (refine wpPlan_str (fun wz => Tbl wz ob2 tbl5) (fun _ _ => trivial) ?_)
                refine wpPlan_one ?_
                refine wpForced_step rfl (fun K hK => ?_)
                go_simp
                refine (Hq.out _ (hlr.below hbX)).mono ?_
                rintro e _ ⟨rfl, rfl⟩
                go_simp
                refine hK _ _ (fun _ => by first | exact ⟨hT1, hT2⟩ | exact hT1 | exact hT2 | trivial) ?_
                clear hK K
                refine wpPlan_put (v := ?_) rfl rfl (Or.inl ⟨by rfl, fun wz hz => ?_⟩) (by first | exact ⟨hT1, hT2⟩ | exact hT1 | exact hT2 | trivial) ?_
                rotate_left
                (focus (go_simp; try (with_reducible rfl)))
                simp only [List.setIfInBounds_toArray, List.set_cons_succ, List.set_cons_zero]
                refine wpPlan_put (v := ?_) rfl rfl (Or.inl ⟨by rfl, fun wz hz => ?_⟩) (by first | exact ⟨hT1, hT2⟩ | exact hT1 | exact hT2 | trivial) ?_
                rotate_left
                (focus (have h14 : wz.cell? ⟨ob2, q, none⟩ = some (.string y) := (by first | exact hz.2.2 _ _ HY.out | exact hz.2 _ _ HY.out); go_simp; try (with_reducible rfl)))
                simp only [List.setIfInBounds_toArray, List.set_cons_succ, List.set_cons_zero]
                refine wpPlan_put (v := ?_) rfl rfl (Or.inl ⟨by rfl, fun wz hz => ?_⟩) (by first | exact ⟨hT1, hT2⟩ | exact hT1 | exact hT2 | trivial) ?_
                rotate_left
                (focus (have h15 : ¬ 9223372036854775807 < st.size + x.size + y.size := (by omega); go_simp; try (with_reducible rfl)))
                simp only [List.setIfInBounds_toArray, List.set_cons_succ, List.set_cons_zero]
                refine wpPlan_put (v := ?_) rfl rfl (Or.inl ⟨by rfl, fun wz hz => ?_⟩) (by first | exact ⟨hT1, hT2⟩ | exact hT1 | exact hT2 | trivial) ?_
                rotate_left
                (focus (go_simp; try (with_reducible rfl)))
                simp only [List.setIfInBounds_toArray, List.set_cons_succ, List.set_cons_zero]
                refine wpPlan_nil ?_
                go_wp2
                go_roundw
                case rel => exact ⟨i + 1, _, by omega, by omega, by go_num, rfl, by rw [ByteArray.size_append, ByteArray.size_append]; omega, hbr.tr hbX⟩
                case measure => simp [intOf]; omega
              · skip
                refine wpForced_step rfl (fun K hK => ?_)
                go_simp
                refine (Hq.out _ (hlr.below hbX)).mono ?_
                rintro e _ ⟨rfl, rfl⟩
                go_simp
                refine hK _ _ (fun _ => by first | exact ⟨hT1, hT2⟩ | exact hT1 | exact hT2 | trivial) ?_
                clear hK K
                refine wpPlan_one ?_
                refine wpForced_step rfl (fun K hK => ?_)
                go_simp
                have hX2 := hbX.al (.cells #[.string ⟨#[32]⟩, .string ⟨#[32]⟩, .string ⟨#[32]⟩, .string ⟨#[32, 32]⟩, .string ⟨#[45]⟩] 9)
                have hT2 := Tbl.new wc tbl5 9 (a := #[.string ⟨#[32]⟩, .string ⟨#[32]⟩, .string ⟨#[32]⟩, .string ⟨#[32, 32]⟩, .string ⟨#[45]⟩]) rfl
                try replace hT1 := hT1.below (brefl.al (.cells #[.string ⟨#[32]⟩, .string ⟨#[32]⟩, .string ⟨#[32]⟩, .string ⟨#[32, 32]⟩, .string ⟨#[45]⟩] 9))
                refine hK _ _ (fun _ => by first | exact hT1 | trivial) ?_
                clear hK K hbX
                have hbX := hX2
                clear hX2
                generalize wc.heap.size = ob2 at *
                generalize wc.alloc (.cells #[.string ⟨#[32]⟩, .string ⟨#[32]⟩, .string ⟨#[32]⟩, .string ⟨#[32, 32]⟩, .string ⟨#[45]⟩] 9) = wc at *
                first | (refine wpPlan_str (fun wz => Tbl wz ob1 tbl16 ∧ Tbl wz ob2 tbl5) (fun _ h => h.1) ?_) | (refine wpPlan_str (fun wz => Tbl wz ob2 tbl5) (fun _ _ => trivial) ?_)
                refine wpPlan_put (v := ?_) rfl rfl (Or.inl ⟨by rfl, fun wz hz => ?_⟩) (by first | exact ⟨hT1, hT2⟩ | exact hT1 | exact hT2 | trivial) ?_
                rotate_left
                (focus (go_simp; try (with_reducible rfl)))
                simp only [List.setIfInBounds_toArray, List.set_cons_succ, List.set_cons_zero]
                refine wpPlan_put (v := ?_) rfl rfl (Or.inl ⟨by rfl, fun wz hz => ?_⟩) (by first | exact ⟨hT1, hT2⟩ | exact hT1 | exact hT2 | trivial) ?_
                rotate_left
                (focus (have h14 : wz.cell? ⟨ob2, q, none⟩ = some (.string y) := (by first | exact hz.2.2 _ _ HY.out | exact hz.2 _ _ HY.out); go_simp; try (with_reducible rfl)))
                simp only [List.setIfInBounds_toArray, List.set_cons_succ, List.set_cons_zero]
                refine wpPlan_put (v := ?_) rfl rfl (Or.inl ⟨by rfl, fun wz hz => ?_⟩) (by first | exact ⟨hT1, hT2⟩ | exact hT1 | exact hT2 | trivial) ?_
                rotate_left
                (focus (have h15 : ¬ 9223372036854775807 < st.size + x.size + y.size := (by omega); go_simp; try (with_reducible rfl)))
                simp only [List.setIfInBounds_toArray, List.set_cons_succ, List.set_cons_zero]
                refine wpPlan_put (v := ?_) rfl rfl (Or.inl ⟨by rfl, fun wz hz => ?_⟩) (by first | exact ⟨hT1, hT2⟩ | exact hT1 | exact hT2 | trivial) ?_
                rotate_left
                (focus (go_simp; try (with_reducible rfl)))
                simp only [List.setIfInBounds_toArray, List.set_cons_succ, List.set_cons_zero]
                refine wpPlan_nil ?_
                go_wp2
                go_roundw
                case rel => exact ⟨i + 1, _, by omega, by omega, by go_num, rfl, by rw [ByteArray.size_append, ByteArray.size_append]; omega, hbr.tr hbX⟩
                case measure => simp [intOf]; omega
            · skip
              refine wpForced_step rfl (fun K hK => ?_)
              go_simp
              have hX2 := hbX.al (.cells #[.string ⟨#[32]⟩, .string ⟨#[32]⟩, .string ⟨#[32]⟩, .string ⟨#[32, 32]⟩, .string ⟨#[45]⟩] 9)
              have hT2 := Tbl.new wc tbl5 9 (a := #[.string ⟨#[32]⟩, .string ⟨#[32]⟩, .string ⟨#[32]⟩, .string ⟨#[32, 32]⟩, .string ⟨#[45]⟩]) rfl
              try replace hT1 := hT1.below (brefl.al (.cells #[.string ⟨#[32]⟩, .string ⟨#[32]⟩, .string ⟨#[32]⟩, .string ⟨#[32, 32]⟩, .string ⟨#[45]⟩] 9))
              refine hK _ _ (fun _ => by first | exact hT1 | trivial) ?_
              clear hK K hbX
              have hbX := hX2
              clear hX2
              generalize wc.heap.size = ob2 at *
              generalize wc.alloc (.cells #[.string ⟨#[32]⟩, .string ⟨#[32]⟩, .string ⟨#[32]⟩, .string ⟨#[32, 32]⟩, .string ⟨#[45]⟩] 9) = wc at *
              first | (refine wpPlan_str (fun wz => Tbl wz ob1 tbl16 ∧ Tbl wz ob2 tbl5) (fun _ h => h.1) ?_) | (refine wpPlan_str (fun wz => Tbl wz ob2 tbl5) (fun _ _ => trivial) ?_)
              refine wpPlan_one ?_
              refine wpForced_step rfl (fun K hK => ?_)
              go_simp
              refine (Hu.out _ (hlr.below hbX)).mono ?_
              rintro e _ ⟨rfl, rfl⟩
              go_simp
              refine hK _ _ (fun _ => by first | exact ⟨hT1, hT2⟩ | exact hT1 | exact hT2 | trivial) ?_
              clear hK K
              refine wpPlan_put (v := ?_) rfl rfl (Or.inl ⟨by rfl, fun wz hz => ?_⟩) (by first | exact ⟨hT1, hT2⟩ | exact hT1 | exact hT2 | trivial) ?_
              rotate_left
              (focus (go_simp; try (with_reducible rfl)))
              simp only [List.setIfInBounds_toArray, List.set_cons_succ, List.set_cons_zero]
              refine wpPlan_put (v := ?_) rfl rfl (Or.inl ⟨by rfl, fun wz hz => ?_⟩) (by first | exact ⟨hT1, hT2⟩ | exact hT1 | exact hT2 | trivial) ?_
              rotate_left
              (focus (have h6 : wz.cell? ⟨ob1, u, none⟩ = some (.string x) := (by first | exact hz.1.2 _ _ HX.out | exact hz.2 _ _ HX.out); go_simp; try (with_reducible rfl)))
              simp only [List.setIfInBounds_toArray, List.set_cons_succ, List.set_cons_zero]
              refine wpPlan_put (v := ?_) rfl rfl (Or.inl ⟨by rfl, fun wz hz => ?_⟩) (by first | exact ⟨hT1, hT2⟩ | exact hT1 | exact hT2 | trivial) ?_
              rotate_left
              (focus (have h7 : ¬ 9223372036854775807 < st.size + x.size := (by omega); go_simp; try (with_reducible rfl)))
              simp only [List.setIfInBounds_toArray, List.set_cons_succ, List.set_cons_zero]
              refine wpPlan_one ?_
              refine wpForced_step rfl (fun K hK => ?_)
              go_simp
              refine (Hq.out _ (hlr.below hbX)).mono ?_
              rintro e _ ⟨rfl, rfl⟩
              go_simp
              refine hK _ _ (fun _ => by first | exact ⟨hT1, hT2⟩ | exact hT1 | exact hT2 | trivial) ?_
              clear hK K
              refine wpPlan_put (v := ?_) rfl rfl (Or.inl ⟨by rfl, fun wz hz => ?_⟩) (by first | exact ⟨hT1, hT2⟩ | exact hT1 | exact hT2 | trivial) ?_
              rotate_left
              (focus (go_simp; try (with_reducible rfl)))
              simp only [List.setIfInBounds_toArray, List.set_cons_succ, List.set_cons_zero]
              refine wpPlan_put (v := ?_) rfl rfl (Or.inl ⟨by rfl, fun wz hz => ?_⟩) (by first | exact ⟨hT1, hT2⟩ | exact hT1 | exact hT2 | trivial) ?_
              rotate_left
              (focus (have h14 : wz.cell? ⟨ob2, q, none⟩ = some (.string y) := (by first | exact hz.2.2 _ _ HY.out | exact hz.2 _ _ HY.out); go_simp; try (with_reducible rfl)))
              simp only [List.setIfInBounds_toArray, List.set_cons_succ, List.set_cons_zero]
              refine wpPlan_put (v := ?_) rfl rfl (Or.inl ⟨by rfl, fun wz hz => ?_⟩) (by first | exact ⟨hT1, hT2⟩ | exact hT1 | exact hT2 | trivial) ?_
              rotate_left
              (focus (have h15 : ¬ 9223372036854775807 < st.size + x.size + y.size := (by omega); go_simp; try (with_reducible rfl)))
              simp only [List.setIfInBounds_toArray, List.set_cons_succ, List.set_cons_zero]
              refine wpPlan_put (v := ?_) rfl rfl (Or.inl ⟨by rfl, fun wz hz => ?_⟩) (by first | exact ⟨hT1, hT2⟩ | exact hT1 | exact hT2 | trivial) ?_
              rotate_left
              (focus (go_simp; try (with_reducible rfl)))
              simp only [List.setIfInBounds_toArray, List.set_cons_succ, List.set_cons_zero]
              refine wpPlan_nil ?_
              go_wp2
              go_roundw
              case rel => exact ⟨i + 1, _, by omega, by omega, by go_num, rfl, by rw [ByteArray.size_append, ByteArray.size_append]; omega, hbr.tr hbX⟩
              case measure => simp [intOf]; omega
          · skip
            refine wpForced_step rfl (fun K hK => ?_)
            go_simp
            refine (Hu.out _ (hlr.below hbX)).mono ?_
            rintro e _ ⟨rfl, rfl⟩
            go_simp
            refine hK _ _ (fun _ => by first | exact ⟨hT1, hT2⟩ | exact hT1 | exact hT2 | trivial) ?_
            clear hK K
            refine wpPlan_three ?_ ?_ ?_
            · skip
              refine wpForced_step rfl (fun K hK => ?_)
              go_simp
              have hX2 := hbX.al (.cells #[.string ⟨#[97, 110, 110, 97]⟩, .string ⟨#[65, 110, 110, 97]⟩, .string ⟨#[107, 105, 110, 103]⟩, .string ⟨#[75, 105, 110, 103, 44]⟩, .string ⟨#[116, 104, 101]⟩, .string ⟨#[84, 104, 101]⟩, .string ⟨#[108, 121, 114, 101]⟩, .string ⟨#[111, 102]⟩, .string ⟨#[114, 111, 109, 101]⟩, .string ⟨#[120]⟩, .string ⟨#[120, 57]⟩, .string ⟨#[111, 100, 101, 46]⟩, .string ⟨#[64]⟩, .string ⟨#[107, 105, 110, 103, 45, 97, 110, 110, 97]⟩, .string ⟨#[82, 79, 77, 69]⟩, .string ⟨#[116, 104, 101, 32, 107, 105, 110, 103]⟩] 9)
              have hT1 := Tbl.new wc tbl16 9 (a := #[.string ⟨#[97, 110, 110, 97]⟩, .string ⟨#[65, 110, 110, 97]⟩, .string ⟨#[107, 105, 110, 103]⟩, .string ⟨#[75, 105, 110, 103, 44]⟩, .string ⟨#[116, 104, 101]⟩, .string ⟨#[84, 104, 101]⟩, .string ⟨#[108, 121, 114, 101]⟩, .string ⟨#[111, 102]⟩, .string ⟨#[114, 111, 109, 101]⟩, .string ⟨#[120]⟩, .string ⟨#[120, 57]⟩, .string ⟨#[111, 100, 101, 46]⟩, .string ⟨#[64]⟩, .string ⟨#[107, 105, 110, 103, 45, 97, 110, 110, 97]⟩, .string ⟨#[82, 79, 77, 69]⟩, .string ⟨#[116, 104, 101, 32, 107, 105, 110, 103]⟩]) rfl
              try replace hT2 := hT2.below (brefl.al (.cells #[.string ⟨#[97, 110, 110, 97]⟩, .string ⟨#[65, 110, 110, 97]⟩, .string ⟨#[107, 105, 110, 103]⟩, .string ⟨#[75, 105, 110, 103, 44]⟩, .string ⟨#[116, 104, 101]⟩, .string ⟨#[84, 104, 101]⟩, .string ⟨#[108, 121, 114, 101]⟩, .string ⟨#[111, 102]⟩, .string ⟨#[114, 111, 109, 101]⟩, .string ⟨#[120]⟩, .string ⟨#[120, 57]⟩, .string ⟨#[111, 100, 101, 46]⟩, .string ⟨#[64]⟩, .string ⟨#[107, 105, 110, 103, 45, 97, 110, 110, 97]⟩, .string ⟨#[82, 79, 77, 69]⟩, .string ⟨#[116, 104, 101, 32, 107, 105, 110, 103]⟩] 9))
              refine hK _ _ (fun _ => by first | exact hT2 | trivial) ?_
              clear hK K hbX
              have hbX := hX2
              clear hX2
              generalize wc.heap.size = ob1 at *
              generalize wc.alloc (.cells #[.string ⟨#[97, 110, 110, 97]⟩, .string ⟨#[65, 110, 110, 97]⟩, .string ⟨#[107, 105, 110, 103]⟩, .string ⟨#[75, 105, 110, 103, 44]⟩, .string ⟨#[116, 104, 101]⟩, .string ⟨#[84, 104, 101]⟩, .string ⟨#[108, 121, 114, 101]⟩, .string ⟨#[111, 102]⟩, .string ⟨#[114, 111, 109, 101]⟩, .string ⟨#[120]⟩, .string ⟨#[120, 57]⟩, .string ⟨#[111, 100, 101, 46]⟩, .string ⟨#[64]⟩, .string ⟨#[107, 105, 110, 103, 45, 97, 110, 110, 97]⟩, .string ⟨#[82, 79, 77, 69]⟩, .string ⟨#[116, 104, 101, 32, 107, 105, 110, 103]⟩] 9) = wc at *
              first | (refine wpPlan_str (fun wz => Tbl wz ob1 tbl16 ∧ Tbl wz ob2 tbl5) (fun _ h => h.2) ?_) | (refine wpPlan_str (fun wz => Tbl wz ob1 tbl16) (fun _ _ => trivial) ?_)
              refine wpPlan_put (v := ?_) rfl rfl (Or.inl ⟨by rfl, fun wz hz => ?_⟩) (by first | exact ⟨hT1, hT2⟩ | exact hT1 | exact hT2 | trivial) ?_
              rotate_left
              (focus (go_simp; try (with_reducible rfl)))
              simp only [List.setIfInBounds_toArray, List.set_cons_succ, List.set_cons_zero]
              refine wpPlan_put (v := ?_) rfl rfl (Or.inl ⟨by rfl, fun wz hz => ?_⟩) (by first | exact ⟨hT1, hT2⟩ | exact hT1 | exact hT2 | trivial) ?_
              rotate_left
              (focus (have h6 : wz.cell? ⟨ob1, u, none⟩ = some (.string x) := (by first | exact hz.1.2 _ _ HX.out | exact hz.2 _ _ HX.out); go_simp; try (with_reducible rfl)))
              simp only [List.setIfInBounds_toArray, List.set_cons_succ, List.set_cons_zero]
              refine wpPlan_put (v := ?_) rfl rfl (Or.inl ⟨by rfl, fun wz hz => ?_⟩) (by first | exact ⟨hT1, hT2⟩ | exact hT1 | exact hT2 | trivial) ?_
              rotate_left
              (focus (have h7 : ¬ 9223372036854775807 < st.size + x.size := (by omega); go_simp; try (with_reducible rfl)))
              simp only [List.setIfInBounds_toArray, List.set_cons_succ, List.set_cons_zero]
              refine wpPlan_two ?_ ?_
              · skip
                refine wpForced_step rfl (fun K hK => ?_)
                go_simp
                have hX2 := hbX.al (.cells #[.string ⟨#[32]⟩, .string ⟨#[32]⟩, .string ⟨#[32]⟩, .string ⟨#[32, 32]⟩, .string ⟨#[45]⟩] 9)
                have hT2 := Tbl.new wc tbl5 9 (a := #[.string ⟨#[32]⟩, .string ⟨#[32]⟩, .string ⟨#[32]⟩, .string ⟨#[32, 32]⟩, .string ⟨#[45]⟩]) rfl
                try replace hT1 := hT1.below (brefl.al (.cells #[.string ⟨#[32]⟩, .string ⟨#[32]⟩, .string ⟨#[32]⟩, .string ⟨#[32, 32]⟩, .string ⟨#[45]⟩] 9))
                refine hK _ _ (fun _ => by first | exact hT1 | trivial) ?_
                clear hK K hbX
                have hbX := hX2
                clear hX2
                generalize wc.heap.size = ob2 at *
                generalize wc.alloc (.cells #[.string ⟨#[32]⟩, .string ⟨#[32]⟩, .string ⟨#[32]⟩, .string ⟨#[32, 32]⟩, .string ⟨#[45]⟩] 9) = wc at *
                first | (refine wpPlan_str (fun wz => Tbl wz ob1 tbl16 ∧ Tbl wz ob2 tbl5) (fun _ h => h.1) ?_) | (refine wpPlan_str (fun wz => Tbl wz ob2 tbl5) (fun _ _ => trivial) ?_)
                refine wpPlan_one ?_
                refine wpForced_step rfl (fun K hK => ?_)
                go_simp
                refine (Hq.out _ (hlr.below hbX)).mono ?_
                rintro e _ ⟨rfl, rfl⟩
                go_simp
                refine hK _ _ (fun _ => by first | exact ⟨hT1, hT2⟩ | exact hT1 | exact hT2 | trivial) ?_
                clear hK K
                refine wpPlan_put (v := ?_) rfl rfl (Or.inl ⟨by rfl, fun wz hz => ?_⟩) (by first | exact ⟨hT1, hT2⟩ | exact hT1 | exact hT2 | trivial) ?_
                rotate_left
                (focus (go_simp; try (with_reducible rfl)))
                simp only [List.setIfInBounds_toArray, List.set_cons_succ, List.set_cons_zero]
                refine wpPlan_put (v := ?_) rfl rfl (Or.inl ⟨by rfl, fun wz hz => ?_⟩) (by first | exact ⟨hT1, hT2⟩ | exact hT1 | exact hT2 | trivial) ?_
                rotate_left
                (focus (have h14 : wz.cell? ⟨ob2, q, none⟩ = some (.string y) := (by first | exact hz.2.2 _ _ HY.out | exact hz.2 _ _ HY.out); go_simp; try (with_reducible rfl)))
                simp only [List.setIfInBounds_toArray, List.set_cons_succ, List.set_cons_zero]
                refine wpPlan_put (v := ?_) rfl rfl (Or.inl ⟨by rfl, fun wz hz => ?_⟩) (by first | exact ⟨hT1, hT2⟩ | exact hT1 | exact hT2 | trivial) ?_
                rotate_left
                (focus (have h15 : ¬ 9223372036854775807 < st.size + x.size + y.size := (by omega); go_simp; try (with_reducible rfl)))
                simp only [List.setIfInBounds_toArray, List.set_cons_succ, List.set_cons_zero]
                refine wpPlan_put (v := ?_) rfl rfl (Or.inl ⟨by rfl, fun wz hz => ?_⟩) (by first | exact ⟨hT1, hT2⟩ | exact hT1 | exact hT2 | trivial) ?_
                rotate_left
                (focus (go_simp; try (with_reducible rfl)))
                simp only [List.setIfInBounds_toArray, List.set_cons_succ, List.set_cons_zero]
                refine wpPlan_nil ?_
                go_wp2
                go_roundw
                case rel => exact ⟨i + 1, _, by omega, by omega, by go_num, rfl, by rw [ByteArray.size_append, ByteArray.size_append]; omega, hbr.tr hbX⟩
                case measure => simp [intOf]; omega
              · skip
                refine wpForced_step rfl (fun K hK => ?_)
                go_simp
                refine (Hq.out _ (hlr.below hbX)).mono ?_
                rintro e _ ⟨rfl, rfl⟩
                go_simp
                refine hK _ _ (fun _ => by first | exact ⟨hT1, hT2⟩ | exact hT1 | exact hT2 | trivial) ?_
                clear hK K
                refine wpPlan_one ?_
                refine wpForced_step rfl (fun K hK => ?_)
                go_simp
                have hX2 := hbX.al (.cells #[.string ⟨#[32]⟩, .string ⟨#[32]⟩, .string ⟨#[32]⟩, .string ⟨#[32, 32]⟩, .string ⟨#[45]⟩] 9)
                have hT2 := Tbl.new wc tbl5 9 (a := #[.string ⟨#[32]⟩, .string ⟨#[32]⟩, .string ⟨#[32]⟩, .string ⟨#[32, 32]⟩, .string ⟨#[45]⟩]) rfl
                try replace hT1 := hT1.below (brefl.al (.cells #[.string ⟨#[32]⟩, .string ⟨#[32]⟩, .string ⟨#[32]⟩, .string ⟨#[32, 32]⟩, .string ⟨#[45]⟩] 9))
                refine hK _ _ (fun _ => by first | exact hT1 | trivial) ?_
                clear hK K hbX
                have hbX := hX2
                clear hX2
                generalize wc.heap.size = ob2 at *
                generalize wc.alloc (.cells #[.string ⟨#[32]⟩, .string ⟨#[32]⟩, .string ⟨#[32]⟩, .string ⟨#[32, 32]⟩, .string ⟨#[45]⟩] 9) = wc at *
                first | (refine wpPlan_str (fun wz => Tbl wz ob1 tbl16 ∧ Tbl wz ob2 tbl5) (fun _ h => h.1) ?_) | (refine wpPlan_str (fun wz => Tbl wz ob2 tbl5) (fun _ _ => trivial) ?_)
                refine wpPlan_put (v := ?_) rfl rfl (Or.inl ⟨by rfl, fun wz hz => ?_⟩) (by first | exact ⟨hT1, hT2⟩ | exact hT1 | exact hT2 | trivial) ?_
                rotate_left
                (focus (go_simp; try (with_reducible rfl)))
                simp only [List.setIfInBounds_toArray, List.set_cons_succ, List.set_cons_zero]
                refine wpPlan_put (v := ?_) rfl rfl (Or.inl ⟨by rfl, fun wz hz => ?_⟩) (by first | exact ⟨hT1, hT2⟩ | exact hT1 | exact hT2 | trivial) ?_
                rotate_left
                (focus (have h14 : wz.cell? ⟨ob2, q, none⟩ = some (.string y) := (by first | exact hz.2.2 _ _ HY.out | exact hz.2 _ _ HY.out); go_simp; try (with_reducible rfl)))
                simp only [List.setIfInBounds_toArray, List.set_cons_succ, List.set_cons_zero]
                refine wpPlan_put (v := ?_) rfl rfl (Or.inl ⟨by rfl, fun wz hz => ?_⟩) (by first | exact ⟨hT1, hT2⟩ | exact hT1 | exact hT2 | trivial) ?_
                rotate_left
                (focus (have h15 : ¬ 9223372036854775807 < st.size + x.size + y.size := (by omega); go_simp; try (with_reducible rfl)))
                simp only [List.setIfInBounds_toArray, List.set_cons_succ, List.set_cons_zero]
                refine wpPlan_put (v := ?_) rfl rfl (Or.inl ⟨by rfl, fun wz hz => ?_⟩) (by first | exact ⟨hT1, hT2⟩ | exact hT1 | exact hT2 | trivial) ?_
                rotate_left
                (focus (go_simp; try (with_reducible rfl)))
                simp only [List.setIfInBounds_toArray, List.set_cons_succ, List.set_cons_zero]
                refine wpPlan_nil ?_
                go_wp2
                go_roundw
                case rel => exact ⟨i + 1, _, by omega, by omega, by go_num, rfl, by rw [ByteArray.size_append, ByteArray.size_append]; omega, hbr.tr hbX⟩
                case measure => simp [intOf]; omega
            · skip
              refine wpForced_step rfl (fun K hK => ?_)
              go_simp
              have hX2 := hbX.al (.cells #[.string ⟨#[32]⟩, .string ⟨#[32]⟩, .string ⟨#[32]⟩, .string ⟨#[32, 32]⟩, .string ⟨#[45]⟩] 9)
              have hT2 := Tbl.new wc tbl5 9 (a := #[.string ⟨#[32]⟩, .string ⟨#[32]⟩, .string ⟨#[32]⟩, .string ⟨#[32, 32]⟩, .string ⟨#[45]⟩]) rfl
              try replace hT1 := hT1.below (brefl.al (.cells #[.string ⟨#[32]⟩, .string ⟨#[32]⟩, .string ⟨#[32]⟩, .string ⟨#[32, 32]⟩, .string ⟨#[45]⟩] 9))
              refine hK _ _ (fun _ => by first | exact hT1 | trivial) ?_
              clear hK K hbX
              have hbX := hX2
              clear hX2
              generalize wc.heap.size = ob2 at *
              generalize wc.alloc (.cells #[.string ⟨#[32]⟩, .string ⟨#[32]⟩, .string ⟨#[32]⟩, .string ⟨#[32, 32]⟩, .string ⟨#[45]⟩] 9) = wc at *
              first | (refine wpPlan_str (fun wz => Tbl wz ob1 tbl16 ∧ Tbl wz ob2 tbl5) (fun _ h => h.1) ?_) | (refine wpPlan_str (fun wz => Tbl wz ob2 tbl5) (fun _ _ => trivial) ?_)
              refine wpPlan_two ?_ ?_
              · skip
                refine wpForced_step rfl (fun K hK => ?_)
                go_simp
                have hX2 := hbX.al (.cells #[.string ⟨#[97, 110, 110, 97]⟩, .string ⟨#[65, 110, 110, 97]⟩, .string ⟨#[107, 105, 110, 103]⟩, .string ⟨#[75, 105, 110, 103, 44]⟩, .string ⟨#[116, 104, 101]⟩, .string ⟨#[84, 104, 101]⟩, .string ⟨#[108, 121, 114, 101]⟩, .string ⟨#[111, 102]⟩, .string ⟨#[114, 111, 109, 101]⟩, .string ⟨#[120]⟩, .string ⟨#[120, 57]⟩, .string ⟨#[111, 100, 101, 46]⟩, .string ⟨#[64]⟩, .string ⟨#[107, 105, 110, 103, 45, 97, 110, 110, 97]⟩, .string ⟨#[82, 79, 77, 69]⟩, .string ⟨#[116, 104, 101, 32, 107, 105, 110, 103]⟩] 9)
                have hT1 := Tbl.new wc tbl16 9 (a := #[.string ⟨#[97, 110, 110, 97]⟩, .string ⟨#[65, 110, 110, 97]⟩, .string ⟨#[107, 105, 110, 103]⟩, .string ⟨#[75, 105, 110, 103, 44]⟩, .string ⟨#[116, 104, 101]⟩, .string ⟨#[84, 104, 101]⟩, .string ⟨#[108, 121, 114, 101]⟩, .string ⟨#[111, 102]⟩, .string ⟨#[114, 111, 109, 101]⟩, .string ⟨#[120]⟩, .string ⟨#[120, 57]⟩, .string ⟨#[111, 100, 101, 46]⟩, .string ⟨#[64]⟩, .string ⟨#[107, 105, 110, 103, 45, 97, 110, 110, 97]⟩, .string ⟨#[82, 79, 77, 69]⟩, .string ⟨#[116, 104, 101, 32, 107, 105, 110, 103]⟩]) rfl
                try replace hT2 := hT2.below (brefl.al (.cells #[.string ⟨#[97, 110, 110, 97]⟩, .string ⟨#[65, 110, 110, 97]⟩, .string ⟨#[107, 105, 110, 103]⟩, .string ⟨#[75, 105, 110, 103, 44]⟩, .string ⟨#[116, 104, 101]⟩, .string ⟨#[84, 104, 101]⟩, .string ⟨#[108, 121, 114, 101]⟩, .string ⟨#[111, 102]⟩, .string ⟨#[114, 111, 109, 101]⟩, .string ⟨#[120]⟩, .string ⟨#[120, 57]⟩, .string ⟨#[111, 100, 101, 46]⟩, .string ⟨#[64]⟩, .string ⟨#[107, 105, 110, 103, 45, 97, 110, 110, 97]⟩, .string ⟨#[82, 79, 77, 69]⟩, .string ⟨#[116, 104, 101, 32, 107, 105, 110, 103]⟩] 9))
                refine hK _ _ (fun _ => by first | exact hT2 | trivial) ?_
                clear hK K hbX
                have hbX := hX2
                clear hX2
                generalize wc.heap.size = ob1 at *
                generalize wc.alloc (.cells #[.string ⟨#[97, 110, 110, 97]⟩, .string ⟨#[65, 110, 110, 97]⟩, .string ⟨#[107, 105, 110, 103]⟩, .string ⟨#[75, 105, 110, 103, 44]⟩, .string ⟨#[116, 104, 101]⟩, .string ⟨#[84, 104, 101]⟩, .string ⟨#[108, 121, 114, 101]⟩, .string ⟨#[111, 102]⟩, .string ⟨#[114, 111, 109, 101]⟩, .string ⟨#[120]⟩, .string ⟨#[120, 57]⟩, .string ⟨#[111, 100, 101, 46]⟩, .string ⟨#[64]⟩, .string ⟨#[107, 105, 110, 103, 45, 97, 110, 110, 97]⟩, .string ⟨#[82, 79, 77, 69]⟩, .string ⟨#[116, 104, 101, 32, 107, 105, 110, 103]⟩] 9) = wc at *
                first | (refine wpPlan_str (fun wz => Tbl wz ob1 tbl16 ∧ Tbl wz ob2 tbl5) (fun _ h => h.2) ?_) | (refine wpPlan_str (fun wz => Tbl wz ob1 tbl16) (fun _ _ => trivial) ?_)
                refine wpPlan_put (v := ?_) rfl rfl (Or.inl ⟨by rfl, fun wz hz => ?_⟩) (by first | exact ⟨hT1, hT2⟩ | exact hT1 | exact hT2 | trivial) ?_
                rotate_left
                (focus (go_simp; try (with_reducible rfl)))
                simp only [List.setIfInBounds_toArray, List.set_cons_succ, List.set_cons_zero]
                refine wpPlan_put (v := ?_) rfl rfl (Or.inl ⟨by rfl, fun wz hz => ?_⟩) (by first | exact ⟨hT1, hT2⟩ | exact hT1 | exact hT2 | trivial) ?_
                rotate_left
                (focus (have h6 : wz.cell? ⟨ob1, u, none⟩ = some (.string x) := (by first | exact hz.1.2 _ _ HX.out | exact hz.2 _ _ HX.out); go_simp; try (with_reducible rfl)))
                simp only [List.setIfInBounds_toArray, List.set_cons_succ, List.set_cons_zero]
                refine wpPlan_put (v := ?_) rfl rfl (Or.inl ⟨by rfl, fun wz hz => ?_⟩) (by first | exact ⟨hT1, hT2⟩ | exact hT1 | exact hT2 | trivial) ?_
                rotate_left
                (focus (have h7 : ¬ 9223372036854775807 < st.size + x.size := (by omega); go_simp; try (with_reducible rfl)))
                simp only [List.setIfInBounds_toArray, List.set_cons_succ, List.set_cons_zero]
                refine wpPlan_one ?_
                refine wpForced_step rfl (fun K hK => ?_)
                go_simp
                refine (Hq.out _ (hlr.below hbX)).mono ?_
                rintro e _ ⟨rfl, rfl⟩
                go_simp
                refine hK _ _ (fun _ => by first | exact ⟨hT1, hT2⟩ | exact hT1 | exact hT2 | trivial) ?_
                clear hK K
                refine wpPlan_put (v := ?_) rfl rfl (Or.inl ⟨by rfl, fun wz hz => ?_⟩) (by first | exact ⟨hT1, hT2⟩ | exact hT1 | exact hT2 | trivial) ?_
                rotate_left
                (focus (go_simp; try (with_reducible rfl)))
                simp only [List.setIfInBounds_toArray, List.set_cons_succ, List.set_cons_zero]
                refine wpPlan_put (v := ?_) rfl rfl (Or.inl ⟨by rfl, fun wz hz => ?_⟩) (by first | exact ⟨hT1, hT2⟩ | exact hT1 | exact hT2 | trivial) ?_
                rotate_left
                (focus (have h14 : wz.cell? ⟨ob2, q, none⟩ = some (.string y) := (by first | exact hz.2.2 _ _ HY.out | exact hz.2 _ _ HY.out); go_simp; try (with_reducible rfl)))
                simp only [List.setIfInBounds_toArray, List.set_cons_succ, List.set_cons_zero]
                refine wpPlan_put (v := ?_) rfl rfl (Or.inl ⟨by rfl, fun wz hz => ?_⟩) (by first | exact ⟨hT1, hT2⟩ | exact hT1 | exact hT2 | trivial) ?_
                rotate_left
                (focus (have h15 : ¬ 9223372036854775807 < st.size + x.size + y.size := (by omega); go_simp; try (with_reducible rfl)))
                simp only [List.setIfInBounds_toArray, List.set_cons_succ, List.set_cons_zero]
                refine wpPlan_put (v := ?_) rfl rfl (Or.inl ⟨by rfl, fun wz hz => ?_⟩) (by first | exact ⟨hT1, hT2⟩ | exact hT1 | exact hT2 | trivial) ?_
                rotate_left
                (focus (go_simp; try (with_reducible rfl)))
                simp only [List.setIfInBounds_toArray, List.set_cons_succ, List.set_cons_zero]
                refine wpPlan_nil ?_
                go_wp2
                go_roundw
                case rel => exact ⟨i + 1, _, by omega, by omega, by go_num, rfl, by rw [ByteArray.size_append, ByteArray.size_append]; omega, hbr.tr hbX⟩
                case measure => simp [intOf]; omega
              · skip
                refine wpForced_step rfl (fun K hK => ?_)
                go_simp
                refine (Hq.out _ (hlr.below hbX)).mono ?_
                rintro e _ ⟨rfl, rfl⟩
                go_simp
                refine hK _ _ (fun _ => by first | exact ⟨hT1, hT2⟩ | exact hT1 | exact hT2 | trivial) ?_
                clear hK K
                refine wpPlan_put (v := ?_) rfl rfl (Or.inl ⟨by rfl, fun wz hz => ?_⟩) (by first | exact ⟨hT1, hT2⟩ | exact hT1 | exact hT2 | trivial) ?_
                rotate_left
                (focus (go_simp; try (with_reducible rfl)))
                simp only [List.setIfInBounds_toArray, List.set_cons_succ, List.set_cons_zero]
                refine wpPlan_put (v := ?_) rfl rfl (Or.inl ⟨by rfl, fun wz hz => ?_⟩) (by first | exact ⟨hT1, hT2⟩ | exact hT1 | exact hT2 | trivial) ?_
                rotate_left
                (focus (have h14 : wz.cell? ⟨ob2, q, none⟩ = some (.string y) := (by first | exact hz.2.2 _ _ HY.out | exact hz.2 _ _ HY.out); go_simp; try (with_reducible rfl)))
                simp only [List.setIfInBounds_toArray, List.set_cons_succ, List.set_cons_zero]
                refine wpPlan_one ?_
                refine wpForced_step rfl (fun K hK => ?_)
                go_simp
                have hX2 := hbX.al (.cells #[.string ⟨#[97, 110, 110, 97]⟩, .string ⟨#[65, 110, 110, 97]⟩, .string ⟨#[107, 105, 110, 103]⟩, .string ⟨#[75, 105, 110, 103, 44]⟩, .string ⟨#[116, 104, 101]⟩, .string ⟨#[84, 104, 101]⟩, .string ⟨#[108, 121, 114, 101]⟩, .string ⟨#[111, 102]⟩, .string ⟨#[114, 111, 109, 101]⟩, .string ⟨#[120]⟩, .string ⟨#[120, 57]⟩, .string ⟨#[111, 100, 101, 46]⟩, .string ⟨#[64]⟩, .string ⟨#[107, 105, 110, 103, 45, 97, 110, 110, 97]⟩, .string ⟨#[82, 79, 77, 69]⟩, .string ⟨#[116, 104, 101, 32, 107, 105, 110, 103]⟩] 9)
                have hT1 := Tbl.new wc tbl16 9 (a := #[.string ⟨#[97, 110, 110, 97]⟩, .string ⟨#[65, 110, 110, 97]⟩, .string ⟨#[107, 105, 110, 103]⟩, .string ⟨#[75, 105, 110, 103, 44]⟩, .string ⟨#[116, 104, 101]⟩, .string ⟨#[84, 104, 101]⟩, .string ⟨#[108, 121, 114, 101]⟩, .string ⟨#[111, 102]⟩, .string ⟨#[114, 111, 109, 101]⟩, .string ⟨#[120]⟩, .string ⟨#[120, 57]⟩, .string ⟨#[111, 100, 101, 46]⟩, .string ⟨#[64]⟩, .string ⟨#[107, 105, 110, 103, 45, 97, 110, 110, 97]⟩, .string ⟨#[82, 79, 77, 69]⟩, .string ⟨#[116, 104, 101, 32, 107, 105, 110, 103]⟩]) rfl
                try replace hT2 := hT2.below (brefl.al (.cells #[.string ⟨#[97, 110, 110, 97]⟩, .string ⟨#[65, 110, 110, 97]⟩, .string ⟨#[107, 105, 110, 103]⟩, .string ⟨#[75, 105, 110, 103, 44]⟩, .string ⟨#[116, 104, 101]⟩, .string ⟨#[84, 104, 101]⟩, .string ⟨#[108, 121, 114, 101]⟩, .string ⟨#[111, 102]⟩, .string ⟨#[114, 111, 109, 101]⟩, .string ⟨#[120]⟩, .string ⟨#[120, 57]⟩, .string ⟨#[111, 100, 101, 46]⟩, .string ⟨#[64]⟩, .string ⟨#[107, 105, 110, 103, 45, 97, 110, 110, 97]⟩, .string ⟨#[82, 79, 77, 69]⟩, .string ⟨#[116, 104, 101, 32, 107, 105, 110, 103]⟩] 9))
                refine hK _ _ (fun _ => by first | exact hT2 | trivial) ?_
                clear hK K hbX
                have hbX := hX2
                clear hX2
                generalize wc.heap.size = ob1 at *
                generalize wc.alloc (.cells #[.string ⟨#[97, 110, 110, 97]⟩, .string ⟨#[65, 110, 110, 97]⟩, .string ⟨#[107, 105, 110, 103]⟩, .string ⟨#[75, 105, 110, 103, 44]⟩, .string ⟨#[116, 104, 101]⟩, .string ⟨#[84, 104, 101]⟩, .string ⟨#[108, 121, 114, 101]⟩, .string ⟨#[111, 102]⟩, .string ⟨#[114, 111, 109, 101]⟩, .string ⟨#[120]⟩, .string ⟨#[120, 57]⟩, .string ⟨#[111, 100, 101, 46]⟩, .string ⟨#[64]⟩, .string ⟨#[107, 105, 110, 103, 45, 97, 110, 110, 97]⟩, .string ⟨#[82, 79, 77, 69]⟩, .string ⟨#[116, 104, 101, 32, 107, 105, 110, 103]⟩] 9) = wc at *
                first | (refine wpPlan_str (fun wz => Tbl wz ob1 tbl16 ∧ Tbl wz ob2 tbl5) (fun _ h => h.2) ?_) | (refine wpPlan_str (fun wz => Tbl wz ob1 tbl16) (fun _ _ => trivial) ?_)
                refine wpPlan_put (v := ?_) rfl rfl (Or.inl ⟨by rfl, fun wz hz => ?_⟩) (by first | exact ⟨hT1, hT2⟩ | exact hT1 | exact hT2 | trivial) ?_
                rotate_left
                (focus (go_simp; try (with_reducible rfl)))
                simp only [List.setIfInBounds_toArray, List.set_cons_succ, List.set_cons_zero]
                refine wpPlan_put (v := ?_) rfl rfl (Or.inl ⟨by rfl, fun wz hz => ?_⟩) (by first | exact ⟨hT1, hT2⟩ | exact hT1 | exact hT2 | trivial) ?_
                rotate_left
                (focus (have h6 : wz.cell? ⟨ob1, u, none⟩ = some (.string x) := (by first | exact hz.1.2 _ _ HX.out | exact hz.2 _ _ HX.out); go_simp; try (with_reducible rfl)))
                simp only [List.setIfInBounds_toArray, List.set_cons_succ, List.set_cons_zero]
                refine wpPlan_put (v := ?_) rfl rfl (Or.inl ⟨by rfl, fun wz hz => ?_⟩) (by first | exact ⟨hT1, hT2⟩ | exact hT1 | exact hT2 | trivial) ?_
                rotate_left
                (focus (have h7 : ¬ 9223372036854775807 < st.size + x.size := (by omega); go_simp; try (with_reducible rfl)))
                simp only [List.setIfInBounds_toArray, List.set_cons_succ, List.set_cons_zero]
                refine wpPlan_put (v := ?_) rfl rfl (Or.inl ⟨by rfl, fun wz hz => ?_⟩) (by first | exact ⟨hT1, hT2⟩ | exact hT1 | exact hT2 | trivial) ?_
                rotate_left
                (focus (have h15 : ¬ 9223372036854775807 < st.size + x.size + y.size := (by omega); go_simp; try (with_reducible rfl)))
                simp only [List.setIfInBounds_toArray, List.set_cons_succ, List.set_cons_zero]
                refine wpPlan_put (v := ?_) rfl rfl (Or.inl ⟨by rfl, fun wz hz => ?_⟩) (by first | exact ⟨hT1, hT2⟩ | exact hT1 | exact hT2 | trivial) ?_
                rotate_left
                (focus (go_simp; try (with_reducible rfl)))
                simp only [List.setIfInBounds_toArray, List.set_cons_succ, List.set_cons_zero]
                refine wpPlan_nil ?_
                go_wp2
                go_roundw
                case rel => exact ⟨i + 1, _, by omega, by omega, by go_num, rfl, by rw [ByteArray.size_append, ByteArray.size_append]; omega, hbr.tr hbX⟩
                case measure => simp [intOf]; omega
            · skip
              refine wpForced_step rfl (fun K hK => ?_)
              go_simp
              refine (Hq.out _ (hlr.below hbX)).mono ?_
              rintro e _ ⟨rfl, rfl⟩
              go_simp
              refine hK _ _ (fun _ => by first | exact ⟨hT1, hT2⟩ | exact hT1 | exact hT2 | trivial) ?_
              clear hK K
              refine wpPlan_two ?_ ?_
              · skip
                refine wpForced_step rfl (fun K hK => ?_)
                go_simp
                have hX2 := hbX.al (.cells #[.string ⟨#[97, 110, 110, 97]⟩, .string ⟨#[65, 110, 110, 97]⟩, .string ⟨#[107, 105, 110, 103]⟩, .string ⟨#[75, 105, 110, 103, 44]⟩, .string ⟨#[116, 104, 101]⟩, .string ⟨#[84, 104, 101]⟩, .string ⟨#[108, 121, 114, 101]⟩, .string ⟨#[111, 102]⟩, .string ⟨#[114, 111, 109, 101]⟩, .string ⟨#[120]⟩, .string ⟨#[120, 57]⟩, .string ⟨#[111, 100, 101, 46]⟩, .string ⟨#[64]⟩, .string ⟨#[107, 105, 110, 103, 45, 97, 110, 110, 97]⟩, .string ⟨#[82, 79, 77, 69]⟩, .string ⟨#[116, 104, 101, 32, 107, 105, 110, 103]⟩] 9)
                have hT1 := Tbl.new wc tbl16 9 (a := #[.string ⟨#[97, 110, 110, 97]⟩, .string ⟨#[65, 110, 110, 97]⟩, .string ⟨#[107, 105, 110, 103]⟩, .string ⟨#[75, 105, 110, 103, 44]⟩, .string ⟨#[116, 104, 101]⟩, .string ⟨#[84, 104, 101]⟩, .string ⟨#[108, 121, 114, 101]⟩, .string ⟨#[111, 102]⟩, .string ⟨#[114, 111, 109, 101]⟩, .string ⟨#[120]⟩, .string ⟨#[120, 57]⟩, .string ⟨#[111, 100, 101, 46]⟩, .string ⟨#[64]⟩, .string ⟨#[107, 105, 110, 103, 45, 97, 110, 110, 97]⟩, .string ⟨#[82, 79, 77, 69]⟩, .string ⟨#[116, 104, 101, 32, 107, 105, 110, 103]⟩]) rfl
                try replace hT2 := hT2.below (brefl.al (.cells #[.string ⟨#[97, 110, 110, 97]⟩, .string ⟨#[65, 110, 110, 97]⟩, .string ⟨#[107, 105, 110, 103]⟩, .string ⟨#[75, 105, 110, 103, 44]⟩, .string ⟨#[116, 104, 101]⟩, .string ⟨#[84, 104, 101]⟩, .string ⟨#[108, 121, 114, 101]⟩, .string ⟨#[111, 102]⟩, .string ⟨#[114, 111, 109, 101]⟩, .string ⟨#[120]⟩, .string ⟨#[120, 57]⟩, .string ⟨#[111, 100, 101, 46]⟩, .string ⟨#[64]⟩, .string ⟨#[107, 105, 110, 103, 45, 97, 110, 110, 97]⟩, .string ⟨#[82, 79, 77, 69]⟩, .string ⟨#[116, 104, 101, 32, 107, 105, 110, 103]⟩] 9))
                refine hK _ _ (fun _ => by first | exact hT2 | trivial) ?_
                clear hK K hbX
                have hbX := hX2
                clear hX2
                generalize wc.heap.size = ob1 at *
                generalize wc.alloc (.cells #[.string ⟨#[97, 110, 110, 97]⟩, .string ⟨#[65, 110, 110, 97]⟩, .string ⟨#[107, 105, 110, 103]⟩, .string ⟨#[75, 105, 110, 103, 44]⟩, .string ⟨#[116, 104, 101]⟩, .string ⟨#[84, 104, 101]⟩, .string ⟨#[108, 121, 114, 101]⟩, .string ⟨#[111, 102]⟩, .string ⟨#[114, 111, 109, 101]⟩, .string ⟨#[120]⟩, .string ⟨#[120, 57]⟩, .string ⟨#[111, 100, 101, 46]⟩, .string ⟨#[64]⟩, .string ⟨#[107, 105, 110, 103, 45, 97, 110, 110, 97]⟩, .string ⟨#[82, 79, 77, 69]⟩, .string ⟨#[116, 104, 101, 32, 107, 105, 110, 103]⟩] 9) = wc at *
                first | (refine wpPlan_str (fun wz => Tbl wz ob1 tbl16 ∧ Tbl wz ob2 tbl5) (fun _ h => h.2) ?_) | (refine wpPlan_str (fun wz => Tbl wz ob1 tbl16) (fun _ _ => trivial) ?_)
                refine wpPlan_put (v := ?_) rfl rfl (Or.inl ⟨by rfl, fun wz hz => ?_⟩) (by first | exact ⟨hT1, hT2⟩ | exact hT1 | exact hT2 | trivial) ?_
                rotate_left
                (focus (go_simp; try (with_reducible rfl)))
                simp only [List.setIfInBounds_toArray, List.set_cons_succ, List.set_cons_zero]
                refine wpPlan_put (v := ?_) rfl rfl (Or.inl ⟨by rfl, fun wz hz => ?_⟩) (by first | exact ⟨hT1, hT2⟩ | exact hT1 | exact hT2 | trivial) ?_
                rotate_left
                (focus (have h6 : wz.cell? ⟨ob1, u, none⟩ = some (.string x) := (by first | exact hz.1.2 _ _ HX.out | exact hz.2 _ _ HX.out); go_simp; try (with_reducible rfl)))
                simp only [List.setIfInBounds_toArray, List.set_cons_succ, List.set_cons_zero]
                refine wpPlan_put (v := ?_) rfl rfl (Or.inl ⟨by rfl, fun wz hz => ?_⟩) (by first | exact ⟨hT1, hT2⟩ | exact hT1 | exact hT2 | trivial) ?_
                rotate_left
                (focus (have h7 : ¬ 9223372036854775807 < st.size + x.size := (by omega); go_simp; try (with_reducible rfl)))
                simp only [List.setIfInBounds_toArray, List.set_cons_succ, List.set_cons_zero]
                refine wpPlan_one ?_
                refine wpForced_step rfl (fun K hK => ?_)
                go_simp
                have hX2 := hbX.al (.cells #[.string ⟨#[32]⟩, .string ⟨#[32]⟩, .string ⟨#[32]⟩, .string ⟨#[32, 32]⟩, .string ⟨#[45]⟩] 9)
                have hT2 := Tbl.new wc tbl5 9 (a := #[.string ⟨#[32]⟩, .string ⟨#[32]⟩, .string ⟨#[32]⟩, .string ⟨#[32, 32]⟩, .string ⟨#[45]⟩]) rfl
                try replace hT1 := hT1.below (brefl.al (.cells #[.string ⟨#[32]⟩, .string ⟨#[32]⟩, .string ⟨#[32]⟩, .string ⟨#[32, 32]⟩, .string ⟨#[45]⟩] 9))
                refine hK _ _ (fun _ => by first | exact hT1 | trivial) ?_
                clear hK K hbX
                have hbX := hX2
                clear hX2
                generalize wc.heap.size = ob2 at *
                generalize wc.alloc (.cells #[.string ⟨#[32]⟩, .string ⟨#[32]⟩, .string ⟨#[32]⟩, .string ⟨#[32, 32]⟩, .string ⟨#[45]⟩] 9) = wc at *
                first | (refine wpPlan_str (fun wz => Tbl wz ob1 tbl16 ∧ Tbl wz ob2 tbl5) (fun _ h => h.1) ?_) | (refine wpPlan_str (fun wz => Tbl wz ob2 tbl5) (fun _ _ => trivial) ?_)
                refine wpPlan_put (v := ?_) rfl rfl (Or.inl ⟨by rfl, fun wz hz => ?_⟩) (by first | exact ⟨hT1, hT2⟩ | exact hT1 | exact hT2 | trivial) ?_
                rotate_left
                (focus (go_simp; try (with_reducible rfl)))
                simp only [List.setIfInBounds_toArray, List.set_cons_succ, List.set_cons_zero]
                refine wpPlan_put (v := ?_) rfl rfl (Or.inl ⟨by rfl, fun wz hz => ?_⟩) (by first | exact ⟨hT1, hT2⟩ | exact hT1 | exact hT2 | trivial) ?_
                rotate_left
                (focus (have h14 : wz.cell? ⟨ob2, q, none⟩ = some (.string y) := (by first | exact hz.2.2 _ _ HY.out | exact hz.2 _ _ HY.out); go_simp; try (with_reducible rfl)))
                simp only [List.setIfInBounds_toArray, List.set_cons_succ, List.set_cons_zero]
                refine wpPlan_put (v := ?_) rfl rfl (Or.inl ⟨by rfl, fun wz hz => ?_⟩) (by first | exact ⟨hT1, hT2⟩ | exact hT1 | exact hT2 | trivial) ?_
                rotate_left
                (focus (have h15 : ¬ 9223372036854775807 < st.size + x.size + y.size := (by omega); go_simp; try (with_reducible rfl)))
                simp only [List.setIfInBounds_toArray, List.set_cons_succ, List.set_cons_zero]
                refine wpPlan_put (v := ?_) rfl rfl (Or.inl ⟨by rfl, fun wz hz => ?_⟩) (by first | exact ⟨hT1, hT2⟩ | exact hT1 | exact hT2 | trivial) ?_
                rotate_left
                (focus (go_simp; try (with_reducible rfl)))
                simp only [List.setIfInBounds_toArray, List.set_cons_succ, List.set_cons_zero]
                refine wpPlan_nil ?_
                go_wp2
                go_roundw
                case rel => exact ⟨i + 1, _, by omega, by omega, by go_num, rfl, by rw [ByteArray.size_append, ByteArray.size_append]; omega, hbr.tr hbX⟩
                case measure => simp [intOf]; omega
              · skip
                refine wpForced_step rfl (fun K hK => ?_)
                go_simp
                have hX2 := hbX.al (.cells #[.string ⟨#[32]⟩, .string ⟨#[32]⟩, .string ⟨#[32]⟩, .string ⟨#[32, 32]⟩, .string ⟨#[45]⟩] 9)
                have hT2 := Tbl.new wc tbl5 9 (a := #[.string ⟨#[32]⟩, .string ⟨#[32]⟩, .string ⟨#[32]⟩, .string ⟨#[32, 32]⟩, .string ⟨#[45]⟩]) rfl
                try replace hT1 := hT1.below (brefl.al (.cells #[.string ⟨#[32]⟩, .string ⟨#[32]⟩, .string ⟨#[32]⟩, .string ⟨#[32, 32]⟩, .string ⟨#[45]⟩] 9))
                refine hK _ _ (fun _ => by first | exact hT1 | trivial) ?_
                clear hK K hbX
                have hbX := hX2
                clear hX2
                generalize wc.heap.size = ob2 at *
                generalize wc.alloc (.cells #[.string ⟨#[32]⟩, .string ⟨#[32]⟩, .string ⟨#[32]⟩, .string ⟨#[32, 32]⟩, .string ⟨#[45]⟩] 9) = wc at *
                first | (refine wpPlan_str (fun wz => Tbl wz ob1 tbl16 ∧ Tbl wz ob2 tbl5) (fun _ h => h.1) ?_) | (refine wpPlan_str (fun wz => Tbl wz ob2 tbl5) (fun _ _ => trivial) ?_)
                refine wpPlan_put (v := ?_) rfl rfl (Or.inl ⟨by rfl, fun wz hz => ?_⟩) (by first | exact ⟨hT1, hT2⟩ | exact hT1 | exact hT2 | trivial) ?_
                rotate_left
                (focus (go_simp; try (with_reducible rfl)))
                simp only [List.setIfInBounds_toArray, List.set_cons_succ, List.set_cons_zero]
                refine wpPlan_put (v := ?_) rfl rfl (Or.inl ⟨by rfl, fun wz hz => ?_⟩) (by first | exact ⟨hT1, hT2⟩ | exact hT1 | exact hT2 | trivial) ?_
                rotate_left
                (focus (have h14 : wz.cell? ⟨ob2, q, none⟩ = some (.string y) := (by first | exact hz.2.2 _ _ HY.out | exact hz.2 _ _ HY.out); go_simp; try (with_reducible rfl)))
                simp only [List.setIfInBounds_toArray, List.set_cons_succ, List.set_cons_zero]
                refine wpPlan_one ?_
                refine wpForced_step rfl (fun K hK => ?_)
                go_simp
                have hX2 := hbX.al (.cells #[.string ⟨#[97, 110, 110, 97]⟩, .string ⟨#[65, 110, 110, 97]⟩, .string ⟨#[107, 105, 110, 103]⟩, .string ⟨#[75, 105, 110, 103, 44]⟩, .string ⟨#[116, 104, 101]⟩, .string ⟨#[84, 104, 101]⟩, .string ⟨#[108, 121, 114, 101]⟩, .string ⟨#[111, 102]⟩, .string ⟨#[114, 111, 109, 101]⟩, .string ⟨#[120]⟩, .string ⟨#[120, 57]⟩, .string ⟨#[111, 100, 101, 46]⟩, .string ⟨#[64]⟩, .string ⟨#[107, 105, 110, 103, 45, 97, 110, 110, 97]⟩, .string ⟨#[82, 79, 77, 69]⟩, .string ⟨#[116, 104, 101, 32, 107, 105, 110, 103]⟩] 9)
                have hT1 := Tbl.new wc tbl16 9 (a := #[.string ⟨#[97, 110, 110, 97]⟩, .string ⟨#[65, 110, 110, 97]⟩, .string ⟨#[107, 105, 110, 103]⟩, .string ⟨#[75, 105, 110, 103, 44]⟩, .string ⟨#[116, 104, 101]⟩, .string ⟨#[84, 104, 101]⟩, .string ⟨#[108, 121, 114, 101]⟩, .string ⟨#[111, 102]⟩, .string ⟨#[114, 111, 109, 101]⟩, .string ⟨#[120]⟩, .string ⟨#[120, 57]⟩, .string ⟨#[111, 100, 101, 46]⟩, .string ⟨#[64]⟩, .string ⟨#[107, 105, 110, 103, 45, 97, 110, 110, 97]⟩, .string ⟨#[82, 79, 77, 69]⟩, .string ⟨#[116, 104, 101, 32, 107, 105, 110, 103]⟩]) rfl
                try replace hT2 := hT2.below (brefl.al (.cells #[.string ⟨#[97, 110, 110, 97]⟩, .string ⟨#[65, 110, 110, 97]⟩, .string ⟨#[107, 105, 110, 103]⟩, .string ⟨#[75, 105, 110, 103, 44]⟩, .string ⟨#[116, 104, 101]⟩, .string ⟨#[84, 104, 101]⟩, .string ⟨#[108, 121, 114, 101]⟩, .string ⟨#[111, 102]⟩, .string ⟨#[114, 111, 109, 101]⟩, .string ⟨#[120]⟩, .string ⟨#[120, 57]⟩, .string ⟨#[111, 100, 101, 46]⟩, .string ⟨#[64]⟩, .string ⟨#[107, 105, 110, 103, 45, 97, 110, 110, 97]⟩, .string ⟨#[82, 79, 77, 69]⟩, .string ⟨#[116, 104, 101, 32, 107, 105, 110, 103]⟩] 9))
                refine hK _ _ (fun _ => by first | exact hT2 | trivial) ?_
                clear hK K hbX
                have hbX := hX2
                clear hX2
                generalize wc.heap.size = ob1 at *
                generalize wc.alloc (.cells #[.string ⟨#[97, 110, 110, 97]⟩, .string ⟨#[65, 110, 110, 97]⟩, .string ⟨#[107, 105, 110, 103]⟩, .string ⟨#[75, 105, 110, 103, 44]⟩, .string ⟨#[116, 104, 101]⟩, .string ⟨#[84, 104, 101]⟩, .string ⟨#[108, 121, 114, 101]⟩, .string ⟨#[111, 102]⟩, .string ⟨#[114, 111, 109, 101]⟩, .string ⟨#[120]⟩, .string ⟨#[120, 57]⟩, .string ⟨#[111, 100, 101, 46]⟩, .string ⟨#[64]⟩, .string ⟨#[107, 105, 110, 103, 45, 97, 110, 110, 97]⟩, .string ⟨#[82, 79, 77, 69]⟩, .string ⟨#[116, 104, 101, 32, 107, 105, 110, 103]⟩] 9) = wc at *
                first | (refine wpPlan_str (fun wz => Tbl wz ob1 tbl16 ∧ Tbl wz ob2 tbl5) (fun _ h => h.2) ?_) | (refine wpPlan_str (fun wz => Tbl wz ob1 tbl16) (fun _ _ => trivial) ?_)
                refine wpPlan_put (v := ?_) rfl rfl (Or.inl ⟨by rfl, fun wz hz => ?_⟩) (by first | exact ⟨hT1, hT2⟩ | exact hT1 | exact hT2 | trivial) ?_
                rotate_left
                (focus (go_simp; try (with_reducible rfl)))
                simp only [List.setIfInBounds_toArray, List.set_cons_succ, List.set_cons_zero]
                refine wpPlan_put (v := ?_) rfl rfl (Or.inl ⟨by rfl, fun wz hz => ?_⟩) (by first | exact ⟨hT1, hT2⟩ | exact hT1 | exact hT2 | trivial) ?_
                rotate_left
                (focus (have h6 : wz.cell? ⟨ob1, u, none⟩ = some (.string x) := (by first | exact hz.1.2 _ _ HX.out | exact hz.2 _ _ HX.out); go_simp; try (with_reducible rfl)))
                simp only [List.setIfInBounds_toArray, List.set_cons_succ, List.set_cons_zero]
                refine wpPlan_put (v := ?_) rfl rfl (Or.inl ⟨by rfl, fun wz hz => ?_⟩) (by first | exact ⟨hT1, hT2⟩ | exact hT1 | exact hT2 | trivial) ?_
                rotate_left
                (focus (have h7 : ¬ 9223372036854775807 < st.size + x.size := (by omega); go_simp; try (with_reducible rfl)))
                simp only [List.setIfInBounds_toArray, List.set_cons_succ, List.set_cons_zero]
                refine wpPlan_put (v := ?_) rfl rfl (Or.inl ⟨by rfl, fun wz hz => ?_⟩) (by first | exact ⟨hT1, hT2⟩ | exact hT1 | exact hT2 | trivial) ?_
                rotate_left
                (focus (have h15 : ¬ 9223372036854775807 < st.size + x.size + y.size := (by omega); go_simp; try (with_reducible rfl)))
                simp only [List.setIfInBounds_toArray, List.set_cons_succ, List.set_cons_zero]
                refine wpPlan_put (v := ?_) rfl rfl (Or.inl ⟨by rfl, fun wz hz => ?_⟩) (by first | exact ⟨hT1, hT2⟩ | exact hT1 | exact hT2 | trivial) ?_
                rotate_left
                (focus (go_simp; try (with_reducible rfl)))
                simp only [List.setIfInBounds_toArray, List.set_cons_succ, List.set_cons_zero]
                refine wpPlan_nil ?_
                go_wp2
                go_roundw
                case rel => exact ⟨i + 1, _, by omega, by omega, by go_num, rfl, by rw [ByteArray.size_append, ByteArray.size_append]; omega, hbr.tr hbX⟩
                case measure => simp [intOf]; omega
          · skip
            refine wpForced_step rfl (fun K hK => ?_)
            go_simp
            have hX2 := hbX.al (.cells #[.string ⟨#[32]⟩, .string ⟨#[32]⟩, .string ⟨#[32]⟩, .string ⟨#[32, 32]⟩, .string ⟨#[45]⟩] 9)
            have hT2 := Tbl.new wc tbl5 9 (a := #[.string ⟨#[32]⟩, .string ⟨#[32]⟩, .string ⟨#[32]⟩, .string ⟨#[32, 32]⟩, .string ⟨#[45]⟩]) rfl
            try replace hT1 := hT1.below (brefl.al (.cells #[.string ⟨#[32]⟩, .string ⟨#[32]⟩, .string ⟨#[32]⟩, .string ⟨#[32, 32]⟩, .string ⟨#[45]⟩] 9))
            refine hK _ _ (fun _ => by first | exact hT1 | trivial) ?_
            clear hK K hbX
            have hbX := hX2
            clear hX2
            generalize wc.heap.size = ob2 at *
            generalize wc.alloc (.cells #[.string ⟨#[32]⟩, .string ⟨#[32]⟩, .string ⟨#[32]⟩, .string ⟨#[32, 32]⟩, .string ⟨#[45]⟩] 9) = wc at *
            first | (refine wpPlan_str (fun wz => Tbl wz ob1 tbl16 ∧ Tbl wz ob2 tbl5) (fun _ h => h.1) ?_) | (refine wpPlan_str (fun wz => Tbl wz ob2 tbl5) (fun _ _ => trivial) ?_)
            refine wpPlan_two ?_ ?_
            · skip
              refine wpForced_step rfl (fun K hK => ?_)
              go_simp
              have hX2 := hbX.al (.cells #[.string ⟨#[97, 110, 110, 97]⟩, .string ⟨#[65, 110, 110, 97]⟩, .string ⟨#[107, 105, 110, 103]⟩, .string ⟨#[75, 105, 110, 103, 44]⟩, .string ⟨#[116, 104, 101]⟩, .string ⟨#[84, 104, 101]⟩, .string ⟨#[108, 121, 114, 101]⟩, .string ⟨#[111, 102]⟩, .string ⟨#[114, 111, 109, 101]⟩, .string ⟨#[120]⟩, .string ⟨#[120, 57]⟩, .string ⟨#[111, 100, 101, 46]⟩, .string ⟨#[64]⟩, .string ⟨#[107, 105, 110, 103, 45, 97, 110, 110, 97]⟩, .string ⟨#[82, 79, 77, 69]⟩, .string ⟨#[116, 104, 101, 32, 107, 105, 110, 103]⟩] 9)
              have hT1 := Tbl.new wc tbl16 9 (a := #[.string ⟨#[97, 110, 110, 97]⟩, .string ⟨#[65, 110, 110, 97]⟩, .string ⟨#[107, 105, 110, 103]⟩, .string ⟨#[75, 105, 110, 103, 44]⟩, .string ⟨#[116, 104, 101]⟩, .string ⟨#[84, 104, 101]⟩, .string ⟨#[108, 121, 114, 101]⟩, .string ⟨#[111, 102]⟩, .string ⟨#[114, 111, 109, 101]⟩, .string ⟨#[120]⟩, .string ⟨#[120, 57]⟩, .string ⟨#[111, 100, 101, 46]⟩, .string ⟨#[64]⟩, .string ⟨#[107, 105, 110, 103, 45, 97, 110, 110, 97]⟩, .string ⟨#[82, 79, 77, 69]⟩, .string ⟨#[116, 104, 101, 32, 107, 105, 110, 103]⟩]) rfl
              try replace hT2 := hT2.below (brefl.al (.cells #[.string ⟨#[97, 110, 110, 97]⟩, .string ⟨#[65, 110, 110, 97]⟩, .string ⟨#[107, 105, 110, 103]⟩, .string ⟨#[75, 105, 110, 103, 44]⟩, .string ⟨#[116, 104, 101]⟩, .string ⟨#[84, 104, 101]⟩, .string ⟨#[108, 121, 114, 101]⟩, .string ⟨#[111, 102]⟩, .string ⟨#[114, 111, 109, 101]⟩, .string ⟨#[120]⟩, .string ⟨#[120, 57]⟩, .string ⟨#[111, 100, 101, 46]⟩, .string ⟨#[64]⟩, .string ⟨#[107, 105, 110, 103, 45, 97, 110, 110, 97]⟩, .string ⟨#[82, 79, 77, 69]⟩, .string ⟨#[116, 104, 101, 32, 107, 105, 110, 103]⟩] 9))
              refine hK _ _ (fun _ => by first | exact hT2 | trivial) ?_
              clear hK K hbX
              have hbX := hX2
              clear hX2
              generalize wc.heap.size = ob1 at *
              generalize wc.alloc (.cells #[.string ⟨#[97, 110, 110, 97]⟩, .string ⟨#[65, 110, 110, 97]⟩, .string ⟨#[107, 105, 110, 103]⟩, .string ⟨#[75, 105, 110, 103, 44]⟩, .string ⟨#[116, 104, 101]⟩, .string ⟨#[84, 104, 101]⟩, .string ⟨#[108, 121, 114, 101]⟩, .string ⟨#[111, 102]⟩, .string ⟨#[114, 111, 109, 101]⟩, .string ⟨#[120]⟩, .string ⟨#[120, 57]⟩, .string ⟨#[111, 100, 101, 46]⟩, .string ⟨#[64]⟩, .string ⟨#[107, 105, 110, 103, 45, 97, 110, 110, 97]⟩, .string ⟨#[82, 79, 77, 69]⟩, .string ⟨#[116, 104, 101, 32, 107, 105, 110, 103]⟩] 9) = wc at *
              first | (refine wpPlan_str (fun wz => Tbl wz ob1 tbl16 ∧ Tbl wz ob2 tbl5) (fun _ h => h.2) ?_) | (refine wpPlan_str (fun wz => Tbl wz ob1 tbl16) (fun _ _ => trivial) ?_)
              refine wpPlan_one ?_
              refine wpForced_step rfl (fun K hK => ?_)
              go_simp
              refine (Hu.out _ (hlr.below hbX)).mono ?_
              rintro e _ ⟨rfl, rfl⟩
              go_simp
              refine hK _ _ (fun _ => by first | exact ⟨hT1, hT2⟩ | exact hT1 | exact hT2 | trivial) ?_
              clear hK K
              refine wpPlan_put (v := ?_) rfl rfl (Or.inl ⟨by rfl, fun wz hz => ?_⟩) (by first | exact ⟨hT1, hT2⟩ | exact hT1 | exact hT2 | trivial) ?_
              rotate_left
              (focus (go_simp; try (with_reducible rfl)))
              simp only [List.setIfInBounds_toArray, List.set_cons_succ, List.set_cons_zero]
              refine wpPlan_put (v := ?_) rfl rfl (Or.inl ⟨by rfl, fun wz hz => ?_⟩) (by first | exact ⟨hT1, hT2⟩ | exact hT1 | exact hT2 | trivial) ?_
              rotate_left
              (focus (have h6 : wz.cell? ⟨ob1, u, none⟩ = some (.string x) := (by first | exact hz.1.2 _ _ HX.out | exact hz.2 _ _ HX.out); go_simp; try (with_reducible rfl)))
              simp only [List.setIfInBounds_toArray, List.set_cons_succ, List.set_cons_zero]
              refine wpPlan_put (v := ?_) rfl rfl (Or.inl ⟨by rfl, fun wz hz => ?_⟩) (by first | exact ⟨hT1, hT2⟩ | exact hT1 | exact hT2 | trivial) ?_
              rotate_left
              (focus (have h7 : ¬ 9223372036854775807 < st.size + x.size := (by omega); go_simp; try (with_reducible rfl)))
              simp only [List.setIfInBounds_toArray, List.set_cons_succ, List.set_cons_zero]
              refine wpPlan_one ?_
              refine wpForced_step rfl (fun K hK => ?_)
              go_simp
              refine (Hq.out _ (hlr.below hbX)).mono ?_
              rintro e _ ⟨rfl, rfl⟩
              go_simp
              refine hK _ _ (fun _ => by first | exact ⟨hT1, hT2⟩ | exact hT1 | exact hT2 | trivial) ?_
              clear hK K
              refine wpPlan_put (v := ?_) rfl rfl (Or.inl ⟨by rfl, fun wz hz => ?_⟩) (by first | exact ⟨hT1, hT2⟩ | exact hT1 | exact hT2 | trivial) ?_
              rotate_left
              (focus (go_simp; try (with_reducible rfl)))
              simp only [List.setIfInBounds_toArray, List.set_cons_succ, List.set_cons_zero]
              refine wpPlan_put (v := ?_) rfl rfl (Or.inl ⟨by rfl, fun wz hz => ?_⟩) (by first | exact ⟨hT1, hT2⟩ | exact hT1 | exact hT2 | trivial) ?_
              rotate_left
              (focus (have h14 : wz.cell? ⟨ob2, q, none⟩ = some (.string y) := (by first | exact hz.2.2 _ _ HY.out | exact hz.2 _ _ HY.out); go_simp; try (with_reducible rfl)))
              simp only [List.setIfInBounds_toArray, List.set_cons_succ, List.set_cons_zero]
              refine wpPlan_put (v := ?_) rfl rfl (Or.inl ⟨by rfl, fun wz hz => ?_⟩) (by first | exact ⟨hT1, hT2⟩ | exact hT1 | exact hT2 | trivial) ?_
              rotate_left
              (focus (have h15 : ¬ 9223372036854775807 < st.size + x.size + y.size := (by omega); go_simp; try (with_reducible rfl)))
              simp only [List.setIfInBounds_toArray, List.set_cons_succ, List.set_cons_zero]
              refine wpPlan_put (v := ?_) rfl rfl (Or.inl ⟨by rfl, fun wz hz => ?_⟩) (by first | exact ⟨hT1, hT2⟩ | exact hT1 | exact hT2 | trivial) ?_
              rotate_left
              (focus (go_simp; try (with_reducible rfl)))
              simp only [List.setIfInBounds_toArray, List.set_cons_succ, List.set_cons_zero]
              refine wpPlan_nil ?_
              go_wp2
              go_roundw
              case rel => exact ⟨i + 1, _, by omega, by omega, by go_num, rfl, by rw [ByteArray.size_append, ByteArray.size_append]; omega, hbr.tr hbX⟩
              case measure => simp [intOf]; omega
            · skip
              refine wpForced_step rfl (fun K hK => ?_)
              go_simp
              refine (Hu.out _ (hlr.below hbX)).mono ?_
              rintro e _ ⟨rfl, rfl⟩
              go_simp
              refine hK _ _ (fun _ => by first | exact ⟨hT1, hT2⟩ | exact hT1 | exact hT2 | trivial) ?_
              clear hK K
              refine wpPlan_two ?_ ?_
              · skip
                refine wpForced_step rfl (fun K hK => ?_)
                go_simp
                have hX2 := hbX.al (.cells #[.string ⟨#[97, 110, 110, 97]⟩, .string ⟨#[65, 110, 110, 97]⟩, .string ⟨#[107, 105, 110, 103]⟩, .string ⟨#[75, 105, 110, 103, 44]⟩, .string ⟨#[116, 104, 101]⟩, .string ⟨#[84, 104, 101]⟩, .string ⟨#[108, 121, 114, 101]⟩, .string ⟨#[111, 102]⟩, .string ⟨#[114, 111, 109, 101]⟩, .string ⟨#[120]⟩, .string ⟨#[120, 57]⟩, .string ⟨#[111, 100, 101, 46]⟩, .string ⟨#[64]⟩, .string ⟨#[107, 105, 110, 103, 45, 97, 110, 110, 97]⟩, .string ⟨#[82, 79, 77, 69]⟩, .string ⟨#[116, 104, 101, 32, 107, 105, 110, 103]⟩] 9)
                have hT1 := Tbl.new wc tbl16 9 (a := #[.string ⟨#[97, 110, 110, 97]⟩, .string ⟨#[65, 110, 110, 97]⟩, .string ⟨#[107, 105, 110, 103]⟩, .string ⟨#[75, 105, 110, 103, 44]⟩, .string ⟨#[116, 104, 101]⟩, .string ⟨#[84, 104, 101]⟩, .string ⟨#[108, 121, 114, 101]⟩, .string ⟨#[111, 102]⟩, .string ⟨#[114, 111, 109, 101]⟩, .string ⟨#[120]⟩, .string ⟨#[120, 57]⟩, .string ⟨#[111, 100, 101, 46]⟩, .string ⟨#[64]⟩, .string ⟨#[107, 105, 110, 103, 45, 97, 110, 110, 97]⟩, .string ⟨#[82, 79, 77, 69]⟩, .string ⟨#[116, 104, 101, 32, 107, 105, 110, 103]⟩]) rfl
                try replace hT2 := hT2.below (brefl.al (.cells #[.string ⟨#[97, 110, 110, 97]⟩, .string ⟨#[65, 110, 110, 97]⟩, .string ⟨#[107, 105, 110, 103]⟩, .string ⟨#[75, 105, 110, 103, 44]⟩, .string ⟨#[116, 104, 101]⟩, .string ⟨#[84, 104, 101]⟩, .string ⟨#[108, 121, 114, 101]⟩, .string ⟨#[111, 102]⟩, .string ⟨#[114, 111, 109, 101]⟩, .string ⟨#[120]⟩, .string ⟨#[120, 57]⟩, .string ⟨#[111, 100, 101, 46]⟩, .string ⟨#[64]⟩, .string ⟨#[107, 105, 110, 103, 45, 97, 110, 110, 97]⟩, .string ⟨#[82, 79, 77, 69]⟩, .string ⟨#[116, 104, 101, 32, 107, 105, 110, 103]⟩] 9))
                refine hK _ _ (fun _ => by first | exact hT2 | trivial) ?_
                clear hK K hbX
                have hbX := hX2
                clear hX2
                generalize wc.heap.size = ob1 at *
                generalize wc.alloc (.cells #[.string ⟨#[97, 110, 110, 97]⟩, .string ⟨#[65, 110, 110, 97]⟩, .string ⟨#[107, 105, 110, 103]⟩, .string ⟨#[75, 105, 110, 103, 44]⟩, .string ⟨#[116, 104, 101]⟩, .string ⟨#[84, 104, 101]⟩, .string ⟨#[108, 121, 114, 101]⟩, .string ⟨#[111, 102]⟩, .string ⟨#[114, 111, 109, 101]⟩, .string ⟨#[120]⟩, .string ⟨#[120, 57]⟩, .string ⟨#[111, 100, 101, 46]⟩, .string ⟨#[64]⟩, .string ⟨#[107, 105, 110, 103, 45, 97, 110, 110, 97]⟩, .string ⟨#[82, 79, 77, 69]⟩, .string ⟨#[116, 104, 101, 32, 107, 105, 110, 103]⟩] 9) = wc at *
                first | (refine wpPlan_str (fun wz => Tbl wz ob1 tbl16 ∧ Tbl wz ob2 tbl5) (fun _ h => h.2) ?_) | (refine wpPlan_str (fun wz => Tbl wz ob1 tbl16) (fun _ _ => trivial) ?_)
                refine wpPlan_put (v := ?_) rfl rfl (Or.inl ⟨by rfl, fun wz hz => ?_⟩) (by first | exact ⟨hT1, hT2⟩ | exact hT1 | exact hT2 | trivial) ?_
                rotate_left
                (focus (go_simp; try (with_reducible rfl)))
                simp only [List.setIfInBounds_toArray, List.set_cons_succ, List.set_cons_zero]
                refine wpPlan_put (v := ?_) rfl rfl (Or.inl ⟨by rfl, fun wz hz => ?_⟩) (by first | exact ⟨hT1, hT2⟩ | exact hT1 | exact hT2 | trivial) ?_
                rotate_left
                (focus (have h6 : wz.cell? ⟨ob1, u, none⟩ = some (.string x) := (by first | exact hz.1.2 _ _ HX.out | exact hz.2 _ _ HX.out); go_simp; try (with_reducible rfl)))
                simp only [List.setIfInBounds_toArray, List.set_cons_succ, List.set_cons_zero]
                refine wpPlan_put (v := ?_) rfl rfl (Or.inl ⟨by rfl, fun wz hz => ?_⟩) (by first | exact ⟨hT1, hT2⟩ | exact hT1 | exact hT2 | trivial) ?_
                rotate_left
                (focus (have h7 : ¬ 9223372036854775807 < st.size + x.size := (by omega); go_simp; try (with_reducible rfl)))
                simp only [List.setIfInBounds_toArray, List.set_cons_succ, List.set_cons_zero]
                refine wpPlan_one ?_
                refine wpForced_step rfl (fun K hK => ?_)
                go_simp
                refine (Hq.out _ (hlr.below hbX)).mono ?_
                rintro e _ ⟨rfl, rfl⟩
                go_simp
                refine hK _ _ (fun _ => by first | exact ⟨hT1, hT2⟩ | exact hT1 | exact hT2 | trivial) ?_
                clear hK K
                refine wpPlan_put (v := ?_) rfl rfl (Or.inl ⟨by rfl, fun wz hz => ?_⟩) (by first | exact ⟨hT1, hT2⟩ | exact hT1 | exact hT2 | trivial) ?_
                rotate_left
                (focus (go_simp; try (with_reducible rfl)))
                simp only [List.setIfInBounds_toArray, List.set_cons_succ, List.set_cons_zero]
                refine wpPlan_put (v := ?_) rfl rfl (Or.inl ⟨by rfl, fun wz hz => ?_⟩) (by first | exact ⟨hT1, hT2⟩ | exact hT1 | exact hT2 | trivial) ?_
                rotate_left
                (focus (have h14 : wz.cell? ⟨ob2, q, none⟩ = some (.string y) := (by first | exact hz.2.2 _ _ HY.out | exact hz.2 _ _ HY.out); go_simp; try (with_reducible rfl)))
                simp only [List.setIfInBounds_toArray, List.set_cons_succ, List.set_cons_zero]
                refine wpPlan_put (v := ?_) rfl rfl (Or.inl ⟨by rfl, fun wz hz => ?_⟩) (by first | exact ⟨hT1, hT2⟩ | exact hT1 | exact hT2 | trivial) ?_
                rotate_left
                (focus (have h15 : ¬ 9223372036854775807 < st.size + x.size + y.size := (by omega); go_simp; try (with_reducible rfl)))
                simp only [List.setIfInBounds_toArray, List.set_cons_succ, List.set_cons_zero]
                refine wpPlan_put (v := ?_) rfl rfl (Or.inl ⟨by rfl, fun wz hz => ?_⟩) (by first | exact ⟨hT1, hT2⟩ | exact hT1 | exact hT2 | trivial) ?_
                rotate_left
                (focus (go_simp; try (with_reducible rfl)))
                simp only [List.setIfInBounds_toArray, List.set_cons_succ, List.set_cons_zero]
                refine wpPlan_nil ?_
                go_wp2
                go_roundw
                case rel => exact ⟨i + 1, _, by omega, by omega, by go_num, rfl, by rw [ByteArray.size_append, ByteArray.size_append]; omega, hbr.tr hbX⟩
                case measure => simp [intOf]; omega
              · skip
                refine wpForced_step rfl (fun K hK => ?_)
                go_simp
                refine (Hq.out _ (hlr.below hbX)).mono ?_
                rintro e _ ⟨rfl, rfl⟩
                go_simp
                refine hK _ _ (fun _ => by first | exact ⟨hT1, hT2⟩ | exact hT1 | exact hT2 | trivial) ?_
                clear hK K
                refine wpPlan_put (v := ?_) rfl rfl (Or.inl ⟨by rfl, fun wz hz => ?_⟩) (by first | exact ⟨hT1, hT2⟩ | exact hT1 | exact hT2 | trivial) ?_
                rotate_left
                (focus (go_simp; try (with_reducible rfl)))
                simp only [List.setIfInBounds_toArray, List.set_cons_succ, List.set_cons_zero]
                refine wpPlan_put (v := ?_) rfl rfl (Or.inl ⟨by rfl, fun wz hz => ?_⟩) (by first | exact ⟨hT1, hT2⟩ | exact hT1 | exact hT2 | trivial) ?_
                rotate_left
                (focus (have h14 : wz.cell? ⟨ob2, q, none⟩ = some (.string y) := (by first | exact hz.2.2 _ _ HY.out | exact hz.2 _ _ HY.out); go_simp; try (with_reducible rfl)))
                simp only [List.setIfInBounds_toArray, List.set_cons_succ, List.set_cons_zero]
                refine wpPlan_one ?_
                refine wpForced_step rfl (fun K hK => ?_)
                go_simp
                have hX2 := hbX.al (.cells #[.string ⟨#[97, 110, 110, 97]⟩, .string ⟨#[65, 110, 110, 97]⟩, .string ⟨#[107, 105, 110, 103]⟩, .string ⟨#[75, 105, 110, 103, 44]⟩, .string ⟨#[116, 104, 101]⟩, .string ⟨#[84, 104, 101]⟩, .string ⟨#[108, 121, 114, 101]⟩, .string ⟨#[111, 102]⟩, .string ⟨#[114, 111, 109, 101]⟩, .string ⟨#[120]⟩, .string ⟨#[120, 57]⟩, .string ⟨#[111, 100, 101, 46]⟩, .string ⟨#[64]⟩, .string ⟨#[107, 105, 110, 103, 45, 97, 110, 110, 97]⟩, .string ⟨#[82, 79, 77, 69]⟩, .string ⟨#[116, 104, 101, 32, 107, 105, 110, 103]⟩] 9)
                have hT1 := Tbl.new wc tbl16 9 (a := #[.string ⟨#[97, 110, 110, 97]⟩, .string ⟨#[65, 110, 110, 97]⟩, .string ⟨#[107, 105, 110, 103]⟩, .string ⟨#[75, 105, 110, 103, 44]⟩, .string ⟨#[116, 104, 101]⟩, .string ⟨#[84, 104, 101]⟩, .string ⟨#[108, 121, 114, 101]⟩, .string ⟨#[111, 102]⟩, .string ⟨#[114, 111, 109, 101]⟩, .string ⟨#[120]⟩, .string ⟨#[120, 57]⟩, .string ⟨#[111, 100, 101, 46]⟩, .string ⟨#[64]⟩, .string ⟨#[107, 105, 110, 103, 45, 97, 110, 110, 97]⟩, .string ⟨#[82, 79, 77, 69]⟩, .string ⟨#[116, 104, 101, 32, 107, 105, 110, 103]⟩]) rfl
                try replace hT2 := hT2.below (brefl.al (.cells #[.string ⟨#[97, 110, 110, 97]⟩, .string ⟨#[65, 110, 110, 97]⟩, .string ⟨#[107, 105, 110, 103]⟩, .string ⟨#[75, 105, 110, 103, 44]⟩, .string ⟨#[116, 104, 101]⟩, .string ⟨#[84, 104, 101]⟩, .string ⟨#[108, 121, 114, 101]⟩, .string ⟨#[111, 102]⟩, .string ⟨#[114, 111, 109, 101]⟩, .string ⟨#[120]⟩, .string ⟨#[120, 57]⟩, .string ⟨#[111, 100, 101, 46]⟩, .string ⟨#[64]⟩, .string ⟨#[107, 105, 110, 103, 45, 97, 110, 110, 97]⟩, .string ⟨#[82, 79, 77, 69]⟩, .string ⟨#[116, 104, 101, 32, 107, 105, 110, 103]⟩] 9))
                refine hK _ _ (fun _ => by first | exact hT2 | trivial) ?_
                clear hK K hbX
                have hbX := hX2
                clear hX2
                generalize wc.heap.size = ob1 at *
                generalize wc.alloc (.cells #[.string ⟨#[97, 110, 110, 97]⟩, .string ⟨#[65, 110, 110, 97]⟩, .string ⟨#[107, 105, 110, 103]⟩, .string ⟨#[75, 105, 110, 103, 44]⟩, .string ⟨#[116, 104, 101]⟩, .string ⟨#[84, 104, 101]⟩, .string ⟨#[108, 121, 114, 101]⟩, .string ⟨#[111, 102]⟩, .string ⟨#[114, 111, 109, 101]⟩, .string ⟨#[120]⟩, .string ⟨#[120, 57]⟩, .string ⟨#[111, 100, 101, 46]⟩, .string ⟨#[64]⟩, .string ⟨#[107, 105, 110, 103, 45, 97, 110, 110, 97]⟩, .string ⟨#[82, 79, 77, 69]⟩, .string ⟨#[116, 104, 101, 32, 107, 105, 110, 103]⟩] 9) = wc at *
                first | (refine wpPlan_str (fun wz => Tbl wz ob1 tbl16 ∧ Tbl wz ob2 tbl5) (fun _ h => h.2) ?_) | (refine wpPlan_str (fun wz => Tbl wz ob1 tbl16) (fun _ _ => trivial) ?_)
                refine wpPlan_put (v := ?_) rfl rfl (Or.inl ⟨by rfl, fun wz hz => ?_⟩) (by first | exact ⟨hT1, hT2⟩ | exact hT1 | exact hT2 | trivial) ?_
                rotate_left
                (focus (go_simp; try (with_reducible rfl)))
                simp only [List.setIfInBounds_toArray, List.set_cons_succ, List.set_cons_zero]
                refine wpPlan_put (v := ?_) rfl rfl (Or.inl ⟨by rfl, fun wz hz => ?_⟩) (by first | exact ⟨hT1, hT2⟩ | exact hT1 | exact hT2 | trivial) ?_
                rotate_left
                (focus (have h6 : wz.cell? ⟨ob1, u, none⟩ = some (.string x) := (by first | exact hz.1.2 _ _ HX.out | exact hz.2 _ _ HX.out); go_simp; try (with_reducible rfl)))
                simp only [List.setIfInBounds_toArray, List.set_cons_succ, List.set_cons_zero]
                refine wpPlan_put (v := ?_) rfl rfl (Or.inl ⟨by rfl, fun wz hz => ?_⟩) (by first | exact ⟨hT1, hT2⟩ | exact hT1 | exact hT2 | trivial) ?_
                rotate_left
                (focus (have h7 : ¬ 9223372036854775807 < st.size + x.size := (by omega); go_simp; try (with_reducible rfl)))
                simp only [List.setIfInBounds_toArray, List.set_cons_succ, List.set_cons_zero]
                refine wpPlan_put (v := ?_) rfl rfl (Or.inl ⟨by rfl, fun wz hz => ?_⟩) (by first | exact ⟨hT1, hT2⟩ | exact hT1 | exact hT2 | trivial) ?_
                rotate_left
                (focus (have h15 : ¬ 9223372036854775807 < st.size + x.size + y.size := (by omega); go_simp; try (with_reducible rfl)))
                simp only [List.setIfInBounds_toArray, List.set_cons_succ, List.set_cons_zero]
                refine wpPlan_put (v := ?_) rfl rfl (Or.inl ⟨by rfl, fun wz hz => ?_⟩) (by first | exact ⟨hT1, hT2⟩ | exact hT1 | exact hT2 | trivial) ?_
                rotate_left
                (focus (go_simp; try (with_reducible rfl)))
                simp only [List.setIfInBounds_toArray, List.set_cons_succ, List.set_cons_zero]
                refine wpPlan_nil ?_
                go_wp2
                go_roundw
                case rel => exact ⟨i + 1, _, by omega, by omega, by go_num, rfl, by rw [ByteArray.size_append, ByteArray.size_append]; omega, hbr.tr hbX⟩
                case measure => simp [intOf]; omega
        · have h14' : decide ((i : Int) < 14) = false := by rw [decide_eq_false_iff_not]; omega
          go_wp2
          go_ret
          exact ⟨st, rfl, by omega, hbr⟩
      · have hlt' : decide ((i : Int) < n) = false := by rw [decide_eq_false_iff_not]; omega
        go_wp2
        go_ret
        exact ⟨st, rfl, by omega, hbr⟩
end Go.Proofs.YtdfnfimajhagfaaGreatDoor
/- Reference of layer 24: Mentions, Names. -/
namespace Rf
/-- the reference's best so far: an index (-1: there is none), and how many words -/
def BestI (l : List Term) (lang : Int) (W : List S) (k j : Nat) (bi : Int) (nn : Nat) : Prop :=
  (bi = -1 ∧ nn = 0 ∧ bestM lang W k (l.take j) = (0, ⟨#[]⟩, ⟨#[]⟩)) ∨ ∃ q t, bi = ((q : Nat) : Int) ∧ l[q]? = some t ∧ 1 ≤ nn ∧ bestM lang W k (l.take j) = (nn, t.name, prefT t)
variable {l : List Term} {lang : Int} {W : List S} {k j : Nat} {bi : Int} {nn : Nat}
theorem BestI.start (l : List Term) (lang : Int) (W : List S) (k : Nat) : BestI l lang W k 0 (-1) 0 := .inl ⟨rfl, rfl, by rw [List.take_zero]; rfl⟩
theorem BestI.fst (h : BestI l lang W k j bi nn) : (bestM lang W k (l.take j)).1 = nn := by
  rcases h with ⟨_, h2, h3⟩ | ⟨q, t, _, _, _, h3⟩
  · rw [h3, h2]
  · rw [h3]
theorem BestI.keep (h : BestI l lang W k j bi nn) {t : Term} (ht : l[j]? = some t) (hb : ¬ ((t.lang = 0 ∨ t.lang = lang) ∧ nn < (nw t.name).length ∧ stands W k (nw t.name) = true)) : BestI l lang W k (j + 1) bi nn := by
  have hf := h.fst
  have he : bestM lang W k (l.take (j + 1)) = bestM lang W k (l.take j) := by
    rw [bestM_snoc _ _ _ ht]
    unfold better
    rw [if_neg (by rw [hf]; exact hb)]
  unfold BestI
  rw [he]
  exact h
theorem BestI.hit (h : BestI l lang W k j bi nn) {t : Term} (ht : l[j]? = some t) (hl : t.lang = 0 ∨ t.lang = lang) (hn : nn < (nw t.name).length) (hs : stands W k (nw t.name) = true) : BestI l lang W k (j + 1) ((j : Nat) : Int) (nw t.name).length := by
  have hf := h.fst
  refine .inr ⟨j, t, rfl, ht, by omega, ?_⟩
  rw [bestM_snoc _ _ _ ht]
  unfold better
  rw [if_pos ⟨hl, by rw [hf]; exact hn, hs⟩]
end Rf
namespace Go.Proofs.YtdfnfimajhagfaaGreatDoor
open Go.RowKit Go.Maps Rf
theorem stands_le {W : List S} {k : Nat} {x : List S} (h : stands W k x = true) : x.length ≤ W.length - k := by
  unfold stands at h
  rw [Bool.and_eq_true, decide_eq_true_iff] at h
  exact h.1
set_option maxRecDepth 20000 in
set_option maxHeartbeats 4000000 in
theorem rmentions_any (A : Option Addr) (n c : Nat) (ms : List TM) (s : S) (lang : Int) (w : World) (hm : n ≤ 100000) (hl : Tms w A n ms) (hsm : ∀ m ∈ ms, m.small) (hs : s.size ≤ 1000000) :
    Calls Tryz.prog 28 #[.slice A n c, .string s, .int .i64 lang] w fun e w' => ∃ A' k c', e = .returned (.slice A' k c') ∧ k ≤ c' ∧ k ≤ s.size ∧ (mentions (terms ms) s lang).length = k ∧ Own w' w.heap.size 96 4 (.slice A' k c') k (menCells (mentions (terms ms) s lang)) ∧ Below w.heap.size w w' := by
  have hv := rgood_any A n c ms w hm hl hsm
  have hlt := terms_length hl
  by_cases h0 : (vvalid (terms ms)).2 = 0
  · have hres := Lib.hid (show mentions (terms ms) s lang = mens (terms ms) lang (folded s (toks (byts s) 0)) 0 from if_pos h0)
    rw [decide_eq_true h0] at hv
    clear h0
    obtain ⟨W, hW⟩ : ∃ W, folded s (toks (byts s) 0) = W := ⟨_, rfl⟩
    have HW := Lib.hid hW
    rw [hW] at hres
    clear hW
    go_enter Tryz.func28, Tryz.ntmps28
    go_wp2_with (first
      | (go_at_call 88; go_loud (refine hv.mono ?_; rintro e w1 ⟨rfl, hb1⟩))
      | (go_at_call 44; go_loud (refine (rfolded_any s _ hs).mono ?_; rintro e w2 ⟨Aw, nW, cW, rfl, hcW, hnW, hsw, hb2⟩; rw [HW.out] at hsw)))
    have hb12 := hb1.tr hb2
    have hWl := Lib.hid hsw.1
    go_loopw [8, 9] (fun o at_ wr => ∃ (k m1 c1 : Nat) (A1 : Option Addr) (ol : List Men), k ≤ nW ∧ at_ = .int .i64 k ∧ o = .slice A1 m1 c1 ∧ m1 ≤ c1 ∧ m1 ≤ k ∧ ol.length = m1 ∧ Own wr w2.heap.size 96 4 (.slice A1 m1 c1) m1 (menCells ol) ∧ Hid (ol ++ mens (terms ms) lang W k = mens (terms ms) lang W 0) ∧ Below w2.heap.size w2 wr) (fun _ at_ _ => nW - (intOf at_).toNat)
    case atStart => exact ⟨0, 0, 0, none, [], by omega, rfl, rfl, by omega, by omega, rfl, Own.nil _ _ _ (Nat.le_refl _), Lib.hid rfl, brefl⟩
    case round =>
      obtain ⟨k, m1, c1, A1, ol, hk, rfl, rfl, hc1, hm1, hol, ho, hH, hbW⟩ := hrel
      by_cases hlk : k < nW
      · have hlk' : (k : Int) < nW := by omega
        obtain ⟨wo, hwo⟩ : ∃ wo : World, wo = wr := ⟨_, rfl⟩
        subst hwo
        go_wp2
        go_loopw [10, 11, 12] (fun t10 t11 t12 wz => ∃ (j nn : Nat) (bi : Int), j ≤ n ∧ t12 = .int .i64 j ∧ t10 = .int .i64 bi ∧ t11 = .int .i64 nn ∧ nn ≤ nW - k ∧ Hid (BestI (terms ms) lang W k j bi nn) ∧ Below wo.heap.size wo wz) (fun _ _ t12 _ => n - (intOf t12).toNat)
        case atStart => exact ⟨0, 0, -1, by omega, rfl, rfl, rfl, Nat.zero_le _, BestI.start _ _ _ _, brefl⟩
        case round =>
          obtain ⟨j, nn, bi, hj, rfl, rfl, rfl, hnn, hI, hbz⟩ := hrel
          have hbr := (hb12.tr hbW).tr hbz
          by_cases hlj : j < n
          · obtain ⟨b, off, m, rfl, hx, hok, hb0, d1, d2, d3, d4, d5⟩ := (hl.below hbr).at_ hlj
            have hlj' : (j : Int) < n := by omega
            have htk := terms_get hx
            have hsn : m.t.name.size ≤ 1000000 := Nat.le_trans (hsm m (List.mem_of_getElem? hx)).nm (by decide)
            obtain ⟨np, hnp⟩ : ∃ np, (nw m.t.name).length = np := ⟨_, rfl⟩
            have HNP := Lib.hid hnp
            clear hnp hx hok
            by_cases hl0 : m.t.lang = 0
            · have hl0' : (m.t.lang == 0) = true := by rw [hl0]; rfl
              have HL0 := Lib.hid hl0
              clear hl0
              by_cases hlen : nn < np
              · have hlen' : (nn : Int) < np := by omega
                cases hsv : stands W k (nw m.t.name)
                · have HSV := Lib.hid hsv
                  have HI2 := Lib.hid (hI.out.keep htk (fun h => by rw [hsv] at h; cases h.2.2))
                  clear hsv
                  go_wp2_with (first
                    | (go_at_call 47; go_loud (refine (words_any m.t.name _ hsn).mono ?_; rintro e w3 ⟨A3, k3, c3, rfl, hc3, hk3, hs3, hb3⟩; obtain rfl : k3 = np := hs3.1.symm.trans HNP.out; have e1 := (hb3.cell (p := ⟨b, off + j * 5, none⟩) hb0).trans d1; have e3 := (hb3.cell (p := ⟨b, off + j * 5 + 2, none⟩) hb0).trans d3))
                    | (go_at_call 46; go_loud (refine (rstands_any Aw nW cW W k m.t.name _ (by omega) hsn (hsw.below (hbW.tr (hbz.tr hb3))) (by omega)).mono ?_; rintro e w4 ⟨rfl, hb4⟩; rw [HSV.out]))
                    )
                  go_roundw
                  case rel => exact ⟨j + 1, nn, bi, by omega, by go_num, rfl, rfl, hnn, HI2, (hbz.tr hb3).tr hb4⟩
                  case measure => simp [intOf]; omega
                · have HSV := Lib.hid hsv
                  have HI2 := Lib.hid (hI.out.hit htk (.inl HL0.out) (by rw [HNP.out]; exact hlen) hsv)
                  have hnp2 := stands_le hsv
                  rw [HNP.out] at HI2 hnp2
                  rw [hWl.out] at hnp2
                  clear hsv
                  go_wp2_with (first
                    | (go_at_call 47; go_loud (refine (words_any m.t.name _ hsn).mono ?_; rintro e w3 ⟨A3, k3, c3, rfl, hc3, hk3, hs3, hb3⟩; obtain rfl : k3 = np := hs3.1.symm.trans HNP.out; have e1 := (hb3.cell (p := ⟨b, off + j * 5, none⟩) hb0).trans d1; have e3 := (hb3.cell (p := ⟨b, off + j * 5 + 2, none⟩) hb0).trans d3))
                    | (go_at_call 46; go_loud (refine (rstands_any Aw nW cW W k m.t.name _ (by omega) hsn (hsw.below (hbW.tr (hbz.tr hb3))) (by omega)).mono ?_; rintro e w4 ⟨rfl, hb4⟩; rw [HSV.out]))
                    )
                  go_roundw
                  case rel => exact ⟨j + 1, k3, j, by omega, by go_num, rfl, rfl, by omega, HI2, (hbz.tr hb3).tr hb4⟩
                  case measure => simp [intOf]; omega
              · have hlen' : ¬ (nn : Int) < np := by omega
                have HI2 := Lib.hid (hI.out.keep htk (fun h => hlen (by have := h.2.1; rw [HNP.out] at this; exact this)))
                go_wp2_with (go_at_call 47; go_loud (refine (words_any m.t.name _ hsn).mono ?_; rintro e w3 ⟨A3, k3, c3, rfl, hc3, hk3, hs3, hb3⟩; obtain rfl : k3 = np := hs3.1.symm.trans HNP.out; have e1 := (hb3.cell (p := ⟨b, off + j * 5, none⟩) hb0).trans d1; have e3 := (hb3.cell (p := ⟨b, off + j * 5 + 2, none⟩) hb0).trans d3))
                go_roundw
                case rel => exact ⟨j + 1, nn, bi, by omega, by go_num, rfl, rfl, hnn, HI2, hbz.tr hb3⟩
                case measure => simp [intOf]; omega
            · have hl0' : (m.t.lang == 0) = false := by rw [beq_eq_false_iff_ne]; exact hl0
              by_cases hl1 : m.t.lang = lang
              · have hl1' : (m.t.lang == lang) = true := by rw [hl1]; exact beq_self_eq_true _
                have HL1 := Lib.hid hl1
                clear hl1 hl0
                by_cases hlen : nn < np
                · have hlen' : (nn : Int) < np := by omega
                  cases hsv : stands W k (nw m.t.name)
                  · have HSV := Lib.hid hsv
                    have HI2 := Lib.hid (hI.out.keep htk (fun h => by rw [hsv] at h; cases h.2.2))
                    clear hsv
                    go_wp2_with (first
                      | (go_at_call 47; go_loud (refine (words_any m.t.name _ hsn).mono ?_; rintro e w3 ⟨A3, k3, c3, rfl, hc3, hk3, hs3, hb3⟩; obtain rfl : k3 = np := hs3.1.symm.trans HNP.out; have e1 := (hb3.cell (p := ⟨b, off + j * 5, none⟩) hb0).trans d1; have e3 := (hb3.cell (p := ⟨b, off + j * 5 + 2, none⟩) hb0).trans d3))
                      | (go_at_call 46; go_loud (refine (rstands_any Aw nW cW W k m.t.name _ (by omega) hsn (hsw.below (hbW.tr (hbz.tr hb3))) (by omega)).mono ?_; rintro e w4 ⟨rfl, hb4⟩; rw [HSV.out]))
                      )
                    go_roundw
                    case rel => exact ⟨j + 1, nn, bi, by omega, by go_num, rfl, rfl, hnn, HI2, (hbz.tr hb3).tr hb4⟩
                    case measure => simp [intOf]; omega
                  · have HSV := Lib.hid hsv
                    have HI2 := Lib.hid (hI.out.hit htk (.inr HL1.out) (by rw [HNP.out]; exact hlen) hsv)
                    have hnp2 := stands_le hsv
                    rw [HNP.out] at HI2 hnp2
                    rw [hWl.out] at hnp2
                    clear hsv
                    go_wp2_with (first
                      | (go_at_call 47; go_loud (refine (words_any m.t.name _ hsn).mono ?_; rintro e w3 ⟨A3, k3, c3, rfl, hc3, hk3, hs3, hb3⟩; obtain rfl : k3 = np := hs3.1.symm.trans HNP.out; have e1 := (hb3.cell (p := ⟨b, off + j * 5, none⟩) hb0).trans d1; have e3 := (hb3.cell (p := ⟨b, off + j * 5 + 2, none⟩) hb0).trans d3))
                      | (go_at_call 46; go_loud (refine (rstands_any Aw nW cW W k m.t.name _ (by omega) hsn (hsw.below (hbW.tr (hbz.tr hb3))) (by omega)).mono ?_; rintro e w4 ⟨rfl, hb4⟩; rw [HSV.out]))
                      )
                    go_roundw
                    case rel => exact ⟨j + 1, k3, j, by omega, by go_num, rfl, rfl, by omega, HI2, (hbz.tr hb3).tr hb4⟩
                    case measure => simp [intOf]; omega
                · have hlen' : ¬ (nn : Int) < np := by omega
                  have HI2 := Lib.hid (hI.out.keep htk (fun h => hlen (by have := h.2.1; rw [HNP.out] at this; exact this)))
                  go_wp2_with (go_at_call 47; go_loud (refine (words_any m.t.name _ hsn).mono ?_; rintro e w3 ⟨A3, k3, c3, rfl, hc3, hk3, hs3, hb3⟩; obtain rfl : k3 = np := hs3.1.symm.trans HNP.out; have e1 := (hb3.cell (p := ⟨b, off + j * 5, none⟩) hb0).trans d1; have e3 := (hb3.cell (p := ⟨b, off + j * 5 + 2, none⟩) hb0).trans d3))
                  go_roundw
                  case rel => exact ⟨j + 1, nn, bi, by omega, by go_num, rfl, rfl, hnn, HI2, hbz.tr hb3⟩
                  case measure => simp [intOf]; omega
              · have hl1' : (m.t.lang == lang) = false := by rw [beq_eq_false_iff_ne]; exact hl1
                have HI2 := Lib.hid (hI.out.keep htk (fun h => h.1.elim hl0 hl1))
                clear hl0 hl1
                go_wp2_with (go_at_call 47; go_loud (refine (words_any m.t.name _ hsn).mono ?_; rintro e w3 ⟨A3, k3, c3, rfl, hc3, hk3, hs3, hb3⟩; obtain rfl : k3 = np := hs3.1.symm.trans HNP.out; have e1 := (hb3.cell (p := ⟨b, off + j * 5, none⟩) hb0).trans d1; have e3 := (hb3.cell (p := ⟨b, off + j * 5 + 2, none⟩) hb0).trans d3))
                go_roundw
                case rel => exact ⟨j + 1, nn, bi, by omega, by go_num, rfl, rfl, hnn, HI2, hbz.tr hb3⟩
                case measure => simp [intOf]; omega
          · have hjn : ¬ (j : Int) < n := by omega
            have hIe := hI.out
            unfold BestI at hIe
            rw [List.take_of_length_le (by omega)] at hIe
            rcases hIe with ⟨rfl, rfl, hB⟩ | ⟨q, t, rfl, htq, hn1, hB⟩
            · have hH2 := Lib.hid (show ol ++ mens (terms ms) lang W (k + 1) = mens (terms ms) lang W 0 from by rw [← hH.out, mens_none (k := k) (by rw [hWl.out]; exact hlk) (by rw [hB])])
              clear hB
              go_wp2
              go_roundw
              case rel => exact ⟨k + 1, m1, c1, A1, ol, by omega, by go_num, rfl, hc1, by omega, hol, ho.below hbz, hH2, hbW.tr hbz⟩
              case measure => simp [intOf]; omega
            · have hql := (List.getElem?_eq_some_iff.1 htq).1
              rw [hlt] at hql
              have hqi : (q : Int) < n := by omega
              have hq0 : ¬ (q : Int) < 0 := by omega
              obtain ⟨b, off, m9, rfl, _, _, hbw0, _⟩ := hl.at_ hql
              obtain ⟨b9, off9, m, hA9, hx, hok, hb0, d1, d2, d3, d4, d5⟩ := (hl.below hbr).at_ hql
              injection hA9 with hA9
              injection hA9 with hA8 hA9
              subst hA8
              subst hA9
              have hb2w : w.heap.size ≤ w2.heap.size := hb12.size
              obtain rfl : m.t = t := by
                have := terms_get hx
                rw [htq] at this
                exact (Option.some.inj this).symm
              have hH2 := Lib.hid (show (ol ++ [⟨k, k + nn, m.t.name, prefT m.t⟩]) ++ mens (terms ms) lang W (k + nn) = mens (terms ms) lang W 0 from by
                rw [← hH.out, mens_one (k := k) (by rw [hWl.out]; exact hlk) (by rw [hB]; show ¬ nn = 0; omega), hB, List.append_assoc]; rfl)
              clear hB htq hx hok hI
              have hcells : ∀ wz, Below wr.heap.size wr wz → wz.cell? ⟨b, off + q * 5, none⟩ = some (.string m.t.name) ∧ wz.cell? ⟨b, off + q * 5 + 1, none⟩ = some (.int .i64 m.t.kind) ∧ wz.cell? ⟨b, off + q * 5 + 2, none⟩ = some (.int .i64 m.t.lang) ∧ wz.cell? ⟨b, off + q * 5 + 3, none⟩ = some (.string m.t.see) ∧ wz.cell? ⟨b, off + q * 5 + 4, none⟩ = some (.slice m.A m.n m.c) := fun wz hz => ⟨(hz.cell (p := ⟨b, off + q * 5, none⟩) hb0).trans d1, (hz.cell (p := ⟨b, off + q * 5 + 1, none⟩) hb0).trans d2, (hz.cell (p := ⟨b, off + q * 5 + 2, none⟩) hb0).trans d3, (hz.cell (p := ⟨b, off + q * 5 + 3, none⟩) hb0).trans d4, (hz.cell (p := ⟨b, off + q * 5 + 4, none⟩) hb0).trans d5⟩
              have hbc : Below wr.heap.size wr wr.drew := brefl.drn 1
              have hbzd : Below wo.heap.size wo wr.drew := hbz.drn 1
              have hS := hcells _ hbc
              have hwr := IntWalk.i64_in ((k : Int) + nn) (by omega)
              clear d1 d2 d3 d4 d5
              go_wp2
              refine wp_region_mix [(true, 0), (true, 1), (true, 2), (true, 3), (true, 4), (true, 5), (true, 6), (true, 7), (true, 8), (true, 9), (true, 10), (true, 11), (true, 12), (true, 13), (false, 14), (true, 15), (false, 16), (false, 17), (true, 18)] 19 (fun wz => wz.cell? ⟨b, off + q * 5, none⟩ = some (.string m.t.name) ∧ wz.cell? ⟨b, off + q * 5 + 1, none⟩ = some (.int .i64 m.t.kind) ∧ wz.cell? ⟨b, off + q * 5 + 2, none⟩ = some (.int .i64 m.t.lang) ∧ wz.cell? ⟨b, off + q * 5 + 3, none⟩ = some (.string m.t.see) ∧ wz.cell? ⟨b, off + q * 5 + 4, none⟩ = some (.slice m.A m.n m.c)) (by kernel_rfl) (by kernel_rfl) ?_
              refine wpMix_put (v := ?_) rfl rfl (Or.inl ⟨by rfl, fun wz hz => ?_⟩) hS ?_
              rotate_left
              (focus (go_simp; try (with_reducible rfl)))
              simp only [List.setIfInBounds_toArray, List.set_cons_succ, List.set_cons_zero]
              refine wpMix_put (v := ?_) rfl rfl (Or.inl ⟨by rfl, fun wz hz => ?_⟩) hS ?_
              rotate_left
              (focus (go_simp; try (with_reducible rfl)))
              simp only [List.setIfInBounds_toArray, List.set_cons_succ, List.set_cons_zero]
              refine wpMix_put (v := ?_) rfl rfl (Or.inl ⟨by rfl, fun wz hz => ?_⟩) hS ?_
              rotate_left
              (focus (go_simp; try (with_reducible rfl)))
              simp only [List.setIfInBounds_toArray, List.set_cons_succ, List.set_cons_zero]
              refine wpMix_put (v := ?_) rfl rfl (Or.inl ⟨by rfl, fun wz hz => ?_⟩) hS ?_
              rotate_left
              (focus (go_simp; try (with_reducible rfl)))
              simp only [List.setIfInBounds_toArray, List.set_cons_succ, List.set_cons_zero]
              refine wpMix_put (v := ?_) rfl rfl (Or.inl ⟨by rfl, fun wz hz => ?_⟩) hS ?_
              rotate_left
              (focus (go_simp; try (with_reducible rfl)))
              simp only [List.setIfInBounds_toArray, List.set_cons_succ, List.set_cons_zero]
              refine wpMix_put (v := ?_) rfl rfl (Or.inl ⟨by rfl, fun wz hz => ?_⟩) hS ?_
              rotate_left
              (focus (go_simp; try (with_reducible rfl)))
              simp only [List.setIfInBounds_toArray, List.set_cons_succ, List.set_cons_zero]
              refine wpMix_put (v := ?_) rfl rfl (Or.inl ⟨by rfl, fun wz hz => ?_⟩) hS ?_
              rotate_left
              (focus (go_simp; try (with_reducible rfl)))
              simp only [List.setIfInBounds_toArray, List.set_cons_succ, List.set_cons_zero]
              refine wpMix_put (v := ?_) rfl rfl (Or.inl ⟨by rfl, fun wz hz => ?_⟩) hS ?_
              rotate_left
              (focus (go_simp; try (with_reducible rfl)))
              simp only [List.setIfInBounds_toArray, List.set_cons_succ, List.set_cons_zero]
              refine wpMix_put (v := ?_) rfl rfl (Or.inl ⟨by rfl, fun wz hz => ?_⟩) hS ?_
              rotate_left
              (focus (go_simp; try (with_reducible rfl)))
              simp only [List.setIfInBounds_toArray, List.set_cons_succ, List.set_cons_zero]
              refine wpMix_put (v := ?_) rfl rfl (Or.inl ⟨by rfl, fun wz hz => ?_⟩) hS ?_
              rotate_left
              (focus (go_simp; try (with_reducible rfl)))
              simp only [List.setIfInBounds_toArray, List.set_cons_succ, List.set_cons_zero]
              refine wpMix_put (v := ?_) rfl rfl (Or.inl ⟨by rfl, fun wz hz => ?_⟩) hS ?_
              rotate_left
              (focus (go_simp; try (with_reducible rfl)))
              simp only [List.setIfInBounds_toArray, List.set_cons_succ, List.set_cons_zero]
              refine wpMix_put (v := ?_) rfl rfl (Or.inl ⟨by rfl, fun wz hz => ?_⟩) hS ?_
              rotate_left
              (focus (go_simp; try (with_reducible rfl)))
              simp only [List.setIfInBounds_toArray, List.set_cons_succ, List.set_cons_zero]
              refine wpMix_put (v := ?_) rfl rfl (Or.inl ⟨by rfl, fun wz hz => ?_⟩) hS ?_
              rotate_left
              (focus (go_simp; try (with_reducible rfl)))
              simp only [List.setIfInBounds_toArray, List.set_cons_succ, List.set_cons_zero]
              refine wpMix_put (v := ?_) rfl rfl (Or.inl ⟨by rfl, fun wz hz => ?_⟩) hS ?_
              rotate_left
              (focus (go_simp; try (with_reducible rfl)))
              simp only [List.setIfInBounds_toArray, List.set_cons_succ, List.set_cons_zero]
              refine wpMix_step rfl (fun K hK => ?_)
              go_simp
              refine (rpreferred_any m _).mono ?_
              rintro e w7 ⟨rfl, hbd⟩
              go_simp
              have hbc7 := hbc.tr hbd
              have hS7 := hcells _ hbc7
              have ho7 := (ho.below hbzd).below hbd
              refine hK _ _ (fun _ => hS7) ?_
              clear hK K hS
              have hS := hS7
              clear hS7
              refine wpMix_put (v := ?_) rfl rfl (Or.inl ⟨by rfl, fun wz hz => ?_⟩) hS ?_
              rotate_left
              (focus (go_simp; try (with_reducible rfl)))
              simp only [List.setIfInBounds_toArray, List.set_cons_succ, List.set_cons_zero]
              refine wpMix_step rfl (fun K hK => ?_)
              go_simp
              have hbc8 := hbc7.al (.cells #[.int .i64 k, .int .i64 ((k : Int) + nn), .string m.t.name, .string (prefT m.t)] 96)
              have hS7 := hcells _ hbc8
              refine hK _ _ (fun _ => hS7) ?_
              clear hK K hS
              have hS := hS7
              clear hS7
              refine wpMix_step rfl (fun K hK => ?_)
              refine step_app _ mensT2 rfl (.tmp 72) (.tmp 88) rfl (ho7.alloc _) rfl rfl (news := menCells [⟨k, k + nn, m.t.name, prefT m.t⟩]) rfl (rds_four w7 _ _ _ _ 96) (mens_cell _) ?_ ?_ ?_
              · omega
              · omega
              intro A9 c9 w9 o9 n9 g9 _
              go_simp
              have hne : some b ≠ (Value.slice A1 m1 c1).ownBlock := fun e => by have := ho7.row b e.symm; omega
              have hbc9 := ((hbW.tr hbz).tr hbc8).gr g9 ho7.row
              have hS7 := And.intro (g9.cell hS.1 hne) (And.intro (g9.cell hS.2.1 hne) (And.intro (g9.cell hS.2.2.1 hne) (And.intro (g9.cell hS.2.2.2.1 hne) (g9.cell hS.2.2.2.2 hne))))
              refine hK _ _ (fun _ => hS7) ?_
              clear hK K hS
              have hS := hS7
              clear hS7
              refine wpMix_put (v := ?_) rfl rfl (Or.inl ⟨by rfl, fun wz hz => ?_⟩) hS ?_
              rotate_left
              (focus (go_simp; try (with_reducible rfl)))
              simp only [List.setIfInBounds_toArray, List.set_cons_succ, List.set_cons_zero]
              refine wpMix_nil ?_
              clear hwr
              go_wp2
              go_roundw
              case rel => exact ⟨k + nn, m1 + 1, c9, A9, _, by omega, by go_num, rfl, n9, by omega, by rw [List.length_append, hol]; rfl, menCells_snoc o9, hH2, hbc9⟩
              case measure => simp [intOf]; omega
      · have hlk' : ¬ (k : Int) < nW := by omega
        have hH2 := Lib.hid (show ol = mentions (terms ms) s lang from by rw [hres.out, ← hH.out, mens_end (by rw [hWl.out]; exact hlk), List.append_nil])
        go_wp2
        go_ret
        refine ⟨A1, m1, c1, rfl, hc1, by omega, by rw [← hH2.out]; exact hol, by rw [← hH2.out]; exact own_base ho hb12.size, hb12.tr hbW⟩
  · have hres := Lib.hid (show mentions (terms ms) s lang = [] from if_neg h0)
    rw [decide_eq_false h0] at hv
    clear h0
    go_enter Tryz.func28, Tryz.ntmps28
    go_wp2_with (go_at_call 88; refine hv.mono ?_; rintro e w1 ⟨rfl, hb1⟩)
    go_ret
    exact ⟨none, 0, 0, rfl, Nat.le_refl _, Nat.zero_le _, by rw [hres.out]; rfl, by rw [hres.out]; exact Own.nil _ _ _ hb1.size, hb1⟩
set_option maxRecDepth 20000 in
set_option maxHeartbeats 2000000 in
theorem rnames_any (A : Option Addr) (n c : Nat) (ms : List TM) (s : S) (lang : Int) (w : World) (hm : n ≤ 100000) (hl : Tms w A n ms) (hsm : ∀ m ∈ ms, m.small) (hs : s.size ≤ 100000) :
    Calls Tryz.prog 31 #[.slice A n c, .string s, .int .i64 lang] w fun e w' => ∃ A' k c', e = .returned (.slice A' k c') ∧ k ≤ c' ∧ k ≤ s.size ∧ Strs w' A' k (namesOf (terms ms) s lang) ∧ Below w.heap.size w w' := by
  have hpr := mentions_pref (l := terms ms) (s := s) (lang := lang) (M := maxLen) (fun t ht => by
    obtain ⟨m, hmm, rfl⟩ := List.mem_map.1 ht
    exact ⟨(hl.2.1 m hmm).nm, (hl.2.1 m hmm).se⟩)
  have hMen := rmentions_any A n c ms s lang w hm hl hsm (by omega)
  unfold namesOf
  generalize mentions (terms ms) s lang = L at hpr hMen ⊢
  go_enter Tryz.func31, Tryz.ntmps31
  go_wp2_with (go_at_call 28; go_loud (refine hMen.mono ?_; rintro e w1 ⟨A1, k1, c1, rfl, hc1, hk1, hlen, ho1, hb1⟩))
  have hrd := ho1.reads
  go_loopw [8, 9] (fun o ii wr => ∃ (j m2 c2 : Nat) (A2 : Option Addr) (P : List S), j ≤ k1 ∧ ii = .int .i64 j ∧ o = .slice A2 m2 c2 ∧ m2 ≤ c2 ∧ m2 ≤ j ∧ Hid (P = sortS ((L.take j).map Men.pref)) ∧ Strs wr A2 m2 P ∧ Below w1.heap.size w1 wr) (fun _ ii _ => k1 - (intOf ii).toNat)
  case atStart => exact ⟨0, 0, 0, none, [], by omega, rfl, rfl, by omega, by omega, Lib.hid rfl, Strs.nil _, brefl⟩
  case round =>
    obtain ⟨j, m2, c2, A2, P, hj, rfl, rfl, hc2, hm2, hP, hst, hb⟩ := hrel
    by_cases hlt : j < k1
    · obtain ⟨t, ht⟩ : ∃ t, L[j]? = some t := ⟨_, List.getElem?_eq_getElem (by omega)⟩
      have hlt' : (j : Int) < k1 := by omega
      obtain ⟨b, off, rfl, hb0, d1, d2, d3, d4⟩ := men_at (hrd.below hb) ht
      have HT := Lib.hid (show Rf.put P t.pref = sortS ((L.take (j + 1)).map Men.pref) from by rw [Rf.take_snoc ht, hP.out]; unfold sortS; rw [List.map_append, List.foldl_append]; rfl)
      have hsz := hpr t (List.mem_of_getElem? ht)
      have hPl := put_len P t.pref
      rw [hst.1] at hPl
      clear ht
      go_wp2_with (go_at_call 92; go_loud (refine (put_any _ _ _ _ _ _ (by omega) hc2 hsz hst).mono ?_; rintro e w4 ⟨A4, m4, c4, rfl, hc4, hs4, hb4⟩))
      go_roundw
      case rel => exact ⟨j + 1, m4, c4, A4, _, by omega, by go_num, rfl, hc4, by rw [← hs4.1]; omega, HT, hs4, hb.tr hb4⟩
      case measure => simp [intOf]; omega
    · have hlt' : ¬ (j : Int) < k1 := by omega
      have HP := Lib.hid (show P = sortS (L.map Men.pref) from by rw [hP.out, List.take_of_length_le (by omega)])
      go_wp2
      go_ret
      exact ⟨A2, m2, c2, rfl, hc2, by omega, by rw [← HP.out]; exact hst, hb1.tr hb⟩
end Go.Proofs.YtdfnfimajhagfaaGreatDoor
