/- Walks of package vocabulary: Valid, Aliases, Above. -/
import Derived.Test.YtdfnfimajhagfaaGreatDoorV8
namespace Go.Proofs.YtdfnfimajhagfaaGreatDoor
open Go.RowKit Go.Maps Rf
theorem prevT_succ {l : List Term} {k : Nat} {t : Term} (h : l[k]? = some t) : prevT l (k + 1) = some t := by unfold prevT; rw [if_neg (by omega)]; exact h
theorem vv_bad {l r : List Term} {p : Option Term} {t : Term} {k : Nat} {v : Int} (h : Rf.flaw l p t = v) (hv : v ≠ 0) : vvalidFrom l (t :: r) p k = (k, v) := by
  unfold vvalidFrom; rw [if_neg (by rw [h]; exact hv), h]
theorem vv_good {l r : List Term} {p : Option Term} {t : Term} {k : Nat} (h : Rf.flaw l p t = 0) : vvalidFrom l (t :: r) p k = vvalidFrom l r (some t) (k + 1) := by
  rw [vvalidFrom, if_pos (show Rf.flaw l p t = eOK from h)]
set_option maxRecDepth 20000 in
set_option maxHeartbeats 2000000 in
theorem vvalid_any (A : Option Addr) (n c : Nat) (ms : List TM) (w : World) (hm : n ≤ 100000) (hr : Rdy w) (hl : Tms w A n ms) :
    Calls Tryz.prog 12 #[.slice A n c] w fun e w' => e = .returned (.tuple #[.int .i64 (vvalid (terms ms)).1, .int .i64 (vvalid (terms ms)).2]) ∧ Below w.heap.size w w' := by
  have hlen := terms_length hl
  by_cases h128 : n ≤ 128
  · have hres : vvalid (terms ms) = vvalidFrom (terms ms) (terms ms) none 0 := by unfold vvalid; rw [if_neg (by rw [hlen]; omega)]
    have h128' : ¬ (128 : Int) < n := by omega
    rw [hres]
    clear hres
    go_enter Tryz.func12, Tryz.ntmps12
    go_wp2
    go_loopw [11] (fun i wr => ∃ k : Nat, k ≤ n ∧ i = .int .i64 k ∧ Hid (vvalidFrom (terms ms) (terms ms) none 0 = vvalidFrom (terms ms) ((terms ms).drop k) (prevT (terms ms) k) k) ∧ Below w.heap.size w wr) (fun i _ => n - (intOf i).toNat)
    case atStart => exact ⟨0, by omega, rfl, rfl, brefl⟩
    case round =>
      obtain ⟨k, hk, rfl, hv, hbl⟩ := hrel
      by_cases hlt : k < n
      · obtain ⟨m, hmk⟩ : ∃ m, ms[k]? = some m := ⟨_, List.getElem?_eq_getElem (by rw [hl.1]; exact hlt)⟩
        have htk := terms_get hmk
        have hd := Lib.hid (drop_get htk)
        have hpt := Lib.hid (prevT_succ htk)
        have hfl := flaw_any A n c k ms m wr h128 (hr.below hbl) (hl.below hbl) hmk
        obtain ⟨v, hvv⟩ : ∃ v, Rf.flaw (terms ms) (prevT (terms ms) k) m.t = v := ⟨_, rfl⟩
        have HV := Lib.hid hvv
        rw [hvv] at hfl
        clear hvv htk hmk
        by_cases h0 : v = 0
        · subst h0
          go_wp2_with (go_at_call 71; refine hfl.mono ?_; rintro e w2 ⟨rfl, hb2⟩)
          go_roundw
          case rel => exact ⟨k + 1, by omega, by go_num, by show _ = _; rw [hv.out, hd.out, hpt.out, vv_good HV.out], hbl.tr hb2⟩
          case measure => simp [intOf]; omega
        · go_wp2_with (go_at_call 71; refine hfl.mono ?_; rintro e w2 ⟨rfl, hb2⟩)
          go_ret2
          refine ⟨?_, hbl.tr hb2⟩
          rw [hv.out, hd.out, vv_bad HV.out h0]; rfl
      · have hd := Lib.hid (drop_len hlen hlt)
        have hkn : k = n := by omega
        subst hkn
        go_wp2
        go_ret2
        refine ⟨?_, hbl⟩
        rw [hv.out, hd.out]; rfl
  · have hres : vvalid (terms ms) = (0, 4) := by unfold vvalid; rw [if_pos (by rw [hlen]; omega)]; rfl
    have h128' : (128 : Int) < n := by omega
    rw [hres]
    go_enter Tryz.func12, Tryz.ntmps12
    go_wp2
    go_ret2
    exact ⟨rfl, brefl⟩
set_option maxRecDepth 20000 in
set_option maxHeartbeats 1000000 in
theorem vok_any (A : Option Addr) (n c : Nat) (ms : List TM) (w : World) (hm : n ≤ 100000) (hr : Rdy w) (hl : Tms w A n ms) :
    Calls Tryz.prog 83 #[.slice A n c] w fun e w' => e = .returned (.bool (decide ((vvalid (terms ms)).2 = 0))) ∧ Below w.heap.size w w' := by
  have h := vvalid_any A n c ms w hm hr hl
  generalize (vvalid (terms ms)).2 = v at h ⊢
  generalize ((vvalid (terms ms)).1 : Int) = u at h
  by_cases h0 : v = 0
  · subst h0
    go_enter Tryz.func83, Tryz.ntmps83
    go_wp2_with (go_at_call 12; refine h.mono ?_; rintro e w2 ⟨rfl, hb2⟩)
    go_ret
    exact ⟨ret_bool (by simp), hb2⟩
  · have h0b : (v == 0) = false := by simpa using h0
    go_enter Tryz.func83, Tryz.ntmps83
    go_wp2_with (go_at_call 12; refine h.mono ?_; rintro e w2 ⟨rfl, hb2⟩)
    go_ret
    exact ⟨ret_bool (by simp [h0]), hb2⟩
end Go.Proofs.YtdfnfimajhagfaaGreatDoor
/- Walks of package vocabulary: Aliases, Above. -/
namespace Go.Proofs.YtdfnfimajhagfaaGreatDoor
open Go.RowKit Go.Maps Rf
def alOf (s : S) (l : List Term) : List S := (l.filter fun t => eqS t.see s).map Term.name
theorem alOf_hit {s : S} {l : List Term} {k : Nat} {t : Term} (h : l[k]? = some t) (he : eqS t.see s = true) : (alOf s (l.take (k + 1))).map Value.string = (alOf s (l.take k)).map Value.string ++ [.string t.name] := by
  unfold alOf; rw [Rf.take_snoc h, List.filter_append]; simp [he]
theorem alOf_miss {s : S} {l : List Term} {k : Nat} {t : Term} (h : l[k]? = some t) (he : eqS t.see s = false) : alOf s (l.take (k + 1)) = alOf s (l.take k) := by
  unfold alOf; rw [Rf.take_snoc h, List.filter_append]; simp [he]
theorem alOf_size {s : S} {l : List Term} (h : ∀ t ∈ l, t.name.size ≤ maxLen) (k : Nat) : ∀ x ∈ alOf s (l.take k), x.size ≤ maxLen := by
  intro x hx
  obtain ⟨t, ht, rfl⟩ := List.mem_map.1 hx
  exact h t (List.mem_of_mem_take (List.mem_filter.1 ht).1)
theorem al_no {l : List Term} {s : S} (h : ¬ ((vvalid l).2 = eOK ∧ (findT l s).isSome = true)) : aliases l s = [] := by unfold aliases; rw [if_neg h]
theorem al_yes {l : List Term} {s : S} (h : (vvalid l).2 = 0) (h2 : (findT l s).isSome = true) : aliases l s = alOf s l := by unfold aliases; rw [if_pos ⟨h, h2⟩]; rfl
theorem Tms.names {w : World} {A : Option Addr} {n : Nat} {ms : List TM} (h : Tms w A n ms) : ∀ t ∈ terms ms, t.name.size ≤ maxLen := by
  intro t ht
  obtain ⟨m, hm, rfl⟩ := List.mem_map.1 ht
  exact (h.2.1 m hm).nm
set_option maxRecDepth 20000 in
set_option maxHeartbeats 2000000 in
theorem aliases_any (A : Option Addr) (n c : Nat) (ms : List TM) (s : S) (w : World) (hm : n ≤ 100000) (hr : Rdy w) (hl : Tms w A n ms) :
    Calls Tryz.prog 36 #[.slice A n c, .string s] w fun e w' => ∃ A' k c', e = .returned (.slice A' k c') ∧ k ≤ c' ∧ k ≤ n ∧ Strs w' A' k (aliases (terms ms) s) ∧ Below w.heap.size w w' := by
  have hv := vok_any A n c ms w hm hr hl
  have hlen := terms_length hl
  by_cases h0 : (vvalid (terms ms)).2 = 0
  · have hva := decide_eq_true h0
    rw [hva] at hv
    rcases findAt_cases (terms ms) s 0 with ⟨f1, f2⟩ | ⟨j, t, f1, f2, f3⟩
    · have hres := Lib.hid (al_no (l := terms ms) (s := s) (by rw [f1]; simp))
      clear hva h0 f1
      go_enter Tryz.func36, Tryz.ntmps36
      go_wp2_with (first
        | (go_at_call 83; refine hv.mono ?_; rintro e w2 ⟨rfl, hb2⟩)
        | (go_at_call 20; refine (vfind_any _ _ _ _ _ _ hm (hl.below hb2)).mono ?_; rintro e w3 ⟨rfl, hb3⟩; rw [f2]))
      go_ret
      exact ⟨none, 0, 0, rfl, Nat.le_refl _, Nat.zero_le _, by rw [hres.out]; exact Strs.nil _, hb2.tr hb3⟩
    · have hres := Lib.hid (al_yes (l := terms ms) (s := s) h0 (by rw [f1]; rfl))
      rw [Nat.zero_add] at f2
      clear hva h0 f1 f3
      go_enter Tryz.func36, Tryz.ntmps36
      go_wp2_with (first
        | (go_at_call 83; refine hv.mono ?_; rintro e w2 ⟨rfl, hb2⟩)
        | (go_at_call 20; refine (vfind_any _ _ _ _ _ _ hm (hl.below hb2)).mono ?_; rintro e w3 ⟨rfl, hb3⟩; rw [f2]))
      have hb23 := hb2.tr hb3
      obtain ⟨wo, hwo⟩ : ∃ wo : World, wo = w3 := ⟨_, rfl⟩
      subst hwo
      go_loopw [5, 19] (fun o i wr => ∃ (k m1 c1 : Nat) (A1 : Option Addr), k ≤ n ∧ i = .int .i64 k ∧ o = .slice A1 m1 c1 ∧ m1 ≤ c1 ∧ m1 ≤ k ∧ Own wr w.heap.size 9 1 (.slice A1 m1 c1) m1 ((alOf s ((terms ms).take k)).map Value.string) ∧ Below w.heap.size w wr) (fun _ i _ => n - (intOf i).toNat)
      case atStart => exact ⟨0, 0, 0, none, by omega, rfl, rfl, by omega, by omega, Own.nil _ _ _ hb23.size, hb23⟩
      case round =>
        obtain ⟨k, m1, c1, A1, hk, rfl, rfl, hc1, hm1, ho, hbl⟩ := hrel
        by_cases hlt : k < n
        · obtain ⟨b, off, m, rfl, hx, hok, hb0, d1, d2, d3, d4, d5⟩ := (hl.below hbl).at_ hlt
          have htk := terms_get hx
          have hnm := hok.nm
          cases he : eqS m.t.see s
          · have hms := Lib.hid (alOf_miss htk he)
            unfold eqS at he
            clear hx hok htk
            go_wp2
            go_roundw
            case rel => exact ⟨k + 1, m1, c1, A1, by omega, by go_num, rfl, hc1, by omega, by rw [hms.out]; exact ho.alloc _, hbl.al _⟩
            case measure => simp [intOf]; omega
          · have hms := Lib.hid (alOf_hit htk he)
            unfold eqS at he
            clear hx hok htk
            go_wp2_with (at_builtin; refine wpList_app _ stringsT rfl (.tmp 27) (.tmp 30) rfl ((ho.alloc _).alloc _) rfl rfl (news := [.string m.t.name]) rfl (Rds.oneAt (wr.alloc (.cells #[.string m.t.name, .int .i64 m.t.kind, .int .i64 m.t.lang, .string m.t.see, .slice m.A m.n m.c] 33)) (by simp) (.string m.t.name) 9) (by simp [Value.oneCell']) ?_ ?_ ?_; (focus omega); (focus omega); intro A5 c5 w5 o5 n5 g5 _)
            have hb5 := ((hbl.al (.cells #[.string m.t.name, .int .i64 m.t.kind, .int .i64 m.t.lang, .string m.t.see, .slice m.A m.n m.c] 33)).al (.cells #[.string m.t.name] 9)).gr g5 ho.row
            go_roundw
            case rel => exact ⟨k + 1, m1 + 1, c5, A5, by omega, by go_num, rfl, n5, by omega, by rw [hms.out]; exact o5, hb5⟩
            case measure => simp [intOf]; omega
        · have hkn : k = n := by omega
          have htk := Lib.hid (take_all hlen hk hlt)
          rw [htk.out] at ho
          go_wp2
          go_ret
          have hsz := alOf_size (s := s) hl.names n
          rw [List.take_of_length_le (by omega)] at hsz
          exact ⟨A1, m1, c1, rfl, hc1, by omega, by rw [hres.out]; exact Strs.own ho rfl hsz, hbl⟩
  · have hva := decide_eq_false h0
    rw [hva] at hv
    have hres := Lib.hid (al_no (l := terms ms) (s := s) (fun h => h0 h.1))
    clear hva h0
    go_enter Tryz.func36, Tryz.ntmps36
    go_wp2_with (go_at_call 83; refine hv.mono ?_; rintro e w2 ⟨rfl, hb2⟩)
    go_ret
    exact ⟨none, 0, 0, rfl, Nat.le_refl _, Nat.zero_le _, by rw [hres.out]; exact Strs.nil _, hb2⟩
set_option maxRecDepth 20000 in
set_option maxHeartbeats 1000000 in
theorem aboveOf_any (A : Option Addr) (n c : Nat) (ms : List TM) (s : S) (w : World) (hm : n ≤ 100000) (hr : Rdy w) (hl : Tms w A n ms) :
    Calls Tryz.prog 38 #[.slice A n c, .string s] w fun e w' => ∃ A' k c', e = .returned (.slice A' k c') ∧ k ≤ 1000000 ∧ Strs w' A' k (aboveOf (terms ms) s) ∧ Below w.heap.size w w' := by
  have hv := vok_any A n c ms w hm hr hl
  by_cases h0 : (vvalid (terms ms)).2 = 0
  · have hva := decide_eq_true h0
    rw [hva] at hv
    have h128 : n ≤ 128 := by
      rcases Nat.lt_or_ge 128 n with h | h
      · unfold vvalid at h0
        rw [if_pos (by rw [terms_length hl]; exact h)] at h0; cases h0
      · exact h
    have hres : aboveOf (terms ms) s = ups (brd (terms ms)) s := by unfold aboveOf; rw [if_pos (show _ = eOK from h0)]
    rw [hres]
    clear hva h0 hres
    go_enter Tryz.func38, Tryz.ntmps38
    go_wp2_with (first
      | (go_at_call 83; refine hv.mono ?_; rintro e w2 ⟨rfl, hb2⟩)
      | (go_at_call 93; refine (above_any _ _ _ _ _ _ h128 (hl.below hb2)).mono ?_; rintro e w3 ⟨A3, k3, c3, rfl, hk3, hs3, hb3⟩))
    go_ret
    exact ⟨A3, k3, c3, rfl, hk3, hs3, hb2.tr hb3⟩
  · have hva := decide_eq_false h0
    rw [hva] at hv
    have hres : aboveOf (terms ms) s = [] := by unfold aboveOf; rw [if_neg (show ¬ (vvalid (terms ms)).2 = eOK from h0)]
    rw [hres]
    clear hva h0 hres
    go_enter Tryz.func38, Tryz.ntmps38
    go_wp2_with (go_at_call 83; refine hv.mono ?_; rintro e w2 ⟨rfl, hb2⟩)
    go_ret
    exact ⟨none, 0, 0, rfl, Nat.zero_le _, Strs.nil _, hb2⟩
end Go.Proofs.YtdfnfimajhagfaaGreatDoor
