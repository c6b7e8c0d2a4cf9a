/- Walks of package refer: Sort, Of. -/
import Derived.Test.YtlbgijgciajamaaGreatDoorV12
import Derived.Test.YtlbgijgciajamaaGreatDoorV10
import Derived.Test.YtlbgijgciajamaaGreatDoorVOf
import Derived.Test.YtlbgijgciajamaaGreatDoorG3
namespace Go.Proofs.YtlbgijgciajamaaGreatDoor
open Go.RowKit Go.Maps Go.Sort Rf
/-- what a list of references is once it is sorted, each once -/
def IsSortR (l rs : List Ref) : Prop := SortedR rs ∧ ∀ r, r ∈ rs ↔ r ∈ l
def szR (l : List Ref) : Prop := ∀ r ∈ l, r.frm.size ≤ maxLen ∧ r.to.size ≤ maxLen
set_option maxRecDepth 20000 in
set_option maxHeartbeats 1000000 in
theorem sortedN_any {A : Option Addr} {n c base : Nat} {l : List Ref} {w : World} (hm : n ≤ 100000) (ho : Own w base 60 3 (.slice A n c) n (refsCells l)) (hs : szR l) (hn : l.Nodup) :
    Calls Tryz.prog 36 #[.slice A n c, .func (.func 37) #[] #[]] w fun e w' => ∃ A' k c' rs, e = .returned (.slice A' k c') ∧ k ≤ c' ∧ k ≤ n ∧ Refs w' A' k rs ∧ IsSortR l rs ∧ Below w.heap.size w w' := by
  have hsz : szR (msortR l) := fun r hr => hs r (mem_msortR.1 hr)
  go_enter Tryz.func36, Tryz.ntmps36
  go_wp2_with (first
    | (go_at_call 58; refine (cloneR_any hm ho).mono ?_; rintro e w2 ⟨A2, c2, rfl, hc2, ho2, hb2⟩)
    | (go_at_call 59; refine (sortR_any hm ho2).mono ?_; rintro e w3 ⟨rfl, ho3, hg3⟩; have hr3 := Refs.own ho3 rfl hsz)
    | (go_at_call 60; refine (compactN_any _ _ _ _ _ hm hr3 (msortR_sorted hn).nodup).mono ?_; rintro e w4 ⟨rfl, hb4⟩))
  go_ret
  exact ⟨A2, n, c2, msortR l, rfl, hc2, Nat.le_refl _, hr3.below hb4, ⟨msortR_sorted hn, fun r => mem_msortR⟩, (hb2.gr hg3 ho2.row).tr hb4⟩
set_option maxRecDepth 20000 in
set_option maxHeartbeats 1000000 in
theorem sortN_any {A : Option Addr} {n c base : Nat} {l : List Ref} {w : World} (hm : n ≤ 100000) (ho : Own w base 60 3 (.slice A n c) n (refsCells l)) (hs : szR l) (hn : l.Nodup) :
    Calls Tryz.prog 18 #[.slice A n c] w fun e w' => ∃ A' k c' rs, e = .returned (.slice A' k c') ∧ k ≤ c' ∧ k ≤ n ∧ Refs w' A' k rs ∧ IsSortR l rs ∧ Below w.heap.size w w' := by
  have h := sortedN_any hm ho hs hn
  go_enter Tryz.func18, Tryz.ntmps18
  go_wp2_with (go_at_call 36; refine h.mono ?_; rintro e w2 ⟨A2, k2, c2, rs, rfl, hc2, hk2, hr2, hi2, hb2⟩)
  go_ret
  exact ⟨A2, k2, c2, rs, rfl, hc2, hk2, hr2, hi2, hb2⟩
/-- what Of makes -/
def IsOf (l : List Term) (heads : List S) (rs : List Ref) : Prop := if (vvalid l).2 = 0 then IsSortR (ofAll l heads) rs else rs = []
set_option maxRecDepth 20000 in
set_option maxHeartbeats 8000000 in
theorem rof_any (A B : Option Addr) (n c m d : Nat) (ms : List TM) (heads : List S) (w : World) (hm : n ≤ 100000) (hmh : m ≤ 1000000) (hr : Rdy w) (hl : Tms w A n ms) (hh : Strs w B m heads) :
    Calls Tryz.prog 10 #[.slice A n c, .slice B m d] w fun e w' => ∃ A' k c' rs, e = .returned (.slice A' k c') ∧ k ≤ c' ∧ k ≤ 20000 ∧ Refs w' A' k rs ∧ IsOf (terms ms) heads rs ∧ Below w.heap.size w w' := by
  have hv := vvalid_any A n c ms w hm hr hl
  have hlen := terms_length hl
  have hmm := @run_makeMap Tryz.prog
  by_cases h0 : (vvalid (terms ms)).2 = 0
  · have h128 : n ≤ 128 := by
      rcases Nat.lt_or_ge 128 n with h | h
      · have h1 := h0
        unfold vvalid at h1
        rw [if_pos (by rw [hlen]; exact h)] at h1; cases h1
      · exact h
    have hnd := Lib.hid (ofAll_nodup (heads := heads) (vok (show _ = eOK from h0)))
    have hio := Lib.hid (show ∀ rs, IsSortR (ofAll (terms ms) heads) rs → IsOf (terms ms) heads rs from fun rs h => by unfold IsOf; rw [if_pos h0]; exact h)
    rw [h0] at hv
    clear h0
    generalize ((vvalid (terms ms)).1 : Int) = u at hv
    go_enter Tryz.func10, Tryz.ntmps10
    go_wp2_with (first
      | (go_at_call 27; refine hv.mono ?_; rintro e w2 ⟨rfl, hb2⟩)
      | (go_at_call 28; refine (set_any _ _ _ _ _ hmh (hh.below hb2)).mono ?_; rintro e w3 ⟨hb, rfl, hbb, hf3, hb3⟩))
    have hb23 := hb2.tr hb3
    obtain ⟨wo, hwo⟩ : ∃ wo : World, wo = w3 := ⟨_, rfl⟩
    subst hwo
    have hh3 : hb < wo.heap.size := hf3.lt
    have hs3 := hb23.size
    clear hbb hb2 hb3 hv
    go_loopw [8, 24] (fun o i wr => ∃ (k m1 c1 : Nat) (A1 : Option Addr), k ≤ n ∧ i = .int .i64 k ∧ o = .slice A1 m1 c1 ∧ m1 ≤ c1 ∧ m1 ≤ 101 * k ∧ Own wr wo.heap.size 60 3 (.slice A1 m1 c1) m1 (refsCells (ofAll ((terms ms).take k) heads)) ∧ szR (ofAll ((terms ms).take k) heads) ∧ MapS wr hb m (boolF heads) ∧ Below w.heap.size w wr) (fun _ i _ => n - (intOf i).toNat)
    case atStart => exact ⟨0, 0, 0, none, by omega, rfl, rfl, by omega, by omega, Own.nil _ _ _ (Nat.le_refl _), (fun r h => by cases h), hf3, hb23⟩
    case round =>
      clear hf3 hb23
      obtain ⟨k, m1, c1, A1, hk, rfl, rfl, hc1, hm1, ho, hsz, hf, hbl⟩ := hrel
      by_cases hlt : k < n
      · obtain ⟨b, off, ⟨t, Am, nm, cm⟩, rfl, hx, hok, hb0, hat⟩ := hl.at_ hlt
        obtain ⟨d1, d2, d3, d4, d5⟩ := hat.below hbl hb0
        clear hat
        have htk := terms_get hx
        obtain ⟨hnm, hse, _, _, hcap, hfew, hbr⟩ := hok
        dsimp only at d1 d2 d3 d4 d5 hnm hse hcap hfew hbr htk
        have hsn := Lib.hid (ofAll_snoc (heads := heads) htk)
        have hfa := hf.alloc (.cells #[.string t.name, .int .i64 t.kind, .int .i64 t.lang, .string t.see, .slice Am nm cm] 28)
        have hba := hbl.al (.cells #[.string t.name, .int .i64 t.kind, .int .i64 t.lang, .string t.see, .slice Am nm cm] 28)
        have hoa := ho.alloc (.cells #[.string t.name, .int .i64 t.kind, .int .i64 t.lang, .string t.see, .slice Am nm cm] 28)
        clear hx htk hb0
        cases hn : Rf.has heads t.name
        · have e1 := hfa.lookB0 hnm hn
          cases hs0 : t.see.data.isEmpty
          · have u0 := not_empty hs0
            have u2 := (empty_data t.see).trans hs0
            cases hs1 : Rf.has heads t.see
            · have e2 := hfa.lookB0 hse hs1
              have hnil := Lib.hid (ofTerm_none (t := t) hn (by rw [hs1]; simp))
              clear hn hs0 hs1
              go_wp2
              go_roundw
              case rel => exact ⟨k + 1, m1, c1, A1, by omega, by go_num, rfl, hc1, by omega, by rw [hsn.out, hnil.out, List.append_nil]; exact hoa, by rw [hsn.out, hnil.out, List.append_nil]; exact hsz, hfa, hba⟩
              case measure => simp [intOf]; omega
            · have e2 := hfa.lookB0 hse hs1
              have hone := Lib.hid (ofTerm_see (t := t) hn hs0 hs1)
              clear hn hs0 hs1
              go_wp2_with (at_builtin; refine wpList_app _ refsT rfl (.tmp 61) (.tmp 67) rfl (hoa.alloc _) rfl rfl (news := [.string t.name, .string t.see, .bool false]) rfl (Rds.new3At (wr.alloc (.cells #[.string t.name, .int .i64 t.kind, .int .i64 t.lang, .string t.see, .slice Am nm cm] 28)) (by simp) _ _ _ 60) (by simp [Value.oneCell']) ?_ ?_ ?_; (focus omega); (focus omega); intro A8 c8 w8 o8 n8 g8 _)
              have hb8 := (hba.al (.cells #[.string t.name, .string t.see, .bool false] 60)).gr g8 (fun k e => Nat.le_trans hs3 (ho.row k e))
              have hf8 := (hfa.alloc (.cells #[.string t.name, .string t.see, .bool false] 60)).kept g8 (fun e => by have := ho.row _ e.symm; omega)
              go_roundw
              case rel => exact ⟨k + 1, m1 + 1, c8, A8, by omega, by go_num, rfl, n8, by omega, by rw [hsn.out, hone.out]; exact snoc_refs (r := ⟨t.name, t.see, false⟩) o8, (by
                rw [hsn.out, hone.out]
                intro q hq
                rcases List.mem_append.1 hq with hq | hq
                · exact hsz q hq
                · simp at hq; subst hq; exact ⟨hnm, hse⟩), hf8, hb8⟩
              case measure => simp [intOf]; omega
          · have hnil := Lib.hid (ofTerm_none (heads := heads) (t := t) hn (by rw [hs0]; rfl))
            have u1 := is_empty hs0
            rw [u1] at d4 hfa hba hoa e1
            clear hn hs0
            go_wp2
            go_roundw
            case rel => exact ⟨k + 1, m1, c1, A1, by omega, by go_num, rfl, hc1, by omega, by rw [hsn.out, hnil.out, List.append_nil]; exact hoa, by rw [hsn.out, hnil.out, List.append_nil]; exact hsz, hfa, hba⟩
            case measure => simp [intOf]; omega
        · have e1 := hfa.lookB0 hnm hn
          have hall := Lib.hid (fun n h => brTake_all (heads := heads) (t := t) (n := n) h hn)
          clear hn
          go_wp2
          clear e1
          have hbc := (box_tm (w := wr) (v1 := .string t.name) (v2 := .int .i64 t.kind) (v3 := .int .i64 t.lang) (v4 := .string t.see) (v5 := .slice Am nm cm) (t := 28) brefl).1
          have hlt0 : ∀ g, (Value.slice A1 m1 c1).ownBlock = some g → g ≠ wr.heap.size := fun g e => by have := ho.lt g e; omega
          have hsw : wr.heap.size < (wr.alloc (.cells #[.string t.name, .int .i64 t.kind, .int .i64 t.lang, .string t.see, .slice Am nm cm] 28)).heap.size := by simp
          obtain ⟨wx, hwx⟩ : ∃ wx, wr.alloc (.cells #[.string t.name, .int .i64 t.kind, .int .i64 t.lang, .string t.see, .slice Am nm cm] 28) = wx := ⟨_, rfl⟩
          rw [hwx] at hfa hba hoa hbc hsw ⊢
          clear d1 d2 d3 d4 d5 hwx
          obtain ⟨wb, hwb⟩ : ∃ wb : World, wb = wr := ⟨_, rfl⟩
          subst hwb
          go_loopw [8, 31] (fun o i wz => ∃ (j m2 c2 : Nat) (A2 : Option Addr), j ≤ nm ∧ i = .int .i64 j ∧ o = .slice A2 m2 c2 ∧ m2 ≤ c2 ∧ m2 ≤ 101 * k + j ∧ Own wz wo.heap.size 60 3 (.slice A2 m2 c2) m2 (refsCells (ofAll ((terms ms).take k) heads ++ brTake heads t j)) ∧
            wz.cell? ⟨wb.heap.size, 0, none⟩ = some (.string t.name) ∧ (∀ g, (Value.slice A2 m2 c2).ownBlock = some g → g ≠ wb.heap.size) ∧ wb.heap.size < wz.heap.size ∧ szR (ofAll ((terms ms).take k) heads ++ brTake heads t j) ∧ MapS wz hb m (boolF heads) ∧ Below w.heap.size w wz) (fun _ i _ => nm - (intOf i).toNat)
          case atStart => exact ⟨0, m1, c1, A1, by omega, rfl, rfl, hc1, by omega, by rw [brTake_zero, List.append_nil]; exact hoa, hbc, hlt0, hsw, by rw [brTake_zero, List.append_nil]; exact hsz, hfa, hba⟩
          case round =>
            clear hfa hba hoa hbc hlt0 hsw ho hsz hf
            obtain ⟨j, m2, c2, A2, hj, rfl, rfl, hc2, hm2, ho2, hcn, hg2, hsz2, hszr, hf2, hb2⟩ := hrel
            by_cases hlt2 : j < nm
            · obtain ⟨b9, off9, x, rfl, hx, hxs, hb9, hcx⟩ := (hbr.below hb2).at_ hlt2
              cases hxh : Rf.has heads x
              · have e3 := hf2.lookB0 hxs hxh
                have hms := Lib.hid (brTake_miss (t := t) hx hxh)
                clear hx hb9 hxh
                go_wp2
                go_roundw
                case rel => exact ⟨j + 1, m2, c2, A2, by omega, by go_num, rfl, hc2, by omega, by rw [hms.out]; exact ho2, hcn, hg2, hsz2, by rw [hms.out]; exact hszr, hf2, hb2⟩
                case measure => simp [intOf]; omega
              · have e3 := hf2.lookB0 hxs hxh
                have hms := Lib.hid (brTake_hit (t := t) hx hxh)
                clear hx hb9 hxh
                go_wp2_with (at_builtin; refine wpList_app _ refsT rfl (.tmp 38) (.tmp 43) rfl (ho2.alloc _) rfl rfl (news := [.string x, .string t.name, .bool true]) rfl (Rds.new3 wr _ _ _ 60) (by simp [Value.oneCell']) ?_ ?_ ?_; (focus omega); (focus omega); intro A8 c8 w8 o8 n8 g8 e8)
                have hb8 := (hb2.al (.cells #[.string x, .string t.name, .bool true] 60)).gr g8 (fun k e => Nat.le_trans hs3 (ho2.row k e))
                have hf8 := (hf2.alloc (.cells #[.string x, .string t.name, .bool true] 60)).kept g8 (fun e => by have := ho2.row _ e.symm; omega)
                have hcn8 := g8.cell (((brefl.al (.cells #[.string x, .string t.name, .bool true] 60) : Below wr.heap.size wr _).cell (p := ⟨wb.heap.size, 0, none⟩) hsz2).trans hcn) (fun e => hg2 wb.heap.size e.symm rfl)
                have hg8 : ∀ g, (Value.slice A8 (m2 + 1) c8).ownBlock = some g → g ≠ wb.heap.size := fun g hg => by
                  rcases e8 with e8 | e8
                  · exact hg2 g (by rw [← e8]; exact hg)
                  · rw [e8] at hg
                    injection hg with hg
                    rw [← hg, World.size_alloc]; omega
                have hsz8 : wb.heap.size < w8.heap.size := Nat.lt_of_lt_of_le hsz2 (Nat.le_trans (by simp) g8.size)
                go_roundw
                case rel => exact ⟨j + 1, m2 + 1, c8, A8, by omega, by go_num, rfl, n8, by omega, by rw [hms.out, ← List.append_assoc]; exact snoc_refs (r := ⟨x, t.name, true⟩) o8, hcn8, hg8, hsz8, (by
                  rw [hms.out, ← List.append_assoc]
                  intro q hq
                  rcases List.mem_append.1 hq with hq | hq
                  · exact hszr q hq
                  · simp at hq; subst hq; exact ⟨hxs, hnm⟩), hf8, hb8⟩
                case measure => simp [intOf]; omega
            · have hjn : j = nm := by omega
              have hbt := Lib.hid (hall.out j (by rw [hbr.1]; omega))
              rw [hbt.out] at ho2 hszr
              go_wp2
              go_roundw
              case rel => exact ⟨k + 1, m2, c2, A2, by omega, by go_num, rfl, hc2, by omega, by rw [hsn.out]; exact ho2, by rw [hsn.out]; exact hszr, hf2, hb2⟩
              case measure => simp [intOf]; omega
      · have hkn : k = n := by omega
        have htk := Lib.hid (take_all hlen hk hlt)
        rw [htk.out] at ho hsz
        go_wp2_with (go_at_call 18; refine (sortN_any (by omega) ho hsz hnd.out).mono ?_; rintro e w5 ⟨A5, k5, c5, rs, rfl, hc5, hk5, hr5, hi5, hb5⟩)
        go_ret
        exact ⟨A5, k5, c5, rs, rfl, hc5, by omega, hr5, hio.out rs hi5, hbl.tr hb5⟩
  · have hno : IsOf (terms ms) heads [] := by unfold IsOf; rw [if_neg h0]
    generalize (vvalid (terms ms)).2 = v at h0 hv
    generalize ((vvalid (terms ms)).1 : Int) = u at hv
    go_enter Tryz.func10, Tryz.ntmps10
    go_wp2_with (go_at_call 27; refine hv.mono ?_; rintro e w2 ⟨rfl, hb2⟩)
    go_ret
    exact ⟨none, 0, 0, [], rfl, Nat.le_refl _, by omega, Refs.nil _, hno, hb2⟩
end Go.Proofs.YtlbgijgciajamaaGreatDoor
