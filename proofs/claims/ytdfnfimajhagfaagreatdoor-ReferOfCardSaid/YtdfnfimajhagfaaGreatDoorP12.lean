/- Walk of package refer: Check. -/
import Derived.Test.YtdfnfimajhagfaaGreatDoorP10
import Derived.Test.YtdfnfimajhagfaaGreatDoorP11
import Derived.Test.YtdfnfimajhagfaaGreatDoorG1
namespace Go.Proofs.YtdfnfimajhagfaaGreatDoor
open Go.RowKit Go.Maps Rf
theorem badLeft_some (n : Nat) : ∀ (ks : List Int) (q : Int), badLeft n ks (some q) = (ks.any (outs n) || badInc (q :: ks))
  | [], q => rfl
  | k :: ks, q => by
    rw [badLeft_cons, badLeft_some n ks k, badInc_cons, List.any_cons]
    unfold outs
    simp only
    cases decide (k < 0) <;> cases decide ((n : Int) ≤ k) <;> cases decide (k ≤ q) <;> cases (ks.any fun k => decide (k < 0) || decide ((n : Int) ≤ k)) <;> rfl
theorem badLeft_none (n : Nat) (ks : List Int) : badLeft n ks none = (ks.any (outs n) || badInc ks) := by
  cases ks with
  | nil => rfl
  | cons k ks =>
    rw [badLeft_cons, badLeft_some n ks k, List.any_cons]
    unfold outs
    simp only
    cases decide (k < 0) <;> cases decide ((n : Int) ≤ k) <;> cases (ks.any fun k => decide (k < 0) || decide ((n : Int) ≤ k)) <;> rfl
def isIn (left : List Int) (i : Nat) : Bool := left.any fun y => (i : Int) == y
def restC (left : List Int) : List Ref → Nat → List Ref
  | [], _ => []
  | r :: rest, i => if isIn left i then restC left rest (i + 1) else r :: restC left rest (i + 1)
theorem restC_hit {left : List Int} {r : Ref} {rest : List Ref} {i : Nat} (h : isIn left i = true) : restC left (r :: rest) i = restC left rest (i + 1) := by rw [restC, if_pos h]
theorem restC_miss {left : List Int} {r : Ref} {rest : List Ref} {i : Nat} (h : isIn left i = false) : restC left (r :: rest) i = r :: restC left rest (i + 1) := by rw [restC, if_neg (by simp [h])]
theorem badInc_sorted : ∀ {ks : List Int}, badInc ks = false → ks.Pairwise (· < ·)
  | [], _ => List.Pairwise.nil
  | [x], _ => List.pairwise_singleton _ _
  | x :: y :: l, h => by
    rw [badInc_cons] at h
    simp only [Bool.or_eq_false_iff, decide_eq_false_iff_not] at h
    have ih := badInc_sorted h.2
    refine List.Pairwise.cons (fun z hz => ?_) ih
    rcases List.mem_cons.1 hz with rfl | hz
    · omega
    · have := (List.pairwise_cons.1 ih).1 z hz; omega
theorem isIn_iff {left : List Int} {i : Nat} : isIn left i = true ↔ (i : Int) ∈ left := by
  unfold isIn
  rw [List.any_eq_true]
  constructor
  · rintro ⟨x, hx, e⟩
    have : (i : Int) = x := by simpa using e
    rw [this]; exact hx
  · intro h; exact ⟨_, h, by simp⟩
theorem withoutFrom_restC (left : List Int) : ∀ (rest : List Ref) (i : Nat) (pre ks : List Int), left = pre ++ ks → (∀ x ∈ pre, x < i) → (∀ x ∈ ks, (i : Int) ≤ x) → ks.Pairwise (· < ·) → withoutFrom rest i ks = restC left rest i
  | [], i, pre, ks, _, _, _, _ => by cases ks <;> rfl
  | r :: rest, i, pre, [], h, hp, _, _ => by
    have hm : isIn left i = false := by
      rw [← Bool.not_eq_true, isIn_iff, h]
      simp only [List.append_nil]
      intro hc; have := hp _ hc; omega
    rw [restC_miss hm]
    unfold withoutFrom
    rw [withoutFrom_restC left rest (i + 1) pre [] h (fun x hx => by have := hp x hx; omega) (by simp) List.Pairwise.nil]
  | r :: rest, i, pre, k :: ks, h, hp, hk, hs => by
    have hs' := List.pairwise_cons.1 hs
    by_cases e : k = i
    · have hm : isIn left i = true := by rw [isIn_iff, h]; simp [e]
      rw [restC_hit hm, withoutFrom_hit e]
      refine withoutFrom_restC left rest (i + 1) (pre ++ [k]) ks (by rw [h]; simp) (fun x hx => ?_) (fun x hx => ?_) hs'.2
      · rcases List.mem_append.1 hx with hx | hx
        · have := hp x hx; omega
        · simp at hx; omega
      · have := hs'.1 x hx; omega
    · have hki := hk k (by simp)
      have hm : isIn left i = false := by
        rw [← Bool.not_eq_true, isIn_iff, h]
        intro hc
        rcases List.mem_append.1 hc with hc | hc
        · have := hp _ hc; omega
        · rcases List.mem_cons.1 hc with hc | hc
          · exact e hc.symm
          · have := hs'.1 _ hc; omega
      rw [restC_miss hm, withoutFrom_miss e, withoutFrom_restC left rest (i + 1) pre (k :: ks) h (fun x hx => by have := hp x hx; omega) (fun x hx => by
        rcases List.mem_cons.1 hx with hx | hx
        · omega
        · have := hs'.1 x hx; omega) hs]
theorem without_restC {n : Nat} {left : List Int} (l : List Ref) (h1 : left.any (outs n) = false) (h2 : badInc left = false) : without l left = restC left l 0 :=
  withoutFrom_restC left l 0 [] left rfl (by simp) (fun x hx => by
    rw [List.any_eq_false] at h1
    have := h1 x hx
    unfold outs at this
    simp only [Bool.or_eq_true, decide_eq_true_eq, not_or] at this
    omega) (badInc_sorted h2)
set_option maxRecDepth 20000 in
set_option maxHeartbeats 8000000 in
theorem check_any (A B C D : Option Addr) (n m m2 m3 c d c2 c3 : Nat) (l : List Ref) (heads : List S) (left : List Int) (dead : List S) (w : World) (hm : n ≤ 10000) (hmh : m ≤ 10000) (hm2 : m2 ≤ 100000) (hm3 : m3 ≤ 100000) (hc : n ≤ c)
    (hl : Refs w A n l) (hh : Strs w B m heads) (hlf : Ints w C m2 left) (hdd : Strs w D m3 dead) :
    Calls Tryz.prog 125 #[.slice A n c, .slice B m d, .slice C m2 c2, .slice D m3 c3] w fun e w' => e = .returned (.int .i64 (check l heads left dead)) ∧ Below w.heap.size w w' := by
  have HN := Lib.hid hl.1
  have hmm := @run_makeMap Tryz.prog
  have hbx : Below w.heap.size w (w.alloc (.cells #[.slice A n c] 82)) := brefl.al _
  have hx0 : (w.alloc (.cells #[.slice A n c] 82)).cell? ⟨w.heap.size, 0, none⟩ = some (.slice A n c) := by simp
  have hxs : w.heap.size < (w.alloc (.cells #[.slice A n c] 82)).heap.size := by simp
  go_enter Tryz.func125, Tryz.ntmps125
  cases hb1 : left.any (outs n)
  · cases hb2 : badInc left
    · cases hb3 : badDead dead
      · go_wp2_with (first
          | (go_at_call 162; refine (containsOutside_any _ _ _ _ _ _ _ _ _ (by omega) hm2 hx0 (hlf.below hbx)).mono ?_; rintro e w' ⟨rfl, rfl⟩; rw [hb1])
          | (go_at_call 163; refine (incInt_any _ _ _ _ _ hm2 (hlf.below hbx)).mono ?_; rintro e w2 ⟨rfl, hbi2⟩; rw [hb2])
          | (go_at_call 164; refine (incStr_any _ _ _ _ _ hm3 (hdd.below (hbx.tr hbi2))).mono ?_; rintro e w3 ⟨rfl, hbi3⟩; rw [hb3]; have hxw := ((hbi2.tr hbi3).cell (p := ⟨w.heap.size, 0, none⟩) hxs).trans hx0))
        have hb03 := hbx.tr (hbi2.tr hbi3)
        have hxz : w.heap.size < w3.heap.size := Nat.lt_of_lt_of_le hxs (hbi2.tr hbi3).size
        have hbad : badLeft n left none = false := by rw [badLeft_none, hb1, hb2]; rfl
        have HB := Lib.hid (show badLeft l.length left none = false from by rw [HN.out]; exact hbad)
        have HRG := Lib.hid (badLeft_range hbad)
        have HRC := Lib.hid (without_restC l hb1 hb2)
        have HDD := Lib.hid hb3
        have hbox : ∀ wz, Below w3.heap.size w3 wz → wz.cell? ⟨w.heap.size, 0, none⟩ = some (.slice A n c) := fun wz hz => (hz.cell (p := ⟨w.heap.size, 0, none⟩) hxz).trans hxw
        clear hb1 hb2 hb3 hbi2 hbi3 hx0 hxs hbx hbad hxw
        go_loopw [10, 42] (fun o ii wr => ∃ (i m1 c1 : Nat) (A1 : Option Addr) (pre : List Ref), i ≤ n ∧ ii = .int .i64 i ∧ o = .slice A1 m1 c1 ∧ m1 ≤ c1 ∧ m1 ≤ i ∧ Own wr w3.heap.size 136 3 (.slice A1 m1 c1) m1 (refsCells pre) ∧ (∀ q ∈ pre, q.frm.size ≤ maxLen ∧ q.to.size ≤ maxLen) ∧
          Hid (restC left l 0 = pre ++ restC left (l.drop i) i) ∧ Below w3.heap.size w3 wr) (fun _ ii _ => n - (intOf ii).toNat)
        case atStart => exact ⟨0, 0, 0, none, [], by omega, rfl, rfl, by omega, by omega, Own.nil _ _ _ (Nat.le_refl _), by simp, rfl, brefl⟩
        case round =>
          obtain ⟨i, m1, c1, A1, pre, hi, rfl, rfl, hc1, hm1, ho, hpr, hr, hbl⟩ := hrel
          by_cases hlt : i < n
          · obtain ⟨b, off, r, rfl, hx, hs1, hs2, hb0, hd1, hd2, hd3⟩ := (hl.below (hb03.tr hbl)).at_ hlt
            have hd := Lib.hid (drop_get hx)
            clear hx hb0
            have hba := hbl.al (.cells #[.string r.frm, .string r.to, .bool r.also] 136)
            have hlfa := hlf.below (hb03.tr hba)
            cases hin : isIn left i
            · have hin' : (left.any fun y => (i : Int) == y) = false := hin
              go_wp2_with (first
                | (go_at_call 165; refine (containsInt_any _ _ _ _ _ _ hm2 hlfa).mono ?_; rintro e w' ⟨rfl, rfl⟩; rw [hin'])
                | (at_builtin; refine wpList_app _ refsT rfl (.tmp 51) (.tmp 53) rfl ((ho.alloc _).alloc _) rfl rfl (news := [.string r.frm, .string r.to, .bool r.also]) rfl (Rds.new3At (wr.alloc (.cells #[.string r.frm, .string r.to, .bool r.also] 136)) (by simp) _ _ _ 136) (by simp [Value.oneCell']) ?_ ?_ ?_; (focus omega); (focus omega); intro A4 c4 w4 o4 n4 g4 _))
              have hb4 := (hba.al _).gr g4 ho.row
              go_roundw
              case rel => exact ⟨i + 1, m1 + 1, c4, A4, pre ++ [r], by omega, by go_num, rfl, n4, by omega, snoc_refs o4, (fun q hq => by
                rcases List.mem_append.1 hq with h | h
                · exact hpr q h
                · simp at h; subst h; exact ⟨hs1, hs2⟩), by show _ = _; rw [hr.out, hd.out, restC_miss hin]; simp, hb4⟩
              case measure => simp [intOf]; omega
            · have hin' : (left.any fun y => (i : Int) == y) = true := hin
              go_wp2_with (go_at_call 165; refine (containsInt_any _ _ _ _ _ _ hm2 hlfa).mono ?_; rintro e w' ⟨rfl, rfl⟩; rw [hin'])
              go_roundw
              case rel => exact ⟨i + 1, m1, c1, A1, pre, by omega, by go_num, rfl, hc1, by omega, ho.alloc _, hpr, by show _ = _; rw [hr.out, hd.out, restC_hit hin], hba⟩
              case measure => simp [intOf]; omega
          · have hwo : without l left = pre := by rw [HRC.out, hr.out, drop_len hl.1 hlt]; simp [restC]
            have hrest : Refs wr A1 m1 (without l left) := by rw [hwo]; exact Refs.own ho rfl hpr
            have hbw := hb03.tr hbl
            clear hwo ho hpr hr HRC
            obtain ⟨v, hv⟩ : ∃ v, (valid (without l left) heads).2 = v := ⟨_, rfl⟩
            have HV := Lib.hid hv
            clear hv
            go_wp2_with fail
            refine (valid_any _ _ _ _ _ _ _ _ wr (by omega) (by omega) hc1 hrest (hh.below hbw)).mono ?_
            rintro e w4 ⟨rfl, hb4⟩
            rw [HV.out]
            have hl4 := hbl.tr hb4
            by_cases hv0 : v = 0
            · subst hv0
              have k4 := hbox w4 hl4
              go_wp2_with fail
              refine (of_any _ _ _ _ _ _ _ _ w4 (by omega) (by omega) hc (hl.below (hb03.tr hl4)) (hh.below (hb03.tr hl4))).mono ?_
              rintro e w5 ⟨g, hdb, sb, rfl, hg1, hg, hb5⟩
              go_wp2_with fail
              refine (of_any _ _ _ _ _ _ _ _ w5 (by omega) (by omega) hc1 (hrest.below (hb4.tr hb5)) (hh.below ((hb03.tr hl4).tr hb5))).mono ?_
              rintro e w6 ⟨g2, hdb2, sb2, rfl, hg21, hg2, hb6⟩
              go_wp2_with fail
              refine (set_any _ _ _ _ w6 (by omega) (hdd.below (((hb03.tr hl4).tr hb5).tr hb6))).mono ?_
              rintro e w7 ⟨gb, rfl, hgb1, hgone, hb7⟩
              have hl7 := ((hl4.tr hb5).tr hb6).tr hb7
              have hg7 := hg.below (hb6.tr hb7)
              have hg27 := hg2.below hb7
              have hba : Below w7.heap.size w7 (w7.alloc (.cells #[.pointer (some ⟨g, 0, none⟩)] 140)) := brefl.al _
              have hl8 := hl7.tr hba
              have hg8 := hg7.below hba
              have hg28 := hg27.below hba
              have hgone9 := hgone.below hba
              have hp8 : (w7.alloc (.cells #[.pointer (some ⟨g, 0, none⟩)] 140)).cell? ⟨w7.heap.size, 0, none⟩ = some (.pointer (some ⟨g, 0, none⟩)) := by simp
              have hpz : w7.heap.size < (w7.alloc (.cells #[.pointer (some ⟨g, 0, none⟩)] 140)).heap.size := by simp
              obtain ⟨pb, hpb⟩ : ∃ pb, w7.heap.size = pb := ⟨_, rfl⟩
              rw [hpb] at hp8 hpz
              have HPB := Lib.hid hpb
              clear hpb hg hg2 hgone hb4 hb5 hb6 hb7 hg1 hg21 hgb1 hrest hl4 k4
              cases hdh : dead.any (Rf.has heads)
              · have HH := Lib.hid hdh
                go_wp2_with (go_at_call 166; rw [HPB.out]; refine (containsHead_any _ _ _ _ _ _ _ _ _ _ _ _ _ _ (by omega) hg8 hp8 (hdd.below (hb03.tr hl8))).mono ?_; rintro e w' ⟨rfl, rfl⟩; rw [HH.out])
                have hdd8 := hdd.below (hb03.tr hl8)
                have hl8r := hl.below (hb03.tr hl8)
                clear hg7 hg27 hba hl7
                have hgone8 := hgone9
                clear hgone9 hdh
                obtain ⟨w8, hw8⟩ : ∃ w8 : World, w7.alloc (.cells #[.pointer (some ⟨g, 0, none⟩)] 140) = w8 := ⟨_, rfl⟩
                rw [hw8] at hp8 hpz hg8 hg28 hgone8 hl8 hdd8 hl8r ⊢
                clear hw8
                go_loopw [78] (fun ii wr => ∃ i : Nat, i ≤ n ∧ ii = .int .i64 i ∧ Hid (l.any (ckRef l (without l left) heads dead) = (l.drop i).any (ckRef l (without l left) heads dead)) ∧ Below w8.heap.size w8 wr) (fun ii _ => n - (intOf ii).toNat)
                case atStart => exact ⟨0, by omega, rfl, rfl, brefl⟩
                case round =>
                  obtain ⟨i, hi, rfl, hr, hbl⟩ := hrel
                  by_cases hlt : i < n
                  · obtain ⟨b, off, r, rfl, hx, hs1, hs2, hb0, hd1, hd2, hd3⟩ := (hl8r.below hbl).at_ hlt
                    have hd := Lib.hid (any_drop' (p := ckRef l (without l left) heads dead) hx)
                    clear hx hb0
                    have hba := hbl.al (.cells #[.string r.frm, .string r.to, .bool r.also] 136)
                    have hga := hg8.below hba
                    have hga2 := hg28.below hba
                    have hgna := hgone8.below hba
                    have hpa := (hba.cell (p := ⟨pb, 0, none⟩) hpz).trans hp8
                    cases ha : r.also
                    · rw [ha] at hba hga hga2 hgna hpa hd3
                      obtain ⟨_, _, _, gah, gas, _, gac1, gac2⟩ := hga
                      obtain ⟨_, _, _, _, gbs, _, _, gbc2⟩ := hga2
                      obtain ⟨vt, hvt⟩ : ∃ vt, see l r.to = vt := ⟨_, rfl⟩
                      obtain ⟨vs, hvs⟩ : ∃ vs, see (without l left) r.frm = vs := ⟨_, rfl⟩
                      have e1 := (gas.lookI hs2 hvt).1
                      have e2 := (gbs.lookI hs1 hvs).1
                      have HVT := Lib.hid hvt
                      have HVS := Lib.hid hvs
                      clear hvt hvs gas gbs
                      cases hdf : Rf.has dead r.frm
                      · have e3 := hgna.lookB hs1 hdf
                        cases hhf : Rf.has heads r.frm
                        · have e4 := gah.lookB hs1 hhf
                          cases vs with
                          | none =>
                            have HC := Lib.hid (show ckRef l (without l left) heads dead r = true from by unfold ckRef; rw [ha, hdf, hhf, HVS.out]; rfl)
                            go_wp2
                            go_quiet (fail)
                            go_wp2
                            go_quiet (fail)
                            go_wp2
                            go_quiet (fail)
                            go_wp2
                            go_quiet (fail)
                            go_wp2
                            have hfin := Lib.hid (check_refs HB.out HDD.out HV.out HH.out (show l.any (ckRef l (without l left) heads dead) = true from by rw [hr.out, hd.out, HC.out]; rfl))
                            have hbz := hb03.tr (hl8.tr hba)
                            go_ret
                            exact ⟨ret_i64 hfin.out.symm, ⟨hbz.os, hbz.tape, hbz.output, hbz.size, hbz.block⟩⟩
                          | some js =>
                            have HC := Lib.hid (show ckRef l (without l left) heads dead r = false from by unfold ckRef; rw [ha, hdf, hhf, HVS.out]; rfl)
                            go_wp2
                            go_quiet (fail)
                            go_wp2
                            go_quiet (fail)
                            go_wp2
                            go_quiet (fail)
                            go_wp2
                            go_quiet (fail)
                            go_wp2
                            go_roundw
                            case rel => exact ⟨i + 1, by omega, by go_num, by show _ = _; rw [hr.out, hd.out, HC.out]; rfl, ⟨hba.os, hba.tape, hba.output, hba.size, hba.block⟩⟩
                            case measure => simp [intOf]; omega
                        · have e4 := gah.lookB hs1 hhf
                          have HC := Lib.hid (show ckRef l (without l left) heads dead r = false from by unfold ckRef; rw [ha, hdf, hhf]; rfl)
                          go_wp2
                          go_quiet (fail)
                          go_wp2
                          go_quiet (fail)
                          go_wp2
                          go_quiet (fail)
                          go_wp2
                          go_quiet (fail)
                          go_wp2
                          go_roundw
                          case rel => exact ⟨i + 1, by omega, by go_num, by show _ = _; rw [hr.out, hd.out, HC.out]; rfl, ⟨hba.os, hba.tape, hba.output, hba.size, hba.block⟩⟩
                          case measure => simp [intOf]; omega
                      · have e3 := hgna.lookB hs1 hdf
                        cases hht : Rf.has heads r.to
                        · have e4 := gah.lookB hs2 hht
                          cases vt with
                          | none =>
                            have HC := Lib.hid (show ckRef l (without l left) heads dead r = false from by unfold ckRef; rw [ha, hdf, hht, HVT.out]; rfl)
                            go_wp2
                            go_quiet (fail)
                            go_wp2
                            go_quiet (fail)
                            go_wp2
                            go_quiet (fail)
                            go_wp2
                            go_quiet (fail)
                            go_wp2
                            go_roundw
                            case rel => exact ⟨i + 1, by omega, by go_num, by show _ = _; rw [hr.out, hd.out, HC.out]; rfl, ⟨hba.os, hba.tape, hba.output, hba.size, hba.block⟩⟩
                            case measure => simp [intOf]; omega
                          | some jt =>
                            cases hdt : Rf.has dead r.to
                            · have e5 := hgna.lookB hs2 hdt
                              have HC := Lib.hid (show ckRef l (without l left) heads dead r = true from by unfold ckRef; rw [ha, hdf, hht, hdt, HVT.out]; rfl)
                              go_wp2
                              go_quiet (fail)
                              go_wp2
                              go_quiet (fail)
                              go_wp2
                              go_quiet (fail)
                              go_wp2
                              have hfin := Lib.hid (check_refs HB.out HDD.out HV.out HH.out (show l.any (ckRef l (without l left) heads dead) = true from by rw [hr.out, hd.out, HC.out]; rfl))
                              have hbz := hb03.tr (hl8.tr hba)
                              go_ret
                              exact ⟨ret_i64 hfin.out.symm, ⟨hbz.os, hbz.tape, hbz.output, hbz.size, hbz.block⟩⟩
                            · have e5 := hgna.lookB hs2 hdt
                              have HC := Lib.hid (show ckRef l (without l left) heads dead r = false from by unfold ckRef; rw [ha, hdf, hht, hdt, HVT.out]; rfl)
                              go_wp2
                              go_quiet (fail)
                              go_wp2
                              go_quiet (fail)
                              go_wp2
                              go_quiet (fail)
                              go_wp2
                              go_quiet (fail)
                              go_wp2
                              go_roundw
                              case rel => exact ⟨i + 1, by omega, by go_num, by show _ = _; rw [hr.out, hd.out, HC.out]; rfl, ⟨hba.os, hba.tape, hba.output, hba.size, hba.block⟩⟩
                              case measure => simp [intOf]; omega
                        · have e4 := gah.lookB hs2 hht
                          have HC := Lib.hid (show ckRef l (without l left) heads dead r = true from by unfold ckRef; rw [ha, hdf, hht]; rfl)
                          go_wp2
                          go_quiet (fail)
                          go_wp2
                          go_quiet (fail)
                          go_wp2
                          go_quiet (fail)
                          go_wp2
                          have hfin := Lib.hid (check_refs HB.out HDD.out HV.out HH.out (show l.any (ckRef l (without l left) heads dead) = true from by rw [hr.out, hd.out, HC.out]; rfl))
                          have hbz := hb03.tr (hl8.tr hba)
                          go_ret
                          exact ⟨ret_i64 hfin.out.symm, ⟨hbz.os, hbz.tape, hbz.output, hbz.size, hbz.block⟩⟩
                    · rw [ha] at hba hga hga2 hgna hpa hd3
                      have HC := Lib.hid (show ckRef l (without l left) heads dead r = false from by unfold ckRef; rw [ha]; rfl)
                      clear hga hga2 hgna hpa
                      go_wp2
                      go_roundw
                      case rel => exact ⟨i + 1, by omega, by go_num, by show _ = _; rw [hr.out, hd.out, HC.out]; rfl, hba⟩
                      case measure => simp [intOf]; omega
                  · have HRF := Lib.hid (show l.any (ckRef l (without l left) heads dead) = false from by rw [hr.out, drop_len hl.1 hlt]; rfl)
                    clear hr
                    obtain ⟨wo, hwo⟩ : ∃ wo : World, wo = wr := ⟨_, rfl⟩
                    subst hwo
                    go_wp2
                    go_loopw [151] (fun ii wz => ∃ i : Nat, i ≤ m2 ∧ ii = .int .i64 i ∧ Hid (left.any (ckLeft l heads) = (left.drop i).any (ckLeft l heads)) ∧ Below w8.heap.size w8 wz) (fun ii _ => m2 - (intOf ii).toNat)
                    case atStart => exact ⟨0, by omega, rfl, rfl, hbl⟩
                    case round =>
                      obtain ⟨i5, hi5, rfl, hr5, hb5⟩ := hrel
                      have hb5w := hb03.tr (hl8.tr hb5)
                      by_cases hlt5 : i5 < m2
                      · obtain ⟨b, off, x, rfl, hx, hxok, hb0, hcx⟩ := (hlf.below hb5w).at_ hlt5
                        have hd := Lib.hid (any_drop' (p := ckLeft l heads) hx)
                        obtain ⟨hx0, hxn⟩ := HRG.out x (List.mem_of_getElem? hx)
                        obtain ⟨k, rfl⟩ : ∃ k : Nat, x = k := ⟨x.toNat, by omega⟩
                        have hkn : k < n := by omega
                        obtain ⟨b6, off6, r, rfl, hxr, hs1, hs2, hb6, hd1, hd2, hd3'⟩ := (hl.below hb5w).at_ hkn
                        have HCK := Lib.hid (show ckLeft l heads (k : Int) = (r.also && wrong l heads k r == eOK) from by unfold ckLeft; rw [Int.toNat_natCast, hxr])
                        have hwc := wrongP_any g _ n c hdb sb l heads k r wr (by omega) (hg8.below hb5) hxr
                        have hpa := (hb5.cell (p := ⟨pb, 0, none⟩) hpz).trans hp8
                        have hka := hbox wr (hl8.tr hb5)
                        obtain ⟨v, hv⟩ : ∃ v, wrong l heads k r = v := ⟨_, rfl⟩
                        rw [hv] at hwc
                        have HV2 := Lib.hid hv
                        clear hx hxr hb0 hb6 hv
                        cases ha : r.also
                        · rw [ha] at hd3'
                          clear hwc
                          go_wp2
                          go_roundw
                          case rel => exact ⟨i5 + 1, by omega, by go_num, by show _ = _; rw [hr5.out, hd.out, HCK.out, ha]; rfl, hb5⟩
                          case measure => simp [intOf]; omega
                        · rw [ha] at hd3'
                          by_cases hv0 : v = 0
                          · subst hv0
                            have hfin := Lib.hid (check_left HB.out HDD.out HV.out HH.out HRF.out (show left.any (ckLeft l heads) = true from by rw [hr5.out, hd.out, HCK.out, ha, HV2.out]; rfl))
                            go_wp2_with (go_at_call 113; refine hwc.mono ?_; rintro e w6 ⟨rfl, hbz⟩)
                            go_ret
                            exact ⟨ret_i64 hfin.out.symm, hb5w.tr hbz⟩
                          · have hv1 : (v == 0) = false := by simpa using hv0
                            have hv3 : decide (v = 0) = false := by simpa using hv0
                            go_wp2_with (go_at_call 113; refine hwc.mono ?_; rintro e w6 ⟨rfl, hbz⟩)
                            go_roundw
                            case rel => exact ⟨i5 + 1, by omega, by go_num, by show _ = _; rw [hr5.out, hd.out, HCK.out, HV2.out, show (v == eOK) = false from hv1, Bool.and_false, Bool.false_or], hb5.tr hbz⟩
                            case measure => simp [intOf]; omega
                      · have hfin := Lib.hid (check_left HB.out HDD.out HV.out HH.out HRF.out (show left.any (ckLeft l heads) = false from by rw [hr5.out, drop_len hlf.1 hlt5]; rfl))
                        go_wp2
                        go_ret
                        exact ⟨ret_i64 hfin.out.symm, hb5w⟩
              · have hfin := Lib.hid (check_heads HB.out HDD.out HV.out hdh)
                go_wp2_with (go_at_call 166; rw [HPB.out]; refine (containsHead_any _ _ _ _ _ _ _ _ _ _ _ _ _ _ (by omega) hg8 hp8 (hdd.below (hb03.tr hl8))).mono ?_; rintro e w' ⟨rfl, rfl⟩; rw [hdh])
                go_ret
                exact ⟨ret_i64 hfin.out.symm, hb03.tr hl8⟩
            · have hfin := Lib.hid (check_valid HB.out HDD.out HV.out hv0)
              have hv1 : (v == 0) = false := by simpa using hv0
              have hv3 : decide (v = 0) = false := by simpa using hv0
              have hv2 : (v != 0) = true := by simpa using hv0
              go_wp2
              go_ret
              exact ⟨ret_i64 hfin.out.symm, hb03.tr hl4⟩
      · have hfin := Lib.hid (check_arg (l := l) (heads := heads) (left := left) (.inr hb3))
        go_wp2_with (first
          | (go_at_call 162; refine (containsOutside_any _ _ _ _ _ _ _ _ _ (by omega) hm2 hx0 (hlf.below hbx)).mono ?_; rintro e w' ⟨rfl, rfl⟩; rw [hb1])
          | (go_at_call 163; refine (incInt_any _ _ _ _ _ hm2 (hlf.below hbx)).mono ?_; rintro e w2 ⟨rfl, hbi2⟩; rw [hb2])
          | (go_at_call 164; refine (incStr_any _ _ _ _ _ hm3 (hdd.below (hbx.tr hbi2))).mono ?_; rintro e w3 ⟨rfl, hbi3⟩; rw [hb3]))
        go_ret
        exact ⟨ret_i64 hfin.out.symm, hbx.tr (hbi2.tr hbi3)⟩
    · have hfin := Lib.hid (check_arg (l := l) (heads := heads) (dead := dead) (.inl (show badLeft l.length left none = true from by rw [HN.out, badLeft_none, hb1, hb2]; rfl)))
      go_wp2_with (first
        | (go_at_call 162; refine (containsOutside_any _ _ _ _ _ _ _ _ _ (by omega) hm2 hx0 (hlf.below hbx)).mono ?_; rintro e w' ⟨rfl, rfl⟩; rw [hb1])
        | (go_at_call 163; refine (incInt_any _ _ _ _ _ hm2 (hlf.below hbx)).mono ?_; rintro e w2 ⟨rfl, hbi2⟩; rw [hb2]))
      go_ret
      exact ⟨ret_i64 hfin.out.symm, hbx.tr hbi2⟩
  · have hfin := Lib.hid (check_arg (l := l) (heads := heads) (dead := dead) (.inl (show badLeft l.length left none = true from by rw [HN.out, badLeft_none, hb1]; rfl)))
    go_wp2_with (go_at_call 162; refine (containsOutside_any _ _ _ _ _ _ _ _ _ (by omega) hm2 hx0 (hlf.below hbx)).mono ?_; rintro e w' ⟨rfl, rfl⟩; rw [hb1])
    go_ret
    exact ⟨ret_i64 hfin.out.symm, hbx⟩
end Go.Proofs.YtdfnfimajhagfaaGreatDoor
