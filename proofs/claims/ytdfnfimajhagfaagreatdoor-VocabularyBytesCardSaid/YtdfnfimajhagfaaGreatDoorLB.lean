/- Walks: equality of bytes, texts, terms, vocabularies; the number at the beginning of an encoding. -/
import Derived.Test.YtdfnfimajhagfaaGreatDoorBC
import Derived.Test.YtdfnfimajhagfaaGreatDoorMD
import Derived.Test.YtdfnfimajhagfaaGreatDoorT13
namespace Go.Proofs.YtdfnfimajhagfaaGreatDoor
open Go.RowKit Go.Maps Rf
theorem byte_cells {w : World} {A : Option Addr} {l : List UInt8} (h : Rds w A (Lib.byteCells l)) {k : Nat} {x : UInt8} (hx : l[k]? = some x) :
    ∃ b off, A = some ⟨b, off, none⟩ ∧ b < w.heap.size ∧ w.cell? ⟨b, off + k, none⟩ = some (.int .u8 (x.toNat : Int)) := by
  have hl := (List.getElem?_eq_some_iff.1 hx).1
  obtain ⟨b, off, hA, hb, hc⟩ := h (by rw [Lib.byteCells_length]; omega)
  exact ⟨b, off, hA, hb, hc k _ (by unfold Lib.byteCells; rw [List.getElem?_map, hx]; rfl)⟩
set_option maxRecDepth 20000 in
set_option maxHeartbeats 1000000 in
theorem sameB_any (A B : Option Addr) (n c d : Nat) (l : List UInt8) (w : World) (hm : n ≤ 1000000000) (hn : l.length = n) (ha : Rds w A (Lib.byteCells l)) (hb : Rds w B (Lib.byteCells l)) :
    Calls Tryz.prog 52 #[.slice A n c, .slice B n d] w fun e w' => e = .returned (.bool true) ∧ Below w.heap.size w w' := by
  go_enter Tryz.func52, Tryz.ntmps52
  go_wp2
  go_loopw [5] (fun i wr => ∃ k : Nat, k ≤ n ∧ i = .int .i64 k ∧ Below w.heap.size w wr) (fun i _ => n - (intOf i).toNat)
  case atStart => exact ⟨0, by omega, rfl, brefl⟩
  case round =>
    obtain ⟨k, hk, rfl, hbl⟩ := hrel
    by_cases hlt : k < n
    · obtain ⟨x, hx⟩ : ∃ x, l[k]? = some x := ⟨_, List.getElem?_eq_getElem (by omega)⟩
      obtain ⟨b, off, rfl, hb0, c1⟩ := byte_cells (ha.below hbl) hx
      obtain ⟨b', off', rfl, hb0', c2⟩ := byte_cells (hb.below hbl) hx
      have hlt' : (k : Int) < n := by omega
      have hxx : ((x.toNat : Int) == (x.toNat : Int)) = true := beq_self_eq_true _
      clear hx
      go_wp2
      go_quiet (fail)
      go_wp2
      go_roundw
      case rel => exact ⟨k + 1, by omega, by go_num, hbl.drn _⟩
      case measure => simp [intOf]; omega
    · have hlt' : ¬ (k : Int) < n := by omega
      go_wp2
      go_ret
      exact ⟨rfl, hbl⟩
set_option maxRecDepth 20000 in
set_option maxHeartbeats 1000000 in
/-- SameTexts at whatever lists -/
theorem sameTextsD_any (A B : Option Addr) (n c m d : Nat) (xs ys : List S) (w : World) (hn : n ≤ 1000000) (hm : m ≤ 1000000) (ha : Strs w A n xs) (hb : Strs w B m ys) :
    Calls Tryz.prog 29 #[.slice A n c, .slice B m d] w fun e w' => e = .returned (.bool (decide (xs = ys))) ∧ Below w.heap.size w w' := by
  have l1 := ha.1
  have l2 := hb.1
  obtain ⟨v, hv⟩ : ∃ v, decide (xs = ys) = v := ⟨_, rfl⟩
  rw [hv]
  by_cases hnm : n = m
  · subst hnm
    have HV := Lib.hid hv
    clear hv
    go_enter Tryz.func29, Tryz.ntmps29
    go_wp2
    go_loopw [5] (fun i wr => ∃ k : Nat, k ≤ n ∧ i = .int .i64 k ∧ Hid (xs.take k = ys.take k) ∧ Below w.heap.size w wr) (fun i _ => n - (intOf i).toNat)
    case atStart => exact ⟨0, by omega, rfl, Lib.hid (by rw [List.take_zero, List.take_zero]), brefl⟩
    case round =>
      obtain ⟨k, hk, rfl, hI, hbl⟩ := hrel
      by_cases hlt : k < n
      · obtain ⟨b, off, x, rfl, hx, hxs, hb1, hc⟩ := (ha.below hbl).at_ hlt
        obtain ⟨b', off', y, rfl, hy, hys, hb1', hc'⟩ := (hb.below hbl).at_ hlt
        have hlt' : (k : Int) < n := by omega
        by_cases hxy : x = y
        · have hxx : (x.toList == y.toList) = true := (eqS_iff _ _).2 hxy
          have hI2 := Lib.hid (show xs.take (k + 1) = ys.take (k + 1) from by rw [Rf.take_snoc hx, Rf.take_snoc hy, hI.out, hxy])
          clear hx hy hxy hxs hb1 hys hb1'
          go_wp2
          go_quiet (fail)
          go_wp2
          go_roundw
          case rel => exact ⟨k + 1, by omega, by go_num, hI2, hbl.drn _⟩
          case measure => simp [intOf]; omega
        · have hxx : (x.toList == y.toList) = false := by
            cases h : (x.toList == y.toList)
            · rfl
            · exact absurd ((eqS_iff _ _).1 h) hxy
          have HF := Lib.hid (show v = false from by
            rw [← HV.out, decide_eq_false_iff_not]
            rintro rfl
            rw [hx] at hy
            exact hxy (Option.some.inj hy))
          clear hx hy hxy hxs hb1 hys hb1'
          go_wp2
          go_quiet (fail)
          go_wp2
          go_ret
          exact ⟨by rw [HF.out]; rfl, hbl.drn _⟩
      · have hlt' : ¬ (k : Int) < n := by omega
        have HF := Lib.hid (show v = true from by
          rw [← HV.out, decide_eq_true_iff]
          have h := hI.out
          rw [List.take_of_length_le (by omega), List.take_of_length_le (by omega)] at h
          exact h)
        go_wp2
        go_ret
        exact ⟨by rw [HF.out]; rfl, hbl⟩
  · obtain rfl : v = false := by
      rw [← hv, decide_eq_false_iff_not]; rintro rfl; omega
    have hnm' : ((n : Int) == (m : Int)) = false := by rw [beq_eq_false_iff_ne]; omega
    clear hv hnm
    go_enter Tryz.func29, Tryz.ntmps29
    go_wp2
    go_ret
    exact ⟨rfl, brefl⟩
set_option maxRecDepth 20000 in
set_option maxHeartbeats 2000000 in
theorem sameTermD_any (t u : Term) (A B : Option Addr) (n c m d : Nat) (w : World) (hn : n ≤ 100000) (hm : m ≤ 100000) (ha : Strs w A n t.broader) (hb : Strs w B m u.broader) :
    Calls Tryz.prog 79 #[.agg #[.string t.name, .int .i64 t.kind, .int .i64 t.lang, .string t.see, .slice A n c], .agg #[.string u.name, .int .i64 u.kind, .int .i64 u.lang, .string u.see, .slice B m d]] w fun e w' => e = .returned (.bool (decide (t = u))) ∧ Below w.heap.size w w' := by
  obtain ⟨nm, ki, la, se, br⟩ := t
  obtain ⟨nm', ki', la', se', br'⟩ := u
  dsimp only at ha hb ⊢
  have he : decide ((⟨nm, ki, la, se, br⟩ : Term) = ⟨nm', ki', la', se', br'⟩) = (eqS nm nm' && (ki == ki') && (la == la') && eqS se se' && decide (br = br')) := by
    rw [Bool.eq_iff_iff]
    simp only [decide_eq_true_iff, Bool.and_eq_true, beq_iff_eq, eqS_iff, Term.mk.injEq, and_assoc]
  rw [he]
  clear he
  have hb2 : Below w.heap.size w ((w.alloc (.cells #[.string nm, .int .i64 ki, .int .i64 la, .string se, .slice A n c] 33)).alloc (.cells #[.string nm', .int .i64 ki', .int .i64 la', .string se', .slice B m d] 33)) := (brefl.al _).al _
  cases h1 : eqS nm nm'
  · unfold eqS at h1
    go_enter Tryz.func79, Tryz.ntmps79
    go_wp2
    go_ret
    exact ⟨rfl, hb2⟩
  · unfold eqS at h1
    cases h2 : (ki == ki')
    · go_enter Tryz.func79, Tryz.ntmps79
      go_wp2
      go_ret
      exact ⟨rfl, hb2⟩
    · cases h3 : (la == la')
      · go_enter Tryz.func79, Tryz.ntmps79
        go_wp2
        go_ret
        exact ⟨rfl, hb2⟩
      · cases h4 : eqS se se'
        · unfold eqS at h4
          go_enter Tryz.func79, Tryz.ntmps79
          go_wp2
          go_ret
          exact ⟨rfl, hb2⟩
        · unfold eqS at h4
          go_enter Tryz.func79, Tryz.ntmps79
          go_wp2_with (go_at_call 29; go_loud (refine (sameTextsD_any A B n c m d br br' _ (by omega) (by omega) (ha.below hb2) (hb.below hb2)).mono ?_; rintro e w3 ⟨rfl, hb3⟩))
          go_ret
          exact ⟨rfl, hb2.tr hb3⟩
set_option maxRecDepth 20000 in
set_option maxHeartbeats 2000000 in
theorem same1_any (t u : Term) (A B : Option Addr) (n c m d : Nat) (w : World) (hn : n ≤ 100000) (hm : m ≤ 100000) (ha : Strs w A n t.broader) (hb : Strs w B m u.broader) :
    Calls Tryz.prog 109 #[.agg #[.string t.name, .int .i64 t.kind, .int .i64 t.lang, .string t.see, .slice A n c], .agg #[.string u.name, .int .i64 u.kind, .int .i64 u.lang, .string u.see, .slice B m d]] w fun e w' => e = .returned (.bool (decide (t = u))) ∧ Below w.heap.size w w' := by
  obtain ⟨nm, ki, la, se, br⟩ := t
  obtain ⟨nm', ki', la', se', br'⟩ := u
  dsimp only at ha hb ⊢
  have he : decide ((⟨nm, ki, la, se, br⟩ : Term) = ⟨nm', ki', la', se', br'⟩) = (eqS nm nm' && (ki == ki') && (la == la') && eqS se se' && decide (br = br')) := by
    rw [Bool.eq_iff_iff]
    simp only [decide_eq_true_iff, Bool.and_eq_true, beq_iff_eq, eqS_iff, Term.mk.injEq, and_assoc]
  rw [he]
  clear he
  have hb2 : Below w.heap.size w ((w.alloc (.cells #[.string nm, .int .i64 ki, .int .i64 la, .string se, .slice A n c] 33)).alloc (.cells #[.string nm', .int .i64 ki', .int .i64 la', .string se', .slice B m d] 33)) := (brefl.al _).al _
  cases h1 : eqS nm nm'
  · unfold eqS at h1
    go_enter Tryz.func109, Tryz.ntmps109
    go_wp2
    go_ret
    exact ⟨rfl, hb2⟩
  · unfold eqS at h1
    cases h2 : (ki == ki')
    · go_enter Tryz.func109, Tryz.ntmps109
      go_wp2
      go_ret
      exact ⟨rfl, hb2⟩
    · cases h3 : (la == la')
      · go_enter Tryz.func109, Tryz.ntmps109
        go_wp2
        go_ret
        exact ⟨rfl, hb2⟩
      · cases h4 : eqS se se'
        · unfold eqS at h4
          go_enter Tryz.func109, Tryz.ntmps109
          go_wp2
          go_ret
          exact ⟨rfl, hb2⟩
        · unfold eqS at h4
          go_enter Tryz.func109, Tryz.ntmps109
          go_wp2_with (go_at_call 86; go_loud (refine (equal_any A B n c m d br br' _ (by omega) (by omega) (ha.below hb2) (hb.below hb2)).mono ?_; rintro e w3 ⟨rfl, hb3⟩))
          go_ret
          exact ⟨rfl, hb2.tr hb3⟩
end Go.Proofs.YtdfnfimajhagfaaGreatDoor
/- Walks: equality of terms' lists, and the number at the beginning of an encoding. -/
namespace Go.Proofs.YtdfnfimajhagfaaGreatDoor
open Go.RowKit Go.Maps Rf
set_option maxRecDepth 20000 in
set_option maxHeartbeats 2000000 in
theorem eqfunc_any (A B : Option Addr) (n c m d : Nat) (ms ls : List TM) (w : World) (hn : n ≤ 100000) (hm : m ≤ 100000) (ha : Tms w A n ms) (hb : Tms w B m ls) :
    Calls Tryz.prog 108 #[.slice A n c, .slice B m d, .func (.func 109) #[] #[]] w fun e w' => e = .returned (.bool (decide (terms ms = terms ls))) ∧ Below w.heap.size w w' := by
  have l1 := terms_length ha
  have l2 := terms_length hb
  obtain ⟨v, hv⟩ : ∃ v, decide (terms ms = terms ls) = v := ⟨_, rfl⟩
  rw [hv]
  by_cases hnm : n = m
  · subst hnm
    have HV := Lib.hid hv
    clear hv
    go_enter Tryz.func108, Tryz.ntmps108
    go_wp2
    go_loopw [17] (fun i wr => ∃ k : Nat, k ≤ n ∧ i = .int .i64 k ∧ Hid ((terms ms).take k = (terms ls).take k) ∧ Below w.heap.size w wr) (fun i _ => n - (intOf i).toNat)
    case atStart => exact ⟨0, by omega, rfl, Lib.hid (by rw [List.take_zero, List.take_zero]), brefl⟩
    case round =>
      obtain ⟨k, hk, rfl, hI, hbl⟩ := hrel
      by_cases hlt : k < n
      · obtain ⟨b, off, x, rfl, hx, hxo, hb1, d1, d2, d3, d4, d5⟩ := (ha.below hbl).at_ hlt
        obtain ⟨b', off', y, rfl, hy, hyo, hb1', e1, e2, e3, e4, e5⟩ := (hb.below hbl).at_ hlt
        have hlt' : (k : Int) < n := by omega
        have hxf := hxo.few
        have hyf := hyo.few
        have hbw : Below wr.heap.size wr ((wr.alloc (.cells #[.string x.t.name, .int .i64 x.t.kind, .int .i64 x.t.lang, .string x.t.see, .slice x.A x.n x.c] 33)).alloc (.cells #[.string y.t.name, .int .i64 y.t.kind, .int .i64 y.t.lang, .string y.t.see, .slice y.A y.n y.c] 33)) := (brefl.al _).al _
        have hxb := hxo.br.below hbw
        have hyb := hyo.br.below hbw
        have hxt := terms_get hx
        have hyt := terms_get hy
        have hba : Below wr.heap.size wr (wr.alloc (.cells #[.string x.t.name, .int .i64 x.t.kind, .int .i64 x.t.lang, .string x.t.see, .slice x.A x.n x.c] 33)) := brefl.al _
        have z1 := (hba.cell (p := ⟨b', off' + k * 5, none⟩) hb1').trans e1
        have z2 := (hba.cell (p := ⟨b', off' + k * 5 + 1, none⟩) hb1').trans e2
        have z3 := (hba.cell (p := ⟨b', off' + k * 5 + 2, none⟩) hb1').trans e3
        have z4 := (hba.cell (p := ⟨b', off' + k * 5 + 3, none⟩) hb1').trans e4
        have z5 := (hba.cell (p := ⟨b', off' + k * 5 + 4, none⟩) hb1').trans e5
        clear e1 e2 e3 e4 e5 hba
        by_cases hxy : x.t = y.t
        · have hxx : decide (x.t = y.t) = true := decide_eq_true hxy
          have hI2 := Lib.hid (show (terms ms).take (k + 1) = (terms ls).take (k + 1) from by rw [Rf.take_snoc hxt, Rf.take_snoc hyt, hI.out, hxy])
          clear hx hy hxy hxt hyt hxo hyo hb1 hb1'
          go_wp2_with (go_at_call 109; go_loud (refine (same1_any x.t y.t x.A y.A x.n x.c y.n y.c _ (by omega) (by omega) hxb hyb).mono ?_; rintro e w3 ⟨he, hb3⟩; rw [hxx] at he; subst he))
          go_roundw
          case rel => exact ⟨k + 1, by omega, by go_num, hI2, hbl.tr (hbw.tr hb3)⟩
          case measure => simp [intOf]; omega
        · have hxx : decide (x.t = y.t) = false := decide_eq_false hxy
          have HF := Lib.hid (show v = false from by
            rw [← HV.out, decide_eq_false_iff_not]
            intro h
            rw [h, hyt] at hxt
            exact hxy (Option.some.inj hxt).symm)
          clear hx hy hxy hxt hyt hxo hyo hb1 hb1'
          go_wp2_with (go_at_call 109; go_loud (refine (same1_any x.t y.t x.A y.A x.n x.c y.n y.c _ (by omega) (by omega) hxb hyb).mono ?_; rintro e w3 ⟨he, hb3⟩; rw [hxx] at he; subst he))
          go_ret
          exact ⟨by rw [HF.out]; rfl, hbl.tr (hbw.tr hb3)⟩
      · have hlt' : ¬ (k : Int) < n := by omega
        have HF := Lib.hid (show v = true from by
          rw [← HV.out, decide_eq_true_iff]
          have h := hI.out
          rw [List.take_of_length_le (by omega), List.take_of_length_le (by omega)] at h
          exact h)
        go_wp2
        go_ret
        exact ⟨by rw [HF.out]; rfl, hbl⟩
  · obtain rfl : v = false := by
      rw [← hv, decide_eq_false_iff_not]; intro h; rw [h, l2] at l1; omega
    have hnm' : ((n : Int) == (m : Int)) = false := by rw [beq_eq_false_iff_ne]; omega
    clear hv hnm
    go_enter Tryz.func108, Tryz.ntmps108
    go_wp2
    go_ret
    exact ⟨rfl, brefl⟩
set_option maxRecDepth 20000 in
set_option maxHeartbeats 2000000 in
theorem wsame_any (A B : Option Addr) (n c m d : Nat) (ms ls : List TM) (w : World) (hn : n ≤ 100000) (hm : m ≤ 100000) (ha : Tms w A n ms) (hb : Tms w B m ls) :
    Calls Tryz.prog 55 #[.slice A n c, .slice B m d] w fun e w' => e = .returned (.bool (decide (terms ms = terms ls))) ∧ Below w.heap.size w w' := by
  go_enter Tryz.func55, Tryz.ntmps55
  go_wp2_with (go_at_call 108; go_loud (refine (eqfunc_any A B n c m d ms ls _ hn hm ha hb).mono ?_; rintro e w3 ⟨rfl, hb3⟩))
  go_ret
  exact ⟨rfl, hb3⟩
set_option maxRecDepth 20000 in
set_option maxHeartbeats 4000000 in
theorem rsameD_any (A B : Option Addr) (n c m d : Nat) (ms ls : List TM) (w : World) (hn : n ≤ 100000) (hm : m ≤ 100000) (ha : Tms w A n ms) (hb : Tms w B m ls) :
    Calls Tryz.prog 19 #[.slice A n c, .slice B m d] w fun e w' => e = .returned (.bool (decide (terms ms = terms ls))) ∧ Below w.heap.size w w' := by
  have l1 := terms_length ha
  have l2 := terms_length hb
  obtain ⟨v, hv⟩ : ∃ v, decide (terms ms = terms ls) = v := ⟨_, rfl⟩
  rw [hv]
  by_cases hnm : n = m
  · subst hnm
    have HV := Lib.hid hv
    clear hv
    go_enter Tryz.func19, Tryz.ntmps19
    go_wp2
    go_loopw [5] (fun i wr => ∃ k : Nat, k ≤ n ∧ i = .int .i64 k ∧ Hid ((terms ms).take k = (terms ls).take k) ∧ Below w.heap.size w wr) (fun i _ => n - (intOf i).toNat)
    case atStart => exact ⟨0, by omega, rfl, Lib.hid (by rw [List.take_zero, List.take_zero]), brefl⟩
    case round =>
      obtain ⟨k, hk, rfl, hI, hbl⟩ := hrel
      by_cases hlt : k < n
      · obtain ⟨b, off, x, rfl, hx, hxo, hb0, c0, c1, c2, c3, c4⟩ := (ha.below hbl).at_ hlt
        obtain ⟨b', off', y, rfl, hy, hyo, hb0', e0, e1, e2, e3, e4⟩ := (hb.below hbl).at_ hlt
        have hlt' : (k : Int) < n := by omega
        have hxf := hxo.few
        have hyf := hyo.few
        have hxb := hxo.br
        have hyb := hyo.br
        have HX := Lib.hid (terms_get hx)
        have HY := Lib.hid (terms_get hy)
        obtain ⟨u, hxx⟩ : ∃ u, decide (x.t = y.t) = u := ⟨_, rfl⟩
        have HU := Lib.hid hxx
        have hcells : ∀ wz, Below wr.heap.size wr wz → (wz.cell? ⟨b, off + k * 5, none⟩ = some (.string x.t.name) ∧ wz.cell? ⟨b, off + k * 5 + 1, none⟩ = some (.int .i64 x.t.kind) ∧ wz.cell? ⟨b, off + k * 5 + 2, none⟩ = some (.int .i64 x.t.lang) ∧ wz.cell? ⟨b, off + k * 5 + 3, none⟩ = some (.string x.t.see) ∧ wz.cell? ⟨b, off + k * 5 + 4, none⟩ = some (.slice x.A x.n x.c)) ∧
            wz.cell? ⟨b', off' + k * 5, none⟩ = some (.string y.t.name) ∧ wz.cell? ⟨b', off' + k * 5 + 1, none⟩ = some (.int .i64 y.t.kind) ∧ wz.cell? ⟨b', off' + k * 5 + 2, none⟩ = some (.int .i64 y.t.lang) ∧ wz.cell? ⟨b', off' + k * 5 + 3, none⟩ = some (.string y.t.see) ∧ wz.cell? ⟨b', off' + k * 5 + 4, none⟩ = some (.slice y.A y.n y.c) := fun wz hz =>
          ⟨⟨(hz.cell (p := ⟨b, off + k * 5, none⟩) hb0).trans c0, (hz.cell (p := ⟨b, off + k * 5 + 1, none⟩) hb0).trans c1, (hz.cell (p := ⟨b, off + k * 5 + 2, none⟩) hb0).trans c2, (hz.cell (p := ⟨b, off + k * 5 + 3, none⟩) hb0).trans c3, (hz.cell (p := ⟨b, off + k * 5 + 4, none⟩) hb0).trans c4⟩,
            (hz.cell (p := ⟨b', off' + k * 5, none⟩) hb0').trans e0, (hz.cell (p := ⟨b', off' + k * 5 + 1, none⟩) hb0').trans e1, (hz.cell (p := ⟨b', off' + k * 5 + 2, none⟩) hb0').trans e2, (hz.cell (p := ⟨b', off' + k * 5 + 3, none⟩) hb0').trans e3, (hz.cell (p := ⟨b', off' + k * 5 + 4, none⟩) hb0').trans e4⟩
        have hbc : Below wr.heap.size wr wr.drew := brefl.drn 1
        have hS := hcells _ hbc
        clear c0 c1 c2 c3 c4 e0 e1 e2 e3 e4 hx hy hxo hyo
        go_wp2
        refine wp_region_mix [(true, 0), (true, 1), (true, 2), (true, 3), (true, 4), (true, 5), (true, 6), (true, 7), (false, 8), (true, 9)] 10 (fun wz => (wz.cell? ⟨b, off + k * 5, none⟩ = some (.string x.t.name) ∧ wz.cell? ⟨b, off + k * 5 + 1, none⟩ = some (.int .i64 x.t.kind) ∧ wz.cell? ⟨b, off + k * 5 + 2, none⟩ = some (.int .i64 x.t.lang) ∧ wz.cell? ⟨b, off + k * 5 + 3, none⟩ = some (.string x.t.see) ∧ wz.cell? ⟨b, off + k * 5 + 4, none⟩ = some (.slice x.A x.n x.c)) ∧ wz.cell? ⟨b', off' + k * 5, none⟩ = some (.string y.t.name) ∧ wz.cell? ⟨b', off' + k * 5 + 1, none⟩ = some (.int .i64 y.t.kind) ∧ wz.cell? ⟨b', off' + k * 5 + 2, none⟩ = some (.int .i64 y.t.lang) ∧ wz.cell? ⟨b', off' + k * 5 + 3, none⟩ = some (.string y.t.see) ∧ wz.cell? ⟨b', off' + k * 5 + 4, none⟩ = some (.slice y.A y.n y.c)) (by kernel_rfl) (by kernel_rfl) ?_
        refine wpMix_put (v := ?_) rfl rfl (Or.inl ⟨by rfl, fun wz hz => ?_⟩) hS ?_
        rotate_left
        (focus (go_simp; try (with_reducible rfl)))
        simp only [List.setIfInBounds_toArray, List.set_cons_succ, List.set_cons_zero]
        refine wpMix_put (v := ?_) rfl rfl (Or.inl ⟨by rfl, fun wz hz => ?_⟩) hS ?_
        rotate_left
        (focus (go_simp; try (with_reducible rfl)))
        simp only [List.setIfInBounds_toArray, List.set_cons_succ, List.set_cons_zero]
        refine wpMix_put (v := ?_) rfl rfl (Or.inl ⟨by rfl, fun wz hz => ?_⟩) hS ?_
        rotate_left
        (focus (go_simp; try (with_reducible rfl)))
        simp only [List.setIfInBounds_toArray, List.set_cons_succ, List.set_cons_zero]
        refine wpMix_put (v := ?_) rfl rfl (Or.inl ⟨by rfl, fun wz hz => ?_⟩) hS ?_
        rotate_left
        (focus (go_simp; try (with_reducible rfl)))
        simp only [List.setIfInBounds_toArray, List.set_cons_succ, List.set_cons_zero]
        refine wpMix_put (v := ?_) rfl rfl (Or.inl ⟨by rfl, fun wz hz => ?_⟩) hS ?_
        rotate_left
        (focus (go_simp; try (with_reducible rfl)))
        simp only [List.setIfInBounds_toArray, List.set_cons_succ, List.set_cons_zero]
        refine wpMix_put (v := ?_) rfl rfl (Or.inl ⟨by rfl, fun wz hz => ?_⟩) hS ?_
        rotate_left
        (focus (go_simp; try (with_reducible rfl)))
        simp only [List.setIfInBounds_toArray, List.set_cons_succ, List.set_cons_zero]
        refine wpMix_put (v := ?_) rfl rfl (Or.inl ⟨by rfl, fun wz hz => ?_⟩) hS ?_
        rotate_left
        (focus (go_simp; try (with_reducible rfl)))
        simp only [List.setIfInBounds_toArray, List.set_cons_succ, List.set_cons_zero]
        refine wpMix_put (v := ?_) rfl rfl (Or.inl ⟨by rfl, fun wz hz => ?_⟩) hS ?_
        rotate_left
        (focus (go_simp; try (with_reducible rfl)))
        simp only [List.setIfInBounds_toArray, List.set_cons_succ, List.set_cons_zero]
        refine wpMix_step rfl (fun K hK => ?_)
        go_simp
        refine (sameTermD_any x.t y.t x.A y.A x.n x.c y.n y.c _ (by omega) (by omega) (hxb.below hbc) (hyb.below hbc)).mono ?_
        rintro e w5 ⟨he, hbd⟩
        rw [hxx] at he
        subst he
        go_simp
        have hbc' := hbc.tr hbd
        clear hbc hbd
        have hbc := hbc'
        clear hbc'
        have hS7 := hcells _ hbc
        refine hK _ _ (fun _ => hS7) ?_
        clear hK K hS
        have hS := hS7
        clear hS7
        refine wpMix_put (v := ?_) rfl rfl (Or.inl ⟨by rfl, fun wz hz => ?_⟩) hS ?_
        rotate_left
        (focus (go_simp; try (with_reducible rfl)))
        simp only [List.setIfInBounds_toArray, List.set_cons_succ, List.set_cons_zero]
        refine wpMix_nil ?_
        clear hxx
        cases u
        · have HF := Lib.hid (show v = false from by
            rw [← HV.out, decide_eq_false_iff_not]
            intro h
            have h1 := HX.out
            rw [h, HY.out] at h1
            exact of_decide_eq_false HU.out (Option.some.inj h1).symm)
          go_wp2
          go_ret
          exact ⟨by rw [HF.out]; rfl, hbl.tr hbc⟩
        · have hI2 := Lib.hid (show (terms ms).take (k + 1) = (terms ls).take (k + 1) from by rw [Rf.take_snoc HX.out, Rf.take_snoc HY.out, hI.out, of_decide_eq_true HU.out])
          go_wp2
          go_roundw
          case rel => exact ⟨k + 1, by omega, by go_num, hI2, hbl.tr hbc⟩
          case measure => simp [intOf]; omega
      · have hlt' : ¬ (k : Int) < n := by omega
        have HF := Lib.hid (show v = true from by
          rw [← HV.out, decide_eq_true_iff]
          have h := hI.out
          rw [List.take_of_length_le (by omega), List.take_of_length_le (by omega)] at h
          exact h)
        go_wp2
        go_ret
        exact ⟨by rw [HF.out]; rfl, hbl⟩
  · obtain rfl : v = false := by
      rw [← hv, decide_eq_false_iff_not]; intro h; rw [h, l2] at l1; omega
    have hnm' : ((n : Int) == (m : Int)) = false := by rw [beq_eq_false_iff_ne]; omega
    clear hv hnm
    go_enter Tryz.func19, Tryz.ntmps19
    go_wp2
    go_ret
    exact ⟨rfl, brefl⟩
end Go.Proofs.YtdfnfimajhagfaaGreatDoor
/- Walk: the number at the beginning of an encoding. -/
namespace Rf
theorem enc_nat (m : Nat) : enc (m : Int) = UInt8.ofNat (128 + (le m).length) :: (le m).reverse := by rw [enc_pos (by omega), Int.toNat_natCast]
theorem or_low (a b : Nat) (hb : b < 256) : a * 256 ||| b = a * 256 + b := by
  have := Nat.shiftLeft_add_eq_or_of_lt (b := b) (i := 8) hb a
  rw [Nat.shiftLeft_eq] at this
  exact this.symm
end Rf
namespace Go.Proofs.YtdfnfimajhagfaaGreatDoor
open Go.RowKit Go.Maps Rf
theorem or_u64 (a b : Nat) (ha : a ≤ 100000) (hb : b < 256) : bits BinOp.or IntKind.u64 ((a : Int) * 256) (b : Int) = ((a * 256 + b : Nat) : Int) := by
  have h := u64_or_nat (a * 256) b (by omega) (by omega)
  rw [or_low a b hb] at h
  rw [← h, Int.natCast_mul]; rfl
set_option maxRecDepth 100000 in
set_option maxHeartbeats 2000000 in
theorem getint_any (A : Option Addr) (n c m : Nat) (rest : List UInt8) (w : World) (hm : m ≤ 60000) (hn : n ≤ 1000000000) (hc : n ≤ c) (hln : (enc (m : Int) ++ rest).length = n) (hl : Rds w A (Lib.byteCells (enc (m : Int) ++ rest))) :
    Calls Tryz.prog 54 #[.slice A n c] w fun e w' => (∃ z : Int, e = .returned (.tuple #[.int .i64 m, .int .i64 z, .int .i64 0])) ∧ Below w.heap.size w w' := by
  have hk8 := le_zero_iff.1 (show m / 256 ^ 2 = 0 from Nat.div_eq_of_lt (by omega))
  obtain ⟨k, hk⟩ : ∃ k, (le m).length = k := ⟨_, rfl⟩
  have hget : ∀ j, j < k → (enc (m : Int) ++ rest)[j + 1]? = some (UInt8.ofNat (m / 256 ^ (k - 1 - j))) := fun j hj => by
    rw [enc_nat, List.cons_append, List.getElem?_cons_succ, List.getElem?_append_left (by rw [List.length_reverse, hk]; exact hj), List.getElem?_reverse (by omega), hk, le_get m m rfl _ (by omega)]
  have h0 : (enc (m : Int) ++ rest)[0]? = some (UInt8.ofNat (128 + k)) := by rw [enc_nat, hk]; rfl
  have hkn : k + 1 ≤ n := by rw [← hln, enc_nat, List.length_append, List.length_cons, List.length_reverse, hk]; omega
  rw [hk] at hk8
  obtain ⟨b, off, rfl, hb0, c0⟩ := byte_cells hl h0
  have hc0 : w.cell? ⟨b, off, none⟩ = some (.int .u8 (128 + (k : Int))) := by
    have := c0
    rw [Nat.add_zero, UInt8.toNat_ofNat', Nat.mod_eq_of_lt (by omega)] at this
    rw [this]; congr 2
  have hcj : ∀ j, j < k → w.cell? ⟨b, off + 1 + j, none⟩ = some (.int .u8 ((m / 256 ^ (k - 1 - j) % 256 : Nat) : Int)) := fun j hj => by
    obtain ⟨b', off', e, _, h⟩ := byte_cells hl (hget j hj)
    injection e with e
    injection e with e1 e2
    subst e1
    subst e2
    rw [UInt8.toNat_ofNat'] at h
    rw [show off + 1 + j = off + (j + 1) from by omega]
    exact h
  have HCJ := Lib.hid hcj
  have HL := Lib.hid hk
  have hbx : bits BinOp.xor IntKind.u8 (128 + (k : Int)) 0 = 128 + k := xor_zero (by omega) (by omega)
  have hk1 : ¬ (128 + (k : Int)) < 128 := by omega
  have hkk : 128 + (k : Int) - 128 = k := by omega
  have hk2 : ¬ (8 : Int) < k := by omega
  have hk3 : ¬ (n : Int) ≤ k := by omega
  have hnz : ((n : Int) == 0) = false := by rw [beq_eq_false_iff_ne]; omega
  have hmi : (m : Int) ≤ 60000 := by omega
  clear hcj hget h0 c0 hl
  obtain hk0 | hk0 := Nat.eq_zero_or_pos k
  · have hk4 : ¬ (0 : Int) < (k : Int) := by omega
    have HK0 := Lib.hid hk0
    clear hk0
    by_cases hc1 : c = 1
    · subst hc1
      go_enter Tryz.func54, Tryz.ntmps54
      go_wp2
      go_loopw [7, 48] (fun t7 t48 wr => ∃ j x : Nat, j ≤ k ∧ t48 = .int .i64 j ∧ t7 = .int .u64 x ∧ x ≤ 60000 ∧ Hid (x = m / 256 ^ (k - j)) ∧ Below w.heap.size w wr) (fun _ t48 _ => k - (intOf t48).toNat)
      case atStart =>
        refine ⟨0, 0, Nat.zero_le _, rfl, rfl, by omega, Lib.hid ?_, brefl⟩
        exact (le_zero_iff.2 (Nat.le_of_eq HL.out)).symm
      case round =>
        obtain ⟨j, x, hj, rfl, rfl, hx, hX, hb⟩ := hrel
        by_cases hlt : j < k
        · exact absurd hlt (by have := HK0.out; omega)
        · have hjk : j = k := by omega
          subst hjk
          have hlt' : ¬ (j : Int) < j := by omega
          obtain rfl : x = m := by have := hX.out; rw [Nat.sub_self, Nat.pow_zero, Nat.div_one] at this; exact this
          have hms : ¬ (0 : Int) < (x : Int) / 9223372036854775808 := by omega
          go_wp2
          go_ret3
          exact ⟨⟨_, rfl⟩, hb⟩
    · go_enter Tryz.func54, Tryz.ntmps54
      go_wp2
      go_loopw [7, 48] (fun t7 t48 wr => ∃ j x : Nat, j ≤ k ∧ t48 = .int .i64 j ∧ t7 = .int .u64 x ∧ x ≤ 60000 ∧ Hid (x = m / 256 ^ (k - j)) ∧ Below w.heap.size w wr) (fun _ t48 _ => k - (intOf t48).toNat)
      case atStart =>
        refine ⟨0, 0, Nat.zero_le _, rfl, rfl, by omega, Lib.hid ?_, brefl⟩
        exact (le_zero_iff.2 (Nat.le_of_eq HL.out)).symm
      case round =>
        obtain ⟨j, x, hj, rfl, rfl, hx, hX, hb⟩ := hrel
        by_cases hlt : j < k
        · exact absurd hlt (by have := HK0.out; omega)
        · have hjk : j = k := by omega
          subst hjk
          have hlt' : ¬ (j : Int) < j := by omega
          obtain rfl : x = m := by have := hX.out; rw [Nat.sub_self, Nat.pow_zero, Nat.div_one] at this; exact this
          have hms : ¬ (0 : Int) < (x : Int) / 9223372036854775808 := by omega
          go_wp2
          go_ret3
          exact ⟨⟨_, rfl⟩, hb⟩
  · have hk4 : (0 : Int) < (k : Int) := by omega
    have hcd := HCJ.out 0 hk0
    rw [Nat.add_zero, Nat.sub_zero] at hcd
    obtain ⟨y, hy⟩ : ∃ y, m / 256 ^ (k - 1) = y := ⟨_, rfl⟩
    rw [hy] at hcd
    have hy0 : ¬ y = 0 := fun e => by rw [e] at hy; have := le_zero_iff.1 hy; rw [HL.out] at this; omega
    have hy1 : y / 256 = 0 := by
      rw [← hy, Nat.div_div_eq_div_mul, ← Nat.pow_succ, show (k - 1).succ = k from by omega]
      exact le_zero_iff.2 (Nat.le_of_eq HL.out)
    have hy2 : y % 256 = y := by omega
    rw [hy2] at hcd
    have hy3 : y < 256 := by omega
    have hbd : bits BinOp.xor IntKind.u8 (y : Int) 0 = y := xor_zero (by omega) (by omega)
    have hyn : ((y : Int) == 0) = false := by rw [beq_eq_false_iff_ne]; omega
    have hk1n : (1 : Int) < n := by omega
    clear hy hy0 hy1 hy2 hk0
    go_enter Tryz.func54, Tryz.ntmps54
    go_wp2
    go_loopw [7, 48] (fun t7 t48 wr => ∃ j x : Nat, j ≤ k ∧ t48 = .int .i64 j ∧ t7 = .int .u64 x ∧ x ≤ 60000 ∧ Hid (x = m / 256 ^ (k - j)) ∧ Below w.heap.size w wr) (fun _ t48 _ => k - (intOf t48).toNat)
    case atStart =>
      refine ⟨0, 0, Nat.zero_le _, rfl, rfl, by omega, Lib.hid ?_, brefl⟩
      exact (le_zero_iff.2 (Nat.le_of_eq HL.out)).symm
    case round =>
      obtain ⟨j, x, hj, rfl, rfl, hx, hX, hb⟩ := hrel
      by_cases hlt : j < k
      · have hlt' : (j : Int) < k := by omega
        have hcd := (hb.cell (p := ⟨b, off + 1 + j, none⟩) hb0).trans (HCJ.out j hlt)
        obtain ⟨y, hy⟩ : ∃ y, m / 256 ^ (k - 1 - j) = y := ⟨_, rfl⟩
        rw [hy] at hcd
        have hym : y ≤ m := by rw [← hy]; exact Nat.div_le_self _ _
        have hxy : x = y / 256 := by
          rw [hX.out, ← hy, Nat.div_div_eq_div_mul, ← Nat.pow_succ]
          congr 2; omega
        obtain ⟨d, hd⟩ : ∃ d, y % 256 = d := ⟨_, rfl⟩
        rw [hd] at hcd
        have hd256 : d < 256 := by omega
        have hyd : y = x * 256 + d := by omega
        have hbd : bits BinOp.xor IntKind.u8 (d : Int) 0 = d := xor_zero (by omega) (by omega)
        have hor := or_u64 x d (by omega) hd256
        rw [← hyd] at hor
        have hx2 : (x : Int) * 256 ≤ 60000 := by omega
        have HY := Lib.hid (show y = m / 256 ^ (k - (j + 1)) from by rw [← hy]; congr 2; omega)
        have hdi : (d : Int) < 256 := by omega
        clear hxy hyd hd hy
        go_wp2
        go_roundw
        case rel => exact ⟨j + 1, y, by omega, by go_num, rfl, by omega, HY, hb⟩
        case measure => simp [intOf]; omega
      · have hjk : j = k := by omega
        subst hjk
        have hlt' : ¬ (j : Int) < j := by omega
        obtain rfl : x = m := by have := hX.out; rw [Nat.sub_self, Nat.pow_zero, Nat.div_one] at this; exact this
        have hms : ¬ (0 : Int) < (x : Int) / 9223372036854775808 := by omega
        go_wp2
        go_ret3
        exact ⟨⟨_, rfl⟩, hb⟩
end Go.Proofs.YtdfnfimajhagfaaGreatDoor
/- The five lists of the law VocabularyBytes; bytes to text. -/
namespace Go.Proofs.YtdfnfimajhagfaaGreatDoor
open Go.RowKit Go.Maps Rf
/-- a slice of terms, as a value -/
structure VX where
  A : Option Addr
  n : Nat
  c : Nat
  ms : List TM
def VX.val (x : VX) : Value := .slice x.A x.n x.c
structure VX.ok (w : World) (x : VX) : Prop where
  cap : x.n ≤ x.c
  few : x.n ≤ 500
  tms : Tms w x.A x.n x.ms
  sm : ∀ m ∈ x.ms, m.small
theorem VX.ok.below {w w' : World} {x : VX} (h : x.ok w) (hb : Below w.heap.size w w') : x.ok w' := ⟨h.cap, h.few, h.tms.below hb, h.sm⟩
theorem vocsT : AppT Tryz.prog 23 28 1 24 := AppT.mk Tryz.underlying23 (z := .slice none 0 0) (by kernel_rfl) rfl (by omega)
def OnlySlices (w : World) (b : Nat) : Prop := ∀ j v, w.cell? ⟨b, j, none⟩ = some v → ∃ A n c, v = .slice A n c
theorem OnlySlices.below {w w' : World} {b : Nat} (h : OnlySlices w b) (hlt : b < w.heap.size) (hb : Below w.heap.size w w') : OnlySlices w' b := fun j v hv => h j v ((hb.cell (p := ⟨b, j, none⟩) hlt).symm.trans hv)
theorem OnlySlices.new (w : World) {xs : List VX} (t : TypeId) : OnlySlices (w.alloc (.cells (xs.map VX.val).toArray t)) w.heap.size := fun j v hv => by
  rw [cell_of_row _ _ j _ t (0, 0) (heap_alloc_new w _), List.getElem?_toArray, List.getElem?_map] at hv
  cases hx : xs[j]? with
  | none => rw [hx] at hv; cases hv
  | some x => rw [hx] at hv; injection hv with hv; exact ⟨x.A, x.n, x.c, hv.symm⟩
theorem Rds.apart {w w' : World} {A : Option Addr} {vs : List Value} {b : Nat} (h : Rds w A vs) (hg : w.grownBy w' (some b)) (ho : OnlySlices w b) (hs : ∀ v, vs[0]? = some v → ∃ s, v = .string s) : Rds w' A vs := fun hl => by
  refine (h.grown hg (fun q off e he => ?_)) hl
  injection he with he
  subst he
  obtain ⟨b', off', e', _, hc⟩ := h hl
  rw [e] at e'
  injection e' with e'
  injection e' with e1 e2
  subst e1
  obtain ⟨v, hv⟩ : ∃ v, vs[0]? = some v := ⟨_, List.getElem?_eq_getElem hl⟩
  obtain ⟨s, rfl⟩ := hs v hv
  obtain ⟨_, _, _, h9⟩ := ho _ _ (hc 0 _ hv)
  cases h9
theorem Strs.apart {w w' : World} {A : Option Addr} {n : Nat} {l : List S} {b : Nat} (h : Strs w A n l) (hg : w.grownBy w' (some b)) (ho : OnlySlices w b) : Strs w' A n l :=
  ⟨h.1, h.2.1, h.2.2.apart hg ho (fun v hv => by
    rw [List.getElem?_map] at hv
    cases hl : l[0]? with
    | none => rw [hl] at hv; cases hv
    | some s => rw [hl] at hv; injection hv with hv; exact ⟨s, hv.symm⟩)⟩
theorem Tms.apart {w w' : World} {A : Option Addr} {n : Nat} {ms : List TM} {b : Nat} (h : Tms w A n ms) (hg : w.grownBy w' (some b)) (ho : OnlySlices w b) : Tms w' A n ms :=
  ⟨h.1, fun m hm => by
    have k := h.2.1 m hm
    exact ⟨k.nm, k.se, k.ki, k.la, k.cap, k.few, k.br.apart hg ho⟩, h.2.2.apart hg ho (fun v hv => by
    cases ms with
    | nil => cases hv
    | cons m l => simp [tmsCells, TM.cells] at hv; exact ⟨_, hv.symm⟩)⟩
set_option maxRecDepth 20000 in
set_option maxHeartbeats 2000000 in
theorem listsO_any (A : Option Addr) (n c : Nat) (l : List Int) (how bys : Int) (w : World) (hl : Ints w A n l) (hh : i64ok how) (hb : i64ok bys) :
    Calls Tryz.prog 11 #[.slice A n c, .int .i64 how, .int .i64 bys] w fun e w' => ∃ (b : Nat) (xs : List VX), e = .returned (.slice (some ⟨b, 0, none⟩) 4 4) ∧ Own w' w.heap.size 28 1 (.slice (some ⟨b, 0, none⟩) 4 4) 4 (xs.map VX.val) ∧ OnlySlices w' b ∧ (∀ x ∈ xs, x.ok w') ∧ xs.length = 4 ∧ Below w.heap.size w w' := by
  go_enter Tryz.func11, Tryz.ntmps11
  go_wp2_with (first
    | (go_at_call 42; go_loud (refine (terms_any _ _ _ _ _ hl).mono ?_; rintro e w1 ⟨A1, k1, c1, ms1, rfl, hc1, h81, ht1, hmade, hb1⟩; have hsm := hmade.small; have hfw := hmade.few ht1))
    | (go_at_call 57; (with_reducible refine (spoilt_any A1 k1 c1 ms1 how bys 8 _ ?_ ?_ ht1 hsm hfw hh hb).mono ?_); (focus omega); (focus omega); rintro e w2 ⟨A2, n2, c2, ms2, rfl, hc2, hn2, ht2, hs2, hf2, hb2⟩)
    | (go_at_call 57; go_loud ((with_reducible refine (spoilt_any A2 n2 c2 ms2 bys how 9 _ ?_ ?_ ht2 hs2 hf2 hb hh).mono ?_); (focus omega); (focus omega); rintro e w3 ⟨A3, n3, c3, ms3, rfl, hc3, hn3, ht3, hs3, hf3, hb3⟩)))
  go_ret
  have hw3 : w.heap.size ≤ w3.heap.size := ((hb1.tr hb2).tr hb3).size
  refine ⟨w3.heap.size, [⟨A1, k1, c1, ms1⟩, ⟨A2, n2, c2, ms2⟩, ⟨A3, n3, c3, ms3⟩, ⟨none, 0, 0, []⟩], rfl, Own.made w3 [.slice A1 k1 c1, .slice A2 n2 c2, .slice A3 n3 c3, .slice none 0 0] _ hw3 rfl (by decide), OnlySlices.new w3 (xs := [⟨A1, k1, c1, ms1⟩, ⟨A2, n2, c2, ms2⟩, ⟨A3, n3, c3, ms3⟩, ⟨none, 0, 0, []⟩]) _, ?_, rfl, ((hb1.tr hb2).tr hb3).al _⟩
  have hA : Below w3.heap.size w3 (w3.alloc (.cells #[.slice A1 k1 c1, .slice A2 n2 c2, .slice A3 n3 c3, .slice none 0 0] 28)) := brefl.al _
  intro x hx
  simp only [List.mem_cons, List.not_mem_nil, or_false] at hx
  rcases hx with rfl | rfl | rfl | rfl
  · exact ⟨hc1, by dsimp only; omega, ht1.below ((hb2.tr hb3).tr hA), hsm⟩
  · exact ⟨hc2, by dsimp only; omega, ht2.below (hb3.tr hA), hs2⟩
  · exact ⟨hc3, by dsimp only; omega, ht3.below hA, hs3⟩
  · exact ⟨Nat.le_refl _, Nat.zero_le _, Tms.nil _, fun m hm => by cases hm⟩
/-- bytes as a text -/
theorem conv_rds {w : World} {A : Option Addr} {n cap : Nat} {l : List UInt8} (h : Rds w A (Lib.byteCells l)) (hn : l.length = n) (h0 : 0 < n) : (convert 70 9 (.slice A n cap)).run Tryz.prog w = .ok (.string (ofB l)) w := by
  subst hn
  obtain ⟨b, off, rfl, _, hc⟩ := h (by rw [Lib.byteCells_length]; exact h0)
  refine run_convert_bytes_back w 70 9 5 ⟨b, off, none⟩ cap l Tryz.underlying70 Tryz.underlying5 Tryz.underlying9 (fun j hj => ?_)
  rw [addr_add]
  exact hc j _ (by unfold Lib.byteCells; rw [List.getElem?_map, List.getElem?_eq_getElem hj]; rfl)
theorem te_all {w : World} {A : Option Addr} {n : Nat} {ms : List TM} (h : Tms w A n ms) (hs : ∀ m ∈ ms, m.small) : ∀ t ∈ terms ms, TE t := by
  intro t ht
  obtain ⟨m, hm, rfl⟩ := List.mem_map.1 ht
  have k := h.2.1 m hm
  have s := hs m hm
  have h1 := s.nm
  have h2 := s.se
  have h3 := k.few
  have h4 := k.br.1
  exact ⟨k.ki, k.la, by omega, by omega, fun x hx => Nat.le_trans (s.br x hx) (by omega), by omega⟩
theorem encV_len {w : World} {A : Option Addr} {n : Nat} {ms : List TM} (h : Tms w A n ms) (hs : ∀ m ∈ ms, m.small) (hn : n ≤ 500) : 0 < (encV (terms ms)).length ∧ (encV (terms ms)).length ≤ 1000000000 := by
  have hl := terms_length h
  have h1 := encU_len (f := encT) (B := 103027) (l := terms ms) (k := (terms ms).length) (encT_terms h hs) (Nat.le_refl _) (by omega)
  rw [encU_all encT (Nat.le_refl _)] at h1
  have h2 : (terms ms).length * 103027 ≤ 500 * 103027 := Nat.mul_le_mul_right _ (by omega)
  refine ⟨?_, by show (encL encT (terms ms)).length ≤ _; omega⟩
  show 0 < (encL encT (terms ms)).length
  unfold encL
  rw [enc_nat, List.length_append, List.length_cons]
  omega
theorem encV_head {w : World} {A : Option Addr} {n : Nat} {ms : List TM} (h : Tms w A n ms) : encV (terms ms) = enc (n : Int) ++ (terms ms).flatMap encT := by
  unfold encV encL; rw [terms_length h]
end Go.Proofs.YtdfnfimajhagfaaGreatDoor
/- The law VocabularyBytes, walked. -/
namespace Go.Proofs.YtdfnfimajhagfaaGreatDoor
open Go.RowKit Go.Maps Rf
set_option maxRecDepth 20000 in
set_option maxHeartbeats 8000000 in
theorem bytes_law (A : Option Addr) (n c : Nat) (l : List Int) (Ax : Option Addr) (nx cx : Nat) (lx : List Int) (how bys : Int) (w : World) (hr : Rdy w) (hl : Ints w A n l) (hlx : Ints w Ax nx lx) (hh : i64ok how) (hby : i64ok bys) :
    Calls Tryz.prog 9 #[.slice A n c, .slice Ax nx cx, .int .i64 how, .int .i64 bys] w fun e w' => e = .returned (.bool true) ∧ Below w.heap.size w w' := by
  go_enter Tryz.func9, Tryz.ntmps9
  go_wp2_with (first
    | (go_at_call 11; go_loud (refine (listsO_any _ _ _ _ _ _ _ hl hh hby).mono ?_; rintro e w1 ⟨bl, xs, rfl, ho1, hos1, hxs1, hxl, hb1⟩))
    | (go_at_call 42; go_loud (refine (terms_any _ _ _ _ _ (hlx.below hb1)).mono ?_; rintro e w2 ⟨At, kt, ct, mt, rfl, hct, h8, ht2, hmade, hb2⟩; have ho2 := ho1.below hb2))
    | (at_builtin; go_loud (refine wpList_app _ vocsT rfl (.tmp 20) (.tmp 23) rfl (ho2.alloc _) rfl rfl (news := [.slice At kt ct]) rfl (rds_byte w2 _ 28) (by simp [Value.oneCell']) ?_ ?_ ?_; (focus omega); (focus omega); intro A5 c5 w5 o5 n5 g5 _)))
  have hbl1 : bl < w1.heap.size := ho1.lt bl (by simp [Value.ownBlock])
  have hba : Below w2.heap.size w2 (w2.alloc (.cells #[.slice At kt ct] 28)) := brefl.al _
  have hos2 : OnlySlices (w2.alloc (.cells #[.slice At kt ct] 28)) bl := (hos1.below hbl1 hb2).below (Nat.lt_of_lt_of_le hbl1 hb2.size) hba
  have hb05 : Below w.heap.size w w5 := ((hb1.tr hb2).tr hba).gr g5 ho2.row
  have hok5 : ∀ x ∈ xs ++ [(⟨At, kt, ct, mt⟩ : VX)], x.ok w5 := fun x hx => by
    rcases List.mem_append.1 hx with hx | hx
    · have k := (hxs1 x hx).below (hb2.tr hba)
      exact ⟨k.cap, k.few, k.tms.apart g5 hos2, k.sm⟩
    · obtain rfl : x = ⟨At, kt, ct, mt⟩ := by simpa using hx
      exact ⟨hct, by dsimp only; omega, (ht2.below hba).apart g5 hos2, hmade.small⟩
  have hR5 := o5.reads
  have hmap : xs.map VX.val ++ [.slice At kt ct] = (xs ++ [(⟨At, kt, ct, mt⟩ : VX)]).map VX.val := by rw [List.map_append]; rfl
  rw [hmap] at hR5
  have hlen5 : (xs ++ [(⟨At, kt, ct, mt⟩ : VX)]).length = 5 := by rw [List.length_append, hxl]; rfl
  have hr5 := hr.below hb05
  clear hl hlx hr ho1 hos1 hxs1 hb1 ho2 ht2 hmade hb2 o5 g5 hba hos2 hbl1
  clear hmap
  generalize xs ++ [(⟨At, kt, ct, mt⟩ : VX)] = ys at hok5 hR5 hlen5
  obtain ⟨b, off, rfl, hb0, hcs⟩ := hR5 (by rw [List.length_map]; omega)
  have hel : ∀ i, i < 5 → ∃ x : VX, w5.cell? ⟨b, off + i, none⟩ = some (.slice x.A x.n x.c) ∧ x.ok w5 := fun i hi => by
    have hil : i < ys.length := by omega
    have hg : ys[i]? = some ys[i] := List.getElem?_eq_getElem hil
    exact ⟨ys[i], hcs i _ (by rw [List.getElem?_map, hg]; rfl), hok5 _ (List.getElem_mem _)⟩
  have HEL := Lib.hid hel
  clear hcs hel hok5
  go_loopw [10] (fun t10 wr => ∃ i : Nat, i ≤ 5 ∧ t10 = .int .i64 i ∧ Below w5.heap.size w5 wr) (fun t10 _ => 5 - (intOf t10).toNat)
  case atStart => exact ⟨0, by omega, rfl, brefl⟩
  case round =>
    as_aux_lemma =>
    obtain ⟨i, hi, rfl, hbi⟩ := hrel
    by_cases hlt : i < 5
    · have hlt' : (i : Int) < 5 := by omega
      obtain ⟨⟨A1, n1, c1, ms⟩, hcx, hcap1, hn1, htx5, hsm⟩ := HEL.out i hlt
      dsimp only at hcx hcap1 hn1 htx5 hsm
      have HCX := Lib.hid (fun wz (hz : Below w5.heap.size w5 wz) => (hz.cell (p := ⟨b, off + i, none⟩) hb0).trans hcx)
      have htx0 := htx5.below hbi
      obtain ⟨hq0, hq1⟩ := encV_len htx5 hsm hn1
      have HH := Lib.hid (encV_head htx5)
      have d1 := HCX.out _ hbi
      have HTE := Lib.hid (te_all htx5 hsm)
      have htl := terms_length htx5
      clear hcx
      go_wp2_with (first
        | (go_at_call 51; go_loud (refine (wencode_any A1 n1 c1 ms _ (by omega) htx0 hsm).mono ?_; rintro e w6 ⟨A2, c2, rfl, hc2, ho2, hb2⟩; have d2 := HCX.out _ (hbi.tr hb2)))
        | (go_at_call 53; go_loud (refine (rencode_any A1 n1 c1 ms _ (by omega) (htx0.below hb2) hsm).mono ?_; rintro e w7 ⟨A3, c3, rfl, hc3, ho3, hb3⟩))
        | (go_at_call 52; go_loud (refine (sameB_any A2 A3 _ c2 c3 (encV (terms ms)) _ hq1 rfl (ho2.reads.below hb3) ho3.reads).mono ?_; rintro e w8 ⟨rfl, hb4⟩))
        | (go_at_call 54; go_loud (refine (getint_any A2 _ c2 n1 ((terms ms).flatMap encT) _ (by omega) hq1 hc2 (by rw [← HH.out]) (by rw [← HH.out]; exact ho2.reads.below (hb3.tr hb4))).mono ?_; rintro e w9 ⟨⟨z, rfl⟩, hb5⟩; have d3 := HCX.out _ (hbi.tr (hb2.tr (hb3.tr (hb4.tr hb5)))))))
      have hbi9 := hbi.tr (hb2.tr (hb3.tr (hb4.tr hb5)))
      have hR2 := ho2.reads.below (hb3.tr (hb4.tr hb5))
      obtain ⟨sx, hsx⟩ : ∃ sx, ofB (encV (terms ms)) = sx := ⟨_, rfl⟩
      have HSX := Lib.hid hsx
      obtain ⟨q, hq⟩ : ∃ q, (encV (terms ms)).length = q := ⟨_, rfl⟩
      have HCV := Lib.hid (fun wz (hz : Below w9.heap.size w9 wz) => show (convert 70 9 (.slice A2 q c2)).run Tryz.prog wz = .ok (.string sx) wz from by rw [← hsx]; exact conv_rds (hR2.below hz) hq (by omega))
      rw [hq]
      clear hsx hq hq0 hq1 d1 d2 d3 ho2 ho3 hc2 hc3 hR2 hbi hb2 hb3 hb4 hb5 htx0
      go_loopw [15] (fun t15 wr => ∃ j : Nat, j ≤ 5 ∧ t15 = .int .i64 j ∧ Below w9.heap.size w9 wr) (fun t15 _ => 5 - (intOf t15).toNat)
      case atStart => exact ⟨0, by omega, rfl, brefl⟩
      case round =>
        as_aux_lemma =>
        obtain ⟨j, hj, rfl, hbj⟩ := hrel
        by_cases hlj : j < 5
        · have hlj' : (j : Int) < 5 := by omega
          obtain ⟨⟨A4, n4, c4, ls⟩, hcy, hcap4, hn4, hty5, hsl⟩ := HEL.out j hlj
          dsimp only at hcy hcap4 hn4 hty5 hsl
          have htl4 := terms_length hty5
          have HLY := Lib.hid (encV_len hty5 hsl hn4).1
          obtain ⟨sy, hsy⟩ : ∃ sy, ofB (encV (terms ls)) = sy := ⟨_, rfl⟩
          have HSY := Lib.hid hsy
          have hinj : (sy.toList == sx.toList) = decide (terms ms = terms ls) := by
            rw [Bool.eq_iff_iff, decide_eq_true_iff]
            refine (eqS_iff sy sx).trans ?_
            rw [← hsy, ← HSX.out]
            constructor
            · intro h
              exact ((encV_inj (te_all hty5 hsl) HTE.out (by omega) (by omega)).1 (ofB_inj h)).symm
            · intro h; rw [h]
          have hcells : ∀ wz, Below wr.heap.size wr wz → wz.cell? ⟨b, off + i, none⟩ = some (.slice A1 n1 c1) ∧ wz.cell? ⟨b, off + j, none⟩ = some (.slice A4 n4 c4) ∧ (convert 70 9 (.slice A2 q c2)).run Tryz.prog wz = .ok (.string sx) wz := fun wz hz =>
            ⟨HCX.out _ (hbi9.tr (hbj.tr hz)), ((hbi9.tr (hbj.tr hz)).cell (p := ⟨b, off + j, none⟩) hb0).trans hcy, HCV.out _ (hbj.tr hz)⟩
          have htx := htx5.below (hbi9.tr hbj)
          have hty := hty5.below (hbi9.tr hbj)
          have hbc : Below wr.heap.size wr wr.drew := brefl.drn 1
          have hS := hcells _ hbc
          clear hcy hsy htl htl4
          cases hv : decide (terms ms = terms ls)
          · have HV := Lib.hid hv
            rw [hv] at hinj
            clear hv
            go_wp2
            refine wp_region_mix [(true, 0), (true, 1), (true, 2), (true, 3), (true, 4), (true, 5), (true, 6), (true, 7), (false, 8), (true, 9)] 10 (fun wz => wz.cell? ⟨b, off + i, none⟩ = some (.slice A1 n1 c1) ∧ wz.cell? ⟨b, off + j, none⟩ = some (.slice A4 n4 c4) ∧ (convert 70 9 (.slice A2 q c2)).run Tryz.prog wz = .ok (.string sx) wz) (by kernel_rfl) (by kernel_rfl) ?_
            refine wpMix_put (v := ?_) rfl rfl (Or.inl ⟨by rfl, fun wz hz => ?_⟩) hS ?_
            rotate_left
            (focus (go_simp; try (with_reducible rfl)))
            simp only [List.setIfInBounds_toArray, List.set_cons_succ, List.set_cons_zero]
            refine wpMix_put (v := ?_) rfl rfl (Or.inl ⟨by rfl, fun wz hz => ?_⟩) hS ?_
            rotate_left
            (focus (go_simp; try (with_reducible rfl)))
            simp only [List.setIfInBounds_toArray, List.set_cons_succ, List.set_cons_zero]
            refine wpMix_put (v := ?_) rfl rfl (Or.inl ⟨by rfl, fun wz hz => ?_⟩) hS ?_
            rotate_left
            (focus (go_simp; try (with_reducible rfl)))
            simp only [List.setIfInBounds_toArray, List.set_cons_succ, List.set_cons_zero]
            refine wpMix_put (v := ?_) rfl rfl (Or.inl ⟨by rfl, fun wz hz => ?_⟩) hS ?_
            rotate_left
            (focus (go_simp; try (with_reducible rfl)))
            simp only [List.setIfInBounds_toArray, List.set_cons_succ, List.set_cons_zero]
            refine wpMix_put (v := ?_) rfl rfl (Or.inl ⟨by rfl, fun wz hz => ?_⟩) hS ?_
            rotate_left
            (focus (go_simp; try (with_reducible rfl)))
            simp only [List.setIfInBounds_toArray, List.set_cons_succ, List.set_cons_zero]
            refine wpMix_put (v := ?_) rfl rfl (Or.inl ⟨by rfl, fun wz hz => ?_⟩) hS ?_
            rotate_left
            (focus (go_simp; try (with_reducible rfl)))
            simp only [List.setIfInBounds_toArray, List.set_cons_succ, List.set_cons_zero]
            refine wpMix_put (v := ?_) rfl rfl (Or.inl ⟨by rfl, fun wz hz => ?_⟩) hS ?_
            rotate_left
            (focus (go_simp; try (with_reducible rfl)))
            simp only [List.setIfInBounds_toArray, List.set_cons_succ, List.set_cons_zero]
            refine wpMix_put (v := ?_) rfl rfl (Or.inl ⟨by rfl, fun wz hz => ?_⟩) hS ?_
            rotate_left
            (focus (go_simp; try (with_reducible rfl)))
            simp only [List.setIfInBounds_toArray, List.set_cons_succ, List.set_cons_zero]
            refine wpMix_step rfl (fun K hK => ?_)
            go_simp
            refine (wsame_any A1 A4 n1 c1 n4 c4 ms ls _ (by omega) (by omega) (htx.below hbc) (hty.below hbc)).mono ?_
            rw [HV.out]
            rintro e w10 ⟨rfl, hbd⟩
            go_simp
            have hbc' := hbc.tr hbd
            clear hbc hbd
            have hbc := hbc'
            clear hbc'
            have hS7 := hcells _ hbc
            refine hK _ _ (fun _ => hS7) ?_
            clear hK K hS
            have hS := hS7
            clear hS7
            refine wpMix_put (v := ?_) rfl rfl (Or.inl ⟨by rfl, fun wz hz => ?_⟩) hS ?_
            rotate_left
            (focus (go_simp; try (with_reducible rfl)))
            simp only [List.setIfInBounds_toArray, List.set_cons_succ, List.set_cons_zero]
            refine wpMix_nil ?_
            have hbc' := hbc.drn 1
            clear hbc
            have hbc := hbc'
            clear hbc' hS
            have hS := hcells _ hbc
            go_wp2
            refine wp_region_mix [(true, 0), (true, 1), (true, 2), (true, 3), (true, 4), (true, 5), (true, 6), (true, 7), (true, 8), (false, 9), (true, 10), (true, 11), (true, 12), (true, 13), (true, 14), (true, 15), (true, 16), (true, 19), (true, 20), (false, 17), (false, 18), (true, 21), (true, 22), (true, 23)] 24 (fun wz => wz.cell? ⟨b, off + i, none⟩ = some (.slice A1 n1 c1) ∧ wz.cell? ⟨b, off + j, none⟩ = some (.slice A4 n4 c4) ∧ (convert 70 9 (.slice A2 q c2)).run Tryz.prog wz = .ok (.string sx) wz) (by kernel_rfl) (by kernel_rfl) ?_
            refine wpMix_put (v := ?_) rfl rfl (Or.inl ⟨by rfl, fun wz hz => ?_⟩) hS ?_
            rotate_left
            (focus (go_simp; try (with_reducible rfl)))
            simp only [List.setIfInBounds_toArray, List.set_cons_succ, List.set_cons_zero]
            refine wpMix_put (v := ?_) rfl rfl (Or.inl ⟨by rfl, fun wz hz => ?_⟩) hS ?_
            rotate_left
            (focus (go_simp; try (with_reducible rfl)))
            simp only [List.setIfInBounds_toArray, List.set_cons_succ, List.set_cons_zero]
            refine wpMix_put (v := ?_) rfl rfl (Or.inl ⟨by rfl, fun wz hz => ?_⟩) hS ?_
            rotate_left
            (focus (go_simp; try (with_reducible rfl)))
            simp only [List.setIfInBounds_toArray, List.set_cons_succ, List.set_cons_zero]
            refine wpMix_put (v := ?_) rfl rfl (Or.inl ⟨by rfl, fun wz hz => ?_⟩) hS ?_
            rotate_left
            (focus (go_simp; try (with_reducible rfl)))
            simp only [List.setIfInBounds_toArray, List.set_cons_succ, List.set_cons_zero]
            refine wpMix_put (v := ?_) rfl rfl (Or.inl ⟨by rfl, fun wz hz => ?_⟩) hS ?_
            rotate_left
            (focus (go_simp; try (with_reducible rfl)))
            simp only [List.setIfInBounds_toArray, List.set_cons_succ, List.set_cons_zero]
            refine wpMix_put (v := ?_) rfl rfl (Or.inl ⟨by rfl, fun wz hz => ?_⟩) hS ?_
            rotate_left
            (focus (go_simp; try (with_reducible rfl)))
            simp only [List.setIfInBounds_toArray, List.set_cons_succ, List.set_cons_zero]
            refine wpMix_put (v := ?_) rfl rfl (Or.inl ⟨by rfl, fun wz hz => ?_⟩) hS ?_
            rotate_left
            (focus (go_simp; try (with_reducible rfl)))
            simp only [List.setIfInBounds_toArray, List.set_cons_succ, List.set_cons_zero]
            refine wpMix_put (v := ?_) rfl rfl (Or.inl ⟨by rfl, fun wz hz => ?_⟩) hS ?_
            rotate_left
            (focus (go_simp; try (with_reducible rfl)))
            simp only [List.setIfInBounds_toArray, List.set_cons_succ, List.set_cons_zero]
            refine wpMix_put (v := ?_) rfl rfl (Or.inl ⟨by rfl, fun wz hz => ?_⟩) hS ?_
            rotate_left
            (focus (go_simp; try (with_reducible rfl)))
            simp only [List.setIfInBounds_toArray, List.set_cons_succ, List.set_cons_zero]
            refine wpMix_step rfl (fun K hK => ?_)
            go_simp
            refine (rsameD_any A1 A4 n1 c1 n4 c4 ms ls _ (by omega) (by omega) (htx.below hbc) (hty.below hbc)).mono ?_
            rw [HV.out]
            rintro e w11 ⟨rfl, hbd⟩
            go_simp
            have hbc' := hbc.tr hbd
            clear hbc hbd
            have hbc := hbc'
            clear hbc'
            have hS7 := hcells _ hbc
            refine hK _ _ (fun _ => hS7) ?_
            clear hK K hS
            have hS := hS7
            clear hS7
            refine wpMix_put (v := ?_) rfl rfl (Or.inl ⟨by rfl, fun wz hz => ?_⟩) hS ?_
            rotate_left
            (focus (go_simp; try (with_reducible rfl)))
            simp only [List.setIfInBounds_toArray, List.set_cons_succ, List.set_cons_zero]
            refine wpMix_put (v := ?_) rfl rfl (Or.inl ⟨by rfl, fun wz hz => ?_⟩) hS ?_
            rotate_left
            (focus (go_simp; try (with_reducible rfl)))
            simp only [List.setIfInBounds_toArray, List.set_cons_succ, List.set_cons_zero]
            refine wpMix_put (v := ?_) rfl rfl (Or.inl ⟨by rfl, fun wz hz => ?_⟩) hS ?_
            rotate_left
            (focus (go_simp; try (with_reducible rfl)))
            simp only [List.setIfInBounds_toArray, List.set_cons_succ, List.set_cons_zero]
            refine wpMix_put (v := ?_) rfl rfl (Or.inl ⟨by rfl, fun wz hz => ?_⟩) hS ?_
            rotate_left
            (focus (go_simp; try (with_reducible rfl)))
            simp only [List.setIfInBounds_toArray, List.set_cons_succ, List.set_cons_zero]
            refine wpMix_put (v := ?_) rfl rfl (Or.inl ⟨by rfl, fun wz hz => ?_⟩) hS ?_
            rotate_left
            (focus (go_simp; try (with_reducible rfl)))
            simp only [List.setIfInBounds_toArray, List.set_cons_succ, List.set_cons_zero]
            refine wpMix_put (v := ?_) rfl rfl (Or.inl ⟨by rfl, fun wz hz => ?_⟩) hS ?_
            rotate_left
            (focus (go_simp; try (with_reducible rfl)))
            simp only [List.setIfInBounds_toArray, List.set_cons_succ, List.set_cons_zero]
            refine wpMix_put (v := ?_) rfl rfl (Or.inl ⟨by rfl, fun wz hz => ?_⟩) hS ?_
            rotate_left
            (focus (go_simp; try (with_reducible rfl)))
            simp only [List.setIfInBounds_toArray, List.set_cons_succ, List.set_cons_zero]
            refine wpMix_put (v := ?_) rfl rfl (Or.inl ⟨by rfl, fun wz hz => ?_⟩) hS ?_
            rotate_left
            (focus (go_simp; try (with_reducible rfl)))
            simp only [List.setIfInBounds_toArray, List.set_cons_succ, List.set_cons_zero]
            refine wpMix_put (v := ?_) rfl rfl (Or.inl ⟨by rfl, fun wz hz => ?_⟩) hS ?_
            rotate_left
            (focus (go_simp; try (with_reducible rfl)))
            simp only [List.setIfInBounds_toArray, List.set_cons_succ, List.set_cons_zero]
            refine wpMix_step rfl (fun K hK => ?_)
            go_simp
            refine (wencode_any A4 n4 c4 ls _ (by omega) (hty.below hbc) hsl).mono ?_
            rintro e w12 ⟨A7, c7, rfl, hc7, ho7, hbd⟩
            go_simp
            have hcv7 := conv_rds (cap := c7) ho7.reads rfl HLY.out
            rw [HSY.out] at hcv7
            have hbc' := hbc.tr hbd
            clear hbc hbd
            have hbc := hbc'
            clear hbc'
            have hS7 := hcells _ hbc
            refine hK _ _ (fun _ => hS7) ?_
            clear hK K hS
            have hS := hS7
            clear hS7
            refine wpMix_step rfl (fun K hK => ?_)
            go_simp
            refine hK _ _ (fun _ => hS) ?_
            clear hK K
            refine wpMix_put (v := ?_) rfl rfl (Or.inl ⟨by rfl, fun wz hz => ?_⟩) hS ?_
            rotate_left
            (focus (go_simp; try (with_reducible rfl)))
            simp only [List.setIfInBounds_toArray, List.set_cons_succ, List.set_cons_zero]
            refine wpMix_put (v := ?_) rfl rfl (Or.inl ⟨by rfl, fun wz hz => ?_⟩) hS ?_
            rotate_left
            (focus (go_simp; try (with_reducible rfl)))
            simp only [List.setIfInBounds_toArray, List.set_cons_succ, List.set_cons_zero]
            refine wpMix_put (v := ?_) rfl rfl (Or.inl ⟨by rfl, fun wz hz => ?_⟩) hS ?_
            rotate_left
            (focus (go_simp; try (with_reducible rfl)))
            simp only [List.setIfInBounds_toArray, List.set_cons_succ, List.set_cons_zero]
            refine wpMix_nil ?_
            go_wp2
            go_roundw
            case rel => exact ⟨j + 1, by omega, by go_num, hbj.tr hbc⟩
            case measure => simp [intOf]; omega
          · have HV := Lib.hid hv
            rw [hv] at hinj
            clear hv
            go_wp2
            refine wp_region_mix [(true, 0), (true, 1), (true, 2), (true, 3), (true, 4), (true, 5), (true, 6), (true, 7), (false, 8), (true, 9)] 10 (fun wz => wz.cell? ⟨b, off + i, none⟩ = some (.slice A1 n1 c1) ∧ wz.cell? ⟨b, off + j, none⟩ = some (.slice A4 n4 c4) ∧ (convert 70 9 (.slice A2 q c2)).run Tryz.prog wz = .ok (.string sx) wz) (by kernel_rfl) (by kernel_rfl) ?_
            refine wpMix_put (v := ?_) rfl rfl (Or.inl ⟨by rfl, fun wz hz => ?_⟩) hS ?_
            rotate_left
            (focus (go_simp; try (with_reducible rfl)))
            simp only [List.setIfInBounds_toArray, List.set_cons_succ, List.set_cons_zero]
            refine wpMix_put (v := ?_) rfl rfl (Or.inl ⟨by rfl, fun wz hz => ?_⟩) hS ?_
            rotate_left
            (focus (go_simp; try (with_reducible rfl)))
            simp only [List.setIfInBounds_toArray, List.set_cons_succ, List.set_cons_zero]
            refine wpMix_put (v := ?_) rfl rfl (Or.inl ⟨by rfl, fun wz hz => ?_⟩) hS ?_
            rotate_left
            (focus (go_simp; try (with_reducible rfl)))
            simp only [List.setIfInBounds_toArray, List.set_cons_succ, List.set_cons_zero]
            refine wpMix_put (v := ?_) rfl rfl (Or.inl ⟨by rfl, fun wz hz => ?_⟩) hS ?_
            rotate_left
            (focus (go_simp; try (with_reducible rfl)))
            simp only [List.setIfInBounds_toArray, List.set_cons_succ, List.set_cons_zero]
            refine wpMix_put (v := ?_) rfl rfl (Or.inl ⟨by rfl, fun wz hz => ?_⟩) hS ?_
            rotate_left
            (focus (go_simp; try (with_reducible rfl)))
            simp only [List.setIfInBounds_toArray, List.set_cons_succ, List.set_cons_zero]
            refine wpMix_put (v := ?_) rfl rfl (Or.inl ⟨by rfl, fun wz hz => ?_⟩) hS ?_
            rotate_left
            (focus (go_simp; try (with_reducible rfl)))
            simp only [List.setIfInBounds_toArray, List.set_cons_succ, List.set_cons_zero]
            refine wpMix_put (v := ?_) rfl rfl (Or.inl ⟨by rfl, fun wz hz => ?_⟩) hS ?_
            rotate_left
            (focus (go_simp; try (with_reducible rfl)))
            simp only [List.setIfInBounds_toArray, List.set_cons_succ, List.set_cons_zero]
            refine wpMix_put (v := ?_) rfl rfl (Or.inl ⟨by rfl, fun wz hz => ?_⟩) hS ?_
            rotate_left
            (focus (go_simp; try (with_reducible rfl)))
            simp only [List.setIfInBounds_toArray, List.set_cons_succ, List.set_cons_zero]
            refine wpMix_step rfl (fun K hK => ?_)
            go_simp
            refine (wsame_any A1 A4 n1 c1 n4 c4 ms ls _ (by omega) (by omega) (htx.below hbc) (hty.below hbc)).mono ?_
            rw [HV.out]
            rintro e w10 ⟨rfl, hbd⟩
            go_simp
            have hbc' := hbc.tr hbd
            clear hbc hbd
            have hbc := hbc'
            clear hbc'
            have hS7 := hcells _ hbc
            refine hK _ _ (fun _ => hS7) ?_
            clear hK K hS
            have hS := hS7
            clear hS7
            refine wpMix_put (v := ?_) rfl rfl (Or.inl ⟨by rfl, fun wz hz => ?_⟩) hS ?_
            rotate_left
            (focus (go_simp; try (with_reducible rfl)))
            simp only [List.setIfInBounds_toArray, List.set_cons_succ, List.set_cons_zero]
            refine wpMix_nil ?_
            have hbc' := hbc.drn 1
            clear hbc
            have hbc := hbc'
            clear hbc' hS
            have hS := hcells _ hbc
            go_wp2
            refine wp_region_mix [(true, 0), (true, 1), (true, 2), (true, 3), (true, 4), (true, 5), (true, 6), (true, 7), (true, 8), (false, 9), (true, 10), (true, 11), (true, 12), (true, 13), (true, 14), (true, 15), (true, 16), (true, 19), (true, 20), (false, 17), (false, 18), (true, 21), (true, 22), (true, 23)] 24 (fun wz => wz.cell? ⟨b, off + i, none⟩ = some (.slice A1 n1 c1) ∧ wz.cell? ⟨b, off + j, none⟩ = some (.slice A4 n4 c4) ∧ (convert 70 9 (.slice A2 q c2)).run Tryz.prog wz = .ok (.string sx) wz) (by kernel_rfl) (by kernel_rfl) ?_
            refine wpMix_put (v := ?_) rfl rfl (Or.inl ⟨by rfl, fun wz hz => ?_⟩) hS ?_
            rotate_left
            (focus (go_simp; try (with_reducible rfl)))
            simp only [List.setIfInBounds_toArray, List.set_cons_succ, List.set_cons_zero]
            refine wpMix_put (v := ?_) rfl rfl (Or.inl ⟨by rfl, fun wz hz => ?_⟩) hS ?_
            rotate_left
            (focus (go_simp; try (with_reducible rfl)))
            simp only [List.setIfInBounds_toArray, List.set_cons_succ, List.set_cons_zero]
            refine wpMix_put (v := ?_) rfl rfl (Or.inl ⟨by rfl, fun wz hz => ?_⟩) hS ?_
            rotate_left
            (focus (go_simp; try (with_reducible rfl)))
            simp only [List.setIfInBounds_toArray, List.set_cons_succ, List.set_cons_zero]
            refine wpMix_put (v := ?_) rfl rfl (Or.inl ⟨by rfl, fun wz hz => ?_⟩) hS ?_
            rotate_left
            (focus (go_simp; try (with_reducible rfl)))
            simp only [List.setIfInBounds_toArray, List.set_cons_succ, List.set_cons_zero]
            refine wpMix_put (v := ?_) rfl rfl (Or.inl ⟨by rfl, fun wz hz => ?_⟩) hS ?_
            rotate_left
            (focus (go_simp; try (with_reducible rfl)))
            simp only [List.setIfInBounds_toArray, List.set_cons_succ, List.set_cons_zero]
            refine wpMix_put (v := ?_) rfl rfl (Or.inl ⟨by rfl, fun wz hz => ?_⟩) hS ?_
            rotate_left
            (focus (go_simp; try (with_reducible rfl)))
            simp only [List.setIfInBounds_toArray, List.set_cons_succ, List.set_cons_zero]
            refine wpMix_put (v := ?_) rfl rfl (Or.inl ⟨by rfl, fun wz hz => ?_⟩) hS ?_
            rotate_left
            (focus (go_simp; try (with_reducible rfl)))
            simp only [List.setIfInBounds_toArray, List.set_cons_succ, List.set_cons_zero]
            refine wpMix_put (v := ?_) rfl rfl (Or.inl ⟨by rfl, fun wz hz => ?_⟩) hS ?_
            rotate_left
            (focus (go_simp; try (with_reducible rfl)))
            simp only [List.setIfInBounds_toArray, List.set_cons_succ, List.set_cons_zero]
            refine wpMix_put (v := ?_) rfl rfl (Or.inl ⟨by rfl, fun wz hz => ?_⟩) hS ?_
            rotate_left
            (focus (go_simp; try (with_reducible rfl)))
            simp only [List.setIfInBounds_toArray, List.set_cons_succ, List.set_cons_zero]
            refine wpMix_step rfl (fun K hK => ?_)
            go_simp
            refine (rsameD_any A1 A4 n1 c1 n4 c4 ms ls _ (by omega) (by omega) (htx.below hbc) (hty.below hbc)).mono ?_
            rw [HV.out]
            rintro e w11 ⟨rfl, hbd⟩
            go_simp
            have hbc' := hbc.tr hbd
            clear hbc hbd
            have hbc := hbc'
            clear hbc'
            have hS7 := hcells _ hbc
            refine hK _ _ (fun _ => hS7) ?_
            clear hK K hS
            have hS := hS7
            clear hS7
            refine wpMix_put (v := ?_) rfl rfl (Or.inl ⟨by rfl, fun wz hz => ?_⟩) hS ?_
            rotate_left
            (focus (go_simp; try (with_reducible rfl)))
            simp only [List.setIfInBounds_toArray, List.set_cons_succ, List.set_cons_zero]
            refine wpMix_put (v := ?_) rfl rfl (Or.inl ⟨by rfl, fun wz hz => ?_⟩) hS ?_
            rotate_left
            (focus (go_simp; try (with_reducible rfl)))
            simp only [List.setIfInBounds_toArray, List.set_cons_succ, List.set_cons_zero]
            refine wpMix_put (v := ?_) rfl rfl (Or.inl ⟨by rfl, fun wz hz => ?_⟩) hS ?_
            rotate_left
            (focus (go_simp; try (with_reducible rfl)))
            simp only [List.setIfInBounds_toArray, List.set_cons_succ, List.set_cons_zero]
            refine wpMix_put (v := ?_) rfl rfl (Or.inl ⟨by rfl, fun wz hz => ?_⟩) hS ?_
            rotate_left
            (focus (go_simp; try (with_reducible rfl)))
            simp only [List.setIfInBounds_toArray, List.set_cons_succ, List.set_cons_zero]
            refine wpMix_put (v := ?_) rfl rfl (Or.inl ⟨by rfl, fun wz hz => ?_⟩) hS ?_
            rotate_left
            (focus (go_simp; try (with_reducible rfl)))
            simp only [List.setIfInBounds_toArray, List.set_cons_succ, List.set_cons_zero]
            refine wpMix_put (v := ?_) rfl rfl (Or.inl ⟨by rfl, fun wz hz => ?_⟩) hS ?_
            rotate_left
            (focus (go_simp; try (with_reducible rfl)))
            simp only [List.setIfInBounds_toArray, List.set_cons_succ, List.set_cons_zero]
            refine wpMix_put (v := ?_) rfl rfl (Or.inl ⟨by rfl, fun wz hz => ?_⟩) hS ?_
            rotate_left
            (focus (go_simp; try (with_reducible rfl)))
            simp only [List.setIfInBounds_toArray, List.set_cons_succ, List.set_cons_zero]
            refine wpMix_put (v := ?_) rfl rfl (Or.inl ⟨by rfl, fun wz hz => ?_⟩) hS ?_
            rotate_left
            (focus (go_simp; try (with_reducible rfl)))
            simp only [List.setIfInBounds_toArray, List.set_cons_succ, List.set_cons_zero]
            refine wpMix_put (v := ?_) rfl rfl (Or.inl ⟨by rfl, fun wz hz => ?_⟩) hS ?_
            rotate_left
            (focus (go_simp; try (with_reducible rfl)))
            simp only [List.setIfInBounds_toArray, List.set_cons_succ, List.set_cons_zero]
            refine wpMix_step rfl (fun K hK => ?_)
            go_simp
            refine (wencode_any A4 n4 c4 ls _ (by omega) (hty.below hbc) hsl).mono ?_
            rintro e w12 ⟨A7, c7, rfl, hc7, ho7, hbd⟩
            go_simp
            have hcv7 := conv_rds (cap := c7) ho7.reads rfl HLY.out
            rw [HSY.out] at hcv7
            have hbc' := hbc.tr hbd
            clear hbc hbd
            have hbc := hbc'
            clear hbc'
            have hS7 := hcells _ hbc
            refine hK _ _ (fun _ => hS7) ?_
            clear hK K hS
            have hS := hS7
            clear hS7
            refine wpMix_step rfl (fun K hK => ?_)
            go_simp
            refine hK _ _ (fun _ => hS) ?_
            clear hK K
            refine wpMix_put (v := ?_) rfl rfl (Or.inl ⟨by rfl, fun wz hz => ?_⟩) hS ?_
            rotate_left
            (focus (go_simp; try (with_reducible rfl)))
            simp only [List.setIfInBounds_toArray, List.set_cons_succ, List.set_cons_zero]
            refine wpMix_put (v := ?_) rfl rfl (Or.inl ⟨by rfl, fun wz hz => ?_⟩) hS ?_
            rotate_left
            (focus (go_simp; try (with_reducible rfl)))
            simp only [List.setIfInBounds_toArray, List.set_cons_succ, List.set_cons_zero]
            refine wpMix_put (v := ?_) rfl rfl (Or.inl ⟨by rfl, fun wz hz => ?_⟩) hS ?_
            rotate_left
            (focus (go_simp; try (with_reducible rfl)))
            simp only [List.setIfInBounds_toArray, List.set_cons_succ, List.set_cons_zero]
            refine wpMix_nil ?_
            go_wp2
            go_roundw
            case rel => exact ⟨j + 1, by omega, by go_num, hbj.tr hbc⟩
            case measure => simp [intOf]; omega
        · have hlj' : ¬ (j : Int) < 5 := by omega
          go_wp2
          go_roundw
          case rel => exact ⟨i + 1, by omega, by go_num, hbi9.tr hbj⟩
          case measure => simp [intOf]; omega
    · have hlt' : ¬ (i : Int) < 5 := by omega
      go_wp2_with (go_at_call 14; go_loud (refine (lives_any _ (hr5.below hbi)).mono ?_; rintro e w20 ⟨rfl, hb20⟩))
      go_ret
      exact ⟨rfl, hb05.tr (hbi.tr hb20)⟩
end Go.Proofs.YtdfnfimajhagfaaGreatDoor
