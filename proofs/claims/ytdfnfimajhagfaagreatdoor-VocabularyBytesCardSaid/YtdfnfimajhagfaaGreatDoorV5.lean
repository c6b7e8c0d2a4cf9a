/- Walk of package vocabulary: possible. -/
import Derived.Test.YtdfnfimajhagfaaGreatDoorV3
namespace Go.Proofs.YtdfnfimajhagfaaGreatDoor
open Go.RowKit Go.Maps Rf
def behind : Option S → S → Bool
  | none, _ => true
  | some q, b => ltS q b
def goodFrom : Option S → List S → Bool
  | _, [] => true
  | p, b :: l => isName b && behind p b && goodFrom (some b) l
theorem goodFrom_cons (p : Option S) (b : S) (l : List S) : goodFrom p (b :: l) = (isName b && behind p b && goodFrom (some b) l) := rfl
theorem goodFrom_some (q : S) : ∀ l : List S, goodFrom (some q) l = (l.all isName && increasing (q :: l))
  | [] => rfl
  | b :: l => by
    rw [goodFrom_cons, goodFrom_some b l, List.all_cons, increasing]
    show (isName b && ltS q b && _) = _
    cases isName b <;> cases ltS q b <;> simp
theorem goodFrom_none (l : List S) : goodFrom none l = (l.all isName && increasing l) := by
  cases l with
  | nil => rfl
  | cons b l =>
    rw [goodFrom_cons, goodFrom_some b l, List.all_cons]
    show (isName b && true && _) = _
    cases isName b <;> simp
theorem poss_name {t : Term} (h : isName t.name = false) : possible t = false := by unfold possible; rw [h]; rfl
theorem poss_num {t : Term} (h : ¬ (0 ≤ t.kind ∧ t.kind ≤ 2 ∧ 0 ≤ t.lang ∧ t.lang ≤ 3)) : possible t = false := by
  unfold possible; rw [decide_eq_false h]; cases isName t.name <;> rfl
theorem poss_long {t : Term} (h : ¬ t.broader.length ≤ 8) : possible t = false := by
  unfold possible; rw [decide_eq_false h]; simp
theorem poss_see {t : Term} (h1 : t.see.data.isEmpty = false) (h : (isName t.see && t.broader.isEmpty) = false) : possible t = false := by
  unfold possible; rw [h1, h]; simp
theorem poss_rest {t : Term} (h1 : isName t.name = true) (h2 : 0 ≤ t.kind ∧ t.kind ≤ 2 ∧ 0 ≤ t.lang ∧ t.lang ≤ 3) (h3 : t.broader.length ≤ 8) (h4 : (t.see.data.isEmpty || (isName t.see && t.broader.isEmpty)) = true) :
    possible t = goodFrom none t.broader := by
  unfold possible; rw [h1, decide_eq_true h2, decide_eq_true h3, h4, goodFrom_none]; simp
def prevVoc (l : List S) (j : Nat) : Option S := if j = 0 then none else l[j - 1]?
theorem prevOf_zero (l : List S) : prevVoc l 0 = none := rfl
theorem prevOf_succ {l : List S} {j : Nat} {b : S} (h : l[j]? = some b) : prevVoc l (j + 1) = some b := by unfold prevVoc; rw [if_neg (by omega)]; exact h
theorem good_step {p : Option S} {b : S} {l : List S} (h1 : isName b = true) (h2 : behind p b = true) : goodFrom p (b :: l) = goodFrom (some b) l := by rw [goodFrom_cons, h1, h2]; rfl
theorem good_name {p : Option S} {b : S} {l : List S} (h1 : isName b = false) : goodFrom p (b :: l) = false := by rw [goodFrom_cons, h1]; rfl
theorem good_late {q b : S} {l : List S} (h : ltS q b = false) : goodFrom (some q) (b :: l) = false := by rw [goodFrom_cons, show behind (some q) b = false from h]; simp
/-- a term that has been laid in a block of its own -/
theorem box_tm {w wz : World} {v1 v2 v3 v4 v5 : Value} {t : TypeId} (hb : Below (w.alloc (.cells #[v1, v2, v3, v4, v5] t)).heap.size (w.alloc (.cells #[v1, v2, v3, v4, v5] t)) wz) :
    wz.cell? ⟨w.heap.size, 0, none⟩ = some v1 ∧ wz.cell? ⟨w.heap.size, 1, none⟩ = some v2 ∧ wz.cell? ⟨w.heap.size, 2, none⟩ = some v3 ∧ wz.cell? ⟨w.heap.size, 3, none⟩ = some v4 ∧ wz.cell? ⟨w.heap.size, 4, none⟩ = some v5 := by
  have h := fun j => hb.cell (p := ⟨w.heap.size, j, none⟩) (by simp)
  refine ⟨(h 0).trans ?_, (h 1).trans ?_, (h 2).trans ?_, (h 3).trans ?_, (h 4).trans ?_⟩
  all_goals rw [cell_of_row _ _ _ _ _ _ (heap_alloc_new _ _)]; rfl
set_option maxRecDepth 20000 in
set_option maxHeartbeats 8000000 in
theorem vposs_any (m : TM) (w : World) (hr : Rdy w) (hok : m.ok w) :
    Calls Tryz.prog 126 #[.agg #[.string m.t.name, .int .i64 m.t.kind, .int .i64 m.t.lang, .string m.t.see, .slice m.A m.n m.c]] w fun e w' => e = .returned (.bool (possible m.t)) ∧ Below w.heap.size w w' := by
  obtain ⟨⟨nm, ki, la, se, br⟩, Am, n, c⟩ := m
  obtain ⟨hnm, hse, hki, hla, hcap, hfew, hbr⟩ := hok
  dsimp only at hnm hse hki hla hcap hfew hbr ⊢
  have hbl1 : Below w.heap.size w (w.alloc (.cells #[.string nm, .int .i64 ki, .int .i64 la, .string se, .slice Am n c] 33)) := brefl.al _
  have hlen := hbr.1
  obtain ⟨a1, ha1⟩ : ∃ a, isName nm = a := ⟨_, rfl⟩
  have HA1 := Lib.hid ha1
  obtain ⟨r, hr0⟩ : ∃ r, possible ⟨nm, ki, la, se, br⟩ = r := ⟨_, rfl⟩
  rw [hr0]
  cases a1 with
  | false =>
    obtain rfl : false = r := by rw [← hr0, poss_name ha1]
    clear ha1 hr0
    go_enter Tryz.func126, Tryz.ntmps126
    go_wp2_with (go_at_call 168; refine (vname_any _ _ (hr.below hbl1) hnm).mono ?_; rintro e w2 ⟨rfl, hb2⟩; rw [HA1.out]; obtain ⟨q0, q1, q2, q3, q4⟩ := box_tm hb2)
    go_ret
    exact ⟨rfl, hbl1.tr hb2⟩
  | true =>
    by_cases hnum : 0 ≤ ki ∧ ki ≤ 2 ∧ 0 ≤ la ∧ la ≤ 3
    · have hrest : n ≤ 8 → ((se : S).data.isEmpty || (isName se && br.isEmpty)) = true → r = goodFrom none br := fun h3 h4 => by rw [← hr0]; exact poss_rest ha1 hnum (by rw [hlen]; exact h3) h4
      obtain ⟨k1, k2, k3, k4⟩ := hnum
      have k5 : ki < 3 := by omega
      have k6 : la < 4 := by omega
      cases hse0 : se.data.isEmpty
      · have h0 := not_empty hse0
        have h2 := (empty_data se).trans hse0
        obtain ⟨a2, ha2⟩ : ∃ a, isName se = a := ⟨_, rfl⟩
        have HA2 := Lib.hid ha2
        cases a2 with
        | false =>
          obtain rfl : false = r := by rw [← hr0]; exact (poss_see hse0 (by rw [ha2]; rfl)).symm
          clear ha1 hr0 hrest ha2
          go_enter Tryz.func126, Tryz.ntmps126
          go_wp2_with (first
            | (go_at_call 168; refine (vname_any nm _ (hr.below hbl1) hnm).mono ?_; clear hnm; rintro e w2 ⟨rfl, hb2⟩; rw [HA1.out]; obtain ⟨q0, q1, q2, q3, q4⟩ := box_tm hb2)
            | (go_at_call 168; refine (vname_any se _ (hr.below (hbl1.tr hb2)) hse).mono ?_; rintro e w3 ⟨rfl, hb3⟩; rw [HA2.out]; obtain ⟨p0, p1, p2, p3, p4⟩ := box_tm (hb2.tr hb3)))
          go_ret
          exact ⟨rfl, (hbl1.tr hb2).tr hb3⟩
        | true =>
          by_cases hn0 : n = 0
          · subst hn0
            have hbr0 : br = [] := List.eq_nil_of_length_eq_zero hlen
            obtain rfl : r = true := by rw [hrest (by omega) (by rw [ha2, hbr0]; simp), hbr0]; rfl
            clear ha1 hr0 hrest ha2
            go_enter Tryz.func126, Tryz.ntmps126
            go_wp2_with (first
              | (go_at_call 168; refine (vname_any nm _ (hr.below hbl1) hnm).mono ?_; clear hnm; rintro e w2 ⟨rfl, hb2⟩; rw [HA1.out]; obtain ⟨q0, q1, q2, q3, q4⟩ := box_tm hb2)
              | (go_at_call 168; refine (vname_any se _ (hr.below (hbl1.tr hb2)) hse).mono ?_; rintro e w3 ⟨rfl, hb3⟩; rw [HA2.out]; obtain ⟨p0, p1, p2, p3, p4⟩ := box_tm (hb2.tr hb3)))
            have hbz := (hbl1.tr hb2).tr hb3
            clear q0 q1 q2 q3 q4 p0 p1 p2 p3 p4
            go_loopw [55] (fun i wr => i = .int .i64 0 ∧ wr = w3) (fun _ _ => 0)
            case atStart => exact ⟨rfl, rfl⟩
            case round =>
              obtain ⟨rfl, rfl⟩ := hrel
              go_wp2
              go_ret
              exact ⟨rfl, hbz⟩
          · have hn1 : (0 : Int) < n := by omega
            have hbr0 : br.isEmpty = false := by
              cases br with
              | nil => exact absurd hlen.symm hn0
              | cons x l => rfl
            obtain rfl : false = r := by rw [← hr0]; exact (poss_see hse0 (by show (_ && br.isEmpty) = false; rw [hbr0]; simp)).symm
            clear ha1 hr0 hrest ha2
            go_enter Tryz.func126, Tryz.ntmps126
            go_wp2_with (first
              | (go_at_call 168; refine (vname_any nm _ (hr.below hbl1) hnm).mono ?_; clear hnm; rintro e w2 ⟨rfl, hb2⟩; rw [HA1.out]; obtain ⟨q0, q1, q2, q3, q4⟩ := box_tm hb2)
              | (go_at_call 168; refine (vname_any se _ (hr.below (hbl1.tr hb2)) hse).mono ?_; rintro e w3 ⟨rfl, hb3⟩; rw [HA2.out]; obtain ⟨p0, p1, p2, p3, p4⟩ := box_tm (hb2.tr hb3)))
            go_ret
            exact ⟨rfl, (hbl1.tr hb2).tr hb3⟩
      · obtain rfl := is_empty hse0
        by_cases h8 : n ≤ 8
        · have h8' : ¬ (8 : Int) < n := by omega
          have hrest := hrest h8
          clear ha1 hr0
          go_enter Tryz.func126, Tryz.ntmps126
          go_wp2_with (go_at_call 168; refine (vname_any _ _ (hr.below hbl1) hnm).mono ?_; rintro e w2 ⟨rfl, hb2⟩; rw [HA1.out]; obtain ⟨q0, q1, q2, q3, q4⟩ := box_tm hb2)
          have hfin := Lib.hid (hrest rfl)
          clear hrest HA1 q0 q1 q2 q3 q4
          obtain ⟨wo, hwo⟩ : ∃ wo : World, wo = w2 := ⟨_, rfl⟩
          subst hwo
          go_loopw [55] (fun i wr => ∃ j : Nat, j ≤ n ∧ i = .int .i64 j ∧ Hid (r = goodFrom (prevVoc br j) (br.drop j)) ∧ Below (w.alloc (.cells #[.string nm, .int .i64 ki, .int .i64 la, .string ⟨#[]⟩, .slice Am n c] 33)).heap.size (w.alloc (.cells #[.string nm, .int .i64 ki, .int .i64 la, .string ⟨#[]⟩, .slice Am n c] 33)) wr) (fun i _ => n - (intOf i).toNat)
          case atStart => exact ⟨0, by omega, rfl, hfin.out, hb2⟩
          case round =>
            obtain ⟨j, hj, rfl, hg, hbw⟩ := hrel
            by_cases hlt : j < n
            · obtain ⟨b, off, x, rfl, hx, hxs, hb0, hcx⟩ := (hbr.below (hbl1.tr hbw)).at_ hlt
              obtain ⟨q0, q1, q2, q3, q4⟩ := box_tm hbw
              have hd := Lib.hid (drop_get hx)
              obtain ⟨a3, ha3⟩ : ∃ a, isName x = a := ⟨_, rfl⟩
              have HA3 := Lib.hid ha3
              have hrd := hr.below (hbl1.tr hbw)
              cases a3 with
              | false =>
                have hres : r = false := by rw [hg.out, hd.out, good_name ha3]
                clear ha3 hx
                go_wp2_with (go_at_call 168; refine (vname_any _ _ hrd hxs).mono ?_; rintro e w5 ⟨rfl, hb5⟩; rw [HA3.out])
                go_ret
                exact ⟨ret_bool hres.symm, (hbl1.tr hbw).tr hb5⟩
              | true =>
                by_cases hj0 : j = 0
                · subst hj0
                  have hres : r = goodFrom (prevVoc br 1) (br.drop 1) := by rw [hg.out, hd.out, prevOf_zero, good_step ha3 rfl, prevOf_succ hx]
                  have HRS := Lib.hid hres
                  clear ha3 hx hres
                  have hcx0 : wr.cell? ⟨b, off, none⟩ = some (.string x) := by simpa using hcx
                  go_wp2_with (go_at_call 168; refine (vname_any _ _ hrd hxs).mono ?_; rintro e w5 ⟨rfl, hb5⟩; rw [HA3.out])
                  go_roundw
                  case rel => exact ⟨1, by omega, by go_num, HRS.out, hbw.tr hb5⟩
                  case measure => simp [intOf]; omega
                · obtain ⟨b', off', y, hA', hy, hys, hb0', hcy⟩ := (hbr.below (hbl1.tr hbw)).at_ (k := j - 1) (by omega)
                  injection hA' with hA'
                  injection hA' with hA1 hA2
                  subst hA1; subst hA2
                  have hprev : prevVoc br j = some y := by unfold prevVoc; rw [if_neg hj0]; exact hy
                  have hj1 : (0 : Int) < j := by omega
                  have hj2 : (0 : Int) ≤ (j : Int) - 1 := by omega
                  have hj3 : (j : Int) - 1 < n := by omega
                  have hj4 : ((j : Int) - 1).toNat = j - 1 := by omega
                  have hwrap := IntWalk.i64_in ((j : Int) - 1) (by omega)
                  have hres1 : ltS y x = false → r = false := fun h => by rw [hg.out, hd.out, hprev, good_late h]
                  have hres2 : ltS y x = true → r = goodFrom (prevVoc br (j + 1)) (br.drop (j + 1)) := fun h => by rw [hg.out, hd.out, hprev, good_step (p := some y) ha3 h, prevOf_succ hx]
                  clear ha3 hx hy hprev
                  rcases cmp3 x y with ⟨f1, f2, f3⟩ | ⟨f1, f2, f3⟩ | ⟨f1, f2, f3⟩
                  · have HRS := Lib.hid (hres1 f3)
                    clear hres1 hres2 f3
                    go_wp2_with (go_at_call 168; refine (vname_any _ _ hrd hxs).mono ?_; rintro e w5 ⟨rfl, hb5⟩; rw [HA3.out]; obtain ⟨p0, p1, p2, p3, p4⟩ := box_tm (hbw.tr hb5); have hcy5 := (hb5.cell (p := ⟨b, off + (j - 1), none⟩) hb0').trans hcy)
                    go_ret
                    exact ⟨ret_bool HRS.out.symm, (hbl1.tr hbw).tr hb5⟩
                  · have HRS := Lib.hid (hres1 f3)
                    clear hres1 hres2 f3
                    go_wp2_with (go_at_call 168; refine (vname_any _ _ hrd hxs).mono ?_; rintro e w5 ⟨rfl, hb5⟩; rw [HA3.out]; obtain ⟨p0, p1, p2, p3, p4⟩ := box_tm (hbw.tr hb5); have hcy5 := (hb5.cell (p := ⟨b, off + (j - 1), none⟩) hb0').trans hcy)
                    go_ret
                    exact ⟨ret_bool HRS.out.symm, (hbl1.tr hbw).tr hb5⟩
                  · have HRS := Lib.hid (hres2 f3)
                    clear hres1 hres2 f3
                    go_wp2_with (go_at_call 168; refine (vname_any _ _ hrd hxs).mono ?_; rintro e w5 ⟨rfl, hb5⟩; rw [HA3.out]; obtain ⟨p0, p1, p2, p3, p4⟩ := box_tm (hbw.tr hb5); have hcy5 := (hb5.cell (p := ⟨b, off + (j - 1), none⟩) hb0').trans hcy)
                    go_roundw
                    case rel => exact ⟨j + 1, by omega, by go_num, HRS.out, hbw.tr hb5⟩
                    case measure => simp [intOf]; omega
            · have hd := Lib.hid (drop_len hlen hlt)
              go_wp2
              go_ret
              exact ⟨ret_bool (by rw [hg.out, hd.out]; rfl), hbl1.tr hbw⟩
        · have h8' : (8 : Int) < n := by omega
          obtain rfl : false = r := by rw [← hr0]; exact (poss_long (by show ¬ br.length ≤ 8; omega)).symm
          clear ha1 hr0 hrest
          go_enter Tryz.func126, Tryz.ntmps126
          go_wp2_with (go_at_call 168; refine (vname_any _ _ (hr.below hbl1) hnm).mono ?_; rintro e w2 ⟨rfl, hb2⟩; rw [HA1.out]; obtain ⟨q0, q1, q2, q3, q4⟩ := box_tm hb2)
          go_ret
          exact ⟨rfl, hbl1.tr hb2⟩
    · obtain rfl : false = r := by rw [← hr0]; exact (poss_num hnum).symm
      have hn4 : ki < 0 ∨ (0 ≤ ki ∧ 3 ≤ ki) ∨ (0 ≤ ki ∧ ki < 3 ∧ la < 0) ∨ (0 ≤ ki ∧ ki < 3 ∧ 0 ≤ la ∧ 4 ≤ la) := by omega
      clear ha1 hr0 hnum
      rcases hn4 with k1 | ⟨k1, k2⟩ | ⟨k1, k2, k3⟩ | ⟨k1, k2, k3, k4⟩
      all_goals
        go_enter Tryz.func126, Tryz.ntmps126
        go_wp2_with (go_at_call 168; refine (vname_any _ _ (hr.below hbl1) hnm).mono ?_; rintro e w2 ⟨rfl, hb2⟩; rw [HA1.out]; obtain ⟨q0, q1, q2, q3, q4⟩ := box_tm hb2)
        go_ret
        exact ⟨rfl, hbl1.tr hb2⟩
end Go.Proofs.YtdfnfimajhagfaaGreatDoor
