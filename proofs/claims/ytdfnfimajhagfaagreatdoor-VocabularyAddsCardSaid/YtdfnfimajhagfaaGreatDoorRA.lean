/- Adding to a vocabulary: the plain law; walks of the reference's SameTerm, Same, Add. -/
import Derived.Test.YtdfnfimajhagfaaGreatDoorT13
namespace Rf
open Go.Proofs.YtdfnfimajhagfaaGreatDoor (place isAt place_eq isAt_some isAt_none isAt_lt)
theorem place_at {l : List Term} (hv : VOk l) {k : Nat} {u : Term} (h : l[k]? = some u) : place l u.name = k := by
  obtain ⟨hk, hu⟩ := List.getElem?_eq_some_iff.1 h
  refine place_eq (Nat.le_of_lt hk) (fun i t hi ht => ?_) (fun t ht => ?_)
  · obtain ⟨hi', hti⟩ := List.getElem?_eq_some_iff.1 ht
    have := List.pairwise_iff_getElem.1 hv.sorted i k (by simpa using hi') (by simpa using hk) hi
    simpa [hti, hu] using this
  · rw [h] at ht
    injection ht with ht
    rw [← ht]; exact ltS_irrefl _
theorem isAt_at {l : List Term} (hv : VOk l) {k : Nat} {u : Term} (h : l[k]? = some u) : isAt l u.name = true := by
  rw [isAt_some (t := u) (by rw [place_at hv h]; exact h)]
  exact decide_eq_true rfl
/-- the same once more changes nothing -/
theorem addL_same {l : List Term} (hv : VOk l) {k : Nat} {u : Term} (h : l[k]? = some u) : addL l u = l := by
  unfold addL
  rw [if_pos (isAt_at hv h), place_at hv h]
  obtain ⟨hk, hu⟩ := List.getElem?_eq_some_iff.1 h
  rw [← hu]; exact List.set_getElem_self hk
theorem place_le : ∀ (l : List Term) (s : S), place l s ≤ l.length
  | [], _ => Nat.le_refl _
  | t :: l, s => by
    unfold place
    split
    · have := place_le l s; simp; omega
    · simp
/-- the new term stands in its place -/
theorem addL_at (l : List Term) (t : Term) : (addL l t)[place l t.name]? = some t := by
  unfold addL
  split
  · next h => rw [List.getElem?_set_self (isAt_lt h)]
  · have hp := place_le l t.name
    rw [List.getElem?_append_right (by rw [List.length_take]; omega), List.length_take, Nat.min_eq_left hp, Nat.sub_self]; rfl
theorem addL_mem {l : List Term} {t u : Term} (hu : u ∈ l) (hne : ¬ u.name = t.name) : u ∈ addL l t := by
  unfold addL
  split
  · next h =>
    obtain ⟨j, hj, rfl⟩ := List.getElem_of_mem hu
    have hpj : place l t.name ≠ j := by
      intro e
      subst e
      rw [isAt_some (List.getElem?_eq_getElem hj), decide_eq_true_iff] at h
      exact hne h
    exact List.mem_of_getElem? (by rw [List.getElem?_set_ne hpj]; exact List.getElem?_eq_getElem hj)
  · rw [← List.take_append_drop (place l t.name) l] at hu
    rcases List.mem_append.1 hu with hu | hu
    · exact List.mem_append_left _ hu
    · exact List.mem_append_right _ (List.mem_cons_of_mem _ hu)
theorem addV_ok {l : List Term} {t : Term} (h : (addV l t).2 = 0) : (vvalid l).2 = 0 ∧ (vvalid (addL l t)).2 = 0 ∧ (addV l t).1 = addL l t := by
  unfold addV at *
  by_cases h1 : (vvalid l).2 = 0
  · rw [if_pos h1] at h ⊢
    by_cases h2 : (vvalid (addL l t)).2 = 0
    · rw [if_pos h2]; exact ⟨h1, h2, rfl⟩
    · rw [if_neg h2] at h; exact absurd h h2
  · rw [if_neg h1] at h; exact absurd h h1
theorem addV_again {l : List Term} {t : Term} (h : (addV l t).2 = 0) : addV (addL l t) t = (addL l t, 0) := by
  obtain ⟨h1, h2, _⟩ := addV_ok h
  have e := addL_same (vok (show (vvalid (addL l t)).2 = eOK from h2)) (addL_at l t)
  unfold addV
  rw [if_pos h2, e, if_pos h2]
theorem addV_own {l : List Term} (h : (vvalid l).2 = 0) {k : Nat} {u : Term} (hu : l[k]? = some u) : addV l u = (l, 0) := by
  have e := addL_same (vok (show (vvalid l).2 = eOK from h)) hu
  unfold addV
  rw [if_pos h, e, if_pos h]
/-- every term of the list is found in the new one; and it is the same, if it is not the one that was put -/
theorem addL_find {l : List Term} {t : Term} (h : (addV l t).2 = 0) {k : Nat} {u : Term} (hu : l[k]? = some u) : ∃ j v, findAt (addL l t) u.name 0 = ((j : Nat) : Int) ∧ j < (addL l t).length ∧ (addL l t)[j]? = some v ∧ (¬ u.name = t.name → v = u) := by
  obtain ⟨h1, h2, _⟩ := addV_ok h
  have hv := vok (show (vvalid (addL l t)).2 = eOK from h2)
  have hum := List.mem_of_getElem? hu
  have hex : ∃ w, findT (addL l t) u.name = some w := by
    by_cases hn : u.name = t.name
    · rw [hn]; exact findT_ex (List.mem_of_getElem? (addL_at l t))
    · exact findT_ex (addL_mem hum hn)
  obtain ⟨w, hw⟩ := hex
  rcases findAt_cases (addL l t) u.name 0 with ⟨f1, _⟩ | ⟨j, v, f1, f2, f3⟩
  · rw [f1] at hw; cases hw
  · rw [Nat.zero_add] at f2
    refine ⟨j, v, f2, (List.getElem?_eq_some_iff.1 f3).1, f3, fun hn => ?_⟩
    obtain ⟨g1, g2⟩ := findT_some f1
    exact one_name hv.sorted g1 (addL_mem hum hn) g2
theorem place_cons {t : Term} {l : List Term} {s : S} : place (t :: l) s = if ltS t.name s = true then place l s + 1 else 0 := rfl
end Rf
namespace Go.Proofs.YtdfnfimajhagfaaGreatDoor
open Go.RowKit Go.Maps Rf
set_option maxRecDepth 20000 in
set_option maxHeartbeats 2000000 in
theorem sameTerm_any (t : Term) (A B : Option Addr) (n c d : Nat) (w : World) (hn : n ≤ 1000000) (ha : Strs w A n t.broader) (hb : Strs w B n t.broader) :
    Calls Tryz.prog 79 #[.agg #[.string t.name, .int .i64 t.kind, .int .i64 t.lang, .string t.see, .slice A n c], .agg #[.string t.name, .int .i64 t.kind, .int .i64 t.lang, .string t.see, .slice B n d]] w fun e w' => e = .returned (.bool true) ∧ Below w.heap.size w w' := by
  have hb2 : Below w.heap.size w ((w.alloc (.cells #[.string t.name, .int .i64 t.kind, .int .i64 t.lang, .string t.see, .slice A n c] 33)).alloc (.cells #[.string t.name, .int .i64 t.kind, .int .i64 t.lang, .string t.see, .slice B n d] 33)) := (brefl.al _).al _
  go_enter Tryz.func79, Tryz.ntmps79
  go_wp2_with (go_at_call 29; go_loud (refine (sameTexts_any A B n c d t.broader _ (by omega) (ha.below hb2) (hb.below hb2)).mono ?_; rintro e w2 ⟨rfl, hb3⟩))
  go_ret
  exact ⟨rfl, hb2.tr hb3⟩
set_option maxRecDepth 20000 in
set_option maxHeartbeats 2000000 in
theorem rsame_any (A B : Option Addr) (n c d : Nat) (ms ls : List TM) (w : World) (hm : n ≤ 1000000) (ha : Tms w A n ms) (hb : Tms w B n ls) (he : terms ms = terms ls) :
    Calls Tryz.prog 19 #[.slice A n c, .slice B n d] w fun e w' => e = .returned (.bool true) ∧ Below w.heap.size w w' := by
  have HE := Lib.hid he
  clear he
  go_enter Tryz.func19, Tryz.ntmps19
  go_wp2
  go_loopw [5] (fun i wr => ∃ k : Nat, k ≤ n ∧ i = .int .i64 k ∧ Below w.heap.size w wr) (fun i _ => n - (intOf i).toNat)
  case atStart => exact ⟨0, by omega, rfl, brefl⟩
  case round =>
    obtain ⟨k, hk, rfl, hbl⟩ := hrel
    by_cases hlt : k < n
    · obtain ⟨b, off, x, rfl, hx, hxo, hb0, c0, c1, c2, c3, c4⟩ := (ha.below hbl).at_ hlt
      obtain ⟨b', off', y, rfl, hy, hyo, hb0', e0, e1, e2, e3, e4⟩ := (hb.below hbl).at_ hlt
      have hlt' : (k : Int) < n := by omega
      have hty : y.t = x.t := by
        have h1 := terms_get hx
        rw [HE.out, terms_get hy] at h1
        exact Option.some.inj h1
      have hxb := hxo.br
      have hyb := hyo.br
      have hxf := hxo.few
      rw [hty] at hyb
      have hyn : y.n = x.n := hyb.1.symm.trans hxb.1
      rw [hyn] at hyb
      rw [hty] at e0 e1 e2 e3
      rw [hyn] at e4
      clear hx hy hxo hyo hty hyn
      have hcells : ∀ wz, Below wr.heap.size wr wz → (wz.cell? ⟨b, off + k * 5, none⟩ = some (.string x.t.name) ∧ wz.cell? ⟨b, off + k * 5 + 1, none⟩ = some (.int .i64 x.t.kind) ∧ wz.cell? ⟨b, off + k * 5 + 2, none⟩ = some (.int .i64 x.t.lang) ∧ wz.cell? ⟨b, off + k * 5 + 3, none⟩ = some (.string x.t.see) ∧ wz.cell? ⟨b, off + k * 5 + 4, none⟩ = some (.slice x.A x.n x.c)) ∧
          wz.cell? ⟨b', off' + k * 5, none⟩ = some (.string x.t.name) ∧ wz.cell? ⟨b', off' + k * 5 + 1, none⟩ = some (.int .i64 x.t.kind) ∧ wz.cell? ⟨b', off' + k * 5 + 2, none⟩ = some (.int .i64 x.t.lang) ∧ wz.cell? ⟨b', off' + k * 5 + 3, none⟩ = some (.string x.t.see) ∧ wz.cell? ⟨b', off' + k * 5 + 4, none⟩ = some (.slice y.A x.n y.c) := fun wz hz =>
        ⟨⟨(hz.cell (p := ⟨b, off + k * 5, none⟩) hb0).trans c0, (hz.cell (p := ⟨b, off + k * 5 + 1, none⟩) hb0).trans c1, (hz.cell (p := ⟨b, off + k * 5 + 2, none⟩) hb0).trans c2, (hz.cell (p := ⟨b, off + k * 5 + 3, none⟩) hb0).trans c3, (hz.cell (p := ⟨b, off + k * 5 + 4, none⟩) hb0).trans c4⟩,
          (hz.cell (p := ⟨b', off' + k * 5, none⟩) hb0').trans e0, (hz.cell (p := ⟨b', off' + k * 5 + 1, none⟩) hb0').trans e1, (hz.cell (p := ⟨b', off' + k * 5 + 2, none⟩) hb0').trans e2, (hz.cell (p := ⟨b', off' + k * 5 + 3, none⟩) hb0').trans e3, (hz.cell (p := ⟨b', off' + k * 5 + 4, none⟩) hb0').trans e4⟩
      have hbc : Below wr.heap.size wr wr.drew := brefl.drn 1
      have hS := hcells _ hbc
      clear c0 c1 c2 c3 c4 e0 e1 e2 e3 e4
      go_wp2
      refine wp_region_mix [(true, 0), (true, 1), (true, 2), (true, 3), (true, 4), (true, 5), (true, 6), (true, 7), (false, 8), (true, 9)] 10 (fun wz => (wz.cell? ⟨b, off + k * 5, none⟩ = some (.string x.t.name) ∧ wz.cell? ⟨b, off + k * 5 + 1, none⟩ = some (.int .i64 x.t.kind) ∧ wz.cell? ⟨b, off + k * 5 + 2, none⟩ = some (.int .i64 x.t.lang) ∧ wz.cell? ⟨b, off + k * 5 + 3, none⟩ = some (.string x.t.see) ∧ wz.cell? ⟨b, off + k * 5 + 4, none⟩ = some (.slice x.A x.n x.c)) ∧ wz.cell? ⟨b', off' + k * 5, none⟩ = some (.string x.t.name) ∧ wz.cell? ⟨b', off' + k * 5 + 1, none⟩ = some (.int .i64 x.t.kind) ∧ wz.cell? ⟨b', off' + k * 5 + 2, none⟩ = some (.int .i64 x.t.lang) ∧ wz.cell? ⟨b', off' + k * 5 + 3, none⟩ = some (.string x.t.see) ∧ wz.cell? ⟨b', off' + k * 5 + 4, none⟩ = some (.slice y.A x.n y.c)) (by kernel_rfl) (by kernel_rfl) ?_
      refine wpMix_put (v := ?_) rfl rfl (Or.inl ⟨by rfl, fun wz hz => ?_⟩) hS ?_
      rotate_left
      (focus (go_simp; try (with_reducible rfl)))
      simp only [List.setIfInBounds_toArray, List.set_cons_succ, List.set_cons_zero]
      refine wpMix_put (v := ?_) rfl rfl (Or.inl ⟨by rfl, fun wz hz => ?_⟩) hS ?_
      rotate_left
      (focus (go_simp; try (with_reducible rfl)))
      simp only [List.setIfInBounds_toArray, List.set_cons_succ, List.set_cons_zero]
      refine wpMix_put (v := ?_) rfl rfl (Or.inl ⟨by rfl, fun wz hz => ?_⟩) hS ?_
      rotate_left
      (focus (go_simp; try (with_reducible rfl)))
      simp only [List.setIfInBounds_toArray, List.set_cons_succ, List.set_cons_zero]
      refine wpMix_put (v := ?_) rfl rfl (Or.inl ⟨by rfl, fun wz hz => ?_⟩) hS ?_
      rotate_left
      (focus (go_simp; try (with_reducible rfl)))
      simp only [List.setIfInBounds_toArray, List.set_cons_succ, List.set_cons_zero]
      refine wpMix_put (v := ?_) rfl rfl (Or.inl ⟨by rfl, fun wz hz => ?_⟩) hS ?_
      rotate_left
      (focus (go_simp; try (with_reducible rfl)))
      simp only [List.setIfInBounds_toArray, List.set_cons_succ, List.set_cons_zero]
      refine wpMix_put (v := ?_) rfl rfl (Or.inl ⟨by rfl, fun wz hz => ?_⟩) hS ?_
      rotate_left
      (focus (go_simp; try (with_reducible rfl)))
      simp only [List.setIfInBounds_toArray, List.set_cons_succ, List.set_cons_zero]
      refine wpMix_put (v := ?_) rfl rfl (Or.inl ⟨by rfl, fun wz hz => ?_⟩) hS ?_
      rotate_left
      (focus (go_simp; try (with_reducible rfl)))
      simp only [List.setIfInBounds_toArray, List.set_cons_succ, List.set_cons_zero]
      refine wpMix_put (v := ?_) rfl rfl (Or.inl ⟨by rfl, fun wz hz => ?_⟩) hS ?_
      rotate_left
      (focus (go_simp; try (with_reducible rfl)))
      simp only [List.setIfInBounds_toArray, List.set_cons_succ, List.set_cons_zero]
      refine wpMix_step rfl (fun K hK => ?_)
      go_simp
      refine (sameTerm_any x.t x.A y.A x.n x.c y.c _ (by omega) (hxb.below hbc) (hyb.below hbc)).mono ?_
      rintro e w5 ⟨rfl, hbd⟩
      go_simp
      have hbc' := hbc.tr hbd
      clear hbc hbd
      have hbc := hbc'
      clear hbc'
      have hS7 := hcells _ hbc
      refine hK _ _ (fun _ => hS7) ?_
      clear hK K hS
      have hS := hS7
      clear hS7
      refine wpMix_put (v := ?_) rfl rfl (Or.inl ⟨by rfl, fun wz hz => ?_⟩) hS ?_
      rotate_left
      (focus (go_simp; try (with_reducible rfl)))
      simp only [List.setIfInBounds_toArray, List.set_cons_succ, List.set_cons_zero]
      refine wpMix_nil ?_
      go_wp2
      go_roundw
      case rel => exact ⟨k + 1, by omega, by go_num, hbl.tr hbc⟩
      case measure => simp [intOf]; omega
    · have hlt' : ¬ (k : Int) < n := by omega
      go_wp2
      go_ret
      exact ⟨rfl, hbl⟩
set_option maxRecDepth 20000 in
set_option maxHeartbeats 8000000 in
theorem radd_any (A : Option Addr) (n c : Nat) (ms : List TM) (mt : TM) (w : World) (hm : n ≤ 100000) (hnc : n ≤ c) (hl : Tms w A n ms) (hsm : ∀ m ∈ ms, m.small) (hok : mt.ok w) (hst : mt.small) :
    Calls Tryz.prog 18 #[.slice A n c, .agg #[.string mt.t.name, .int .i64 mt.t.kind, .int .i64 mt.t.lang, .string mt.t.see, .slice mt.A mt.n mt.c]] w (AddQ w n (terms ms) mt.t) := by
  have hlen := terms_length hl
  have hml := hl.1
  obtain ⟨wb, hwb⟩ : ∃ wb, w.alloc (.cells #[.string mt.t.name, .int .i64 mt.t.kind, .int .i64 mt.t.lang, .string mt.t.see, .slice mt.A mt.n mt.c] 33) = wb := ⟨_, rfl⟩
  have hb0 : Below w.heap.size w wb := by rw [← hwb]; exact brefl.al _
  have hbox : ∀ wz, Below wb.heap.size wb wz → wz.cell? ⟨w.heap.size, 0, none⟩ = some (.string mt.t.name) ∧ wz.cell? ⟨w.heap.size, 1, none⟩ = some (.int .i64 mt.t.kind) ∧ wz.cell? ⟨w.heap.size, 2, none⟩ = some (.int .i64 mt.t.lang) ∧ wz.cell? ⟨w.heap.size, 3, none⟩ = some (.string mt.t.see) ∧ wz.cell? ⟨w.heap.size, 4, none⟩ = some (.slice mt.A mt.n mt.c) := fun wz hz => by
    rw [← hwb] at hz
    exact box_five w _ _ _ _ _ _ hz
  have HBX := Lib.hid hbox
  have hv := rvalid_any A n c ms wb hm (hl.below hb0) hsm
  clear hbox
  by_cases h0 : (vvalid (terms ms)).2 = 0
  · have hv0 := Lib.hid h0
    have hn128 : n ≤ 128 := by
      rcases Nat.lt_or_ge 128 n with h | h
      · unfold vvalid at h0
        rw [if_pos (by rw [hlen]; exact h)] at h0; cases h0
      · exact h
    rw [h0] at hv
    clear h0
    go_enter Tryz.func18, Tryz.ntmps18
    go_wp2_with (go_at_call 13; go_loud (refine hv.mono ?_; rintro e w2 ⟨rfl, hb2⟩))
    clear hwb hv
    have hbw2 := hb0.tr hb2
    go_loopw [8] (fun ii wr => ∃ k : Nat, k ≤ n ∧ ii = .int .i64 k ∧ Hid (place (terms ms) mt.t.name = k + place ((terms ms).drop k) mt.t.name) ∧ Below w2.heap.size w2 wr) (fun ii _ => n - (intOf ii).toNat)
    case atStart => exact ⟨0, by omega, rfl, Lib.hid (by simp), brefl⟩
    case round =>
      obtain ⟨k, hk, rfl, hP, hb⟩ := hrel
      have hbr := hbw2.tr hb
      obtain ⟨q0, q1, q2, q3, q4⟩ := HBX.out wr (hb2.tr hb)
      by_cases hlt : k < n
      · obtain ⟨b, off, m, rfl, hx, hmk, hbb, d1, d2, d3, d4, d5⟩ := (hl.below hbr).at_ hlt
        have hlt' : decide ((k : Int) < n) = true := by rw [decide_eq_true_iff]; omega
        have htk := terms_get hx
        have hd := drop_get htk
        clear hx hmk
        cases hlo : Op.bytesLess m.t.name.toList mt.t.name.toList
        · have HP := Lib.hid (show place (terms ms) mt.t.name = k from by rw [hP.out, hd, place_cons, if_neg (by unfold ltS; rw [hlo]; simp)]; rfl)
          cases heq : m.t.name.toList == mt.t.name.toList
          · have hne : ¬ m.t.name = mt.t.name := fun e => by rw [e] at heq; simp at heq
            have HA := Lib.hid (show addL (terms ms) mt.t = (terms ms).take k ++ mt.t :: (terms ms).drop k from by
              unfold addL
              rw [if_neg (by rw [isAt_some (t := m.t) (by rw [HP.out]; exact htk)]; simp [hne]), HP.out])
            clear htk hd hne
            go_wp2
            go_quiet (fail)
            obtain ⟨nq1, hnq1⟩ : ∃ nq1, nq1 = nq := ⟨_, rfl⟩
            subst hnq1
            go_wp2
            go_quiet (fail)
            go_wp2
            have hki : (k : Int) ≤ n := by omega
            have hkc : (k : Int) ≤ c := by omega
            have L1 := Lib.hid (show (tmsCells (ms.take k)).length = k * 5 from by rw [tmsCells_length, List.length_take, hml]; omega)
            have L2 := Lib.hid (show (tmsCells (ms.drop k)).length = (n - k) * 5 from by rw [tmsCells_length, List.length_drop, hml])
            obtain ⟨w5, hw5⟩ : ∃ w5 : World, w5 = ((wr.drewN nq1).drewN nq).drew := ⟨_, rfl⟩
            have hbw5 : Below w.heap.size w w5 := by rw [hw5]; exact (((hbr.drn nq1).drn nq)).drn 1
            have R0 := (hl.below hbw5).2.2
            have r1 := R0.take (k * 5)
            rw [tmsCells_take] at r1
            have R1 := Lib.hid r1
            clear r1
            have r2 := R0.dropTm (k := k) (c := c) (by omega)
            have hcells : ∀ wz, Below w5.heap.size w5 wz → wz.cell? ⟨w.heap.size, 0, none⟩ = some (.string mt.t.name) ∧ wz.cell? ⟨w.heap.size, 1, none⟩ = some (.int .i64 mt.t.kind) ∧ wz.cell? ⟨w.heap.size, 2, none⟩ = some (.int .i64 mt.t.lang) ∧ wz.cell? ⟨w.heap.size, 3, none⟩ = some (.string mt.t.see) ∧ wz.cell? ⟨w.heap.size, 4, none⟩ = some (.slice mt.A mt.n mt.c) := fun wz hz => HBX.out wz (by have this : Below wb.heap.size wb ((wr.drewN nq1).drewN nq).drew := ((((hb2.tr hb).drn nq1).drn nq)).drn 1; rw [← hw5] at this; exact this.tr hz)
            have hce : ¬ c = k := by omega
            rw [if_neg hce] at r2
            try simp only [Option.map_some, addr_add] at r2
            have R2 := Lib.hid r2
            clear r2
            obtain ⟨wc, hwc⟩ : ∃ wc : World, wc = w5 := ⟨_, rfl⟩
            have hbX : Below w5.heap.size w5 wc := by rw [hwc]; exact brefl
            go_wp2
            refine wp_region_plan (.take 1 (.take 2 (.take 3 (.take 5 (.take 8 (.take 9 (.take 10 (.two 0 (.two 4 (.one 6 (.one 7 (.one 11 (.take 12 (.done))))) 6 (.one 4 (.one 7 (.one 11 (.take 12 (.done)))))) 6 (.one 0 (.one 4 (.one 7 (.one 11 (.take 12 (.done)))))))))))))) 13 (fun wz => wz.cell? ⟨w.heap.size, 0, none⟩ = some (.string mt.t.name) ∧ wz.cell? ⟨w.heap.size, 1, none⟩ = some (.int .i64 mt.t.kind) ∧ wz.cell? ⟨w.heap.size, 2, none⟩ = some (.int .i64 mt.t.lang) ∧ wz.cell? ⟨w.heap.size, 3, none⟩ = some (.string mt.t.see) ∧ wz.cell? ⟨w.heap.size, 4, none⟩ = some (.slice mt.A mt.n mt.c)) (by kernel_rfl) (by kernel_rfl) ?_
            rw [← hw5, ← hwc]; clear hw5 hwc
            refine wpPlan_put (v := ?_) rfl rfl (Or.inl ⟨by rfl, fun wz hz => ?_⟩) (hcells _ hbX) ?_
            rotate_left
            (focus (go_simp; try (with_reducible rfl)))
            simp only [List.setIfInBounds_toArray, List.set_cons_succ, List.set_cons_zero]
            refine wpPlan_put (v := ?_) rfl rfl (Or.inl ⟨by rfl, fun wz hz => ?_⟩) (hcells _ hbX) ?_
            rotate_left
            (focus (go_simp; try (with_reducible rfl)))
            simp only [List.setIfInBounds_toArray, List.set_cons_succ, List.set_cons_zero]
            refine wpPlan_put (v := ?_) rfl rfl (Or.inl ⟨by rfl, fun wz hz => ?_⟩) (hcells _ hbX) ?_
            rotate_left
            (focus (go_simp; try (with_reducible rfl)))
            simp only [List.setIfInBounds_toArray, List.set_cons_succ, List.set_cons_zero]
            refine wpPlan_put (v := ?_) rfl rfl (Or.inl ⟨by rfl, fun wz hz => ?_⟩) (hcells _ hbX) ?_
            rotate_left
            (focus (go_simp; try (with_reducible rfl)))
            simp only [List.setIfInBounds_toArray, List.set_cons_succ, List.set_cons_zero]
            refine wpPlan_put (v := ?_) rfl rfl (Or.inl ⟨by rfl, fun wz hz => ?_⟩) (hcells _ hbX) ?_
            rotate_left
            (focus (go_simp; try (with_reducible rfl)))
            simp only [List.setIfInBounds_toArray, List.set_cons_succ, List.set_cons_zero]
            refine wpPlan_put (v := ?_) rfl rfl (Or.inl ⟨by rfl, fun wz hz => ?_⟩) (hcells _ hbX) ?_
            rotate_left
            (focus (go_simp; try (with_reducible rfl)))
            simp only [List.setIfInBounds_toArray, List.set_cons_succ, List.set_cons_zero]
            refine wpPlan_put (v := ?_) rfl rfl (Or.inl ⟨by rfl, fun wz hz => ?_⟩) (hcells _ hbX) ?_
            rotate_left
            (focus (go_simp; try (with_reducible rfl)))
            simp only [List.setIfInBounds_toArray, List.set_cons_succ, List.set_cons_zero]
            refine wpPlan_two ?_ ?_
            · skip
              refine wpForced_step rfl (fun K hK => ?_)
              go_simp
              have hX2 := hbX.al (.cells #[] 33)
              have hO := Own.empty wc 33 5 (base := w5.heap.size) hbX.size
              try replace hV := hV.alloc (.cells #[] 33)
              have hob : ∀ g, (Value.slice (some ⟨wc.heap.size, 0, none⟩) 0 0).ownBlock = some g → g = wc.heap.size := fun g e => by simp [Value.ownBlock] at e; exact e.symm
              try (have hNE : ∀ g, (Value.slice (some ⟨wc.heap.size, 0, none⟩) 0 0).ownBlock = some g → g ≠ vb := fun g e => by have := hob g e; omega)
              replace hbX := hX2
              refine hK _ _ (fun _ => hcells _ hbX) ?_
              clear hK K hX2 hob
              generalize wc.heap.size = ob at *
              generalize wc.alloc (.cells #[] 33) = wc at *
              refine wpPlan_two ?_ ?_
              · skip
                refine wpForced_step rfl (fun K hK => ?_)
                refine step_app _ termsT rfl (.tmp 54) (.tmp 57) rfl hO rfl rfl (news := tmsCells (ms.take k)) L1.out (R1.out.below hbX) (tms_one _) ?_ ?_ ?_
                · omega
                · omega
                intro A7 c7 w7 o7 n7 g7 e7
                simp only [Nat.zero_add, List.nil_append] at o7 n7 e7
                go_simp
                have hX2 := hbX.gr g7 hO.row
                try (replace hV := hV.grown g7 (fun b off e => by injection e with e; injection e with e1 e2; intro h; exact hNE _ h.symm e1.symm))
                try replace hvz := Nat.lt_of_lt_of_le hvz g7.size
                try clear hNE
                replace hbX := hX2
                refine hK _ _ (fun _ => hcells _ hbX) ?_
                clear hK K hX2 hO g7 e7
                have hO := o7
                clear o7
                generalize w7 = wc at *
                refine wpPlan_one ?_
                refine wpForced_step rfl (fun K hK => ?_)
                go_simp
                have hX2 := hbX.al (.cells #[.string mt.t.name, .int .i64 mt.t.kind, .int .i64 mt.t.lang, .string mt.t.see, .slice mt.A mt.n mt.c] 33)
                have hV := Rds.new5 wc rfl (.string mt.t.name) (.int .i64 mt.t.kind) (.int .i64 mt.t.lang) (.string mt.t.see) (.slice mt.A mt.n mt.c) 33
                try (have hNE : ∀ g, _ = some g → g ≠ wc.heap.size := fun g e => Nat.ne_of_lt (hO.lt g e))
                try replace hO := hO.alloc (.cells #[.string mt.t.name, .int .i64 mt.t.kind, .int .i64 mt.t.lang, .string mt.t.see, .slice mt.A mt.n mt.c] 33)
                have hvz : wc.heap.size < (wc.alloc (.cells #[.string mt.t.name, .int .i64 mt.t.kind, .int .i64 mt.t.lang, .string mt.t.see, .slice mt.A mt.n mt.c] 33)).heap.size := by simp
                replace hbX := hX2
                refine hK _ _ (fun _ => hcells _ hbX) ?_
                clear hK K hX2
                generalize wc.heap.size = vb at *
                generalize wc.alloc (.cells #[.string mt.t.name, .int .i64 mt.t.kind, .int .i64 mt.t.lang, .string mt.t.see, .slice mt.A mt.n mt.c] 33) = wc at *
                refine wpPlan_one ?_
                refine wpForced_step rfl (fun K hK => ?_)
                refine step_app _ termsT rfl (.tmp 58) (.tmp 60) rfl hO rfl rfl (news := [.string mt.t.name, .int .i64 mt.t.kind, .int .i64 mt.t.lang, .string mt.t.see, .slice mt.A mt.n mt.c]) rfl hV (by simp [Value.oneCell']) ?_ ?_ ?_
                · omega
                · omega
                intro A8 c8 w8 o8 n8 g8 e8
                go_simp
                have hX2 := hbX.gr g8 hO.row
                replace hbX := hX2
                refine hK _ _ (fun _ => hcells _ hbX) ?_
                clear hK K hX2 hO g8 e8 hV hvz
                have hO := o8
                clear o8
                generalize w8 = wc at *
                refine wpPlan_one ?_
                refine wpForced_step rfl (fun K hK => ?_)
                refine step_app _ termsT rfl (.tmp 61) (.tmp 64) rfl hO rfl rfl (news := tmsCells (ms.drop k)) L2.out (R2.out.below hbX) (tms_one _) ?_ ?_ ?_
                · omega
                · omega
                intro A9 c9 w9 o9 n9 g9 e9
                go_simp
                have hX2 := hbX.gr g9 hO.row
                replace hbX := hX2
                refine hK _ _ (fun _ => hcells _ hbX) ?_
                clear hK K hX2 hO g9 e9
                refine wpPlan_put (v := ?_) rfl rfl (Or.inl ⟨by rfl, fun wz hz => ?_⟩) (hcells _ hbX) ?_
                rotate_left
                (focus (go_simp; try (with_reducible rfl)))
                simp only [List.setIfInBounds_toArray, List.set_cons_succ, List.set_cons_zero]
                refine wpPlan_nil ?_
                have hb9 : Below w.heap.size w w9 := hbw5.tr hbX
                have hT9 : Tms w9 A9 (k + 1 + (n - k)) (ms.take k ++ mt :: ms.drop k) := Tms.own o9 (by unfold tmsCells; rw [List.flatMap_append, List.flatMap_cons, List.append_assoc]; rfl) (fun x hx => by
                  rcases List.mem_append.1 hx with hx | hx
                  · exact (hl.2.1 x (List.mem_of_mem_take hx)).below hb9
                  · rcases List.mem_cons.1 hx with rfl | hx
                    · exact hok.below hb9
                    · exact (hl.2.1 x (List.mem_of_mem_drop hx)).below hb9)
                have hs9 : ∀ x ∈ ms.take k ++ mt :: ms.drop k, x.small := fun x hx => by
                  rcases List.mem_append.1 hx with hx | hx
                  · exact hsm x (List.mem_of_mem_take hx)
                  · rcases List.mem_cons.1 hx with rfl | hx
                    · exact hst
                    · exact hsm x (List.mem_of_mem_drop hx)
                have HT := Lib.hid (show terms (ms.take k ++ mt :: ms.drop k) = addL (terms ms) mt.t from by rw [HA.out]; unfold terms; simp [List.map_take, List.map_drop])
                clear o9 hcells
                by_cases hf : (vvalid (addL (terms ms) mt.t)).2 = 0
                · have HF := Lib.hid (show addV (terms ms) mt.t = (addL (terms ms) mt.t, 0) from by unfold addV; rw [if_pos hv0.out, if_pos hf])
                  have HV := Lib.hid (show (vvalid (terms (ms.take k ++ mt :: ms.drop k))).2 = 0 from by rw [HT.out]; exact hf)
                  clear hf
                  go_wp2_with (go_at_call 13; go_loud (refine (rvalid_any _ _ _ (ms.take k ++ mt :: ms.drop k) _ (by omega) hT9 hs9).mono ?_; rintro e2 w10 ⟨rfl, hb10⟩; rw [HV.out]))
                  go_ret2
                  refine ⟨_, _, _, (ms.take k ++ mt :: ms.drop k), ?_, n9, by omega, hT9.below hb10, by rw [HF.out]; exact HT.out, hs9, hb9.tr hb10⟩
                  rw [HF.out]
                  try rfl
                · have HF := Lib.hid (show addV (terms ms) mt.t = ([], (vvalid (addL (terms ms) mt.t)).2) from by unfold addV; rw [if_pos hv0.out, if_neg hf])
                  obtain ⟨ve, hve⟩ : ∃ ve, (vvalid (addL (terms ms) mt.t)).2 = ve := ⟨_, rfl⟩
                  rw [hve] at hf HF
                  have HV := Lib.hid (show (vvalid (terms (ms.take k ++ mt :: ms.drop k))).2 = ve from by rw [HT.out]; exact hve)
                  have hvb : (ve == 0) = false := by simpa using hf
                  clear hf hve
                  go_wp2_with (go_at_call 13; go_loud (refine (rvalid_any _ _ _ (ms.take k ++ mt :: ms.drop k) _ (by omega) hT9 hs9).mono ?_; rintro e2 w10 ⟨rfl, hb10⟩; rw [HV.out]))
                  go_ret2
                  refine ⟨none, 0, 0, [], ?_, Nat.le_refl _, Nat.zero_le _, Tms.nil _, by rw [HF.out]; rfl, (fun x hx => by cases hx), hb9.tr hb10⟩
                  rw [HF.out]
                  try rfl
              · skip
                refine wpForced_step rfl (fun K hK => ?_)
                go_simp
                have hX2 := hbX.al (.cells #[.string mt.t.name, .int .i64 mt.t.kind, .int .i64 mt.t.lang, .string mt.t.see, .slice mt.A mt.n mt.c] 33)
                have hV := Rds.new5 wc rfl (.string mt.t.name) (.int .i64 mt.t.kind) (.int .i64 mt.t.lang) (.string mt.t.see) (.slice mt.A mt.n mt.c) 33
                try (have hNE : ∀ g, _ = some g → g ≠ wc.heap.size := fun g e => Nat.ne_of_lt (hO.lt g e))
                try replace hO := hO.alloc (.cells #[.string mt.t.name, .int .i64 mt.t.kind, .int .i64 mt.t.lang, .string mt.t.see, .slice mt.A mt.n mt.c] 33)
                have hvz : wc.heap.size < (wc.alloc (.cells #[.string mt.t.name, .int .i64 mt.t.kind, .int .i64 mt.t.lang, .string mt.t.see, .slice mt.A mt.n mt.c] 33)).heap.size := by simp
                replace hbX := hX2
                refine hK _ _ (fun _ => hcells _ hbX) ?_
                clear hK K hX2
                generalize wc.heap.size = vb at *
                generalize wc.alloc (.cells #[.string mt.t.name, .int .i64 mt.t.kind, .int .i64 mt.t.lang, .string mt.t.see, .slice mt.A mt.n mt.c] 33) = wc at *
                refine wpPlan_one ?_
                refine wpForced_step rfl (fun K hK => ?_)
                refine step_app _ termsT rfl (.tmp 54) (.tmp 57) rfl hO rfl rfl (news := tmsCells (ms.take k)) L1.out (R1.out.below hbX) (tms_one _) ?_ ?_ ?_
                · omega
                · omega
                intro A7 c7 w7 o7 n7 g7 e7
                simp only [Nat.zero_add, List.nil_append] at o7 n7 e7
                go_simp
                have hX2 := hbX.gr g7 hO.row
                try (replace hV := hV.grown g7 (fun b off e => by injection e with e; injection e with e1 e2; intro h; exact hNE _ h.symm e1.symm))
                try replace hvz := Nat.lt_of_lt_of_le hvz g7.size
                try clear hNE
                replace hbX := hX2
                refine hK _ _ (fun _ => hcells _ hbX) ?_
                clear hK K hX2 hO g7 e7
                have hO := o7
                clear o7
                generalize w7 = wc at *
                refine wpPlan_one ?_
                refine wpForced_step rfl (fun K hK => ?_)
                refine step_app _ termsT rfl (.tmp 58) (.tmp 60) rfl hO rfl rfl (news := [.string mt.t.name, .int .i64 mt.t.kind, .int .i64 mt.t.lang, .string mt.t.see, .slice mt.A mt.n mt.c]) rfl hV (by simp [Value.oneCell']) ?_ ?_ ?_
                · omega
                · omega
                intro A8 c8 w8 o8 n8 g8 e8
                go_simp
                have hX2 := hbX.gr g8 hO.row
                replace hbX := hX2
                refine hK _ _ (fun _ => hcells _ hbX) ?_
                clear hK K hX2 hO g8 e8 hV hvz
                have hO := o8
                clear o8
                generalize w8 = wc at *
                refine wpPlan_one ?_
                refine wpForced_step rfl (fun K hK => ?_)
                refine step_app _ termsT rfl (.tmp 61) (.tmp 64) rfl hO rfl rfl (news := tmsCells (ms.drop k)) L2.out (R2.out.below hbX) (tms_one _) ?_ ?_ ?_
                · omega
                · omega
                intro A9 c9 w9 o9 n9 g9 e9
                go_simp
                have hX2 := hbX.gr g9 hO.row
                replace hbX := hX2
                refine hK _ _ (fun _ => hcells _ hbX) ?_
                clear hK K hX2 hO g9 e9
                refine wpPlan_put (v := ?_) rfl rfl (Or.inl ⟨by rfl, fun wz hz => ?_⟩) (hcells _ hbX) ?_
                rotate_left
                (focus (go_simp; try (with_reducible rfl)))
                simp only [List.setIfInBounds_toArray, List.set_cons_succ, List.set_cons_zero]
                refine wpPlan_nil ?_
                have hb9 : Below w.heap.size w w9 := hbw5.tr hbX
                have hT9 : Tms w9 A9 (k + 1 + (n - k)) (ms.take k ++ mt :: ms.drop k) := Tms.own o9 (by unfold tmsCells; rw [List.flatMap_append, List.flatMap_cons, List.append_assoc]; rfl) (fun x hx => by
                  rcases List.mem_append.1 hx with hx | hx
                  · exact (hl.2.1 x (List.mem_of_mem_take hx)).below hb9
                  · rcases List.mem_cons.1 hx with rfl | hx
                    · exact hok.below hb9
                    · exact (hl.2.1 x (List.mem_of_mem_drop hx)).below hb9)
                have hs9 : ∀ x ∈ ms.take k ++ mt :: ms.drop k, x.small := fun x hx => by
                  rcases List.mem_append.1 hx with hx | hx
                  · exact hsm x (List.mem_of_mem_take hx)
                  · rcases List.mem_cons.1 hx with rfl | hx
                    · exact hst
                    · exact hsm x (List.mem_of_mem_drop hx)
                have HT := Lib.hid (show terms (ms.take k ++ mt :: ms.drop k) = addL (terms ms) mt.t from by rw [HA.out]; unfold terms; simp [List.map_take, List.map_drop])
                clear o9 hcells
                by_cases hf : (vvalid (addL (terms ms) mt.t)).2 = 0
                · have HF := Lib.hid (show addV (terms ms) mt.t = (addL (terms ms) mt.t, 0) from by unfold addV; rw [if_pos hv0.out, if_pos hf])
                  have HV := Lib.hid (show (vvalid (terms (ms.take k ++ mt :: ms.drop k))).2 = 0 from by rw [HT.out]; exact hf)
                  clear hf
                  go_wp2_with (go_at_call 13; go_loud (refine (rvalid_any _ _ _ (ms.take k ++ mt :: ms.drop k) _ (by omega) hT9 hs9).mono ?_; rintro e2 w10 ⟨rfl, hb10⟩; rw [HV.out]))
                  go_ret2
                  refine ⟨_, _, _, (ms.take k ++ mt :: ms.drop k), ?_, n9, by omega, hT9.below hb10, by rw [HF.out]; exact HT.out, hs9, hb9.tr hb10⟩
                  rw [HF.out]
                  try rfl
                · have HF := Lib.hid (show addV (terms ms) mt.t = ([], (vvalid (addL (terms ms) mt.t)).2) from by unfold addV; rw [if_pos hv0.out, if_neg hf])
                  obtain ⟨ve, hve⟩ : ∃ ve, (vvalid (addL (terms ms) mt.t)).2 = ve := ⟨_, rfl⟩
                  rw [hve] at hf HF
                  have HV := Lib.hid (show (vvalid (terms (ms.take k ++ mt :: ms.drop k))).2 = ve from by rw [HT.out]; exact hve)
                  have hvb : (ve == 0) = false := by simpa using hf
                  clear hf hve
                  go_wp2_with (go_at_call 13; go_loud (refine (rvalid_any _ _ _ (ms.take k ++ mt :: ms.drop k) _ (by omega) hT9 hs9).mono ?_; rintro e2 w10 ⟨rfl, hb10⟩; rw [HV.out]))
                  go_ret2
                  refine ⟨none, 0, 0, [], ?_, Nat.le_refl _, Nat.zero_le _, Tms.nil _, by rw [HF.out]; rfl, (fun x hx => by cases hx), hb9.tr hb10⟩
                  rw [HF.out]
                  try rfl
            · skip
              refine wpForced_step rfl (fun K hK => ?_)
              go_simp
              have hX2 := hbX.al (.cells #[.string mt.t.name, .int .i64 mt.t.kind, .int .i64 mt.t.lang, .string mt.t.see, .slice mt.A mt.n mt.c] 33)
              have hV := Rds.new5 wc rfl (.string mt.t.name) (.int .i64 mt.t.kind) (.int .i64 mt.t.lang) (.string mt.t.see) (.slice mt.A mt.n mt.c) 33
              try (have hNE : ∀ g, _ = some g → g ≠ wc.heap.size := fun g e => Nat.ne_of_lt (hO.lt g e))
              try replace hO := hO.alloc (.cells #[.string mt.t.name, .int .i64 mt.t.kind, .int .i64 mt.t.lang, .string mt.t.see, .slice mt.A mt.n mt.c] 33)
              have hvz : wc.heap.size < (wc.alloc (.cells #[.string mt.t.name, .int .i64 mt.t.kind, .int .i64 mt.t.lang, .string mt.t.see, .slice mt.A mt.n mt.c] 33)).heap.size := by simp
              replace hbX := hX2
              refine hK _ _ (fun _ => hcells _ hbX) ?_
              clear hK K hX2
              generalize wc.heap.size = vb at *
              generalize wc.alloc (.cells #[.string mt.t.name, .int .i64 mt.t.kind, .int .i64 mt.t.lang, .string mt.t.see, .slice mt.A mt.n mt.c] 33) = wc at *
              refine wpPlan_one ?_
              refine wpForced_step rfl (fun K hK => ?_)
              go_simp
              have hX2 := hbX.al (.cells #[] 33)
              have hO := Own.empty wc 33 5 (base := w5.heap.size) hbX.size
              try replace hV := hV.alloc (.cells #[] 33)
              have hob : ∀ g, (Value.slice (some ⟨wc.heap.size, 0, none⟩) 0 0).ownBlock = some g → g = wc.heap.size := fun g e => by simp [Value.ownBlock] at e; exact e.symm
              try (have hNE : ∀ g, (Value.slice (some ⟨wc.heap.size, 0, none⟩) 0 0).ownBlock = some g → g ≠ vb := fun g e => by have := hob g e; omega)
              replace hbX := hX2
              refine hK _ _ (fun _ => hcells _ hbX) ?_
              clear hK K hX2 hob
              generalize wc.heap.size = ob at *
              generalize wc.alloc (.cells #[] 33) = wc at *
              refine wpPlan_one ?_
              refine wpForced_step rfl (fun K hK => ?_)
              refine step_app _ termsT rfl (.tmp 54) (.tmp 57) rfl hO rfl rfl (news := tmsCells (ms.take k)) L1.out (R1.out.below hbX) (tms_one _) ?_ ?_ ?_
              · omega
              · omega
              intro A7 c7 w7 o7 n7 g7 e7
              simp only [Nat.zero_add, List.nil_append] at o7 n7 e7
              go_simp
              have hX2 := hbX.gr g7 hO.row
              try (replace hV := hV.grown g7 (fun b off e => by injection e with e; injection e with e1 e2; intro h; exact hNE _ h.symm e1.symm))
              try replace hvz := Nat.lt_of_lt_of_le hvz g7.size
              try clear hNE
              replace hbX := hX2
              refine hK _ _ (fun _ => hcells _ hbX) ?_
              clear hK K hX2 hO g7 e7
              have hO := o7
              clear o7
              generalize w7 = wc at *
              refine wpPlan_one ?_
              refine wpForced_step rfl (fun K hK => ?_)
              refine step_app _ termsT rfl (.tmp 58) (.tmp 60) rfl hO rfl rfl (news := [.string mt.t.name, .int .i64 mt.t.kind, .int .i64 mt.t.lang, .string mt.t.see, .slice mt.A mt.n mt.c]) rfl hV (by simp [Value.oneCell']) ?_ ?_ ?_
              · omega
              · omega
              intro A8 c8 w8 o8 n8 g8 e8
              go_simp
              have hX2 := hbX.gr g8 hO.row
              replace hbX := hX2
              refine hK _ _ (fun _ => hcells _ hbX) ?_
              clear hK K hX2 hO g8 e8 hV hvz
              have hO := o8
              clear o8
              generalize w8 = wc at *
              refine wpPlan_one ?_
              refine wpForced_step rfl (fun K hK => ?_)
              refine step_app _ termsT rfl (.tmp 61) (.tmp 64) rfl hO rfl rfl (news := tmsCells (ms.drop k)) L2.out (R2.out.below hbX) (tms_one _) ?_ ?_ ?_
              · omega
              · omega
              intro A9 c9 w9 o9 n9 g9 e9
              go_simp
              have hX2 := hbX.gr g9 hO.row
              replace hbX := hX2
              refine hK _ _ (fun _ => hcells _ hbX) ?_
              clear hK K hX2 hO g9 e9
              refine wpPlan_put (v := ?_) rfl rfl (Or.inl ⟨by rfl, fun wz hz => ?_⟩) (hcells _ hbX) ?_
              rotate_left
              (focus (go_simp; try (with_reducible rfl)))
              simp only [List.setIfInBounds_toArray, List.set_cons_succ, List.set_cons_zero]
              refine wpPlan_nil ?_
              have hb9 : Below w.heap.size w w9 := hbw5.tr hbX
              have hT9 : Tms w9 A9 (k + 1 + (n - k)) (ms.take k ++ mt :: ms.drop k) := Tms.own o9 (by unfold tmsCells; rw [List.flatMap_append, List.flatMap_cons, List.append_assoc]; rfl) (fun x hx => by
                rcases List.mem_append.1 hx with hx | hx
                · exact (hl.2.1 x (List.mem_of_mem_take hx)).below hb9
                · rcases List.mem_cons.1 hx with rfl | hx
                  · exact hok.below hb9
                  · exact (hl.2.1 x (List.mem_of_mem_drop hx)).below hb9)
              have hs9 : ∀ x ∈ ms.take k ++ mt :: ms.drop k, x.small := fun x hx => by
                rcases List.mem_append.1 hx with hx | hx
                · exact hsm x (List.mem_of_mem_take hx)
                · rcases List.mem_cons.1 hx with rfl | hx
                  · exact hst
                  · exact hsm x (List.mem_of_mem_drop hx)
              have HT := Lib.hid (show terms (ms.take k ++ mt :: ms.drop k) = addL (terms ms) mt.t from by rw [HA.out]; unfold terms; simp [List.map_take, List.map_drop])
              clear o9 hcells
              by_cases hf : (vvalid (addL (terms ms) mt.t)).2 = 0
              · have HF := Lib.hid (show addV (terms ms) mt.t = (addL (terms ms) mt.t, 0) from by unfold addV; rw [if_pos hv0.out, if_pos hf])
                have HV := Lib.hid (show (vvalid (terms (ms.take k ++ mt :: ms.drop k))).2 = 0 from by rw [HT.out]; exact hf)
                clear hf
                go_wp2_with (go_at_call 13; go_loud (refine (rvalid_any _ _ _ (ms.take k ++ mt :: ms.drop k) _ (by omega) hT9 hs9).mono ?_; rintro e2 w10 ⟨rfl, hb10⟩; rw [HV.out]))
                go_ret2
                refine ⟨_, _, _, (ms.take k ++ mt :: ms.drop k), ?_, n9, by omega, hT9.below hb10, by rw [HF.out]; exact HT.out, hs9, hb9.tr hb10⟩
                rw [HF.out]
                try rfl
              · have HF := Lib.hid (show addV (terms ms) mt.t = ([], (vvalid (addL (terms ms) mt.t)).2) from by unfold addV; rw [if_pos hv0.out, if_neg hf])
                obtain ⟨ve, hve⟩ : ∃ ve, (vvalid (addL (terms ms) mt.t)).2 = ve := ⟨_, rfl⟩
                rw [hve] at hf HF
                have HV := Lib.hid (show (vvalid (terms (ms.take k ++ mt :: ms.drop k))).2 = ve from by rw [HT.out]; exact hve)
                have hvb : (ve == 0) = false := by simpa using hf
                clear hf hve
                go_wp2_with (go_at_call 13; go_loud (refine (rvalid_any _ _ _ (ms.take k ++ mt :: ms.drop k) _ (by omega) hT9 hs9).mono ?_; rintro e2 w10 ⟨rfl, hb10⟩; rw [HV.out]))
                go_ret2
                refine ⟨none, 0, 0, [], ?_, Nat.le_refl _, Nat.zero_le _, Tms.nil _, by rw [HF.out]; rfl, (fun x hx => by cases hx), hb9.tr hb10⟩
                rw [HF.out]
                try rfl
          · have heq2 : m.t.name = mt.t.name := (eqS_iff _ _).1 heq
            obtain ⟨e, he⟩ : ∃ e, e = k + 1 := ⟨_, rfl⟩
            have HA := Lib.hid (show addL (terms ms) mt.t = (terms ms).take k ++ mt.t :: (terms ms).drop e from by
              unfold addL
              rw [if_pos (by rw [isAt_some (t := m.t) (by rw [HP.out]; exact htk)]; simp [heq2]), HP.out, he]
              exact List.set_eq_take_append_cons_drop.trans (by rw [if_pos (by have := (List.getElem?_eq_some_iff.1 htk).1; exact this)]))
            have hen : e ≤ n := by omega
            have hke : e ≤ k + 1 := by omega
            have hek : k ≤ e := by omega
            clear htk hd heq2
            go_wp2
            go_quiet (fail)
            obtain ⟨nq1, hnq1⟩ : ∃ nq1, nq1 = nq := ⟨_, rfl⟩
            subst hnq1
            go_wp2
            go_quiet (fail)
            go_wp2
            have hcast : ((k : Int) + 1) = ((e : Nat) : Int) := by omega
            rw [hcast]
            clear hcast he
            have hki : (k : Int) ≤ n := by omega
            have hei : (e : Int) ≤ n := by omega
            have hkc : (k : Int) ≤ c := by omega
            have hec : (e : Int) ≤ c := by omega
            have L1 := Lib.hid (show (tmsCells (ms.take k)).length = k * 5 from by rw [tmsCells_length, List.length_take, hml]; omega)
            have L2 := Lib.hid (show (tmsCells (ms.drop e)).length = (n - e) * 5 from by rw [tmsCells_length, List.length_drop, hml])
            obtain ⟨w5, hw5⟩ : ∃ w5 : World, w5 = (wr.drewN (nq1 + nq)).drew := ⟨_, rfl⟩
            have hbw5 : Below w.heap.size w w5 := by rw [hw5]; exact ((hbr.drn (nq1 + nq))).drn 1
            have R0 := (hl.below hbw5).2.2
            have r1 := R0.take (k * 5)
            rw [tmsCells_take] at r1
            have R1 := Lib.hid r1
            clear r1
            have r2 := R0.dropTm (k := e) (c := c) (by omega)
            have hcells : ∀ wz, Below w5.heap.size w5 wz → wz.cell? ⟨w.heap.size, 0, none⟩ = some (.string mt.t.name) ∧ wz.cell? ⟨w.heap.size, 1, none⟩ = some (.int .i64 mt.t.kind) ∧ wz.cell? ⟨w.heap.size, 2, none⟩ = some (.int .i64 mt.t.lang) ∧ wz.cell? ⟨w.heap.size, 3, none⟩ = some (.string mt.t.see) ∧ wz.cell? ⟨w.heap.size, 4, none⟩ = some (.slice mt.A mt.n mt.c) := fun wz hz => HBX.out wz (by have this : Below wb.heap.size wb (wr.drewN (nq1 + nq)).drew := (((hb2.tr hb).drn (nq1 + nq))).drn 1; rw [← hw5] at this; exact this.tr hz)
            by_cases hce : c = e
            · rw [if_pos hce] at r2
              have R2 := Lib.hid r2
              clear r2
              obtain ⟨wc, hwc⟩ : ∃ wc : World, wc = w5 := ⟨_, rfl⟩
              have hbX : Below w5.heap.size w5 wc := by rw [hwc]; exact brefl
              go_wp2
              refine wp_region_plan (.take 1 (.take 2 (.take 3 (.take 5 (.take 8 (.take 9 (.take 10 (.two 0 (.two 4 (.one 6 (.one 7 (.one 11 (.take 12 (.done))))) 6 (.one 4 (.one 7 (.one 11 (.take 12 (.done)))))) 6 (.one 0 (.one 4 (.one 7 (.one 11 (.take 12 (.done)))))))))))))) 13 (fun wz => wz.cell? ⟨w.heap.size, 0, none⟩ = some (.string mt.t.name) ∧ wz.cell? ⟨w.heap.size, 1, none⟩ = some (.int .i64 mt.t.kind) ∧ wz.cell? ⟨w.heap.size, 2, none⟩ = some (.int .i64 mt.t.lang) ∧ wz.cell? ⟨w.heap.size, 3, none⟩ = some (.string mt.t.see) ∧ wz.cell? ⟨w.heap.size, 4, none⟩ = some (.slice mt.A mt.n mt.c)) (by kernel_rfl) (by kernel_rfl) ?_
              rw [← hw5, ← hwc]; clear hw5 hwc
              refine wpPlan_put (v := ?_) rfl rfl (Or.inl ⟨by rfl, fun wz hz => ?_⟩) (hcells _ hbX) ?_
              rotate_left
              (focus (go_simp; try (with_reducible rfl)))
              simp only [List.setIfInBounds_toArray, List.set_cons_succ, List.set_cons_zero]
              refine wpPlan_put (v := ?_) rfl rfl (Or.inl ⟨by rfl, fun wz hz => ?_⟩) (hcells _ hbX) ?_
              rotate_left
              (focus (go_simp; try (with_reducible rfl)))
              simp only [List.setIfInBounds_toArray, List.set_cons_succ, List.set_cons_zero]
              refine wpPlan_put (v := ?_) rfl rfl (Or.inl ⟨by rfl, fun wz hz => ?_⟩) (hcells _ hbX) ?_
              rotate_left
              (focus (go_simp; try (with_reducible rfl)))
              simp only [List.setIfInBounds_toArray, List.set_cons_succ, List.set_cons_zero]
              refine wpPlan_put (v := ?_) rfl rfl (Or.inl ⟨by rfl, fun wz hz => ?_⟩) (hcells _ hbX) ?_
              rotate_left
              (focus (go_simp; try (with_reducible rfl)))
              simp only [List.setIfInBounds_toArray, List.set_cons_succ, List.set_cons_zero]
              refine wpPlan_put (v := ?_) rfl rfl (Or.inl ⟨by rfl, fun wz hz => ?_⟩) (hcells _ hbX) ?_
              rotate_left
              (focus (go_simp; try (with_reducible rfl)))
              simp only [List.setIfInBounds_toArray, List.set_cons_succ, List.set_cons_zero]
              refine wpPlan_put (v := ?_) rfl rfl (Or.inl ⟨by rfl, fun wz hz => ?_⟩) (hcells _ hbX) ?_
              rotate_left
              (focus (go_simp; try (with_reducible rfl)))
              simp only [List.setIfInBounds_toArray, List.set_cons_succ, List.set_cons_zero]
              refine wpPlan_put (v := ?_) rfl rfl (Or.inl ⟨by rfl, fun wz hz => ?_⟩) (hcells _ hbX) ?_
              rotate_left
              (focus (go_simp; try (with_reducible rfl)))
              simp only [List.setIfInBounds_toArray, List.set_cons_succ, List.set_cons_zero]
              refine wpPlan_two ?_ ?_
              · skip
                refine wpForced_step rfl (fun K hK => ?_)
                go_simp
                have hX2 := hbX.al (.cells #[] 33)
                have hO := Own.empty wc 33 5 (base := w5.heap.size) hbX.size
                try replace hV := hV.alloc (.cells #[] 33)
                have hob : ∀ g, (Value.slice (some ⟨wc.heap.size, 0, none⟩) 0 0).ownBlock = some g → g = wc.heap.size := fun g e => by simp [Value.ownBlock] at e; exact e.symm
                try (have hNE : ∀ g, (Value.slice (some ⟨wc.heap.size, 0, none⟩) 0 0).ownBlock = some g → g ≠ vb := fun g e => by have := hob g e; omega)
                replace hbX := hX2
                refine hK _ _ (fun _ => hcells _ hbX) ?_
                clear hK K hX2 hob
                generalize wc.heap.size = ob at *
                generalize wc.alloc (.cells #[] 33) = wc at *
                refine wpPlan_two ?_ ?_
                · skip
                  refine wpForced_step rfl (fun K hK => ?_)
                  refine step_app _ termsT rfl (.tmp 54) (.tmp 57) rfl hO rfl rfl (news := tmsCells (ms.take k)) L1.out (R1.out.below hbX) (tms_one _) ?_ ?_ ?_
                  · omega
                  · omega
                  intro A7 c7 w7 o7 n7 g7 e7
                  simp only [Nat.zero_add, List.nil_append] at o7 n7 e7
                  go_simp
                  have hX2 := hbX.gr g7 hO.row
                  try (replace hV := hV.grown g7 (fun b off e => by injection e with e; injection e with e1 e2; intro h; exact hNE _ h.symm e1.symm))
                  try replace hvz := Nat.lt_of_lt_of_le hvz g7.size
                  try clear hNE
                  replace hbX := hX2
                  refine hK _ _ (fun _ => hcells _ hbX) ?_
                  clear hK K hX2 hO g7 e7
                  have hO := o7
                  clear o7
                  generalize w7 = wc at *
                  refine wpPlan_one ?_
                  refine wpForced_step rfl (fun K hK => ?_)
                  go_simp
                  have hX2 := hbX.al (.cells #[.string mt.t.name, .int .i64 mt.t.kind, .int .i64 mt.t.lang, .string mt.t.see, .slice mt.A mt.n mt.c] 33)
                  have hV := Rds.new5 wc rfl (.string mt.t.name) (.int .i64 mt.t.kind) (.int .i64 mt.t.lang) (.string mt.t.see) (.slice mt.A mt.n mt.c) 33
                  try (have hNE : ∀ g, _ = some g → g ≠ wc.heap.size := fun g e => Nat.ne_of_lt (hO.lt g e))
                  try replace hO := hO.alloc (.cells #[.string mt.t.name, .int .i64 mt.t.kind, .int .i64 mt.t.lang, .string mt.t.see, .slice mt.A mt.n mt.c] 33)
                  have hvz : wc.heap.size < (wc.alloc (.cells #[.string mt.t.name, .int .i64 mt.t.kind, .int .i64 mt.t.lang, .string mt.t.see, .slice mt.A mt.n mt.c] 33)).heap.size := by simp
                  replace hbX := hX2
                  refine hK _ _ (fun _ => hcells _ hbX) ?_
                  clear hK K hX2
                  generalize wc.heap.size = vb at *
                  generalize wc.alloc (.cells #[.string mt.t.name, .int .i64 mt.t.kind, .int .i64 mt.t.lang, .string mt.t.see, .slice mt.A mt.n mt.c] 33) = wc at *
                  refine wpPlan_one ?_
                  refine wpForced_step rfl (fun K hK => ?_)
                  refine step_app _ termsT rfl (.tmp 58) (.tmp 60) rfl hO rfl rfl (news := [.string mt.t.name, .int .i64 mt.t.kind, .int .i64 mt.t.lang, .string mt.t.see, .slice mt.A mt.n mt.c]) rfl hV (by simp [Value.oneCell']) ?_ ?_ ?_
                  · omega
                  · omega
                  intro A8 c8 w8 o8 n8 g8 e8
                  go_simp
                  have hX2 := hbX.gr g8 hO.row
                  replace hbX := hX2
                  refine hK _ _ (fun _ => hcells _ hbX) ?_
                  clear hK K hX2 hO g8 e8 hV hvz
                  have hO := o8
                  clear o8
                  generalize w8 = wc at *
                  refine wpPlan_one ?_
                  refine wpForced_step rfl (fun K hK => ?_)
                  refine step_app _ termsT rfl (.tmp 61) (.tmp 64) rfl hO rfl rfl (news := tmsCells (ms.drop e)) L2.out (R2.out.below hbX) (tms_one _) ?_ ?_ ?_
                  · omega
                  · omega
                  intro A9 c9 w9 o9 n9 g9 e9
                  go_simp
                  have hX2 := hbX.gr g9 hO.row
                  replace hbX := hX2
                  refine hK _ _ (fun _ => hcells _ hbX) ?_
                  clear hK K hX2 hO g9 e9
                  refine wpPlan_put (v := ?_) rfl rfl (Or.inl ⟨by rfl, fun wz hz => ?_⟩) (hcells _ hbX) ?_
                  rotate_left
                  (focus (go_simp; try (with_reducible rfl)))
                  simp only [List.setIfInBounds_toArray, List.set_cons_succ, List.set_cons_zero]
                  refine wpPlan_nil ?_
                  have hb9 : Below w.heap.size w w9 := hbw5.tr hbX
                  have hT9 : Tms w9 A9 (k + 1 + (n - e)) (ms.take k ++ mt :: ms.drop e) := Tms.own o9 (by unfold tmsCells; rw [List.flatMap_append, List.flatMap_cons, List.append_assoc]; rfl) (fun x hx => by
                    rcases List.mem_append.1 hx with hx | hx
                    · exact (hl.2.1 x (List.mem_of_mem_take hx)).below hb9
                    · rcases List.mem_cons.1 hx with rfl | hx
                      · exact hok.below hb9
                      · exact (hl.2.1 x (List.mem_of_mem_drop hx)).below hb9)
                  have hs9 : ∀ x ∈ ms.take k ++ mt :: ms.drop e, x.small := fun x hx => by
                    rcases List.mem_append.1 hx with hx | hx
                    · exact hsm x (List.mem_of_mem_take hx)
                    · rcases List.mem_cons.1 hx with rfl | hx
                      · exact hst
                      · exact hsm x (List.mem_of_mem_drop hx)
                  have HT := Lib.hid (show terms (ms.take k ++ mt :: ms.drop e) = addL (terms ms) mt.t from by rw [HA.out]; unfold terms; simp [List.map_take, List.map_drop])
                  clear o9 hcells
                  by_cases hf : (vvalid (addL (terms ms) mt.t)).2 = 0
                  · have HF := Lib.hid (show addV (terms ms) mt.t = (addL (terms ms) mt.t, 0) from by unfold addV; rw [if_pos hv0.out, if_pos hf])
                    have HV := Lib.hid (show (vvalid (terms (ms.take k ++ mt :: ms.drop e))).2 = 0 from by rw [HT.out]; exact hf)
                    clear hf
                    go_wp2_with (go_at_call 13; go_loud (refine (rvalid_any _ _ _ (ms.take k ++ mt :: ms.drop e) _ (by omega) hT9 hs9).mono ?_; rintro e2 w10 ⟨rfl, hb10⟩; rw [HV.out]))
                    go_ret2
                    refine ⟨_, _, _, (ms.take k ++ mt :: ms.drop e), ?_, n9, by omega, hT9.below hb10, by rw [HF.out]; exact HT.out, hs9, hb9.tr hb10⟩
                    rw [HF.out]
                    try rfl
                  · have HF := Lib.hid (show addV (terms ms) mt.t = ([], (vvalid (addL (terms ms) mt.t)).2) from by unfold addV; rw [if_pos hv0.out, if_neg hf])
                    obtain ⟨ve, hve⟩ : ∃ ve, (vvalid (addL (terms ms) mt.t)).2 = ve := ⟨_, rfl⟩
                    rw [hve] at hf HF
                    have HV := Lib.hid (show (vvalid (terms (ms.take k ++ mt :: ms.drop e))).2 = ve from by rw [HT.out]; exact hve)
                    have hvb : (ve == 0) = false := by simpa using hf
                    clear hf hve
                    go_wp2_with (go_at_call 13; go_loud (refine (rvalid_any _ _ _ (ms.take k ++ mt :: ms.drop e) _ (by omega) hT9 hs9).mono ?_; rintro e2 w10 ⟨rfl, hb10⟩; rw [HV.out]))
                    go_ret2
                    refine ⟨none, 0, 0, [], ?_, Nat.le_refl _, Nat.zero_le _, Tms.nil _, by rw [HF.out]; rfl, (fun x hx => by cases hx), hb9.tr hb10⟩
                    rw [HF.out]
                    try rfl
                · skip
                  refine wpForced_step rfl (fun K hK => ?_)
                  go_simp
                  have hX2 := hbX.al (.cells #[.string mt.t.name, .int .i64 mt.t.kind, .int .i64 mt.t.lang, .string mt.t.see, .slice mt.A mt.n mt.c] 33)
                  have hV := Rds.new5 wc rfl (.string mt.t.name) (.int .i64 mt.t.kind) (.int .i64 mt.t.lang) (.string mt.t.see) (.slice mt.A mt.n mt.c) 33
                  try (have hNE : ∀ g, _ = some g → g ≠ wc.heap.size := fun g e => Nat.ne_of_lt (hO.lt g e))
                  try replace hO := hO.alloc (.cells #[.string mt.t.name, .int .i64 mt.t.kind, .int .i64 mt.t.lang, .string mt.t.see, .slice mt.A mt.n mt.c] 33)
                  have hvz : wc.heap.size < (wc.alloc (.cells #[.string mt.t.name, .int .i64 mt.t.kind, .int .i64 mt.t.lang, .string mt.t.see, .slice mt.A mt.n mt.c] 33)).heap.size := by simp
                  replace hbX := hX2
                  refine hK _ _ (fun _ => hcells _ hbX) ?_
                  clear hK K hX2
                  generalize wc.heap.size = vb at *
                  generalize wc.alloc (.cells #[.string mt.t.name, .int .i64 mt.t.kind, .int .i64 mt.t.lang, .string mt.t.see, .slice mt.A mt.n mt.c] 33) = wc at *
                  refine wpPlan_one ?_
                  refine wpForced_step rfl (fun K hK => ?_)
                  refine step_app _ termsT rfl (.tmp 54) (.tmp 57) rfl hO rfl rfl (news := tmsCells (ms.take k)) L1.out (R1.out.below hbX) (tms_one _) ?_ ?_ ?_
                  · omega
                  · omega
                  intro A7 c7 w7 o7 n7 g7 e7
                  simp only [Nat.zero_add, List.nil_append] at o7 n7 e7
                  go_simp
                  have hX2 := hbX.gr g7 hO.row
                  try (replace hV := hV.grown g7 (fun b off e => by injection e with e; injection e with e1 e2; intro h; exact hNE _ h.symm e1.symm))
                  try replace hvz := Nat.lt_of_lt_of_le hvz g7.size
                  try clear hNE
                  replace hbX := hX2
                  refine hK _ _ (fun _ => hcells _ hbX) ?_
                  clear hK K hX2 hO g7 e7
                  have hO := o7
                  clear o7
                  generalize w7 = wc at *
                  refine wpPlan_one ?_
                  refine wpForced_step rfl (fun K hK => ?_)
                  refine step_app _ termsT rfl (.tmp 58) (.tmp 60) rfl hO rfl rfl (news := [.string mt.t.name, .int .i64 mt.t.kind, .int .i64 mt.t.lang, .string mt.t.see, .slice mt.A mt.n mt.c]) rfl hV (by simp [Value.oneCell']) ?_ ?_ ?_
                  · omega
                  · omega
                  intro A8 c8 w8 o8 n8 g8 e8
                  go_simp
                  have hX2 := hbX.gr g8 hO.row
                  replace hbX := hX2
                  refine hK _ _ (fun _ => hcells _ hbX) ?_
                  clear hK K hX2 hO g8 e8 hV hvz
                  have hO := o8
                  clear o8
                  generalize w8 = wc at *
                  refine wpPlan_one ?_
                  refine wpForced_step rfl (fun K hK => ?_)
                  refine step_app _ termsT rfl (.tmp 61) (.tmp 64) rfl hO rfl rfl (news := tmsCells (ms.drop e)) L2.out (R2.out.below hbX) (tms_one _) ?_ ?_ ?_
                  · omega
                  · omega
                  intro A9 c9 w9 o9 n9 g9 e9
                  go_simp
                  have hX2 := hbX.gr g9 hO.row
                  replace hbX := hX2
                  refine hK _ _ (fun _ => hcells _ hbX) ?_
                  clear hK K hX2 hO g9 e9
                  refine wpPlan_put (v := ?_) rfl rfl (Or.inl ⟨by rfl, fun wz hz => ?_⟩) (hcells _ hbX) ?_
                  rotate_left
                  (focus (go_simp; try (with_reducible rfl)))
                  simp only [List.setIfInBounds_toArray, List.set_cons_succ, List.set_cons_zero]
                  refine wpPlan_nil ?_
                  have hb9 : Below w.heap.size w w9 := hbw5.tr hbX
                  have hT9 : Tms w9 A9 (k + 1 + (n - e)) (ms.take k ++ mt :: ms.drop e) := Tms.own o9 (by unfold tmsCells; rw [List.flatMap_append, List.flatMap_cons, List.append_assoc]; rfl) (fun x hx => by
                    rcases List.mem_append.1 hx with hx | hx
                    · exact (hl.2.1 x (List.mem_of_mem_take hx)).below hb9
                    · rcases List.mem_cons.1 hx with rfl | hx
                      · exact hok.below hb9
                      · exact (hl.2.1 x (List.mem_of_mem_drop hx)).below hb9)
                  have hs9 : ∀ x ∈ ms.take k ++ mt :: ms.drop e, x.small := fun x hx => by
                    rcases List.mem_append.1 hx with hx | hx
                    · exact hsm x (List.mem_of_mem_take hx)
                    · rcases List.mem_cons.1 hx with rfl | hx
                      · exact hst
                      · exact hsm x (List.mem_of_mem_drop hx)
                  have HT := Lib.hid (show terms (ms.take k ++ mt :: ms.drop e) = addL (terms ms) mt.t from by rw [HA.out]; unfold terms; simp [List.map_take, List.map_drop])
                  clear o9 hcells
                  by_cases hf : (vvalid (addL (terms ms) mt.t)).2 = 0
                  · have HF := Lib.hid (show addV (terms ms) mt.t = (addL (terms ms) mt.t, 0) from by unfold addV; rw [if_pos hv0.out, if_pos hf])
                    have HV := Lib.hid (show (vvalid (terms (ms.take k ++ mt :: ms.drop e))).2 = 0 from by rw [HT.out]; exact hf)
                    clear hf
                    go_wp2_with (go_at_call 13; go_loud (refine (rvalid_any _ _ _ (ms.take k ++ mt :: ms.drop e) _ (by omega) hT9 hs9).mono ?_; rintro e2 w10 ⟨rfl, hb10⟩; rw [HV.out]))
                    go_ret2
                    refine ⟨_, _, _, (ms.take k ++ mt :: ms.drop e), ?_, n9, by omega, hT9.below hb10, by rw [HF.out]; exact HT.out, hs9, hb9.tr hb10⟩
                    rw [HF.out]
                    try rfl
                  · have HF := Lib.hid (show addV (terms ms) mt.t = ([], (vvalid (addL (terms ms) mt.t)).2) from by unfold addV; rw [if_pos hv0.out, if_neg hf])
                    obtain ⟨ve, hve⟩ : ∃ ve, (vvalid (addL (terms ms) mt.t)).2 = ve := ⟨_, rfl⟩
                    rw [hve] at hf HF
                    have HV := Lib.hid (show (vvalid (terms (ms.take k ++ mt :: ms.drop e))).2 = ve from by rw [HT.out]; exact hve)
                    have hvb : (ve == 0) = false := by simpa using hf
                    clear hf hve
                    go_wp2_with (go_at_call 13; go_loud (refine (rvalid_any _ _ _ (ms.take k ++ mt :: ms.drop e) _ (by omega) hT9 hs9).mono ?_; rintro e2 w10 ⟨rfl, hb10⟩; rw [HV.out]))
                    go_ret2
                    refine ⟨none, 0, 0, [], ?_, Nat.le_refl _, Nat.zero_le _, Tms.nil _, by rw [HF.out]; rfl, (fun x hx => by cases hx), hb9.tr hb10⟩
                    rw [HF.out]
                    try rfl
              · skip
                refine wpForced_step rfl (fun K hK => ?_)
                go_simp
                have hX2 := hbX.al (.cells #[.string mt.t.name, .int .i64 mt.t.kind, .int .i64 mt.t.lang, .string mt.t.see, .slice mt.A mt.n mt.c] 33)
                have hV := Rds.new5 wc rfl (.string mt.t.name) (.int .i64 mt.t.kind) (.int .i64 mt.t.lang) (.string mt.t.see) (.slice mt.A mt.n mt.c) 33
                try (have hNE : ∀ g, _ = some g → g ≠ wc.heap.size := fun g e => Nat.ne_of_lt (hO.lt g e))
                try replace hO := hO.alloc (.cells #[.string mt.t.name, .int .i64 mt.t.kind, .int .i64 mt.t.lang, .string mt.t.see, .slice mt.A mt.n mt.c] 33)
                have hvz : wc.heap.size < (wc.alloc (.cells #[.string mt.t.name, .int .i64 mt.t.kind, .int .i64 mt.t.lang, .string mt.t.see, .slice mt.A mt.n mt.c] 33)).heap.size := by simp
                replace hbX := hX2
                refine hK _ _ (fun _ => hcells _ hbX) ?_
                clear hK K hX2
                generalize wc.heap.size = vb at *
                generalize wc.alloc (.cells #[.string mt.t.name, .int .i64 mt.t.kind, .int .i64 mt.t.lang, .string mt.t.see, .slice mt.A mt.n mt.c] 33) = wc at *
                refine wpPlan_one ?_
                refine wpForced_step rfl (fun K hK => ?_)
                go_simp
                have hX2 := hbX.al (.cells #[] 33)
                have hO := Own.empty wc 33 5 (base := w5.heap.size) hbX.size
                try replace hV := hV.alloc (.cells #[] 33)
                have hob : ∀ g, (Value.slice (some ⟨wc.heap.size, 0, none⟩) 0 0).ownBlock = some g → g = wc.heap.size := fun g e => by simp [Value.ownBlock] at e; exact e.symm
                try (have hNE : ∀ g, (Value.slice (some ⟨wc.heap.size, 0, none⟩) 0 0).ownBlock = some g → g ≠ vb := fun g e => by have := hob g e; omega)
                replace hbX := hX2
                refine hK _ _ (fun _ => hcells _ hbX) ?_
                clear hK K hX2 hob
                generalize wc.heap.size = ob at *
                generalize wc.alloc (.cells #[] 33) = wc at *
                refine wpPlan_one ?_
                refine wpForced_step rfl (fun K hK => ?_)
                refine step_app _ termsT rfl (.tmp 54) (.tmp 57) rfl hO rfl rfl (news := tmsCells (ms.take k)) L1.out (R1.out.below hbX) (tms_one _) ?_ ?_ ?_
                · omega
                · omega
                intro A7 c7 w7 o7 n7 g7 e7
                simp only [Nat.zero_add, List.nil_append] at o7 n7 e7
                go_simp
                have hX2 := hbX.gr g7 hO.row
                try (replace hV := hV.grown g7 (fun b off e => by injection e with e; injection e with e1 e2; intro h; exact hNE _ h.symm e1.symm))
                try replace hvz := Nat.lt_of_lt_of_le hvz g7.size
                try clear hNE
                replace hbX := hX2
                refine hK _ _ (fun _ => hcells _ hbX) ?_
                clear hK K hX2 hO g7 e7
                have hO := o7
                clear o7
                generalize w7 = wc at *
                refine wpPlan_one ?_
                refine wpForced_step rfl (fun K hK => ?_)
                refine step_app _ termsT rfl (.tmp 58) (.tmp 60) rfl hO rfl rfl (news := [.string mt.t.name, .int .i64 mt.t.kind, .int .i64 mt.t.lang, .string mt.t.see, .slice mt.A mt.n mt.c]) rfl hV (by simp [Value.oneCell']) ?_ ?_ ?_
                · omega
                · omega
                intro A8 c8 w8 o8 n8 g8 e8
                go_simp
                have hX2 := hbX.gr g8 hO.row
                replace hbX := hX2
                refine hK _ _ (fun _ => hcells _ hbX) ?_
                clear hK K hX2 hO g8 e8 hV hvz
                have hO := o8
                clear o8
                generalize w8 = wc at *
                refine wpPlan_one ?_
                refine wpForced_step rfl (fun K hK => ?_)
                refine step_app _ termsT rfl (.tmp 61) (.tmp 64) rfl hO rfl rfl (news := tmsCells (ms.drop e)) L2.out (R2.out.below hbX) (tms_one _) ?_ ?_ ?_
                · omega
                · omega
                intro A9 c9 w9 o9 n9 g9 e9
                go_simp
                have hX2 := hbX.gr g9 hO.row
                replace hbX := hX2
                refine hK _ _ (fun _ => hcells _ hbX) ?_
                clear hK K hX2 hO g9 e9
                refine wpPlan_put (v := ?_) rfl rfl (Or.inl ⟨by rfl, fun wz hz => ?_⟩) (hcells _ hbX) ?_
                rotate_left
                (focus (go_simp; try (with_reducible rfl)))
                simp only [List.setIfInBounds_toArray, List.set_cons_succ, List.set_cons_zero]
                refine wpPlan_nil ?_
                have hb9 : Below w.heap.size w w9 := hbw5.tr hbX
                have hT9 : Tms w9 A9 (k + 1 + (n - e)) (ms.take k ++ mt :: ms.drop e) := Tms.own o9 (by unfold tmsCells; rw [List.flatMap_append, List.flatMap_cons, List.append_assoc]; rfl) (fun x hx => by
                  rcases List.mem_append.1 hx with hx | hx
                  · exact (hl.2.1 x (List.mem_of_mem_take hx)).below hb9
                  · rcases List.mem_cons.1 hx with rfl | hx
                    · exact hok.below hb9
                    · exact (hl.2.1 x (List.mem_of_mem_drop hx)).below hb9)
                have hs9 : ∀ x ∈ ms.take k ++ mt :: ms.drop e, x.small := fun x hx => by
                  rcases List.mem_append.1 hx with hx | hx
                  · exact hsm x (List.mem_of_mem_take hx)
                  · rcases List.mem_cons.1 hx with rfl | hx
                    · exact hst
                    · exact hsm x (List.mem_of_mem_drop hx)
                have HT := Lib.hid (show terms (ms.take k ++ mt :: ms.drop e) = addL (terms ms) mt.t from by rw [HA.out]; unfold terms; simp [List.map_take, List.map_drop])
                clear o9 hcells
                by_cases hf : (vvalid (addL (terms ms) mt.t)).2 = 0
                · have HF := Lib.hid (show addV (terms ms) mt.t = (addL (terms ms) mt.t, 0) from by unfold addV; rw [if_pos hv0.out, if_pos hf])
                  have HV := Lib.hid (show (vvalid (terms (ms.take k ++ mt :: ms.drop e))).2 = 0 from by rw [HT.out]; exact hf)
                  clear hf
                  go_wp2_with (go_at_call 13; go_loud (refine (rvalid_any _ _ _ (ms.take k ++ mt :: ms.drop e) _ (by omega) hT9 hs9).mono ?_; rintro e2 w10 ⟨rfl, hb10⟩; rw [HV.out]))
                  go_ret2
                  refine ⟨_, _, _, (ms.take k ++ mt :: ms.drop e), ?_, n9, by omega, hT9.below hb10, by rw [HF.out]; exact HT.out, hs9, hb9.tr hb10⟩
                  rw [HF.out]
                  try rfl
                · have HF := Lib.hid (show addV (terms ms) mt.t = ([], (vvalid (addL (terms ms) mt.t)).2) from by unfold addV; rw [if_pos hv0.out, if_neg hf])
                  obtain ⟨ve, hve⟩ : ∃ ve, (vvalid (addL (terms ms) mt.t)).2 = ve := ⟨_, rfl⟩
                  rw [hve] at hf HF
                  have HV := Lib.hid (show (vvalid (terms (ms.take k ++ mt :: ms.drop e))).2 = ve from by rw [HT.out]; exact hve)
                  have hvb : (ve == 0) = false := by simpa using hf
                  clear hf hve
                  go_wp2_with (go_at_call 13; go_loud (refine (rvalid_any _ _ _ (ms.take k ++ mt :: ms.drop e) _ (by omega) hT9 hs9).mono ?_; rintro e2 w10 ⟨rfl, hb10⟩; rw [HV.out]))
                  go_ret2
                  refine ⟨none, 0, 0, [], ?_, Nat.le_refl _, Nat.zero_le _, Tms.nil _, by rw [HF.out]; rfl, (fun x hx => by cases hx), hb9.tr hb10⟩
                  rw [HF.out]
                  try rfl
            · rw [if_neg hce] at r2
              try simp only [Option.map_some, addr_add] at r2
              have R2 := Lib.hid r2
              clear r2
              obtain ⟨wc, hwc⟩ : ∃ wc : World, wc = w5 := ⟨_, rfl⟩
              have hbX : Below w5.heap.size w5 wc := by rw [hwc]; exact brefl
              go_wp2
              refine wp_region_plan (.take 1 (.take 2 (.take 3 (.take 5 (.take 8 (.take 9 (.take 10 (.two 0 (.two 4 (.one 6 (.one 7 (.one 11 (.take 12 (.done))))) 6 (.one 4 (.one 7 (.one 11 (.take 12 (.done)))))) 6 (.one 0 (.one 4 (.one 7 (.one 11 (.take 12 (.done)))))))))))))) 13 (fun wz => wz.cell? ⟨w.heap.size, 0, none⟩ = some (.string mt.t.name) ∧ wz.cell? ⟨w.heap.size, 1, none⟩ = some (.int .i64 mt.t.kind) ∧ wz.cell? ⟨w.heap.size, 2, none⟩ = some (.int .i64 mt.t.lang) ∧ wz.cell? ⟨w.heap.size, 3, none⟩ = some (.string mt.t.see) ∧ wz.cell? ⟨w.heap.size, 4, none⟩ = some (.slice mt.A mt.n mt.c)) (by kernel_rfl) (by kernel_rfl) ?_
              rw [← hw5, ← hwc]; clear hw5 hwc
              refine wpPlan_put (v := ?_) rfl rfl (Or.inl ⟨by rfl, fun wz hz => ?_⟩) (hcells _ hbX) ?_
              rotate_left
              (focus (go_simp; try (with_reducible rfl)))
              simp only [List.setIfInBounds_toArray, List.set_cons_succ, List.set_cons_zero]
              refine wpPlan_put (v := ?_) rfl rfl (Or.inl ⟨by rfl, fun wz hz => ?_⟩) (hcells _ hbX) ?_
              rotate_left
              (focus (go_simp; try (with_reducible rfl)))
              simp only [List.setIfInBounds_toArray, List.set_cons_succ, List.set_cons_zero]
              refine wpPlan_put (v := ?_) rfl rfl (Or.inl ⟨by rfl, fun wz hz => ?_⟩) (hcells _ hbX) ?_
              rotate_left
              (focus (go_simp; try (with_reducible rfl)))
              simp only [List.setIfInBounds_toArray, List.set_cons_succ, List.set_cons_zero]
              refine wpPlan_put (v := ?_) rfl rfl (Or.inl ⟨by rfl, fun wz hz => ?_⟩) (hcells _ hbX) ?_
              rotate_left
              (focus (go_simp; try (with_reducible rfl)))
              simp only [List.setIfInBounds_toArray, List.set_cons_succ, List.set_cons_zero]
              refine wpPlan_put (v := ?_) rfl rfl (Or.inl ⟨by rfl, fun wz hz => ?_⟩) (hcells _ hbX) ?_
              rotate_left
              (focus (go_simp; try (with_reducible rfl)))
              simp only [List.setIfInBounds_toArray, List.set_cons_succ, List.set_cons_zero]
              refine wpPlan_put (v := ?_) rfl rfl (Or.inl ⟨by rfl, fun wz hz => ?_⟩) (hcells _ hbX) ?_
              rotate_left
              (focus (go_simp; try (with_reducible rfl)))
              simp only [List.setIfInBounds_toArray, List.set_cons_succ, List.set_cons_zero]
              refine wpPlan_put (v := ?_) rfl rfl (Or.inl ⟨by rfl, fun wz hz => ?_⟩) (hcells _ hbX) ?_
              rotate_left
              (focus (go_simp; try (with_reducible rfl)))
              simp only [List.setIfInBounds_toArray, List.set_cons_succ, List.set_cons_zero]
              refine wpPlan_two ?_ ?_
              · skip
                refine wpForced_step rfl (fun K hK => ?_)
                go_simp
                have hX2 := hbX.al (.cells #[] 33)
                have hO := Own.empty wc 33 5 (base := w5.heap.size) hbX.size
                try replace hV := hV.alloc (.cells #[] 33)
                have hob : ∀ g, (Value.slice (some ⟨wc.heap.size, 0, none⟩) 0 0).ownBlock = some g → g = wc.heap.size := fun g e => by simp [Value.ownBlock] at e; exact e.symm
                try (have hNE : ∀ g, (Value.slice (some ⟨wc.heap.size, 0, none⟩) 0 0).ownBlock = some g → g ≠ vb := fun g e => by have := hob g e; omega)
                replace hbX := hX2
                refine hK _ _ (fun _ => hcells _ hbX) ?_
                clear hK K hX2 hob
                generalize wc.heap.size = ob at *
                generalize wc.alloc (.cells #[] 33) = wc at *
                refine wpPlan_two ?_ ?_
                · skip
                  refine wpForced_step rfl (fun K hK => ?_)
                  refine step_app _ termsT rfl (.tmp 54) (.tmp 57) rfl hO rfl rfl (news := tmsCells (ms.take k)) L1.out (R1.out.below hbX) (tms_one _) ?_ ?_ ?_
                  · omega
                  · omega
                  intro A7 c7 w7 o7 n7 g7 e7
                  simp only [Nat.zero_add, List.nil_append] at o7 n7 e7
                  go_simp
                  have hX2 := hbX.gr g7 hO.row
                  try (replace hV := hV.grown g7 (fun b off e => by injection e with e; injection e with e1 e2; intro h; exact hNE _ h.symm e1.symm))
                  try replace hvz := Nat.lt_of_lt_of_le hvz g7.size
                  try clear hNE
                  replace hbX := hX2
                  refine hK _ _ (fun _ => hcells _ hbX) ?_
                  clear hK K hX2 hO g7 e7
                  have hO := o7
                  clear o7
                  generalize w7 = wc at *
                  refine wpPlan_one ?_
                  refine wpForced_step rfl (fun K hK => ?_)
                  go_simp
                  have hX2 := hbX.al (.cells #[.string mt.t.name, .int .i64 mt.t.kind, .int .i64 mt.t.lang, .string mt.t.see, .slice mt.A mt.n mt.c] 33)
                  have hV := Rds.new5 wc rfl (.string mt.t.name) (.int .i64 mt.t.kind) (.int .i64 mt.t.lang) (.string mt.t.see) (.slice mt.A mt.n mt.c) 33
                  try (have hNE : ∀ g, _ = some g → g ≠ wc.heap.size := fun g e => Nat.ne_of_lt (hO.lt g e))
                  try replace hO := hO.alloc (.cells #[.string mt.t.name, .int .i64 mt.t.kind, .int .i64 mt.t.lang, .string mt.t.see, .slice mt.A mt.n mt.c] 33)
                  have hvz : wc.heap.size < (wc.alloc (.cells #[.string mt.t.name, .int .i64 mt.t.kind, .int .i64 mt.t.lang, .string mt.t.see, .slice mt.A mt.n mt.c] 33)).heap.size := by simp
                  replace hbX := hX2
                  refine hK _ _ (fun _ => hcells _ hbX) ?_
                  clear hK K hX2
                  generalize wc.heap.size = vb at *
                  generalize wc.alloc (.cells #[.string mt.t.name, .int .i64 mt.t.kind, .int .i64 mt.t.lang, .string mt.t.see, .slice mt.A mt.n mt.c] 33) = wc at *
                  refine wpPlan_one ?_
                  refine wpForced_step rfl (fun K hK => ?_)
                  refine step_app _ termsT rfl (.tmp 58) (.tmp 60) rfl hO rfl rfl (news := [.string mt.t.name, .int .i64 mt.t.kind, .int .i64 mt.t.lang, .string mt.t.see, .slice mt.A mt.n mt.c]) rfl hV (by simp [Value.oneCell']) ?_ ?_ ?_
                  · omega
                  · omega
                  intro A8 c8 w8 o8 n8 g8 e8
                  go_simp
                  have hX2 := hbX.gr g8 hO.row
                  replace hbX := hX2
                  refine hK _ _ (fun _ => hcells _ hbX) ?_
                  clear hK K hX2 hO g8 e8 hV hvz
                  have hO := o8
                  clear o8
                  generalize w8 = wc at *
                  refine wpPlan_one ?_
                  refine wpForced_step rfl (fun K hK => ?_)
                  refine step_app _ termsT rfl (.tmp 61) (.tmp 64) rfl hO rfl rfl (news := tmsCells (ms.drop e)) L2.out (R2.out.below hbX) (tms_one _) ?_ ?_ ?_
                  · omega
                  · omega
                  intro A9 c9 w9 o9 n9 g9 e9
                  go_simp
                  have hX2 := hbX.gr g9 hO.row
                  replace hbX := hX2
                  refine hK _ _ (fun _ => hcells _ hbX) ?_
                  clear hK K hX2 hO g9 e9
                  refine wpPlan_put (v := ?_) rfl rfl (Or.inl ⟨by rfl, fun wz hz => ?_⟩) (hcells _ hbX) ?_
                  rotate_left
                  (focus (go_simp; try (with_reducible rfl)))
                  simp only [List.setIfInBounds_toArray, List.set_cons_succ, List.set_cons_zero]
                  refine wpPlan_nil ?_
                  have hb9 : Below w.heap.size w w9 := hbw5.tr hbX
                  have hT9 : Tms w9 A9 (k + 1 + (n - e)) (ms.take k ++ mt :: ms.drop e) := Tms.own o9 (by unfold tmsCells; rw [List.flatMap_append, List.flatMap_cons, List.append_assoc]; rfl) (fun x hx => by
                    rcases List.mem_append.1 hx with hx | hx
                    · exact (hl.2.1 x (List.mem_of_mem_take hx)).below hb9
                    · rcases List.mem_cons.1 hx with rfl | hx
                      · exact hok.below hb9
                      · exact (hl.2.1 x (List.mem_of_mem_drop hx)).below hb9)
                  have hs9 : ∀ x ∈ ms.take k ++ mt :: ms.drop e, x.small := fun x hx => by
                    rcases List.mem_append.1 hx with hx | hx
                    · exact hsm x (List.mem_of_mem_take hx)
                    · rcases List.mem_cons.1 hx with rfl | hx
                      · exact hst
                      · exact hsm x (List.mem_of_mem_drop hx)
                  have HT := Lib.hid (show terms (ms.take k ++ mt :: ms.drop e) = addL (terms ms) mt.t from by rw [HA.out]; unfold terms; simp [List.map_take, List.map_drop])
                  clear o9 hcells
                  by_cases hf : (vvalid (addL (terms ms) mt.t)).2 = 0
                  · have HF := Lib.hid (show addV (terms ms) mt.t = (addL (terms ms) mt.t, 0) from by unfold addV; rw [if_pos hv0.out, if_pos hf])
                    have HV := Lib.hid (show (vvalid (terms (ms.take k ++ mt :: ms.drop e))).2 = 0 from by rw [HT.out]; exact hf)
                    clear hf
                    go_wp2_with (go_at_call 13; go_loud (refine (rvalid_any _ _ _ (ms.take k ++ mt :: ms.drop e) _ (by omega) hT9 hs9).mono ?_; rintro e2 w10 ⟨rfl, hb10⟩; rw [HV.out]))
                    go_ret2
                    refine ⟨_, _, _, (ms.take k ++ mt :: ms.drop e), ?_, n9, by omega, hT9.below hb10, by rw [HF.out]; exact HT.out, hs9, hb9.tr hb10⟩
                    rw [HF.out]
                    try rfl
                  · have HF := Lib.hid (show addV (terms ms) mt.t = ([], (vvalid (addL (terms ms) mt.t)).2) from by unfold addV; rw [if_pos hv0.out, if_neg hf])
                    obtain ⟨ve, hve⟩ : ∃ ve, (vvalid (addL (terms ms) mt.t)).2 = ve := ⟨_, rfl⟩
                    rw [hve] at hf HF
                    have HV := Lib.hid (show (vvalid (terms (ms.take k ++ mt :: ms.drop e))).2 = ve from by rw [HT.out]; exact hve)
                    have hvb : (ve == 0) = false := by simpa using hf
                    clear hf hve
                    go_wp2_with (go_at_call 13; go_loud (refine (rvalid_any _ _ _ (ms.take k ++ mt :: ms.drop e) _ (by omega) hT9 hs9).mono ?_; rintro e2 w10 ⟨rfl, hb10⟩; rw [HV.out]))
                    go_ret2
                    refine ⟨none, 0, 0, [], ?_, Nat.le_refl _, Nat.zero_le _, Tms.nil _, by rw [HF.out]; rfl, (fun x hx => by cases hx), hb9.tr hb10⟩
                    rw [HF.out]
                    try rfl
                · skip
                  refine wpForced_step rfl (fun K hK => ?_)
                  go_simp
                  have hX2 := hbX.al (.cells #[.string mt.t.name, .int .i64 mt.t.kind, .int .i64 mt.t.lang, .string mt.t.see, .slice mt.A mt.n mt.c] 33)
                  have hV := Rds.new5 wc rfl (.string mt.t.name) (.int .i64 mt.t.kind) (.int .i64 mt.t.lang) (.string mt.t.see) (.slice mt.A mt.n mt.c) 33
                  try (have hNE : ∀ g, _ = some g → g ≠ wc.heap.size := fun g e => Nat.ne_of_lt (hO.lt g e))
                  try replace hO := hO.alloc (.cells #[.string mt.t.name, .int .i64 mt.t.kind, .int .i64 mt.t.lang, .string mt.t.see, .slice mt.A mt.n mt.c] 33)
                  have hvz : wc.heap.size < (wc.alloc (.cells #[.string mt.t.name, .int .i64 mt.t.kind, .int .i64 mt.t.lang, .string mt.t.see, .slice mt.A mt.n mt.c] 33)).heap.size := by simp
                  replace hbX := hX2
                  refine hK _ _ (fun _ => hcells _ hbX) ?_
                  clear hK K hX2
                  generalize wc.heap.size = vb at *
                  generalize wc.alloc (.cells #[.string mt.t.name, .int .i64 mt.t.kind, .int .i64 mt.t.lang, .string mt.t.see, .slice mt.A mt.n mt.c] 33) = wc at *
                  refine wpPlan_one ?_
                  refine wpForced_step rfl (fun K hK => ?_)
                  refine step_app _ termsT rfl (.tmp 54) (.tmp 57) rfl hO rfl rfl (news := tmsCells (ms.take k)) L1.out (R1.out.below hbX) (tms_one _) ?_ ?_ ?_
                  · omega
                  · omega
                  intro A7 c7 w7 o7 n7 g7 e7
                  simp only [Nat.zero_add, List.nil_append] at o7 n7 e7
                  go_simp
                  have hX2 := hbX.gr g7 hO.row
                  try (replace hV := hV.grown g7 (fun b off e => by injection e with e; injection e with e1 e2; intro h; exact hNE _ h.symm e1.symm))
                  try replace hvz := Nat.lt_of_lt_of_le hvz g7.size
                  try clear hNE
                  replace hbX := hX2
                  refine hK _ _ (fun _ => hcells _ hbX) ?_
                  clear hK K hX2 hO g7 e7
                  have hO := o7
                  clear o7
                  generalize w7 = wc at *
                  refine wpPlan_one ?_
                  refine wpForced_step rfl (fun K hK => ?_)
                  refine step_app _ termsT rfl (.tmp 58) (.tmp 60) rfl hO rfl rfl (news := [.string mt.t.name, .int .i64 mt.t.kind, .int .i64 mt.t.lang, .string mt.t.see, .slice mt.A mt.n mt.c]) rfl hV (by simp [Value.oneCell']) ?_ ?_ ?_
                  · omega
                  · omega
                  intro A8 c8 w8 o8 n8 g8 e8
                  go_simp
                  have hX2 := hbX.gr g8 hO.row
                  replace hbX := hX2
                  refine hK _ _ (fun _ => hcells _ hbX) ?_
                  clear hK K hX2 hO g8 e8 hV hvz
                  have hO := o8
                  clear o8
                  generalize w8 = wc at *
                  refine wpPlan_one ?_
                  refine wpForced_step rfl (fun K hK => ?_)
                  refine step_app _ termsT rfl (.tmp 61) (.tmp 64) rfl hO rfl rfl (news := tmsCells (ms.drop e)) L2.out (R2.out.below hbX) (tms_one _) ?_ ?_ ?_
                  · omega
                  · omega
                  intro A9 c9 w9 o9 n9 g9 e9
                  go_simp
                  have hX2 := hbX.gr g9 hO.row
                  replace hbX := hX2
                  refine hK _ _ (fun _ => hcells _ hbX) ?_
                  clear hK K hX2 hO g9 e9
                  refine wpPlan_put (v := ?_) rfl rfl (Or.inl ⟨by rfl, fun wz hz => ?_⟩) (hcells _ hbX) ?_
                  rotate_left
                  (focus (go_simp; try (with_reducible rfl)))
                  simp only [List.setIfInBounds_toArray, List.set_cons_succ, List.set_cons_zero]
                  refine wpPlan_nil ?_
                  have hb9 : Below w.heap.size w w9 := hbw5.tr hbX
                  have hT9 : Tms w9 A9 (k + 1 + (n - e)) (ms.take k ++ mt :: ms.drop e) := Tms.own o9 (by unfold tmsCells; rw [List.flatMap_append, List.flatMap_cons, List.append_assoc]; rfl) (fun x hx => by
                    rcases List.mem_append.1 hx with hx | hx
                    · exact (hl.2.1 x (List.mem_of_mem_take hx)).below hb9
                    · rcases List.mem_cons.1 hx with rfl | hx
                      · exact hok.below hb9
                      · exact (hl.2.1 x (List.mem_of_mem_drop hx)).below hb9)
                  have hs9 : ∀ x ∈ ms.take k ++ mt :: ms.drop e, x.small := fun x hx => by
                    rcases List.mem_append.1 hx with hx | hx
                    · exact hsm x (List.mem_of_mem_take hx)
                    · rcases List.mem_cons.1 hx with rfl | hx
                      · exact hst
                      · exact hsm x (List.mem_of_mem_drop hx)
                  have HT := Lib.hid (show terms (ms.take k ++ mt :: ms.drop e) = addL (terms ms) mt.t from by rw [HA.out]; unfold terms; simp [List.map_take, List.map_drop])
                  clear o9 hcells
                  by_cases hf : (vvalid (addL (terms ms) mt.t)).2 = 0
                  · have HF := Lib.hid (show addV (terms ms) mt.t = (addL (terms ms) mt.t, 0) from by unfold addV; rw [if_pos hv0.out, if_pos hf])
                    have HV := Lib.hid (show (vvalid (terms (ms.take k ++ mt :: ms.drop e))).2 = 0 from by rw [HT.out]; exact hf)
                    clear hf
                    go_wp2_with (go_at_call 13; go_loud (refine (rvalid_any _ _ _ (ms.take k ++ mt :: ms.drop e) _ (by omega) hT9 hs9).mono ?_; rintro e2 w10 ⟨rfl, hb10⟩; rw [HV.out]))
                    go_ret2
                    refine ⟨_, _, _, (ms.take k ++ mt :: ms.drop e), ?_, n9, by omega, hT9.below hb10, by rw [HF.out]; exact HT.out, hs9, hb9.tr hb10⟩
                    rw [HF.out]
                    try rfl
                  · have HF := Lib.hid (show addV (terms ms) mt.t = ([], (vvalid (addL (terms ms) mt.t)).2) from by unfold addV; rw [if_pos hv0.out, if_neg hf])
                    obtain ⟨ve, hve⟩ : ∃ ve, (vvalid (addL (terms ms) mt.t)).2 = ve := ⟨_, rfl⟩
                    rw [hve] at hf HF
                    have HV := Lib.hid (show (vvalid (terms (ms.take k ++ mt :: ms.drop e))).2 = ve from by rw [HT.out]; exact hve)
                    have hvb : (ve == 0) = false := by simpa using hf
                    clear hf hve
                    go_wp2_with (go_at_call 13; go_loud (refine (rvalid_any _ _ _ (ms.take k ++ mt :: ms.drop e) _ (by omega) hT9 hs9).mono ?_; rintro e2 w10 ⟨rfl, hb10⟩; rw [HV.out]))
                    go_ret2
                    refine ⟨none, 0, 0, [], ?_, Nat.le_refl _, Nat.zero_le _, Tms.nil _, by rw [HF.out]; rfl, (fun x hx => by cases hx), hb9.tr hb10⟩
                    rw [HF.out]
                    try rfl
              · skip
                refine wpForced_step rfl (fun K hK => ?_)
                go_simp
                have hX2 := hbX.al (.cells #[.string mt.t.name, .int .i64 mt.t.kind, .int .i64 mt.t.lang, .string mt.t.see, .slice mt.A mt.n mt.c] 33)
                have hV := Rds.new5 wc rfl (.string mt.t.name) (.int .i64 mt.t.kind) (.int .i64 mt.t.lang) (.string mt.t.see) (.slice mt.A mt.n mt.c) 33
                try (have hNE : ∀ g, _ = some g → g ≠ wc.heap.size := fun g e => Nat.ne_of_lt (hO.lt g e))
                try replace hO := hO.alloc (.cells #[.string mt.t.name, .int .i64 mt.t.kind, .int .i64 mt.t.lang, .string mt.t.see, .slice mt.A mt.n mt.c] 33)
                have hvz : wc.heap.size < (wc.alloc (.cells #[.string mt.t.name, .int .i64 mt.t.kind, .int .i64 mt.t.lang, .string mt.t.see, .slice mt.A mt.n mt.c] 33)).heap.size := by simp
                replace hbX := hX2
                refine hK _ _ (fun _ => hcells _ hbX) ?_
                clear hK K hX2
                generalize wc.heap.size = vb at *
                generalize wc.alloc (.cells #[.string mt.t.name, .int .i64 mt.t.kind, .int .i64 mt.t.lang, .string mt.t.see, .slice mt.A mt.n mt.c] 33) = wc at *
                refine wpPlan_one ?_
                refine wpForced_step rfl (fun K hK => ?_)
                go_simp
                have hX2 := hbX.al (.cells #[] 33)
                have hO := Own.empty wc 33 5 (base := w5.heap.size) hbX.size
                try replace hV := hV.alloc (.cells #[] 33)
                have hob : ∀ g, (Value.slice (some ⟨wc.heap.size, 0, none⟩) 0 0).ownBlock = some g → g = wc.heap.size := fun g e => by simp [Value.ownBlock] at e; exact e.symm
                try (have hNE : ∀ g, (Value.slice (some ⟨wc.heap.size, 0, none⟩) 0 0).ownBlock = some g → g ≠ vb := fun g e => by have := hob g e; omega)
                replace hbX := hX2
                refine hK _ _ (fun _ => hcells _ hbX) ?_
                clear hK K hX2 hob
                generalize wc.heap.size = ob at *
                generalize wc.alloc (.cells #[] 33) = wc at *
                refine wpPlan_one ?_
                refine wpForced_step rfl (fun K hK => ?_)
                refine step_app _ termsT rfl (.tmp 54) (.tmp 57) rfl hO rfl rfl (news := tmsCells (ms.take k)) L1.out (R1.out.below hbX) (tms_one _) ?_ ?_ ?_
                · omega
                · omega
                intro A7 c7 w7 o7 n7 g7 e7
                simp only [Nat.zero_add, List.nil_append] at o7 n7 e7
                go_simp
                have hX2 := hbX.gr g7 hO.row
                try (replace hV := hV.grown g7 (fun b off e => by injection e with e; injection e with e1 e2; intro h; exact hNE _ h.symm e1.symm))
                try replace hvz := Nat.lt_of_lt_of_le hvz g7.size
                try clear hNE
                replace hbX := hX2
                refine hK _ _ (fun _ => hcells _ hbX) ?_
                clear hK K hX2 hO g7 e7
                have hO := o7
                clear o7
                generalize w7 = wc at *
                refine wpPlan_one ?_
                refine wpForced_step rfl (fun K hK => ?_)
                refine step_app _ termsT rfl (.tmp 58) (.tmp 60) rfl hO rfl rfl (news := [.string mt.t.name, .int .i64 mt.t.kind, .int .i64 mt.t.lang, .string mt.t.see, .slice mt.A mt.n mt.c]) rfl hV (by simp [Value.oneCell']) ?_ ?_ ?_
                · omega
                · omega
                intro A8 c8 w8 o8 n8 g8 e8
                go_simp
                have hX2 := hbX.gr g8 hO.row
                replace hbX := hX2
                refine hK _ _ (fun _ => hcells _ hbX) ?_
                clear hK K hX2 hO g8 e8 hV hvz
                have hO := o8
                clear o8
                generalize w8 = wc at *
                refine wpPlan_one ?_
                refine wpForced_step rfl (fun K hK => ?_)
                refine step_app _ termsT rfl (.tmp 61) (.tmp 64) rfl hO rfl rfl (news := tmsCells (ms.drop e)) L2.out (R2.out.below hbX) (tms_one _) ?_ ?_ ?_
                · omega
                · omega
                intro A9 c9 w9 o9 n9 g9 e9
                go_simp
                have hX2 := hbX.gr g9 hO.row
                replace hbX := hX2
                refine hK _ _ (fun _ => hcells _ hbX) ?_
                clear hK K hX2 hO g9 e9
                refine wpPlan_put (v := ?_) rfl rfl (Or.inl ⟨by rfl, fun wz hz => ?_⟩) (hcells _ hbX) ?_
                rotate_left
                (focus (go_simp; try (with_reducible rfl)))
                simp only [List.setIfInBounds_toArray, List.set_cons_succ, List.set_cons_zero]
                refine wpPlan_nil ?_
                have hb9 : Below w.heap.size w w9 := hbw5.tr hbX
                have hT9 : Tms w9 A9 (k + 1 + (n - e)) (ms.take k ++ mt :: ms.drop e) := Tms.own o9 (by unfold tmsCells; rw [List.flatMap_append, List.flatMap_cons, List.append_assoc]; rfl) (fun x hx => by
                  rcases List.mem_append.1 hx with hx | hx
                  · exact (hl.2.1 x (List.mem_of_mem_take hx)).below hb9
                  · rcases List.mem_cons.1 hx with rfl | hx
                    · exact hok.below hb9
                    · exact (hl.2.1 x (List.mem_of_mem_drop hx)).below hb9)
                have hs9 : ∀ x ∈ ms.take k ++ mt :: ms.drop e, x.small := fun x hx => by
                  rcases List.mem_append.1 hx with hx | hx
                  · exact hsm x (List.mem_of_mem_take hx)
                  · rcases List.mem_cons.1 hx with rfl | hx
                    · exact hst
                    · exact hsm x (List.mem_of_mem_drop hx)
                have HT := Lib.hid (show terms (ms.take k ++ mt :: ms.drop e) = addL (terms ms) mt.t from by rw [HA.out]; unfold terms; simp [List.map_take, List.map_drop])
                clear o9 hcells
                by_cases hf : (vvalid (addL (terms ms) mt.t)).2 = 0
                · have HF := Lib.hid (show addV (terms ms) mt.t = (addL (terms ms) mt.t, 0) from by unfold addV; rw [if_pos hv0.out, if_pos hf])
                  have HV := Lib.hid (show (vvalid (terms (ms.take k ++ mt :: ms.drop e))).2 = 0 from by rw [HT.out]; exact hf)
                  clear hf
                  go_wp2_with (go_at_call 13; go_loud (refine (rvalid_any _ _ _ (ms.take k ++ mt :: ms.drop e) _ (by omega) hT9 hs9).mono ?_; rintro e2 w10 ⟨rfl, hb10⟩; rw [HV.out]))
                  go_ret2
                  refine ⟨_, _, _, (ms.take k ++ mt :: ms.drop e), ?_, n9, by omega, hT9.below hb10, by rw [HF.out]; exact HT.out, hs9, hb9.tr hb10⟩
                  rw [HF.out]
                  try rfl
                · have HF := Lib.hid (show addV (terms ms) mt.t = ([], (vvalid (addL (terms ms) mt.t)).2) from by unfold addV; rw [if_pos hv0.out, if_neg hf])
                  obtain ⟨ve, hve⟩ : ∃ ve, (vvalid (addL (terms ms) mt.t)).2 = ve := ⟨_, rfl⟩
                  rw [hve] at hf HF
                  have HV := Lib.hid (show (vvalid (terms (ms.take k ++ mt :: ms.drop e))).2 = ve from by rw [HT.out]; exact hve)
                  have hvb : (ve == 0) = false := by simpa using hf
                  clear hf hve
                  go_wp2_with (go_at_call 13; go_loud (refine (rvalid_any _ _ _ (ms.take k ++ mt :: ms.drop e) _ (by omega) hT9 hs9).mono ?_; rintro e2 w10 ⟨rfl, hb10⟩; rw [HV.out]))
                  go_ret2
                  refine ⟨none, 0, 0, [], ?_, Nat.le_refl _, Nat.zero_le _, Tms.nil _, by rw [HF.out]; rfl, (fun x hx => by cases hx), hb9.tr hb10⟩
                  rw [HF.out]
                  try rfl
        · have hP2 := Lib.hid (show place (terms ms) mt.t.name = k + 1 + place ((terms ms).drop (k + 1)) mt.t.name from by rw [hP.out, hd, place_cons, if_pos (by unfold ltS; exact hlo)]; omega)
          clear htk hd
          go_wp2
          go_quiet (fail)
          go_wp2
          go_roundw
          case rel => exact ⟨k + 1, by omega, by go_num, hP2, hb.drn _⟩
          case measure => simp [intOf]; omega
      · have hlt' : decide ((k : Int) < n) = false := by rw [decide_eq_false_iff_not]; omega
        have hd := drop_len hlen hlt
        have HP := Lib.hid (show place (terms ms) mt.t.name = k from by rw [hP.out, hd]; rfl)
        have HA := Lib.hid (show addL (terms ms) mt.t = (terms ms).take k ++ mt.t :: (terms ms).drop k from by
          unfold addL
          rw [if_neg (by rw [isAt_none (by rw [HP.out]; exact List.getElem?_eq_none (by omega))]; simp), HP.out])
        clear hd
        go_wp2
        go_quiet (fail)
        obtain ⟨nq1, hnq1⟩ : ∃ nq1, nq1 = nq := ⟨_, rfl⟩
        subst hnq1
        go_wp2
        go_quiet (fail)
        go_wp2
        have hki : (k : Int) ≤ n := by omega
        have hkc : (k : Int) ≤ c := by omega
        have L1 := Lib.hid (show (tmsCells (ms.take k)).length = k * 5 from by rw [tmsCells_length, List.length_take, hml]; omega)
        have L2 := Lib.hid (show (tmsCells (ms.drop k)).length = (n - k) * 5 from by rw [tmsCells_length, List.length_drop, hml])
        obtain ⟨w5, hw5⟩ : ∃ w5 : World, w5 = ((wr.drewN nq1).drewN nq).drew := ⟨_, rfl⟩
        have hbw5 : Below w.heap.size w w5 := by rw [hw5]; exact (((hbr.drn nq1).drn nq)).drn 1
        have R0 := (hl.below hbw5).2.2
        have r1 := R0.take (k * 5)
        rw [tmsCells_take] at r1
        have R1 := Lib.hid r1
        clear r1
        have r2 := R0.dropTm (k := k) (c := c) (by omega)
        have hcells : ∀ wz, Below w5.heap.size w5 wz → wz.cell? ⟨w.heap.size, 0, none⟩ = some (.string mt.t.name) ∧ wz.cell? ⟨w.heap.size, 1, none⟩ = some (.int .i64 mt.t.kind) ∧ wz.cell? ⟨w.heap.size, 2, none⟩ = some (.int .i64 mt.t.lang) ∧ wz.cell? ⟨w.heap.size, 3, none⟩ = some (.string mt.t.see) ∧ wz.cell? ⟨w.heap.size, 4, none⟩ = some (.slice mt.A mt.n mt.c) := fun wz hz => HBX.out wz (by have this : Below wb.heap.size wb ((wr.drewN nq1).drewN nq).drew := ((((hb2.tr hb).drn nq1).drn nq)).drn 1; rw [← hw5] at this; exact this.tr hz)
        by_cases hce : c = k
        · rw [if_pos hce] at r2
          have R2 := Lib.hid r2
          clear r2
          obtain ⟨wc, hwc⟩ : ∃ wc : World, wc = w5 := ⟨_, rfl⟩
          have hbX : Below w5.heap.size w5 wc := by rw [hwc]; exact brefl
          go_wp2
          refine wp_region_plan (.take 1 (.take 2 (.take 3 (.take 5 (.take 8 (.take 9 (.take 10 (.two 0 (.two 4 (.one 6 (.one 7 (.one 11 (.take 12 (.done))))) 6 (.one 4 (.one 7 (.one 11 (.take 12 (.done)))))) 6 (.one 0 (.one 4 (.one 7 (.one 11 (.take 12 (.done)))))))))))))) 13 (fun wz => wz.cell? ⟨w.heap.size, 0, none⟩ = some (.string mt.t.name) ∧ wz.cell? ⟨w.heap.size, 1, none⟩ = some (.int .i64 mt.t.kind) ∧ wz.cell? ⟨w.heap.size, 2, none⟩ = some (.int .i64 mt.t.lang) ∧ wz.cell? ⟨w.heap.size, 3, none⟩ = some (.string mt.t.see) ∧ wz.cell? ⟨w.heap.size, 4, none⟩ = some (.slice mt.A mt.n mt.c)) (by kernel_rfl) (by kernel_rfl) ?_
          rw [← hw5, ← hwc]; clear hw5 hwc
          refine wpPlan_put (v := ?_) rfl rfl (Or.inl ⟨by rfl, fun wz hz => ?_⟩) (hcells _ hbX) ?_
          rotate_left
          (focus (go_simp; try (with_reducible rfl)))
          simp only [List.setIfInBounds_toArray, List.set_cons_succ, List.set_cons_zero]
          refine wpPlan_put (v := ?_) rfl rfl (Or.inl ⟨by rfl, fun wz hz => ?_⟩) (hcells _ hbX) ?_
          rotate_left
          (focus (go_simp; try (with_reducible rfl)))
          simp only [List.setIfInBounds_toArray, List.set_cons_succ, List.set_cons_zero]
          refine wpPlan_put (v := ?_) rfl rfl (Or.inl ⟨by rfl, fun wz hz => ?_⟩) (hcells _ hbX) ?_
          rotate_left
          (focus (go_simp; try (with_reducible rfl)))
          simp only [List.setIfInBounds_toArray, List.set_cons_succ, List.set_cons_zero]
          refine wpPlan_put (v := ?_) rfl rfl (Or.inl ⟨by rfl, fun wz hz => ?_⟩) (hcells _ hbX) ?_
          rotate_left
          (focus (go_simp; try (with_reducible rfl)))
          simp only [List.setIfInBounds_toArray, List.set_cons_succ, List.set_cons_zero]
          refine wpPlan_put (v := ?_) rfl rfl (Or.inl ⟨by rfl, fun wz hz => ?_⟩) (hcells _ hbX) ?_
          rotate_left
          (focus (go_simp; try (with_reducible rfl)))
          simp only [List.setIfInBounds_toArray, List.set_cons_succ, List.set_cons_zero]
          refine wpPlan_put (v := ?_) rfl rfl (Or.inl ⟨by rfl, fun wz hz => ?_⟩) (hcells _ hbX) ?_
          rotate_left
          (focus (go_simp; try (with_reducible rfl)))
          simp only [List.setIfInBounds_toArray, List.set_cons_succ, List.set_cons_zero]
          refine wpPlan_put (v := ?_) rfl rfl (Or.inl ⟨by rfl, fun wz hz => ?_⟩) (hcells _ hbX) ?_
          rotate_left
          (focus (go_simp; try (with_reducible rfl)))
          simp only [List.setIfInBounds_toArray, List.set_cons_succ, List.set_cons_zero]
          refine wpPlan_two ?_ ?_
          · skip
            refine wpForced_step rfl (fun K hK => ?_)
            go_simp
            have hX2 := hbX.al (.cells #[] 33)
            have hO := Own.empty wc 33 5 (base := w5.heap.size) hbX.size
            try replace hV := hV.alloc (.cells #[] 33)
            have hob : ∀ g, (Value.slice (some ⟨wc.heap.size, 0, none⟩) 0 0).ownBlock = some g → g = wc.heap.size := fun g e => by simp [Value.ownBlock] at e; exact e.symm
            try (have hNE : ∀ g, (Value.slice (some ⟨wc.heap.size, 0, none⟩) 0 0).ownBlock = some g → g ≠ vb := fun g e => by have := hob g e; omega)
            replace hbX := hX2
            refine hK _ _ (fun _ => hcells _ hbX) ?_
            clear hK K hX2 hob
            generalize wc.heap.size = ob at *
            generalize wc.alloc (.cells #[] 33) = wc at *
            refine wpPlan_two ?_ ?_
            · skip
              refine wpForced_step rfl (fun K hK => ?_)
              refine step_app _ termsT rfl (.tmp 54) (.tmp 57) rfl hO rfl rfl (news := tmsCells (ms.take k)) L1.out (R1.out.below hbX) (tms_one _) ?_ ?_ ?_
              · omega
              · omega
              intro A7 c7 w7 o7 n7 g7 e7
              simp only [Nat.zero_add, List.nil_append] at o7 n7 e7
              go_simp
              have hX2 := hbX.gr g7 hO.row
              try (replace hV := hV.grown g7 (fun b off e => by injection e with e; injection e with e1 e2; intro h; exact hNE _ h.symm e1.symm))
              try replace hvz := Nat.lt_of_lt_of_le hvz g7.size
              try clear hNE
              replace hbX := hX2
              refine hK _ _ (fun _ => hcells _ hbX) ?_
              clear hK K hX2 hO g7 e7
              have hO := o7
              clear o7
              generalize w7 = wc at *
              refine wpPlan_one ?_
              refine wpForced_step rfl (fun K hK => ?_)
              go_simp
              have hX2 := hbX.al (.cells #[.string mt.t.name, .int .i64 mt.t.kind, .int .i64 mt.t.lang, .string mt.t.see, .slice mt.A mt.n mt.c] 33)
              have hV := Rds.new5 wc rfl (.string mt.t.name) (.int .i64 mt.t.kind) (.int .i64 mt.t.lang) (.string mt.t.see) (.slice mt.A mt.n mt.c) 33
              try (have hNE : ∀ g, _ = some g → g ≠ wc.heap.size := fun g e => Nat.ne_of_lt (hO.lt g e))
              try replace hO := hO.alloc (.cells #[.string mt.t.name, .int .i64 mt.t.kind, .int .i64 mt.t.lang, .string mt.t.see, .slice mt.A mt.n mt.c] 33)
              have hvz : wc.heap.size < (wc.alloc (.cells #[.string mt.t.name, .int .i64 mt.t.kind, .int .i64 mt.t.lang, .string mt.t.see, .slice mt.A mt.n mt.c] 33)).heap.size := by simp
              replace hbX := hX2
              refine hK _ _ (fun _ => hcells _ hbX) ?_
              clear hK K hX2
              generalize wc.heap.size = vb at *
              generalize wc.alloc (.cells #[.string mt.t.name, .int .i64 mt.t.kind, .int .i64 mt.t.lang, .string mt.t.see, .slice mt.A mt.n mt.c] 33) = wc at *
              refine wpPlan_one ?_
              refine wpForced_step rfl (fun K hK => ?_)
              refine step_app _ termsT rfl (.tmp 58) (.tmp 60) rfl hO rfl rfl (news := [.string mt.t.name, .int .i64 mt.t.kind, .int .i64 mt.t.lang, .string mt.t.see, .slice mt.A mt.n mt.c]) rfl hV (by simp [Value.oneCell']) ?_ ?_ ?_
              · omega
              · omega
              intro A8 c8 w8 o8 n8 g8 e8
              go_simp
              have hX2 := hbX.gr g8 hO.row
              replace hbX := hX2
              refine hK _ _ (fun _ => hcells _ hbX) ?_
              clear hK K hX2 hO g8 e8 hV hvz
              have hO := o8
              clear o8
              generalize w8 = wc at *
              refine wpPlan_one ?_
              refine wpForced_step rfl (fun K hK => ?_)
              refine step_app _ termsT rfl (.tmp 61) (.tmp 64) rfl hO rfl rfl (news := tmsCells (ms.drop k)) L2.out (R2.out.below hbX) (tms_one _) ?_ ?_ ?_
              · omega
              · omega
              intro A9 c9 w9 o9 n9 g9 e9
              go_simp
              have hX2 := hbX.gr g9 hO.row
              replace hbX := hX2
              refine hK _ _ (fun _ => hcells _ hbX) ?_
              clear hK K hX2 hO g9 e9
              refine wpPlan_put (v := ?_) rfl rfl (Or.inl ⟨by rfl, fun wz hz => ?_⟩) (hcells _ hbX) ?_
              rotate_left
              (focus (go_simp; try (with_reducible rfl)))
              simp only [List.setIfInBounds_toArray, List.set_cons_succ, List.set_cons_zero]
              refine wpPlan_nil ?_
              have hb9 : Below w.heap.size w w9 := hbw5.tr hbX
              have hT9 : Tms w9 A9 (k + 1 + (n - k)) (ms.take k ++ mt :: ms.drop k) := Tms.own o9 (by unfold tmsCells; rw [List.flatMap_append, List.flatMap_cons, List.append_assoc]; rfl) (fun x hx => by
                rcases List.mem_append.1 hx with hx | hx
                · exact (hl.2.1 x (List.mem_of_mem_take hx)).below hb9
                · rcases List.mem_cons.1 hx with rfl | hx
                  · exact hok.below hb9
                  · exact (hl.2.1 x (List.mem_of_mem_drop hx)).below hb9)
              have hs9 : ∀ x ∈ ms.take k ++ mt :: ms.drop k, x.small := fun x hx => by
                rcases List.mem_append.1 hx with hx | hx
                · exact hsm x (List.mem_of_mem_take hx)
                · rcases List.mem_cons.1 hx with rfl | hx
                  · exact hst
                  · exact hsm x (List.mem_of_mem_drop hx)
              have HT := Lib.hid (show terms (ms.take k ++ mt :: ms.drop k) = addL (terms ms) mt.t from by rw [HA.out]; unfold terms; simp [List.map_take, List.map_drop])
              clear o9 hcells
              by_cases hf : (vvalid (addL (terms ms) mt.t)).2 = 0
              · have HF := Lib.hid (show addV (terms ms) mt.t = (addL (terms ms) mt.t, 0) from by unfold addV; rw [if_pos hv0.out, if_pos hf])
                have HV := Lib.hid (show (vvalid (terms (ms.take k ++ mt :: ms.drop k))).2 = 0 from by rw [HT.out]; exact hf)
                clear hf
                go_wp2_with (go_at_call 13; go_loud (refine (rvalid_any _ _ _ (ms.take k ++ mt :: ms.drop k) _ (by omega) hT9 hs9).mono ?_; rintro e2 w10 ⟨rfl, hb10⟩; rw [HV.out]))
                go_ret2
                refine ⟨_, _, _, (ms.take k ++ mt :: ms.drop k), ?_, n9, by omega, hT9.below hb10, by rw [HF.out]; exact HT.out, hs9, hb9.tr hb10⟩
                rw [HF.out]
                try rfl
              · have HF := Lib.hid (show addV (terms ms) mt.t = ([], (vvalid (addL (terms ms) mt.t)).2) from by unfold addV; rw [if_pos hv0.out, if_neg hf])
                obtain ⟨ve, hve⟩ : ∃ ve, (vvalid (addL (terms ms) mt.t)).2 = ve := ⟨_, rfl⟩
                rw [hve] at hf HF
                have HV := Lib.hid (show (vvalid (terms (ms.take k ++ mt :: ms.drop k))).2 = ve from by rw [HT.out]; exact hve)
                have hvb : (ve == 0) = false := by simpa using hf
                clear hf hve
                go_wp2_with (go_at_call 13; go_loud (refine (rvalid_any _ _ _ (ms.take k ++ mt :: ms.drop k) _ (by omega) hT9 hs9).mono ?_; rintro e2 w10 ⟨rfl, hb10⟩; rw [HV.out]))
                go_ret2
                refine ⟨none, 0, 0, [], ?_, Nat.le_refl _, Nat.zero_le _, Tms.nil _, by rw [HF.out]; rfl, (fun x hx => by cases hx), hb9.tr hb10⟩
                rw [HF.out]
                try rfl
            · skip
              refine wpForced_step rfl (fun K hK => ?_)
              go_simp
              have hX2 := hbX.al (.cells #[.string mt.t.name, .int .i64 mt.t.kind, .int .i64 mt.t.lang, .string mt.t.see, .slice mt.A mt.n mt.c] 33)
              have hV := Rds.new5 wc rfl (.string mt.t.name) (.int .i64 mt.t.kind) (.int .i64 mt.t.lang) (.string mt.t.see) (.slice mt.A mt.n mt.c) 33
              try (have hNE : ∀ g, _ = some g → g ≠ wc.heap.size := fun g e => Nat.ne_of_lt (hO.lt g e))
              try replace hO := hO.alloc (.cells #[.string mt.t.name, .int .i64 mt.t.kind, .int .i64 mt.t.lang, .string mt.t.see, .slice mt.A mt.n mt.c] 33)
              have hvz : wc.heap.size < (wc.alloc (.cells #[.string mt.t.name, .int .i64 mt.t.kind, .int .i64 mt.t.lang, .string mt.t.see, .slice mt.A mt.n mt.c] 33)).heap.size := by simp
              replace hbX := hX2
              refine hK _ _ (fun _ => hcells _ hbX) ?_
              clear hK K hX2
              generalize wc.heap.size = vb at *
              generalize wc.alloc (.cells #[.string mt.t.name, .int .i64 mt.t.kind, .int .i64 mt.t.lang, .string mt.t.see, .slice mt.A mt.n mt.c] 33) = wc at *
              refine wpPlan_one ?_
              refine wpForced_step rfl (fun K hK => ?_)
              refine step_app _ termsT rfl (.tmp 54) (.tmp 57) rfl hO rfl rfl (news := tmsCells (ms.take k)) L1.out (R1.out.below hbX) (tms_one _) ?_ ?_ ?_
              · omega
              · omega
              intro A7 c7 w7 o7 n7 g7 e7
              simp only [Nat.zero_add, List.nil_append] at o7 n7 e7
              go_simp
              have hX2 := hbX.gr g7 hO.row
              try (replace hV := hV.grown g7 (fun b off e => by injection e with e; injection e with e1 e2; intro h; exact hNE _ h.symm e1.symm))
              try replace hvz := Nat.lt_of_lt_of_le hvz g7.size
              try clear hNE
              replace hbX := hX2
              refine hK _ _ (fun _ => hcells _ hbX) ?_
              clear hK K hX2 hO g7 e7
              have hO := o7
              clear o7
              generalize w7 = wc at *
              refine wpPlan_one ?_
              refine wpForced_step rfl (fun K hK => ?_)
              refine step_app _ termsT rfl (.tmp 58) (.tmp 60) rfl hO rfl rfl (news := [.string mt.t.name, .int .i64 mt.t.kind, .int .i64 mt.t.lang, .string mt.t.see, .slice mt.A mt.n mt.c]) rfl hV (by simp [Value.oneCell']) ?_ ?_ ?_
              · omega
              · omega
              intro A8 c8 w8 o8 n8 g8 e8
              go_simp
              have hX2 := hbX.gr g8 hO.row
              replace hbX := hX2
              refine hK _ _ (fun _ => hcells _ hbX) ?_
              clear hK K hX2 hO g8 e8 hV hvz
              have hO := o8
              clear o8
              generalize w8 = wc at *
              refine wpPlan_one ?_
              refine wpForced_step rfl (fun K hK => ?_)
              refine step_app _ termsT rfl (.tmp 61) (.tmp 64) rfl hO rfl rfl (news := tmsCells (ms.drop k)) L2.out (R2.out.below hbX) (tms_one _) ?_ ?_ ?_
              · omega
              · omega
              intro A9 c9 w9 o9 n9 g9 e9
              go_simp
              have hX2 := hbX.gr g9 hO.row
              replace hbX := hX2
              refine hK _ _ (fun _ => hcells _ hbX) ?_
              clear hK K hX2 hO g9 e9
              refine wpPlan_put (v := ?_) rfl rfl (Or.inl ⟨by rfl, fun wz hz => ?_⟩) (hcells _ hbX) ?_
              rotate_left
              (focus (go_simp; try (with_reducible rfl)))
              simp only [List.setIfInBounds_toArray, List.set_cons_succ, List.set_cons_zero]
              refine wpPlan_nil ?_
              have hb9 : Below w.heap.size w w9 := hbw5.tr hbX
              have hT9 : Tms w9 A9 (k + 1 + (n - k)) (ms.take k ++ mt :: ms.drop k) := Tms.own o9 (by unfold tmsCells; rw [List.flatMap_append, List.flatMap_cons, List.append_assoc]; rfl) (fun x hx => by
                rcases List.mem_append.1 hx with hx | hx
                · exact (hl.2.1 x (List.mem_of_mem_take hx)).below hb9
                · rcases List.mem_cons.1 hx with rfl | hx
                  · exact hok.below hb9
                  · exact (hl.2.1 x (List.mem_of_mem_drop hx)).below hb9)
              have hs9 : ∀ x ∈ ms.take k ++ mt :: ms.drop k, x.small := fun x hx => by
                rcases List.mem_append.1 hx with hx | hx
                · exact hsm x (List.mem_of_mem_take hx)
                · rcases List.mem_cons.1 hx with rfl | hx
                  · exact hst
                  · exact hsm x (List.mem_of_mem_drop hx)
              have HT := Lib.hid (show terms (ms.take k ++ mt :: ms.drop k) = addL (terms ms) mt.t from by rw [HA.out]; unfold terms; simp [List.map_take, List.map_drop])
              clear o9 hcells
              by_cases hf : (vvalid (addL (terms ms) mt.t)).2 = 0
              · have HF := Lib.hid (show addV (terms ms) mt.t = (addL (terms ms) mt.t, 0) from by unfold addV; rw [if_pos hv0.out, if_pos hf])
                have HV := Lib.hid (show (vvalid (terms (ms.take k ++ mt :: ms.drop k))).2 = 0 from by rw [HT.out]; exact hf)
                clear hf
                go_wp2_with (go_at_call 13; go_loud (refine (rvalid_any _ _ _ (ms.take k ++ mt :: ms.drop k) _ (by omega) hT9 hs9).mono ?_; rintro e2 w10 ⟨rfl, hb10⟩; rw [HV.out]))
                go_ret2
                refine ⟨_, _, _, (ms.take k ++ mt :: ms.drop k), ?_, n9, by omega, hT9.below hb10, by rw [HF.out]; exact HT.out, hs9, hb9.tr hb10⟩
                rw [HF.out]
                try rfl
              · have HF := Lib.hid (show addV (terms ms) mt.t = ([], (vvalid (addL (terms ms) mt.t)).2) from by unfold addV; rw [if_pos hv0.out, if_neg hf])
                obtain ⟨ve, hve⟩ : ∃ ve, (vvalid (addL (terms ms) mt.t)).2 = ve := ⟨_, rfl⟩
                rw [hve] at hf HF
                have HV := Lib.hid (show (vvalid (terms (ms.take k ++ mt :: ms.drop k))).2 = ve from by rw [HT.out]; exact hve)
                have hvb : (ve == 0) = false := by simpa using hf
                clear hf hve
                go_wp2_with (go_at_call 13; go_loud (refine (rvalid_any _ _ _ (ms.take k ++ mt :: ms.drop k) _ (by omega) hT9 hs9).mono ?_; rintro e2 w10 ⟨rfl, hb10⟩; rw [HV.out]))
                go_ret2
                refine ⟨none, 0, 0, [], ?_, Nat.le_refl _, Nat.zero_le _, Tms.nil _, by rw [HF.out]; rfl, (fun x hx => by cases hx), hb9.tr hb10⟩
                rw [HF.out]
                try rfl
          · skip
            refine wpForced_step rfl (fun K hK => ?_)
            go_simp
            have hX2 := hbX.al (.cells #[.string mt.t.name, .int .i64 mt.t.kind, .int .i64 mt.t.lang, .string mt.t.see, .slice mt.A mt.n mt.c] 33)
            have hV := Rds.new5 wc rfl (.string mt.t.name) (.int .i64 mt.t.kind) (.int .i64 mt.t.lang) (.string mt.t.see) (.slice mt.A mt.n mt.c) 33
            try (have hNE : ∀ g, _ = some g → g ≠ wc.heap.size := fun g e => Nat.ne_of_lt (hO.lt g e))
            try replace hO := hO.alloc (.cells #[.string mt.t.name, .int .i64 mt.t.kind, .int .i64 mt.t.lang, .string mt.t.see, .slice mt.A mt.n mt.c] 33)
            have hvz : wc.heap.size < (wc.alloc (.cells #[.string mt.t.name, .int .i64 mt.t.kind, .int .i64 mt.t.lang, .string mt.t.see, .slice mt.A mt.n mt.c] 33)).heap.size := by simp
            replace hbX := hX2
            refine hK _ _ (fun _ => hcells _ hbX) ?_
            clear hK K hX2
            generalize wc.heap.size = vb at *
            generalize wc.alloc (.cells #[.string mt.t.name, .int .i64 mt.t.kind, .int .i64 mt.t.lang, .string mt.t.see, .slice mt.A mt.n mt.c] 33) = wc at *
            refine wpPlan_one ?_
            refine wpForced_step rfl (fun K hK => ?_)
            go_simp
            have hX2 := hbX.al (.cells #[] 33)
            have hO := Own.empty wc 33 5 (base := w5.heap.size) hbX.size
            try replace hV := hV.alloc (.cells #[] 33)
            have hob : ∀ g, (Value.slice (some ⟨wc.heap.size, 0, none⟩) 0 0).ownBlock = some g → g = wc.heap.size := fun g e => by simp [Value.ownBlock] at e; exact e.symm
            try (have hNE : ∀ g, (Value.slice (some ⟨wc.heap.size, 0, none⟩) 0 0).ownBlock = some g → g ≠ vb := fun g e => by have := hob g e; omega)
            replace hbX := hX2
            refine hK _ _ (fun _ => hcells _ hbX) ?_
            clear hK K hX2 hob
            generalize wc.heap.size = ob at *
            generalize wc.alloc (.cells #[] 33) = wc at *
            refine wpPlan_one ?_
            refine wpForced_step rfl (fun K hK => ?_)
            refine step_app _ termsT rfl (.tmp 54) (.tmp 57) rfl hO rfl rfl (news := tmsCells (ms.take k)) L1.out (R1.out.below hbX) (tms_one _) ?_ ?_ ?_
            · omega
            · omega
            intro A7 c7 w7 o7 n7 g7 e7
            simp only [Nat.zero_add, List.nil_append] at o7 n7 e7
            go_simp
            have hX2 := hbX.gr g7 hO.row
            try (replace hV := hV.grown g7 (fun b off e => by injection e with e; injection e with e1 e2; intro h; exact hNE _ h.symm e1.symm))
            try replace hvz := Nat.lt_of_lt_of_le hvz g7.size
            try clear hNE
            replace hbX := hX2
            refine hK _ _ (fun _ => hcells _ hbX) ?_
            clear hK K hX2 hO g7 e7
            have hO := o7
            clear o7
            generalize w7 = wc at *
            refine wpPlan_one ?_
            refine wpForced_step rfl (fun K hK => ?_)
            refine step_app _ termsT rfl (.tmp 58) (.tmp 60) rfl hO rfl rfl (news := [.string mt.t.name, .int .i64 mt.t.kind, .int .i64 mt.t.lang, .string mt.t.see, .slice mt.A mt.n mt.c]) rfl hV (by simp [Value.oneCell']) ?_ ?_ ?_
            · omega
            · omega
            intro A8 c8 w8 o8 n8 g8 e8
            go_simp
            have hX2 := hbX.gr g8 hO.row
            replace hbX := hX2
            refine hK _ _ (fun _ => hcells _ hbX) ?_
            clear hK K hX2 hO g8 e8 hV hvz
            have hO := o8
            clear o8
            generalize w8 = wc at *
            refine wpPlan_one ?_
            refine wpForced_step rfl (fun K hK => ?_)
            refine step_app _ termsT rfl (.tmp 61) (.tmp 64) rfl hO rfl rfl (news := tmsCells (ms.drop k)) L2.out (R2.out.below hbX) (tms_one _) ?_ ?_ ?_
            · omega
            · omega
            intro A9 c9 w9 o9 n9 g9 e9
            go_simp
            have hX2 := hbX.gr g9 hO.row
            replace hbX := hX2
            refine hK _ _ (fun _ => hcells _ hbX) ?_
            clear hK K hX2 hO g9 e9
            refine wpPlan_put (v := ?_) rfl rfl (Or.inl ⟨by rfl, fun wz hz => ?_⟩) (hcells _ hbX) ?_
            rotate_left
            (focus (go_simp; try (with_reducible rfl)))
            simp only [List.setIfInBounds_toArray, List.set_cons_succ, List.set_cons_zero]
            refine wpPlan_nil ?_
            have hb9 : Below w.heap.size w w9 := hbw5.tr hbX
            have hT9 : Tms w9 A9 (k + 1 + (n - k)) (ms.take k ++ mt :: ms.drop k) := Tms.own o9 (by unfold tmsCells; rw [List.flatMap_append, List.flatMap_cons, List.append_assoc]; rfl) (fun x hx => by
              rcases List.mem_append.1 hx with hx | hx
              · exact (hl.2.1 x (List.mem_of_mem_take hx)).below hb9
              · rcases List.mem_cons.1 hx with rfl | hx
                · exact hok.below hb9
                · exact (hl.2.1 x (List.mem_of_mem_drop hx)).below hb9)
            have hs9 : ∀ x ∈ ms.take k ++ mt :: ms.drop k, x.small := fun x hx => by
              rcases List.mem_append.1 hx with hx | hx
              · exact hsm x (List.mem_of_mem_take hx)
              · rcases List.mem_cons.1 hx with rfl | hx
                · exact hst
                · exact hsm x (List.mem_of_mem_drop hx)
            have HT := Lib.hid (show terms (ms.take k ++ mt :: ms.drop k) = addL (terms ms) mt.t from by rw [HA.out]; unfold terms; simp [List.map_take, List.map_drop])
            clear o9 hcells
            by_cases hf : (vvalid (addL (terms ms) mt.t)).2 = 0
            · have HF := Lib.hid (show addV (terms ms) mt.t = (addL (terms ms) mt.t, 0) from by unfold addV; rw [if_pos hv0.out, if_pos hf])
              have HV := Lib.hid (show (vvalid (terms (ms.take k ++ mt :: ms.drop k))).2 = 0 from by rw [HT.out]; exact hf)
              clear hf
              go_wp2_with (go_at_call 13; go_loud (refine (rvalid_any _ _ _ (ms.take k ++ mt :: ms.drop k) _ (by omega) hT9 hs9).mono ?_; rintro e2 w10 ⟨rfl, hb10⟩; rw [HV.out]))
              go_ret2
              refine ⟨_, _, _, (ms.take k ++ mt :: ms.drop k), ?_, n9, by omega, hT9.below hb10, by rw [HF.out]; exact HT.out, hs9, hb9.tr hb10⟩
              rw [HF.out]
              try rfl
            · have HF := Lib.hid (show addV (terms ms) mt.t = ([], (vvalid (addL (terms ms) mt.t)).2) from by unfold addV; rw [if_pos hv0.out, if_neg hf])
              obtain ⟨ve, hve⟩ : ∃ ve, (vvalid (addL (terms ms) mt.t)).2 = ve := ⟨_, rfl⟩
              rw [hve] at hf HF
              have HV := Lib.hid (show (vvalid (terms (ms.take k ++ mt :: ms.drop k))).2 = ve from by rw [HT.out]; exact hve)
              have hvb : (ve == 0) = false := by simpa using hf
              clear hf hve
              go_wp2_with (go_at_call 13; go_loud (refine (rvalid_any _ _ _ (ms.take k ++ mt :: ms.drop k) _ (by omega) hT9 hs9).mono ?_; rintro e2 w10 ⟨rfl, hb10⟩; rw [HV.out]))
              go_ret2
              refine ⟨none, 0, 0, [], ?_, Nat.le_refl _, Nat.zero_le _, Tms.nil _, by rw [HF.out]; rfl, (fun x hx => by cases hx), hb9.tr hb10⟩
              rw [HF.out]
              try rfl
        · rw [if_neg hce] at r2
          try simp only [Option.map_some, addr_add] at r2
          have R2 := Lib.hid r2
          clear r2
          obtain ⟨wc, hwc⟩ : ∃ wc : World, wc = w5 := ⟨_, rfl⟩
          have hbX : Below w5.heap.size w5 wc := by rw [hwc]; exact brefl
          go_wp2
          refine wp_region_plan (.take 1 (.take 2 (.take 3 (.take 5 (.take 8 (.take 9 (.take 10 (.two 0 (.two 4 (.one 6 (.one 7 (.one 11 (.take 12 (.done))))) 6 (.one 4 (.one 7 (.one 11 (.take 12 (.done)))))) 6 (.one 0 (.one 4 (.one 7 (.one 11 (.take 12 (.done)))))))))))))) 13 (fun wz => wz.cell? ⟨w.heap.size, 0, none⟩ = some (.string mt.t.name) ∧ wz.cell? ⟨w.heap.size, 1, none⟩ = some (.int .i64 mt.t.kind) ∧ wz.cell? ⟨w.heap.size, 2, none⟩ = some (.int .i64 mt.t.lang) ∧ wz.cell? ⟨w.heap.size, 3, none⟩ = some (.string mt.t.see) ∧ wz.cell? ⟨w.heap.size, 4, none⟩ = some (.slice mt.A mt.n mt.c)) (by kernel_rfl) (by kernel_rfl) ?_
          rw [← hw5, ← hwc]; clear hw5 hwc
          refine wpPlan_put (v := ?_) rfl rfl (Or.inl ⟨by rfl, fun wz hz => ?_⟩) (hcells _ hbX) ?_
          rotate_left
          (focus (go_simp; try (with_reducible rfl)))
          simp only [List.setIfInBounds_toArray, List.set_cons_succ, List.set_cons_zero]
          refine wpPlan_put (v := ?_) rfl rfl (Or.inl ⟨by rfl, fun wz hz => ?_⟩) (hcells _ hbX) ?_
          rotate_left
          (focus (go_simp; try (with_reducible rfl)))
          simp only [List.setIfInBounds_toArray, List.set_cons_succ, List.set_cons_zero]
          refine wpPlan_put (v := ?_) rfl rfl (Or.inl ⟨by rfl, fun wz hz => ?_⟩) (hcells _ hbX) ?_
          rotate_left
          (focus (go_simp; try (with_reducible rfl)))
          simp only [List.setIfInBounds_toArray, List.set_cons_succ, List.set_cons_zero]
          refine wpPlan_put (v := ?_) rfl rfl (Or.inl ⟨by rfl, fun wz hz => ?_⟩) (hcells _ hbX) ?_
          rotate_left
          (focus (go_simp; try (with_reducible rfl)))
          simp only [List.setIfInBounds_toArray, List.set_cons_succ, List.set_cons_zero]
          refine wpPlan_put (v := ?_) rfl rfl (Or.inl ⟨by rfl, fun wz hz => ?_⟩) (hcells _ hbX) ?_
          rotate_left
          (focus (go_simp; try (with_reducible rfl)))
          simp only [List.setIfInBounds_toArray, List.set_cons_succ, List.set_cons_zero]
          refine wpPlan_put (v := ?_) rfl rfl (Or.inl ⟨by rfl, fun wz hz => ?_⟩) (hcells _ hbX) ?_
          rotate_left
          (focus (go_simp; try (with_reducible rfl)))
          simp only [List.setIfInBounds_toArray, List.set_cons_succ, List.set_cons_zero]
          refine wpPlan_put (v := ?_) rfl rfl (Or.inl ⟨by rfl, fun wz hz => ?_⟩) (hcells _ hbX) ?_
          rotate_left
          (focus (go_simp; try (with_reducible rfl)))
          simp only [List.setIfInBounds_toArray, List.set_cons_succ, List.set_cons_zero]
          refine wpPlan_two ?_ ?_
          · skip
            refine wpForced_step rfl (fun K hK => ?_)
            go_simp
            have hX2 := hbX.al (.cells #[] 33)
            have hO := Own.empty wc 33 5 (base := w5.heap.size) hbX.size
            try replace hV := hV.alloc (.cells #[] 33)
            have hob : ∀ g, (Value.slice (some ⟨wc.heap.size, 0, none⟩) 0 0).ownBlock = some g → g = wc.heap.size := fun g e => by simp [Value.ownBlock] at e; exact e.symm
            try (have hNE : ∀ g, (Value.slice (some ⟨wc.heap.size, 0, none⟩) 0 0).ownBlock = some g → g ≠ vb := fun g e => by have := hob g e; omega)
            replace hbX := hX2
            refine hK _ _ (fun _ => hcells _ hbX) ?_
            clear hK K hX2 hob
            generalize wc.heap.size = ob at *
            generalize wc.alloc (.cells #[] 33) = wc at *
            refine wpPlan_two ?_ ?_
            · skip
              refine wpForced_step rfl (fun K hK => ?_)
              refine step_app _ termsT rfl (.tmp 54) (.tmp 57) rfl hO rfl rfl (news := tmsCells (ms.take k)) L1.out (R1.out.below hbX) (tms_one _) ?_ ?_ ?_
              · omega
              · omega
              intro A7 c7 w7 o7 n7 g7 e7
              simp only [Nat.zero_add, List.nil_append] at o7 n7 e7
              go_simp
              have hX2 := hbX.gr g7 hO.row
              try (replace hV := hV.grown g7 (fun b off e => by injection e with e; injection e with e1 e2; intro h; exact hNE _ h.symm e1.symm))
              try replace hvz := Nat.lt_of_lt_of_le hvz g7.size
              try clear hNE
              replace hbX := hX2
              refine hK _ _ (fun _ => hcells _ hbX) ?_
              clear hK K hX2 hO g7 e7
              have hO := o7
              clear o7
              generalize w7 = wc at *
              refine wpPlan_one ?_
              refine wpForced_step rfl (fun K hK => ?_)
              go_simp
              have hX2 := hbX.al (.cells #[.string mt.t.name, .int .i64 mt.t.kind, .int .i64 mt.t.lang, .string mt.t.see, .slice mt.A mt.n mt.c] 33)
              have hV := Rds.new5 wc rfl (.string mt.t.name) (.int .i64 mt.t.kind) (.int .i64 mt.t.lang) (.string mt.t.see) (.slice mt.A mt.n mt.c) 33
              try (have hNE : ∀ g, _ = some g → g ≠ wc.heap.size := fun g e => Nat.ne_of_lt (hO.lt g e))
              try replace hO := hO.alloc (.cells #[.string mt.t.name, .int .i64 mt.t.kind, .int .i64 mt.t.lang, .string mt.t.see, .slice mt.A mt.n mt.c] 33)
              have hvz : wc.heap.size < (wc.alloc (.cells #[.string mt.t.name, .int .i64 mt.t.kind, .int .i64 mt.t.lang, .string mt.t.see, .slice mt.A mt.n mt.c] 33)).heap.size := by simp
              replace hbX := hX2
              refine hK _ _ (fun _ => hcells _ hbX) ?_
              clear hK K hX2
              generalize wc.heap.size = vb at *
              generalize wc.alloc (.cells #[.string mt.t.name, .int .i64 mt.t.kind, .int .i64 mt.t.lang, .string mt.t.see, .slice mt.A mt.n mt.c] 33) = wc at *
              refine wpPlan_one ?_
              refine wpForced_step rfl (fun K hK => ?_)
              refine step_app _ termsT rfl (.tmp 58) (.tmp 60) rfl hO rfl rfl (news := [.string mt.t.name, .int .i64 mt.t.kind, .int .i64 mt.t.lang, .string mt.t.see, .slice mt.A mt.n mt.c]) rfl hV (by simp [Value.oneCell']) ?_ ?_ ?_
              · omega
              · omega
              intro A8 c8 w8 o8 n8 g8 e8
              go_simp
              have hX2 := hbX.gr g8 hO.row
              replace hbX := hX2
              refine hK _ _ (fun _ => hcells _ hbX) ?_
              clear hK K hX2 hO g8 e8 hV hvz
              have hO := o8
              clear o8
              generalize w8 = wc at *
              refine wpPlan_one ?_
              refine wpForced_step rfl (fun K hK => ?_)
              refine step_app _ termsT rfl (.tmp 61) (.tmp 64) rfl hO rfl rfl (news := tmsCells (ms.drop k)) L2.out (R2.out.below hbX) (tms_one _) ?_ ?_ ?_
              · omega
              · omega
              intro A9 c9 w9 o9 n9 g9 e9
              go_simp
              have hX2 := hbX.gr g9 hO.row
              replace hbX := hX2
              refine hK _ _ (fun _ => hcells _ hbX) ?_
              clear hK K hX2 hO g9 e9
              refine wpPlan_put (v := ?_) rfl rfl (Or.inl ⟨by rfl, fun wz hz => ?_⟩) (hcells _ hbX) ?_
              rotate_left
              (focus (go_simp; try (with_reducible rfl)))
              simp only [List.setIfInBounds_toArray, List.set_cons_succ, List.set_cons_zero]
              refine wpPlan_nil ?_
              have hb9 : Below w.heap.size w w9 := hbw5.tr hbX
              have hT9 : Tms w9 A9 (k + 1 + (n - k)) (ms.take k ++ mt :: ms.drop k) := Tms.own o9 (by unfold tmsCells; rw [List.flatMap_append, List.flatMap_cons, List.append_assoc]; rfl) (fun x hx => by
                rcases List.mem_append.1 hx with hx | hx
                · exact (hl.2.1 x (List.mem_of_mem_take hx)).below hb9
                · rcases List.mem_cons.1 hx with rfl | hx
                  · exact hok.below hb9
                  · exact (hl.2.1 x (List.mem_of_mem_drop hx)).below hb9)
              have hs9 : ∀ x ∈ ms.take k ++ mt :: ms.drop k, x.small := fun x hx => by
                rcases List.mem_append.1 hx with hx | hx
                · exact hsm x (List.mem_of_mem_take hx)
                · rcases List.mem_cons.1 hx with rfl | hx
                  · exact hst
                  · exact hsm x (List.mem_of_mem_drop hx)
              have HT := Lib.hid (show terms (ms.take k ++ mt :: ms.drop k) = addL (terms ms) mt.t from by rw [HA.out]; unfold terms; simp [List.map_take, List.map_drop])
              clear o9 hcells
              by_cases hf : (vvalid (addL (terms ms) mt.t)).2 = 0
              · have HF := Lib.hid (show addV (terms ms) mt.t = (addL (terms ms) mt.t, 0) from by unfold addV; rw [if_pos hv0.out, if_pos hf])
                have HV := Lib.hid (show (vvalid (terms (ms.take k ++ mt :: ms.drop k))).2 = 0 from by rw [HT.out]; exact hf)
                clear hf
                go_wp2_with (go_at_call 13; go_loud (refine (rvalid_any _ _ _ (ms.take k ++ mt :: ms.drop k) _ (by omega) hT9 hs9).mono ?_; rintro e2 w10 ⟨rfl, hb10⟩; rw [HV.out]))
                go_ret2
                refine ⟨_, _, _, (ms.take k ++ mt :: ms.drop k), ?_, n9, by omega, hT9.below hb10, by rw [HF.out]; exact HT.out, hs9, hb9.tr hb10⟩
                rw [HF.out]
                try rfl
              · have HF := Lib.hid (show addV (terms ms) mt.t = ([], (vvalid (addL (terms ms) mt.t)).2) from by unfold addV; rw [if_pos hv0.out, if_neg hf])
                obtain ⟨ve, hve⟩ : ∃ ve, (vvalid (addL (terms ms) mt.t)).2 = ve := ⟨_, rfl⟩
                rw [hve] at hf HF
                have HV := Lib.hid (show (vvalid (terms (ms.take k ++ mt :: ms.drop k))).2 = ve from by rw [HT.out]; exact hve)
                have hvb : (ve == 0) = false := by simpa using hf
                clear hf hve
                go_wp2_with (go_at_call 13; go_loud (refine (rvalid_any _ _ _ (ms.take k ++ mt :: ms.drop k) _ (by omega) hT9 hs9).mono ?_; rintro e2 w10 ⟨rfl, hb10⟩; rw [HV.out]))
                go_ret2
                refine ⟨none, 0, 0, [], ?_, Nat.le_refl _, Nat.zero_le _, Tms.nil _, by rw [HF.out]; rfl, (fun x hx => by cases hx), hb9.tr hb10⟩
                rw [HF.out]
                try rfl
            · skip
              refine wpForced_step rfl (fun K hK => ?_)
              go_simp
              have hX2 := hbX.al (.cells #[.string mt.t.name, .int .i64 mt.t.kind, .int .i64 mt.t.lang, .string mt.t.see, .slice mt.A mt.n mt.c] 33)
              have hV := Rds.new5 wc rfl (.string mt.t.name) (.int .i64 mt.t.kind) (.int .i64 mt.t.lang) (.string mt.t.see) (.slice mt.A mt.n mt.c) 33
              try (have hNE : ∀ g, _ = some g → g ≠ wc.heap.size := fun g e => Nat.ne_of_lt (hO.lt g e))
              try replace hO := hO.alloc (.cells #[.string mt.t.name, .int .i64 mt.t.kind, .int .i64 mt.t.lang, .string mt.t.see, .slice mt.A mt.n mt.c] 33)
              have hvz : wc.heap.size < (wc.alloc (.cells #[.string mt.t.name, .int .i64 mt.t.kind, .int .i64 mt.t.lang, .string mt.t.see, .slice mt.A mt.n mt.c] 33)).heap.size := by simp
              replace hbX := hX2
              refine hK _ _ (fun _ => hcells _ hbX) ?_
              clear hK K hX2
              generalize wc.heap.size = vb at *
              generalize wc.alloc (.cells #[.string mt.t.name, .int .i64 mt.t.kind, .int .i64 mt.t.lang, .string mt.t.see, .slice mt.A mt.n mt.c] 33) = wc at *
              refine wpPlan_one ?_
              refine wpForced_step rfl (fun K hK => ?_)
              refine step_app _ termsT rfl (.tmp 54) (.tmp 57) rfl hO rfl rfl (news := tmsCells (ms.take k)) L1.out (R1.out.below hbX) (tms_one _) ?_ ?_ ?_
              · omega
              · omega
              intro A7 c7 w7 o7 n7 g7 e7
              simp only [Nat.zero_add, List.nil_append] at o7 n7 e7
              go_simp
              have hX2 := hbX.gr g7 hO.row
              try (replace hV := hV.grown g7 (fun b off e => by injection e with e; injection e with e1 e2; intro h; exact hNE _ h.symm e1.symm))
              try replace hvz := Nat.lt_of_lt_of_le hvz g7.size
              try clear hNE
              replace hbX := hX2
              refine hK _ _ (fun _ => hcells _ hbX) ?_
              clear hK K hX2 hO g7 e7
              have hO := o7
              clear o7
              generalize w7 = wc at *
              refine wpPlan_one ?_
              refine wpForced_step rfl (fun K hK => ?_)
              refine step_app _ termsT rfl (.tmp 58) (.tmp 60) rfl hO rfl rfl (news := [.string mt.t.name, .int .i64 mt.t.kind, .int .i64 mt.t.lang, .string mt.t.see, .slice mt.A mt.n mt.c]) rfl hV (by simp [Value.oneCell']) ?_ ?_ ?_
              · omega
              · omega
              intro A8 c8 w8 o8 n8 g8 e8
              go_simp
              have hX2 := hbX.gr g8 hO.row
              replace hbX := hX2
              refine hK _ _ (fun _ => hcells _ hbX) ?_
              clear hK K hX2 hO g8 e8 hV hvz
              have hO := o8
              clear o8
              generalize w8 = wc at *
              refine wpPlan_one ?_
              refine wpForced_step rfl (fun K hK => ?_)
              refine step_app _ termsT rfl (.tmp 61) (.tmp 64) rfl hO rfl rfl (news := tmsCells (ms.drop k)) L2.out (R2.out.below hbX) (tms_one _) ?_ ?_ ?_
              · omega
              · omega
              intro A9 c9 w9 o9 n9 g9 e9
              go_simp
              have hX2 := hbX.gr g9 hO.row
              replace hbX := hX2
              refine hK _ _ (fun _ => hcells _ hbX) ?_
              clear hK K hX2 hO g9 e9
              refine wpPlan_put (v := ?_) rfl rfl (Or.inl ⟨by rfl, fun wz hz => ?_⟩) (hcells _ hbX) ?_
              rotate_left
              (focus (go_simp; try (with_reducible rfl)))
              simp only [List.setIfInBounds_toArray, List.set_cons_succ, List.set_cons_zero]
              refine wpPlan_nil ?_
              have hb9 : Below w.heap.size w w9 := hbw5.tr hbX
              have hT9 : Tms w9 A9 (k + 1 + (n - k)) (ms.take k ++ mt :: ms.drop k) := Tms.own o9 (by unfold tmsCells; rw [List.flatMap_append, List.flatMap_cons, List.append_assoc]; rfl) (fun x hx => by
                rcases List.mem_append.1 hx with hx | hx
                · exact (hl.2.1 x (List.mem_of_mem_take hx)).below hb9
                · rcases List.mem_cons.1 hx with rfl | hx
                  · exact hok.below hb9
                  · exact (hl.2.1 x (List.mem_of_mem_drop hx)).below hb9)
              have hs9 : ∀ x ∈ ms.take k ++ mt :: ms.drop k, x.small := fun x hx => by
                rcases List.mem_append.1 hx with hx | hx
                · exact hsm x (List.mem_of_mem_take hx)
                · rcases List.mem_cons.1 hx with rfl | hx
                  · exact hst
                  · exact hsm x (List.mem_of_mem_drop hx)
              have HT := Lib.hid (show terms (ms.take k ++ mt :: ms.drop k) = addL (terms ms) mt.t from by rw [HA.out]; unfold terms; simp [List.map_take, List.map_drop])
              clear o9 hcells
              by_cases hf : (vvalid (addL (terms ms) mt.t)).2 = 0
              · have HF := Lib.hid (show addV (terms ms) mt.t = (addL (terms ms) mt.t, 0) from by unfold addV; rw [if_pos hv0.out, if_pos hf])
                have HV := Lib.hid (show (vvalid (terms (ms.take k ++ mt :: ms.drop k))).2 = 0 from by rw [HT.out]; exact hf)
                clear hf
                go_wp2_with (go_at_call 13; go_loud (refine (rvalid_any _ _ _ (ms.take k ++ mt :: ms.drop k) _ (by omega) hT9 hs9).mono ?_; rintro e2 w10 ⟨rfl, hb10⟩; rw [HV.out]))
                go_ret2
                refine ⟨_, _, _, (ms.take k ++ mt :: ms.drop k), ?_, n9, by omega, hT9.below hb10, by rw [HF.out]; exact HT.out, hs9, hb9.tr hb10⟩
                rw [HF.out]
                try rfl
              · have HF := Lib.hid (show addV (terms ms) mt.t = ([], (vvalid (addL (terms ms) mt.t)).2) from by unfold addV; rw [if_pos hv0.out, if_neg hf])
                obtain ⟨ve, hve⟩ : ∃ ve, (vvalid (addL (terms ms) mt.t)).2 = ve := ⟨_, rfl⟩
                rw [hve] at hf HF
                have HV := Lib.hid (show (vvalid (terms (ms.take k ++ mt :: ms.drop k))).2 = ve from by rw [HT.out]; exact hve)
                have hvb : (ve == 0) = false := by simpa using hf
                clear hf hve
                go_wp2_with (go_at_call 13; go_loud (refine (rvalid_any _ _ _ (ms.take k ++ mt :: ms.drop k) _ (by omega) hT9 hs9).mono ?_; rintro e2 w10 ⟨rfl, hb10⟩; rw [HV.out]))
                go_ret2
                refine ⟨none, 0, 0, [], ?_, Nat.le_refl _, Nat.zero_le _, Tms.nil _, by rw [HF.out]; rfl, (fun x hx => by cases hx), hb9.tr hb10⟩
                rw [HF.out]
                try rfl
          · skip
            refine wpForced_step rfl (fun K hK => ?_)
            go_simp
            have hX2 := hbX.al (.cells #[.string mt.t.name, .int .i64 mt.t.kind, .int .i64 mt.t.lang, .string mt.t.see, .slice mt.A mt.n mt.c] 33)
            have hV := Rds.new5 wc rfl (.string mt.t.name) (.int .i64 mt.t.kind) (.int .i64 mt.t.lang) (.string mt.t.see) (.slice mt.A mt.n mt.c) 33
            try (have hNE : ∀ g, _ = some g → g ≠ wc.heap.size := fun g e => Nat.ne_of_lt (hO.lt g e))
            try replace hO := hO.alloc (.cells #[.string mt.t.name, .int .i64 mt.t.kind, .int .i64 mt.t.lang, .string mt.t.see, .slice mt.A mt.n mt.c] 33)
            have hvz : wc.heap.size < (wc.alloc (.cells #[.string mt.t.name, .int .i64 mt.t.kind, .int .i64 mt.t.lang, .string mt.t.see, .slice mt.A mt.n mt.c] 33)).heap.size := by simp
            replace hbX := hX2
            refine hK _ _ (fun _ => hcells _ hbX) ?_
            clear hK K hX2
            generalize wc.heap.size = vb at *
            generalize wc.alloc (.cells #[.string mt.t.name, .int .i64 mt.t.kind, .int .i64 mt.t.lang, .string mt.t.see, .slice mt.A mt.n mt.c] 33) = wc at *
            refine wpPlan_one ?_
            refine wpForced_step rfl (fun K hK => ?_)
            go_simp
            have hX2 := hbX.al (.cells #[] 33)
            have hO := Own.empty wc 33 5 (base := w5.heap.size) hbX.size
            try replace hV := hV.alloc (.cells #[] 33)
            have hob : ∀ g, (Value.slice (some ⟨wc.heap.size, 0, none⟩) 0 0).ownBlock = some g → g = wc.heap.size := fun g e => by simp [Value.ownBlock] at e; exact e.symm
            try (have hNE : ∀ g, (Value.slice (some ⟨wc.heap.size, 0, none⟩) 0 0).ownBlock = some g → g ≠ vb := fun g e => by have := hob g e; omega)
            replace hbX := hX2
            refine hK _ _ (fun _ => hcells _ hbX) ?_
            clear hK K hX2 hob
            generalize wc.heap.size = ob at *
            generalize wc.alloc (.cells #[] 33) = wc at *
            refine wpPlan_one ?_
            refine wpForced_step rfl (fun K hK => ?_)
            refine step_app _ termsT rfl (.tmp 54) (.tmp 57) rfl hO rfl rfl (news := tmsCells (ms.take k)) L1.out (R1.out.below hbX) (tms_one _) ?_ ?_ ?_
            · omega
            · omega
            intro A7 c7 w7 o7 n7 g7 e7
            simp only [Nat.zero_add, List.nil_append] at o7 n7 e7
            go_simp
            have hX2 := hbX.gr g7 hO.row
            try (replace hV := hV.grown g7 (fun b off e => by injection e with e; injection e with e1 e2; intro h; exact hNE _ h.symm e1.symm))
            try replace hvz := Nat.lt_of_lt_of_le hvz g7.size
            try clear hNE
            replace hbX := hX2
            refine hK _ _ (fun _ => hcells _ hbX) ?_
            clear hK K hX2 hO g7 e7
            have hO := o7
            clear o7
            generalize w7 = wc at *
            refine wpPlan_one ?_
            refine wpForced_step rfl (fun K hK => ?_)
            refine step_app _ termsT rfl (.tmp 58) (.tmp 60) rfl hO rfl rfl (news := [.string mt.t.name, .int .i64 mt.t.kind, .int .i64 mt.t.lang, .string mt.t.see, .slice mt.A mt.n mt.c]) rfl hV (by simp [Value.oneCell']) ?_ ?_ ?_
            · omega
            · omega
            intro A8 c8 w8 o8 n8 g8 e8
            go_simp
            have hX2 := hbX.gr g8 hO.row
            replace hbX := hX2
            refine hK _ _ (fun _ => hcells _ hbX) ?_
            clear hK K hX2 hO g8 e8 hV hvz
            have hO := o8
            clear o8
            generalize w8 = wc at *
            refine wpPlan_one ?_
            refine wpForced_step rfl (fun K hK => ?_)
            refine step_app _ termsT rfl (.tmp 61) (.tmp 64) rfl hO rfl rfl (news := tmsCells (ms.drop k)) L2.out (R2.out.below hbX) (tms_one _) ?_ ?_ ?_
            · omega
            · omega
            intro A9 c9 w9 o9 n9 g9 e9
            go_simp
            have hX2 := hbX.gr g9 hO.row
            replace hbX := hX2
            refine hK _ _ (fun _ => hcells _ hbX) ?_
            clear hK K hX2 hO g9 e9
            refine wpPlan_put (v := ?_) rfl rfl (Or.inl ⟨by rfl, fun wz hz => ?_⟩) (hcells _ hbX) ?_
            rotate_left
            (focus (go_simp; try (with_reducible rfl)))
            simp only [List.setIfInBounds_toArray, List.set_cons_succ, List.set_cons_zero]
            refine wpPlan_nil ?_
            have hb9 : Below w.heap.size w w9 := hbw5.tr hbX
            have hT9 : Tms w9 A9 (k + 1 + (n - k)) (ms.take k ++ mt :: ms.drop k) := Tms.own o9 (by unfold tmsCells; rw [List.flatMap_append, List.flatMap_cons, List.append_assoc]; rfl) (fun x hx => by
              rcases List.mem_append.1 hx with hx | hx
              · exact (hl.2.1 x (List.mem_of_mem_take hx)).below hb9
              · rcases List.mem_cons.1 hx with rfl | hx
                · exact hok.below hb9
                · exact (hl.2.1 x (List.mem_of_mem_drop hx)).below hb9)
            have hs9 : ∀ x ∈ ms.take k ++ mt :: ms.drop k, x.small := fun x hx => by
              rcases List.mem_append.1 hx with hx | hx
              · exact hsm x (List.mem_of_mem_take hx)
              · rcases List.mem_cons.1 hx with rfl | hx
                · exact hst
                · exact hsm x (List.mem_of_mem_drop hx)
            have HT := Lib.hid (show terms (ms.take k ++ mt :: ms.drop k) = addL (terms ms) mt.t from by rw [HA.out]; unfold terms; simp [List.map_take, List.map_drop])
            clear o9 hcells
            by_cases hf : (vvalid (addL (terms ms) mt.t)).2 = 0
            · have HF := Lib.hid (show addV (terms ms) mt.t = (addL (terms ms) mt.t, 0) from by unfold addV; rw [if_pos hv0.out, if_pos hf])
              have HV := Lib.hid (show (vvalid (terms (ms.take k ++ mt :: ms.drop k))).2 = 0 from by rw [HT.out]; exact hf)
              clear hf
              go_wp2_with (go_at_call 13; go_loud (refine (rvalid_any _ _ _ (ms.take k ++ mt :: ms.drop k) _ (by omega) hT9 hs9).mono ?_; rintro e2 w10 ⟨rfl, hb10⟩; rw [HV.out]))
              go_ret2
              refine ⟨_, _, _, (ms.take k ++ mt :: ms.drop k), ?_, n9, by omega, hT9.below hb10, by rw [HF.out]; exact HT.out, hs9, hb9.tr hb10⟩
              rw [HF.out]
              try rfl
            · have HF := Lib.hid (show addV (terms ms) mt.t = ([], (vvalid (addL (terms ms) mt.t)).2) from by unfold addV; rw [if_pos hv0.out, if_neg hf])
              obtain ⟨ve, hve⟩ : ∃ ve, (vvalid (addL (terms ms) mt.t)).2 = ve := ⟨_, rfl⟩
              rw [hve] at hf HF
              have HV := Lib.hid (show (vvalid (terms (ms.take k ++ mt :: ms.drop k))).2 = ve from by rw [HT.out]; exact hve)
              have hvb : (ve == 0) = false := by simpa using hf
              clear hf hve
              go_wp2_with (go_at_call 13; go_loud (refine (rvalid_any _ _ _ (ms.take k ++ mt :: ms.drop k) _ (by omega) hT9 hs9).mono ?_; rintro e2 w10 ⟨rfl, hb10⟩; rw [HV.out]))
              go_ret2
              refine ⟨none, 0, 0, [], ?_, Nat.le_refl _, Nat.zero_le _, Tms.nil _, by rw [HF.out]; rfl, (fun x hx => by cases hx), hb9.tr hb10⟩
              rw [HF.out]
              try rfl
  · have HF := Lib.hid (show addV (terms ms) mt.t = ([], (vvalid (terms ms)).2) from by unfold addV; rw [if_neg h0])
    obtain ⟨ve, hve⟩ : ∃ ve, (vvalid (terms ms)).2 = ve := ⟨_, rfl⟩
    rw [hve] at hv h0 HF
    have hvb : (ve == 0) = false := by simpa using h0
    clear h0 hve
    go_enter Tryz.func18, Tryz.ntmps18
    go_wp2_with (go_at_call 13; go_loud (refine hv.mono ?_; rintro e w2 ⟨rfl, hb2⟩))
    go_ret2
    refine ⟨none, 0, 0, [], ?_, Nat.le_refl _, Nat.zero_le _, Tms.nil _, by rw [HF.out]; rfl, (fun x hx => by cases hx), hb0.tr hb2⟩
    rw [HF.out]
    try rfl
end Go.Proofs.YtdfnfimajhagfaaGreatDoor
