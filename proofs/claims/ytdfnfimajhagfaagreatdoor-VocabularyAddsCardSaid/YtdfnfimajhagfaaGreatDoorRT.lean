/- Walk of the statements of layer 24: the term that is made of numbers. -/
import Derived.Test.YtdfnfimajhagfaaGreatDoorRA
namespace Go.Proofs.YtdfnfimajhagfaaGreatDoor
open Go.RowKit Go.Maps Rf
set_option maxRecDepth 20000 in
set_option maxHeartbeats 1000000 in
theorem at_det (A : Option Addr) (n c : Nat) (l : List Int) (i m : Int) (w0 : World) (h0 : Ints w0 A n l) (hm : 1 ≤ m) (hm2 : m ≤ 9223372036854775807) :
    ∃ v : Nat, (v : Int) < m ∧ ∀ w, Ints w A n l → Calls Tryz.prog 56 #[.slice A n c, .int .i64 i, .int .i64 m] w fun e w' => e = .returned (.int .i64 v) ∧ w = w' := by
  by_cases hi0 : i < 0
  · refine ⟨0, by omega, fun w _ => ?_⟩
    go_enter Tryz.func56, Tryz.ntmps56
    go_wp2
    go_ret
    exact ⟨rfl, rfl⟩
  · by_cases hi1 : (n : Int) ≤ i
    · refine ⟨0, by omega, fun w _ => ?_⟩
      go_enter Tryz.func56, Tryz.ntmps56
      go_wp2
      go_ret
      exact ⟨rfl, rfl⟩
    · obtain ⟨k, rfl⟩ : ∃ k : Nat, i = k := ⟨i.toNat, by omega⟩
      obtain ⟨_, _, x, eA, hx, hok, _, _⟩ := h0.at_ (k := k) (by omega)
      clear eA
      have hr := around_range x m hm
      obtain ⟨v, hv⟩ : ∃ v : Nat, around x m = v := ⟨(around x m).toNat, by omega⟩
      refine ⟨v, by omega, fun w hl => ?_⟩
      obtain ⟨b, off, x', rfl, hx', _, hb, hc⟩ := hl.at_ (k := k) (by omega)
      rw [hx] at hx'
      injection hx' with hx'
      subst hx'
      have h2 : (k : Int) < n := by omega
      have h3 : k < n := by omega
      have ha := around_any x m w hok.1 hok.2 hm hm2
      rw [hv] at ha
      clear hx hb h0 hr hv
      go_enter Tryz.func56, Tryz.ntmps56
      go_wp2_with (go_at_call 24; refine ha.mono ?_; rintro e w' ⟨rfl, rfl⟩)
      go_ret
      exact ⟨rfl, rfl⟩
set_option maxRecDepth 20000 in
set_option maxHeartbeats 1000000 in
theorem short12_any (s : S) (w : World) : Calls Tryz.prog 16 #[.string s, .int .i64 12] w fun e w' => ∃ r : S, e = .returned (.string r) ∧ r.size ≤ 12 ∧ w = w' := by
  by_cases h : 12 < s.size
  · have h' : (12 : Int) < s.size := by omega
    have h2 : (12 : Int) ≤ s.size := by omega
    go_enter Tryz.func16, Tryz.ntmps16
    go_wp2
    go_ret
    exact ⟨_, rfl, by rw [ByteArray.size_extract]; omega, rfl⟩
  · have h' : ¬ (12 : Int) < s.size := by omega
    go_enter Tryz.func16, Tryz.ntmps16
    go_wp2
    go_ret
    exact ⟨s, rfl, by omega, rfl⟩
set_option maxRecDepth 20000 in
set_option maxHeartbeats 1000000 in
theorem list_own2 (w : World) : Calls Tryz.prog 32 #[] w fun e w' => e = .returned (.slice (some ⟨w.heap.size, 0, none⟩) 8 8) ∧ Own w' w.heap.size 9 1 (.slice (some ⟨w.heap.size, 0, none⟩) 8 8) 8 (names8.map Value.string) ∧ Below w.heap.size w w' := by
  go_enter Tryz.func32, Tryz.ntmps32
  go_wp2
  go_ret
  exact ⟨rfl, Own.made w (names8.map Value.string) 9 (Nat.le_refl _) rfl (by decide), brefl.al _⟩
def ATerm (w : World) (e : Ending) (w' : World) : Prop := ∃ mt : TM, e = .returned (.agg #[.string mt.t.name, .int .i64 mt.t.kind, .int .i64 mt.t.lang, .string mt.t.see, .slice mt.A mt.n mt.c]) ∧ mt.ok w' ∧ mt.small ∧ Below w.heap.size w w'
set_option maxRecDepth 20000 in
set_option maxHeartbeats 8000000 in
theorem term_any (A : Option Addr) (n c : Nat) (l : List Int) (odd : S) (w : World) (hl : Ints w A n l) (hodd : odd.size ≤ 12) :
    Calls Tryz.prog 15 #[.slice A n c, .string odd] w (ATerm w) := by
  obtain ⟨v0, hv0, Hv0'⟩ := at_det A n c l 0 11 w hl (by omega) (by omega)
  obtain ⟨v1, hv1, Hv1'⟩ := at_det A n c l 1 3 w hl (by omega) (by omega)
  obtain ⟨v2, hv2, Hv2'⟩ := at_det A n c l 2 4 w hl (by omega) (by omega)
  obtain ⟨v3, hv3, Hv3'⟩ := at_det A n c l 3 3 w hl (by omega) (by omega)
  obtain ⟨v4, hv4, Hv4'⟩ := at_det A n c l 4 11 w hl (by omega) (by omega)
  have Hv0 := Lib.hid Hv0'
  have Hv1 := Lib.hid Hv1'
  have Hv2 := Lib.hid Hv2'
  have Hv3 := Lib.hid Hv3'
  have Hv4 := Lib.hid Hv4'
  clear Hv0' Hv1' Hv2' Hv3' Hv4'
  go_enter Tryz.func15, Tryz.ntmps15
  go_wp2_with (first
    | (go_at_call 32; go_loud (refine (list_own2 _).mono ?_; rintro e w2 ⟨rfl, ho2, hb2⟩; rw [World.size_alloc] at ho2))
    | (at_builtin; go_loud (refine wpList_app _ stringsT rfl (.tmp 8) (.tmp 10) rfl (ho2.alloc _) rfl rfl (news := [.string eQueen, .string ⟨#[122, 111, 111]⟩, .string odd]) rfl (rds_three w2 _ _ _ 9) (by simp [Value.oneCell']) ?_ ?_ ?_; (focus omega); (focus omega); intro A3 c3 w3 o3 n3 g3 _)))
  have hb3 : Below w.heap.size w w3 := ((brefl.al _).tr (hb2.al (.cells #[.string eQueen, .string ⟨#[122, 111, 111]⟩, .string odd] 9))).gr g3 (fun j e => by have := ho2.row j e; omega)
  have hS3 : Strs w3 A3 11 (names8 ++ [eQueen, ⟨#[122, 111, 111]⟩, odd]) := Strs.own o3 (by simp) (fun x hx => by
    have hmx : (1000 : Nat) ≤ maxLen := by decide
    rcases List.mem_append.1 hx with hx | hx
    · have := names8_size x hx; omega
    · have h9 : eQueen.size ≤ 1000 ∧ (⟨#[122, 111, 111]⟩ : S).size ≤ 1000 := by decide
      simp only [List.mem_cons, List.not_mem_nil, or_false] at hx
      rcases hx with rfl | rfl | rfl
      · omega
      · omega
      · omega)
  have hsmall : ∀ x ∈ names8 ++ [eQueen, (⟨#[122, 111, 111]⟩ : S), odd], x.size ≤ 1000 := fun x hx => by
    rcases List.mem_append.1 hx with hx | hx
    · have := names8_size x hx; omega
    · have h9 : eQueen.size ≤ 1000 ∧ (⟨#[122, 111, 111]⟩ : S).size ≤ 1000 := by decide
      simp only [List.mem_cons, List.not_mem_nil, or_false] at hx
      rcases hx with rfl | rfl | rfl
      · omega
      · omega
      · omega
  have hR3 : ∀ wz, Below w3.heap.size w3 wz → (wz.cell? ⟨w.heap.size, 0, none⟩ = some (.string ⟨#[]⟩) ∧ wz.cell? ⟨w.heap.size, 1, none⟩ = some (.int .i64 0) ∧ wz.cell? ⟨w.heap.size, 2, none⟩ = some (.int .i64 0) ∧ wz.cell? ⟨w.heap.size, 3, none⟩ = some (.string ⟨#[]⟩) ∧ wz.cell? ⟨w.heap.size, 4, none⟩ = some (.slice none 0 0)) ∧ ∀ j, wz.frozen? ⟨w.heap.size, j, none⟩ = false := fun wz hz => by
    have hb := ((hb2.al (.cells #[.string eQueen, .string ⟨#[122, 111, 111]⟩, .string odd] 9)).gr g3 (fun j e => by have := ho2.row j e; rw [World.size_alloc]; omega)).tr hz
    exact ⟨box_five w _ _ _ _ _ _ hb, box_marks w _ _ _ _ _ _ hb⟩
  have HR := Lib.hid hR3
  have hw3 : w.heap.size < w3.heap.size := by have := hb2.size; have := g3.size; simp at *; omega
  generalize names8 ++ [eQueen, (⟨#[122, 111, 111]⟩ : S), odd] = NL at hS3 hsmall
  clear o3 g3 ho2 hb2 hR3
  obtain ⟨bN, offN, x0, rfl, hx0, hxs0, hbN, hc0⟩ := hS3.at_ (k := v0) (by omega)
  have hcells : ∀ wz, Below w3.heap.size w3 wz → wz.cell? ⟨bN, offN + v0, none⟩ = some (.string x0) := fun wz hz => (hz.cell (p := ⟨bN, offN + v0, none⟩) hbN).trans hc0
  have hbX : Below w3.heap.size w3 w3.drew := brefl.drn 1
  have hv0' : v0 < 11 := by omega
  have hxs0' := hsmall x0 (List.mem_of_getElem? hx0)
  clear hx0 hxs0
  have hb9 := hb3
  refine wp_region_plan (.take 0 (.take 1 (.take 2 (.take 3 (.take 7 (.take 9 (.two 4 (.take 5 (.take 6 (.two 8 (.two 10 (.take 11 (.one 12 (.one 13 (.done)))) 12 (.one 10 (.take 11 (.one 13 (.done))))) 12 (.one 8 (.one 10 (.take 11 (.one 13 (.done)))))))) 12 (.one 4 (.take 5 (.take 6 (.one 8 (.one 10 (.take 11 (.one 13 (.done))))))))))))))) 13 (fun wz => wz.cell? ⟨bN, offN + v0, none⟩ = some (.string x0)) (by kernel_rfl) (by kernel_rfl) ?_
  refine wpPlan_put (v := ?_) rfl rfl (Or.inl ⟨by rfl, fun wz hz => ?_⟩) (hcells _ (by first | exact hbX | exact hbX.al _)) ?_
  rotate_left
  (focus (go_simp; try (with_reducible rfl)))
  simp only [List.setIfInBounds_toArray, List.set_cons_succ, List.set_cons_zero]
  refine wpPlan_put (v := ?_) rfl rfl (Or.inl ⟨by rfl, fun wz hz => ?_⟩) (hcells _ (by first | exact hbX | exact hbX.al _)) ?_
  rotate_left
  (focus (go_simp; try (with_reducible rfl)))
  simp only [List.setIfInBounds_toArray, List.set_cons_succ, List.set_cons_zero]
  refine wpPlan_put (v := ?_) rfl rfl (Or.inl ⟨by rfl, fun wz hz => ?_⟩) (hcells _ (by first | exact hbX | exact hbX.al _)) ?_
  rotate_left
  (focus (go_simp; try (with_reducible rfl)))
  simp only [List.setIfInBounds_toArray, List.set_cons_succ, List.set_cons_zero]
  refine wpPlan_put (v := ?_) rfl rfl (Or.inl ⟨by rfl, fun wz hz => ?_⟩) (hcells _ (by first | exact hbX | exact hbX.al _)) ?_
  rotate_left
  (focus (go_simp; try (with_reducible rfl)))
  simp only [List.setIfInBounds_toArray, List.set_cons_succ, List.set_cons_zero]
  refine wpPlan_put (v := ?_) rfl rfl (Or.inl ⟨by rfl, fun wz hz => ?_⟩) (hcells _ (by first | exact hbX | exact hbX.al _)) ?_
  rotate_left
  (focus (go_simp; try (with_reducible rfl)))
  simp only [List.setIfInBounds_toArray, List.set_cons_succ, List.set_cons_zero]
  refine wpPlan_put (v := ?_) rfl rfl (Or.inl ⟨by rfl, fun wz hz => ?_⟩) (hcells _ (by first | exact hbX | exact hbX.al _)) ?_
  rotate_left
  (focus (go_simp; try (with_reducible rfl)))
  simp only [List.setIfInBounds_toArray, List.set_cons_succ, List.set_cons_zero]
  refine wpPlan_two ?_ ?_
  · skip
    refine wpForced_step rfl (fun K hK => ?_)
    go_simp
    refine (Hv0.out _ (hl.below (by first | exact hb9.tr hbX | exact hb9.tr (hbX.al _)))).mono ?_
    rintro e _ ⟨rfl, rfl⟩
    go_simp
    refine hK _ _ (fun _ => hcells _ (by first | exact hbX | exact hbX.al _)) ?_
    clear hK K
    refine wpPlan_put (v := ?_) rfl rfl (Or.inl ⟨by rfl, fun wz hz => ?_⟩) (hcells _ (by first | exact hbX | exact hbX.al _)) ?_
    rotate_left
    (focus (go_simp; try (with_reducible rfl)))
    simp only [List.setIfInBounds_toArray, List.set_cons_succ, List.set_cons_zero]
    refine wpPlan_put (v := ?_) rfl rfl (Or.inl ⟨by rfl, fun wz hz => ?_⟩) (hcells _ (by first | exact hbX | exact hbX.al _)) ?_
    rotate_left
    (focus (go_simp; try (with_reducible rfl)))
    simp only [List.setIfInBounds_toArray, List.set_cons_succ, List.set_cons_zero]
    refine wpPlan_two ?_ ?_
    · skip
      refine wpForced_step rfl (fun K hK => ?_)
      go_simp
      refine (Hv1.out _ (hl.below (by first | exact hb9.tr hbX | exact hb9.tr (hbX.al _)))).mono ?_
      rintro e _ ⟨rfl, rfl⟩
      go_simp
      refine hK _ _ (fun _ => hcells _ (by first | exact hbX | exact hbX.al _)) ?_
      clear hK K
      refine wpPlan_two ?_ ?_
      · skip
        refine wpForced_step rfl (fun K hK => ?_)
        go_simp
        refine (Hv2.out _ (hl.below (by first | exact hb9.tr hbX | exact hb9.tr (hbX.al _)))).mono ?_
        rintro e _ ⟨rfl, rfl⟩
        go_simp
        refine hK _ _ (fun _ => hcells _ (by first | exact hbX | exact hbX.al _)) ?_
        clear hK K
        refine wpPlan_put (v := ?_) rfl rfl (Or.inl ⟨by rfl, fun wz hz => ?_⟩) (hcells _ (by first | exact hbX | exact hbX.al _)) ?_
        rotate_left
        (focus (go_simp; try (with_reducible rfl)))
        simp only [List.setIfInBounds_toArray, List.set_cons_succ, List.set_cons_zero]
        refine wpPlan_one ?_
        refine wpForced_step rfl (fun K hK => ?_)
        go_simp
        have hX2 := hbX.al (.cells #[.string ⟨#[]⟩, .int .i64 0, .int .i64 0, .string ⟨#[]⟩, .slice none 0 0] 33)
        refine hK _ _ (fun _ => hcells _ hX2) ?_
        clear hK K
        refine wpPlan_one ?_
        refine wpForced_step rfl (fun K hK => ?_)
        go_simp
        refine hK _ _ (fun h => absurd rfl h) ?_
        clear hK K
        refine wpPlan_nil ?_
        have hTB0 := tb_new (x := x0) (se := ⟨#[]⟩) (kd := v1) (lg := v2) (A := none) (n := 0) (c := 0) (t := 33) (wz := (w3.alloc (.cells #[.string x0, .int .i64 v1, .int .i64 v2, .string ⟨#[]⟩, .slice none 0 0] 33)).drew) w3 rfl (brefl.drn 1)
        have hbp0 : Below w3.heap.size w3 (w3.alloc (.cells #[.string x0, .int .i64 v1, .int .i64 v2, .string ⟨#[]⟩, .slice none 0 0] 33)).drew := (brefl.al _).drn 1
        have hPz : w3.heap.size + 1 ≤ (w3.alloc (.cells #[.string x0, .int .i64 v1, .int .i64 v2, .string ⟨#[]⟩, .slice none 0 0] 33)).drew.heap.size := Nat.le_of_eq (by simp)
        generalize (w3.alloc (.cells #[.string x0, .int .i64 v1, .int .i64 v2, .string ⟨#[]⟩, .slice none 0 0] 33)).drew = wp at hTB0 hbp0 hPz ⊢
        obtain ⟨P, hP⟩ : ∃ P, w3.heap.size = P := ⟨_, rfl⟩
        have hw3P : w3.heap.size ≤ P := Nat.le_of_eq hP
        have hwP : w.heap.size < P := by omega
        rw [hP] at hTB0 hPz ⊢
        clear hP hbX hcells
        have se0 : (⟨#[]⟩ : S).size ≤ 1000 := by decide
        by_cases h30 : v3 = 0
        · have h30' : ((v3 : Int) == 0) = true := by rw [h30]; rfl
          have hv4' : v4 < 11 := by omega
          obtain ⟨b6, off6, x4, e6, hx4, _, hb6, hc6⟩ := hS3.at_ (k := v4) hv4'
          injection e6 with e6
          injection e6 with e7 e8
          rw [← e7, ← e8] at hc6
          rw [← e7] at hb6
          have hx4s := hsmall x4 (List.mem_of_getElem? hx4)
          have hc4 := (hbp0.cell (p := ⟨bN, offN + v4, none⟩) hb6).trans hc6
          have p3 := hTB0.t3
          have pf3 := hTB0.fr 3
          clear hx4 hc6 hb6 e7 e8
          clear h30
          go_wp2_with (first
            | (go_at_call 56; (with_reducible refine (Hv3.out _ ?_).mono ?_); (focus (exact hl.below (hb3.tr hbp0))); rintro e _ ⟨rfl, rfl⟩)
            | (go_at_call 56; go_loud (refine (Hv4.out _ (hl.below (hb3.tr hbp0))).mono ?_; rintro e _ ⟨rfl, rfl⟩)))
          have hTB4 := hTB0.see x4
          have hb4 := hbp0.st (p := ⟨P, 3, none⟩) hw3P (.string x4)
          have hsz4 : P + 1 ≤ (wp.setCell ⟨P, 3, none⟩ (.string x4)).heap.size := by simpa [World.setCell] using hPz
          generalize wp.setCell ⟨P, 3, none⟩ (.string x4) = wp4 at hTB4 hb4 hsz4 ⊢
          go_loopw [7] (fun ii wr => ∃ (k c5 : Nat) (A5 : Option Addr) (br : List S), k ≤ v3 ∧ ii = .int .i64 k ∧ k ≤ c5 ∧ TB wr P x0 v1 v2 x4 A5 k c5 ∧ Own wr (P + 1) 9 1 (.slice A5 k c5) k (br.map Value.string) ∧ (∀ x ∈ br, x.size ≤ 1000) ∧ Below w3.heap.size w3 wr) (fun ii _ => v3 - (intOf ii).toNat)
          case atStart => exact ⟨0, 0, none, [], by omega, rfl, Nat.le_refl _, hTB4, Own.nil _ _ _ hsz4, (fun x hx => by cases hx), hb4⟩
          case round =>
            obtain ⟨k, c5, A5, br, hk, rfl, hkc, hTB, hO, hbs, hbw⟩ := hrel
            by_cases hkv : k < v3
            · have hkv' : (k : Int) < v3 := by omega
              obtain ⟨v5, hv5, Hv5'⟩ := at_det A n c l (5 + (k : Int)) 11 w hl (by omega) (by omega)
              have Hv5 := Lib.hid Hv5'
              clear Hv5'
              have hv5' : v5 < 11 := by omega
              obtain ⟨x5, hx5⟩ : ∃ x5, NL[v5]? = some x5 := ⟨_, List.getElem?_eq_getElem (by have := hS3.1; omega)⟩
              have hx5s := hsmall x5 (List.mem_of_getElem? hx5)
              have hnm : ∀ wz, Below w3.heap.size w3 wz → wz.cell? ⟨bN, offN + v5, none⟩ = some (.string x5) := fun wz hz => by
                obtain ⟨b6, off6, x6, e6, hx6, _, hb6, hc6⟩ := hS3.at_ (k := v5) hv5'
                rw [hx5] at hx6
                injection hx6 with hx6
                injection e6 with e6
                injection e6 with e7 e8
                rw [← hx6, ← e7, ← e8] at hc6
                exact (hz.cell (p := ⟨bN, offN + v5, none⟩) hbN).trans hc6
              clear hx5
              go_wp2_with (go_at_call 56; go_loud (refine (Hv3.out _ (hl.below (hb3.tr hbw))).mono ?_; rintro e _ ⟨rfl, rfl⟩))
              have hbX : Below w3.heap.size w3 wr.drew := hbw.drn 1
              have hTBd : TB wr.drew P x0 v1 v2 x4 A5 k c5 := hTB.below (brefl.drn 1)
              have hOd := hO.drew
              clear hTB hO
              have hTB := hTBd
              have hO := hOd
              clear hTBd hOd
              have hS := And.intro (hnm _ hbX) hTB.t4
              have hwrap := IntWalk.i64_in (5 + (k : Int)) (by omega)
              refine wp_region_mix [(true, 0), (true, 1), (true, 2), (true, 3), (true, 4), (true, 5), (true, 6), (true, 7), (false, 8), (true, 9), (true, 10), (false, 11), (false, 12), (true, 13), (false, 14)] 14 (fun wz => wz.cell? ⟨bN, offN + v5, none⟩ = some (.string x5) ∧ wz.cell? ⟨P, 4, none⟩ = some (.slice A5 k c5)) (by kernel_rfl) (by kernel_rfl) ?_
              generalize wr.drew = wx at hbX hTB hO hS ⊢
              refine wpMix_put (v := ?_) rfl rfl (Or.inl ⟨by rfl, fun wz hz => ?_⟩) hS ?_
              rotate_left
              (focus (go_simp; try (with_reducible rfl)))
              simp only [List.setIfInBounds_toArray, List.set_cons_succ, List.set_cons_zero]
              refine wpMix_put (v := ?_) rfl rfl (Or.inl ⟨by rfl, fun wz hz => ?_⟩) hS ?_
              rotate_left
              (focus (go_simp; try (with_reducible rfl)))
              simp only [List.setIfInBounds_toArray, List.set_cons_succ, List.set_cons_zero]
              refine wpMix_put (v := ?_) rfl rfl (Or.inl ⟨by rfl, fun wz hz => ?_⟩) hS ?_
              rotate_left
              (focus (go_simp; try (with_reducible rfl)))
              simp only [List.setIfInBounds_toArray, List.set_cons_succ, List.set_cons_zero]
              refine wpMix_put (v := ?_) rfl rfl (Or.inl ⟨by rfl, fun wz hz => ?_⟩) hS ?_
              rotate_left
              (focus (go_simp; try (with_reducible rfl)))
              simp only [List.setIfInBounds_toArray, List.set_cons_succ, List.set_cons_zero]
              refine wpMix_put (v := ?_) rfl rfl (Or.inl ⟨by rfl, fun wz hz => ?_⟩) hS ?_
              rotate_left
              (focus (go_simp; try (with_reducible rfl)))
              simp only [List.setIfInBounds_toArray, List.set_cons_succ, List.set_cons_zero]
              refine wpMix_put (v := ?_) rfl rfl (Or.inl ⟨by rfl, fun wz hz => ?_⟩) hS ?_
              rotate_left
              (focus (go_simp; try (with_reducible rfl)))
              simp only [List.setIfInBounds_toArray, List.set_cons_succ, List.set_cons_zero]
              refine wpMix_put (v := ?_) rfl rfl (Or.inl ⟨by rfl, fun wz hz => ?_⟩) hS ?_
              rotate_left
              (focus (go_simp; try (with_reducible rfl)))
              simp only [List.setIfInBounds_toArray, List.set_cons_succ, List.set_cons_zero]
              refine wpMix_put (v := ?_) rfl rfl (Or.inl ⟨by rfl, fun wz hz => ?_⟩) hS ?_
              rotate_left
              (focus (go_simp; try (with_reducible rfl)))
              simp only [List.setIfInBounds_toArray, List.set_cons_succ, List.set_cons_zero]
              refine wpMix_step rfl (fun K hK => ?_)
              go_simp
              refine (Hv5.out _ (hl.below (hb3.tr hbX))).mono ?_
              rintro e _ ⟨rfl, rfl⟩
              go_simp
              refine hK _ _ (fun _ => hS) ?_
              clear hK K
              refine wpMix_put (v := ?_) rfl rfl (Or.inl ⟨by rfl, fun wz hz => ?_⟩) hS ?_
              rotate_left
              (focus (go_simp; try (with_reducible rfl)))
              simp only [List.setIfInBounds_toArray, List.set_cons_succ, List.set_cons_zero]
              refine wpMix_put (v := ?_) rfl rfl (Or.inl ⟨by rfl, fun wz hz => ?_⟩) hS ?_
              rotate_left
              (focus (go_simp; try (with_reducible rfl)))
              simp only [List.setIfInBounds_toArray, List.set_cons_succ, List.set_cons_zero]
              refine wpMix_step rfl (fun K hK => ?_)
              go_simp
              have hX2 := hbX.al (.cells #[.string x5] 9)
              have hTB2 := hTB.grown (World.grownBy_alloc _ (.cells #[.string x5] 9) none) (by simp)
              have hS7 := And.intro (hnm _ hX2) hTB2.t4
              refine hK _ _ (fun _ => hS7) ?_
              clear hK K hS
              have hS := hS7
              clear hS7
              refine wpMix_step rfl (fun K hK => ?_)
              refine step_app _ stringsT rfl (.tmp 42) (.tmp 52) rfl (hO.alloc _) rfl rfl (news := [.string x5]) rfl (Rds.one wx (.string x5) 9) (by simp [Value.oneCell']) ?_ ?_ ?_
              · omega
              · omega
              intro A9 c9 w9 o9 n9 g9 _
              go_simp
              have hX3 := hX2.gr g9 (fun q e => by have := hO.row q e; omega)
              have hne5 : some P ≠ (Value.slice A5 k c5).ownBlock := fun e => by have := hO.row P e.symm; omega
              have hTB3 := hTB2.grown g9 hne5
              have hS7 := And.intro (hnm _ hX3) hTB3.t4
              have hf4 := hTB3.fr 4
              refine hK _ _ (fun _ => hS7) ?_
              clear hK K hS
              have hS := hS7
              clear hS7
              refine wpMix_put (v := ?_) rfl rfl (Or.inl ⟨by rfl, fun wz hz => ?_⟩) hS ?_
              rotate_left
              (focus (go_simp; try (with_reducible rfl)))
              simp only [List.setIfInBounds_toArray, List.set_cons_succ, List.set_cons_zero]
              refine wpMix_step rfl (fun K hK => ?_)
              go_simp
              refine hK _ _ (fun h => absurd rfl h) ?_
              clear hK K
              refine wpMix_nil ?_
              clear hwrap
              have hTB9 := hTB3.broad A9 (k + 1) c9
              have hO9 : Own (w9.setCell ⟨P, 4, none⟩ (.slice A9 (k + 1) c9)) (P + 1) 9 1 (.slice A9 (k + 1) c9) (k + 1) ((br ++ [x5]).map Value.string) := by
                rw [List.map_append]
                exact o9.kept (grownBy_set w9 P 4 _) (apart_of fun q hq e => by have := o9.row q hq; injection e with e; omega)
              go_wp2
              go_roundw
              case rel => exact ⟨k + 1, c9, A9, br ++ [x5], by omega, by go_num, n9, hTB9, hO9, (fun x hx => by
                rcases List.mem_append.1 hx with hx | hx
                · exact hbs x hx
                · simp at hx; subst hx; exact hx5s), hX3.st (p := ⟨P, 4, none⟩) (by omega) _⟩
              case measure => simp [intOf]; omega
            · have hkv' : ¬ (k : Int) < v3 := by omega
              obtain ⟨⟨r0, r1, r2, r3, r4⟩, rf⟩ := HR.out wr hbw
              have rf0 := rf 0
              have rf1 := rf 1
              have rf2 := rf 2
              have rf3 := rf 3
              have rf4 := rf 4
              have t0 := hTB.t0
              have t1 := hTB.t1
              have t2 := hTB.t2
              have t3 := hTB.t3
              have t4 := hTB.t4
              go_wp2_with (go_at_call 56; go_loud (refine (Hv3.out _ (hl.below (hb3.tr hbw))).mono ?_; rintro e _ ⟨rfl, rfl⟩))
              have hrw : w.heap.size ≤ wr.heap.size := (hb3.tr hbw).size
              have hbF := (((((hb3.tr hbw).st (p := ⟨w.heap.size, 0, none⟩) (Nat.le_refl _) (.string x0)).st (p := ⟨w.heap.size, 1, none⟩) (Nat.le_refl _) (.int .i64 v1)).st (p := ⟨w.heap.size, 2, none⟩) (Nat.le_refl _) (.int .i64 v2)).st (p := ⟨w.heap.size, 3, none⟩) (Nat.le_refl _) (.string x4)).st (p := ⟨w.heap.size, 4, none⟩) (Nat.le_refl _) (.slice A5 k c5)
              have hOF := hO.kept (grownBy_set5 wr w.heap.size 0 1 2 3 4 (.string x0) (.int .i64 v1) (.int .i64 v2) (.string x4) (.slice A5 k c5)) (apart_of fun q hq e => by have := hO.row q hq; injection e with e; omega)
              have hmx : (1000 : Nat) ≤ maxLen := by decide
              refine bodyPost_ret (results_cellN rfl _ _ rfl (five_set r0 r1 r2 r3 r4 _ _ _ _ _) Tryz.underlying33 rfl (by kernel_rfl)) rfl ?_
              exact ⟨⟨⟨x0, v1, v2, x4, br⟩, A5, k, c5⟩, rfl, ⟨Nat.le_trans hxs0' hmx, Nat.le_trans hx4s hmx, by unfold i64ok; dsimp only; omega, by unfold i64ok; dsimp only; omega, hkc, by show k ≤ 100; omega, Strs.own hOF rfl (fun x hx => Nat.le_trans (hbs x hx) hmx)⟩, ⟨hxs0', hx4s, hbs⟩, hbF⟩
        · have h30' : ((v3 : Int) == 0) = false := by rw [beq_eq_false_iff_ne]; omega
          go_wp2_with (go_at_call 56; go_loud (refine (Hv3.out _ (hl.below (hb3.tr hbp0))).mono ?_; rintro e _ ⟨rfl, rfl⟩))
          go_loopw [7] (fun ii wr => ∃ (k c5 : Nat) (A5 : Option Addr) (br : List S), k ≤ v3 ∧ ii = .int .i64 k ∧ k ≤ c5 ∧ TB wr P x0 v1 v2 (⟨#[]⟩ : S) A5 k c5 ∧ Own wr (P + 1) 9 1 (.slice A5 k c5) k (br.map Value.string) ∧ (∀ x ∈ br, x.size ≤ 1000) ∧ Below w3.heap.size w3 wr) (fun ii _ => v3 - (intOf ii).toNat)
          case atStart => exact ⟨0, 0, none, [], by omega, rfl, Nat.le_refl _, hTB0, Own.nil _ _ _ hPz, (fun x hx => by cases hx), hbp0⟩
          case round =>
            obtain ⟨k, c5, A5, br, hk, rfl, hkc, hTB, hO, hbs, hbw⟩ := hrel
            by_cases hkv : k < v3
            · have hkv' : (k : Int) < v3 := by omega
              obtain ⟨v5, hv5, Hv5'⟩ := at_det A n c l (5 + (k : Int)) 11 w hl (by omega) (by omega)
              have Hv5 := Lib.hid Hv5'
              clear Hv5'
              have hv5' : v5 < 11 := by omega
              obtain ⟨x5, hx5⟩ : ∃ x5, NL[v5]? = some x5 := ⟨_, List.getElem?_eq_getElem (by have := hS3.1; omega)⟩
              have hx5s := hsmall x5 (List.mem_of_getElem? hx5)
              have hnm : ∀ wz, Below w3.heap.size w3 wz → wz.cell? ⟨bN, offN + v5, none⟩ = some (.string x5) := fun wz hz => by
                obtain ⟨b6, off6, x6, e6, hx6, _, hb6, hc6⟩ := hS3.at_ (k := v5) hv5'
                rw [hx5] at hx6
                injection hx6 with hx6
                injection e6 with e6
                injection e6 with e7 e8
                rw [← hx6, ← e7, ← e8] at hc6
                exact (hz.cell (p := ⟨bN, offN + v5, none⟩) hbN).trans hc6
              clear hx5
              go_wp2_with (go_at_call 56; go_loud (refine (Hv3.out _ (hl.below (hb3.tr hbw))).mono ?_; rintro e _ ⟨rfl, rfl⟩))
              have hbX : Below w3.heap.size w3 wr.drew := hbw.drn 1
              have hTBd : TB wr.drew P x0 v1 v2 (⟨#[]⟩ : S) A5 k c5 := hTB.below (brefl.drn 1)
              have hOd := hO.drew
              clear hTB hO
              have hTB := hTBd
              have hO := hOd
              clear hTBd hOd
              have hS := And.intro (hnm _ hbX) hTB.t4
              have hwrap := IntWalk.i64_in (5 + (k : Int)) (by omega)
              refine wp_region_mix [(true, 0), (true, 1), (true, 2), (true, 3), (true, 4), (true, 5), (true, 6), (true, 7), (false, 8), (true, 9), (true, 10), (false, 11), (false, 12), (true, 13), (false, 14)] 14 (fun wz => wz.cell? ⟨bN, offN + v5, none⟩ = some (.string x5) ∧ wz.cell? ⟨P, 4, none⟩ = some (.slice A5 k c5)) (by kernel_rfl) (by kernel_rfl) ?_
              generalize wr.drew = wx at hbX hTB hO hS ⊢
              refine wpMix_put (v := ?_) rfl rfl (Or.inl ⟨by rfl, fun wz hz => ?_⟩) hS ?_
              rotate_left
              (focus (go_simp; try (with_reducible rfl)))
              simp only [List.setIfInBounds_toArray, List.set_cons_succ, List.set_cons_zero]
              refine wpMix_put (v := ?_) rfl rfl (Or.inl ⟨by rfl, fun wz hz => ?_⟩) hS ?_
              rotate_left
              (focus (go_simp; try (with_reducible rfl)))
              simp only [List.setIfInBounds_toArray, List.set_cons_succ, List.set_cons_zero]
              refine wpMix_put (v := ?_) rfl rfl (Or.inl ⟨by rfl, fun wz hz => ?_⟩) hS ?_
              rotate_left
              (focus (go_simp; try (with_reducible rfl)))
              simp only [List.setIfInBounds_toArray, List.set_cons_succ, List.set_cons_zero]
              refine wpMix_put (v := ?_) rfl rfl (Or.inl ⟨by rfl, fun wz hz => ?_⟩) hS ?_
              rotate_left
              (focus (go_simp; try (with_reducible rfl)))
              simp only [List.setIfInBounds_toArray, List.set_cons_succ, List.set_cons_zero]
              refine wpMix_put (v := ?_) rfl rfl (Or.inl ⟨by rfl, fun wz hz => ?_⟩) hS ?_
              rotate_left
              (focus (go_simp; try (with_reducible rfl)))
              simp only [List.setIfInBounds_toArray, List.set_cons_succ, List.set_cons_zero]
              refine wpMix_put (v := ?_) rfl rfl (Or.inl ⟨by rfl, fun wz hz => ?_⟩) hS ?_
              rotate_left
              (focus (go_simp; try (with_reducible rfl)))
              simp only [List.setIfInBounds_toArray, List.set_cons_succ, List.set_cons_zero]
              refine wpMix_put (v := ?_) rfl rfl (Or.inl ⟨by rfl, fun wz hz => ?_⟩) hS ?_
              rotate_left
              (focus (go_simp; try (with_reducible rfl)))
              simp only [List.setIfInBounds_toArray, List.set_cons_succ, List.set_cons_zero]
              refine wpMix_put (v := ?_) rfl rfl (Or.inl ⟨by rfl, fun wz hz => ?_⟩) hS ?_
              rotate_left
              (focus (go_simp; try (with_reducible rfl)))
              simp only [List.setIfInBounds_toArray, List.set_cons_succ, List.set_cons_zero]
              refine wpMix_step rfl (fun K hK => ?_)
              go_simp
              refine (Hv5.out _ (hl.below (hb3.tr hbX))).mono ?_
              rintro e _ ⟨rfl, rfl⟩
              go_simp
              refine hK _ _ (fun _ => hS) ?_
              clear hK K
              refine wpMix_put (v := ?_) rfl rfl (Or.inl ⟨by rfl, fun wz hz => ?_⟩) hS ?_
              rotate_left
              (focus (go_simp; try (with_reducible rfl)))
              simp only [List.setIfInBounds_toArray, List.set_cons_succ, List.set_cons_zero]
              refine wpMix_put (v := ?_) rfl rfl (Or.inl ⟨by rfl, fun wz hz => ?_⟩) hS ?_
              rotate_left
              (focus (go_simp; try (with_reducible rfl)))
              simp only [List.setIfInBounds_toArray, List.set_cons_succ, List.set_cons_zero]
              refine wpMix_step rfl (fun K hK => ?_)
              go_simp
              have hX2 := hbX.al (.cells #[.string x5] 9)
              have hTB2 := hTB.grown (World.grownBy_alloc _ (.cells #[.string x5] 9) none) (by simp)
              have hS7 := And.intro (hnm _ hX2) hTB2.t4
              refine hK _ _ (fun _ => hS7) ?_
              clear hK K hS
              have hS := hS7
              clear hS7
              refine wpMix_step rfl (fun K hK => ?_)
              refine step_app _ stringsT rfl (.tmp 42) (.tmp 52) rfl (hO.alloc _) rfl rfl (news := [.string x5]) rfl (Rds.one wx (.string x5) 9) (by simp [Value.oneCell']) ?_ ?_ ?_
              · omega
              · omega
              intro A9 c9 w9 o9 n9 g9 _
              go_simp
              have hX3 := hX2.gr g9 (fun q e => by have := hO.row q e; omega)
              have hne5 : some P ≠ (Value.slice A5 k c5).ownBlock := fun e => by have := hO.row P e.symm; omega
              have hTB3 := hTB2.grown g9 hne5
              have hS7 := And.intro (hnm _ hX3) hTB3.t4
              have hf4 := hTB3.fr 4
              refine hK _ _ (fun _ => hS7) ?_
              clear hK K hS
              have hS := hS7
              clear hS7
              refine wpMix_put (v := ?_) rfl rfl (Or.inl ⟨by rfl, fun wz hz => ?_⟩) hS ?_
              rotate_left
              (focus (go_simp; try (with_reducible rfl)))
              simp only [List.setIfInBounds_toArray, List.set_cons_succ, List.set_cons_zero]
              refine wpMix_step rfl (fun K hK => ?_)
              go_simp
              refine hK _ _ (fun h => absurd rfl h) ?_
              clear hK K
              refine wpMix_nil ?_
              clear hwrap
              have hTB9 := hTB3.broad A9 (k + 1) c9
              have hO9 : Own (w9.setCell ⟨P, 4, none⟩ (.slice A9 (k + 1) c9)) (P + 1) 9 1 (.slice A9 (k + 1) c9) (k + 1) ((br ++ [x5]).map Value.string) := by
                rw [List.map_append]
                exact o9.kept (grownBy_set w9 P 4 _) (apart_of fun q hq e => by have := o9.row q hq; injection e with e; omega)
              go_wp2
              go_roundw
              case rel => exact ⟨k + 1, c9, A9, br ++ [x5], by omega, by go_num, n9, hTB9, hO9, (fun x hx => by
                rcases List.mem_append.1 hx with hx | hx
                · exact hbs x hx
                · simp at hx; subst hx; exact hx5s), hX3.st (p := ⟨P, 4, none⟩) (by omega) _⟩
              case measure => simp [intOf]; omega
            · have hkv' : ¬ (k : Int) < v3 := by omega
              obtain ⟨⟨r0, r1, r2, r3, r4⟩, rf⟩ := HR.out wr hbw
              have rf0 := rf 0
              have rf1 := rf 1
              have rf2 := rf 2
              have rf3 := rf 3
              have rf4 := rf 4
              have t0 := hTB.t0
              have t1 := hTB.t1
              have t2 := hTB.t2
              have t3 := hTB.t3
              have t4 := hTB.t4
              go_wp2_with (go_at_call 56; go_loud (refine (Hv3.out _ (hl.below (hb3.tr hbw))).mono ?_; rintro e _ ⟨rfl, rfl⟩))
              have hrw : w.heap.size ≤ wr.heap.size := (hb3.tr hbw).size
              have hbF := (((((hb3.tr hbw).st (p := ⟨w.heap.size, 0, none⟩) (Nat.le_refl _) (.string x0)).st (p := ⟨w.heap.size, 1, none⟩) (Nat.le_refl _) (.int .i64 v1)).st (p := ⟨w.heap.size, 2, none⟩) (Nat.le_refl _) (.int .i64 v2)).st (p := ⟨w.heap.size, 3, none⟩) (Nat.le_refl _) (.string (⟨#[]⟩ : S))).st (p := ⟨w.heap.size, 4, none⟩) (Nat.le_refl _) (.slice A5 k c5)
              have hOF := hO.kept (grownBy_set5 wr w.heap.size 0 1 2 3 4 (.string x0) (.int .i64 v1) (.int .i64 v2) (.string (⟨#[]⟩ : S)) (.slice A5 k c5)) (apart_of fun q hq e => by have := hO.row q hq; injection e with e; omega)
              have hmx : (1000 : Nat) ≤ maxLen := by decide
              refine bodyPost_ret (results_cellN rfl _ _ rfl (five_set r0 r1 r2 r3 r4 _ _ _ _ _) Tryz.underlying33 rfl (by kernel_rfl)) rfl ?_
              exact ⟨⟨⟨x0, v1, v2, (⟨#[]⟩ : S), br⟩, A5, k, c5⟩, rfl, ⟨Nat.le_trans hxs0' hmx, Nat.le_trans se0 hmx, by unfold i64ok; dsimp only; omega, by unfold i64ok; dsimp only; omega, hkc, by show k ≤ 100; omega, Strs.own hOF rfl (fun x hx => Nat.le_trans (hbs x hx) hmx)⟩, ⟨hxs0', se0, hbs⟩, hbF⟩
      · skip
        refine wpForced_step rfl (fun K hK => ?_)
        go_simp
        have hX2 := hbX.al (.cells #[.string ⟨#[]⟩, .int .i64 0, .int .i64 0, .string ⟨#[]⟩, .slice none 0 0] 33)
        refine hK _ _ (fun _ => hcells _ hX2) ?_
        clear hK K
        refine wpPlan_one ?_
        refine wpForced_step rfl (fun K hK => ?_)
        go_simp
        refine (Hv2.out _ (hl.below (by first | exact hb9.tr hbX | exact hb9.tr (hbX.al _)))).mono ?_
        rintro e _ ⟨rfl, rfl⟩
        go_simp
        refine hK _ _ (fun _ => hcells _ (by first | exact hbX | exact hbX.al _)) ?_
        clear hK K
        refine wpPlan_put (v := ?_) rfl rfl (Or.inl ⟨by rfl, fun wz hz => ?_⟩) (hcells _ (by first | exact hbX | exact hbX.al _)) ?_
        rotate_left
        (focus (go_simp; try (with_reducible rfl)))
        simp only [List.setIfInBounds_toArray, List.set_cons_succ, List.set_cons_zero]
        refine wpPlan_one ?_
        refine wpForced_step rfl (fun K hK => ?_)
        go_simp
        refine hK _ _ (fun h => absurd rfl h) ?_
        clear hK K
        refine wpPlan_nil ?_
        have hTB0 := tb_new (x := x0) (se := ⟨#[]⟩) (kd := v1) (lg := v2) (A := none) (n := 0) (c := 0) (t := 33) (wz := (w3.alloc (.cells #[.string x0, .int .i64 v1, .int .i64 v2, .string ⟨#[]⟩, .slice none 0 0] 33)).drew) w3 rfl (brefl.drn 1)
        have hbp0 : Below w3.heap.size w3 (w3.alloc (.cells #[.string x0, .int .i64 v1, .int .i64 v2, .string ⟨#[]⟩, .slice none 0 0] 33)).drew := (brefl.al _).drn 1
        have hPz : w3.heap.size + 1 ≤ (w3.alloc (.cells #[.string x0, .int .i64 v1, .int .i64 v2, .string ⟨#[]⟩, .slice none 0 0] 33)).drew.heap.size := Nat.le_of_eq (by simp)
        generalize (w3.alloc (.cells #[.string x0, .int .i64 v1, .int .i64 v2, .string ⟨#[]⟩, .slice none 0 0] 33)).drew = wp at hTB0 hbp0 hPz ⊢
        obtain ⟨P, hP⟩ : ∃ P, w3.heap.size = P := ⟨_, rfl⟩
        have hw3P : w3.heap.size ≤ P := Nat.le_of_eq hP
        have hwP : w.heap.size < P := by omega
        rw [hP] at hTB0 hPz ⊢
        clear hP hbX hcells
        have se0 : (⟨#[]⟩ : S).size ≤ 1000 := by decide
        by_cases h30 : v3 = 0
        · have h30' : ((v3 : Int) == 0) = true := by rw [h30]; rfl
          have hv4' : v4 < 11 := by omega
          obtain ⟨b6, off6, x4, e6, hx4, _, hb6, hc6⟩ := hS3.at_ (k := v4) hv4'
          injection e6 with e6
          injection e6 with e7 e8
          rw [← e7, ← e8] at hc6
          rw [← e7] at hb6
          have hx4s := hsmall x4 (List.mem_of_getElem? hx4)
          have hc4 := (hbp0.cell (p := ⟨bN, offN + v4, none⟩) hb6).trans hc6
          have p3 := hTB0.t3
          have pf3 := hTB0.fr 3
          clear hx4 hc6 hb6 e7 e8
          clear h30
          go_wp2_with (first
            | (go_at_call 56; (with_reducible refine (Hv3.out _ ?_).mono ?_); (focus (exact hl.below (hb3.tr hbp0))); rintro e _ ⟨rfl, rfl⟩)
            | (go_at_call 56; go_loud (refine (Hv4.out _ (hl.below (hb3.tr hbp0))).mono ?_; rintro e _ ⟨rfl, rfl⟩)))
          have hTB4 := hTB0.see x4
          have hb4 := hbp0.st (p := ⟨P, 3, none⟩) hw3P (.string x4)
          have hsz4 : P + 1 ≤ (wp.setCell ⟨P, 3, none⟩ (.string x4)).heap.size := by simpa [World.setCell] using hPz
          generalize wp.setCell ⟨P, 3, none⟩ (.string x4) = wp4 at hTB4 hb4 hsz4 ⊢
          go_loopw [7] (fun ii wr => ∃ (k c5 : Nat) (A5 : Option Addr) (br : List S), k ≤ v3 ∧ ii = .int .i64 k ∧ k ≤ c5 ∧ TB wr P x0 v1 v2 x4 A5 k c5 ∧ Own wr (P + 1) 9 1 (.slice A5 k c5) k (br.map Value.string) ∧ (∀ x ∈ br, x.size ≤ 1000) ∧ Below w3.heap.size w3 wr) (fun ii _ => v3 - (intOf ii).toNat)
          case atStart => exact ⟨0, 0, none, [], by omega, rfl, Nat.le_refl _, hTB4, Own.nil _ _ _ hsz4, (fun x hx => by cases hx), hb4⟩
          case round =>
            obtain ⟨k, c5, A5, br, hk, rfl, hkc, hTB, hO, hbs, hbw⟩ := hrel
            by_cases hkv : k < v3
            · have hkv' : (k : Int) < v3 := by omega
              obtain ⟨v5, hv5, Hv5'⟩ := at_det A n c l (5 + (k : Int)) 11 w hl (by omega) (by omega)
              have Hv5 := Lib.hid Hv5'
              clear Hv5'
              have hv5' : v5 < 11 := by omega
              obtain ⟨x5, hx5⟩ : ∃ x5, NL[v5]? = some x5 := ⟨_, List.getElem?_eq_getElem (by have := hS3.1; omega)⟩
              have hx5s := hsmall x5 (List.mem_of_getElem? hx5)
              have hnm : ∀ wz, Below w3.heap.size w3 wz → wz.cell? ⟨bN, offN + v5, none⟩ = some (.string x5) := fun wz hz => by
                obtain ⟨b6, off6, x6, e6, hx6, _, hb6, hc6⟩ := hS3.at_ (k := v5) hv5'
                rw [hx5] at hx6
                injection hx6 with hx6
                injection e6 with e6
                injection e6 with e7 e8
                rw [← hx6, ← e7, ← e8] at hc6
                exact (hz.cell (p := ⟨bN, offN + v5, none⟩) hbN).trans hc6
              clear hx5
              go_wp2_with (go_at_call 56; go_loud (refine (Hv3.out _ (hl.below (hb3.tr hbw))).mono ?_; rintro e _ ⟨rfl, rfl⟩))
              have hbX : Below w3.heap.size w3 wr.drew := hbw.drn 1
              have hTBd : TB wr.drew P x0 v1 v2 x4 A5 k c5 := hTB.below (brefl.drn 1)
              have hOd := hO.drew
              clear hTB hO
              have hTB := hTBd
              have hO := hOd
              clear hTBd hOd
              have hS := And.intro (hnm _ hbX) hTB.t4
              have hwrap := IntWalk.i64_in (5 + (k : Int)) (by omega)
              refine wp_region_mix [(true, 0), (true, 1), (true, 2), (true, 3), (true, 4), (true, 5), (true, 6), (true, 7), (false, 8), (true, 9), (true, 10), (false, 11), (false, 12), (true, 13), (false, 14)] 14 (fun wz => wz.cell? ⟨bN, offN + v5, none⟩ = some (.string x5) ∧ wz.cell? ⟨P, 4, none⟩ = some (.slice A5 k c5)) (by kernel_rfl) (by kernel_rfl) ?_
              generalize wr.drew = wx at hbX hTB hO hS ⊢
              refine wpMix_put (v := ?_) rfl rfl (Or.inl ⟨by rfl, fun wz hz => ?_⟩) hS ?_
              rotate_left
              (focus (go_simp; try (with_reducible rfl)))
              simp only [List.setIfInBounds_toArray, List.set_cons_succ, List.set_cons_zero]
              refine wpMix_put (v := ?_) rfl rfl (Or.inl ⟨by rfl, fun wz hz => ?_⟩) hS ?_
              rotate_left
              (focus (go_simp; try (with_reducible rfl)))
              simp only [List.setIfInBounds_toArray, List.set_cons_succ, List.set_cons_zero]
              refine wpMix_put (v := ?_) rfl rfl (Or.inl ⟨by rfl, fun wz hz => ?_⟩) hS ?_
              rotate_left
              (focus (go_simp; try (with_reducible rfl)))
              simp only [List.setIfInBounds_toArray, List.set_cons_succ, List.set_cons_zero]
              refine wpMix_put (v := ?_) rfl rfl (Or.inl ⟨by rfl, fun wz hz => ?_⟩) hS ?_
              rotate_left
              (focus (go_simp; try (with_reducible rfl)))
              simp only [List.setIfInBounds_toArray, List.set_cons_succ, List.set_cons_zero]
              refine wpMix_put (v := ?_) rfl rfl (Or.inl ⟨by rfl, fun wz hz => ?_⟩) hS ?_
              rotate_left
              (focus (go_simp; try (with_reducible rfl)))
              simp only [List.setIfInBounds_toArray, List.set_cons_succ, List.set_cons_zero]
              refine wpMix_put (v := ?_) rfl rfl (Or.inl ⟨by rfl, fun wz hz => ?_⟩) hS ?_
              rotate_left
              (focus (go_simp; try (with_reducible rfl)))
              simp only [List.setIfInBounds_toArray, List.set_cons_succ, List.set_cons_zero]
              refine wpMix_put (v := ?_) rfl rfl (Or.inl ⟨by rfl, fun wz hz => ?_⟩) hS ?_
              rotate_left
              (focus (go_simp; try (with_reducible rfl)))
              simp only [List.setIfInBounds_toArray, List.set_cons_succ, List.set_cons_zero]
              refine wpMix_put (v := ?_) rfl rfl (Or.inl ⟨by rfl, fun wz hz => ?_⟩) hS ?_
              rotate_left
              (focus (go_simp; try (with_reducible rfl)))
              simp only [List.setIfInBounds_toArray, List.set_cons_succ, List.set_cons_zero]
              refine wpMix_step rfl (fun K hK => ?_)
              go_simp
              refine (Hv5.out _ (hl.below (hb3.tr hbX))).mono ?_
              rintro e _ ⟨rfl, rfl⟩
              go_simp
              refine hK _ _ (fun _ => hS) ?_
              clear hK K
              refine wpMix_put (v := ?_) rfl rfl (Or.inl ⟨by rfl, fun wz hz => ?_⟩) hS ?_
              rotate_left
              (focus (go_simp; try (with_reducible rfl)))
              simp only [List.setIfInBounds_toArray, List.set_cons_succ, List.set_cons_zero]
              refine wpMix_put (v := ?_) rfl rfl (Or.inl ⟨by rfl, fun wz hz => ?_⟩) hS ?_
              rotate_left
              (focus (go_simp; try (with_reducible rfl)))
              simp only [List.setIfInBounds_toArray, List.set_cons_succ, List.set_cons_zero]
              refine wpMix_step rfl (fun K hK => ?_)
              go_simp
              have hX2 := hbX.al (.cells #[.string x5] 9)
              have hTB2 := hTB.grown (World.grownBy_alloc _ (.cells #[.string x5] 9) none) (by simp)
              have hS7 := And.intro (hnm _ hX2) hTB2.t4
              refine hK _ _ (fun _ => hS7) ?_
              clear hK K hS
              have hS := hS7
              clear hS7
              refine wpMix_step rfl (fun K hK => ?_)
              refine step_app _ stringsT rfl (.tmp 42) (.tmp 52) rfl (hO.alloc _) rfl rfl (news := [.string x5]) rfl (Rds.one wx (.string x5) 9) (by simp [Value.oneCell']) ?_ ?_ ?_
              · omega
              · omega
              intro A9 c9 w9 o9 n9 g9 _
              go_simp
              have hX3 := hX2.gr g9 (fun q e => by have := hO.row q e; omega)
              have hne5 : some P ≠ (Value.slice A5 k c5).ownBlock := fun e => by have := hO.row P e.symm; omega
              have hTB3 := hTB2.grown g9 hne5
              have hS7 := And.intro (hnm _ hX3) hTB3.t4
              have hf4 := hTB3.fr 4
              refine hK _ _ (fun _ => hS7) ?_
              clear hK K hS
              have hS := hS7
              clear hS7
              refine wpMix_put (v := ?_) rfl rfl (Or.inl ⟨by rfl, fun wz hz => ?_⟩) hS ?_
              rotate_left
              (focus (go_simp; try (with_reducible rfl)))
              simp only [List.setIfInBounds_toArray, List.set_cons_succ, List.set_cons_zero]
              refine wpMix_step rfl (fun K hK => ?_)
              go_simp
              refine hK _ _ (fun h => absurd rfl h) ?_
              clear hK K
              refine wpMix_nil ?_
              clear hwrap
              have hTB9 := hTB3.broad A9 (k + 1) c9
              have hO9 : Own (w9.setCell ⟨P, 4, none⟩ (.slice A9 (k + 1) c9)) (P + 1) 9 1 (.slice A9 (k + 1) c9) (k + 1) ((br ++ [x5]).map Value.string) := by
                rw [List.map_append]
                exact o9.kept (grownBy_set w9 P 4 _) (apart_of fun q hq e => by have := o9.row q hq; injection e with e; omega)
              go_wp2
              go_roundw
              case rel => exact ⟨k + 1, c9, A9, br ++ [x5], by omega, by go_num, n9, hTB9, hO9, (fun x hx => by
                rcases List.mem_append.1 hx with hx | hx
                · exact hbs x hx
                · simp at hx; subst hx; exact hx5s), hX3.st (p := ⟨P, 4, none⟩) (by omega) _⟩
              case measure => simp [intOf]; omega
            · have hkv' : ¬ (k : Int) < v3 := by omega
              obtain ⟨⟨r0, r1, r2, r3, r4⟩, rf⟩ := HR.out wr hbw
              have rf0 := rf 0
              have rf1 := rf 1
              have rf2 := rf 2
              have rf3 := rf 3
              have rf4 := rf 4
              have t0 := hTB.t0
              have t1 := hTB.t1
              have t2 := hTB.t2
              have t3 := hTB.t3
              have t4 := hTB.t4
              go_wp2_with (go_at_call 56; go_loud (refine (Hv3.out _ (hl.below (hb3.tr hbw))).mono ?_; rintro e _ ⟨rfl, rfl⟩))
              have hrw : w.heap.size ≤ wr.heap.size := (hb3.tr hbw).size
              have hbF := (((((hb3.tr hbw).st (p := ⟨w.heap.size, 0, none⟩) (Nat.le_refl _) (.string x0)).st (p := ⟨w.heap.size, 1, none⟩) (Nat.le_refl _) (.int .i64 v1)).st (p := ⟨w.heap.size, 2, none⟩) (Nat.le_refl _) (.int .i64 v2)).st (p := ⟨w.heap.size, 3, none⟩) (Nat.le_refl _) (.string x4)).st (p := ⟨w.heap.size, 4, none⟩) (Nat.le_refl _) (.slice A5 k c5)
              have hOF := hO.kept (grownBy_set5 wr w.heap.size 0 1 2 3 4 (.string x0) (.int .i64 v1) (.int .i64 v2) (.string x4) (.slice A5 k c5)) (apart_of fun q hq e => by have := hO.row q hq; injection e with e; omega)
              have hmx : (1000 : Nat) ≤ maxLen := by decide
              refine bodyPost_ret (results_cellN rfl _ _ rfl (five_set r0 r1 r2 r3 r4 _ _ _ _ _) Tryz.underlying33 rfl (by kernel_rfl)) rfl ?_
              exact ⟨⟨⟨x0, v1, v2, x4, br⟩, A5, k, c5⟩, rfl, ⟨Nat.le_trans hxs0' hmx, Nat.le_trans hx4s hmx, by unfold i64ok; dsimp only; omega, by unfold i64ok; dsimp only; omega, hkc, by show k ≤ 100; omega, Strs.own hOF rfl (fun x hx => Nat.le_trans (hbs x hx) hmx)⟩, ⟨hxs0', hx4s, hbs⟩, hbF⟩
        · have h30' : ((v3 : Int) == 0) = false := by rw [beq_eq_false_iff_ne]; omega
          go_wp2_with (go_at_call 56; go_loud (refine (Hv3.out _ (hl.below (hb3.tr hbp0))).mono ?_; rintro e _ ⟨rfl, rfl⟩))
          go_loopw [7] (fun ii wr => ∃ (k c5 : Nat) (A5 : Option Addr) (br : List S), k ≤ v3 ∧ ii = .int .i64 k ∧ k ≤ c5 ∧ TB wr P x0 v1 v2 (⟨#[]⟩ : S) A5 k c5 ∧ Own wr (P + 1) 9 1 (.slice A5 k c5) k (br.map Value.string) ∧ (∀ x ∈ br, x.size ≤ 1000) ∧ Below w3.heap.size w3 wr) (fun ii _ => v3 - (intOf ii).toNat)
          case atStart => exact ⟨0, 0, none, [], by omega, rfl, Nat.le_refl _, hTB0, Own.nil _ _ _ hPz, (fun x hx => by cases hx), hbp0⟩
          case round =>
            obtain ⟨k, c5, A5, br, hk, rfl, hkc, hTB, hO, hbs, hbw⟩ := hrel
            by_cases hkv : k < v3
            · have hkv' : (k : Int) < v3 := by omega
              obtain ⟨v5, hv5, Hv5'⟩ := at_det A n c l (5 + (k : Int)) 11 w hl (by omega) (by omega)
              have Hv5 := Lib.hid Hv5'
              clear Hv5'
              have hv5' : v5 < 11 := by omega
              obtain ⟨x5, hx5⟩ : ∃ x5, NL[v5]? = some x5 := ⟨_, List.getElem?_eq_getElem (by have := hS3.1; omega)⟩
              have hx5s := hsmall x5 (List.mem_of_getElem? hx5)
              have hnm : ∀ wz, Below w3.heap.size w3 wz → wz.cell? ⟨bN, offN + v5, none⟩ = some (.string x5) := fun wz hz => by
                obtain ⟨b6, off6, x6, e6, hx6, _, hb6, hc6⟩ := hS3.at_ (k := v5) hv5'
                rw [hx5] at hx6
                injection hx6 with hx6
                injection e6 with e6
                injection e6 with e7 e8
                rw [← hx6, ← e7, ← e8] at hc6
                exact (hz.cell (p := ⟨bN, offN + v5, none⟩) hbN).trans hc6
              clear hx5
              go_wp2_with (go_at_call 56; go_loud (refine (Hv3.out _ (hl.below (hb3.tr hbw))).mono ?_; rintro e _ ⟨rfl, rfl⟩))
              have hbX : Below w3.heap.size w3 wr.drew := hbw.drn 1
              have hTBd : TB wr.drew P x0 v1 v2 (⟨#[]⟩ : S) A5 k c5 := hTB.below (brefl.drn 1)
              have hOd := hO.drew
              clear hTB hO
              have hTB := hTBd
              have hO := hOd
              clear hTBd hOd
              have hS := And.intro (hnm _ hbX) hTB.t4
              have hwrap := IntWalk.i64_in (5 + (k : Int)) (by omega)
              refine wp_region_mix [(true, 0), (true, 1), (true, 2), (true, 3), (true, 4), (true, 5), (true, 6), (true, 7), (false, 8), (true, 9), (true, 10), (false, 11), (false, 12), (true, 13), (false, 14)] 14 (fun wz => wz.cell? ⟨bN, offN + v5, none⟩ = some (.string x5) ∧ wz.cell? ⟨P, 4, none⟩ = some (.slice A5 k c5)) (by kernel_rfl) (by kernel_rfl) ?_
              generalize wr.drew = wx at hbX hTB hO hS ⊢
              refine wpMix_put (v := ?_) rfl rfl (Or.inl ⟨by rfl, fun wz hz => ?_⟩) hS ?_
              rotate_left
              (focus (go_simp; try (with_reducible rfl)))
              simp only [List.setIfInBounds_toArray, List.set_cons_succ, List.set_cons_zero]
              refine wpMix_put (v := ?_) rfl rfl (Or.inl ⟨by rfl, fun wz hz => ?_⟩) hS ?_
              rotate_left
              (focus (go_simp; try (with_reducible rfl)))
              simp only [List.setIfInBounds_toArray, List.set_cons_succ, List.set_cons_zero]
              refine wpMix_put (v := ?_) rfl rfl (Or.inl ⟨by rfl, fun wz hz => ?_⟩) hS ?_
              rotate_left
              (focus (go_simp; try (with_reducible rfl)))
              simp only [List.setIfInBounds_toArray, List.set_cons_succ, List.set_cons_zero]
              refine wpMix_put (v := ?_) rfl rfl (Or.inl ⟨by rfl, fun wz hz => ?_⟩) hS ?_
              rotate_left
              (focus (go_simp; try (with_reducible rfl)))
              simp only [List.setIfInBounds_toArray, List.set_cons_succ, List.set_cons_zero]
              refine wpMix_put (v := ?_) rfl rfl (Or.inl ⟨by rfl, fun wz hz => ?_⟩) hS ?_
              rotate_left
              (focus (go_simp; try (with_reducible rfl)))
              simp only [List.setIfInBounds_toArray, List.set_cons_succ, List.set_cons_zero]
              refine wpMix_put (v := ?_) rfl rfl (Or.inl ⟨by rfl, fun wz hz => ?_⟩) hS ?_
              rotate_left
              (focus (go_simp; try (with_reducible rfl)))
              simp only [List.setIfInBounds_toArray, List.set_cons_succ, List.set_cons_zero]
              refine wpMix_put (v := ?_) rfl rfl (Or.inl ⟨by rfl, fun wz hz => ?_⟩) hS ?_
              rotate_left
              (focus (go_simp; try (with_reducible rfl)))
              simp only [List.setIfInBounds_toArray, List.set_cons_succ, List.set_cons_zero]
              refine wpMix_put (v := ?_) rfl rfl (Or.inl ⟨by rfl, fun wz hz => ?_⟩) hS ?_
              rotate_left
              (focus (go_simp; try (with_reducible rfl)))
              simp only [List.setIfInBounds_toArray, List.set_cons_succ, List.set_cons_zero]
              refine wpMix_step rfl (fun K hK => ?_)
              go_simp
              refine (Hv5.out _ (hl.below (hb3.tr hbX))).mono ?_
              rintro e _ ⟨rfl, rfl⟩
              go_simp
              refine hK _ _ (fun _ => hS) ?_
              clear hK K
              refine wpMix_put (v := ?_) rfl rfl (Or.inl ⟨by rfl, fun wz hz => ?_⟩) hS ?_
              rotate_left
              (focus (go_simp; try (with_reducible rfl)))
              simp only [List.setIfInBounds_toArray, List.set_cons_succ, List.set_cons_zero]
              refine wpMix_put (v := ?_) rfl rfl (Or.inl ⟨by rfl, fun wz hz => ?_⟩) hS ?_
              rotate_left
              (focus (go_simp; try (with_reducible rfl)))
              simp only [List.setIfInBounds_toArray, List.set_cons_succ, List.set_cons_zero]
              refine wpMix_step rfl (fun K hK => ?_)
              go_simp
              have hX2 := hbX.al (.cells #[.string x5] 9)
              have hTB2 := hTB.grown (World.grownBy_alloc _ (.cells #[.string x5] 9) none) (by simp)
              have hS7 := And.intro (hnm _ hX2) hTB2.t4
              refine hK _ _ (fun _ => hS7) ?_
              clear hK K hS
              have hS := hS7
              clear hS7
              refine wpMix_step rfl (fun K hK => ?_)
              refine step_app _ stringsT rfl (.tmp 42) (.tmp 52) rfl (hO.alloc _) rfl rfl (news := [.string x5]) rfl (Rds.one wx (.string x5) 9) (by simp [Value.oneCell']) ?_ ?_ ?_
              · omega
              · omega
              intro A9 c9 w9 o9 n9 g9 _
              go_simp
              have hX3 := hX2.gr g9 (fun q e => by have := hO.row q e; omega)
              have hne5 : some P ≠ (Value.slice A5 k c5).ownBlock := fun e => by have := hO.row P e.symm; omega
              have hTB3 := hTB2.grown g9 hne5
              have hS7 := And.intro (hnm _ hX3) hTB3.t4
              have hf4 := hTB3.fr 4
              refine hK _ _ (fun _ => hS7) ?_
              clear hK K hS
              have hS := hS7
              clear hS7
              refine wpMix_put (v := ?_) rfl rfl (Or.inl ⟨by rfl, fun wz hz => ?_⟩) hS ?_
              rotate_left
              (focus (go_simp; try (with_reducible rfl)))
              simp only [List.setIfInBounds_toArray, List.set_cons_succ, List.set_cons_zero]
              refine wpMix_step rfl (fun K hK => ?_)
              go_simp
              refine hK _ _ (fun h => absurd rfl h) ?_
              clear hK K
              refine wpMix_nil ?_
              clear hwrap
              have hTB9 := hTB3.broad A9 (k + 1) c9
              have hO9 : Own (w9.setCell ⟨P, 4, none⟩ (.slice A9 (k + 1) c9)) (P + 1) 9 1 (.slice A9 (k + 1) c9) (k + 1) ((br ++ [x5]).map Value.string) := by
                rw [List.map_append]
                exact o9.kept (grownBy_set w9 P 4 _) (apart_of fun q hq e => by have := o9.row q hq; injection e with e; omega)
              go_wp2
              go_roundw
              case rel => exact ⟨k + 1, c9, A9, br ++ [x5], by omega, by go_num, n9, hTB9, hO9, (fun x hx => by
                rcases List.mem_append.1 hx with hx | hx
                · exact hbs x hx
                · simp at hx; subst hx; exact hx5s), hX3.st (p := ⟨P, 4, none⟩) (by omega) _⟩
              case measure => simp [intOf]; omega
            · have hkv' : ¬ (k : Int) < v3 := by omega
              obtain ⟨⟨r0, r1, r2, r3, r4⟩, rf⟩ := HR.out wr hbw
              have rf0 := rf 0
              have rf1 := rf 1
              have rf2 := rf 2
              have rf3 := rf 3
              have rf4 := rf 4
              have t0 := hTB.t0
              have t1 := hTB.t1
              have t2 := hTB.t2
              have t3 := hTB.t3
              have t4 := hTB.t4
              go_wp2_with (go_at_call 56; go_loud (refine (Hv3.out _ (hl.below (hb3.tr hbw))).mono ?_; rintro e _ ⟨rfl, rfl⟩))
              have hrw : w.heap.size ≤ wr.heap.size := (hb3.tr hbw).size
              have hbF := (((((hb3.tr hbw).st (p := ⟨w.heap.size, 0, none⟩) (Nat.le_refl _) (.string x0)).st (p := ⟨w.heap.size, 1, none⟩) (Nat.le_refl _) (.int .i64 v1)).st (p := ⟨w.heap.size, 2, none⟩) (Nat.le_refl _) (.int .i64 v2)).st (p := ⟨w.heap.size, 3, none⟩) (Nat.le_refl _) (.string (⟨#[]⟩ : S))).st (p := ⟨w.heap.size, 4, none⟩) (Nat.le_refl _) (.slice A5 k c5)
              have hOF := hO.kept (grownBy_set5 wr w.heap.size 0 1 2 3 4 (.string x0) (.int .i64 v1) (.int .i64 v2) (.string (⟨#[]⟩ : S)) (.slice A5 k c5)) (apart_of fun q hq e => by have := hO.row q hq; injection e with e; omega)
              have hmx : (1000 : Nat) ≤ maxLen := by decide
              refine bodyPost_ret (results_cellN rfl _ _ rfl (five_set r0 r1 r2 r3 r4 _ _ _ _ _) Tryz.underlying33 rfl (by kernel_rfl)) rfl ?_
              exact ⟨⟨⟨x0, v1, v2, (⟨#[]⟩ : S), br⟩, A5, k, c5⟩, rfl, ⟨Nat.le_trans hxs0' hmx, Nat.le_trans se0 hmx, by unfold i64ok; dsimp only; omega, by unfold i64ok; dsimp only; omega, hkc, by show k ≤ 100; omega, Strs.own hOF rfl (fun x hx => Nat.le_trans (hbs x hx) hmx)⟩, ⟨hxs0', se0, hbs⟩, hbF⟩
    · skip
      refine wpForced_step rfl (fun K hK => ?_)
      go_simp
      have hX2 := hbX.al (.cells #[.string ⟨#[]⟩, .int .i64 0, .int .i64 0, .string ⟨#[]⟩, .slice none 0 0] 33)
      refine hK _ _ (fun _ => hcells _ hX2) ?_
      clear hK K
      refine wpPlan_one ?_
      refine wpForced_step rfl (fun K hK => ?_)
      go_simp
      refine (Hv1.out _ (hl.below (by first | exact hb9.tr hbX | exact hb9.tr (hbX.al _)))).mono ?_
      rintro e _ ⟨rfl, rfl⟩
      go_simp
      refine hK _ _ (fun _ => hcells _ (by first | exact hbX | exact hbX.al _)) ?_
      clear hK K
      refine wpPlan_one ?_
      refine wpForced_step rfl (fun K hK => ?_)
      go_simp
      refine (Hv2.out _ (hl.below (by first | exact hb9.tr hbX | exact hb9.tr (hbX.al _)))).mono ?_
      rintro e _ ⟨rfl, rfl⟩
      go_simp
      refine hK _ _ (fun _ => hcells _ (by first | exact hbX | exact hbX.al _)) ?_
      clear hK K
      refine wpPlan_put (v := ?_) rfl rfl (Or.inl ⟨by rfl, fun wz hz => ?_⟩) (hcells _ (by first | exact hbX | exact hbX.al _)) ?_
      rotate_left
      (focus (go_simp; try (with_reducible rfl)))
      simp only [List.setIfInBounds_toArray, List.set_cons_succ, List.set_cons_zero]
      refine wpPlan_one ?_
      refine wpForced_step rfl (fun K hK => ?_)
      go_simp
      refine hK _ _ (fun h => absurd rfl h) ?_
      clear hK K
      refine wpPlan_nil ?_
      have hTB0 := tb_new (x := x0) (se := ⟨#[]⟩) (kd := v1) (lg := v2) (A := none) (n := 0) (c := 0) (t := 33) (wz := (w3.alloc (.cells #[.string x0, .int .i64 v1, .int .i64 v2, .string ⟨#[]⟩, .slice none 0 0] 33)).drew) w3 rfl (brefl.drn 1)
      have hbp0 : Below w3.heap.size w3 (w3.alloc (.cells #[.string x0, .int .i64 v1, .int .i64 v2, .string ⟨#[]⟩, .slice none 0 0] 33)).drew := (brefl.al _).drn 1
      have hPz : w3.heap.size + 1 ≤ (w3.alloc (.cells #[.string x0, .int .i64 v1, .int .i64 v2, .string ⟨#[]⟩, .slice none 0 0] 33)).drew.heap.size := Nat.le_of_eq (by simp)
      generalize (w3.alloc (.cells #[.string x0, .int .i64 v1, .int .i64 v2, .string ⟨#[]⟩, .slice none 0 0] 33)).drew = wp at hTB0 hbp0 hPz ⊢
      obtain ⟨P, hP⟩ : ∃ P, w3.heap.size = P := ⟨_, rfl⟩
      have hw3P : w3.heap.size ≤ P := Nat.le_of_eq hP
      have hwP : w.heap.size < P := by omega
      rw [hP] at hTB0 hPz ⊢
      clear hP hbX hcells
      have se0 : (⟨#[]⟩ : S).size ≤ 1000 := by decide
      by_cases h30 : v3 = 0
      · have h30' : ((v3 : Int) == 0) = true := by rw [h30]; rfl
        have hv4' : v4 < 11 := by omega
        obtain ⟨b6, off6, x4, e6, hx4, _, hb6, hc6⟩ := hS3.at_ (k := v4) hv4'
        injection e6 with e6
        injection e6 with e7 e8
        rw [← e7, ← e8] at hc6
        rw [← e7] at hb6
        have hx4s := hsmall x4 (List.mem_of_getElem? hx4)
        have hc4 := (hbp0.cell (p := ⟨bN, offN + v4, none⟩) hb6).trans hc6
        have p3 := hTB0.t3
        have pf3 := hTB0.fr 3
        clear hx4 hc6 hb6 e7 e8
        clear h30
        go_wp2_with (first
          | (go_at_call 56; (with_reducible refine (Hv3.out _ ?_).mono ?_); (focus (exact hl.below (hb3.tr hbp0))); rintro e _ ⟨rfl, rfl⟩)
          | (go_at_call 56; go_loud (refine (Hv4.out _ (hl.below (hb3.tr hbp0))).mono ?_; rintro e _ ⟨rfl, rfl⟩)))
        have hTB4 := hTB0.see x4
        have hb4 := hbp0.st (p := ⟨P, 3, none⟩) hw3P (.string x4)
        have hsz4 : P + 1 ≤ (wp.setCell ⟨P, 3, none⟩ (.string x4)).heap.size := by simpa [World.setCell] using hPz
        generalize wp.setCell ⟨P, 3, none⟩ (.string x4) = wp4 at hTB4 hb4 hsz4 ⊢
        go_loopw [7] (fun ii wr => ∃ (k c5 : Nat) (A5 : Option Addr) (br : List S), k ≤ v3 ∧ ii = .int .i64 k ∧ k ≤ c5 ∧ TB wr P x0 v1 v2 x4 A5 k c5 ∧ Own wr (P + 1) 9 1 (.slice A5 k c5) k (br.map Value.string) ∧ (∀ x ∈ br, x.size ≤ 1000) ∧ Below w3.heap.size w3 wr) (fun ii _ => v3 - (intOf ii).toNat)
        case atStart => exact ⟨0, 0, none, [], by omega, rfl, Nat.le_refl _, hTB4, Own.nil _ _ _ hsz4, (fun x hx => by cases hx), hb4⟩
        case round =>
          obtain ⟨k, c5, A5, br, hk, rfl, hkc, hTB, hO, hbs, hbw⟩ := hrel
          by_cases hkv : k < v3
          · have hkv' : (k : Int) < v3 := by omega
            obtain ⟨v5, hv5, Hv5'⟩ := at_det A n c l (5 + (k : Int)) 11 w hl (by omega) (by omega)
            have Hv5 := Lib.hid Hv5'
            clear Hv5'
            have hv5' : v5 < 11 := by omega
            obtain ⟨x5, hx5⟩ : ∃ x5, NL[v5]? = some x5 := ⟨_, List.getElem?_eq_getElem (by have := hS3.1; omega)⟩
            have hx5s := hsmall x5 (List.mem_of_getElem? hx5)
            have hnm : ∀ wz, Below w3.heap.size w3 wz → wz.cell? ⟨bN, offN + v5, none⟩ = some (.string x5) := fun wz hz => by
              obtain ⟨b6, off6, x6, e6, hx6, _, hb6, hc6⟩ := hS3.at_ (k := v5) hv5'
              rw [hx5] at hx6
              injection hx6 with hx6
              injection e6 with e6
              injection e6 with e7 e8
              rw [← hx6, ← e7, ← e8] at hc6
              exact (hz.cell (p := ⟨bN, offN + v5, none⟩) hbN).trans hc6
            clear hx5
            go_wp2_with (go_at_call 56; go_loud (refine (Hv3.out _ (hl.below (hb3.tr hbw))).mono ?_; rintro e _ ⟨rfl, rfl⟩))
            have hbX : Below w3.heap.size w3 wr.drew := hbw.drn 1
            have hTBd : TB wr.drew P x0 v1 v2 x4 A5 k c5 := hTB.below (brefl.drn 1)
            have hOd := hO.drew
            clear hTB hO
            have hTB := hTBd
            have hO := hOd
            clear hTBd hOd
            have hS := And.intro (hnm _ hbX) hTB.t4
            have hwrap := IntWalk.i64_in (5 + (k : Int)) (by omega)
            refine wp_region_mix [(true, 0), (true, 1), (true, 2), (true, 3), (true, 4), (true, 5), (true, 6), (true, 7), (false, 8), (true, 9), (true, 10), (false, 11), (false, 12), (true, 13), (false, 14)] 14 (fun wz => wz.cell? ⟨bN, offN + v5, none⟩ = some (.string x5) ∧ wz.cell? ⟨P, 4, none⟩ = some (.slice A5 k c5)) (by kernel_rfl) (by kernel_rfl) ?_
            generalize wr.drew = wx at hbX hTB hO hS ⊢
            refine wpMix_put (v := ?_) rfl rfl (Or.inl ⟨by rfl, fun wz hz => ?_⟩) hS ?_
            rotate_left
            (focus (go_simp; try (with_reducible rfl)))
            simp only [List.setIfInBounds_toArray, List.set_cons_succ, List.set_cons_zero]
            refine wpMix_put (v := ?_) rfl rfl (Or.inl ⟨by rfl, fun wz hz => ?_⟩) hS ?_
            rotate_left
            (focus (go_simp; try (with_reducible rfl)))
            simp only [List.setIfInBounds_toArray, List.set_cons_succ, List.set_cons_zero]
            refine wpMix_put (v := ?_) rfl rfl (Or.inl ⟨by rfl, fun wz hz => ?_⟩) hS ?_
            rotate_left
            (focus (go_simp; try (with_reducible rfl)))
            simp only [List.setIfInBounds_toArray, List.set_cons_succ, List.set_cons_zero]
            refine wpMix_put (v := ?_) rfl rfl (Or.inl ⟨by rfl, fun wz hz => ?_⟩) hS ?_
            rotate_left
            (focus (go_simp; try (with_reducible rfl)))
            simp only [List.setIfInBounds_toArray, List.set_cons_succ, List.set_cons_zero]
            refine wpMix_put (v := ?_) rfl rfl (Or.inl ⟨by rfl, fun wz hz => ?_⟩) hS ?_
            rotate_left
            (focus (go_simp; try (with_reducible rfl)))
            simp only [List.setIfInBounds_toArray, List.set_cons_succ, List.set_cons_zero]
            refine wpMix_put (v := ?_) rfl rfl (Or.inl ⟨by rfl, fun wz hz => ?_⟩) hS ?_
            rotate_left
            (focus (go_simp; try (with_reducible rfl)))
            simp only [List.setIfInBounds_toArray, List.set_cons_succ, List.set_cons_zero]
            refine wpMix_put (v := ?_) rfl rfl (Or.inl ⟨by rfl, fun wz hz => ?_⟩) hS ?_
            rotate_left
            (focus (go_simp; try (with_reducible rfl)))
            simp only [List.setIfInBounds_toArray, List.set_cons_succ, List.set_cons_zero]
            refine wpMix_put (v := ?_) rfl rfl (Or.inl ⟨by rfl, fun wz hz => ?_⟩) hS ?_
            rotate_left
            (focus (go_simp; try (with_reducible rfl)))
            simp only [List.setIfInBounds_toArray, List.set_cons_succ, List.set_cons_zero]
            refine wpMix_step rfl (fun K hK => ?_)
            go_simp
            refine (Hv5.out _ (hl.below (hb3.tr hbX))).mono ?_
            rintro e _ ⟨rfl, rfl⟩
            go_simp
            refine hK _ _ (fun _ => hS) ?_
            clear hK K
            refine wpMix_put (v := ?_) rfl rfl (Or.inl ⟨by rfl, fun wz hz => ?_⟩) hS ?_
            rotate_left
            (focus (go_simp; try (with_reducible rfl)))
            simp only [List.setIfInBounds_toArray, List.set_cons_succ, List.set_cons_zero]
            refine wpMix_put (v := ?_) rfl rfl (Or.inl ⟨by rfl, fun wz hz => ?_⟩) hS ?_
            rotate_left
            (focus (go_simp; try (with_reducible rfl)))
            simp only [List.setIfInBounds_toArray, List.set_cons_succ, List.set_cons_zero]
            refine wpMix_step rfl (fun K hK => ?_)
            go_simp
            have hX2 := hbX.al (.cells #[.string x5] 9)
            have hTB2 := hTB.grown (World.grownBy_alloc _ (.cells #[.string x5] 9) none) (by simp)
            have hS7 := And.intro (hnm _ hX2) hTB2.t4
            refine hK _ _ (fun _ => hS7) ?_
            clear hK K hS
            have hS := hS7
            clear hS7
            refine wpMix_step rfl (fun K hK => ?_)
            refine step_app _ stringsT rfl (.tmp 42) (.tmp 52) rfl (hO.alloc _) rfl rfl (news := [.string x5]) rfl (Rds.one wx (.string x5) 9) (by simp [Value.oneCell']) ?_ ?_ ?_
            · omega
            · omega
            intro A9 c9 w9 o9 n9 g9 _
            go_simp
            have hX3 := hX2.gr g9 (fun q e => by have := hO.row q e; omega)
            have hne5 : some P ≠ (Value.slice A5 k c5).ownBlock := fun e => by have := hO.row P e.symm; omega
            have hTB3 := hTB2.grown g9 hne5
            have hS7 := And.intro (hnm _ hX3) hTB3.t4
            have hf4 := hTB3.fr 4
            refine hK _ _ (fun _ => hS7) ?_
            clear hK K hS
            have hS := hS7
            clear hS7
            refine wpMix_put (v := ?_) rfl rfl (Or.inl ⟨by rfl, fun wz hz => ?_⟩) hS ?_
            rotate_left
            (focus (go_simp; try (with_reducible rfl)))
            simp only [List.setIfInBounds_toArray, List.set_cons_succ, List.set_cons_zero]
            refine wpMix_step rfl (fun K hK => ?_)
            go_simp
            refine hK _ _ (fun h => absurd rfl h) ?_
            clear hK K
            refine wpMix_nil ?_
            clear hwrap
            have hTB9 := hTB3.broad A9 (k + 1) c9
            have hO9 : Own (w9.setCell ⟨P, 4, none⟩ (.slice A9 (k + 1) c9)) (P + 1) 9 1 (.slice A9 (k + 1) c9) (k + 1) ((br ++ [x5]).map Value.string) := by
              rw [List.map_append]
              exact o9.kept (grownBy_set w9 P 4 _) (apart_of fun q hq e => by have := o9.row q hq; injection e with e; omega)
            go_wp2
            go_roundw
            case rel => exact ⟨k + 1, c9, A9, br ++ [x5], by omega, by go_num, n9, hTB9, hO9, (fun x hx => by
              rcases List.mem_append.1 hx with hx | hx
              · exact hbs x hx
              · simp at hx; subst hx; exact hx5s), hX3.st (p := ⟨P, 4, none⟩) (by omega) _⟩
            case measure => simp [intOf]; omega
          · have hkv' : ¬ (k : Int) < v3 := by omega
            obtain ⟨⟨r0, r1, r2, r3, r4⟩, rf⟩ := HR.out wr hbw
            have rf0 := rf 0
            have rf1 := rf 1
            have rf2 := rf 2
            have rf3 := rf 3
            have rf4 := rf 4
            have t0 := hTB.t0
            have t1 := hTB.t1
            have t2 := hTB.t2
            have t3 := hTB.t3
            have t4 := hTB.t4
            go_wp2_with (go_at_call 56; go_loud (refine (Hv3.out _ (hl.below (hb3.tr hbw))).mono ?_; rintro e _ ⟨rfl, rfl⟩))
            have hrw : w.heap.size ≤ wr.heap.size := (hb3.tr hbw).size
            have hbF := (((((hb3.tr hbw).st (p := ⟨w.heap.size, 0, none⟩) (Nat.le_refl _) (.string x0)).st (p := ⟨w.heap.size, 1, none⟩) (Nat.le_refl _) (.int .i64 v1)).st (p := ⟨w.heap.size, 2, none⟩) (Nat.le_refl _) (.int .i64 v2)).st (p := ⟨w.heap.size, 3, none⟩) (Nat.le_refl _) (.string x4)).st (p := ⟨w.heap.size, 4, none⟩) (Nat.le_refl _) (.slice A5 k c5)
            have hOF := hO.kept (grownBy_set5 wr w.heap.size 0 1 2 3 4 (.string x0) (.int .i64 v1) (.int .i64 v2) (.string x4) (.slice A5 k c5)) (apart_of fun q hq e => by have := hO.row q hq; injection e with e; omega)
            have hmx : (1000 : Nat) ≤ maxLen := by decide
            refine bodyPost_ret (results_cellN rfl _ _ rfl (five_set r0 r1 r2 r3 r4 _ _ _ _ _) Tryz.underlying33 rfl (by kernel_rfl)) rfl ?_
            exact ⟨⟨⟨x0, v1, v2, x4, br⟩, A5, k, c5⟩, rfl, ⟨Nat.le_trans hxs0' hmx, Nat.le_trans hx4s hmx, by unfold i64ok; dsimp only; omega, by unfold i64ok; dsimp only; omega, hkc, by show k ≤ 100; omega, Strs.own hOF rfl (fun x hx => Nat.le_trans (hbs x hx) hmx)⟩, ⟨hxs0', hx4s, hbs⟩, hbF⟩
      · have h30' : ((v3 : Int) == 0) = false := by rw [beq_eq_false_iff_ne]; omega
        go_wp2_with (go_at_call 56; go_loud (refine (Hv3.out _ (hl.below (hb3.tr hbp0))).mono ?_; rintro e _ ⟨rfl, rfl⟩))
        go_loopw [7] (fun ii wr => ∃ (k c5 : Nat) (A5 : Option Addr) (br : List S), k ≤ v3 ∧ ii = .int .i64 k ∧ k ≤ c5 ∧ TB wr P x0 v1 v2 (⟨#[]⟩ : S) A5 k c5 ∧ Own wr (P + 1) 9 1 (.slice A5 k c5) k (br.map Value.string) ∧ (∀ x ∈ br, x.size ≤ 1000) ∧ Below w3.heap.size w3 wr) (fun ii _ => v3 - (intOf ii).toNat)
        case atStart => exact ⟨0, 0, none, [], by omega, rfl, Nat.le_refl _, hTB0, Own.nil _ _ _ hPz, (fun x hx => by cases hx), hbp0⟩
        case round =>
          obtain ⟨k, c5, A5, br, hk, rfl, hkc, hTB, hO, hbs, hbw⟩ := hrel
          by_cases hkv : k < v3
          · have hkv' : (k : Int) < v3 := by omega
            obtain ⟨v5, hv5, Hv5'⟩ := at_det A n c l (5 + (k : Int)) 11 w hl (by omega) (by omega)
            have Hv5 := Lib.hid Hv5'
            clear Hv5'
            have hv5' : v5 < 11 := by omega
            obtain ⟨x5, hx5⟩ : ∃ x5, NL[v5]? = some x5 := ⟨_, List.getElem?_eq_getElem (by have := hS3.1; omega)⟩
            have hx5s := hsmall x5 (List.mem_of_getElem? hx5)
            have hnm : ∀ wz, Below w3.heap.size w3 wz → wz.cell? ⟨bN, offN + v5, none⟩ = some (.string x5) := fun wz hz => by
              obtain ⟨b6, off6, x6, e6, hx6, _, hb6, hc6⟩ := hS3.at_ (k := v5) hv5'
              rw [hx5] at hx6
              injection hx6 with hx6
              injection e6 with e6
              injection e6 with e7 e8
              rw [← hx6, ← e7, ← e8] at hc6
              exact (hz.cell (p := ⟨bN, offN + v5, none⟩) hbN).trans hc6
            clear hx5
            go_wp2_with (go_at_call 56; go_loud (refine (Hv3.out _ (hl.below (hb3.tr hbw))).mono ?_; rintro e _ ⟨rfl, rfl⟩))
            have hbX : Below w3.heap.size w3 wr.drew := hbw.drn 1
            have hTBd : TB wr.drew P x0 v1 v2 (⟨#[]⟩ : S) A5 k c5 := hTB.below (brefl.drn 1)
            have hOd := hO.drew
            clear hTB hO
            have hTB := hTBd
            have hO := hOd
            clear hTBd hOd
            have hS := And.intro (hnm _ hbX) hTB.t4
            have hwrap := IntWalk.i64_in (5 + (k : Int)) (by omega)
            refine wp_region_mix [(true, 0), (true, 1), (true, 2), (true, 3), (true, 4), (true, 5), (true, 6), (true, 7), (false, 8), (true, 9), (true, 10), (false, 11), (false, 12), (true, 13), (false, 14)] 14 (fun wz => wz.cell? ⟨bN, offN + v5, none⟩ = some (.string x5) ∧ wz.cell? ⟨P, 4, none⟩ = some (.slice A5 k c5)) (by kernel_rfl) (by kernel_rfl) ?_
            generalize wr.drew = wx at hbX hTB hO hS ⊢
            refine wpMix_put (v := ?_) rfl rfl (Or.inl ⟨by rfl, fun wz hz => ?_⟩) hS ?_
            rotate_left
            (focus (go_simp; try (with_reducible rfl)))
            simp only [List.setIfInBounds_toArray, List.set_cons_succ, List.set_cons_zero]
            refine wpMix_put (v := ?_) rfl rfl (Or.inl ⟨by rfl, fun wz hz => ?_⟩) hS ?_
            rotate_left
            (focus (go_simp; try (with_reducible rfl)))
            simp only [List.setIfInBounds_toArray, List.set_cons_succ, List.set_cons_zero]
            refine wpMix_put (v := ?_) rfl rfl (Or.inl ⟨by rfl, fun wz hz => ?_⟩) hS ?_
            rotate_left
            (focus (go_simp; try (with_reducible rfl)))
            simp only [List.setIfInBounds_toArray, List.set_cons_succ, List.set_cons_zero]
            refine wpMix_put (v := ?_) rfl rfl (Or.inl ⟨by rfl, fun wz hz => ?_⟩) hS ?_
            rotate_left
            (focus (go_simp; try (with_reducible rfl)))
            simp only [List.setIfInBounds_toArray, List.set_cons_succ, List.set_cons_zero]
            refine wpMix_put (v := ?_) rfl rfl (Or.inl ⟨by rfl, fun wz hz => ?_⟩) hS ?_
            rotate_left
            (focus (go_simp; try (with_reducible rfl)))
            simp only [List.setIfInBounds_toArray, List.set_cons_succ, List.set_cons_zero]
            refine wpMix_put (v := ?_) rfl rfl (Or.inl ⟨by rfl, fun wz hz => ?_⟩) hS ?_
            rotate_left
            (focus (go_simp; try (with_reducible rfl)))
            simp only [List.setIfInBounds_toArray, List.set_cons_succ, List.set_cons_zero]
            refine wpMix_put (v := ?_) rfl rfl (Or.inl ⟨by rfl, fun wz hz => ?_⟩) hS ?_
            rotate_left
            (focus (go_simp; try (with_reducible rfl)))
            simp only [List.setIfInBounds_toArray, List.set_cons_succ, List.set_cons_zero]
            refine wpMix_put (v := ?_) rfl rfl (Or.inl ⟨by rfl, fun wz hz => ?_⟩) hS ?_
            rotate_left
            (focus (go_simp; try (with_reducible rfl)))
            simp only [List.setIfInBounds_toArray, List.set_cons_succ, List.set_cons_zero]
            refine wpMix_step rfl (fun K hK => ?_)
            go_simp
            refine (Hv5.out _ (hl.below (hb3.tr hbX))).mono ?_
            rintro e _ ⟨rfl, rfl⟩
            go_simp
            refine hK _ _ (fun _ => hS) ?_
            clear hK K
            refine wpMix_put (v := ?_) rfl rfl (Or.inl ⟨by rfl, fun wz hz => ?_⟩) hS ?_
            rotate_left
            (focus (go_simp; try (with_reducible rfl)))
            simp only [List.setIfInBounds_toArray, List.set_cons_succ, List.set_cons_zero]
            refine wpMix_put (v := ?_) rfl rfl (Or.inl ⟨by rfl, fun wz hz => ?_⟩) hS ?_
            rotate_left
            (focus (go_simp; try (with_reducible rfl)))
            simp only [List.setIfInBounds_toArray, List.set_cons_succ, List.set_cons_zero]
            refine wpMix_step rfl (fun K hK => ?_)
            go_simp
            have hX2 := hbX.al (.cells #[.string x5] 9)
            have hTB2 := hTB.grown (World.grownBy_alloc _ (.cells #[.string x5] 9) none) (by simp)
            have hS7 := And.intro (hnm _ hX2) hTB2.t4
            refine hK _ _ (fun _ => hS7) ?_
            clear hK K hS
            have hS := hS7
            clear hS7
            refine wpMix_step rfl (fun K hK => ?_)
            refine step_app _ stringsT rfl (.tmp 42) (.tmp 52) rfl (hO.alloc _) rfl rfl (news := [.string x5]) rfl (Rds.one wx (.string x5) 9) (by simp [Value.oneCell']) ?_ ?_ ?_
            · omega
            · omega
            intro A9 c9 w9 o9 n9 g9 _
            go_simp
            have hX3 := hX2.gr g9 (fun q e => by have := hO.row q e; omega)
            have hne5 : some P ≠ (Value.slice A5 k c5).ownBlock := fun e => by have := hO.row P e.symm; omega
            have hTB3 := hTB2.grown g9 hne5
            have hS7 := And.intro (hnm _ hX3) hTB3.t4
            have hf4 := hTB3.fr 4
            refine hK _ _ (fun _ => hS7) ?_
            clear hK K hS
            have hS := hS7
            clear hS7
            refine wpMix_put (v := ?_) rfl rfl (Or.inl ⟨by rfl, fun wz hz => ?_⟩) hS ?_
            rotate_left
            (focus (go_simp; try (with_reducible rfl)))
            simp only [List.setIfInBounds_toArray, List.set_cons_succ, List.set_cons_zero]
            refine wpMix_step rfl (fun K hK => ?_)
            go_simp
            refine hK _ _ (fun h => absurd rfl h) ?_
            clear hK K
            refine wpMix_nil ?_
            clear hwrap
            have hTB9 := hTB3.broad A9 (k + 1) c9
            have hO9 : Own (w9.setCell ⟨P, 4, none⟩ (.slice A9 (k + 1) c9)) (P + 1) 9 1 (.slice A9 (k + 1) c9) (k + 1) ((br ++ [x5]).map Value.string) := by
              rw [List.map_append]
              exact o9.kept (grownBy_set w9 P 4 _) (apart_of fun q hq e => by have := o9.row q hq; injection e with e; omega)
            go_wp2
            go_roundw
            case rel => exact ⟨k + 1, c9, A9, br ++ [x5], by omega, by go_num, n9, hTB9, hO9, (fun x hx => by
              rcases List.mem_append.1 hx with hx | hx
              · exact hbs x hx
              · simp at hx; subst hx; exact hx5s), hX3.st (p := ⟨P, 4, none⟩) (by omega) _⟩
            case measure => simp [intOf]; omega
          · have hkv' : ¬ (k : Int) < v3 := by omega
            obtain ⟨⟨r0, r1, r2, r3, r4⟩, rf⟩ := HR.out wr hbw
            have rf0 := rf 0
            have rf1 := rf 1
            have rf2 := rf 2
            have rf3 := rf 3
            have rf4 := rf 4
            have t0 := hTB.t0
            have t1 := hTB.t1
            have t2 := hTB.t2
            have t3 := hTB.t3
            have t4 := hTB.t4
            go_wp2_with (go_at_call 56; go_loud (refine (Hv3.out _ (hl.below (hb3.tr hbw))).mono ?_; rintro e _ ⟨rfl, rfl⟩))
            have hrw : w.heap.size ≤ wr.heap.size := (hb3.tr hbw).size
            have hbF := (((((hb3.tr hbw).st (p := ⟨w.heap.size, 0, none⟩) (Nat.le_refl _) (.string x0)).st (p := ⟨w.heap.size, 1, none⟩) (Nat.le_refl _) (.int .i64 v1)).st (p := ⟨w.heap.size, 2, none⟩) (Nat.le_refl _) (.int .i64 v2)).st (p := ⟨w.heap.size, 3, none⟩) (Nat.le_refl _) (.string (⟨#[]⟩ : S))).st (p := ⟨w.heap.size, 4, none⟩) (Nat.le_refl _) (.slice A5 k c5)
            have hOF := hO.kept (grownBy_set5 wr w.heap.size 0 1 2 3 4 (.string x0) (.int .i64 v1) (.int .i64 v2) (.string (⟨#[]⟩ : S)) (.slice A5 k c5)) (apart_of fun q hq e => by have := hO.row q hq; injection e with e; omega)
            have hmx : (1000 : Nat) ≤ maxLen := by decide
            refine bodyPost_ret (results_cellN rfl _ _ rfl (five_set r0 r1 r2 r3 r4 _ _ _ _ _) Tryz.underlying33 rfl (by kernel_rfl)) rfl ?_
            exact ⟨⟨⟨x0, v1, v2, (⟨#[]⟩ : S), br⟩, A5, k, c5⟩, rfl, ⟨Nat.le_trans hxs0' hmx, Nat.le_trans se0 hmx, by unfold i64ok; dsimp only; omega, by unfold i64ok; dsimp only; omega, hkc, by show k ≤ 100; omega, Strs.own hOF rfl (fun x hx => Nat.le_trans (hbs x hx) hmx)⟩, ⟨hxs0', se0, hbs⟩, hbF⟩
  · skip
    refine wpForced_step rfl (fun K hK => ?_)
    go_simp
    have hX2 := hbX.al (.cells #[.string ⟨#[]⟩, .int .i64 0, .int .i64 0, .string ⟨#[]⟩, .slice none 0 0] 33)
    refine hK _ _ (fun _ => hcells _ hX2) ?_
    clear hK K
    refine wpPlan_one ?_
    refine wpForced_step rfl (fun K hK => ?_)
    go_simp
    refine (Hv0.out _ (hl.below (by first | exact hb9.tr hbX | exact hb9.tr (hbX.al _)))).mono ?_
    rintro e _ ⟨rfl, rfl⟩
    go_simp
    refine hK _ _ (fun _ => hcells _ (by first | exact hbX | exact hbX.al _)) ?_
    clear hK K
    refine wpPlan_put (v := ?_) rfl rfl (Or.inl ⟨by rfl, fun wz hz => ?_⟩) (hcells _ (by first | exact hbX | exact hbX.al _)) ?_
    rotate_left
    (focus (go_simp; try (with_reducible rfl)))
    simp only [List.setIfInBounds_toArray, List.set_cons_succ, List.set_cons_zero]
    refine wpPlan_put (v := ?_) rfl rfl (Or.inl ⟨by rfl, fun wz hz => ?_⟩) (hcells _ (by first | exact hbX | exact hbX.al _)) ?_
    rotate_left
    (focus (go_simp; try (with_reducible rfl)))
    simp only [List.setIfInBounds_toArray, List.set_cons_succ, List.set_cons_zero]
    refine wpPlan_one ?_
    refine wpForced_step rfl (fun K hK => ?_)
    go_simp
    refine (Hv1.out _ (hl.below (by first | exact hb9.tr hbX | exact hb9.tr (hbX.al _)))).mono ?_
    rintro e _ ⟨rfl, rfl⟩
    go_simp
    refine hK _ _ (fun _ => hcells _ (by first | exact hbX | exact hbX.al _)) ?_
    clear hK K
    refine wpPlan_one ?_
    refine wpForced_step rfl (fun K hK => ?_)
    go_simp
    refine (Hv2.out _ (hl.below (by first | exact hb9.tr hbX | exact hb9.tr (hbX.al _)))).mono ?_
    rintro e _ ⟨rfl, rfl⟩
    go_simp
    refine hK _ _ (fun _ => hcells _ (by first | exact hbX | exact hbX.al _)) ?_
    clear hK K
    refine wpPlan_put (v := ?_) rfl rfl (Or.inl ⟨by rfl, fun wz hz => ?_⟩) (hcells _ (by first | exact hbX | exact hbX.al _)) ?_
    rotate_left
    (focus (go_simp; try (with_reducible rfl)))
    simp only [List.setIfInBounds_toArray, List.set_cons_succ, List.set_cons_zero]
    refine wpPlan_one ?_
    refine wpForced_step rfl (fun K hK => ?_)
    go_simp
    refine hK _ _ (fun h => absurd rfl h) ?_
    clear hK K
    refine wpPlan_nil ?_
    have hTB0 := tb_new (x := x0) (se := ⟨#[]⟩) (kd := v1) (lg := v2) (A := none) (n := 0) (c := 0) (t := 33) (wz := (w3.alloc (.cells #[.string x0, .int .i64 v1, .int .i64 v2, .string ⟨#[]⟩, .slice none 0 0] 33)).drew) w3 rfl (brefl.drn 1)
    have hbp0 : Below w3.heap.size w3 (w3.alloc (.cells #[.string x0, .int .i64 v1, .int .i64 v2, .string ⟨#[]⟩, .slice none 0 0] 33)).drew := (brefl.al _).drn 1
    have hPz : w3.heap.size + 1 ≤ (w3.alloc (.cells #[.string x0, .int .i64 v1, .int .i64 v2, .string ⟨#[]⟩, .slice none 0 0] 33)).drew.heap.size := Nat.le_of_eq (by simp)
    generalize (w3.alloc (.cells #[.string x0, .int .i64 v1, .int .i64 v2, .string ⟨#[]⟩, .slice none 0 0] 33)).drew = wp at hTB0 hbp0 hPz ⊢
    obtain ⟨P, hP⟩ : ∃ P, w3.heap.size = P := ⟨_, rfl⟩
    have hw3P : w3.heap.size ≤ P := Nat.le_of_eq hP
    have hwP : w.heap.size < P := by omega
    rw [hP] at hTB0 hPz ⊢
    clear hP hbX hcells
    have se0 : (⟨#[]⟩ : S).size ≤ 1000 := by decide
    by_cases h30 : v3 = 0
    · have h30' : ((v3 : Int) == 0) = true := by rw [h30]; rfl
      have hv4' : v4 < 11 := by omega
      obtain ⟨b6, off6, x4, e6, hx4, _, hb6, hc6⟩ := hS3.at_ (k := v4) hv4'
      injection e6 with e6
      injection e6 with e7 e8
      rw [← e7, ← e8] at hc6
      rw [← e7] at hb6
      have hx4s := hsmall x4 (List.mem_of_getElem? hx4)
      have hc4 := (hbp0.cell (p := ⟨bN, offN + v4, none⟩) hb6).trans hc6
      have p3 := hTB0.t3
      have pf3 := hTB0.fr 3
      clear hx4 hc6 hb6 e7 e8
      clear h30
      go_wp2_with (first
        | (go_at_call 56; (with_reducible refine (Hv3.out _ ?_).mono ?_); (focus (exact hl.below (hb3.tr hbp0))); rintro e _ ⟨rfl, rfl⟩)
        | (go_at_call 56; go_loud (refine (Hv4.out _ (hl.below (hb3.tr hbp0))).mono ?_; rintro e _ ⟨rfl, rfl⟩)))
      have hTB4 := hTB0.see x4
      have hb4 := hbp0.st (p := ⟨P, 3, none⟩) hw3P (.string x4)
      have hsz4 : P + 1 ≤ (wp.setCell ⟨P, 3, none⟩ (.string x4)).heap.size := by simpa [World.setCell] using hPz
      generalize wp.setCell ⟨P, 3, none⟩ (.string x4) = wp4 at hTB4 hb4 hsz4 ⊢
      go_loopw [7] (fun ii wr => ∃ (k c5 : Nat) (A5 : Option Addr) (br : List S), k ≤ v3 ∧ ii = .int .i64 k ∧ k ≤ c5 ∧ TB wr P x0 v1 v2 x4 A5 k c5 ∧ Own wr (P + 1) 9 1 (.slice A5 k c5) k (br.map Value.string) ∧ (∀ x ∈ br, x.size ≤ 1000) ∧ Below w3.heap.size w3 wr) (fun ii _ => v3 - (intOf ii).toNat)
      case atStart => exact ⟨0, 0, none, [], by omega, rfl, Nat.le_refl _, hTB4, Own.nil _ _ _ hsz4, (fun x hx => by cases hx), hb4⟩
      case round =>
        obtain ⟨k, c5, A5, br, hk, rfl, hkc, hTB, hO, hbs, hbw⟩ := hrel
        by_cases hkv : k < v3
        · have hkv' : (k : Int) < v3 := by omega
          obtain ⟨v5, hv5, Hv5'⟩ := at_det A n c l (5 + (k : Int)) 11 w hl (by omega) (by omega)
          have Hv5 := Lib.hid Hv5'
          clear Hv5'
          have hv5' : v5 < 11 := by omega
          obtain ⟨x5, hx5⟩ : ∃ x5, NL[v5]? = some x5 := ⟨_, List.getElem?_eq_getElem (by have := hS3.1; omega)⟩
          have hx5s := hsmall x5 (List.mem_of_getElem? hx5)
          have hnm : ∀ wz, Below w3.heap.size w3 wz → wz.cell? ⟨bN, offN + v5, none⟩ = some (.string x5) := fun wz hz => by
            obtain ⟨b6, off6, x6, e6, hx6, _, hb6, hc6⟩ := hS3.at_ (k := v5) hv5'
            rw [hx5] at hx6
            injection hx6 with hx6
            injection e6 with e6
            injection e6 with e7 e8
            rw [← hx6, ← e7, ← e8] at hc6
            exact (hz.cell (p := ⟨bN, offN + v5, none⟩) hbN).trans hc6
          clear hx5
          go_wp2_with (go_at_call 56; go_loud (refine (Hv3.out _ (hl.below (hb3.tr hbw))).mono ?_; rintro e _ ⟨rfl, rfl⟩))
          have hbX : Below w3.heap.size w3 wr.drew := hbw.drn 1
          have hTBd : TB wr.drew P x0 v1 v2 x4 A5 k c5 := hTB.below (brefl.drn 1)
          have hOd := hO.drew
          clear hTB hO
          have hTB := hTBd
          have hO := hOd
          clear hTBd hOd
          have hS := And.intro (hnm _ hbX) hTB.t4
          have hwrap := IntWalk.i64_in (5 + (k : Int)) (by omega)
          refine wp_region_mix [(true, 0), (true, 1), (true, 2), (true, 3), (true, 4), (true, 5), (true, 6), (true, 7), (false, 8), (true, 9), (true, 10), (false, 11), (false, 12), (true, 13), (false, 14)] 14 (fun wz => wz.cell? ⟨bN, offN + v5, none⟩ = some (.string x5) ∧ wz.cell? ⟨P, 4, none⟩ = some (.slice A5 k c5)) (by kernel_rfl) (by kernel_rfl) ?_
          generalize wr.drew = wx at hbX hTB hO hS ⊢
          refine wpMix_put (v := ?_) rfl rfl (Or.inl ⟨by rfl, fun wz hz => ?_⟩) hS ?_
          rotate_left
          (focus (go_simp; try (with_reducible rfl)))
          simp only [List.setIfInBounds_toArray, List.set_cons_succ, List.set_cons_zero]
          refine wpMix_put (v := ?_) rfl rfl (Or.inl ⟨by rfl, fun wz hz => ?_⟩) hS ?_
          rotate_left
          (focus (go_simp; try (with_reducible rfl)))
          simp only [List.setIfInBounds_toArray, List.set_cons_succ, List.set_cons_zero]
          refine wpMix_put (v := ?_) rfl rfl (Or.inl ⟨by rfl, fun wz hz => ?_⟩) hS ?_
          rotate_left
          (focus (go_simp; try (with_reducible rfl)))
          simp only [List.setIfInBounds_toArray, List.set_cons_succ, List.set_cons_zero]
          refine wpMix_put (v := ?_) rfl rfl (Or.inl ⟨by rfl, fun wz hz => ?_⟩) hS ?_
          rotate_left
          (focus (go_simp; try (with_reducible rfl)))
          simp only [List.setIfInBounds_toArray, List.set_cons_succ, List.set_cons_zero]
          refine wpMix_put (v := ?_) rfl rfl (Or.inl ⟨by rfl, fun wz hz => ?_⟩) hS ?_
          rotate_left
          (focus (go_simp; try (with_reducible rfl)))
          simp only [List.setIfInBounds_toArray, List.set_cons_succ, List.set_cons_zero]
          refine wpMix_put (v := ?_) rfl rfl (Or.inl ⟨by rfl, fun wz hz => ?_⟩) hS ?_
          rotate_left
          (focus (go_simp; try (with_reducible rfl)))
          simp only [List.setIfInBounds_toArray, List.set_cons_succ, List.set_cons_zero]
          refine wpMix_put (v := ?_) rfl rfl (Or.inl ⟨by rfl, fun wz hz => ?_⟩) hS ?_
          rotate_left
          (focus (go_simp; try (with_reducible rfl)))
          simp only [List.setIfInBounds_toArray, List.set_cons_succ, List.set_cons_zero]
          refine wpMix_put (v := ?_) rfl rfl (Or.inl ⟨by rfl, fun wz hz => ?_⟩) hS ?_
          rotate_left
          (focus (go_simp; try (with_reducible rfl)))
          simp only [List.setIfInBounds_toArray, List.set_cons_succ, List.set_cons_zero]
          refine wpMix_step rfl (fun K hK => ?_)
          go_simp
          refine (Hv5.out _ (hl.below (hb3.tr hbX))).mono ?_
          rintro e _ ⟨rfl, rfl⟩
          go_simp
          refine hK _ _ (fun _ => hS) ?_
          clear hK K
          refine wpMix_put (v := ?_) rfl rfl (Or.inl ⟨by rfl, fun wz hz => ?_⟩) hS ?_
          rotate_left
          (focus (go_simp; try (with_reducible rfl)))
          simp only [List.setIfInBounds_toArray, List.set_cons_succ, List.set_cons_zero]
          refine wpMix_put (v := ?_) rfl rfl (Or.inl ⟨by rfl, fun wz hz => ?_⟩) hS ?_
          rotate_left
          (focus (go_simp; try (with_reducible rfl)))
          simp only [List.setIfInBounds_toArray, List.set_cons_succ, List.set_cons_zero]
          refine wpMix_step rfl (fun K hK => ?_)
          go_simp
          have hX2 := hbX.al (.cells #[.string x5] 9)
          have hTB2 := hTB.grown (World.grownBy_alloc _ (.cells #[.string x5] 9) none) (by simp)
          have hS7 := And.intro (hnm _ hX2) hTB2.t4
          refine hK _ _ (fun _ => hS7) ?_
          clear hK K hS
          have hS := hS7
          clear hS7
          refine wpMix_step rfl (fun K hK => ?_)
          refine step_app _ stringsT rfl (.tmp 42) (.tmp 52) rfl (hO.alloc _) rfl rfl (news := [.string x5]) rfl (Rds.one wx (.string x5) 9) (by simp [Value.oneCell']) ?_ ?_ ?_
          · omega
          · omega
          intro A9 c9 w9 o9 n9 g9 _
          go_simp
          have hX3 := hX2.gr g9 (fun q e => by have := hO.row q e; omega)
          have hne5 : some P ≠ (Value.slice A5 k c5).ownBlock := fun e => by have := hO.row P e.symm; omega
          have hTB3 := hTB2.grown g9 hne5
          have hS7 := And.intro (hnm _ hX3) hTB3.t4
          have hf4 := hTB3.fr 4
          refine hK _ _ (fun _ => hS7) ?_
          clear hK K hS
          have hS := hS7
          clear hS7
          refine wpMix_put (v := ?_) rfl rfl (Or.inl ⟨by rfl, fun wz hz => ?_⟩) hS ?_
          rotate_left
          (focus (go_simp; try (with_reducible rfl)))
          simp only [List.setIfInBounds_toArray, List.set_cons_succ, List.set_cons_zero]
          refine wpMix_step rfl (fun K hK => ?_)
          go_simp
          refine hK _ _ (fun h => absurd rfl h) ?_
          clear hK K
          refine wpMix_nil ?_
          clear hwrap
          have hTB9 := hTB3.broad A9 (k + 1) c9
          have hO9 : Own (w9.setCell ⟨P, 4, none⟩ (.slice A9 (k + 1) c9)) (P + 1) 9 1 (.slice A9 (k + 1) c9) (k + 1) ((br ++ [x5]).map Value.string) := by
            rw [List.map_append]
            exact o9.kept (grownBy_set w9 P 4 _) (apart_of fun q hq e => by have := o9.row q hq; injection e with e; omega)
          go_wp2
          go_roundw
          case rel => exact ⟨k + 1, c9, A9, br ++ [x5], by omega, by go_num, n9, hTB9, hO9, (fun x hx => by
            rcases List.mem_append.1 hx with hx | hx
            · exact hbs x hx
            · simp at hx; subst hx; exact hx5s), hX3.st (p := ⟨P, 4, none⟩) (by omega) _⟩
          case measure => simp [intOf]; omega
        · have hkv' : ¬ (k : Int) < v3 := by omega
          obtain ⟨⟨r0, r1, r2, r3, r4⟩, rf⟩ := HR.out wr hbw
          have rf0 := rf 0
          have rf1 := rf 1
          have rf2 := rf 2
          have rf3 := rf 3
          have rf4 := rf 4
          have t0 := hTB.t0
          have t1 := hTB.t1
          have t2 := hTB.t2
          have t3 := hTB.t3
          have t4 := hTB.t4
          go_wp2_with (go_at_call 56; go_loud (refine (Hv3.out _ (hl.below (hb3.tr hbw))).mono ?_; rintro e _ ⟨rfl, rfl⟩))
          have hrw : w.heap.size ≤ wr.heap.size := (hb3.tr hbw).size
          have hbF := (((((hb3.tr hbw).st (p := ⟨w.heap.size, 0, none⟩) (Nat.le_refl _) (.string x0)).st (p := ⟨w.heap.size, 1, none⟩) (Nat.le_refl _) (.int .i64 v1)).st (p := ⟨w.heap.size, 2, none⟩) (Nat.le_refl _) (.int .i64 v2)).st (p := ⟨w.heap.size, 3, none⟩) (Nat.le_refl _) (.string x4)).st (p := ⟨w.heap.size, 4, none⟩) (Nat.le_refl _) (.slice A5 k c5)
          have hOF := hO.kept (grownBy_set5 wr w.heap.size 0 1 2 3 4 (.string x0) (.int .i64 v1) (.int .i64 v2) (.string x4) (.slice A5 k c5)) (apart_of fun q hq e => by have := hO.row q hq; injection e with e; omega)
          have hmx : (1000 : Nat) ≤ maxLen := by decide
          refine bodyPost_ret (results_cellN rfl _ _ rfl (five_set r0 r1 r2 r3 r4 _ _ _ _ _) Tryz.underlying33 rfl (by kernel_rfl)) rfl ?_
          exact ⟨⟨⟨x0, v1, v2, x4, br⟩, A5, k, c5⟩, rfl, ⟨Nat.le_trans hxs0' hmx, Nat.le_trans hx4s hmx, by unfold i64ok; dsimp only; omega, by unfold i64ok; dsimp only; omega, hkc, by show k ≤ 100; omega, Strs.own hOF rfl (fun x hx => Nat.le_trans (hbs x hx) hmx)⟩, ⟨hxs0', hx4s, hbs⟩, hbF⟩
    · have h30' : ((v3 : Int) == 0) = false := by rw [beq_eq_false_iff_ne]; omega
      go_wp2_with (go_at_call 56; go_loud (refine (Hv3.out _ (hl.below (hb3.tr hbp0))).mono ?_; rintro e _ ⟨rfl, rfl⟩))
      go_loopw [7] (fun ii wr => ∃ (k c5 : Nat) (A5 : Option Addr) (br : List S), k ≤ v3 ∧ ii = .int .i64 k ∧ k ≤ c5 ∧ TB wr P x0 v1 v2 (⟨#[]⟩ : S) A5 k c5 ∧ Own wr (P + 1) 9 1 (.slice A5 k c5) k (br.map Value.string) ∧ (∀ x ∈ br, x.size ≤ 1000) ∧ Below w3.heap.size w3 wr) (fun ii _ => v3 - (intOf ii).toNat)
      case atStart => exact ⟨0, 0, none, [], by omega, rfl, Nat.le_refl _, hTB0, Own.nil _ _ _ hPz, (fun x hx => by cases hx), hbp0⟩
      case round =>
        obtain ⟨k, c5, A5, br, hk, rfl, hkc, hTB, hO, hbs, hbw⟩ := hrel
        by_cases hkv : k < v3
        · have hkv' : (k : Int) < v3 := by omega
          obtain ⟨v5, hv5, Hv5'⟩ := at_det A n c l (5 + (k : Int)) 11 w hl (by omega) (by omega)
          have Hv5 := Lib.hid Hv5'
          clear Hv5'
          have hv5' : v5 < 11 := by omega
          obtain ⟨x5, hx5⟩ : ∃ x5, NL[v5]? = some x5 := ⟨_, List.getElem?_eq_getElem (by have := hS3.1; omega)⟩
          have hx5s := hsmall x5 (List.mem_of_getElem? hx5)
          have hnm : ∀ wz, Below w3.heap.size w3 wz → wz.cell? ⟨bN, offN + v5, none⟩ = some (.string x5) := fun wz hz => by
            obtain ⟨b6, off6, x6, e6, hx6, _, hb6, hc6⟩ := hS3.at_ (k := v5) hv5'
            rw [hx5] at hx6
            injection hx6 with hx6
            injection e6 with e6
            injection e6 with e7 e8
            rw [← hx6, ← e7, ← e8] at hc6
            exact (hz.cell (p := ⟨bN, offN + v5, none⟩) hbN).trans hc6
          clear hx5
          go_wp2_with (go_at_call 56; go_loud (refine (Hv3.out _ (hl.below (hb3.tr hbw))).mono ?_; rintro e _ ⟨rfl, rfl⟩))
          have hbX : Below w3.heap.size w3 wr.drew := hbw.drn 1
          have hTBd : TB wr.drew P x0 v1 v2 (⟨#[]⟩ : S) A5 k c5 := hTB.below (brefl.drn 1)
          have hOd := hO.drew
          clear hTB hO
          have hTB := hTBd
          have hO := hOd
          clear hTBd hOd
          have hS := And.intro (hnm _ hbX) hTB.t4
          have hwrap := IntWalk.i64_in (5 + (k : Int)) (by omega)
          refine wp_region_mix [(true, 0), (true, 1), (true, 2), (true, 3), (true, 4), (true, 5), (true, 6), (true, 7), (false, 8), (true, 9), (true, 10), (false, 11), (false, 12), (true, 13), (false, 14)] 14 (fun wz => wz.cell? ⟨bN, offN + v5, none⟩ = some (.string x5) ∧ wz.cell? ⟨P, 4, none⟩ = some (.slice A5 k c5)) (by kernel_rfl) (by kernel_rfl) ?_
          generalize wr.drew = wx at hbX hTB hO hS ⊢
          refine wpMix_put (v := ?_) rfl rfl (Or.inl ⟨by rfl, fun wz hz => ?_⟩) hS ?_
          rotate_left
          (focus (go_simp; try (with_reducible rfl)))
          simp only [List.setIfInBounds_toArray, List.set_cons_succ, List.set_cons_zero]
          refine wpMix_put (v := ?_) rfl rfl (Or.inl ⟨by rfl, fun wz hz => ?_⟩) hS ?_
          rotate_left
          (focus (go_simp; try (with_reducible rfl)))
          simp only [List.setIfInBounds_toArray, List.set_cons_succ, List.set_cons_zero]
          refine wpMix_put (v := ?_) rfl rfl (Or.inl ⟨by rfl, fun wz hz => ?_⟩) hS ?_
          rotate_left
          (focus (go_simp; try (with_reducible rfl)))
          simp only [List.setIfInBounds_toArray, List.set_cons_succ, List.set_cons_zero]
          refine wpMix_put (v := ?_) rfl rfl (Or.inl ⟨by rfl, fun wz hz => ?_⟩) hS ?_
          rotate_left
          (focus (go_simp; try (with_reducible rfl)))
          simp only [List.setIfInBounds_toArray, List.set_cons_succ, List.set_cons_zero]
          refine wpMix_put (v := ?_) rfl rfl (Or.inl ⟨by rfl, fun wz hz => ?_⟩) hS ?_
          rotate_left
          (focus (go_simp; try (with_reducible rfl)))
          simp only [List.setIfInBounds_toArray, List.set_cons_succ, List.set_cons_zero]
          refine wpMix_put (v := ?_) rfl rfl (Or.inl ⟨by rfl, fun wz hz => ?_⟩) hS ?_
          rotate_left
          (focus (go_simp; try (with_reducible rfl)))
          simp only [List.setIfInBounds_toArray, List.set_cons_succ, List.set_cons_zero]
          refine wpMix_put (v := ?_) rfl rfl (Or.inl ⟨by rfl, fun wz hz => ?_⟩) hS ?_
          rotate_left
          (focus (go_simp; try (with_reducible rfl)))
          simp only [List.setIfInBounds_toArray, List.set_cons_succ, List.set_cons_zero]
          refine wpMix_put (v := ?_) rfl rfl (Or.inl ⟨by rfl, fun wz hz => ?_⟩) hS ?_
          rotate_left
          (focus (go_simp; try (with_reducible rfl)))
          simp only [List.setIfInBounds_toArray, List.set_cons_succ, List.set_cons_zero]
          refine wpMix_step rfl (fun K hK => ?_)
          go_simp
          refine (Hv5.out _ (hl.below (hb3.tr hbX))).mono ?_
          rintro e _ ⟨rfl, rfl⟩
          go_simp
          refine hK _ _ (fun _ => hS) ?_
          clear hK K
          refine wpMix_put (v := ?_) rfl rfl (Or.inl ⟨by rfl, fun wz hz => ?_⟩) hS ?_
          rotate_left
          (focus (go_simp; try (with_reducible rfl)))
          simp only [List.setIfInBounds_toArray, List.set_cons_succ, List.set_cons_zero]
          refine wpMix_put (v := ?_) rfl rfl (Or.inl ⟨by rfl, fun wz hz => ?_⟩) hS ?_
          rotate_left
          (focus (go_simp; try (with_reducible rfl)))
          simp only [List.setIfInBounds_toArray, List.set_cons_succ, List.set_cons_zero]
          refine wpMix_step rfl (fun K hK => ?_)
          go_simp
          have hX2 := hbX.al (.cells #[.string x5] 9)
          have hTB2 := hTB.grown (World.grownBy_alloc _ (.cells #[.string x5] 9) none) (by simp)
          have hS7 := And.intro (hnm _ hX2) hTB2.t4
          refine hK _ _ (fun _ => hS7) ?_
          clear hK K hS
          have hS := hS7
          clear hS7
          refine wpMix_step rfl (fun K hK => ?_)
          refine step_app _ stringsT rfl (.tmp 42) (.tmp 52) rfl (hO.alloc _) rfl rfl (news := [.string x5]) rfl (Rds.one wx (.string x5) 9) (by simp [Value.oneCell']) ?_ ?_ ?_
          · omega
          · omega
          intro A9 c9 w9 o9 n9 g9 _
          go_simp
          have hX3 := hX2.gr g9 (fun q e => by have := hO.row q e; omega)
          have hne5 : some P ≠ (Value.slice A5 k c5).ownBlock := fun e => by have := hO.row P e.symm; omega
          have hTB3 := hTB2.grown g9 hne5
          have hS7 := And.intro (hnm _ hX3) hTB3.t4
          have hf4 := hTB3.fr 4
          refine hK _ _ (fun _ => hS7) ?_
          clear hK K hS
          have hS := hS7
          clear hS7
          refine wpMix_put (v := ?_) rfl rfl (Or.inl ⟨by rfl, fun wz hz => ?_⟩) hS ?_
          rotate_left
          (focus (go_simp; try (with_reducible rfl)))
          simp only [List.setIfInBounds_toArray, List.set_cons_succ, List.set_cons_zero]
          refine wpMix_step rfl (fun K hK => ?_)
          go_simp
          refine hK _ _ (fun h => absurd rfl h) ?_
          clear hK K
          refine wpMix_nil ?_
          clear hwrap
          have hTB9 := hTB3.broad A9 (k + 1) c9
          have hO9 : Own (w9.setCell ⟨P, 4, none⟩ (.slice A9 (k + 1) c9)) (P + 1) 9 1 (.slice A9 (k + 1) c9) (k + 1) ((br ++ [x5]).map Value.string) := by
            rw [List.map_append]
            exact o9.kept (grownBy_set w9 P 4 _) (apart_of fun q hq e => by have := o9.row q hq; injection e with e; omega)
          go_wp2
          go_roundw
          case rel => exact ⟨k + 1, c9, A9, br ++ [x5], by omega, by go_num, n9, hTB9, hO9, (fun x hx => by
            rcases List.mem_append.1 hx with hx | hx
            · exact hbs x hx
            · simp at hx; subst hx; exact hx5s), hX3.st (p := ⟨P, 4, none⟩) (by omega) _⟩
          case measure => simp [intOf]; omega
        · have hkv' : ¬ (k : Int) < v3 := by omega
          obtain ⟨⟨r0, r1, r2, r3, r4⟩, rf⟩ := HR.out wr hbw
          have rf0 := rf 0
          have rf1 := rf 1
          have rf2 := rf 2
          have rf3 := rf 3
          have rf4 := rf 4
          have t0 := hTB.t0
          have t1 := hTB.t1
          have t2 := hTB.t2
          have t3 := hTB.t3
          have t4 := hTB.t4
          go_wp2_with (go_at_call 56; go_loud (refine (Hv3.out _ (hl.below (hb3.tr hbw))).mono ?_; rintro e _ ⟨rfl, rfl⟩))
          have hrw : w.heap.size ≤ wr.heap.size := (hb3.tr hbw).size
          have hbF := (((((hb3.tr hbw).st (p := ⟨w.heap.size, 0, none⟩) (Nat.le_refl _) (.string x0)).st (p := ⟨w.heap.size, 1, none⟩) (Nat.le_refl _) (.int .i64 v1)).st (p := ⟨w.heap.size, 2, none⟩) (Nat.le_refl _) (.int .i64 v2)).st (p := ⟨w.heap.size, 3, none⟩) (Nat.le_refl _) (.string (⟨#[]⟩ : S))).st (p := ⟨w.heap.size, 4, none⟩) (Nat.le_refl _) (.slice A5 k c5)
          have hOF := hO.kept (grownBy_set5 wr w.heap.size 0 1 2 3 4 (.string x0) (.int .i64 v1) (.int .i64 v2) (.string (⟨#[]⟩ : S)) (.slice A5 k c5)) (apart_of fun q hq e => by have := hO.row q hq; injection e with e; omega)
          have hmx : (1000 : Nat) ≤ maxLen := by decide
          refine bodyPost_ret (results_cellN rfl _ _ rfl (five_set r0 r1 r2 r3 r4 _ _ _ _ _) Tryz.underlying33 rfl (by kernel_rfl)) rfl ?_
          exact ⟨⟨⟨x0, v1, v2, (⟨#[]⟩ : S), br⟩, A5, k, c5⟩, rfl, ⟨Nat.le_trans hxs0' hmx, Nat.le_trans se0 hmx, by unfold i64ok; dsimp only; omega, by unfold i64ok; dsimp only; omega, hkc, by show k ≤ 100; omega, Strs.own hOF rfl (fun x hx => Nat.le_trans (hbs x hx) hmx)⟩, ⟨hxs0', se0, hbs⟩, hbF⟩
end Go.Proofs.YtdfnfimajhagfaaGreatDoor
