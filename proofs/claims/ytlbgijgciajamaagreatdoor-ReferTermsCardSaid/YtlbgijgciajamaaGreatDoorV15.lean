/- The law ReferTerms, walked. -/
import Derived.Test.YtlbgijgciajamaaGreatDoorV13
import Derived.Test.YtlbgijgciajamaaGreatDoorV14
import Derived.Test.YtlbgijgciajamaaGreatDoorG4
import Derived.Test.YtlbgijgciajamaaGreatDoorP3
import Derived.Test.YtlbgijgciajamaaGreatDoorP7
import Derived.Test.YtlbgijgciajamaaGreatDoorVOf
namespace Go.Proofs.YtlbgijgciajamaaGreatDoor
open Go.RowKit Go.Maps Rf
section
variable {l : List Term} {heads : List S} {rs : List Ref}
theorem isOf_mem (h : IsOf l heads rs) : ∀ r, (vvalid l).2 = eOK → (r ∈ rs ↔ r ∈ ofAll l heads) := fun r h0 => by
  unfold IsOf at h
  rw [if_pos (show (vvalid l).2 = 0 from h0)] at h
  exact h.2 r
theorem isOf_none (h : IsOf l heads rs) (h0 : (vvalid l).2 ≠ eOK) : rs = [] := by
  unfold IsOf at h
  rwa [if_neg (show ¬ (vvalid l).2 = 0 from h0)] at h
theorem isOf_valid (h : IsOf l heads rs) : valid rs heads = (rs.length, 0) := by
  by_cases h0 : (vvalid l).2 = eOK
  · have hs : IsSortR (ofAll l heads) rs := by
      have h1 := h
      unfold IsOf at h1
      rwa [if_pos (show (vvalid l).2 = 0 from h0)] at h1
    exact of_valid (vok h0) hs.1.nodup fun r => hs.2 r
  · rw [isOf_none h h0]; rfl
theorem isOf_alias (h : IsOf l heads rs) {a x : S} {k : Nat} (ha : (aliases l x)[k]? = some a) (hx : has heads x = true) (hna : has heads a = false) : has (reach rs heads a 1) x = true :=
  of_alias (isOf_mem h) (List.mem_of_getElem? ha) hx hna
theorem isOf_reach (h : IsOf l heads rs) {a x : S} {k : Nat} (ha : (reach rs heads x 8)[k]? = some a) (hx : has heads x = true) (hne : (a.toList == x.toList) = false) : has (aboveOf l a) x = true :=
  of_reach (isOf_mem h) (isOf_none h) hx (List.mem_of_getElem? ha) (fun e => by subst e; simp at hne)
end
set_option maxRecDepth 20000 in
set_option maxHeartbeats 8000000 in
theorem terms_law (A B : Option Addr) (n c m d : Nat) (l lm : List Int) (w : World) (hr : Rdy w) (hl : Ints w A n l) (hm : Ints w B m lm) :
    Calls Tryz.prog 4 #[.slice A n c, .slice B m d] w fun e w' => e = .returned (.bool true) ∧ Below w.heap.size w w' := by
  go_enter Tryz.func4, Tryz.ntmps4
  go_wp2_with (go_at_call 5; refine (terms_any _ _ _ _ _ hl).mono ?_; rintro e wt ⟨A1, k1, c1, ms, rfl, hk1, hk8, ht1, hb1⟩)
  have hm1 := hm.below hb1
  go_loopw [6, 7] (fun o ii wr => ∃ (i m2 c2 : Nat) (A2 : Option Addr) (hs : List S), i ≤ k1 ∧ ii = .int .i64 i ∧ o = .slice A2 m2 c2 ∧ m2 ≤ c2 ∧ m2 ≤ i ∧ Own wr wt.heap.size 9 1 (.slice A2 m2 c2) m2 (hs.map Value.string) ∧ (∀ s ∈ hs, s.size ≤ maxLen) ∧ Below wt.heap.size wt wr) (fun _ ii _ => k1 - (intOf ii).toNat)
  case atStart => exact ⟨0, 0, 0, none, [], by omega, rfl, rfl, by omega, by omega, Own.nil _ _ _ (Nat.le_refl _), (fun s h => by cases h), brefl⟩
  case round =>
    obtain ⟨i, m2, c2, A2, hs, hi, rfl, rfl, hc2, hm2, ho, hsz, hbl⟩ := hrel
    by_cases hlt : i < k1
    · obtain ⟨b, off, t, rfl, hx, hok, hb0, d1, d2, d3, d4, d5⟩ := (ht1.below hbl).at_ hlt
      have hnm := hok.nm
      have hlti : (i : Int) < k1 := by omega
      have hml := hm1.below hbl
      clear hx hok d2 d3 d4 d5
      go_wp2_with (first
        | (go_at_call 6; refine (at_any _ _ _ _ _ _ _ (by omega) (by omega) hml).mono ?_; rintro e w4 ⟨⟨v7, rfl, v70, v71⟩, rfl⟩)
        | (at_builtin; refine wpList_app _ stringsT rfl (.tmp 28) (.tmp 34) rfl (ho.alloc _) rfl rfl (news := [.string t.t.name]) rfl (Rds.one wr (.string t.t.name) 9) (by simp [Value.oneCell']) ?_ ?_ ?_; (focus omega); (focus omega); intro A5 c5 w5 o5 n5 g5 _))
      · exact ⟨⟨i + 1, m2 + 1, c5, A5, hs ++ [t.t.name], by omega, by go_num, rfl, n5, by omega, by rw [List.map_append]; exact o5, (fun s h => by rcases List.mem_append.1 h with h | h; exact hsz s h; (simp at h; subst h; exact hnm)), (hbl.al (.cells #[.string t.t.name] 9)).gr g5 ho.row⟩, by simp [intOf]; omega⟩
      · exact ⟨⟨i + 1, m2, c2, A2, hs, by omega, by go_num, rfl, hc2, by omega, ho, hsz, hbl⟩, by simp [intOf]; omega⟩
    · have hik : ¬ (i : Int) < k1 := by omega
      have hbw := hb1.tr hbl
      have htk := ht1.below hbl
      have hsh := Strs.own ho rfl hsz
      have hrh := hr.below hbw
      clear ho ht1 hm1 hl hm hr
      go_wp2_with (first
        | (go_at_call 10; refine (rof_any _ _ _ _ _ _ ms hs _ (by omega) (by omega) hrh htk hsh).mono ?_; rintro e w3 ⟨A3, k3, c3, rs, rfl, hk3, hk3b, hrs, hio, hb3⟩)
        | (go_at_call 14; have hq := valid_any A3 A2 k3 m2 c3 c2 rs hs w3 (by omega) (by omega) hk3 hrs (hsh.below hb3); rw [isOf_valid hio, hrs.1] at hq; dsimp only at hq; refine hq.mono ?_; clear hq; rintro e w4 ⟨rfl, hb4⟩))
      have hb34 := hb3.tr hb4
      have hw4 := hbw.tr hb34
      replace hrs := hrs.below hb4
      replace htk := htk.below hb34
      replace hsh := hsh.below hb34
      replace hrh := hrh.below hb34
      clear hb3 hb4 hb34 hbw hbl hb1
      go_loopw [11] (fun ii wr => ∃ q : Nat, q ≤ m2 ∧ ii = .int .i64 q ∧ Below w4.heap.size w4 wr) (fun ii _ => m2 - (intOf ii).toNat)
      case atStart => exact ⟨0, by omega, rfl, brefl⟩
      case round =>
        obtain ⟨q, hq, rfl, hbq⟩ := hrel
        by_cases hlq : q < m2
        · obtain ⟨bh, oh, x, hA2, hx, hxs, hbh, hcx⟩ := (hsh.below hbq).at_ hlq
          cases hA2
          have hhx : has hs x = true := (has_iff _ _).2 (List.mem_of_getElem? hx)
          have hlq' : (q : Int) < m2 := by omega
          clear hx
          go_wp2_with (go_at_call 21; refine (aliases_any A1 k1 c1 ms x wr (by omega) (hrh.below hbq) (htk.below hbq)).mono ?_; rintro e w5 ⟨A5, k5, c5, rfl, hk5, hk5n, hs5, hb5⟩)
          have hb45 := hbq.tr hb5
          have hcx5 := (hb5.cell (p := ⟨bh, oh + q, none⟩) hbh).trans hcx
          replace hbh := Nat.lt_of_lt_of_le hbh hb5.size
          clear hcx hb5 hbq
          go_loopw [13] (fun kk wk => ∃ k : Nat, k ≤ k5 ∧ kk = .int .i64 k ∧ Below w5.heap.size w5 wk) (fun kk _ => k5 - (intOf kk).toNat)
          case atStart => exact ⟨0, by omega, rfl, brefl⟩
          case round =>
            obtain ⟨k, hk, rfl, hbk⟩ := hrel
            by_cases hlk : k < k5
            · obtain ⟨ba, oa, a, hA5, ha, has_, hba, hca⟩ := (hs5.below hbk).at_ hlk
              cases hA5
              have hcells : ∀ wz, Below wr.heap.size wr wz → wz.cell? ⟨ba, oa + k, none⟩ = some (.string a) ∧ wz.cell? ⟨bh, oh + q, none⟩ = some (.string x) := fun wz hz =>
                ⟨(hz.cell (p := ⟨ba, oa + k, none⟩) hba).trans hca, ((hbk.tr hz).cell (p := ⟨bh, oh + q, none⟩) hbh).trans hcx5⟩
              have hbc : Below wr.heap.size wr wr.drew := brefl.drn 1
              have hS := hcells _ hbc
              have hhk := hsh.below (hb45.tr hbk)
              have hrk := hrs.below (hb45.tr hbk)
              have hlk' : (k : Int) < k5 := by omega
              have hba9 := Nat.lt_of_lt_of_le hbh hbk.size
              cases hea : has hs a
              · have HR := Lib.hid (isOf_alias hio ha hhx hea)
                clear hca hcx5 ha
                go_wp2
                refine wp_region_mix [(true, 0), (true, 1), (true, 2), (true, 3), (true, 4), (false, 5), (true, 6), (true, 7), (true, 8), (true, 9), (true, 10), (true, 11), (true, 12), (true, 13), (true, 15), (true, 16), (true, 17), (true, 18), (false, 14), (false, 19), (true, 20), (true, 21)] 22 (fun wz => wz.cell? ⟨ba, oa + k, none⟩ = some (.string a) ∧ wz.cell? ⟨bh, oh + q, none⟩ = some (.string x)) (by kernel_rfl) (by kernel_rfl) ?_
                refine wpMix_put (v := ?_) rfl rfl (Or.inl ⟨by rfl, fun wz hz => ?_⟩) hS ?_
                rotate_left
                (focus (go_simp; try (with_reducible rfl)))
                simp only [List.setIfInBounds_toArray, List.set_cons_succ, List.set_cons_zero]
                refine wpMix_put (v := ?_) rfl rfl (Or.inl ⟨by rfl, fun wz hz => ?_⟩) hS ?_
                rotate_left
                (focus (go_simp; try (with_reducible rfl)))
                simp only [List.setIfInBounds_toArray, List.set_cons_succ, List.set_cons_zero]
                refine wpMix_put (v := ?_) rfl rfl (Or.inl ⟨by rfl, fun wz hz => ?_⟩) hS ?_
                rotate_left
                (focus (go_simp; try (with_reducible rfl)))
                simp only [List.setIfInBounds_toArray, List.set_cons_succ, List.set_cons_zero]
                refine wpMix_put (v := ?_) rfl rfl (Or.inl ⟨by rfl, fun wz hz => ?_⟩) hS ?_
                rotate_left
                (focus (go_simp; try (with_reducible rfl)))
                simp only [List.setIfInBounds_toArray, List.set_cons_succ, List.set_cons_zero]
                refine wpMix_put (v := ?_) rfl rfl (Or.inl ⟨by rfl, fun wz hz => ?_⟩) hS ?_
                rotate_left
                (focus (go_simp; try (with_reducible rfl)))
                simp only [List.setIfInBounds_toArray, List.set_cons_succ, List.set_cons_zero]
                refine wpMix_step rfl (fun K hK => ?_)
                go_simp
                have hq := has_any (some ⟨bh, oh, none⟩) m2 c2 _ a _ (by omega) (hhk.below hbc)
                rw [hea] at hq
                refine hq.mono ?_
                clear hq
                rintro e _ ⟨rfl, rfl⟩
                go_simp
                refine hK _ _ (fun _ => hS) ?_
                clear hK K
                refine wpMix_put (v := ?_) rfl rfl (Or.inl ⟨by rfl, fun wz hz => ?_⟩) hS ?_
                rotate_left
                (focus (go_simp; try (with_reducible rfl)))
                simp only [List.setIfInBounds_toArray, List.set_cons_succ, List.set_cons_zero]
                refine wpMix_put (v := ?_) rfl rfl (Or.inl ⟨by rfl, fun wz hz => ?_⟩) hS ?_
                rotate_left
                (focus (go_simp; try (with_reducible rfl)))
                simp only [List.setIfInBounds_toArray, List.set_cons_succ, List.set_cons_zero]
                refine wpMix_put (v := ?_) rfl rfl (Or.inl ⟨by rfl, fun wz hz => ?_⟩) hS ?_
                rotate_left
                (focus (go_simp; try (with_reducible rfl)))
                simp only [List.setIfInBounds_toArray, List.set_cons_succ, List.set_cons_zero]
                refine wpMix_put (v := ?_) rfl rfl (Or.inl ⟨by rfl, fun wz hz => ?_⟩) hS ?_
                rotate_left
                (focus (go_simp; try (with_reducible rfl)))
                simp only [List.setIfInBounds_toArray, List.set_cons_succ, List.set_cons_zero]
                refine wpMix_put (v := ?_) rfl rfl (Or.inl ⟨by rfl, fun wz hz => ?_⟩) hS ?_
                rotate_left
                (focus (go_simp; try (with_reducible rfl)))
                simp only [List.setIfInBounds_toArray, List.set_cons_succ, List.set_cons_zero]
                refine wpMix_put (v := ?_) rfl rfl (Or.inl ⟨by rfl, fun wz hz => ?_⟩) hS ?_
                rotate_left
                (focus (go_simp; try (with_reducible rfl)))
                simp only [List.setIfInBounds_toArray, List.set_cons_succ, List.set_cons_zero]
                refine wpMix_put (v := ?_) rfl rfl (Or.inl ⟨by rfl, fun wz hz => ?_⟩) hS ?_
                rotate_left
                (focus (go_simp; try (with_reducible rfl)))
                simp only [List.setIfInBounds_toArray, List.set_cons_succ, List.set_cons_zero]
                refine wpMix_put (v := ?_) rfl rfl (Or.inl ⟨by rfl, fun wz hz => ?_⟩) hS ?_
                rotate_left
                (focus (go_simp; try (with_reducible rfl)))
                simp only [List.setIfInBounds_toArray, List.set_cons_succ, List.set_cons_zero]
                refine wpMix_put (v := ?_) rfl rfl (Or.inl ⟨by rfl, fun wz hz => ?_⟩) hS ?_
                rotate_left
                (focus (go_simp; try (with_reducible rfl)))
                simp only [List.setIfInBounds_toArray, List.set_cons_succ, List.set_cons_zero]
                refine wpMix_put (v := ?_) rfl rfl (Or.inl ⟨by rfl, fun wz hz => ?_⟩) hS ?_
                rotate_left
                (focus (go_simp; try (with_reducible rfl)))
                simp only [List.setIfInBounds_toArray, List.set_cons_succ, List.set_cons_zero]
                refine wpMix_put (v := ?_) rfl rfl (Or.inl ⟨by rfl, fun wz hz => ?_⟩) hS ?_
                rotate_left
                (focus (go_simp; try (with_reducible rfl)))
                simp only [List.setIfInBounds_toArray, List.set_cons_succ, List.set_cons_zero]
                refine wpMix_put (v := ?_) rfl rfl (Or.inl ⟨by rfl, fun wz hz => ?_⟩) hS ?_
                rotate_left
                (focus (go_simp; try (with_reducible rfl)))
                simp only [List.setIfInBounds_toArray, List.set_cons_succ, List.set_cons_zero]
                refine wpMix_step rfl (fun K hK => ?_)
                go_simp
                refine (reach_any A3 (some ⟨bh, oh, none⟩) k3 m2 c3 c2 rs hs a 1 _ (by omega) (by omega) hk3 ⟨by omega, by omega⟩ (hrk.below hbc) (hhk.below hbc) has_).mono ?_
                rintro e w10 ⟨A10, k10, c10, rfl, hk10, hkn10, hs10, hbd⟩
                go_simp
                have hbc' := hbc.tr hbd
                clear hbc hbd
                have hbc := hbc'
                clear hbc'
                have hS7 := hcells _ hbc
                refine hK _ _ (fun _ => hS7) ?_
                clear hK K hS
                have hS := hS7
                clear hS7
                refine wpMix_step rfl (fun K hK => ?_)
                go_simp
                have hq := has_any A10 k10 c10 _ x _ (by omega) hs10
                rw [HR.out] at hq
                refine hq.mono ?_
                clear hq
                rintro e _ ⟨rfl, rfl⟩
                go_simp
                refine hK _ _ (fun _ => hS) ?_
                clear hK K hs10
                refine wpMix_put (v := ?_) rfl rfl (Or.inl ⟨by rfl, fun wz hz => ?_⟩) hS ?_
                rotate_left
                (focus (go_simp; try (with_reducible rfl)))
                simp only [List.setIfInBounds_toArray, List.set_cons_succ, List.set_cons_zero]
                refine wpMix_put (v := ?_) rfl rfl (Or.inl ⟨by rfl, fun wz hz => ?_⟩) hS ?_
                rotate_left
                (focus (go_simp; try (with_reducible rfl)))
                simp only [List.setIfInBounds_toArray, List.set_cons_succ, List.set_cons_zero]
                refine wpMix_nil ?_
                go_wp2
                go_roundw
                case rel => exact ⟨k + 1, by omega, by go_num, hbk.tr hbc⟩
                case measure => simp [intOf]; omega
              · clear hca hcx5 ha
                go_wp2
                refine wp_region_mix [(true, 0), (true, 1), (true, 2), (true, 3), (true, 4), (false, 5), (true, 6), (true, 7), (true, 8), (true, 9), (true, 10), (true, 11), (true, 12), (true, 13), (true, 14), (true, 15), (true, 16), (true, 17), (true, 18), (true, 19), (true, 20), (true, 21)] 22 (fun wz => wz.cell? ⟨ba, oa + k, none⟩ = some (.string a) ∧ wz.cell? ⟨bh, oh + q, none⟩ = some (.string x)) (by kernel_rfl) (by kernel_rfl) ?_
                refine wpMix_put (v := ?_) rfl rfl (Or.inl ⟨by rfl, fun wz hz => ?_⟩) hS ?_
                rotate_left
                (focus (go_simp; try (with_reducible rfl)))
                simp only [List.setIfInBounds_toArray, List.set_cons_succ, List.set_cons_zero]
                refine wpMix_put (v := ?_) rfl rfl (Or.inl ⟨by rfl, fun wz hz => ?_⟩) hS ?_
                rotate_left
                (focus (go_simp; try (with_reducible rfl)))
                simp only [List.setIfInBounds_toArray, List.set_cons_succ, List.set_cons_zero]
                refine wpMix_put (v := ?_) rfl rfl (Or.inl ⟨by rfl, fun wz hz => ?_⟩) hS ?_
                rotate_left
                (focus (go_simp; try (with_reducible rfl)))
                simp only [List.setIfInBounds_toArray, List.set_cons_succ, List.set_cons_zero]
                refine wpMix_put (v := ?_) rfl rfl (Or.inl ⟨by rfl, fun wz hz => ?_⟩) hS ?_
                rotate_left
                (focus (go_simp; try (with_reducible rfl)))
                simp only [List.setIfInBounds_toArray, List.set_cons_succ, List.set_cons_zero]
                refine wpMix_put (v := ?_) rfl rfl (Or.inl ⟨by rfl, fun wz hz => ?_⟩) hS ?_
                rotate_left
                (focus (go_simp; try (with_reducible rfl)))
                simp only [List.setIfInBounds_toArray, List.set_cons_succ, List.set_cons_zero]
                refine wpMix_step rfl (fun K hK => ?_)
                go_simp
                have hq := has_any (some ⟨bh, oh, none⟩) m2 c2 _ a _ (by omega) (hhk.below hbc)
                rw [hea] at hq
                refine hq.mono ?_
                clear hq
                rintro e _ ⟨rfl, rfl⟩
                go_simp
                refine hK _ _ (fun _ => hS) ?_
                clear hK K
                refine wpMix_put (v := ?_) rfl rfl (Or.inl ⟨by rfl, fun wz hz => ?_⟩) hS ?_
                rotate_left
                (focus (go_simp; try (with_reducible rfl)))
                simp only [List.setIfInBounds_toArray, List.set_cons_succ, List.set_cons_zero]
                refine wpMix_put (v := ?_) rfl rfl (Or.inl ⟨by rfl, fun wz hz => ?_⟩) hS ?_
                rotate_left
                (focus (go_simp; try (with_reducible rfl)))
                simp only [List.setIfInBounds_toArray, List.set_cons_succ, List.set_cons_zero]
                refine wpMix_put (v := undef) rfl rfl (Or.inr ⟨by rfl, rfl⟩) hS ?_
                simp only [List.setIfInBounds_toArray, List.set_cons_succ, List.set_cons_zero]
                refine wpMix_put (v := undef) rfl rfl (Or.inr ⟨by rfl, rfl⟩) hS ?_
                simp only [List.setIfInBounds_toArray, List.set_cons_succ, List.set_cons_zero]
                refine wpMix_put (v := undef) rfl rfl (Or.inr ⟨by rfl, rfl⟩) hS ?_
                simp only [List.setIfInBounds_toArray, List.set_cons_succ, List.set_cons_zero]
                refine wpMix_put (v := undef) rfl rfl (Or.inr ⟨by rfl, rfl⟩) hS ?_
                simp only [List.setIfInBounds_toArray, List.set_cons_succ, List.set_cons_zero]
                refine wpMix_put (v := undef) rfl rfl (Or.inr ⟨by rfl, rfl⟩) hS ?_
                simp only [List.setIfInBounds_toArray, List.set_cons_succ, List.set_cons_zero]
                refine wpMix_put (v := undef) rfl rfl (Or.inr ⟨by rfl, rfl⟩) hS ?_
                simp only [List.setIfInBounds_toArray, List.set_cons_succ, List.set_cons_zero]
                refine wpMix_put (v := undef) rfl rfl (Or.inr ⟨by rfl, rfl⟩) hS ?_
                simp only [List.setIfInBounds_toArray, List.set_cons_succ, List.set_cons_zero]
                refine wpMix_put (v := undef) rfl rfl (Or.inr ⟨by rfl, rfl⟩) hS ?_
                simp only [List.setIfInBounds_toArray, List.set_cons_succ, List.set_cons_zero]
                refine wpMix_put (v := undef) rfl rfl (Or.inr ⟨by rfl, rfl⟩) hS ?_
                simp only [List.setIfInBounds_toArray, List.set_cons_succ, List.set_cons_zero]
                refine wpMix_put (v := undef) rfl rfl (Or.inr ⟨by rfl, rfl⟩) hS ?_
                simp only [List.setIfInBounds_toArray, List.set_cons_succ, List.set_cons_zero]
                refine wpMix_put (v := undef) rfl rfl (Or.inr ⟨by rfl, rfl⟩) hS ?_
                simp only [List.setIfInBounds_toArray, List.set_cons_succ, List.set_cons_zero]
                refine wpMix_put (v := undef) rfl rfl (Or.inr ⟨by rfl, rfl⟩) hS ?_
                simp only [List.setIfInBounds_toArray, List.set_cons_succ, List.set_cons_zero]
                refine wpMix_put (v := undef) rfl rfl (Or.inr ⟨by rfl, rfl⟩) hS ?_
                simp only [List.setIfInBounds_toArray, List.set_cons_succ, List.set_cons_zero]
                refine wpMix_put (v := ?_) rfl rfl (Or.inl ⟨by rfl, fun wz hz => ?_⟩) hS ?_
                rotate_left
                (focus (go_simp; try (with_reducible rfl)))
                simp only [List.setIfInBounds_toArray, List.set_cons_succ, List.set_cons_zero]
                refine wpMix_nil ?_
                go_wp2
                go_roundw
                case rel => exact ⟨k + 1, by omega, by go_num, hbk.tr hbc⟩
                case measure => simp [intOf]; omega
            · have hlk' : ¬ (k : Int) < k5 := by omega
              have hb4k := hb45.tr hbk
              have hcxk := (hbk.cell (p := ⟨bh, oh + q, none⟩) hbh).trans hcx5
              replace hbh := Nat.lt_of_lt_of_le hbh hbk.size
              go_wp2_with (go_at_call 23; refine (reach_any A3 (some ⟨bh, oh, none⟩) k3 m2 c3 c2 rs hs x 8 wr (by omega) (by omega) hk3 ⟨by omega, by omega⟩ (hrs.below hb4k) (hsh.below hb4k) hxs).mono ?_; rintro e w6 ⟨A6, k6, c6, rfl, hk6, hkn6, hs6, hb6⟩)
              have hb46 := hb4k.tr hb6
              have hcx6 := (hb6.cell (p := ⟨bh, oh + q, none⟩) hbh).trans hcxk
              replace hbh := Nat.lt_of_lt_of_le hbh hb6.size
              clear hcxk hb6 hb4k hbk hcx5 hb45
              go_loopw [15] (fun kk wk => ∃ k : Nat, k ≤ k6 ∧ kk = .int .i64 k ∧ Below w6.heap.size w6 wk) (fun kk _ => k6 - (intOf kk).toNat)
              case atStart => exact ⟨0, by omega, rfl, brefl⟩
              case round =>
                obtain ⟨k, hk, rfl, hbk⟩ := hrel
                by_cases hlk : k < k6
                · obtain ⟨ba, oa, a, hA6, ha, has_, hba, hca⟩ := (hs6.below hbk).at_ hlk
                  cases hA6
                  have hcells : ∀ wz, Below wr.heap.size wr wz → wz.cell? ⟨ba, oa + k, none⟩ = some (.string a) ∧ wz.cell? ⟨bh, oh + q, none⟩ = some (.string x) := fun wz hz =>
                    ⟨(hz.cell (p := ⟨ba, oa + k, none⟩) hba).trans hca, ((hbk.tr hz).cell (p := ⟨bh, oh + q, none⟩) hbh).trans hcx6⟩
                  have hbc : Below wr.heap.size wr wr.drew := brefl.drn 1
                  have hS := hcells _ hbc
                  have htq := htk.below (hb46.tr hbk)
                  have hryk := hrh.below (hb46.tr hbk)
                  have hlk' : (k : Int) < k6 := by omega
                  cases he : (a.toList == x.toList)
                  · have HR := Lib.hid (isOf_reach hio ha hhx he)
                    clear hca hcx6 ha
                    go_wp2
                    refine wp_region_mix [(true, 0), (true, 1), (true, 2), (true, 3), (true, 4), (true, 5), (true, 6), (true, 7), (true, 8), (true, 9), (true, 10), (true, 11), (true, 12), (true, 13), (true, 14), (true, 16), (true, 17), (true, 18), (true, 19), (false, 15), (false, 20), (true, 21), (true, 22)] 23 (fun wz => wz.cell? ⟨ba, oa + k, none⟩ = some (.string a) ∧ wz.cell? ⟨bh, oh + q, none⟩ = some (.string x)) (by kernel_rfl) (by kernel_rfl) ?_
                    refine wpMix_put (v := ?_) rfl rfl (Or.inl ⟨by rfl, fun wz hz => ?_⟩) hS ?_
                    rotate_left
                    (focus (go_simp; try (with_reducible rfl)))
                    simp only [List.setIfInBounds_toArray, List.set_cons_succ, List.set_cons_zero]
                    refine wpMix_put (v := ?_) rfl rfl (Or.inl ⟨by rfl, fun wz hz => ?_⟩) hS ?_
                    rotate_left
                    (focus (go_simp; try (with_reducible rfl)))
                    simp only [List.setIfInBounds_toArray, List.set_cons_succ, List.set_cons_zero]
                    refine wpMix_put (v := ?_) rfl rfl (Or.inl ⟨by rfl, fun wz hz => ?_⟩) hS ?_
                    rotate_left
                    (focus (go_simp; try (with_reducible rfl)))
                    simp only [List.setIfInBounds_toArray, List.set_cons_succ, List.set_cons_zero]
                    refine wpMix_put (v := ?_) rfl rfl (Or.inl ⟨by rfl, fun wz hz => ?_⟩) hS ?_
                    rotate_left
                    (focus (go_simp; try (with_reducible rfl)))
                    simp only [List.setIfInBounds_toArray, List.set_cons_succ, List.set_cons_zero]
                    refine wpMix_put (v := ?_) rfl rfl (Or.inl ⟨by rfl, fun wz hz => ?_⟩) hS ?_
                    rotate_left
                    (focus (go_simp; try (with_reducible rfl)))
                    simp only [List.setIfInBounds_toArray, List.set_cons_succ, List.set_cons_zero]
                    refine wpMix_put (v := ?_) rfl rfl (Or.inl ⟨by rfl, fun wz hz => ?_⟩) hS ?_
                    rotate_left
                    (focus (go_simp; try (with_reducible rfl)))
                    simp only [List.setIfInBounds_toArray, List.set_cons_succ, List.set_cons_zero]
                    refine wpMix_put (v := ?_) rfl rfl (Or.inl ⟨by rfl, fun wz hz => ?_⟩) hS ?_
                    rotate_left
                    (focus (go_simp; try (with_reducible rfl)))
                    simp only [List.setIfInBounds_toArray, List.set_cons_succ, List.set_cons_zero]
                    refine wpMix_put (v := ?_) rfl rfl (Or.inl ⟨by rfl, fun wz hz => ?_⟩) hS ?_
                    rotate_left
                    (focus (go_simp; try (with_reducible rfl)))
                    simp only [List.setIfInBounds_toArray, List.set_cons_succ, List.set_cons_zero]
                    refine wpMix_put (v := ?_) rfl rfl (Or.inl ⟨by rfl, fun wz hz => ?_⟩) hS ?_
                    rotate_left
                    (focus (go_simp; try (with_reducible rfl)))
                    simp only [List.setIfInBounds_toArray, List.set_cons_succ, List.set_cons_zero]
                    refine wpMix_put (v := ?_) rfl rfl (Or.inl ⟨by rfl, fun wz hz => ?_⟩) hS ?_
                    rotate_left
                    (focus (go_simp; try (with_reducible rfl)))
                    simp only [List.setIfInBounds_toArray, List.set_cons_succ, List.set_cons_zero]
                    refine wpMix_put (v := ?_) rfl rfl (Or.inl ⟨by rfl, fun wz hz => ?_⟩) hS ?_
                    rotate_left
                    (focus (go_simp; try (with_reducible rfl)))
                    simp only [List.setIfInBounds_toArray, List.set_cons_succ, List.set_cons_zero]
                    refine wpMix_put (v := ?_) rfl rfl (Or.inl ⟨by rfl, fun wz hz => ?_⟩) hS ?_
                    rotate_left
                    (focus (go_simp; try (with_reducible rfl)))
                    simp only [List.setIfInBounds_toArray, List.set_cons_succ, List.set_cons_zero]
                    refine wpMix_put (v := ?_) rfl rfl (Or.inl ⟨by rfl, fun wz hz => ?_⟩) hS ?_
                    rotate_left
                    (focus (go_simp; try (with_reducible rfl)))
                    simp only [List.setIfInBounds_toArray, List.set_cons_succ, List.set_cons_zero]
                    refine wpMix_put (v := ?_) rfl rfl (Or.inl ⟨by rfl, fun wz hz => ?_⟩) hS ?_
                    rotate_left
                    (focus (go_simp; try (with_reducible rfl)))
                    simp only [List.setIfInBounds_toArray, List.set_cons_succ, List.set_cons_zero]
                    refine wpMix_put (v := ?_) rfl rfl (Or.inl ⟨by rfl, fun wz hz => ?_⟩) hS ?_
                    rotate_left
                    (focus (go_simp; try (with_reducible rfl)))
                    simp only [List.setIfInBounds_toArray, List.set_cons_succ, List.set_cons_zero]
                    refine wpMix_put (v := ?_) rfl rfl (Or.inl ⟨by rfl, fun wz hz => ?_⟩) hS ?_
                    rotate_left
                    (focus (go_simp; try (with_reducible rfl)))
                    simp only [List.setIfInBounds_toArray, List.set_cons_succ, List.set_cons_zero]
                    refine wpMix_put (v := ?_) rfl rfl (Or.inl ⟨by rfl, fun wz hz => ?_⟩) hS ?_
                    rotate_left
                    (focus (go_simp; try (with_reducible rfl)))
                    simp only [List.setIfInBounds_toArray, List.set_cons_succ, List.set_cons_zero]
                    refine wpMix_put (v := ?_) rfl rfl (Or.inl ⟨by rfl, fun wz hz => ?_⟩) hS ?_
                    rotate_left
                    (focus (go_simp; try (with_reducible rfl)))
                    simp only [List.setIfInBounds_toArray, List.set_cons_succ, List.set_cons_zero]
                    refine wpMix_put (v := ?_) rfl rfl (Or.inl ⟨by rfl, fun wz hz => ?_⟩) hS ?_
                    rotate_left
                    (focus (go_simp; try (with_reducible rfl)))
                    simp only [List.setIfInBounds_toArray, List.set_cons_succ, List.set_cons_zero]
                    refine wpMix_step rfl (fun K hK => ?_)
                    go_simp
                    refine (aboveOf_any A1 k1 c1 ms a _ (by omega) (hryk.below hbc) (htq.below hbc)).mono ?_
                    rintro e w10 ⟨A10, k10, c10, rfl, hk10, hs10, hbd⟩
                    go_simp
                    have hbc' := hbc.tr hbd
                    clear hbc hbd
                    have hbc := hbc'
                    clear hbc'
                    have hS7 := hcells _ hbc
                    refine hK _ _ (fun _ => hS7) ?_
                    clear hK K hS
                    have hS := hS7
                    clear hS7
                    refine wpMix_step rfl (fun K hK => ?_)
                    go_simp
                    have hq := has_any A10 k10 c10 _ x _ (by omega) hs10
                    rw [HR.out] at hq
                    refine hq.mono ?_
                    clear hq
                    rintro e _ ⟨rfl, rfl⟩
                    go_simp
                    refine hK _ _ (fun _ => hS) ?_
                    clear hK K hs10
                    refine wpMix_put (v := ?_) rfl rfl (Or.inl ⟨by rfl, fun wz hz => ?_⟩) hS ?_
                    rotate_left
                    (focus (go_simp; try (with_reducible rfl)))
                    simp only [List.setIfInBounds_toArray, List.set_cons_succ, List.set_cons_zero]
                    refine wpMix_put (v := ?_) rfl rfl (Or.inl ⟨by rfl, fun wz hz => ?_⟩) hS ?_
                    rotate_left
                    (focus (go_simp; try (with_reducible rfl)))
                    simp only [List.setIfInBounds_toArray, List.set_cons_succ, List.set_cons_zero]
                    refine wpMix_nil ?_
                    go_wp2
                    go_roundw
                    case rel => exact ⟨k + 1, by omega, by go_num, hbk.tr hbc⟩
                    case measure => simp [intOf]; omega
                  · clear hca hcx6 ha
                    go_wp2
                    refine wp_region_mix [(true, 0), (true, 1), (true, 2), (true, 3), (true, 4), (true, 5), (true, 6), (true, 7), (true, 8), (true, 9), (true, 10), (true, 11), (true, 12), (true, 13), (true, 14), (true, 15), (true, 16), (true, 17), (true, 18), (true, 19), (true, 20), (true, 21), (true, 22)] 23 (fun wz => wz.cell? ⟨ba, oa + k, none⟩ = some (.string a) ∧ wz.cell? ⟨bh, oh + q, none⟩ = some (.string x)) (by kernel_rfl) (by kernel_rfl) ?_
                    refine wpMix_put (v := ?_) rfl rfl (Or.inl ⟨by rfl, fun wz hz => ?_⟩) hS ?_
                    rotate_left
                    (focus (go_simp; try (with_reducible rfl)))
                    simp only [List.setIfInBounds_toArray, List.set_cons_succ, List.set_cons_zero]
                    refine wpMix_put (v := ?_) rfl rfl (Or.inl ⟨by rfl, fun wz hz => ?_⟩) hS ?_
                    rotate_left
                    (focus (go_simp; try (with_reducible rfl)))
                    simp only [List.setIfInBounds_toArray, List.set_cons_succ, List.set_cons_zero]
                    refine wpMix_put (v := ?_) rfl rfl (Or.inl ⟨by rfl, fun wz hz => ?_⟩) hS ?_
                    rotate_left
                    (focus (go_simp; try (with_reducible rfl)))
                    simp only [List.setIfInBounds_toArray, List.set_cons_succ, List.set_cons_zero]
                    refine wpMix_put (v := ?_) rfl rfl (Or.inl ⟨by rfl, fun wz hz => ?_⟩) hS ?_
                    rotate_left
                    (focus (go_simp; try (with_reducible rfl)))
                    simp only [List.setIfInBounds_toArray, List.set_cons_succ, List.set_cons_zero]
                    refine wpMix_put (v := ?_) rfl rfl (Or.inl ⟨by rfl, fun wz hz => ?_⟩) hS ?_
                    rotate_left
                    (focus (go_simp; try (with_reducible rfl)))
                    simp only [List.setIfInBounds_toArray, List.set_cons_succ, List.set_cons_zero]
                    refine wpMix_put (v := ?_) rfl rfl (Or.inl ⟨by rfl, fun wz hz => ?_⟩) hS ?_
                    rotate_left
                    (focus (go_simp; try (with_reducible rfl)))
                    simp only [List.setIfInBounds_toArray, List.set_cons_succ, List.set_cons_zero]
                    refine wpMix_put (v := ?_) rfl rfl (Or.inl ⟨by rfl, fun wz hz => ?_⟩) hS ?_
                    rotate_left
                    (focus (go_simp; try (with_reducible rfl)))
                    simp only [List.setIfInBounds_toArray, List.set_cons_succ, List.set_cons_zero]
                    refine wpMix_put (v := ?_) rfl rfl (Or.inl ⟨by rfl, fun wz hz => ?_⟩) hS ?_
                    rotate_left
                    (focus (go_simp; try (with_reducible rfl)))
                    simp only [List.setIfInBounds_toArray, List.set_cons_succ, List.set_cons_zero]
                    refine wpMix_put (v := ?_) rfl rfl (Or.inl ⟨by rfl, fun wz hz => ?_⟩) hS ?_
                    rotate_left
                    (focus (go_simp; try (with_reducible rfl)))
                    simp only [List.setIfInBounds_toArray, List.set_cons_succ, List.set_cons_zero]
                    refine wpMix_put (v := ?_) rfl rfl (Or.inl ⟨by rfl, fun wz hz => ?_⟩) hS ?_
                    rotate_left
                    (focus (go_simp; try (with_reducible rfl)))
                    simp only [List.setIfInBounds_toArray, List.set_cons_succ, List.set_cons_zero]
                    refine wpMix_put (v := undef) rfl rfl (Or.inr ⟨by rfl, rfl⟩) hS ?_
                    simp only [List.setIfInBounds_toArray, List.set_cons_succ, List.set_cons_zero]
                    refine wpMix_put (v := undef) rfl rfl (Or.inr ⟨by rfl, rfl⟩) hS ?_
                    simp only [List.setIfInBounds_toArray, List.set_cons_succ, List.set_cons_zero]
                    refine wpMix_put (v := undef) rfl rfl (Or.inr ⟨by rfl, rfl⟩) hS ?_
                    simp only [List.setIfInBounds_toArray, List.set_cons_succ, List.set_cons_zero]
                    refine wpMix_put (v := undef) rfl rfl (Or.inr ⟨by rfl, rfl⟩) hS ?_
                    simp only [List.setIfInBounds_toArray, List.set_cons_succ, List.set_cons_zero]
                    refine wpMix_put (v := undef) rfl rfl (Or.inr ⟨by rfl, rfl⟩) hS ?_
                    simp only [List.setIfInBounds_toArray, List.set_cons_succ, List.set_cons_zero]
                    refine wpMix_put (v := undef) rfl rfl (Or.inr ⟨by rfl, rfl⟩) hS ?_
                    simp only [List.setIfInBounds_toArray, List.set_cons_succ, List.set_cons_zero]
                    refine wpMix_put (v := undef) rfl rfl (Or.inr ⟨by rfl, rfl⟩) hS ?_
                    simp only [List.setIfInBounds_toArray, List.set_cons_succ, List.set_cons_zero]
                    refine wpMix_put (v := undef) rfl rfl (Or.inr ⟨by rfl, rfl⟩) hS ?_
                    simp only [List.setIfInBounds_toArray, List.set_cons_succ, List.set_cons_zero]
                    refine wpMix_put (v := undef) rfl rfl (Or.inr ⟨by rfl, rfl⟩) hS ?_
                    simp only [List.setIfInBounds_toArray, List.set_cons_succ, List.set_cons_zero]
                    refine wpMix_put (v := undef) rfl rfl (Or.inr ⟨by rfl, rfl⟩) hS ?_
                    simp only [List.setIfInBounds_toArray, List.set_cons_succ, List.set_cons_zero]
                    refine wpMix_put (v := undef) rfl rfl (Or.inr ⟨by rfl, rfl⟩) hS ?_
                    simp only [List.setIfInBounds_toArray, List.set_cons_succ, List.set_cons_zero]
                    refine wpMix_put (v := undef) rfl rfl (Or.inr ⟨by rfl, rfl⟩) hS ?_
                    simp only [List.setIfInBounds_toArray, List.set_cons_succ, List.set_cons_zero]
                    refine wpMix_put (v := ?_) rfl rfl (Or.inl ⟨by rfl, fun wz hz => ?_⟩) hS ?_
                    rotate_left
                    (focus (go_simp; try (with_reducible rfl)))
                    simp only [List.setIfInBounds_toArray, List.set_cons_succ, List.set_cons_zero]
                    refine wpMix_nil ?_
                    go_wp2
                    go_roundw
                    case rel => exact ⟨k + 1, by omega, by go_num, hbk.tr hbc⟩
                    case measure => simp [intOf]; omega
                · have hlk' : ¬ (k : Int) < k6 := by omega
                  go_wp2
                  go_roundw
                  case rel => exact ⟨q + 1, by omega, by go_num, hb46.tr hbk⟩
                  case measure => simp [intOf]; omega
        · have hlq' : ¬ (q : Int) < m2 := by omega
          have hbw := hw4.tr hbq
          go_wp2_with (go_at_call 20; refine (lives_any wr).mono ?_; rintro e w14 ⟨rfl, b14⟩)
          go_ret
          exact ⟨rfl, hbw.tr b14⟩
end Go.Proofs.YtlbgijgciajamaaGreatDoor
