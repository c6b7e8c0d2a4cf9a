/- Walk of package refer: Reach. -/
import Derived.Test.YtdfnfimajhagfaaGreatDoorP6
import Derived.Test.YtdfnfimajhagfaaGreatDoorW4
namespace Go.Proofs.YtdfnfimajhagfaaGreatDoor
open Go.RowKit Go.Maps Go.Sort Rf
theorem nodup_byts {l : List S} (h : l.Nodup) : (l.map byts).Nodup := (List.pairwise_map.2 (h.imp fun hne e => hne (byts_inj e)))
theorem sort_any {A : Option Addr} {n c base : Nat} {l : List S} {w : World} (hm : n ≤ 1000000) (ho : Own w base 9 1 (.slice A n c) n (l.map Value.string)) :
    Calls Tryz.prog 90 #[.slice A n c] w fun e w' => e = .returned (.tuple #[]) ∧ Own w' base 9 1 (.slice A n c) n (((msort (l.map byts)).map ofB).map Value.string) ∧ w.grownBy w' (Value.slice A n c).ownBlock := by
  have hll : l.length = n := by have := ho.1.1; simpa using this
  rcases Nat.eq_zero_or_pos n with h0 | h0
  · subst h0
    obtain rfl : l = [] := List.eq_nil_of_length_eq_zero hll
    refine (Tryz.slices_Sort_string_none A c w).mono ?_
    rintro e w' ⟨rfl, rfl⟩
    refine ⟨rfl, ?_, World.grownBy.refl _ _⟩
    have : msort (([] : List S).map byts) = [] := List.eq_nil_of_length_eq_zero (by rw [msort_length]; rfl)
    rw [this]; exact ho
  · obtain ⟨hrow, hbase⟩ := ho
    rcases hrow.2 with ⟨_, h⟩ | ⟨g, cap, cur, hv, hbg, hb, h1, h2, h3, h4⟩
    · omega
    · injection hv with hA _ hc
      subst hA
      subst hc
      rw [enc_byts, Nat.mul_one] at h4
      have hlen : (l.map byts).length = n := by simpa using hll
      have hH : Holds encStr w g 0 (l.map byts).toArray := holds_of_block hb (by rw [hlen]; exact h4)
      have hc := Tryz.slices_Sort_string g 0 c (l.map byts) w hH (Array.getElem?_eq_some_iff.1 hb).1 (by simp; omega)
      rw [hlen] at hc
      refine hc.mono ?_
      rintro e w' ⟨rfl, q, os, rfl⟩
      have hms : ((l.map byts).mergeSort fun x y => decide (x ≤ y)) = msort (l.map byts) := by
        unfold msort
        congr 1
        funext x y
        rw [le_eq]; rfl
      rw [hms]
      have hlm : (msort (l.map byts)).length = (l.map byts).length := msort_length _
      refine ⟨rfl, ⟨?_, ?_⟩, grownBy_sorted _⟩
      · have := ownsRow_sorted (n := q) (os := os) hlm hbg hb (by rw [hlen]; exact h1) h2 h3
        rw [hlen] at this
        rw [← enc_ofB]
        exact this
      · exact Nat.le_trans hbase (grownBy_sorted (n := q) (os := os) (g := g) (msort (l.map byts)).toArray (w := w)).size
set_option maxRecDepth 20000 in
set_option maxHeartbeats 4000000 in
theorem reach_any (A B : Option Addr) (n m c d : Nat) (l : List Ref) (heads : List S) (frm : S) (most : Int) (w : World) (hm : n ≤ 100000) (hmh : m ≤ 100000) (hc : n ≤ c) (hmo : i64ok most) (hl : Refs w A n l) (hh : Strs w B m heads) (hf : frm.size ≤ maxLen) :
    Calls Tryz.prog 123 #[.slice A n c, .slice B m d, .string frm, .int .i64 most] w fun e w' =>
      ∃ A' k c', e = .returned (.slice A' k c') ∧ k ≤ c' ∧ k ≤ n + 1 ∧ Strs w' A' k (reach l heads frm most) ∧ Below w.heap.size w w' := by
  obtain ⟨hmo1, hmo2⟩ := hmo
  go_enter Tryz.func123, Tryz.ntmps123
  go_wp2_with (first
    | (go_at_call 112; refine (of_any _ _ _ _ _ _ _ _ _ hm hmh hc hl hh).mono ?_; rintro e w1 ⟨g, hb, sb, rfl, hg1, hg2, hg3⟩)
    | (go_at_call 156; refine (from_any _ _ _ _ _ _ _ hm hg2.gl hf).mono ?_; rintro e w2 ⟨b, rfl, hf2, hb2, hb12⟩)
    | (at_range; refine wpList_range _ rfl _ _ rfl keyS mapI rfl hf2 ?_; intro w3 cn hr3 hcn hg23 hz3))
  go_frame
  have hbw2 := hg3.tr hb12
  have hgr2 := hg2.below hb12
  have hb23 : Below w2.heap.size w2 w3 := brefl.no hg23
  have hblt := hf2.lt
  go_loopw [9] (fun y wr => ∃ (left : S → Bool) (cnt : Nat) (os : List S) (A1 : Option Addr) (k c1 : Nat), y = .slice A1 k c1 ∧ k ≤ c1 ∧ k + cnt ≤ n + 1 ∧ MapR wr Tryz.prog 9 b w2.heap.size (n + 1) (intF (dist l frm)) left cnt ∧
    Own wr (w2.heap.size + 1) 9 1 (.slice A1 k c1) k (os.map Value.string) ∧ os.Nodup ∧ (∀ s ∈ os, s.size ≤ maxLen) ∧ (∀ s : S, s.size ≤ maxLen → (s ∈ os ↔ left s = false ∧ Rf.has heads s = true ∧ ∃ d : Nat, dist l frm s = some d ∧ (d : Int) ≤ most)) ∧ Below w2.heap.size w2 wr) (fun _ wr => wr.rangeLeft b w2.heap.size)
  case atStart =>
    refine ⟨_, cn, [], none, 0, 0, rfl, Nat.le_refl _, by omega, hr3, Own.nil _ _ _ (by omega), by simp, by simp, fun s hs => ?_, hb23⟩
    constructor
    · intro h; cases h
    · rintro ⟨h1, h2, d, h3, _⟩
      unfold intF at h1
      rw [h3] at h1; cases h1
  case round =>
    obtain ⟨left, cnt, os, A1, k, c1, rfl, hk1, hkc, hrg, ho, hnd, hos, hiff, hbl⟩ := hrel
    go_wp2_with (at_next; refine wpList_next _ rfl _ rfl keyS rfl hrg ?_ ?_)
    · intro hc0 hl0
      go_wp2_with (go_at_call 90; refine (sort_any (by omega) ho).mono ?_; rintro e w5 ⟨rfl, ho5, hg5⟩)
      go_ret
      refine ⟨A1, k, c1, rfl, hk1, by omega, ?_, hbw2.tr (hbl.gr hg5 (fun j hj => by have := ho.row j hj; omega))⟩
      have heq : (msort (os.map byts)).map ofB = reach l heads frm most := reach_eq (msort_sorted (nodup_byts hnd)) fun x => by
        have hx : x ∈ (msort (os.map byts)).map ofB ↔ x ∈ os := by
          rw [List.mem_map]
          constructor
          · rintro ⟨y, hy, rfl⟩
            rw [mem_msort, List.mem_map] at hy
            obtain ⟨s, hs, rfl⟩ := hy
            rwa [ofB_byts]
          · intro h; exact ⟨byts x, by rw [mem_msort]; exact List.mem_map.2 ⟨x, h, rfl⟩, ofB_byts x⟩
        rw [hx]
        constructor
        · intro h
          obtain ⟨_, h1, h2⟩ := (hiff x (hos x h)).1 h
          exact ⟨(has_iff _ _).1 h1, h2⟩
        · rintro ⟨h1, h2⟩
          have hxs := hh.2.1 x h1
          exact (hiff x hxs).2 ⟨hl0 x hxs, (has_iff _ _).2 h1, h2⟩
      rw [heq] at ho5
      refine Strs.own ho5 rfl fun s hs => ?_
      exact hh.2.1 s (reach_mem.1 hs).1
    · intro s v w4 cn4 hss hls hhs hfv hrg4 hcn4 hg4 hz4 hen
      obtain ⟨ds, hds, rfl⟩ : ∃ ds, dist l frm s = some ds ∧ v = .int .i64 ds := by
        unfold intF at hfv
        cases hd : dist l frm s with
        | none => rw [hd] at hfv; cases hfv
        | some x => rw [hd] at hfv; cases hfv; exact ⟨x, rfl, rfl⟩
      have hdn := dist_le hds
      have hll := hl.1
      have hb4 := hbl.gr hg4 (by intro j hj; cases hj; exact Nat.le_refl _)
      have ho4 := ho.kept hg4 (by
        cases hb : (Value.slice A1 k c1).ownBlock with
        | none => exact .inl rfl
        | some j => exact .inr fun e => by have := ho.row j hb; cases e; omega)
      have hns : s ∉ os := fun h => by
        have := ((hiff s hss).1 h).1
        rw [hls] at this; cases this
      obtain ⟨hgg0, _, _, hgh, _, gc0, gc1, _⟩ := hgr2.below hb4
      clear hg4 hz4 hg23 hz3 hr3 hhs hfv
      have hskip : (Rf.has heads s = false ∨ ¬ (ds : Int) ≤ most) → ∀ t : S, t.size ≤ maxLen → (t ∈ os ↔ strike left s t = false ∧ Rf.has heads t = true ∧ ∃ d : Nat, dist l frm t = some d ∧ (d : Int) ≤ most) := fun h t ht => by
        rw [hiff t ht]
        unfold strike
        by_cases hts : t = s
        · subst hts
          simp only [decide_true, Bool.not_true, Bool.and_false, true_and]
          constructor
          · rintro ⟨h1, _⟩; rw [hls] at h1; cases h1
          · rintro ⟨h1, d', h2, h3⟩
            rcases h with h | h
            · rw [h1] at h; cases h
            · rw [hds] at h2; cases h2; exact absurd h3 h
        · simp [hts]
      by_cases hle : (ds : Int) ≤ most
      · cases hhd : Rf.has heads s
        · have e1 := hgh.lookB0 hss hhd
          have hsk := hskip (.inl hhd)
          clear hskip hhd hds
          go_wp2
          go_roundw
          case rel => exact ⟨_, cn4, os, A1, k, c1, rfl, hk1, by omega, hrg4, ho4, hnd, hos, hsk, hb4⟩
          case measure => rw [hrg4.left_eq, hrg.left_eq]; exact hcn4
        · have e1 := hgh.lookB0 hss hhd
          have hnew : ∀ t : S, t.size ≤ maxLen → (t ∈ os ++ [s] ↔ strike left s t = false ∧ Rf.has heads t = true ∧ ∃ d : Nat, dist l frm t = some d ∧ (d : Int) ≤ most) := fun t ht => by
            rw [List.mem_append, hiff t ht]
            unfold strike
            by_cases hts : t = s
            · subst hts
              simp only [List.mem_singleton, or_true, decide_true, Bool.not_true, Bool.and_false, true_and, true_iff]
              exact ⟨hhd, ds, hds, hle⟩
            · simp [hts]
          clear hskip hhd hds
          go_wp2_with (at_builtin; refine wpList_app _ stringsT rfl (.tmp 36) (.tmp 38) rfl (ho4.alloc _) rfl rfl (news := [.string s]) rfl (Rds.one w4 (.string s) 9) (by simp [Value.oneCell']) ?_ ?_ ?_; (focus omega); (focus omega); intro A5 c5 w5 o5 n5 g5 _)
          have hrw : ∀ j, (Value.slice A1 k c1).ownBlock = some j → w2.heap.size < j := fun j hj => by have := ho4.row j hj; omega
          have hrg5 := (hrg4.alloc (.cells #[.string s] 9)).kept g5 (fun e => by have := hrw _ e.symm; omega) (fun e => by have := hrw _ e.symm; omega)
          have hb5 := (hb4.al (.cells #[.string s] 9)).gr g5 (fun j hj => by have := hrw j hj; omega)
          go_roundw
          case rel => exact ⟨_, cn4, os ++ [s], A5, k + 1, c5, rfl, n5, by omega, hrg5, one_app o5 rfl, List.nodup_append.2 ⟨hnd, by simp, fun x hx y hy e => by simp at hy; subst hy; subst e; exact hns hx⟩, fun t ht => by
            rcases List.mem_append.1 ht with h | h
            · exact hos t h
            · simp at h; subst h; exact hss, hnew, hb5⟩
          case measure => rw [hrg5.left_eq, hrg.left_eq]; exact hcn4
      · have hsk := hskip (.inr hle)
        clear hskip hds
        go_wp2
        go_roundw
        case rel => exact ⟨_, cn4, os, A1, k, c1, rfl, hk1, by omega, hrg4, ho4, hnd, hos, hsk, hb4⟩
        case measure => rw [hrg4.left_eq, hrg.left_eq]; exact hcn4
end Go.Proofs.YtdfnfimajhagfaaGreatDoor
