/- The reference of layer 30: Before, Sort, Same; the statements' model. -/
import Derived.Test.YtdfnfimajhagfaaGreatDoorGen
import Derived.Test.YtdfnfimajhagfaaGreatDoorW8
import Derived.Test.YtdfnfimajhagfaaGreatDoorW7
import Derived.Test.YtdfnfimajhagfaaGreatDoorV19
import Derived.Test.YtdfnfimajhagfaaGreatDoorV13
import Derived.Test.YtdfnfimajhagfaaGreatDoorG3
import Derived.Test.YtdfnfimajhagfaaGreatDoorFew
import Derived.Lib.SliceRun
namespace Go.Proofs.YtdfnfimajhagfaaGreatDoor
open Go.RowKit Go.Maps Rf
theorem neq_ref2 (r q : Ref) (w : World) : Sem.run Tryz.prog (binOp .neq 135 (.agg #[.string r.frm, .string r.to, .bool r.also]) (.agg #[.string q.frm, .string q.to, .bool q.also])) w = .ok (.bool (!decide (r = q))) w := by
  have h := eql_ref2 r q w
  rw [run_eql_struct] at h
  rw [run_neq_struct]
  revert h
  cases (Op.equalIn 10000 135 (.agg #[.string r.frm, .string r.to, .bool r.also]) (.agg #[.string q.frm, .string q.to, .bool q.also])).run Tryz.prog w <;> simp [Result.andThen]
  all_goals (intro h; first | (intro h2; subst h2; simp_all) | simp_all)
set_option maxRecDepth 20000 in
set_option maxHeartbeats 1000000 in
theorem before_any (x y : Ref) (w : World) : Calls Tryz.prog 119 #[.agg #[.string x.frm, .string x.to, .bool x.also], .agg #[.string y.frm, .string y.to, .bool y.also]] w fun e w' =>
    e = .returned (.bool (befR x y)) ∧ Below w.heap.size w w' := by
  obtain ⟨xf, xt, xa⟩ := x
  obtain ⟨yf, yt, ya⟩ := y
  rw [Before_spec]
  dsimp only
  cases h1 : eqS xf yf
  · have e1 : (xf.toList == yf.toList) = false := h1
    have e2 : (xf.toList != yf.toList) = true := by simp [bne, e1]
    rw [if_pos rfl]
    go_enter Tryz.func119, Tryz.ntmps119
    go_wp2
    go_ret
    exact ⟨rfl, (brefl.al _).al _⟩
  · have e1 : (xf.toList == yf.toList) = true := h1
    have e2 : (xf.toList != yf.toList) = false := by simp [bne, e1]
    rw [if_neg (by simp)]
    cases h2 : eqS xt yt
    · have e3 : (xt.toList == yt.toList) = false := h2
      have e4 : (xt.toList != yt.toList) = true := by simp [bne, e3]
      rw [if_pos rfl]
      go_enter Tryz.func119, Tryz.ntmps119
      go_wp2
      go_ret
      exact ⟨rfl, (brefl.al _).al _⟩
    · have e3 : (xt.toList == yt.toList) = true := h2
      have e4 : (xt.toList != yt.toList) = false := by simp [bne, e3]
      rw [if_neg (by simp)]
      cases xa
      · go_enter Tryz.func119, Tryz.ntmps119
        go_wp2
        go_ret
        exact ⟨rfl, (brefl.al _).al _⟩
      · go_enter Tryz.func119, Tryz.ntmps119
        go_wp2
        go_ret
        exact ⟨rfl, (brefl.al _).al _⟩
theorem before_v {x y : Ref} {v : Bool} (h : befR x y = v) (w : World) : Calls Tryz.prog 119 #[.agg #[.string x.frm, .string x.to, .bool x.also], .agg #[.string y.frm, .string y.to, .bool y.also]] w fun e w' =>
    e = .returned (.bool v) ∧ Below w.heap.size w w' := by subst h; exact before_any x y w
theorem Refs.drop {w : World} {A : Option Addr} {n : Nat} {l : List Ref} (h : Refs w A n l) {k c : Nat} (_hk : k ≤ n) (hc : n ≤ c) : Refs w (if c = k then A else A.map (·.add (k * 3))) (n - k) (l.drop k) := by
  refine ⟨by rw [List.length_drop, h.1], fun s hs => h.2.1 s (List.mem_of_mem_drop hs), fun hl3 => ?_⟩
  have hl := refsCells_length l
  rw [refsCells_length, List.length_drop, h.1] at hl3
  obtain ⟨b, off, rfl, hlt, hcell⟩ := h.2.2 (by rw [hl, h.1]; omega)
  rw [if_neg (by omega)]
  refine ⟨b, off + k * 3, by simp [addr_add], hlt, fun j u hu => ?_⟩
  rw [← refsCells_drop, List.getElem?_drop] at hu
  rw [Nat.add_assoc]; exact hcell _ u hu
theorem Rds.new3b (w : World) (r : Ref) (t : TypeId) : Rds (w.alloc (.cells #[.string r.frm, .string r.to, .bool r.also] t)) (some ⟨w.heap.size, 0, none⟩) [.string r.frm, .string r.to, .bool r.also] := fun _ =>
  ⟨w.heap.size, 0, rfl, by simp, fun j v hv => by
    rw [Nat.zero_add, cell_of_row _ _ j #[.string r.frm, .string r.to, .bool r.also] t (0, 0) (heap_alloc_new w _)]
    simpa using hv⟩
/-- the list so far -/
def SoR (l : List Ref) (i : Nat) (o : List Ref) : Prop := SortedR o ∧ ∀ x, x ∈ o ↔ x ∈ l.take i
theorem SoR.there {l o : List Ref} {i k : Nat} {r : Ref} (h : SoR l i o) (hr : l[i]? = some r) (hx : o[k]? = some r) : SoR l (i + 1) o := ⟨h.1, fun x => by
  rw [Rf.take_snoc hr, List.mem_append, List.mem_singleton, h.2]
  constructor
  · exact .inl
  · rintro (h1 | rfl)
    · exact h1
    · exact (h.2 _).1 (List.mem_of_getElem? hx)⟩
theorem SoR.ins {l o : List Ref} {i k : Nat} {r : Ref} (h : SoR l i o) (hr : l[i]? = some r) (hk : k ≤ o.length) (hgt : ∀ x ∈ o.drop k, befR r x = true) (hle : ∀ x, 0 < k → o[k - 1]? = some x → befR x r = true) : SoR l (i + 1) (o.take k ++ r :: o.drop k) :=
  ⟨insR_sorted h.1 hk hgt hle, fun x => by
    rw [mem_insR, Rf.take_snoc hr, List.mem_append, List.mem_singleton, h.2]
    constructor
    · rintro (h1 | h1)
      · exact .inr h1
      · exact .inl h1
    · rintro (h1 | h1)
      · exact .inr h1
      · exact .inl h1⟩
theorem ins_done {w : World} {base : Nat} {e : TypeId} {A : Option Addr} {m c k : Nat} {o : List Ref} {r : Ref} (hl : ∀ r ∈ o, r.frm.size ≤ maxLen ∧ r.to.size ≤ maxLen) (hr : r.frm.size ≤ maxLen ∧ r.to.size ≤ maxLen)
    (ho : Own w base e 3 (.slice A m c) m (refsCells (o.take k) ++ [.string r.frm, .string r.to, .bool r.also] ++ refsCells (o.drop k))) : Refs w A m (o.take k ++ r :: o.drop k) := by
  refine Refs.own ho (by simp [refsCells, refCells]) fun x hx => ?_
  rcases mem_insR.1 hx with h | h
  · rw [h]; exact hr
  · exact hl x h
set_option maxRecDepth 20000 in
set_option maxHeartbeats 4000000 in
theorem rsort_any (A : Option Addr) (n c : Nat) (l : List Ref) (w : World) (hm : n ≤ 100000) (hl : Refs w A n l) :
    Calls Tryz.prog 69 #[.slice A n c] w fun e w' => ∃ A' k c' rs, e = .returned (.slice A' k c') ∧ k ≤ c' ∧ k ≤ n ∧ Refs w' A' k rs ∧ SoR l n rs ∧ Below w.heap.size w w' := by
  go_enter Tryz.func69, Tryz.ntmps69
  go_wp2
  go_loopw [3, 4] (fun o3 i4 wr => ∃ (i m3 c3 : Nat) (A3 : Option Addr) (o : List Ref), i ≤ n ∧ i4 = .int .i64 i ∧ o3 = .slice A3 m3 c3 ∧ m3 ≤ c3 ∧ m3 ≤ i ∧ Refs wr A3 m3 o ∧ Hid (SoR l i o) ∧ Below w.heap.size w wr) (fun _ i4 _ => n - (intOf i4).toNat)
  case atStart => exact ⟨0, 0, 0, none, [], by omega, rfl, rfl, by omega, by omega, Refs.nil _, ⟨List.Pairwise.nil, by simp⟩, brefl⟩
  case round =>
    obtain ⟨i, m3, c3, A3, o, hi, rfl, rfl, hc3, hm3, hr3, hso, hbl⟩ := hrel
    by_cases hlt : i < n
    · obtain ⟨bl, offl, r, rfl, hx, hs1, hs2, hb0, hd1, hd2, hd3⟩ := hl.at_ hlt
      have HX := Lib.hid hx
      have hlt' : (i : Int) < n := by omega
      have hol : o.length = m3 := hr3.1
      have HOL := Lib.hid hol
      clear hx hol
      go_wp2
      obtain ⟨wo, hwo⟩ : ∃ wo : World, wo = wr := ⟨_, rfl⟩
      subst hwo
      go_loopw [5] (fun k5 wr => ∃ k : Nat, k ≤ m3 ∧ k5 = .int .i64 k ∧ Hid (∀ x ∈ o.drop k, befR r x = true) ∧ Below wo.heap.size wo wr) (fun k5 _ => (intOf k5).toNat)
      case atStart => exact ⟨m3, by omega, rfl, (by show ∀ x ∈ _, _; intro x hx; rw [List.drop_of_length_le (by rw [HOL.out]; omega)] at hx; cases hx), brefl⟩
      case round =>
        obtain ⟨k, hk, rfl, hgt, hbz⟩ := hrel
        have hbw := hbl.tr hbz
        have hcl : ∀ wz, Below wr.heap.size wr wz → wz.cell? ⟨bl, offl + i * 3, none⟩ = some (.string r.frm) ∧ wz.cell? ⟨bl, offl + i * 3 + 1, none⟩ = some (.string r.to) ∧ wz.cell? ⟨bl, offl + i * 3 + 2, none⟩ = some (.bool r.also) := fun wz hz =>
          ⟨((hbw.tr hz).cell (p := ⟨bl, offl + i * 3, none⟩) hb0).trans hd1, ((hbw.tr hz).cell (p := ⟨bl, offl + i * 3 + 1, none⟩) hb0).trans hd2, ((hbw.tr hz).cell (p := ⟨bl, offl + i * 3 + 2, none⟩) hb0).trans hd3⟩
        have hbc : Below wr.heap.size wr wr.drew := brefl.drn 1
        cases k with
        | zero =>
          have HI := Lib.hid (hso.out.ins HX.out (Nat.zero_le _) hgt.out (fun x h => absurd h (by omega)))
          have hcells := hcl
          have hS := hcells _ hbc
          clear hd1 hd2 hd3 hcl
          go_wp2
          refine wp_region_mix [(true, 0), (true, 1), (true, 2), (true, 3), (true, 4), (true, 5), (true, 6), (true, 7), (true, 8), (true, 9), (true, 10), (true, 11), (true, 12), (true, 13)] 14 (fun wz => wz.cell? ⟨bl, offl + i * 3, none⟩ = some (.string r.frm) ∧ wz.cell? ⟨bl, offl + i * 3 + 1, none⟩ = some (.string r.to) ∧ wz.cell? ⟨bl, offl + i * 3 + 2, none⟩ = some (.bool r.also)) (by kernel_rfl) (by kernel_rfl) ?_
          refine wpMix_put (v := ?_) rfl rfl (Or.inl ⟨by rfl, fun wz hz => ?_⟩) hS ?_
          rotate_left
          (focus (go_simp; try (with_reducible rfl)))
          simp only [List.setIfInBounds_toArray, List.set_cons_succ, List.set_cons_zero]
          refine wpMix_put (v := ?_) rfl rfl (Or.inl ⟨by rfl, fun wz hz => ?_⟩) hS ?_
          rotate_left
          (focus (go_simp; try (with_reducible rfl)))
          simp only [List.setIfInBounds_toArray, List.set_cons_succ, List.set_cons_zero]
          refine wpMix_put (v := ?_) rfl rfl (Or.inl ⟨by rfl, fun wz hz => ?_⟩) hS ?_
          rotate_left
          (focus (go_simp; try (with_reducible rfl)))
          simp only [List.setIfInBounds_toArray, List.set_cons_succ, List.set_cons_zero]
          refine wpMix_put (v := undef) rfl rfl (Or.inr ⟨by rfl, rfl⟩) hS ?_
          simp only [List.setIfInBounds_toArray, List.set_cons_succ, List.set_cons_zero]
          refine wpMix_put (v := undef) rfl rfl (Or.inr ⟨by rfl, rfl⟩) hS ?_
          simp only [List.setIfInBounds_toArray, List.set_cons_succ, List.set_cons_zero]
          refine wpMix_put (v := undef) rfl rfl (Or.inr ⟨by rfl, rfl⟩) hS ?_
          simp only [List.setIfInBounds_toArray, List.set_cons_succ, List.set_cons_zero]
          refine wpMix_put (v := undef) rfl rfl (Or.inr ⟨by rfl, rfl⟩) hS ?_
          simp only [List.setIfInBounds_toArray, List.set_cons_succ, List.set_cons_zero]
          refine wpMix_put (v := undef) rfl rfl (Or.inr ⟨by rfl, rfl⟩) hS ?_
          simp only [List.setIfInBounds_toArray, List.set_cons_succ, List.set_cons_zero]
          refine wpMix_put (v := undef) rfl rfl (Or.inr ⟨by rfl, rfl⟩) hS ?_
          simp only [List.setIfInBounds_toArray, List.set_cons_succ, List.set_cons_zero]
          refine wpMix_put (v := undef) rfl rfl (Or.inr ⟨by rfl, rfl⟩) hS ?_
          simp only [List.setIfInBounds_toArray, List.set_cons_succ, List.set_cons_zero]
          refine wpMix_put (v := undef) rfl rfl (Or.inr ⟨by rfl, rfl⟩) hS ?_
          simp only [List.setIfInBounds_toArray, List.set_cons_succ, List.set_cons_zero]
          refine wpMix_put (v := undef) rfl rfl (Or.inr ⟨by rfl, rfl⟩) hS ?_
          simp only [List.setIfInBounds_toArray, List.set_cons_succ, List.set_cons_zero]
          refine wpMix_put (v := undef) rfl rfl (Or.inr ⟨by rfl, rfl⟩) hS ?_
          simp only [List.setIfInBounds_toArray, List.set_cons_succ, List.set_cons_zero]
          refine wpMix_put (v := ?_) rfl rfl (Or.inl ⟨by rfl, fun wz hz => ?_⟩) hS ?_
          rotate_left
          (focus (go_simp; try (with_reducible rfl)))
          simp only [List.setIfInBounds_toArray, List.set_cons_succ, List.set_cons_zero]
          refine wpMix_nil ?_
          go_wp2
          have hbc2 : Below wr.heap.size wr wr.drew.drew := hbc.drn 1
          clear hS
          have hS := hcells _ hbc2
          refine wp_region_mix [(true, 0), (true, 1), (true, 2), (true, 3), (true, 4), (true, 5), (true, 6), (true, 7), (true, 8), (true, 9), (true, 10), (true, 11), (true, 12), (true, 13)] 14 (fun wz => wz.cell? ⟨bl, offl + i * 3, none⟩ = some (.string r.frm) ∧ wz.cell? ⟨bl, offl + i * 3 + 1, none⟩ = some (.string r.to) ∧ wz.cell? ⟨bl, offl + i * 3 + 2, none⟩ = some (.bool r.also)) (by kernel_rfl) (by kernel_rfl) ?_
          refine wpMix_put (v := ?_) rfl rfl (Or.inl ⟨by rfl, fun wz hz => ?_⟩) hS ?_
          rotate_left
          (focus (go_simp; try (with_reducible rfl)))
          simp only [List.setIfInBounds_toArray, List.set_cons_succ, List.set_cons_zero]
          refine wpMix_put (v := ?_) rfl rfl (Or.inl ⟨by rfl, fun wz hz => ?_⟩) hS ?_
          rotate_left
          (focus (go_simp; try (with_reducible rfl)))
          simp only [List.setIfInBounds_toArray, List.set_cons_succ, List.set_cons_zero]
          refine wpMix_put (v := ?_) rfl rfl (Or.inl ⟨by rfl, fun wz hz => ?_⟩) hS ?_
          rotate_left
          (focus (go_simp; try (with_reducible rfl)))
          simp only [List.setIfInBounds_toArray, List.set_cons_succ, List.set_cons_zero]
          refine wpMix_put (v := undef) rfl rfl (Or.inr ⟨by rfl, rfl⟩) hS ?_
          simp only [List.setIfInBounds_toArray, List.set_cons_succ, List.set_cons_zero]
          refine wpMix_put (v := undef) rfl rfl (Or.inr ⟨by rfl, rfl⟩) hS ?_
          simp only [List.setIfInBounds_toArray, List.set_cons_succ, List.set_cons_zero]
          refine wpMix_put (v := undef) rfl rfl (Or.inr ⟨by rfl, rfl⟩) hS ?_
          simp only [List.setIfInBounds_toArray, List.set_cons_succ, List.set_cons_zero]
          refine wpMix_put (v := undef) rfl rfl (Or.inr ⟨by rfl, rfl⟩) hS ?_
          simp only [List.setIfInBounds_toArray, List.set_cons_succ, List.set_cons_zero]
          refine wpMix_put (v := undef) rfl rfl (Or.inr ⟨by rfl, rfl⟩) hS ?_
          simp only [List.setIfInBounds_toArray, List.set_cons_succ, List.set_cons_zero]
          refine wpMix_put (v := undef) rfl rfl (Or.inr ⟨by rfl, rfl⟩) hS ?_
          simp only [List.setIfInBounds_toArray, List.set_cons_succ, List.set_cons_zero]
          refine wpMix_put (v := undef) rfl rfl (Or.inr ⟨by rfl, rfl⟩) hS ?_
          simp only [List.setIfInBounds_toArray, List.set_cons_succ, List.set_cons_zero]
          refine wpMix_put (v := undef) rfl rfl (Or.inr ⟨by rfl, rfl⟩) hS ?_
          simp only [List.setIfInBounds_toArray, List.set_cons_succ, List.set_cons_zero]
          refine wpMix_put (v := undef) rfl rfl (Or.inr ⟨by rfl, rfl⟩) hS ?_
          simp only [List.setIfInBounds_toArray, List.set_cons_succ, List.set_cons_zero]
          refine wpMix_put (v := undef) rfl rfl (Or.inr ⟨by rfl, rfl⟩) hS ?_
          simp only [List.setIfInBounds_toArray, List.set_cons_succ, List.set_cons_zero]
          refine wpMix_put (v := ?_) rfl rfl (Or.inl ⟨by rfl, fun wz hz => ?_⟩) hS ?_
          rotate_left
          (focus (go_simp; try (with_reducible rfl)))
          simp only [List.setIfInBounds_toArray, List.set_cons_succ, List.set_cons_zero]
          refine wpMix_nil ?_
          go_wp2
          clear hS hbc
          have hr8 := hr3.below (hbz.tr hbc2)
          obtain ⟨d1, d2, d3⟩ := hcells _ hbc2
          have hblt := Nat.lt_of_lt_of_le hb0 (hbw.tr hbc2).size
          generalize wr.drew.drew = w8 at hbc2 hr8 d1 d2 d3 hblt ⊢
          have R1 := Lib.hid (hr8.take (k := 0) (by omega))
          have L1 := Lib.hid (show (refsCells (o.take (0))).length = (0) * 3 from by rw [refsCells_length]; have := R1.out.1; omega)
          have R2 := Lib.hid (show Refs w8 A3 (m3 - 0) (o.drop 0) from hr8)
          have L2 := Lib.hid (show (refsCells (o.drop (0))).length = (m3 - (0)) * 3 from by rw [refsCells_length]; have := R2.out.1; omega)
          go_region_law (first
            | (have o0 := (Own.empty w8 135 3 (Nat.le_refl _)).drew; refine step_app _ refsT2 rfl (.tmp 44) (.tmp 47) rfl o0 rfl rfl L1.out (R1.out.2.2.below (brefl.al _).drew) (refs_one _) ?_ ?_ ?_; (focus omega); (focus omega); intro A1 c1 w1 o1 n1 g1 e1; have b1 := ((brefl (a := w8)).al _).drew.gr g1 o0.row; simp only [Nat.zero_add, List.nil_append] at o1 n1 e1; have d4 := (hcells _ (hbc2.tr b1)).1; have d5 := (hcells _ (hbc2.tr b1)).2.1; have d6 := (hcells _ (hbc2.tr b1)).2.2)
            | (have o0 := ((Own.empty w8 135 3 (Nat.le_refl _)).alloc (.cells #[.string r.frm, .string r.to, .bool r.also] 135)).drew; refine step_app _ refsT2 rfl (.tmp 44) (.tmp 47) rfl o0 rfl rfl L1.out (R1.out.2.2.below ((brefl.al _).al _).drew) (refs_one _) ?_ ?_ ?_; (focus omega); (focus omega); intro A1 c1 w1 o1 n1 g1 e1; have x39 := ((Rds.new3b (w8.alloc (.cells #[] 135)) r 135).drew).grown g1 (not_row rfl (by simp)); simp only [World.size_alloc] at x39; have b1 := (((brefl (a := w8)).al _).al _).drew.gr g1 o0.row; simp only [Nat.zero_add, List.nil_append] at o1 n1 e1; have d4 := (hcells _ (hbc2.tr b1)).1; have d5 := (hcells _ (hbc2.tr b1)).2.1; have d6 := (hcells _ (hbc2.tr b1)).2.2)
            | (have o0 := (Own.empty (w8.alloc (.cells #[.string r.frm, .string r.to, .bool r.also] 135)) 135 3 (base := w8.heap.size) (by simp)).drew; simp only [World.size_alloc] at o0; refine step_app _ refsT2 rfl (.tmp 44) (.tmp 47) rfl o0 rfl rfl L1.out (R1.out.2.2.below ((brefl.al _).al _).drew) (refs_one _) ?_ ?_ ?_; (focus omega); (focus omega); intro A1 c1 w1 o1 n1 g1 e1; have x39 := (((Rds.new3b w8 r 135).alloc (.cells #[] 135)).drew).grown g1 (not_row rfl (by simp)); have b1 := (((brefl (a := w8)).al _).al _).drew.gr g1 o0.row; simp only [Nat.zero_add, List.nil_append] at o1 n1 e1; have d4 := (hcells _ (hbc2.tr b1)).1; have d5 := (hcells _ (hbc2.tr b1)).2.1; have d6 := (hcells _ (hbc2.tr b1)).2.2)
            | (refine step_app _ refsT2 rfl (.tmp 48) (.tmp 53) rfl o1 rfl rfl (news := [.string r.frm, .string r.to, .bool r.also]) rfl x39 (by simp [Value.oneCell']) ?_ ?_ ?_; (focus omega); (focus omega); intro A2 c2 w2 o2 n2 g2 e2; have b2 := b1.gr g2 o1.row)
            | (refine step_app _ refsT2 rfl (.tmp 48) (.tmp 53) rfl (o1.alloc _) rfl rfl (news := [.string r.frm, .string r.to, .bool r.also]) rfl (Rds.new3b w1 r 135) (by simp [Value.oneCell']) ?_ ?_ ?_; (focus omega); (focus omega); intro A2 c2 w2 o2 n2 g2 e2; have b2 := (b1.al _).gr g2 o1.row)
            | (refine step_app _ refsT2 rfl (.tmp 54) (.tmp 57) rfl o2 rfl rfl L2.out (R2.out.2.2.below b2) (refs_one _) ?_ ?_ ?_; (focus omega); (focus omega); intro A9 c9 w9 o9 n9 g9 e9; have b9 := b2.gr g9 o2.row))
          all_goals
            go_wp2
            go_roundw
            case rel => exact ⟨i + 1, _, c9, A9, _, by omega, by go_num, rfl, n9, by omega, ins_done hr3.2.1 ⟨hs1, hs2⟩ o9, HI.out, (hbw.tr hbc2).tr b9⟩
            case measure => simp [intOf]; omega
        | succ q =>
          obtain ⟨bo, offo, x, rfl, hx2, _, _, hbo, f1, f2, f3⟩ := (hr3.below hbz).at_ (k := q) (by omega)
          have HX2 := Lib.hid hx2
          have hcells : ∀ wz, Below wr.heap.size wr wz → wz.cell? ⟨bl, offl + i * 3, none⟩ = some (.string r.frm) ∧ wz.cell? ⟨bl, offl + i * 3 + 1, none⟩ = some (.string r.to) ∧ wz.cell? ⟨bl, offl + i * 3 + 2, none⟩ = some (.bool r.also) ∧
              wz.cell? ⟨bo, offo + q * 3, none⟩ = some (.string x.frm) ∧ wz.cell? ⟨bo, offo + q * 3 + 1, none⟩ = some (.string x.to) ∧ wz.cell? ⟨bo, offo + q * 3 + 2, none⟩ = some (.bool x.also) := fun wz hz =>
            ⟨(hcl wz hz).1, (hcl wz hz).2.1, (hcl wz hz).2.2, (hz.cell (p := ⟨bo, offo + q * 3, none⟩) hbo).trans f1, (hz.cell (p := ⟨bo, offo + q * 3 + 1, none⟩) hbo).trans f2, (hz.cell (p := ⟨bo, offo + q * 3 + 2, none⟩) hbo).trans f3⟩
          have hS := hcells _ hbc
          have HD := Lib.hid (drop_get hx2)
          have hq0 : (0 : Int) ≤ (q : Int) := by omega
          have hq1 : (q : Int) < m3 := by omega
          have hq3 : (q : Int) + 1 ≤ m3 := by omega
          have hq8 : (q : Int) + 1 ≤ c3 := by omega
          have hq5 : (0 : Int) ≤ (q : Int) + 1 := by omega
          have hq6 : (0 : Int) < (q : Int) + 1 := by omega
          have hq7 : ((q : Int) + 1 == 0) = false := by rw [beq_eq_false_iff_ne]; omega
          have hwrap := IntWalk.i64_in (q : Int) (by omega)
          obtain ⟨vb, hvb⟩ : ∃ vb, befR r x = vb := ⟨_, rfl⟩
          have HBF := Lib.hid hvb
          clear hd1 hd2 hd3 hx2 f1 f2 f3 hvb
          rw [show ((q + 1 : Nat) : Int) = (q : Int) + 1 from rfl]
          cases vb
          · go_wp2
            refine wp_region_mix [(true, 0), (true, 1), (true, 2), (true, 3), (true, 4), (true, 5), (true, 6), (true, 7), (true, 8), (true, 9), (true, 10), (true, 11), (false, 12), (true, 13)] 14 (fun wz => wz.cell? ⟨bl, offl + i * 3, none⟩ = some (.string r.frm) ∧ wz.cell? ⟨bl, offl + i * 3 + 1, none⟩ = some (.string r.to) ∧ wz.cell? ⟨bl, offl + i * 3 + 2, none⟩ = some (.bool r.also) ∧ wz.cell? ⟨bo, offo + q * 3, none⟩ = some (.string x.frm) ∧ wz.cell? ⟨bo, offo + q * 3 + 1, none⟩ = some (.string x.to) ∧ wz.cell? ⟨bo, offo + q * 3 + 2, none⟩ = some (.bool x.also)) (by kernel_rfl) (by kernel_rfl) ?_
            refine wpMix_put (v := ?_) rfl rfl (Or.inl ⟨by rfl, fun wz hz => ?_⟩) hS ?_
            rotate_left
            (focus (go_simp; try (with_reducible rfl)))
            simp only [List.setIfInBounds_toArray, List.set_cons_succ, List.set_cons_zero]
            refine wpMix_put (v := ?_) rfl rfl (Or.inl ⟨by rfl, fun wz hz => ?_⟩) hS ?_
            rotate_left
            (focus (go_simp; try (with_reducible rfl)))
            simp only [List.setIfInBounds_toArray, List.set_cons_succ, List.set_cons_zero]
            refine wpMix_put (v := ?_) rfl rfl (Or.inl ⟨by rfl, fun wz hz => ?_⟩) hS ?_
            rotate_left
            (focus (go_simp; try (with_reducible rfl)))
            simp only [List.setIfInBounds_toArray, List.set_cons_succ, List.set_cons_zero]
            refine wpMix_put (v := ?_) rfl rfl (Or.inl ⟨by rfl, fun wz hz => ?_⟩) hS ?_
            rotate_left
            (focus (go_simp; try (with_reducible rfl)))
            simp only [List.setIfInBounds_toArray, List.set_cons_succ, List.set_cons_zero]
            refine wpMix_put (v := ?_) rfl rfl (Or.inl ⟨by rfl, fun wz hz => ?_⟩) hS ?_
            rotate_left
            (focus (go_simp; try (with_reducible rfl)))
            simp only [List.setIfInBounds_toArray, List.set_cons_succ, List.set_cons_zero]
            refine wpMix_put (v := ?_) rfl rfl (Or.inl ⟨by rfl, fun wz hz => ?_⟩) hS ?_
            rotate_left
            (focus (go_simp; try (with_reducible rfl)))
            simp only [List.setIfInBounds_toArray, List.set_cons_succ, List.set_cons_zero]
            refine wpMix_put (v := ?_) rfl rfl (Or.inl ⟨by rfl, fun wz hz => ?_⟩) hS ?_
            rotate_left
            (focus (go_simp; try (with_reducible rfl)))
            simp only [List.setIfInBounds_toArray, List.set_cons_succ, List.set_cons_zero]
            refine wpMix_put (v := ?_) rfl rfl (Or.inl ⟨by rfl, fun wz hz => ?_⟩) hS ?_
            rotate_left
            (focus (go_simp; try (with_reducible rfl)))
            simp only [List.setIfInBounds_toArray, List.set_cons_succ, List.set_cons_zero]
            refine wpMix_put (v := ?_) rfl rfl (Or.inl ⟨by rfl, fun wz hz => ?_⟩) hS ?_
            rotate_left
            (focus (go_simp; try (with_reducible rfl)))
            simp only [List.setIfInBounds_toArray, List.set_cons_succ, List.set_cons_zero]
            refine wpMix_put (v := ?_) rfl rfl (Or.inl ⟨by rfl, fun wz hz => ?_⟩) hS ?_
            rotate_left
            (focus (go_simp; try (with_reducible rfl)))
            simp only [List.setIfInBounds_toArray, List.set_cons_succ, List.set_cons_zero]
            refine wpMix_put (v := ?_) rfl rfl (Or.inl ⟨by rfl, fun wz hz => ?_⟩) hS ?_
            rotate_left
            (focus (go_simp; try (with_reducible rfl)))
            simp only [List.setIfInBounds_toArray, List.set_cons_succ, List.set_cons_zero]
            refine wpMix_put (v := ?_) rfl rfl (Or.inl ⟨by rfl, fun wz hz => ?_⟩) hS ?_
            rotate_left
            (focus (go_simp; try (with_reducible rfl)))
            simp only [List.setIfInBounds_toArray, List.set_cons_succ, List.set_cons_zero]
            refine wpMix_step rfl (fun K hK => ?_)
            go_simp
            refine (before_v HBF.out _).mono ?_
            rintro e w5 ⟨rfl, hbd⟩
            go_simp
            have hbc' := hbc.tr hbd
            clear hbc hbd
            have hbc := hbc'
            clear hbc'
            have hS7 := hcells _ hbc
            refine hK _ _ (fun _ => hS7) ?_
            clear hK K hS
            have hS := hS7
            clear hS7
            refine wpMix_put (v := ?_) rfl rfl (Or.inl ⟨by rfl, fun wz hz => ?_⟩) hS ?_
            rotate_left
            (focus (go_simp; try (with_reducible rfl)))
            simp only [List.setIfInBounds_toArray, List.set_cons_succ, List.set_cons_zero]
            refine wpMix_nil ?_
            obtain ⟨w6, hw6⟩ : ∃ w6, w5 = w6 := ⟨_, rfl⟩
            subst hw6
            go_wp2
            have hbc2 : Below wr.heap.size wr w5.drew := hbc.drn 1
            clear hS
            have hS := hcells _ hbc2
            by_cases hxr : x = r
            · have he : ∀ w, Sem.run Tryz.prog (binOp .neq 135 (.agg #[.string x.frm, .string x.to, .bool x.also]) (.agg #[.string r.frm, .string r.to, .bool r.also])) w = .ok (.bool false) w := fun w => by rw [neq_ref2, decide_eq_true hxr]; rfl
              have HI := Lib.hid (hso.out.there HX.out (by rw [HX2.out, hxr]))
              clear hxr
              refine wp_region_mix [(true, 0), (true, 1), (true, 2), (true, 3), (true, 4), (true, 5), (true, 6), (true, 7), (true, 8), (true, 9), (true, 10), (true, 11), (true, 12), (true, 13)] 14 (fun wz => wz.cell? ⟨bl, offl + i * 3, none⟩ = some (.string r.frm) ∧ wz.cell? ⟨bl, offl + i * 3 + 1, none⟩ = some (.string r.to) ∧ wz.cell? ⟨bl, offl + i * 3 + 2, none⟩ = some (.bool r.also) ∧ wz.cell? ⟨bo, offo + q * 3, none⟩ = some (.string x.frm) ∧ wz.cell? ⟨bo, offo + q * 3 + 1, none⟩ = some (.string x.to) ∧ wz.cell? ⟨bo, offo + q * 3 + 2, none⟩ = some (.bool x.also)) (by kernel_rfl) (by kernel_rfl) ?_
              refine wpMix_put (v := ?_) rfl rfl (Or.inl ⟨by rfl, fun wz hz => ?_⟩) hS ?_
              rotate_left
              (focus (go_simp; try (with_reducible rfl)))
              simp only [List.setIfInBounds_toArray, List.set_cons_succ, List.set_cons_zero]
              refine wpMix_put (v := ?_) rfl rfl (Or.inl ⟨by rfl, fun wz hz => ?_⟩) hS ?_
              rotate_left
              (focus (go_simp; try (with_reducible rfl)))
              simp only [List.setIfInBounds_toArray, List.set_cons_succ, List.set_cons_zero]
              refine wpMix_put (v := ?_) rfl rfl (Or.inl ⟨by rfl, fun wz hz => ?_⟩) hS ?_
              rotate_left
              (focus (go_simp; try (with_reducible rfl)))
              simp only [List.setIfInBounds_toArray, List.set_cons_succ, List.set_cons_zero]
              refine wpMix_put (v := ?_) rfl rfl (Or.inl ⟨by rfl, fun wz hz => ?_⟩) hS ?_
              rotate_left
              (focus (go_simp; try (with_reducible rfl)))
              simp only [List.setIfInBounds_toArray, List.set_cons_succ, List.set_cons_zero]
              refine wpMix_put (v := ?_) rfl rfl (Or.inl ⟨by rfl, fun wz hz => ?_⟩) hS ?_
              rotate_left
              (focus (go_simp; try (with_reducible rfl)))
              simp only [List.setIfInBounds_toArray, List.set_cons_succ, List.set_cons_zero]
              refine wpMix_put (v := ?_) rfl rfl (Or.inl ⟨by rfl, fun wz hz => ?_⟩) hS ?_
              rotate_left
              (focus (go_simp; try (with_reducible rfl)))
              simp only [List.setIfInBounds_toArray, List.set_cons_succ, List.set_cons_zero]
              refine wpMix_put (v := ?_) rfl rfl (Or.inl ⟨by rfl, fun wz hz => ?_⟩) hS ?_
              rotate_left
              (focus (go_simp; try (with_reducible rfl)))
              simp only [List.setIfInBounds_toArray, List.set_cons_succ, List.set_cons_zero]
              refine wpMix_put (v := ?_) rfl rfl (Or.inl ⟨by rfl, fun wz hz => ?_⟩) hS ?_
              rotate_left
              (focus (go_simp; try (with_reducible rfl)))
              simp only [List.setIfInBounds_toArray, List.set_cons_succ, List.set_cons_zero]
              refine wpMix_put (v := ?_) rfl rfl (Or.inl ⟨by rfl, fun wz hz => ?_⟩) hS ?_
              rotate_left
              (focus (go_simp; try (with_reducible rfl)))
              simp only [List.setIfInBounds_toArray, List.set_cons_succ, List.set_cons_zero]
              refine wpMix_put (v := ?_) rfl rfl (Or.inl ⟨by rfl, fun wz hz => ?_⟩) hS ?_
              rotate_left
              (focus (go_simp; try (with_reducible rfl)))
              simp only [List.setIfInBounds_toArray, List.set_cons_succ, List.set_cons_zero]
              refine wpMix_put (v := ?_) rfl rfl (Or.inl ⟨by rfl, fun wz hz => ?_⟩) hS ?_
              rotate_left
              (focus (go_simp; try (with_reducible rfl)))
              simp only [List.setIfInBounds_toArray, List.set_cons_succ, List.set_cons_zero]
              refine wpMix_put (v := ?_) rfl rfl (Or.inl ⟨by rfl, fun wz hz => ?_⟩) hS ?_
              rotate_left
              (focus (go_simp; try (with_reducible rfl)))
              simp only [List.setIfInBounds_toArray, List.set_cons_succ, List.set_cons_zero]
              refine wpMix_put (v := ?_) rfl rfl (Or.inl ⟨by rfl, fun wz hz => ?_⟩) hS ?_
              rotate_left
              (focus (go_simp; try (with_reducible rfl)))
              simp only [List.setIfInBounds_toArray, List.set_cons_succ, List.set_cons_zero]
              refine wpMix_put (v := ?_) rfl rfl (Or.inl ⟨by rfl, fun wz hz => ?_⟩) hS ?_
              rotate_left
              (focus (go_simp; try (with_reducible rfl)))
              simp only [List.setIfInBounds_toArray, List.set_cons_succ, List.set_cons_zero]
              refine wpMix_nil ?_
              go_wp2
              go_roundw
              case rel => exact ⟨i + 1, m3, c3, _, o, by omega, by go_num, rfl, hc3, by omega, hr3.below (hbz.tr hbc2), HI.out, hbw.tr hbc2⟩
              case measure => simp [intOf]; omega
            · have he : ∀ w, Sem.run Tryz.prog (binOp .neq 135 (.agg #[.string x.frm, .string x.to, .bool x.also]) (.agg #[.string r.frm, .string r.to, .bool r.also])) w = .ok (.bool true) w := fun w => by rw [neq_ref2, decide_eq_false hxr]; rfl
              have HI := Lib.hid (hso.out.ins HX.out (k := q + 1) (by rw [HOL.out]; omega) hgt.out (fun y _ h => by
                rw [Nat.add_sub_cancel, HX2.out] at h
                injection h with h
                subst h
                exact not_befR HBF.out (fun e => hxr e.symm)))
              clear hxr
              refine wp_region_mix [(true, 0), (true, 1), (true, 2), (true, 3), (true, 4), (true, 5), (true, 6), (true, 7), (true, 8), (true, 9), (true, 10), (true, 11), (true, 12), (true, 13)] 14 (fun wz => wz.cell? ⟨bl, offl + i * 3, none⟩ = some (.string r.frm) ∧ wz.cell? ⟨bl, offl + i * 3 + 1, none⟩ = some (.string r.to) ∧ wz.cell? ⟨bl, offl + i * 3 + 2, none⟩ = some (.bool r.also) ∧ wz.cell? ⟨bo, offo + q * 3, none⟩ = some (.string x.frm) ∧ wz.cell? ⟨bo, offo + q * 3 + 1, none⟩ = some (.string x.to) ∧ wz.cell? ⟨bo, offo + q * 3 + 2, none⟩ = some (.bool x.also)) (by kernel_rfl) (by kernel_rfl) ?_
              refine wpMix_put (v := ?_) rfl rfl (Or.inl ⟨by rfl, fun wz hz => ?_⟩) hS ?_
              rotate_left
              (focus (go_simp; try (with_reducible rfl)))
              simp only [List.setIfInBounds_toArray, List.set_cons_succ, List.set_cons_zero]
              refine wpMix_put (v := ?_) rfl rfl (Or.inl ⟨by rfl, fun wz hz => ?_⟩) hS ?_
              rotate_left
              (focus (go_simp; try (with_reducible rfl)))
              simp only [List.setIfInBounds_toArray, List.set_cons_succ, List.set_cons_zero]
              refine wpMix_put (v := ?_) rfl rfl (Or.inl ⟨by rfl, fun wz hz => ?_⟩) hS ?_
              rotate_left
              (focus (go_simp; try (with_reducible rfl)))
              simp only [List.setIfInBounds_toArray, List.set_cons_succ, List.set_cons_zero]
              refine wpMix_put (v := ?_) rfl rfl (Or.inl ⟨by rfl, fun wz hz => ?_⟩) hS ?_
              rotate_left
              (focus (go_simp; try (with_reducible rfl)))
              simp only [List.setIfInBounds_toArray, List.set_cons_succ, List.set_cons_zero]
              refine wpMix_put (v := ?_) rfl rfl (Or.inl ⟨by rfl, fun wz hz => ?_⟩) hS ?_
              rotate_left
              (focus (go_simp; try (with_reducible rfl)))
              simp only [List.setIfInBounds_toArray, List.set_cons_succ, List.set_cons_zero]
              refine wpMix_put (v := ?_) rfl rfl (Or.inl ⟨by rfl, fun wz hz => ?_⟩) hS ?_
              rotate_left
              (focus (go_simp; try (with_reducible rfl)))
              simp only [List.setIfInBounds_toArray, List.set_cons_succ, List.set_cons_zero]
              refine wpMix_put (v := ?_) rfl rfl (Or.inl ⟨by rfl, fun wz hz => ?_⟩) hS ?_
              rotate_left
              (focus (go_simp; try (with_reducible rfl)))
              simp only [List.setIfInBounds_toArray, List.set_cons_succ, List.set_cons_zero]
              refine wpMix_put (v := ?_) rfl rfl (Or.inl ⟨by rfl, fun wz hz => ?_⟩) hS ?_
              rotate_left
              (focus (go_simp; try (with_reducible rfl)))
              simp only [List.setIfInBounds_toArray, List.set_cons_succ, List.set_cons_zero]
              refine wpMix_put (v := ?_) rfl rfl (Or.inl ⟨by rfl, fun wz hz => ?_⟩) hS ?_
              rotate_left
              (focus (go_simp; try (with_reducible rfl)))
              simp only [List.setIfInBounds_toArray, List.set_cons_succ, List.set_cons_zero]
              refine wpMix_put (v := ?_) rfl rfl (Or.inl ⟨by rfl, fun wz hz => ?_⟩) hS ?_
              rotate_left
              (focus (go_simp; try (with_reducible rfl)))
              simp only [List.setIfInBounds_toArray, List.set_cons_succ, List.set_cons_zero]
              refine wpMix_put (v := ?_) rfl rfl (Or.inl ⟨by rfl, fun wz hz => ?_⟩) hS ?_
              rotate_left
              (focus (go_simp; try (with_reducible rfl)))
              simp only [List.setIfInBounds_toArray, List.set_cons_succ, List.set_cons_zero]
              refine wpMix_put (v := ?_) rfl rfl (Or.inl ⟨by rfl, fun wz hz => ?_⟩) hS ?_
              rotate_left
              (focus (go_simp; try (with_reducible rfl)))
              simp only [List.setIfInBounds_toArray, List.set_cons_succ, List.set_cons_zero]
              refine wpMix_put (v := ?_) rfl rfl (Or.inl ⟨by rfl, fun wz hz => ?_⟩) hS ?_
              rotate_left
              (focus (go_simp; try (with_reducible rfl)))
              simp only [List.setIfInBounds_toArray, List.set_cons_succ, List.set_cons_zero]
              refine wpMix_put (v := ?_) rfl rfl (Or.inl ⟨by rfl, fun wz hz => ?_⟩) hS ?_
              rotate_left
              (focus (go_simp; try (with_reducible rfl)))
              simp only [List.setIfInBounds_toArray, List.set_cons_succ, List.set_cons_zero]
              refine wpMix_nil ?_
              clear he hwrap
              go_wp2
              clear hbc hS
              have hr8 := hr3.below (hbz.tr hbc2)
              obtain ⟨d1, d2, d3, _, _, _⟩ := hcells _ hbc2
              have hblt := Nat.lt_of_lt_of_le hb0 (hbw.tr hbc2).size
              generalize w5.drew = w8 at hbc2 hr8 d1 d2 d3 hblt ⊢
              have hr9 := hr8.drop (k := q + 1) (c := c3) (by omega) hc3
              simp only [Option.map_some, addr_add] at hr9
              have R1 := Lib.hid (hr8.take (k := q + 1) (by omega))
              have L1 := Lib.hid (show (refsCells (o.take (q + 1))).length = (q + 1) * 3 from by rw [refsCells_length]; have := R1.out.1; omega)
              have R2 := Lib.hid (hr9)
              have L2 := Lib.hid (show (refsCells (o.drop (q + 1))).length = (m3 - (q + 1)) * 3 from by rw [refsCells_length]; have := R2.out.1; omega)
              go_region_law (first
                | (have o0 := (Own.empty w8 135 3 (Nat.le_refl _)).drew; refine step_app _ refsT2 rfl (.tmp 44) (.tmp 47) rfl o0 rfl rfl L1.out (R1.out.2.2.below (brefl.al _).drew) (refs_one _) ?_ ?_ ?_; (focus omega); (focus omega); intro A1 c1 w1 o1 n1 g1 e1; have b1 := ((brefl (a := w8)).al _).drew.gr g1 o0.row; simp only [Nat.zero_add, List.nil_append] at o1 n1 e1; have d4 := (hcells _ (hbc2.tr b1)).1; have d5 := (hcells _ (hbc2.tr b1)).2.1; have d6 := (hcells _ (hbc2.tr b1)).2.2.1)
                | (have o0 := ((Own.empty w8 135 3 (Nat.le_refl _)).alloc (.cells #[.string r.frm, .string r.to, .bool r.also] 135)).drew; refine step_app _ refsT2 rfl (.tmp 44) (.tmp 47) rfl o0 rfl rfl L1.out (R1.out.2.2.below ((brefl.al _).al _).drew) (refs_one _) ?_ ?_ ?_; (focus omega); (focus omega); intro A1 c1 w1 o1 n1 g1 e1; have x39 := ((Rds.new3b (w8.alloc (.cells #[] 135)) r 135).drew).grown g1 (not_row rfl (by simp)); simp only [World.size_alloc] at x39; have b1 := (((brefl (a := w8)).al _).al _).drew.gr g1 o0.row; simp only [Nat.zero_add, List.nil_append] at o1 n1 e1; have d4 := (hcells _ (hbc2.tr b1)).1; have d5 := (hcells _ (hbc2.tr b1)).2.1; have d6 := (hcells _ (hbc2.tr b1)).2.2.1)
                | (have o0 := (Own.empty (w8.alloc (.cells #[.string r.frm, .string r.to, .bool r.also] 135)) 135 3 (base := w8.heap.size) (by simp)).drew; simp only [World.size_alloc] at o0; refine step_app _ refsT2 rfl (.tmp 44) (.tmp 47) rfl o0 rfl rfl L1.out (R1.out.2.2.below ((brefl.al _).al _).drew) (refs_one _) ?_ ?_ ?_; (focus omega); (focus omega); intro A1 c1 w1 o1 n1 g1 e1; have x39 := (((Rds.new3b w8 r 135).alloc (.cells #[] 135)).drew).grown g1 (not_row rfl (by simp)); have b1 := (((brefl (a := w8)).al _).al _).drew.gr g1 o0.row; simp only [Nat.zero_add, List.nil_append] at o1 n1 e1; have d4 := (hcells _ (hbc2.tr b1)).1; have d5 := (hcells _ (hbc2.tr b1)).2.1; have d6 := (hcells _ (hbc2.tr b1)).2.2.1)
                | (refine step_app _ refsT2 rfl (.tmp 48) (.tmp 53) rfl o1 rfl rfl (news := [.string r.frm, .string r.to, .bool r.also]) rfl x39 (by simp [Value.oneCell']) ?_ ?_ ?_; (focus omega); (focus omega); intro A2 c2 w2 o2 n2 g2 e2; have b2 := b1.gr g2 o1.row)
                | (refine step_app _ refsT2 rfl (.tmp 48) (.tmp 53) rfl (o1.alloc _) rfl rfl (news := [.string r.frm, .string r.to, .bool r.also]) rfl (Rds.new3b w1 r 135) (by simp [Value.oneCell']) ?_ ?_ ?_; (focus omega); (focus omega); intro A2 c2 w2 o2 n2 g2 e2; have b2 := (b1.al _).gr g2 o1.row)
                | (refine step_app _ refsT2 rfl (.tmp 54) (.tmp 57) rfl o2 rfl rfl L2.out (R2.out.2.2.below b2) (refs_one _) ?_ ?_ ?_; (focus omega); (focus omega); intro A9 c9 w9 o9 n9 g9 e9; have b9 := b2.gr g9 o2.row))
              all_goals
                generalize (if c3 = q + 1 then (some (⟨bo, offo, none⟩ : Addr)) else some ⟨bo, offo + (q + 1) * 3, none⟩) = AA at *
                go_wp2
                go_roundw
                case rel => exact ⟨i + 1, _, c9, A9, _, by omega, by go_num, rfl, n9, by omega, ins_done hr3.2.1 ⟨hs1, hs2⟩ o9, HI.out, (hbw.tr hbc2).tr b9⟩
                case measure => simp [intOf]; omega
          · go_wp2
            refine wp_region_mix [(true, 0), (true, 1), (true, 2), (true, 3), (true, 4), (true, 5), (true, 6), (true, 7), (true, 8), (true, 9), (true, 10), (true, 11), (false, 12), (true, 13)] 14 (fun wz => wz.cell? ⟨bl, offl + i * 3, none⟩ = some (.string r.frm) ∧ wz.cell? ⟨bl, offl + i * 3 + 1, none⟩ = some (.string r.to) ∧ wz.cell? ⟨bl, offl + i * 3 + 2, none⟩ = some (.bool r.also) ∧ wz.cell? ⟨bo, offo + q * 3, none⟩ = some (.string x.frm) ∧ wz.cell? ⟨bo, offo + q * 3 + 1, none⟩ = some (.string x.to) ∧ wz.cell? ⟨bo, offo + q * 3 + 2, none⟩ = some (.bool x.also)) (by kernel_rfl) (by kernel_rfl) ?_
            refine wpMix_put (v := ?_) rfl rfl (Or.inl ⟨by rfl, fun wz hz => ?_⟩) hS ?_
            rotate_left
            (focus (go_simp; try (with_reducible rfl)))
            simp only [List.setIfInBounds_toArray, List.set_cons_succ, List.set_cons_zero]
            refine wpMix_put (v := ?_) rfl rfl (Or.inl ⟨by rfl, fun wz hz => ?_⟩) hS ?_
            rotate_left
            (focus (go_simp; try (with_reducible rfl)))
            simp only [List.setIfInBounds_toArray, List.set_cons_succ, List.set_cons_zero]
            refine wpMix_put (v := ?_) rfl rfl (Or.inl ⟨by rfl, fun wz hz => ?_⟩) hS ?_
            rotate_left
            (focus (go_simp; try (with_reducible rfl)))
            simp only [List.setIfInBounds_toArray, List.set_cons_succ, List.set_cons_zero]
            refine wpMix_put (v := ?_) rfl rfl (Or.inl ⟨by rfl, fun wz hz => ?_⟩) hS ?_
            rotate_left
            (focus (go_simp; try (with_reducible rfl)))
            simp only [List.setIfInBounds_toArray, List.set_cons_succ, List.set_cons_zero]
            refine wpMix_put (v := ?_) rfl rfl (Or.inl ⟨by rfl, fun wz hz => ?_⟩) hS ?_
            rotate_left
            (focus (go_simp; try (with_reducible rfl)))
            simp only [List.setIfInBounds_toArray, List.set_cons_succ, List.set_cons_zero]
            refine wpMix_put (v := ?_) rfl rfl (Or.inl ⟨by rfl, fun wz hz => ?_⟩) hS ?_
            rotate_left
            (focus (go_simp; try (with_reducible rfl)))
            simp only [List.setIfInBounds_toArray, List.set_cons_succ, List.set_cons_zero]
            refine wpMix_put (v := ?_) rfl rfl (Or.inl ⟨by rfl, fun wz hz => ?_⟩) hS ?_
            rotate_left
            (focus (go_simp; try (with_reducible rfl)))
            simp only [List.setIfInBounds_toArray, List.set_cons_succ, List.set_cons_zero]
            refine wpMix_put (v := ?_) rfl rfl (Or.inl ⟨by rfl, fun wz hz => ?_⟩) hS ?_
            rotate_left
            (focus (go_simp; try (with_reducible rfl)))
            simp only [List.setIfInBounds_toArray, List.set_cons_succ, List.set_cons_zero]
            refine wpMix_put (v := ?_) rfl rfl (Or.inl ⟨by rfl, fun wz hz => ?_⟩) hS ?_
            rotate_left
            (focus (go_simp; try (with_reducible rfl)))
            simp only [List.setIfInBounds_toArray, List.set_cons_succ, List.set_cons_zero]
            refine wpMix_put (v := ?_) rfl rfl (Or.inl ⟨by rfl, fun wz hz => ?_⟩) hS ?_
            rotate_left
            (focus (go_simp; try (with_reducible rfl)))
            simp only [List.setIfInBounds_toArray, List.set_cons_succ, List.set_cons_zero]
            refine wpMix_put (v := ?_) rfl rfl (Or.inl ⟨by rfl, fun wz hz => ?_⟩) hS ?_
            rotate_left
            (focus (go_simp; try (with_reducible rfl)))
            simp only [List.setIfInBounds_toArray, List.set_cons_succ, List.set_cons_zero]
            refine wpMix_put (v := ?_) rfl rfl (Or.inl ⟨by rfl, fun wz hz => ?_⟩) hS ?_
            rotate_left
            (focus (go_simp; try (with_reducible rfl)))
            simp only [List.setIfInBounds_toArray, List.set_cons_succ, List.set_cons_zero]
            refine wpMix_step rfl (fun K hK => ?_)
            go_simp
            refine (before_v HBF.out _).mono ?_
            rintro e w5 ⟨rfl, hbd⟩
            go_simp
            have hbc' := hbc.tr hbd
            clear hbc hbd
            have hbc := hbc'
            clear hbc'
            have hS7 := hcells _ hbc
            refine hK _ _ (fun _ => hS7) ?_
            clear hK K hS
            have hS := hS7
            clear hS7
            refine wpMix_put (v := ?_) rfl rfl (Or.inl ⟨by rfl, fun wz hz => ?_⟩) hS ?_
            rotate_left
            (focus (go_simp; try (with_reducible rfl)))
            simp only [List.setIfInBounds_toArray, List.set_cons_succ, List.set_cons_zero]
            refine wpMix_nil ?_
            go_wp2
            have HG := Lib.hid (show ∀ y ∈ o.drop q, befR r y = true from fun y hy => by
              rw [HD.out] at hy
              rcases List.mem_cons.1 hy with rfl | hy
              · exact HBF.out
              · exact hgt.out y hy)
            go_roundw
            case rel => exact ⟨q, by omega, by go_num, HG, hbz.tr hbc⟩
            case measure => simp [intOf]
    · have hin : i = n := by omega
      subst hin
      go_wp2
      go_ret
      exact ⟨A3, m3, c3, o, rfl, hc3, hm3, hr3, hso.out, hbl⟩
end Go.Proofs.YtdfnfimajhagfaaGreatDoor
/- The reference of layer 30: Of. -/
namespace Go.Proofs.YtdfnfimajhagfaaGreatDoor
open Go.RowKit Go.Maps Rf
theorem SoR.is {l rs : List Ref} {n : Nat} (h : SoR l n rs) (hn : l.length ≤ n) : IsSortR l rs := ⟨h.1, fun r => by rw [h.2 r, List.take_of_length_le hn]⟩
theorem box_keep {wr w8 : World} {v1 v2 v3 v4 v5 : Value} {t : TypeId} {o : Obj} {row : Option Nat} (hg : ((wr.alloc (.cells #[v1, v2, v3, v4, v5] t)).alloc o).grownBy w8 row) (hr : ∀ k, row = some k → k < wr.heap.size) :
    w8.cell? ⟨wr.heap.size, 0, none⟩ = some v1 ∧ w8.cell? ⟨wr.heap.size, 4, none⟩ = some v5 := by
  obtain ⟨q0, _, _, _, q4⟩ := box_tm (w := wr) (v1 := v1) (v2 := v2) (v3 := v3) (v4 := v4) (v5 := v5) (t := t) (brefl.al o)
  exact ⟨hg.cell q0 (fun e => Nat.lt_irrefl _ (hr wr.heap.size e.symm)), hg.cell q4 (fun e => Nat.lt_irrefl _ (hr wr.heap.size e.symm))⟩
set_option maxRecDepth 20000 in
set_option maxHeartbeats 8000000 in
theorem rof_ref (A B : Option Addr) (n c m d : Nat) (ms : List TM) (heads : List S) (w : World) (hm : n ≤ 100000) (hmh : m ≤ 1000000) (hl : Tms w A n ms) (hh : Strs w B m heads) (hsm : ∀ m ∈ ms, m.small) :
    Calls Tryz.prog 61 #[.slice A n c, .slice B m d] w fun e w' => ∃ A' k c' rs, e = .returned (.slice A' k c') ∧ k ≤ c' ∧ k ≤ 20000 ∧ Refs w' A' k rs ∧ IsOf (terms ms) heads rs ∧ Below w.heap.size w w' := by
  have hv := rgood_any A n c ms w hm hl hsm
  have hlen := terms_length hl
  by_cases h0 : (vvalid (terms ms)).2 = 0
  · have h128 : n ≤ 128 := by
      rcases Nat.lt_or_ge 128 n with h | h
      · have h1 := h0
        unfold vvalid at h1
        rw [if_pos (by rw [hlen]; exact h)] at h1; cases h1
      · exact h
    have hio := Lib.hid (show ∀ rs, IsSortR (ofAll (terms ms) heads) rs → IsOf (terms ms) heads rs from fun rs h => by unfold IsOf; rw [if_pos h0]; exact h)
    rw [decide_eq_true h0] at hv
    clear h0
    go_enter Tryz.func61, Tryz.ntmps61
    go_wp2_with (go_at_call 88; refine hv.mono ?_; rintro e wo ⟨rfl, hb23⟩)
    have hs3 := hb23.size
    clear hv
    go_loopw [5, 6] (fun o i wr => ∃ (k m1 c1 : Nat) (A1 : Option Addr), k ≤ n ∧ i = .int .i64 k ∧ o = .slice A1 m1 c1 ∧ m1 ≤ c1 ∧ m1 ≤ 101 * k ∧ Own wr wo.heap.size 135 3 (.slice A1 m1 c1) m1 (refsCells (ofAll ((terms ms).take k) heads)) ∧ szR (ofAll ((terms ms).take k) heads) ∧ Below w.heap.size w wr) (fun _ i _ => n - (intOf i).toNat)
    case atStart => exact ⟨0, 0, 0, none, by omega, rfl, rfl, by omega, by omega, Own.nil _ _ _ (Nat.le_refl _), (fun r h => by cases h), hb23⟩
    case round =>
      clear hb23
      obtain ⟨k, m1, c1, A1, hk, rfl, rfl, hc1, hm1, ho, hsz, hbl⟩ := hrel
      by_cases hlt : k < n
      · obtain ⟨b, off, ⟨⟨nm, ki, la, se, br⟩, Am, n5, cm⟩, rfl, hx, hok, hb0, hat⟩ := hl.at_ hlt
        obtain ⟨d1, d2, d3, d4, d5⟩ := hat.below hbl hb0
        clear hat
        have htk := terms_get hx
        obtain ⟨hnm, hse, _, _, hcap, hfew, hbr⟩ := hok
        dsimp only at d1 d2 d3 d4 d5 hnm hse hcap hfew hbr htk
        have hsn := Lib.hid (ofAll_snoc (heads := heads) htk)
        have hba := hbl.al (.cells #[.string nm, .int .i64 ki, .int .i64 la, .string se, .slice Am n5 cm] 33)
        have hoa := ho.alloc (.cells #[.string nm, .int .i64 ki, .int .i64 la, .string se, .slice Am n5 cm] 33)
        have hhx := hh.below hba
        have hlt' : (k : Int) < n := by omega
        clear hx htk hb0
        cases hn : Rf.has heads nm
        · have HN := Lib.hid hn
          cases hs0 : se.data.isEmpty
          · have u0 := not_empty hs0
            have u2 := (empty_data se).trans hs0
            cases hs1 : Rf.has heads se
            · have HS := Lib.hid hs1
              have hnil := Lib.hid (ofTerm_none (t := ⟨nm, ki, la, se, br⟩) hn (by show (_ && Rf.has heads se) = false; rw [hs1]; simp))
              clear hn hs0 hs1
              go_wp2_with (first
                | (go_at_call 50; (with_reducible refine (has_any _ _ _ heads nm _ (by omega) hhx).mono ?_); rintro e _ ⟨rfl, rfl⟩; rw [HN.out])
                | (go_at_call 50; (with_reducible refine (has_any _ _ _ heads se _ (by omega) hhx).mono ?_); rintro e _ ⟨rfl, rfl⟩; rw [HS.out])
                )
              obtain ⟨_, _, _, _, z4⟩ := box_tm (w := wr) (v1 := .string nm) (v2 := .int .i64 ki) (v3 := .int .i64 la) (v4 := .string se) (v5 := .slice Am n5 cm) (t := 33) brefl
              obtain ⟨wx, hwx⟩ : ∃ wx, wr.alloc (.cells #[.string nm, .int .i64 ki, .int .i64 la, .string se, .slice Am n5 cm] 33) = wx := ⟨_, rfl⟩
              rw [hwx] at hba hoa z4 ⊢
              clear hwx hhx
              go_loopw [5, 9] (fun o i wz => o = .slice A1 m1 c1 ∧ i = .int .i64 0 ∧ wz = wx) (fun _ _ _ => 0)
              case atStart => exact ⟨rfl, rfl, rfl⟩
              case round =>
                obtain ⟨rfl, rfl, rfl⟩ := hrel
                rcases Nat.eq_zero_or_pos n5 with rfl | hn5
                · go_wp2
                  go_roundw
                  case rel => exact ⟨k + 1, m1, c1, A1, by omega, by go_num, rfl, hc1, by omega, by rw [hsn.out, hnil.out, List.append_nil]; exact hoa, by rw [hsn.out, hnil.out, List.append_nil]; exact hsz, hba⟩
                  case measure => simp [intOf]; omega
                · have hn5' : (0 : Int) < n5 := by omega
                  go_wp2
                  go_roundw
                  case rel => exact ⟨k + 1, m1, c1, A1, by omega, by go_num, rfl, hc1, by omega, by rw [hsn.out, hnil.out, List.append_nil]; exact hoa, by rw [hsn.out, hnil.out, List.append_nil]; exact hsz, hba⟩
                  case measure => simp [intOf]; omega
            · have HS := Lib.hid hs1
              have hone := Lib.hid (ofTerm_see (t := ⟨nm, ki, la, se, br⟩) hn hs0 hs1)
              clear hn hs0 hs1
              go_wp2_with (first
                | (go_at_call 50; (with_reducible refine (has_any _ _ _ heads nm _ (by omega) hhx).mono ?_); rintro e _ ⟨rfl, rfl⟩; rw [HN.out])
                | (go_at_call 50; (with_reducible refine (has_any _ _ _ heads se _ (by omega) hhx).mono ?_); rintro e _ ⟨rfl, rfl⟩; rw [HS.out])
                | (at_builtin; refine wpList_app _ refsT2 rfl (.tmp 40) (.tmp 46) rfl (hoa.alloc _) rfl rfl (news := [.string nm, .string se, .bool false]) rfl (Rds.new3At (wr.alloc (.cells #[.string nm, .int .i64 ki, .int .i64 la, .string se, .slice Am n5 cm] 33)) (by simp) _ _ _ 135) (by simp [Value.oneCell']) ?_ ?_ ?_; (focus omega); (focus omega); intro A8 c8 w8 o8 n8 g8 _; obtain ⟨z0, z4⟩ := box_keep g8 ho.lt)
                )
              have hb8 := (hba.al (.cells #[.string nm, .string se, .bool false] 135)).gr g8 (fun k e => Nat.le_trans hs3 (ho.row k e))
              clear g8
              have hsz8 : szR (ofAll ((terms ms).take (k + 1)) heads) := by
                rw [hsn.out, hone.out]
                intro q hq
                rcases List.mem_append.1 hq with hq | hq
                · exact hsz q hq
                · simp at hq; subst hq; exact ⟨hnm, hse⟩
              go_loopw [5, 9] (fun o i wz => o = .slice A8 (m1 + 1) c8 ∧ i = .int .i64 0 ∧ wz = w8) (fun _ _ _ => 0)
              case atStart => exact ⟨rfl, rfl, rfl⟩
              case round =>
                obtain ⟨rfl, rfl, rfl⟩ := hrel
                rcases Nat.eq_zero_or_pos n5 with rfl | hn5
                · go_wp2
                  go_roundw
                  case rel => exact ⟨k + 1, m1 + 1, c8, A8, by omega, by go_num, rfl, n8, by omega, by rw [hsn.out, hone.out]; exact snoc_refs (r := ⟨nm, se, false⟩) o8, hsz8, hb8⟩
                  case measure => simp [intOf]; omega
                · have hn5' : (0 : Int) < n5 := by omega
                  go_wp2
                  go_roundw
                  case rel => exact ⟨k + 1, m1 + 1, c8, A8, by omega, by go_num, rfl, n8, by omega, by rw [hsn.out, hone.out]; exact snoc_refs (r := ⟨nm, se, false⟩) o8, hsz8, hb8⟩
                  case measure => simp [intOf]; omega
          · have hnil := Lib.hid (ofTerm_none (heads := heads) (t := ⟨nm, ki, la, se, br⟩) hn (by show (!se.data.isEmpty && _) = false; rw [hs0]; rfl))
            obtain rfl := is_empty hs0
            clear hn hs0
            go_wp2_with (go_at_call 50; (with_reducible refine (has_any _ _ _ heads nm _ (by omega) hhx).mono ?_); rintro e _ ⟨rfl, rfl⟩; rw [HN.out])
            obtain ⟨_, _, _, _, z4⟩ := box_tm (w := wr) (v1 := .string nm) (v2 := .int .i64 ki) (v3 := .int .i64 la) (v4 := .string ⟨#[]⟩) (v5 := .slice Am n5 cm) (t := 33) brefl
            obtain ⟨wx, hwx⟩ : ∃ wx, wr.alloc (.cells #[.string nm, .int .i64 ki, .int .i64 la, .string ⟨#[]⟩, .slice Am n5 cm] 33) = wx := ⟨_, rfl⟩
            rw [hwx] at hba hoa z4 ⊢
            clear hwx hhx
            go_loopw [5, 9] (fun o i wz => o = .slice A1 m1 c1 ∧ i = .int .i64 0 ∧ wz = wx) (fun _ _ _ => 0)
            case atStart => exact ⟨rfl, rfl, rfl⟩
            case round =>
              obtain ⟨rfl, rfl, rfl⟩ := hrel
              rcases Nat.eq_zero_or_pos n5 with rfl | hn5
              · go_wp2
                go_roundw
                case rel => exact ⟨k + 1, m1, c1, A1, by omega, by go_num, rfl, hc1, by omega, by rw [hsn.out, hnil.out, List.append_nil]; exact hoa, by rw [hsn.out, hnil.out, List.append_nil]; exact hsz, hba⟩
                case measure => simp [intOf]; omega
              · have hn5' : (0 : Int) < n5 := by omega
                go_wp2
                go_roundw
                case rel => exact ⟨k + 1, m1, c1, A1, by omega, by go_num, rfl, hc1, by omega, by rw [hsn.out, hnil.out, List.append_nil]; exact hoa, by rw [hsn.out, hnil.out, List.append_nil]; exact hsz, hba⟩
                case measure => simp [intOf]; omega
        · have HN := Lib.hid hn
          have hall := Lib.hid (fun n h => brTake_all (heads := heads) (t := ⟨nm, ki, la, se, br⟩) (n := n) h hn)
          clear hn
          go_wp2_with (go_at_call 50; (with_reducible refine (has_any _ _ _ heads nm _ (by omega) hhx).mono ?_); rintro e _ ⟨rfl, rfl⟩; rw [HN.out])
          clear d1 d2 d3 d4 d5
          obtain ⟨hbc0, _, _, _, hbc4⟩ := box_tm (w := wr) (v1 := .string nm) (v2 := .int .i64 ki) (v3 := .int .i64 la) (v4 := .string se) (v5 := .slice Am n5 cm) (t := 33) brefl
          have hlt0 : ∀ g, (Value.slice A1 m1 c1).ownBlock = some g → g ≠ wr.heap.size := fun g e => by have := ho.lt g e; omega
          have hsw : wr.heap.size < (wr.alloc (.cells #[.string nm, .int .i64 ki, .int .i64 la, .string se, .slice Am n5 cm] 33)).heap.size := by simp
          obtain ⟨wx, hwx⟩ : ∃ wx, wr.alloc (.cells #[.string nm, .int .i64 ki, .int .i64 la, .string se, .slice Am n5 cm] 33) = wx := ⟨_, rfl⟩
          rw [hwx] at hba hoa hbc0 hbc4 hsw hhx ⊢
          clear hwx hhx
          obtain ⟨wb, hwb⟩ : ∃ wb : World, wb = wr := ⟨_, rfl⟩
          subst hwb
          go_loopw [5, 9] (fun o i wz => ∃ (j m2 c2 : Nat) (A2 : Option Addr), j ≤ n5 ∧ i = .int .i64 j ∧ o = .slice A2 m2 c2 ∧ m2 ≤ c2 ∧ m2 ≤ 101 * k + j ∧ Own wz wo.heap.size 135 3 (.slice A2 m2 c2) m2 (refsCells (ofAll ((terms ms).take k) heads ++ brTake heads ⟨nm, ki, la, se, br⟩ j)) ∧
            wz.cell? ⟨wb.heap.size, 0, none⟩ = some (.string nm) ∧ wz.cell? ⟨wb.heap.size, 4, none⟩ = some (.slice Am n5 cm) ∧ (∀ g, (Value.slice A2 m2 c2).ownBlock = some g → g ≠ wb.heap.size) ∧ wb.heap.size < wz.heap.size ∧ szR (ofAll ((terms ms).take k) heads ++ brTake heads ⟨nm, ki, la, se, br⟩ j) ∧ Below w.heap.size w wz) (fun _ i _ => n5 - (intOf i).toNat)
          case atStart => exact ⟨0, m1, c1, A1, by omega, rfl, rfl, hc1, by omega, by rw [brTake_zero, List.append_nil]; exact hoa, hbc0, hbc4, hlt0, hsw, by rw [brTake_zero, List.append_nil]; exact hsz, hba⟩
          case round =>
            clear hba hoa hbc0 hbc4 hlt0 hsw ho hsz
            obtain ⟨j, m2, c2, A2, hj, rfl, rfl, hc2, hm2, ho2, hcn, hcn4, hg2, hsz2, hszr, hb2⟩ := hrel
            by_cases hlt2 : j < n5
            · obtain ⟨b9, off9, x, rfl, hx, hxs, hb9, hcx0⟩ := hbr.at_ hlt2
              have hcx := (hb2.cell (p := ⟨b9, off9 + j, none⟩) hb9).trans hcx0
              have hlt2' : (j : Int) < n5 := by omega
              cases hxh : Rf.has heads x
              · have HX := Lib.hid hxh
                have hms := Lib.hid (brTake_miss (t := ⟨nm, ki, la, se, br⟩) hx hxh)
                clear hx hxh hcx0
                go_wp2_with (go_at_call 50; refine (has_any _ _ _ heads x _ (by omega) (hh.below hb2)).mono ?_; rintro e _ ⟨rfl, rfl⟩; rw [HX.out])
                go_roundw
                case rel => exact ⟨j + 1, m2, c2, A2, by omega, by go_num, rfl, hc2, by omega, by rw [hms.out]; exact ho2, hcn, hcn4, hg2, hsz2, by rw [hms.out]; exact hszr, hb2⟩
                case measure => simp [intOf]; omega
              · have HX := Lib.hid hxh
                have hms := Lib.hid (brTake_hit (t := ⟨nm, ki, la, se, br⟩) hx hxh)
                have hrt : some wb.heap.size ≠ (Value.slice A2 m2 c2).ownBlock := fun e => hg2 _ e.symm rfl
                have hrow2 := ho2.row
                have hrb : some b9 ≠ (Value.slice A2 m2 c2).ownBlock := fun e => by have := hrow2 b9 e.symm; omega
                have hcl : ∀ wq, wr.grownBy wq (Value.slice A2 m2 c2).ownBlock → wq.cell? ⟨wb.heap.size, 0, none⟩ = some (.string nm) ∧ wq.cell? ⟨wb.heap.size, 4, none⟩ = some (.slice (some ⟨b9, off9, none⟩) n5 cm) ∧ wq.cell? ⟨b9, off9 + j, none⟩ = some (.string x) := fun wq hg => ⟨hg.cell hcn hrt, hg.cell hcn4 hrt, hg.cell hcx hrb⟩
                clear hx hxh hcx0
                have hb17 : Below wr.heap.size wr wr.drew := brefl.drn 1
                have hbr17 : Below w.heap.size w wr.drew := hb2.drn 1
                have ho17 := ho2.drew
                have hS := hcl _ (grown_of hb17 _)
                go_wp2_with (go_at_call 50; refine (has_any _ _ _ heads x _ (by omega) (hh.below hb2)).mono ?_; rintro e _ ⟨rfl, rfl⟩; rw [HX.out])
                refine wp_region_mix [(true, 0), (true, 1), (true, 2), (true, 3), (true, 4), (true, 5), (true, 6), (true, 7), (true, 8), (false, 9), (false, 10), (true, 11)] 12 (fun wq => wq.cell? ⟨wb.heap.size, 0, none⟩ = some (.string nm) ∧ wq.cell? ⟨wb.heap.size, 4, none⟩ = some (.slice (some ⟨b9, off9, none⟩) n5 cm) ∧ wq.cell? ⟨b9, off9 + j, none⟩ = some (.string x)) (by kernel_rfl) (by kernel_rfl) ?_
                generalize wr.drew = wy at hb17 hbr17 ho17 hS ⊢
                refine wpMix_put (v := ?_) rfl rfl (Or.inl ⟨by rfl, fun wz hz => ?_⟩) hS ?_
                rotate_left
                (focus (go_simp; try (with_reducible rfl)))
                simp only [List.setIfInBounds_toArray, List.set_cons_succ, List.set_cons_zero]
                refine wpMix_put (v := ?_) rfl rfl (Or.inl ⟨by rfl, fun wz hz => ?_⟩) hS ?_
                rotate_left
                (focus (go_simp; try (with_reducible rfl)))
                simp only [List.setIfInBounds_toArray, List.set_cons_succ, List.set_cons_zero]
                refine wpMix_put (v := ?_) rfl rfl (Or.inl ⟨by rfl, fun wz hz => ?_⟩) hS ?_
                rotate_left
                (focus (go_simp; try (with_reducible rfl)))
                simp only [List.setIfInBounds_toArray, List.set_cons_succ, List.set_cons_zero]
                refine wpMix_put (v := ?_) rfl rfl (Or.inl ⟨by rfl, fun wz hz => ?_⟩) hS ?_
                rotate_left
                (focus (go_simp; try (with_reducible rfl)))
                simp only [List.setIfInBounds_toArray, List.set_cons_succ, List.set_cons_zero]
                refine wpMix_put (v := ?_) rfl rfl (Or.inl ⟨by rfl, fun wz hz => ?_⟩) hS ?_
                rotate_left
                (focus (go_simp; try (with_reducible rfl)))
                simp only [List.setIfInBounds_toArray, List.set_cons_succ, List.set_cons_zero]
                refine wpMix_put (v := ?_) rfl rfl (Or.inl ⟨by rfl, fun wz hz => ?_⟩) hS ?_
                rotate_left
                (focus (go_simp; try (with_reducible rfl)))
                simp only [List.setIfInBounds_toArray, List.set_cons_succ, List.set_cons_zero]
                refine wpMix_put (v := ?_) rfl rfl (Or.inl ⟨by rfl, fun wz hz => ?_⟩) hS ?_
                rotate_left
                (focus (go_simp; try (with_reducible rfl)))
                simp only [List.setIfInBounds_toArray, List.set_cons_succ, List.set_cons_zero]
                refine wpMix_put (v := ?_) rfl rfl (Or.inl ⟨by rfl, fun wz hz => ?_⟩) hS ?_
                rotate_left
                (focus (go_simp; try (with_reducible rfl)))
                simp only [List.setIfInBounds_toArray, List.set_cons_succ, List.set_cons_zero]
                refine wpMix_put (v := ?_) rfl rfl (Or.inl ⟨by rfl, fun wz hz => ?_⟩) hS ?_
                rotate_left
                (focus (go_simp; try (with_reducible rfl)))
                simp only [List.setIfInBounds_toArray, List.set_cons_succ, List.set_cons_zero]
                refine wpMix_step rfl (fun K hK => ?_)
                go_simp
                have hS7 := hcl _ (grown_of (hb17.al (.cells #[.string x, .string nm, .bool true] 135)) _)
                refine hK _ _ (fun _ => hS7) ?_
                clear hK K hS
                have hS := hS7
                clear hS7
                refine wpMix_step rfl (fun K hK => ?_)
                refine step_app _ refsT2 rfl (.tmp 65) (.tmp 74) rfl (ho17.alloc _) rfl rfl (news := [.string x, .string nm, .bool true]) rfl (Rds.new3 wy _ _ _ 135) (by simp [Value.oneCell']) ?_ ?_ ?_
                · omega
                · omega
                intro A8 c8 w8 o8 n8 g8 e8
                go_simp
                have hg8 := (grown_of (hb17.al (.cells #[.string x, .string nm, .bool true] 135)) _).trans g8
                have hb8 := (hbr17.al (.cells #[.string x, .string nm, .bool true] 135)).gr g8 (fun k e => Nat.le_trans hs3 (hrow2 k e))
                have hS7 := hcl _ hg8
                refine hK _ _ (fun _ => hS7) ?_
                clear hK K hS
                have hS := hS7
                clear hS7
                refine wpMix_put (v := ?_) rfl rfl (Or.inl ⟨by rfl, fun wz hz => ?_⟩) hS ?_
                rotate_left
                (focus (go_simp; try (with_reducible rfl)))
                simp only [List.setIfInBounds_toArray, List.set_cons_succ, List.set_cons_zero]
                refine wpMix_nil ?_
                have hg9 : ∀ g, (Value.slice A8 (m2 + 1) c8).ownBlock = some g → g ≠ wb.heap.size := fun g hg => by
                  rcases e8 with e8 | e8
                  · exact hg2 g (by rw [← e8]; exact hg)
                  · rw [e8] at hg
                    injection hg with hg
                    have := hb17.size
                    rw [← hg, World.size_alloc]; omega
                have hsz8 : wb.heap.size < w8.heap.size := Nat.lt_of_lt_of_le hsz2 hg8.size
                go_wp2
                go_roundw
                case rel => exact ⟨j + 1, m2 + 1, c8, A8, by omega, by go_num, rfl, n8, by omega, by rw [hms.out, ← List.append_assoc]; exact snoc_refs (r := ⟨x, nm, true⟩) o8, hS.1, hS.2.1, hg9, hsz8, (by
                  rw [hms.out, ← List.append_assoc]
                  intro q hq
                  rcases List.mem_append.1 hq with hq | hq
                  · exact hszr q hq
                  · simp at hq; subst hq; exact ⟨hxs, hnm⟩), hb8⟩
                case measure => simp [intOf]; omega
            · have hjn : j = n5 := by omega
              have hbt := Lib.hid (hall.out j (by show br.length ≤ j; rw [hbr.1]; omega))
              rw [hbt.out] at ho2 hszr
              have hlt2' : ¬ (j : Int) < n5 := by omega
              go_wp2
              go_roundw
              case rel => exact ⟨k + 1, m2, c2, A2, by omega, by go_num, rfl, hc2, by omega, by rw [hsn.out]; exact ho2, by rw [hsn.out]; exact hszr, hb2⟩
              case measure => simp [intOf]; omega
      · have hkn : k = n := by omega
        have htk := Lib.hid (take_all hlen hk hlt)
        rw [htk.out] at ho hsz
        have hlt' : ¬ (k : Int) < n := by omega
        go_wp2_with (go_at_call 69; refine (rsort_any _ _ _ _ _ (by omega) (Refs.own ho rfl hsz)).mono ?_; rintro e w5 ⟨A5, k5, c5, rs, rfl, hc5, hk5, hr5, hi5, hb5⟩)
        go_ret
        exact ⟨A5, k5, c5, rs, rfl, hc5, by omega, hr5, hio.out rs (hi5.is (by have := (Refs.own ho rfl hsz).1; omega)), hbl.tr hb5⟩
  · have hno : IsOf (terms ms) heads [] := by unfold IsOf; rw [if_neg h0]
    rw [decide_eq_false h0] at hv
    go_enter Tryz.func61, Tryz.ntmps61
    go_wp2_with (go_at_call 88; refine hv.mono ?_; rintro e w2 ⟨rfl, hb2⟩)
    go_ret
    exact ⟨none, 0, 0, [], rfl, Nat.le_refl _, by omega, Refs.nil _, hno, hb2⟩
end Go.Proofs.YtdfnfimajhagfaaGreatDoor
/- Walks: slices.Compact at references with repetitions, refer.Sort; the statements' model, Same; Repaired. -/
namespace Go.Proofs.YtdfnfimajhagfaaGreatDoor
open Go.RowKit Go.Maps Go.Sort Rf
theorem run_clear_cells {P : Program} (w : World) (t e : TypeId) (z : Value) (ht : P.underlying t = some (.slice e)) (hv : ∀ w, (zeroValue e).run P w = .ok z w) (h1 : ∀ u ∈ z.cells, u.oneCell' = true) (b o n c : Nat) (hn : 0 < n)
    (hc : ∀ j, j < n * z.cells.size → (w.cell? ⟨b, o + j, none⟩).isSome = true) (hf : ∀ j, j < n * z.cells.size → w.frozen? ⟨b, o + j, none⟩ = false) :
    ∃ vs : List Value, ∀ ty, (Builtin.clear_ #[t] ty #[.slice (some ⟨b, o, none⟩) n c]).run P w = .ok (.tuple #[]) (w.setCells b o vs) := by
  have hlen : (Builtin.zeroCells z.cells n).toList.length = n * z.cells.size := by simp [Builtin.zeroCells]
  have hst := run_storeCells_cells (P := P) b o (Builtin.zeroCells z.cells n).toList 0 w (by rw [hlen]; simpa using hc) (by rw [hlen]; simpa using hf) (by
    intro v hv'
    apply h1
    unfold Builtin.zeroCells at hv'
    simp at hv'
    obtain ⟨i, hi, rfl⟩ := hv'
    have hp : 0 < z.cells.size := by
      rcases Nat.eq_zero_or_pos z.cells.size with h | h
      · rw [h] at hi; simp at hi
      · exact h
    have hm : i % z.cells.size < z.cells.size := Nat.mod_lt _ hp
    simp [hm])
  simp only [Nat.add_zero] at hst
  obtain ⟨m, rfl⟩ : ∃ m, n = m + 1 := ⟨n - 1, by omega⟩
  refine ⟨(Builtin.zeroCells z.cells (m + 1)).toList, fun ty => ?_⟩
  simp [Builtin.clear_, run_underlying ht, hv, hst]
theorem refsCells_set : ∀ (l : List Ref) (k : Nat) (u : Ref), refsCells (l.set k u) = (((refsCells l).set (k * 3) (.string u.frm)).set (k * 3 + 1) (.string u.to)).set (k * 3 + 2) (.bool u.also)
  | [], k, u => by simp [refsCells]
  | r :: l, 0, u => by simp [refsCells, refCells]
  | r :: l, k + 1, u => by
    have := refsCells_set l k u
    simp only [refsCells, List.set_cons_succ, List.flatMap_cons, refCells, List.cons_append, List.nil_append] at *
    rw [this, show (k + 1) * 3 = k * 3 + 1 + 1 + 1 from by omega]
    simp only [List.set_cons_succ, show k * 3 + 1 + 1 + 1 + 1 = (k * 3 + 1) + 1 + 1 + 1 from by omega, show k * 3 + 1 + 1 + 1 + 2 = (k * 3 + 2) + 1 + 1 + 1 from by omega]
section
variable {w : World} {base : Nat} {e : TypeId} {A : Option Addr} {n c b : Nat} {l : List Ref}
theorem Own.refAt (h : Own w base e 3 (.slice A n c) n (refsCells l)) (hA : A = some ⟨b, 0, none⟩) {k : Nat} {r : Ref} (hk : l[k]? = some r) :
    w.cell? ⟨b, k * 3, none⟩ = some (.string r.frm) ∧ w.cell? ⟨b, k * 3 + 1, none⟩ = some (.string r.to) ∧ w.cell? ⟨b, k * 3 + 2, none⟩ = some (.bool r.also) := by
  refine ⟨h.cellAt hA ?_, h.cellAt hA ?_, h.cellAt hA ?_⟩
  · have := refsCells_get l k 0 (by omega); rw [hk] at this; exact this
  · have := refsCells_get l k 1 (by omega); rw [hk] at this; exact this
  · have := refsCells_get l k 2 (by omega); rw [hk] at this; exact this
theorem Own.setRef (h : Own w base e 3 (.slice A n c) n (refsCells l)) (hA : A = some ⟨b, 0, none⟩) (k : Nat) (u : Ref) :
    Own (((w.setCell ⟨b, k * 3, none⟩ (.string u.frm)).setCell ⟨b, k * 3 + 1, none⟩ (.string u.to)).setCell ⟨b, k * 3 + 2, none⟩ (.bool u.also)) base e 3 (.slice A n c) n (refsCells (l.set k u)) := by
  rw [refsCells_set]
  exact ((h.set hA _).set hA _).set hA _
end
theorem refsS : Tryz.prog.underlying 82 = some (.slice 136) := Tryz.underlying82
theorem zeroRef : ∀ w, (zeroValue 136).run Tryz.prog w = .ok (.agg #[.string ByteArray.empty, .string ByteArray.empty, .bool false]) w := fun w => by kernel_rfl
theorem neq_ref (r q : Ref) (w : World) : Sem.run Tryz.prog (binOp .neq 136 (.agg #[.string r.frm, .string r.to, .bool r.also]) (.agg #[.string q.frm, .string q.to, .bool q.also])) w = .ok (.bool (!decide (r = q))) w := by
  have h := eql_ref r q w
  rw [run_eql_struct] at h
  rw [run_neq_struct]
  revert h
  cases (Op.equalIn 10000 136 (.agg #[.string r.frm, .string r.to, .bool r.also]) (.agg #[.string q.frm, .string q.to, .bool q.also])).run Tryz.prog w <;> simp [Result.andThen]
  all_goals (intro h; first | (intro h2; subst h2; simp_all) | simp_all)
theorem get_bang {l : List Ref} {k : Nat} (h : k < l.length) : l[k]? = some l.toArray[k]! := by simp [h]
theorem arr_get {dk : Array Ref} {k : Nat} (h : k < dk.size) : dk.toList[k]? = some dk[k]! := by simp [h]
/-- the end of the second loop -/
theorem comp_done {l : List Ref} {k : Nat} {dk : Array Ref} (h : Lib.CompInv l.toArray l.length k dk) : dk.toList.take k = Lib.compact l := by
  have hk := h.lt
  have hs := h.size
  simp only [List.size_toArray] at hs
  apply List.ext_getElem?
  intro j
  unfold Lib.compact
  by_cases hj : j < k
  · rw [List.getElem?_take, if_pos hj, h.low j hj, arr_get (by omega)]
  · rw [List.getElem?_take, if_neg hj, List.getElem?_eq_none (by rw [h.len]; omega)]
set_option maxRecDepth 20000 in
set_option maxHeartbeats 2000000 in
theorem compactD_any {A : Option Addr} {n c base : Nat} {l : List Ref} {w : World} (hm : n ≤ 100000) (ho : Own w base 136 3 (.slice A n c) n (refsCells l)) (hs : szR l) :
    Calls Tryz.prog 151 #[.slice A n c] w fun e w' => ∃ k, e = .returned (.slice A k c) ∧ k ≤ n ∧ k ≤ c ∧ Refs w' A k (Lib.compact l) ∧ ∀ a : World, a.heap.size ≤ base → Below a.heap.size a w → Below a.heap.size a w' := by
  have hln : l.length = n := by have := ho.1.1; rw [refsCells_length] at this; omega
  have HLN := Lib.hid hln
  have hnc : n ≤ c := by
    obtain ⟨A', c', e, h, _⟩ := form_own _ ho.1
    injection e with _ _ e
    omega
  by_cases h2 : n < 2
  · have h2' : (n : Int) < 2 := by omega
    have HC := Lib.hid (Lib.compact_all l (fun j hj => Lib.keeps_lt_one _ j (by omega)))
    clear hln
    go_enter Tryz.func151, Tryz.ntmps151
    go_wp2
    go_ret
    exact ⟨n, rfl, Nat.le_refl _, hnc, by rw [HC.out]; exact Refs.own ho rfl hs, fun a _ h => h⟩
  · have h2' : ¬ (n : Int) < 2 := by omega
    obtain ⟨b, hA, hb1, hb2⟩ := ho.addr (by omega)
    subst hA
    clear hln
    go_enter Tryz.func151, Tryz.ntmps151
    go_wp2
    go_loopw [3] (fun i wr => ∃ q : Nat, q + 1 ≤ n ∧ i = .int .i64 ((q : Int) + 1) ∧ Hid (∀ j, j < q + 1 → Lib.keeps l.toArray j = true) ∧ Below w.heap.size w wr) (fun i _ => n - (intOf i).toNat)
    case atStart => exact ⟨0, by omega, rfl, Lib.keeps_lt_one _, brefl⟩
    case round =>
      obtain ⟨q, hq, rfl, hall, hbl⟩ := hrel
      by_cases hlt : q + 1 < n
      · have ho1 := ho.below hbl
        obtain ⟨d1, d2, d3⟩ := ho1.refAt rfl (get_bang (l := l) (k := q) (by rw [HLN.out]; omega))
        obtain ⟨e1, e2, e3⟩ := ho1.refAt rfl (get_bang (l := l) (k := q + 1) (by rw [HLN.out]; omega))
        obtain ⟨y, hy⟩ : ∃ y, l.toArray[q]! = y := ⟨_, rfl⟩
        obtain ⟨x, hx⟩ : ∃ x, l.toArray[q + 1]! = x := ⟨_, rfl⟩
        rw [hy] at d1 d2 d3
        rw [hx] at e1 e2 e3
        have HXY := Lib.hid (And.intro hx hy)
        have hlt' : (q : Int) + 1 < n := by omega
        have hk0 : (0 : Int) ≤ q := by omega
        have hk1 : (q : Int) < n := by omega
        have hk2 : (0 : Int) ≤ (q : Int) + 1 := by omega
        have hk3 : (q : Int) + 1 ≤ n := by omega
        have hk4 : (q : Int) + 1 ≤ c := by omega
        clear hx hy
        by_cases hxy : x = y
        · have he : ∀ w, Sem.run Tryz.prog (binOp .eql 136 (.agg #[.string x.frm, .string x.to, .bool x.also]) (.agg #[.string y.frm, .string y.to, .bool y.also])) w = .ok (.bool true) w := fun w => by rw [eql_ref, decide_eq_true hxy]
          have HI := Lib.hid (Lib.CompInv.start (k0 := q + 1) hall.out (Lib.keeps_neg (by omega) (by rw [HXY.out.1, Nat.add_sub_cancel, HXY.out.2]; exact hxy)))
          have hcq : ¬ c = q + 1 := by omega
          clear hxy
          go_wp2
          have hwrap := IntWalk.i64_in (q : Int) (by omega)
          go_quiet (fail)
          clear hwrap he d1 d2 d3 e1 e2 e3
          go_wp2
          have hB0 : ∀ a : World, a.heap.size ≤ base → Below a.heap.size a w → Below a.heap.size a (wr.drewN nq) := fun a ha h => h.tr (hbl.drn nq)
          have ho2 : Own (wr.drewN nq) base 136 3 (.slice (some ⟨b, 0, none⟩) n c) n (refsCells l.toArray.toList) := by simpa using ho1.drewN nq
          clear ho1 HXY
          go_loopw [3, 5] (fun s3 s5 wz => ∃ (kk p : Nat) (dk : Array Ref), s3 = .int .i64 kk ∧ s5 = .int .i64 ((p : Int) + 1) ∧ q + 1 + (p + 1) ≤ n ∧ Hid (Lib.CompInv l.toArray (q + 1 + (p + 1)) kk dk) ∧ Own wz base 136 3 (.slice (some ⟨b, 0, none⟩) n c) n (refsCells dk.toList) ∧
            ∀ a : World, a.heap.size ≤ base → Below a.heap.size a w → Below a.heap.size a wz) (fun _ s5 _ => n - (intOf s5).toNat)
          case atStart => exact ⟨q + 1, 0, l.toArray, by go_num, rfl, by omega, HI.out, ho2, hB0⟩
          case round =>
            clear ho2 hB0
            obtain ⟨kk, p, dk, rfl, rfl, hqp, hI, ho3, hB⟩ := hrel
            have hkk := hI.out.lt
            have hds : dk.size = n := by rw [hI.out.size, List.size_toArray, HLN.out]
            have HDS := Lib.hid hds
            clear hds
            by_cases hlt3 : p + 1 < n - (q + 1)
            · obtain ⟨d1, d2, d3⟩ := ho3.refAt rfl (arr_get (k := q + 1 + p) (by rw [HDS.out]; omega))
              obtain ⟨e1, e2, e3⟩ := ho3.refAt rfl (arr_get (k := q + 1 + (p + 1)) (by rw [HDS.out]; omega))
              obtain ⟨g1, g2, g3⟩ := ho3.refAt rfl (arr_get (k := kk) (by rw [HDS.out]; omega))
              rw [hI.out.high (q + 1 + p) (by omega)] at d1 d2 d3
              rw [hI.out.high (q + 1 + (p + 1)) (by omega)] at e1 e2 e3
              rw [show (q + 1 + p) * 3 = (q + 1) * 3 + p * 3 from by omega] at d1 d2 d3
              rw [show (q + 1 + (p + 1)) * 3 = (q + 1) * 3 + (p + 1) * 3 from by omega] at e1 e2 e3
              obtain ⟨v, hv⟩ : ∃ v, l.toArray[q + 1 + p]! = v := ⟨_, rfl⟩
              obtain ⟨u, hu⟩ : ∃ u, l.toArray[q + 1 + (p + 1)]! = u := ⟨_, rfl⟩
              obtain ⟨z, hz⟩ : ∃ z, dk[kk]! = z := ⟨_, rfl⟩
              rw [hv] at d1 d2 d3
              rw [hu] at e1 e2 e3
              rw [hz] at g1 g2 g3
              have HUV := Lib.hid (And.intro hu hv)
              clear hu hv hz
              have hf1 := ho3.frozenAt rfl (kk * 3)
              have hf2 := ho3.frozenAt rfl (kk * 3 + 1)
              have hf3 := ho3.frozenAt rfl (kk * 3 + 2)
              have hp0 : (0 : Int) ≤ p := by omega
              have hp2 : (0 : Int) ≤ (p : Int) + 1 := by omega
              have hp1 : (p : Int) + 1 < ((n - (q + 1) : Nat) : Int) := by omega
              have hp3 : (p : Int) < ((n - (q + 1) : Nat) : Int) := by omega
              have hk5 : (kk : Int) < n := by omega
              by_cases huv : u = v
              · have he : ∀ w, Sem.run Tryz.prog (binOp .neq 136 (.agg #[.string u.frm, .string u.to, .bool u.also]) (.agg #[.string v.frm, .string v.to, .bool v.also])) w = .ok (.bool false) w := fun w => by rw [neq_ref, decide_eq_true huv]; rfl
                have HN := Lib.hid (hI.out.skip (Lib.keeps_neg (by omega) (by rw [HUV.out.1, show q + 1 + (p + 1) - 1 = q + 1 + p from by omega, HUV.out.2]; exact huv)))
                clear huv
                go_wp2
                have hwrap := IntWalk.i64_in (p : Int) (by omega)
                go_quiet (fail)
                clear hwrap
                go_wp2
                go_roundw
                case rel => exact ⟨kk, p + 1, dk, rfl, by go_num, by omega, HN.out, ho3.drewN _, fun a ha h => (hB a ha h).drn _⟩
                case measure => simp [intOf]; omega
              · have he : ∀ w, Sem.run Tryz.prog (binOp .neq 136 (.agg #[.string u.frm, .string u.to, .bool u.also]) (.agg #[.string v.frm, .string v.to, .bool v.also])) w = .ok (.bool true) w := fun w => by rw [neq_ref, decide_eq_false huv]; rfl
                have HN := Lib.hid (hI.out.keep (by rw [List.size_toArray, HLN.out]; omega) (Lib.keeps_pos (by rw [HUV.out.1, show q + 1 + (p + 1) - 1 = q + 1 + p from by omega, HUV.out.2]; exact huv)))
                rw [HUV.out.1] at HN
                clear huv
                go_wp2
                have hwrap := IntWalk.i64_in (p : Int) (by omega)
                go_quiet (fail)
                clear hwrap
                go_wp2
                have ho4 := (ho3.drewN nq).setRef rfl kk u
                go_roundw
                case rel => exact ⟨kk + 1, p + 1, _, by go_num, by go_num, by omega, HN.out, by rw [Array.toList_setIfInBounds]; exact ho4, fun a ha h => ((((hB a ha h).drn _).st (p := ⟨b, kk * 3, none⟩) (Nat.le_trans ha hb1) _).st (p := ⟨b, kk * 3 + 1, none⟩) (Nat.le_trans ha hb1) _).st (p := ⟨b, kk * 3 + 2, none⟩) (Nat.le_trans ha hb1) _⟩
                case measure => simp [intOf]; omega
            · have hp1 : ¬ (p : Int) + 1 < ((n - (q + 1) : Nat) : Int) := by omega
              have hck : ¬ c = kk := by omega
              have hk5 : (kk : Int) ≤ n := by omega
              have hk6 : (kk : Int) ≤ c := by omega
              obtain ⟨vs, hcl⟩ := run_clear_cells wr _ _ _ refsS zeroRef (by simp [Value.cells, Value.oneCell']) b (kk * 3) (n - kk) (c - kk) (by omega) (fun j hj => by
                have hj : j < (n - kk) * 3 := hj
                have hlen : kk * 3 + j < (refsCells dk.toList).length := by rw [refsCells_length, Array.length_toList, HDS.out]; omega
                rw [ho3.cellAt rfl (List.getElem?_eq_getElem hlen)]; rfl) (fun j _ => ho3.frozenAt rfl _)
              have HD := Lib.hid (comp_done (l := l) (k := kk) (dk := dk) (by have := hI.out; rwa [show q + 1 + (p + 1) = l.length from by rw [HLN.out]; omega] at this))
              clear hkk
              go_wp2
              go_ret
              refine ⟨kk, rfl, by omega, by omega, ⟨?_, ?_, ?_⟩, fun a ha h => below_cells (Nat.le_trans ha hb1) _ _ _ (hB a ha h)⟩
              · rw [← HD.out, List.length_take, Array.length_toList, HDS.out]; omega
              · intro r hr
                exact hs r (mem_compactR.1 hr)
              · refine Rds.cells_out ?_ rfl ?_
                · rw [← HD.out, ← refsCells_take]
                  exact ho3.reads.take _
                · rw [← HD.out, refsCells_length, List.length_take]; omega
        · have he : ∀ w, Sem.run Tryz.prog (binOp .eql 136 (.agg #[.string x.frm, .string x.to, .bool x.also]) (.agg #[.string y.frm, .string y.to, .bool y.also])) w = .ok (.bool false) w := fun w => by rw [eql_ref, decide_eq_false hxy]
          have HK := Lib.hid (show ∀ j, j < q + 1 + 1 → Lib.keeps l.toArray j = true from fun j hj => by
            by_cases h : j = q + 1
            · rw [h]; exact Lib.keeps_pos (by rw [HXY.out.1, Nat.add_sub_cancel, HXY.out.2]; exact hxy)
            · exact hall.out j (by omega))
          clear hxy
          go_wp2
          have hwrap := IntWalk.i64_in (q : Int) (by omega)
          go_quiet (fail)
          clear hwrap
          go_wp2
          go_roundw
          case rel => exact ⟨q + 1, by omega, by go_num, HK.out, hbl.drn _⟩
          case measure => simp [intOf]; omega
      · have hlt' : ¬ (q : Int) + 1 < n := by omega
        have HC := Lib.hid (Lib.compact_all l (fun j hj => hall.out j (by rw [HLN.out] at hj; omega)))
        go_wp2
        go_ret
        exact ⟨n, rfl, Nat.le_refl _, hnc, by rw [HC.out]; exact Refs.own (ho.below hbl) rfl hs, fun a ha h => h.tr hbl⟩
set_option maxRecDepth 20000 in
set_option maxHeartbeats 1000000 in
theorem sortedD_any {A : Option Addr} {n c base : Nat} {l : List Ref} {w : World} (hm : n ≤ 100000) (ho : Own w base 136 3 (.slice A n c) n (refsCells l)) (hs : szR l) :
    Calls Tryz.prog 117 #[.slice A n c, .func (.func 118) #[] #[]] w fun e w' => ∃ A' k c' rs, e = .returned (.slice A' k c') ∧ k ≤ c' ∧ k ≤ n ∧ Refs w' A' k rs ∧ IsSortR l rs ∧ Below w.heap.size w w' := by
  have hsz : szR (msortR l) := fun r hr => hs r (mem_msortR.1 hr)
  go_enter Tryz.func117, Tryz.ntmps117
  go_wp2_with (first
    | (go_at_call 149; refine (cloneR_any hm ho).mono ?_; rintro e w2 ⟨A2, c2, rfl, hc2, ho2, hb2⟩)
    | (go_at_call 150; refine (sortR_any hm ho2).mono ?_; rintro e w3 ⟨rfl, ho3, hg3⟩)
    | (go_at_call 151; refine (compactD_any hm ho3 hsz).mono ?_; rintro e w4 ⟨k4, rfl, hk4, hkc4, hr4, hB4⟩))
  go_ret
  exact ⟨A2, k4, c2, _, rfl, hkc4, hk4, hr4, ⟨compactR_sorted (msortR_pair l), fun r => mem_compactR.trans mem_msortR⟩, hB4 w (Nat.le_refl _) (hb2.gr hg3 ho2.row)⟩
set_option maxRecDepth 20000 in
set_option maxHeartbeats 1000000 in
theorem sortD_any {A : Option Addr} {n c base : Nat} {l : List Ref} {w : World} (hm : n ≤ 100000) (ho : Own w base 136 3 (.slice A n c) n (refsCells l)) (hs : szR l) :
    Calls Tryz.prog 68 #[.slice A n c] w fun e w' => ∃ A' k c' rs, e = .returned (.slice A' k c') ∧ k ≤ c' ∧ k ≤ n ∧ Refs w' A' k rs ∧ IsSortR l rs ∧ Below w.heap.size w w' := by
  have h := sortedD_any hm ho hs
  go_enter Tryz.func68, Tryz.ntmps68
  go_wp2_with (go_at_call 117; refine h.mono ?_; rintro e w2 ⟨A2, k2, c2, rs, rfl, hc2, hk2, hr2, hi2, hb2⟩)
  go_ret
  exact ⟨A2, k2, c2, rs, rfl, hc2, hk2, hr2, hi2, hb2⟩
set_option maxRecDepth 20000 in
set_option maxHeartbeats 4000000 in
theorem model_new (A : Option Addr) (n c : Nat) (l : List Ref) (w : World) (hm : n ≤ 100000) (hl : Refs w A n l) :
    Calls Tryz.prog 59 #[.slice A n c] w fun e w' => ∃ A' c', e = .returned (.slice A' n c') ∧ n ≤ c' ∧ Own w' w.heap.size 135 3 (.slice A' n c') n (refsCells l) ∧ Below w.heap.size w w' := by
  go_enter Tryz.func59, Tryz.ntmps59
  go_wp2
  go_loopw [3, 4] (fun o ii wr => ∃ (i c1 : Nat) (A1 : Option Addr), i ≤ n ∧ ii = .int .i64 i ∧ o = .slice A1 i c1 ∧ i ≤ c1 ∧ Own wr w.heap.size 135 3 (.slice A1 i c1) i (refsCells (l.take i)) ∧ Below w.heap.size w wr) (fun _ ii _ => n - (intOf ii).toNat)
  case atStart => exact ⟨0, 0, none, by omega, rfl, rfl, by omega, Own.nil _ _ _ (Nat.le_refl _), brefl⟩
  case round =>
    obtain ⟨i, c1, A1, hi, rfl, rfl, hc1, ho, hbl⟩ := hrel
    by_cases hlt : i < n
    · obtain ⟨b, off, r, rfl, hx, hs1, hs2, hb0, hd1, hd2, hd3⟩ := hl.at_ hlt
      have hd := Lib.hid (Rf.take_snoc hx)
      have hlti : (i : Int) < n := by omega
      clear hx
      have hcells : ∀ wz, Below w.heap.size w wz → wz.cell? ⟨b, off + i * 3, none⟩ = some (.string r.frm) ∧ wz.cell? ⟨b, off + i * 3 + 1, none⟩ = some (.string r.to) ∧ wz.cell? ⟨b, off + i * 3 + 2, none⟩ = some (.bool r.also) := fun wz hz =>
        ⟨(hz.cell (p := ⟨b, off + i * 3, none⟩) hb0).trans hd1, (hz.cell (p := ⟨b, off + i * 3 + 1, none⟩) hb0).trans hd2, (hz.cell (p := ⟨b, off + i * 3 + 2, none⟩) hb0).trans hd3⟩
      clear hd1 hd2 hd3 hb0
      have hbw5 : Below w.heap.size w wr.drew := hbl.drn 1
      have ho5 := ho.drew
      have hS := hcells _ hbw5
      go_wp2
      refine wp_region_mix [(true, 0), (true, 1), (true, 2), (true, 3), (true, 4), (true, 5), (true, 6), (true, 7), (true, 8), (true, 9), (true, 10), (true, 11), (true, 12), (true, 13), (true, 14), (true, 15), (true, 16), (false, 17), (false, 18), (true, 19)] 20 (fun wz => wz.cell? ⟨b, off + i * 3, none⟩ = some (.string r.frm) ∧ wz.cell? ⟨b, off + i * 3 + 1, none⟩ = some (.string r.to) ∧ wz.cell? ⟨b, off + i * 3 + 2, none⟩ = some (.bool r.also)) (by kernel_rfl) (by kernel_rfl) ?_
      generalize wr.drew = w5 at hbw5 ho5 hS ⊢
      refine wpMix_put (v := ?_) rfl rfl (Or.inl ⟨by rfl, fun wz hz => ?_⟩) hS ?_
      rotate_left
      (focus (go_simp; try (with_reducible rfl)))
      simp only [List.setIfInBounds_toArray, List.set_cons_succ, List.set_cons_zero]
      refine wpMix_put (v := ?_) rfl rfl (Or.inl ⟨by rfl, fun wz hz => ?_⟩) hS ?_
      rotate_left
      (focus (go_simp; try (with_reducible rfl)))
      simp only [List.setIfInBounds_toArray, List.set_cons_succ, List.set_cons_zero]
      refine wpMix_put (v := ?_) rfl rfl (Or.inl ⟨by rfl, fun wz hz => ?_⟩) hS ?_
      rotate_left
      (focus (go_simp; try (with_reducible rfl)))
      simp only [List.setIfInBounds_toArray, List.set_cons_succ, List.set_cons_zero]
      refine wpMix_put (v := ?_) rfl rfl (Or.inl ⟨by rfl, fun wz hz => ?_⟩) hS ?_
      rotate_left
      (focus (go_simp; try (with_reducible rfl)))
      simp only [List.setIfInBounds_toArray, List.set_cons_succ, List.set_cons_zero]
      refine wpMix_put (v := ?_) rfl rfl (Or.inl ⟨by rfl, fun wz hz => ?_⟩) hS ?_
      rotate_left
      (focus (go_simp; try (with_reducible rfl)))
      simp only [List.setIfInBounds_toArray, List.set_cons_succ, List.set_cons_zero]
      refine wpMix_put (v := ?_) rfl rfl (Or.inl ⟨by rfl, fun wz hz => ?_⟩) hS ?_
      rotate_left
      (focus (go_simp; try (with_reducible rfl)))
      simp only [List.setIfInBounds_toArray, List.set_cons_succ, List.set_cons_zero]
      refine wpMix_put (v := ?_) rfl rfl (Or.inl ⟨by rfl, fun wz hz => ?_⟩) hS ?_
      rotate_left
      (focus (go_simp; try (with_reducible rfl)))
      simp only [List.setIfInBounds_toArray, List.set_cons_succ, List.set_cons_zero]
      refine wpMix_put (v := ?_) rfl rfl (Or.inl ⟨by rfl, fun wz hz => ?_⟩) hS ?_
      rotate_left
      (focus (go_simp; try (with_reducible rfl)))
      simp only [List.setIfInBounds_toArray, List.set_cons_succ, List.set_cons_zero]
      refine wpMix_put (v := ?_) rfl rfl (Or.inl ⟨by rfl, fun wz hz => ?_⟩) hS ?_
      rotate_left
      (focus (go_simp; try (with_reducible rfl)))
      simp only [List.setIfInBounds_toArray, List.set_cons_succ, List.set_cons_zero]
      refine wpMix_put (v := ?_) rfl rfl (Or.inl ⟨by rfl, fun wz hz => ?_⟩) hS ?_
      rotate_left
      (focus (go_simp; try (with_reducible rfl)))
      simp only [List.setIfInBounds_toArray, List.set_cons_succ, List.set_cons_zero]
      refine wpMix_put (v := ?_) rfl rfl (Or.inl ⟨by rfl, fun wz hz => ?_⟩) hS ?_
      rotate_left
      (focus (go_simp; try (with_reducible rfl)))
      simp only [List.setIfInBounds_toArray, List.set_cons_succ, List.set_cons_zero]
      refine wpMix_put (v := ?_) rfl rfl (Or.inl ⟨by rfl, fun wz hz => ?_⟩) hS ?_
      rotate_left
      (focus (go_simp; try (with_reducible rfl)))
      simp only [List.setIfInBounds_toArray, List.set_cons_succ, List.set_cons_zero]
      refine wpMix_put (v := ?_) rfl rfl (Or.inl ⟨by rfl, fun wz hz => ?_⟩) hS ?_
      rotate_left
      (focus (go_simp; try (with_reducible rfl)))
      simp only [List.setIfInBounds_toArray, List.set_cons_succ, List.set_cons_zero]
      refine wpMix_put (v := ?_) rfl rfl (Or.inl ⟨by rfl, fun wz hz => ?_⟩) hS ?_
      rotate_left
      (focus (go_simp; try (with_reducible rfl)))
      simp only [List.setIfInBounds_toArray, List.set_cons_succ, List.set_cons_zero]
      refine wpMix_put (v := ?_) rfl rfl (Or.inl ⟨by rfl, fun wz hz => ?_⟩) hS ?_
      rotate_left
      (focus (go_simp; try (with_reducible rfl)))
      simp only [List.setIfInBounds_toArray, List.set_cons_succ, List.set_cons_zero]
      refine wpMix_put (v := ?_) rfl rfl (Or.inl ⟨by rfl, fun wz hz => ?_⟩) hS ?_
      rotate_left
      (focus (go_simp; try (with_reducible rfl)))
      simp only [List.setIfInBounds_toArray, List.set_cons_succ, List.set_cons_zero]
      refine wpMix_put (v := ?_) rfl rfl (Or.inl ⟨by rfl, fun wz hz => ?_⟩) hS ?_
      rotate_left
      (focus (go_simp; try (with_reducible rfl)))
      simp only [List.setIfInBounds_toArray, List.set_cons_succ, List.set_cons_zero]
      refine wpMix_step rfl (fun K hK => ?_)
      go_simp
      have hS7 := hcells _ (hbw5.al (.cells #[.string r.frm, .string r.to, .bool r.also] 135))
      refine hK _ _ (fun _ => hS7) ?_
      clear hK K hS
      have hS := hS7
      clear hS7
      refine wpMix_step rfl (fun K hK => ?_)
      refine step_app _ refsT2 rfl (.tmp 11) (.tmp 28) rfl (ho5.alloc _) rfl rfl (news := [.string r.frm, .string r.to, .bool r.also]) rfl (Rds.new3 w5 _ _ _ 135) (by simp [Value.oneCell']) ?_ ?_ ?_
      · omega
      · omega
      intro A4 c4 w4 o4 n4 g4 _
      go_simp
      have hb4 := (hbw5.al (.cells #[.string r.frm, .string r.to, .bool r.also] 135)).gr g4 ho5.row
      have hS7 := hcells _ hb4
      refine hK _ _ (fun _ => hS7) ?_
      clear hK K hS
      have hS := hS7
      clear hS7
      refine wpMix_put (v := ?_) rfl rfl (Or.inl ⟨by rfl, fun wz hz => ?_⟩) hS ?_
      rotate_left
      (focus (go_simp; try (with_reducible rfl)))
      simp only [List.setIfInBounds_toArray, List.set_cons_succ, List.set_cons_zero]
      refine wpMix_nil ?_
      clear hS hcells
      go_wp2
      go_roundw
      case rel => exact ⟨i + 1, c4, A4, by omega, by go_num, rfl, n4, by rw [hd.out]; exact snoc_refs o4, hb4⟩
      case measure => simp [intOf]; omega
    · have hin : i = n := by omega
      subst hin
      go_wp2
      go_ret
      exact ⟨A1, c1, rfl, hc1, by rw [take_all hl.1 hi hlt] at ho; exact ho, hbl⟩
theorem model_any (A : Option Addr) (n c : Nat) (l : List Ref) (w : World) (hm : n ≤ 100000) (hl : Refs w A n l) :
    Calls Tryz.prog 59 #[.slice A n c] w fun e w' => ∃ A' c', e = .returned (.slice A' n c') ∧ n ≤ c' ∧ Refs w' A' n l ∧ Below w.heap.size w w' :=
  (model_new A n c l w hm hl).mono fun _ _ ⟨A', c', h1, h2, h3, h4⟩ => ⟨A', c', h1, h2, Refs.own h3 rfl hl.2.1, h4⟩
set_option maxHeartbeats 1000000 in
theorem sameR_any (A B : Option Addr) (n c d : Nat) (l : List Ref) (w : World) (hm : n ≤ 100000) (ha : Refs w A n l) (hb : Refs w B n l) :
    Calls Tryz.prog 58 #[.slice A n c, .slice B n d] w fun e w' => e = .returned (.bool true) ∧ Below w.heap.size w w' := by
  go_enter Tryz.func58, Tryz.ntmps58
  go_wp2
  go_loopw [5] (fun i wr => ∃ k : Nat, k ≤ n ∧ i = .int .i64 k ∧ Below w.heap.size w wr) (fun i _ => n - (intOf i).toNat)
  case atStart => exact ⟨0, by omega, rfl, brefl⟩
  case round =>
    obtain ⟨k, hk, rfl, hbl⟩ := hrel
    by_cases hlt : k < n
    · obtain ⟨b, off, x, rfl, hx, _, _, _, hc1, hc2, hc3⟩ := (ha.below hbl).at_ hlt
      obtain ⟨b', off', x', rfl, hx', _, _, _, hc1', hc2', hc3'⟩ := (hb.below hbl).at_ hlt
      rw [hx] at hx'
      cases hx'
      have hlt' : (k : Int) < n := by omega
      have he : ∀ w, Sem.run Tryz.prog (binOp .neq 135 (.agg #[.string x.frm, .string x.to, .bool x.also]) (.agg #[.string x.frm, .string x.to, .bool x.also])) w = .ok (.bool false) w := fun w => by rw [neq_ref2, decide_eq_true rfl]; rfl
      clear hx
      go_wp2
      go_quiet (fail)
      go_wp2
      go_roundw
      case rel => exact ⟨k + 1, by omega, by go_num, hbl.drn _⟩
      case measure => simp [intOf]; omega
    · go_wp2
      go_ret
      exact ⟨rfl, hbl⟩
/-- a list of references of which none is wrong -/
def ARefsV (k : Nat) (heads : List S) (w : World) (e : Ending) (w' : World) : Prop := ∃ A n c l, e = .returned (.slice A n c) ∧ n ≤ c ∧ n ≤ k ∧ Refs w' A n l ∧ valid l heads = (n, 0) ∧ Below w.heap.size w w'
set_option maxRecDepth 20000 in
set_option maxHeartbeats 2000000 in
theorem repairedV_any (A B : Option Addr) (n m c d : Nat) (l : List Int) (heads : List S) (most : Int) (w : World) (h0 : -9223372036854775808 ≤ most) (h1 : most ≤ 10000) (hn : n ≤ 9223372036854775807) (hmh : m ≤ 100000) (hl : Ints w A n l) (hh : Strs w B m heads) :
    Calls Tryz.prog 67 #[.slice A n c, .slice B m d, .int .i64 most] w (ARefsV most.toNat heads w) := by
  go_enter Tryz.func67, Tryz.ntmps67
  go_wp2_with fail
  refine (refs_any _ _ _ _ _ _ h0 (by omega) hn hl).mono ?_
  rintro e w2 ⟨A2, n2, c2, l2, rfl, hc2, hn2, hl2, hb2⟩
  go_wp2_with fail
  refine (repair_ref _ _ _ _ _ _ _ _ _ (by omega) (by omega) hl2 (hh.below hb2)).mono ?_
  rintro e w3 ⟨A3, k3, c3, A4, k4, c4, rfl, hk3, hkn3, hk4, hkn4, hi3, hs4, hb3⟩
  go_wp2_with fail
  refine (without_any _ _ _ _ _ _ _ _ _ (by omega) (by omega) (hl2.below hb3) hi3).mono ?_
  rintro e w5 ⟨A5, k5, c5, rfl, hk5, hkn5, hr5, hb5⟩
  go_wp2
  go_ret
  rw [rest_eq] at hr5
  have hlen := hr5.1
  exact ⟨A5, k5, c5, _, rfl, hk5, by omega, hr5, by rw [valid_of_ok rest_ok, hlen]; rfl, (hb2.tr hb3).tr hb5⟩
end Go.Proofs.YtdfnfimajhagfaaGreatDoor
