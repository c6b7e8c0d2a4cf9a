/- Walks: Wrong and Valid of the reference model. -/
import Derived.Test.YtdfnfimajhagfaaGreatDoorW4
import Derived.Test.YtdfnfimajhagfaaGreatDoorP3
namespace Go.Proofs.YtdfnfimajhagfaaGreatDoor
open Go.RowKit Go.Maps Rf
set_option maxRecDepth 20000 in
theorem eql_ref2 (r q : Ref) (w : World) : Sem.run Tryz.prog (binOp .eql 135 (.agg #[.string r.frm, .string r.to, .bool r.also]) (.agg #[.string q.frm, .string q.to, .bool q.also])) w = .ok (.bool (decide (r = q))) w := by
  have u3 := Tryz.underlying9
  have u4 := Tryz.underlying4
  have hS : Tryz.prog.underlying 135 = some (.struct (Tryz.prog.fieldsOf 135)) := by kernel_rfl
  have hp : Tryz.prog.stoodInHeld 135 = false := by kernel_rfl
  rw [run_eql_struct, show (10000 : Nat) = 9999 + 1 from rfl, run_equalIn_agg w 9999 135 _ _ hS hp]
  simp only [Program.fieldsOf, Tryz.underlying135]
  go_simp
  by_cases h1 : r.frm.toList = q.frm.toList <;> by_cases h2 : r.to.toList = q.to.toList <;> by_cases h3 : r.also = q.also <;> simp [h1, h2, h3] <;> rw [ref_iff] <;> simp [h1, h2, h3]
def clashes (r q : Ref) : Bool := !r.also && !q.also && eqS q.frm r.frm
section
variable {l : List Ref} {heads : List S} {i : Nat} {r : Ref}
theorem wr1 (h1 : (l.take i).contains r = true) : wrong l heads i r = 7 := by unfold wrong; rw [if_pos h1]; rfl
theorem wr2 (h1 : (l.take i).contains r = false) (h2 : (has heads r.frm != r.also) = true) : wrong l heads i r = 11 := by unfold wrong; rw [if_neg (by rw [h1]; simp), if_pos h2]; rfl
theorem wr3 (h1 : (l.take i).contains r = false) (h2 : (has heads r.frm != r.also) = false) (h3 : (l.take i).any (clashes r) = true) : wrong l heads i r = 14 := by
  unfold wrong; rw [if_neg (by rw [h1]; simp), if_neg (by rw [h2]; simp), if_pos (show ((l.take i).any fun q => !r.also && !q.also && eqS q.frm r.frm) = true from h3)]; rfl
theorem wr4 (h1 : (l.take i).contains r = false) (h2 : (has heads r.frm != r.also) = false) (h3 : (l.take i).any (clashes r) = false) (h4 : (!has heads r.to && (r.also || (see l r.to).isNone)) = true) : wrong l heads i r = 6 := by
  unfold wrong; rw [if_neg (by rw [h1]; simp), if_neg (by rw [h2]; simp), if_neg (by rw [show ((l.take i).any fun q => !r.also && !q.also && eqS q.frm r.frm) = false from h3]; simp), if_pos h4]; rfl
theorem wr5 (h1 : (l.take i).contains r = false) (h2 : (has heads r.frm != r.also) = false) (h3 : (l.take i).any (clashes r) = false) (h4 : (!has heads r.to && (r.also || (see l r.to).isNone)) = false) (ha : r.also = true) : wrong l heads i r = if (r.frm.toList == r.to.toList) then 13 else 0 := by
  unfold wrong; rw [if_neg (by rw [h1]; simp), if_neg (by rw [h2]; simp), if_neg (by rw [show ((l.take i).any fun q => !r.also && !q.also && eqS q.frm r.frm) = false from h3]; simp), if_neg (by rw [h4]; simp), if_pos ha]; rfl
theorem wr6 (h1 : (l.take i).contains r = false) (h2 : (has heads r.frm != r.also) = false) (h3 : (l.take i).any (clashes r) = false) (h4 : (!has heads r.to && (r.also || (see l r.to).isNone)) = false) (ha : r.also = false) {n : Nat} (hn : l.length = n) : wrong l heads i r = if circles l heads r.frm (n + 1) r.to then 13 else 0 := by
  subst hn
  unfold wrong; rw [if_neg (by rw [h1]; simp), if_neg (by rw [h2]; simp), if_neg (by rw [show ((l.take i).any fun q => !r.also && !q.also && eqS q.frm r.frm) = false from h3]; simp), if_neg (by rw [h4]; simp), if_neg (by rw [ha]; simp)]; rfl
theorem contains_snoc {k : Nat} {q : Ref} (h : l[k]? = some q) (hc : (l.take k).contains r = false) (hq : decide (q = r) = false) : (l.take (k + 1)).contains r = false := by
  have hqr : ¬ q = r := of_decide_eq_false hq
  rw [Rf.take_snoc h, ← Bool.not_eq_true, List.contains_iff_mem, List.mem_append]
  rw [← Bool.not_eq_true, List.contains_iff_mem] at hc
  rintro (h | h)
  · exact hc h
  · simp at h; exact hqr h.symm
theorem contains_here {k : Nat} {q : Ref} (h : l[k]? = some q) (hk : k < i) (hq : decide (q = r) = true) : (l.take i).contains r = true := by
  have hqr : q = r := of_decide_eq_true hq
  subst hqr
  obtain ⟨hl, rfl⟩ := List.getElem?_eq_some_iff.1 h
  rw [List.contains_iff_mem]
  exact List.mem_take_iff_getElem.2 ⟨k, by omega, rfl⟩
theorem clash_snoc {k : Nat} {q : Ref} (h : l[k]? = some q) : (l.take (k + 1)).any (clashes r) = ((l.take k).any (clashes r) || clashes r q) := by
  rw [Rf.take_snoc h, List.any_append]; simp
theorem clash_also (ha : r.also = true) (m : List Ref) : m.any (clashes r) = false := by
  rw [List.any_eq_false]; intro q _; simp [clashes, ha]
end
set_option maxRecDepth 20000 in
set_option maxHeartbeats 8000000 in
theorem wrong_ref (A B : Option Addr) (n m c d : Nat) (l : List Ref) (heads : List S) (i : Nat) (r : Ref) (w : World) (hm : n ≤ 100000) (hmh : m ≤ 1000000) (hl : Refs w A n l) (hh : Strs w B m heads) (hi : l[i]? = some r) :
    Calls Tryz.prog 114 #[.slice A n c, .slice B m d, .int .i64 i] w fun e w' => e = .returned (.int .i64 (wrong l heads i r)) ∧ Below w.heap.size w w' := by
  have hin : i < n := by have := (List.getElem?_eq_some_iff.1 hi).1; have := hl.1; omega
  obtain ⟨b, off, q, rfl, hx, hs1, hs2, hb0, hc1, hc2, hc3⟩ := hl.at_ hin
  obtain rfl : q = r := by rw [hi] at hx; injection hx with hx; exact hx.symm
  clear hx hi hb0
  have HN := Lib.hid hl.1
  go_enter Tryz.func114, Tryz.ntmps114
  go_wp2
  obtain ⟨r, hr⟩ : ∃ r, r = q := ⟨_, rfl⟩
  subst hr
  go_loopw [8, 9] (fun cl j wr => ∃ k : Nat, k ≤ i ∧ j = .int .i64 k ∧ cl = .bool ((l.take k).any (clashes r)) ∧ (wr.cell? ⟨w.heap.size, 0, none⟩ = some (.string r.frm) ∧ wr.cell? ⟨w.heap.size, 1, none⟩ = some (.string r.to) ∧ wr.cell? ⟨w.heap.size, 2, none⟩ = some (.bool r.also)) ∧
      Hid ((l.take k).contains r = false) ∧ Below w.heap.size w wr) (fun _ j _ => i - (intOf j).toNat)
  case atStart => exact ⟨0, by omega, rfl, rfl, ⟨by simp, by simp, by simp⟩, Lib.hid (by simp), brefl.al _⟩
  case round =>
    clear hc1 hc2 hc3
    obtain ⟨k, hk, rfl, rfl, ⟨c0, c1, c2⟩, hcn, hbl⟩ := hrel
    by_cases hlt : k < i
    · obtain ⟨b2, off2, q, hA2, hx, hq1, hq2, hb0, hc1, hc2, hc3⟩ := (hl.below hbl).at_ (k := k) (by omega)
      injection hA2 with hA2
      injection hA2 with hA3 hA4
      subst hA3; subst hA4
      have hkn : (k : Int) < n := by omega
      have HX := Lib.hid hx
      have CS := Lib.hid (clash_snoc (r := r) hx)
      clear hx hb0
      have he := eql_ref2 q r
      cases hrq : decide (q = r)
      · rw [hrq] at he
        cases hcl : (l.take k).any (clashes r)
        · rw [hcl] at CS
          cases ha : r.also
          · rw [ha] at c2 he
            cases hqa : q.also
            · rw [hqa] at hc3 he
              cases heq : (q.frm.toList == r.frm.toList)
              · go_wp2
                go_quiet (fail)
                go_wp2
                have hS : ((wr.drewN nq).drew).cell? ⟨w.heap.size, 0, none⟩ = some (.string r.frm) ∧ ((wr.drewN nq).drew).cell? ⟨w.heap.size, 2, none⟩ = some (.bool false) ∧ ((wr.drewN nq).drew).cell? ⟨b, off + k * 3, none⟩ = some (.string q.frm) ∧ ((wr.drewN nq).drew).cell? ⟨b, off + k * 3 + 2, none⟩ = some (.bool false) := ⟨c0, c2, hc1, hc3⟩
                refine wp_region_mix [(true, 0), (true, 1), (true, 2), (true, 3), (true, 4), (true, 5), (true, 6), (true, 7), (true, 8), (true, 9), (true, 10), (true, 11), (true, 12), (true, 13), (true, 14), (true, 15), (true, 16), (true, 17), (true, 18), (true, 19), (true, 20), (true, 21), (true, 22), (true, 23), (true, 24)] 25 (fun wz => wz.cell? ⟨w.heap.size, 0, none⟩ = some (.string r.frm) ∧ wz.cell? ⟨w.heap.size, 2, none⟩ = some (.bool false) ∧ wz.cell? ⟨b, off + k * 3, none⟩ = some (.string q.frm) ∧ wz.cell? ⟨b, off + k * 3 + 2, none⟩ = some (.bool false)) (by kernel_rfl) (by kernel_rfl) ?_
                refine wpMix_put (v := ?_) rfl rfl (Or.inl ⟨by rfl, fun wz hz => ?_⟩) hS ?_
                rotate_left
                (focus (go_simp; try (with_reducible rfl)))
                simp only [List.setIfInBounds_toArray, List.set_cons_succ, List.set_cons_zero]
                refine wpMix_put (v := ?_) rfl rfl (Or.inl ⟨by rfl, fun wz hz => ?_⟩) hS ?_
                rotate_left
                (focus (go_simp; try (with_reducible rfl)))
                simp only [List.setIfInBounds_toArray, List.set_cons_succ, List.set_cons_zero]
                refine wpMix_put (v := ?_) rfl rfl (Or.inl ⟨by rfl, fun wz hz => ?_⟩) hS ?_
                rotate_left
                (focus (go_simp; try (with_reducible rfl)))
                simp only [List.setIfInBounds_toArray, List.set_cons_succ, List.set_cons_zero]
                refine wpMix_put (v := ?_) rfl rfl (Or.inl ⟨by rfl, fun wz hz => ?_⟩) hS ?_
                rotate_left
                (focus (go_simp; try (with_reducible rfl)))
                simp only [List.setIfInBounds_toArray, List.set_cons_succ, List.set_cons_zero]
                refine wpMix_put (v := ?_) rfl rfl (Or.inl ⟨by rfl, fun wz hz => ?_⟩) hS ?_
                rotate_left
                (focus (go_simp; try (with_reducible rfl)))
                simp only [List.setIfInBounds_toArray, List.set_cons_succ, List.set_cons_zero]
                refine wpMix_put (v := ?_) rfl rfl (Or.inl ⟨by rfl, fun wz hz => ?_⟩) hS ?_
                rotate_left
                (focus (go_simp; try (with_reducible rfl)))
                simp only [List.setIfInBounds_toArray, List.set_cons_succ, List.set_cons_zero]
                refine wpMix_put (v := ?_) rfl rfl (Or.inl ⟨by rfl, fun wz hz => ?_⟩) hS ?_
                rotate_left
                (focus (go_simp; try (with_reducible rfl)))
                simp only [List.setIfInBounds_toArray, List.set_cons_succ, List.set_cons_zero]
                refine wpMix_put (v := ?_) rfl rfl (Or.inl ⟨by rfl, fun wz hz => ?_⟩) hS ?_
                rotate_left
                (focus (go_simp; try (with_reducible rfl)))
                simp only [List.setIfInBounds_toArray, List.set_cons_succ, List.set_cons_zero]
                refine wpMix_put (v := ?_) rfl rfl (Or.inl ⟨by rfl, fun wz hz => ?_⟩) hS ?_
                rotate_left
                (focus (go_simp; try (with_reducible rfl)))
                simp only [List.setIfInBounds_toArray, List.set_cons_succ, List.set_cons_zero]
                refine wpMix_put (v := ?_) rfl rfl (Or.inl ⟨by rfl, fun wz hz => ?_⟩) hS ?_
                rotate_left
                (focus (go_simp; try (with_reducible rfl)))
                simp only [List.setIfInBounds_toArray, List.set_cons_succ, List.set_cons_zero]
                refine wpMix_put (v := ?_) rfl rfl (Or.inl ⟨by rfl, fun wz hz => ?_⟩) hS ?_
                rotate_left
                (focus (go_simp; try (with_reducible rfl)))
                simp only [List.setIfInBounds_toArray, List.set_cons_succ, List.set_cons_zero]
                refine wpMix_put (v := ?_) rfl rfl (Or.inl ⟨by rfl, fun wz hz => ?_⟩) hS ?_
                rotate_left
                (focus (go_simp; try (with_reducible rfl)))
                simp only [List.setIfInBounds_toArray, List.set_cons_succ, List.set_cons_zero]
                refine wpMix_put (v := ?_) rfl rfl (Or.inl ⟨by rfl, fun wz hz => ?_⟩) hS ?_
                rotate_left
                (focus (go_simp; try (with_reducible rfl)))
                simp only [List.setIfInBounds_toArray, List.set_cons_succ, List.set_cons_zero]
                refine wpMix_put (v := ?_) rfl rfl (Or.inl ⟨by rfl, fun wz hz => ?_⟩) hS ?_
                rotate_left
                (focus (go_simp; try (with_reducible rfl)))
                simp only [List.setIfInBounds_toArray, List.set_cons_succ, List.set_cons_zero]
                refine wpMix_put (v := ?_) rfl rfl (Or.inl ⟨by rfl, fun wz hz => ?_⟩) hS ?_
                rotate_left
                (focus (go_simp; try (with_reducible rfl)))
                simp only [List.setIfInBounds_toArray, List.set_cons_succ, List.set_cons_zero]
                refine wpMix_put (v := ?_) rfl rfl (Or.inl ⟨by rfl, fun wz hz => ?_⟩) hS ?_
                rotate_left
                (focus (go_simp; try (with_reducible rfl)))
                simp only [List.setIfInBounds_toArray, List.set_cons_succ, List.set_cons_zero]
                refine wpMix_put (v := ?_) rfl rfl (Or.inl ⟨by rfl, fun wz hz => ?_⟩) hS ?_
                rotate_left
                (focus (go_simp; try (with_reducible rfl)))
                simp only [List.setIfInBounds_toArray, List.set_cons_succ, List.set_cons_zero]
                refine wpMix_put (v := ?_) rfl rfl (Or.inl ⟨by rfl, fun wz hz => ?_⟩) hS ?_
                rotate_left
                (focus (go_simp; try (with_reducible rfl)))
                simp only [List.setIfInBounds_toArray, List.set_cons_succ, List.set_cons_zero]
                refine wpMix_put (v := ?_) rfl rfl (Or.inl ⟨by rfl, fun wz hz => ?_⟩) hS ?_
                rotate_left
                (focus (go_simp; try (with_reducible rfl)))
                simp only [List.setIfInBounds_toArray, List.set_cons_succ, List.set_cons_zero]
                refine wpMix_put (v := ?_) rfl rfl (Or.inl ⟨by rfl, fun wz hz => ?_⟩) hS ?_
                rotate_left
                (focus (go_simp; try (with_reducible rfl)))
                simp only [List.setIfInBounds_toArray, List.set_cons_succ, List.set_cons_zero]
                refine wpMix_put (v := ?_) rfl rfl (Or.inl ⟨by rfl, fun wz hz => ?_⟩) hS ?_
                rotate_left
                (focus (go_simp; try (with_reducible rfl)))
                simp only [List.setIfInBounds_toArray, List.set_cons_succ, List.set_cons_zero]
                refine wpMix_put (v := ?_) rfl rfl (Or.inl ⟨by rfl, fun wz hz => ?_⟩) hS ?_
                rotate_left
                (focus (go_simp; try (with_reducible rfl)))
                simp only [List.setIfInBounds_toArray, List.set_cons_succ, List.set_cons_zero]
                refine wpMix_put (v := ?_) rfl rfl (Or.inl ⟨by rfl, fun wz hz => ?_⟩) hS ?_
                rotate_left
                (focus (go_simp; try (with_reducible rfl)))
                simp only [List.setIfInBounds_toArray, List.set_cons_succ, List.set_cons_zero]
                refine wpMix_put (v := ?_) rfl rfl (Or.inl ⟨by rfl, fun wz hz => ?_⟩) hS ?_
                rotate_left
                (focus (go_simp; try (with_reducible rfl)))
                simp only [List.setIfInBounds_toArray, List.set_cons_succ, List.set_cons_zero]
                refine wpMix_put (v := ?_) rfl rfl (Or.inl ⟨by rfl, fun wz hz => ?_⟩) hS ?_
                rotate_left
                (focus (go_simp; try (with_reducible rfl)))
                simp only [List.setIfInBounds_toArray, List.set_cons_succ, List.set_cons_zero]
                refine wpMix_nil ?_
                clear hS
                go_wp2
                go_roundw
                case rel => exact ⟨k + 1, by omega, by go_num, by rw [CS.out]; simp [clashes, eqS, ha, hqa, heq], ⟨c0, c1, c2⟩, Lib.hid (contains_snoc HX.out hcn.out hrq), (hbl.drn nq).drn 1⟩
                case measure => simp [intOf]; omega
              · go_wp2
                go_quiet (fail)
                go_wp2
                have hS : ((wr.drewN nq).drew).cell? ⟨w.heap.size, 0, none⟩ = some (.string r.frm) ∧ ((wr.drewN nq).drew).cell? ⟨w.heap.size, 2, none⟩ = some (.bool false) ∧ ((wr.drewN nq).drew).cell? ⟨b, off + k * 3, none⟩ = some (.string q.frm) ∧ ((wr.drewN nq).drew).cell? ⟨b, off + k * 3 + 2, none⟩ = some (.bool false) := ⟨c0, c2, hc1, hc3⟩
                refine wp_region_mix [(true, 0), (true, 1), (true, 2), (true, 3), (true, 4), (true, 5), (true, 6), (true, 7), (true, 8), (true, 9), (true, 10), (true, 11), (true, 12), (true, 13), (true, 14), (true, 15), (true, 16), (true, 17), (true, 18), (true, 19), (true, 20), (true, 21), (true, 22), (true, 23), (true, 24)] 25 (fun wz => wz.cell? ⟨w.heap.size, 0, none⟩ = some (.string r.frm) ∧ wz.cell? ⟨w.heap.size, 2, none⟩ = some (.bool false) ∧ wz.cell? ⟨b, off + k * 3, none⟩ = some (.string q.frm) ∧ wz.cell? ⟨b, off + k * 3 + 2, none⟩ = some (.bool false)) (by kernel_rfl) (by kernel_rfl) ?_
                refine wpMix_put (v := ?_) rfl rfl (Or.inl ⟨by rfl, fun wz hz => ?_⟩) hS ?_
                rotate_left
                (focus (go_simp; try (with_reducible rfl)))
                simp only [List.setIfInBounds_toArray, List.set_cons_succ, List.set_cons_zero]
                refine wpMix_put (v := ?_) rfl rfl (Or.inl ⟨by rfl, fun wz hz => ?_⟩) hS ?_
                rotate_left
                (focus (go_simp; try (with_reducible rfl)))
                simp only [List.setIfInBounds_toArray, List.set_cons_succ, List.set_cons_zero]
                refine wpMix_put (v := ?_) rfl rfl (Or.inl ⟨by rfl, fun wz hz => ?_⟩) hS ?_
                rotate_left
                (focus (go_simp; try (with_reducible rfl)))
                simp only [List.setIfInBounds_toArray, List.set_cons_succ, List.set_cons_zero]
                refine wpMix_put (v := ?_) rfl rfl (Or.inl ⟨by rfl, fun wz hz => ?_⟩) hS ?_
                rotate_left
                (focus (go_simp; try (with_reducible rfl)))
                simp only [List.setIfInBounds_toArray, List.set_cons_succ, List.set_cons_zero]
                refine wpMix_put (v := ?_) rfl rfl (Or.inl ⟨by rfl, fun wz hz => ?_⟩) hS ?_
                rotate_left
                (focus (go_simp; try (with_reducible rfl)))
                simp only [List.setIfInBounds_toArray, List.set_cons_succ, List.set_cons_zero]
                refine wpMix_put (v := ?_) rfl rfl (Or.inl ⟨by rfl, fun wz hz => ?_⟩) hS ?_
                rotate_left
                (focus (go_simp; try (with_reducible rfl)))
                simp only [List.setIfInBounds_toArray, List.set_cons_succ, List.set_cons_zero]
                refine wpMix_put (v := ?_) rfl rfl (Or.inl ⟨by rfl, fun wz hz => ?_⟩) hS ?_
                rotate_left
                (focus (go_simp; try (with_reducible rfl)))
                simp only [List.setIfInBounds_toArray, List.set_cons_succ, List.set_cons_zero]
                refine wpMix_put (v := ?_) rfl rfl (Or.inl ⟨by rfl, fun wz hz => ?_⟩) hS ?_
                rotate_left
                (focus (go_simp; try (with_reducible rfl)))
                simp only [List.setIfInBounds_toArray, List.set_cons_succ, List.set_cons_zero]
                refine wpMix_put (v := ?_) rfl rfl (Or.inl ⟨by rfl, fun wz hz => ?_⟩) hS ?_
                rotate_left
                (focus (go_simp; try (with_reducible rfl)))
                simp only [List.setIfInBounds_toArray, List.set_cons_succ, List.set_cons_zero]
                refine wpMix_put (v := ?_) rfl rfl (Or.inl ⟨by rfl, fun wz hz => ?_⟩) hS ?_
                rotate_left
                (focus (go_simp; try (with_reducible rfl)))
                simp only [List.setIfInBounds_toArray, List.set_cons_succ, List.set_cons_zero]
                refine wpMix_put (v := ?_) rfl rfl (Or.inl ⟨by rfl, fun wz hz => ?_⟩) hS ?_
                rotate_left
                (focus (go_simp; try (with_reducible rfl)))
                simp only [List.setIfInBounds_toArray, List.set_cons_succ, List.set_cons_zero]
                refine wpMix_put (v := ?_) rfl rfl (Or.inl ⟨by rfl, fun wz hz => ?_⟩) hS ?_
                rotate_left
                (focus (go_simp; try (with_reducible rfl)))
                simp only [List.setIfInBounds_toArray, List.set_cons_succ, List.set_cons_zero]
                refine wpMix_put (v := ?_) rfl rfl (Or.inl ⟨by rfl, fun wz hz => ?_⟩) hS ?_
                rotate_left
                (focus (go_simp; try (with_reducible rfl)))
                simp only [List.setIfInBounds_toArray, List.set_cons_succ, List.set_cons_zero]
                refine wpMix_put (v := ?_) rfl rfl (Or.inl ⟨by rfl, fun wz hz => ?_⟩) hS ?_
                rotate_left
                (focus (go_simp; try (with_reducible rfl)))
                simp only [List.setIfInBounds_toArray, List.set_cons_succ, List.set_cons_zero]
                refine wpMix_put (v := ?_) rfl rfl (Or.inl ⟨by rfl, fun wz hz => ?_⟩) hS ?_
                rotate_left
                (focus (go_simp; try (with_reducible rfl)))
                simp only [List.setIfInBounds_toArray, List.set_cons_succ, List.set_cons_zero]
                refine wpMix_put (v := ?_) rfl rfl (Or.inl ⟨by rfl, fun wz hz => ?_⟩) hS ?_
                rotate_left
                (focus (go_simp; try (with_reducible rfl)))
                simp only [List.setIfInBounds_toArray, List.set_cons_succ, List.set_cons_zero]
                refine wpMix_put (v := ?_) rfl rfl (Or.inl ⟨by rfl, fun wz hz => ?_⟩) hS ?_
                rotate_left
                (focus (go_simp; try (with_reducible rfl)))
                simp only [List.setIfInBounds_toArray, List.set_cons_succ, List.set_cons_zero]
                refine wpMix_put (v := ?_) rfl rfl (Or.inl ⟨by rfl, fun wz hz => ?_⟩) hS ?_
                rotate_left
                (focus (go_simp; try (with_reducible rfl)))
                simp only [List.setIfInBounds_toArray, List.set_cons_succ, List.set_cons_zero]
                refine wpMix_put (v := ?_) rfl rfl (Or.inl ⟨by rfl, fun wz hz => ?_⟩) hS ?_
                rotate_left
                (focus (go_simp; try (with_reducible rfl)))
                simp only [List.setIfInBounds_toArray, List.set_cons_succ, List.set_cons_zero]
                refine wpMix_put (v := ?_) rfl rfl (Or.inl ⟨by rfl, fun wz hz => ?_⟩) hS ?_
                rotate_left
                (focus (go_simp; try (with_reducible rfl)))
                simp only [List.setIfInBounds_toArray, List.set_cons_succ, List.set_cons_zero]
                refine wpMix_put (v := ?_) rfl rfl (Or.inl ⟨by rfl, fun wz hz => ?_⟩) hS ?_
                rotate_left
                (focus (go_simp; try (with_reducible rfl)))
                simp only [List.setIfInBounds_toArray, List.set_cons_succ, List.set_cons_zero]
                refine wpMix_put (v := ?_) rfl rfl (Or.inl ⟨by rfl, fun wz hz => ?_⟩) hS ?_
                rotate_left
                (focus (go_simp; try (with_reducible rfl)))
                simp only [List.setIfInBounds_toArray, List.set_cons_succ, List.set_cons_zero]
                refine wpMix_put (v := ?_) rfl rfl (Or.inl ⟨by rfl, fun wz hz => ?_⟩) hS ?_
                rotate_left
                (focus (go_simp; try (with_reducible rfl)))
                simp only [List.setIfInBounds_toArray, List.set_cons_succ, List.set_cons_zero]
                refine wpMix_put (v := ?_) rfl rfl (Or.inl ⟨by rfl, fun wz hz => ?_⟩) hS ?_
                rotate_left
                (focus (go_simp; try (with_reducible rfl)))
                simp only [List.setIfInBounds_toArray, List.set_cons_succ, List.set_cons_zero]
                refine wpMix_put (v := ?_) rfl rfl (Or.inl ⟨by rfl, fun wz hz => ?_⟩) hS ?_
                rotate_left
                (focus (go_simp; try (with_reducible rfl)))
                simp only [List.setIfInBounds_toArray, List.set_cons_succ, List.set_cons_zero]
                refine wpMix_nil ?_
                clear hS
                go_wp2
                go_roundw
                case rel => exact ⟨k + 1, by omega, by go_num, by rw [CS.out]; simp [clashes, eqS, ha, hqa, heq], ⟨c0, c1, c2⟩, Lib.hid (contains_snoc HX.out hcn.out hrq), (hbl.drn nq).drn 1⟩
                case measure => simp [intOf]; omega
            · rw [hqa] at hc3 he
              go_wp2
              go_quiet (fail)
              go_wp2
              have hS : ((wr.drewN nq).drew).cell? ⟨w.heap.size, 0, none⟩ = some (.string r.frm) ∧ ((wr.drewN nq).drew).cell? ⟨w.heap.size, 2, none⟩ = some (.bool false) ∧ ((wr.drewN nq).drew).cell? ⟨b, off + k * 3, none⟩ = some (.string q.frm) ∧ ((wr.drewN nq).drew).cell? ⟨b, off + k * 3 + 2, none⟩ = some (.bool true) := ⟨c0, c2, hc1, hc3⟩
              refine wp_region_mix [(true, 0), (true, 1), (true, 2), (true, 3), (true, 4), (true, 5), (true, 6), (true, 7), (true, 8), (true, 9), (true, 10), (true, 11), (true, 12), (true, 13), (true, 14), (true, 15), (true, 16), (true, 17), (true, 18), (true, 19), (true, 20), (true, 21), (true, 22), (true, 23), (true, 24)] 25 (fun wz => wz.cell? ⟨w.heap.size, 0, none⟩ = some (.string r.frm) ∧ wz.cell? ⟨w.heap.size, 2, none⟩ = some (.bool false) ∧ wz.cell? ⟨b, off + k * 3, none⟩ = some (.string q.frm) ∧ wz.cell? ⟨b, off + k * 3 + 2, none⟩ = some (.bool true)) (by kernel_rfl) (by kernel_rfl) ?_
              refine wpMix_put (v := ?_) rfl rfl (Or.inl ⟨by rfl, fun wz hz => ?_⟩) hS ?_
              rotate_left
              (focus (go_simp; try (with_reducible rfl)))
              simp only [List.setIfInBounds_toArray, List.set_cons_succ, List.set_cons_zero]
              refine wpMix_put (v := ?_) rfl rfl (Or.inl ⟨by rfl, fun wz hz => ?_⟩) hS ?_
              rotate_left
              (focus (go_simp; try (with_reducible rfl)))
              simp only [List.setIfInBounds_toArray, List.set_cons_succ, List.set_cons_zero]
              refine wpMix_put (v := ?_) rfl rfl (Or.inl ⟨by rfl, fun wz hz => ?_⟩) hS ?_
              rotate_left
              (focus (go_simp; try (with_reducible rfl)))
              simp only [List.setIfInBounds_toArray, List.set_cons_succ, List.set_cons_zero]
              refine wpMix_put (v := ?_) rfl rfl (Or.inl ⟨by rfl, fun wz hz => ?_⟩) hS ?_
              rotate_left
              (focus (go_simp; try (with_reducible rfl)))
              simp only [List.setIfInBounds_toArray, List.set_cons_succ, List.set_cons_zero]
              refine wpMix_put (v := ?_) rfl rfl (Or.inl ⟨by rfl, fun wz hz => ?_⟩) hS ?_
              rotate_left
              (focus (go_simp; try (with_reducible rfl)))
              simp only [List.setIfInBounds_toArray, List.set_cons_succ, List.set_cons_zero]
              refine wpMix_put (v := ?_) rfl rfl (Or.inl ⟨by rfl, fun wz hz => ?_⟩) hS ?_
              rotate_left
              (focus (go_simp; try (with_reducible rfl)))
              simp only [List.setIfInBounds_toArray, List.set_cons_succ, List.set_cons_zero]
              refine wpMix_put (v := ?_) rfl rfl (Or.inl ⟨by rfl, fun wz hz => ?_⟩) hS ?_
              rotate_left
              (focus (go_simp; try (with_reducible rfl)))
              simp only [List.setIfInBounds_toArray, List.set_cons_succ, List.set_cons_zero]
              refine wpMix_put (v := ?_) rfl rfl (Or.inl ⟨by rfl, fun wz hz => ?_⟩) hS ?_
              rotate_left
              (focus (go_simp; try (with_reducible rfl)))
              simp only [List.setIfInBounds_toArray, List.set_cons_succ, List.set_cons_zero]
              refine wpMix_put (v := ?_) rfl rfl (Or.inl ⟨by rfl, fun wz hz => ?_⟩) hS ?_
              rotate_left
              (focus (go_simp; try (with_reducible rfl)))
              simp only [List.setIfInBounds_toArray, List.set_cons_succ, List.set_cons_zero]
              refine wpMix_put (v := ?_) rfl rfl (Or.inl ⟨by rfl, fun wz hz => ?_⟩) hS ?_
              rotate_left
              (focus (go_simp; try (with_reducible rfl)))
              simp only [List.setIfInBounds_toArray, List.set_cons_succ, List.set_cons_zero]
              refine wpMix_put (v := ?_) rfl rfl (Or.inl ⟨by rfl, fun wz hz => ?_⟩) hS ?_
              rotate_left
              (focus (go_simp; try (with_reducible rfl)))
              simp only [List.setIfInBounds_toArray, List.set_cons_succ, List.set_cons_zero]
              refine wpMix_put (v := ?_) rfl rfl (Or.inl ⟨by rfl, fun wz hz => ?_⟩) hS ?_
              rotate_left
              (focus (go_simp; try (with_reducible rfl)))
              simp only [List.setIfInBounds_toArray, List.set_cons_succ, List.set_cons_zero]
              refine wpMix_put (v := ?_) rfl rfl (Or.inl ⟨by rfl, fun wz hz => ?_⟩) hS ?_
              rotate_left
              (focus (go_simp; try (with_reducible rfl)))
              simp only [List.setIfInBounds_toArray, List.set_cons_succ, List.set_cons_zero]
              refine wpMix_put (v := ?_) rfl rfl (Or.inl ⟨by rfl, fun wz hz => ?_⟩) hS ?_
              rotate_left
              (focus (go_simp; try (with_reducible rfl)))
              simp only [List.setIfInBounds_toArray, List.set_cons_succ, List.set_cons_zero]
              refine wpMix_put (v := undef) rfl rfl (Or.inr ⟨by rfl, rfl⟩) hS ?_
              simp only [List.setIfInBounds_toArray, List.set_cons_succ, List.set_cons_zero]
              refine wpMix_put (v := undef) rfl rfl (Or.inr ⟨by rfl, rfl⟩) hS ?_
              simp only [List.setIfInBounds_toArray, List.set_cons_succ, List.set_cons_zero]
              refine wpMix_put (v := undef) rfl rfl (Or.inr ⟨by rfl, rfl⟩) hS ?_
              simp only [List.setIfInBounds_toArray, List.set_cons_succ, List.set_cons_zero]
              refine wpMix_put (v := undef) rfl rfl (Or.inr ⟨by rfl, rfl⟩) hS ?_
              simp only [List.setIfInBounds_toArray, List.set_cons_succ, List.set_cons_zero]
              refine wpMix_put (v := undef) rfl rfl (Or.inr ⟨by rfl, rfl⟩) hS ?_
              simp only [List.setIfInBounds_toArray, List.set_cons_succ, List.set_cons_zero]
              refine wpMix_put (v := undef) rfl rfl (Or.inr ⟨by rfl, rfl⟩) hS ?_
              simp only [List.setIfInBounds_toArray, List.set_cons_succ, List.set_cons_zero]
              refine wpMix_put (v := undef) rfl rfl (Or.inr ⟨by rfl, rfl⟩) hS ?_
              simp only [List.setIfInBounds_toArray, List.set_cons_succ, List.set_cons_zero]
              refine wpMix_put (v := undef) rfl rfl (Or.inr ⟨by rfl, rfl⟩) hS ?_
              simp only [List.setIfInBounds_toArray, List.set_cons_succ, List.set_cons_zero]
              refine wpMix_put (v := ?_) rfl rfl (Or.inl ⟨by rfl, fun wz hz => ?_⟩) hS ?_
              rotate_left
              (focus (go_simp; try (with_reducible rfl)))
              simp only [List.setIfInBounds_toArray, List.set_cons_succ, List.set_cons_zero]
              refine wpMix_put (v := ?_) rfl rfl (Or.inl ⟨by rfl, fun wz hz => ?_⟩) hS ?_
              rotate_left
              (focus (go_simp; try (with_reducible rfl)))
              simp only [List.setIfInBounds_toArray, List.set_cons_succ, List.set_cons_zero]
              refine wpMix_put (v := ?_) rfl rfl (Or.inl ⟨by rfl, fun wz hz => ?_⟩) hS ?_
              rotate_left
              (focus (go_simp; try (with_reducible rfl)))
              simp only [List.setIfInBounds_toArray, List.set_cons_succ, List.set_cons_zero]
              refine wpMix_nil ?_
              clear hS
              go_wp2
              go_roundw
              case rel => exact ⟨k + 1, by omega, by go_num, by rw [CS.out]; simp [clashes, eqS, ha, hqa], ⟨c0, c1, c2⟩, Lib.hid (contains_snoc HX.out hcn.out hrq), (hbl.drn nq).drn 1⟩
              case measure => simp [intOf]; omega
          · rw [ha] at c2 he
            go_wp2
            go_quiet (fail)
            go_wp2
            have hS : ((wr.drewN nq).drew).cell? ⟨w.heap.size, 0, none⟩ = some (.string r.frm) ∧ ((wr.drewN nq).drew).cell? ⟨w.heap.size, 2, none⟩ = some (.bool true) ∧ ((wr.drewN nq).drew).cell? ⟨b, off + k * 3, none⟩ = some (.string q.frm) ∧ ((wr.drewN nq).drew).cell? ⟨b, off + k * 3 + 2, none⟩ = some (.bool q.also) := ⟨c0, c2, hc1, hc3⟩
            refine wp_region_mix [(true, 0), (true, 1), (true, 2), (true, 3), (true, 4), (true, 5), (true, 6), (true, 7), (true, 8), (true, 9), (true, 10), (true, 11), (true, 12), (true, 13), (true, 14), (true, 15), (true, 16), (true, 17), (true, 18), (true, 19), (true, 20), (true, 21), (true, 22), (true, 23), (true, 24)] 25 (fun wz => wz.cell? ⟨w.heap.size, 0, none⟩ = some (.string r.frm) ∧ wz.cell? ⟨w.heap.size, 2, none⟩ = some (.bool true) ∧ wz.cell? ⟨b, off + k * 3, none⟩ = some (.string q.frm) ∧ wz.cell? ⟨b, off + k * 3 + 2, none⟩ = some (.bool q.also)) (by kernel_rfl) (by kernel_rfl) ?_
            refine wpMix_put (v := ?_) rfl rfl (Or.inl ⟨by rfl, fun wz hz => ?_⟩) hS ?_
            rotate_left
            (focus (go_simp; try (with_reducible rfl)))
            simp only [List.setIfInBounds_toArray, List.set_cons_succ, List.set_cons_zero]
            refine wpMix_put (v := ?_) rfl rfl (Or.inl ⟨by rfl, fun wz hz => ?_⟩) hS ?_
            rotate_left
            (focus (go_simp; try (with_reducible rfl)))
            simp only [List.setIfInBounds_toArray, List.set_cons_succ, List.set_cons_zero]
            refine wpMix_put (v := ?_) rfl rfl (Or.inl ⟨by rfl, fun wz hz => ?_⟩) hS ?_
            rotate_left
            (focus (go_simp; try (with_reducible rfl)))
            simp only [List.setIfInBounds_toArray, List.set_cons_succ, List.set_cons_zero]
            refine wpMix_put (v := ?_) rfl rfl (Or.inl ⟨by rfl, fun wz hz => ?_⟩) hS ?_
            rotate_left
            (focus (go_simp; try (with_reducible rfl)))
            simp only [List.setIfInBounds_toArray, List.set_cons_succ, List.set_cons_zero]
            refine wpMix_put (v := ?_) rfl rfl (Or.inl ⟨by rfl, fun wz hz => ?_⟩) hS ?_
            rotate_left
            (focus (go_simp; try (with_reducible rfl)))
            simp only [List.setIfInBounds_toArray, List.set_cons_succ, List.set_cons_zero]
            refine wpMix_put (v := ?_) rfl rfl (Or.inl ⟨by rfl, fun wz hz => ?_⟩) hS ?_
            rotate_left
            (focus (go_simp; try (with_reducible rfl)))
            simp only [List.setIfInBounds_toArray, List.set_cons_succ, List.set_cons_zero]
            refine wpMix_put (v := undef) rfl rfl (Or.inr ⟨by rfl, rfl⟩) hS ?_
            simp only [List.setIfInBounds_toArray, List.set_cons_succ, List.set_cons_zero]
            refine wpMix_put (v := undef) rfl rfl (Or.inr ⟨by rfl, rfl⟩) hS ?_
            simp only [List.setIfInBounds_toArray, List.set_cons_succ, List.set_cons_zero]
            refine wpMix_put (v := undef) rfl rfl (Or.inr ⟨by rfl, rfl⟩) hS ?_
            simp only [List.setIfInBounds_toArray, List.set_cons_succ, List.set_cons_zero]
            refine wpMix_put (v := undef) rfl rfl (Or.inr ⟨by rfl, rfl⟩) hS ?_
            simp only [List.setIfInBounds_toArray, List.set_cons_succ, List.set_cons_zero]
            refine wpMix_put (v := undef) rfl rfl (Or.inr ⟨by rfl, rfl⟩) hS ?_
            simp only [List.setIfInBounds_toArray, List.set_cons_succ, List.set_cons_zero]
            refine wpMix_put (v := undef) rfl rfl (Or.inr ⟨by rfl, rfl⟩) hS ?_
            simp only [List.setIfInBounds_toArray, List.set_cons_succ, List.set_cons_zero]
            refine wpMix_put (v := ?_) rfl rfl (Or.inl ⟨by rfl, fun wz hz => ?_⟩) hS ?_
            rotate_left
            (focus (go_simp; try (with_reducible rfl)))
            simp only [List.setIfInBounds_toArray, List.set_cons_succ, List.set_cons_zero]
            refine wpMix_put (v := ?_) rfl rfl (Or.inl ⟨by rfl, fun wz hz => ?_⟩) hS ?_
            rotate_left
            (focus (go_simp; try (with_reducible rfl)))
            simp only [List.setIfInBounds_toArray, List.set_cons_succ, List.set_cons_zero]
            refine wpMix_put (v := undef) rfl rfl (Or.inr ⟨by rfl, rfl⟩) hS ?_
            simp only [List.setIfInBounds_toArray, List.set_cons_succ, List.set_cons_zero]
            refine wpMix_put (v := undef) rfl rfl (Or.inr ⟨by rfl, rfl⟩) hS ?_
            simp only [List.setIfInBounds_toArray, List.set_cons_succ, List.set_cons_zero]
            refine wpMix_put (v := undef) rfl rfl (Or.inr ⟨by rfl, rfl⟩) hS ?_
            simp only [List.setIfInBounds_toArray, List.set_cons_succ, List.set_cons_zero]
            refine wpMix_put (v := undef) rfl rfl (Or.inr ⟨by rfl, rfl⟩) hS ?_
            simp only [List.setIfInBounds_toArray, List.set_cons_succ, List.set_cons_zero]
            refine wpMix_put (v := undef) rfl rfl (Or.inr ⟨by rfl, rfl⟩) hS ?_
            simp only [List.setIfInBounds_toArray, List.set_cons_succ, List.set_cons_zero]
            refine wpMix_put (v := undef) rfl rfl (Or.inr ⟨by rfl, rfl⟩) hS ?_
            simp only [List.setIfInBounds_toArray, List.set_cons_succ, List.set_cons_zero]
            refine wpMix_put (v := undef) rfl rfl (Or.inr ⟨by rfl, rfl⟩) hS ?_
            simp only [List.setIfInBounds_toArray, List.set_cons_succ, List.set_cons_zero]
            refine wpMix_put (v := undef) rfl rfl (Or.inr ⟨by rfl, rfl⟩) hS ?_
            simp only [List.setIfInBounds_toArray, List.set_cons_succ, List.set_cons_zero]
            refine wpMix_put (v := ?_) rfl rfl (Or.inl ⟨by rfl, fun wz hz => ?_⟩) hS ?_
            rotate_left
            (focus (go_simp; try (with_reducible rfl)))
            simp only [List.setIfInBounds_toArray, List.set_cons_succ, List.set_cons_zero]
            refine wpMix_put (v := ?_) rfl rfl (Or.inl ⟨by rfl, fun wz hz => ?_⟩) hS ?_
            rotate_left
            (focus (go_simp; try (with_reducible rfl)))
            simp only [List.setIfInBounds_toArray, List.set_cons_succ, List.set_cons_zero]
            refine wpMix_put (v := ?_) rfl rfl (Or.inl ⟨by rfl, fun wz hz => ?_⟩) hS ?_
            rotate_left
            (focus (go_simp; try (with_reducible rfl)))
            simp only [List.setIfInBounds_toArray, List.set_cons_succ, List.set_cons_zero]
            refine wpMix_nil ?_
            clear hS
            go_wp2
            go_roundw
            case rel => exact ⟨k + 1, by omega, by go_num, by rw [CS.out]; simp [clashes, eqS, ha], ⟨c0, c1, c2⟩, Lib.hid (contains_snoc HX.out hcn.out hrq), (hbl.drn nq).drn 1⟩
            case measure => simp [intOf]; omega
        · rw [hcl] at CS
          go_wp2
          go_quiet (fail)
          go_wp2
          have hS : ((wr.drewN nq).drew).cell? ⟨w.heap.size, 0, none⟩ = some (.string r.frm) ∧ ((wr.drewN nq).drew).cell? ⟨w.heap.size, 2, none⟩ = some (.bool r.also) ∧ ((wr.drewN nq).drew).cell? ⟨b, off + k * 3, none⟩ = some (.string q.frm) ∧ ((wr.drewN nq).drew).cell? ⟨b, off + k * 3 + 2, none⟩ = some (.bool q.also) := ⟨c0, c2, hc1, hc3⟩
          refine wp_region_mix [(true, 0), (true, 1), (true, 2), (true, 3), (true, 4), (true, 5), (true, 6), (true, 7), (true, 8), (true, 9), (true, 10), (true, 11), (true, 12), (true, 13), (true, 14), (true, 15), (true, 16), (true, 17), (true, 18), (true, 19), (true, 20), (true, 21), (true, 22), (true, 23), (true, 24)] 25 (fun wz => wz.cell? ⟨w.heap.size, 0, none⟩ = some (.string r.frm) ∧ wz.cell? ⟨w.heap.size, 2, none⟩ = some (.bool r.also) ∧ wz.cell? ⟨b, off + k * 3, none⟩ = some (.string q.frm) ∧ wz.cell? ⟨b, off + k * 3 + 2, none⟩ = some (.bool q.also)) (by kernel_rfl) (by kernel_rfl) ?_
          refine wpMix_put (v := ?_) rfl rfl (Or.inl ⟨by rfl, fun wz hz => ?_⟩) hS ?_
          rotate_left
          (focus (go_simp; try (with_reducible rfl)))
          simp only [List.setIfInBounds_toArray, List.set_cons_succ, List.set_cons_zero]
          refine wpMix_put (v := ?_) rfl rfl (Or.inl ⟨by rfl, fun wz hz => ?_⟩) hS ?_
          rotate_left
          (focus (go_simp; try (with_reducible rfl)))
          simp only [List.setIfInBounds_toArray, List.set_cons_succ, List.set_cons_zero]
          refine wpMix_put (v := undef) rfl rfl (Or.inr ⟨by rfl, rfl⟩) hS ?_
          simp only [List.setIfInBounds_toArray, List.set_cons_succ, List.set_cons_zero]
          refine wpMix_put (v := undef) rfl rfl (Or.inr ⟨by rfl, rfl⟩) hS ?_
          simp only [List.setIfInBounds_toArray, List.set_cons_succ, List.set_cons_zero]
          refine wpMix_put (v := undef) rfl rfl (Or.inr ⟨by rfl, rfl⟩) hS ?_
          simp only [List.setIfInBounds_toArray, List.set_cons_succ, List.set_cons_zero]
          refine wpMix_put (v := undef) rfl rfl (Or.inr ⟨by rfl, rfl⟩) hS ?_
          simp only [List.setIfInBounds_toArray, List.set_cons_succ, List.set_cons_zero]
          refine wpMix_put (v := undef) rfl rfl (Or.inr ⟨by rfl, rfl⟩) hS ?_
          simp only [List.setIfInBounds_toArray, List.set_cons_succ, List.set_cons_zero]
          refine wpMix_put (v := undef) rfl rfl (Or.inr ⟨by rfl, rfl⟩) hS ?_
          simp only [List.setIfInBounds_toArray, List.set_cons_succ, List.set_cons_zero]
          refine wpMix_put (v := undef) rfl rfl (Or.inr ⟨by rfl, rfl⟩) hS ?_
          simp only [List.setIfInBounds_toArray, List.set_cons_succ, List.set_cons_zero]
          refine wpMix_put (v := undef) rfl rfl (Or.inr ⟨by rfl, rfl⟩) hS ?_
          simp only [List.setIfInBounds_toArray, List.set_cons_succ, List.set_cons_zero]
          refine wpMix_put (v := undef) rfl rfl (Or.inr ⟨by rfl, rfl⟩) hS ?_
          simp only [List.setIfInBounds_toArray, List.set_cons_succ, List.set_cons_zero]
          refine wpMix_put (v := undef) rfl rfl (Or.inr ⟨by rfl, rfl⟩) hS ?_
          simp only [List.setIfInBounds_toArray, List.set_cons_succ, List.set_cons_zero]
          refine wpMix_put (v := undef) rfl rfl (Or.inr ⟨by rfl, rfl⟩) hS ?_
          simp only [List.setIfInBounds_toArray, List.set_cons_succ, List.set_cons_zero]
          refine wpMix_put (v := undef) rfl rfl (Or.inr ⟨by rfl, rfl⟩) hS ?_
          simp only [List.setIfInBounds_toArray, List.set_cons_succ, List.set_cons_zero]
          refine wpMix_put (v := undef) rfl rfl (Or.inr ⟨by rfl, rfl⟩) hS ?_
          simp only [List.setIfInBounds_toArray, List.set_cons_succ, List.set_cons_zero]
          refine wpMix_put (v := undef) rfl rfl (Or.inr ⟨by rfl, rfl⟩) hS ?_
          simp only [List.setIfInBounds_toArray, List.set_cons_succ, List.set_cons_zero]
          refine wpMix_put (v := undef) rfl rfl (Or.inr ⟨by rfl, rfl⟩) hS ?_
          simp only [List.setIfInBounds_toArray, List.set_cons_succ, List.set_cons_zero]
          refine wpMix_put (v := undef) rfl rfl (Or.inr ⟨by rfl, rfl⟩) hS ?_
          simp only [List.setIfInBounds_toArray, List.set_cons_succ, List.set_cons_zero]
          refine wpMix_put (v := undef) rfl rfl (Or.inr ⟨by rfl, rfl⟩) hS ?_
          simp only [List.setIfInBounds_toArray, List.set_cons_succ, List.set_cons_zero]
          refine wpMix_put (v := undef) rfl rfl (Or.inr ⟨by rfl, rfl⟩) hS ?_
          simp only [List.setIfInBounds_toArray, List.set_cons_succ, List.set_cons_zero]
          refine wpMix_put (v := undef) rfl rfl (Or.inr ⟨by rfl, rfl⟩) hS ?_
          simp only [List.setIfInBounds_toArray, List.set_cons_succ, List.set_cons_zero]
          refine wpMix_put (v := undef) rfl rfl (Or.inr ⟨by rfl, rfl⟩) hS ?_
          simp only [List.setIfInBounds_toArray, List.set_cons_succ, List.set_cons_zero]
          refine wpMix_put (v := undef) rfl rfl (Or.inr ⟨by rfl, rfl⟩) hS ?_
          simp only [List.setIfInBounds_toArray, List.set_cons_succ, List.set_cons_zero]
          refine wpMix_put (v := ?_) rfl rfl (Or.inl ⟨by rfl, fun wz hz => ?_⟩) hS ?_
          rotate_left
          (focus (go_simp; try (with_reducible rfl)))
          simp only [List.setIfInBounds_toArray, List.set_cons_succ, List.set_cons_zero]
          refine wpMix_put (v := ?_) rfl rfl (Or.inl ⟨by rfl, fun wz hz => ?_⟩) hS ?_
          rotate_left
          (focus (go_simp; try (with_reducible rfl)))
          simp only [List.setIfInBounds_toArray, List.set_cons_succ, List.set_cons_zero]
          refine wpMix_nil ?_
          clear hS
          go_wp2
          go_roundw
          case rel => exact ⟨k + 1, by omega, by go_num, by rw [CS.out]; simp [clashes, eqS, Bool.true_or], ⟨c0, c1, c2⟩, Lib.hid (contains_snoc HX.out hcn.out hrq), (hbl.drn nq).drn 1⟩
          case measure => simp [intOf]; omega
      · rw [hrq] at he
        have HW := Lib.hid (wr1 (heads := heads) (contains_here HX.out hlt hrq))
        go_wp2
        go_quiet (fail)
        go_wp2
        go_ret
        exact ⟨ret_i64 HW.out.symm, hbl.drn _⟩
    · obtain rfl : k = i := by omega
      clear hlt hk
      cases ha : r.also
      · rw [ha] at c2
        cases hf : Rf.has heads r.frm
        · go_wp2
          have hS : (wr.drew).cell? ⟨w.heap.size, 0, none⟩ = some (.string r.frm) ∧ (wr.drew).cell? ⟨w.heap.size, 2, none⟩ = some (.bool false) := ⟨c0, c2⟩
          refine wp_region_mix [(true, 0), (true, 1), (true, 2), (true, 4), (true, 5), (false, 3), (true, 6)] 7 (fun wz => wz.cell? ⟨w.heap.size, 0, none⟩ = some (.string r.frm) ∧ wz.cell? ⟨w.heap.size, 2, none⟩ = some (.bool false)) (by kernel_rfl) (by kernel_rfl) ?_
          refine wpMix_put (v := ?_) rfl rfl (Or.inl ⟨by rfl, fun wz hz => ?_⟩) hS ?_
          rotate_left
          (focus (go_simp; try (with_reducible rfl)))
          simp only [List.setIfInBounds_toArray, List.set_cons_succ, List.set_cons_zero]
          refine wpMix_put (v := ?_) rfl rfl (Or.inl ⟨by rfl, fun wz hz => ?_⟩) hS ?_
          rotate_left
          (focus (go_simp; try (with_reducible rfl)))
          simp only [List.setIfInBounds_toArray, List.set_cons_succ, List.set_cons_zero]
          refine wpMix_put (v := ?_) rfl rfl (Or.inl ⟨by rfl, fun wz hz => ?_⟩) hS ?_
          rotate_left
          (focus (go_simp; try (with_reducible rfl)))
          simp only [List.setIfInBounds_toArray, List.set_cons_succ, List.set_cons_zero]
          refine wpMix_put (v := ?_) rfl rfl (Or.inl ⟨by rfl, fun wz hz => ?_⟩) hS ?_
          rotate_left
          (focus (go_simp; try (with_reducible rfl)))
          simp only [List.setIfInBounds_toArray, List.set_cons_succ, List.set_cons_zero]
          refine wpMix_put (v := ?_) rfl rfl (Or.inl ⟨by rfl, fun wz hz => ?_⟩) hS ?_
          rotate_left
          (focus (go_simp; try (with_reducible rfl)))
          simp only [List.setIfInBounds_toArray, List.set_cons_succ, List.set_cons_zero]
          refine wpMix_step rfl (fun K hK => ?_)
          go_simp
          refine (has_any _ _ _ _ _ _ (by omega) (hh.below (hbl.drn 1))).mono ?_
          rintro e w' ⟨rfl, rfl⟩
          go_simp
          refine hK _ _ (fun _ => hS) ?_
          clear hK K
          refine wpMix_put (v := ?_) rfl rfl (Or.inl ⟨by rfl, fun wz hz => ?_⟩) hS ?_
          rotate_left
          (focus (go_simp; try (with_reducible rfl)))
          simp only [List.setIfInBounds_toArray, List.set_cons_succ, List.set_cons_zero]
          refine wpMix_nil ?_
          clear hS
          have hbz : Below w.heap.size w (wr.drewN 1) := hbl.drn 1
          have z0 : (wr.drewN 1).cell? ⟨w.heap.size, 0, none⟩ = some (.string r.frm) := c0
          have z1 : (wr.drewN 1).cell? ⟨w.heap.size, 1, none⟩ = some (.string r.to) := c1
          have z2 : (wr.drewN 1).cell? ⟨w.heap.size, 2, none⟩ = some (.bool false) := c2
          clear c0 c1 c2 hbl
          generalize wr.drewN 1 = wz at hbz z0 z1 z2 ⊢
          have hhz := hh.below hbz
          have hlz := hl.below hbz
          cases hcl : (l.take k).any (clashes r)
          · cases ht : Rf.has heads r.to
            · cases hst : see l r.to with
              | none =>
                have HW := Lib.hid (wr4 hcn.out (show (Rf.has heads r.frm != r.also) = false from by rw [hf, ha]; rfl) hcl (show (!Rf.has heads r.to && (r.also || (see l r.to).isNone)) = true from by rw [ht, ha, hst]; rfl))
                clear hf ha
                go_wp2_with (first
                  | (go_at_call 50; refine (has_any _ _ _ _ _ _ (by omega) hhz).mono ?_; rintro e w' ⟨rfl, rfl⟩)
                  | (go_at_call 146; refine (see_any _ _ _ _ _ _ (by omega) hlz).mono ?_; rintro e w' ⟨rfl, rfl⟩; rw [hst, idx]))
                go_ret
                exact ⟨ret_i64 HW.out.symm, hbz⟩
              | some j =>
                have HW := Lib.hid (wr6 hcn.out (show (Rf.has heads r.frm != r.also) = false from by rw [hf, ha]; rfl) hcl (show (!Rf.has heads r.to && (r.also || (see l r.to).isNone)) = false from by rw [ht, ha, hst]; rfl) ha HN.out)
                clear hf ha
                go_wp2_with (first
                  | (go_at_call 50; refine (has_any _ _ _ _ _ _ (by omega) hhz).mono ?_; rintro e w' ⟨rfl, rfl⟩)
                  | (go_at_call 146; refine (see_any _ _ _ _ _ _ (by omega) hlz).mono ?_; rintro e w' ⟨rfl, rfl⟩; rw [hst, idx]))
                go_loop [10, 11] (fun a j => ∃ (k2 : Nat) (x : S), k2 ≤ n + 1 ∧ j = .int .i64 k2 ∧ a = .string x ∧ x.size ≤ maxLen ∧ Hid (circles l heads r.frm (n + 1) r.to = circles l heads r.frm (n + 1 - k2) x)) (fun _ j => n + 1 - (intOf j).toNat)
                case atStart => exact ⟨0, r.to, by omega, rfl, rfl, hs2, rfl⟩
                case round =>
                  obtain ⟨k2, x, hk2, rfl, rfl, hxs, hr⟩ := hrel
                  by_cases hlt2 : k2 ≤ n
                  · have HP := Lib.hid (show n + 1 - k2 = (n - k2) + 1 from by omega)
                    cases hxe : (x.toList == r.frm.toList)
                    · cases hsx : see l x with
                      | none =>
                        have HF := Lib.hid (show circles l heads r.frm (n + 1) r.to = false from by rw [hr.out, HP.out]; exact circles_none hxe hsx)
                        cases hhx : Rf.has heads x
                        all_goals
                          go_wp2_with (first
                            | (go_at_call 50; refine (has_any _ _ _ _ _ _ (by omega) hhz).mono ?_; rintro e w' ⟨rfl, rfl⟩)
                            | (go_at_call 146; refine (see_any _ _ _ _ _ _ (by omega) hlz).mono ?_; rintro e w' ⟨rfl, rfl⟩; rw [hsx, idx]))
                          go_ret
                          exact ⟨ret_i64 (by rw [HW.out, HF.out]; rfl), hbz⟩
                      | some j =>
                        obtain ⟨hjl, q, hq, _, _⟩ := see_some hsx
                        rw [hl.1] at hjl
                        obtain ⟨b5, off5, q', hA5, hq', hq1, hq2, hb5, hd1, hd2, hd3⟩ := hlz.at_ hjl
                        injection hA5 with hA5
                        injection hA5 with hA6 hA7
                        subst hA6; subst hA7
                        obtain rfl : q = q' := by rw [hq] at hq'; injection hq'
                        have HQ := Lib.hid hq
                        clear hq hq' hb5
                        cases hhx : Rf.has heads x
                        · have HG := Lib.hid (circles_go (heads := heads) (k := n - k2) hxe hsx hhx HQ.out)
                          go_wp2_with (first
                            | (go_at_call 50; refine (has_any _ _ _ _ _ _ (by omega) hhz).mono ?_; rintro e w' ⟨rfl, rfl⟩)
                            | (go_at_call 146; refine (see_any _ _ _ _ _ _ (by omega) hlz).mono ?_; rintro e w' ⟨rfl, rfl⟩; rw [hsx, idx]))
                          go_round
                          case rel => exact ⟨k2 + 1, q.to, by omega, by go_num, rfl, hq2, by show _ = _; rw [hr.out, HP.out, HG.out, show n + 1 - (k2 + 1) = n - k2 from by omega]⟩
                          case measure => simp [intOf]; omega
                        · have HF := Lib.hid (show circles l heads r.frm (n + 1) r.to = false from by rw [hr.out, HP.out]; exact circles_head hxe hsx hhx)
                          go_wp2_with (first
                            | (go_at_call 50; refine (has_any _ _ _ _ _ _ (by omega) hhz).mono ?_; rintro e w' ⟨rfl, rfl⟩)
                            | (go_at_call 146; refine (see_any _ _ _ _ _ _ (by omega) hlz).mono ?_; rintro e w' ⟨rfl, rfl⟩; rw [hsx, idx]))
                          go_ret
                          exact ⟨ret_i64 (by rw [HW.out, HF.out]; rfl), hbz⟩
                    · have HF := Lib.hid (show circles l heads r.frm (n + 1) r.to = true from by rw [hr.out, HP.out]; exact circles_same hxe)
                      go_wp2
                      go_ret
                      exact ⟨ret_i64 (by rw [HW.out, HF.out]; rfl), hbz⟩
                  · have HF := Lib.hid (show circles l heads r.frm (n + 1) r.to = false from by rw [hr.out, show n + 1 - k2 = 0 from by omega]; rfl)
                    go_wp2
                    go_ret
                    exact ⟨ret_i64 (by rw [HW.out, HF.out]; rfl), hbz⟩
            · have HW := Lib.hid (wr6 hcn.out (show (Rf.has heads r.frm != r.also) = false from by rw [hf, ha]; rfl) hcl (show (!Rf.has heads r.to && (r.also || (see l r.to).isNone)) = false from by rw [ht]; rfl) ha HN.out)
              clear hf ha
              go_wp2_with (go_at_call 50; refine (has_any _ _ _ _ _ _ (by omega) hhz).mono ?_; rintro e w' ⟨rfl, rfl⟩)
              go_loop [10, 11] (fun a j => ∃ (k2 : Nat) (x : S), k2 ≤ n + 1 ∧ j = .int .i64 k2 ∧ a = .string x ∧ x.size ≤ maxLen ∧ Hid (circles l heads r.frm (n + 1) r.to = circles l heads r.frm (n + 1 - k2) x)) (fun _ j => n + 1 - (intOf j).toNat)
              case atStart => exact ⟨0, r.to, by omega, rfl, rfl, hs2, rfl⟩
              case round =>
                obtain ⟨k2, x, hk2, rfl, rfl, hxs, hr⟩ := hrel
                by_cases hlt2 : k2 ≤ n
                · have HP := Lib.hid (show n + 1 - k2 = (n - k2) + 1 from by omega)
                  cases hxe : (x.toList == r.frm.toList)
                  · cases hsx : see l x with
                    | none =>
                      have HF := Lib.hid (show circles l heads r.frm (n + 1) r.to = false from by rw [hr.out, HP.out]; exact circles_none hxe hsx)
                      cases hhx : Rf.has heads x
                      all_goals
                        go_wp2_with (first
                          | (go_at_call 50; refine (has_any _ _ _ _ _ _ (by omega) hhz).mono ?_; rintro e w' ⟨rfl, rfl⟩)
                          | (go_at_call 146; refine (see_any _ _ _ _ _ _ (by omega) hlz).mono ?_; rintro e w' ⟨rfl, rfl⟩; rw [hsx, idx]))
                        go_ret
                        exact ⟨ret_i64 (by rw [HW.out, HF.out]; rfl), hbz⟩
                    | some j =>
                      obtain ⟨hjl, q, hq, _, _⟩ := see_some hsx
                      rw [hl.1] at hjl
                      obtain ⟨b5, off5, q', hA5, hq', hq1, hq2, hb5, hd1, hd2, hd3⟩ := hlz.at_ hjl
                      injection hA5 with hA5
                      injection hA5 with hA6 hA7
                      subst hA6; subst hA7
                      obtain rfl : q = q' := by rw [hq] at hq'; injection hq'
                      have HQ := Lib.hid hq
                      clear hq hq' hb5
                      cases hhx : Rf.has heads x
                      · have HG := Lib.hid (circles_go (heads := heads) (k := n - k2) hxe hsx hhx HQ.out)
                        go_wp2_with (first
                          | (go_at_call 50; refine (has_any _ _ _ _ _ _ (by omega) hhz).mono ?_; rintro e w' ⟨rfl, rfl⟩)
                          | (go_at_call 146; refine (see_any _ _ _ _ _ _ (by omega) hlz).mono ?_; rintro e w' ⟨rfl, rfl⟩; rw [hsx, idx]))
                        go_round
                        case rel => exact ⟨k2 + 1, q.to, by omega, by go_num, rfl, hq2, by show _ = _; rw [hr.out, HP.out, HG.out, show n + 1 - (k2 + 1) = n - k2 from by omega]⟩
                        case measure => simp [intOf]; omega
                      · have HF := Lib.hid (show circles l heads r.frm (n + 1) r.to = false from by rw [hr.out, HP.out]; exact circles_head hxe hsx hhx)
                        go_wp2_with (first
                          | (go_at_call 50; refine (has_any _ _ _ _ _ _ (by omega) hhz).mono ?_; rintro e w' ⟨rfl, rfl⟩)
                          | (go_at_call 146; refine (see_any _ _ _ _ _ _ (by omega) hlz).mono ?_; rintro e w' ⟨rfl, rfl⟩; rw [hsx, idx]))
                        go_ret
                        exact ⟨ret_i64 (by rw [HW.out, HF.out]; rfl), hbz⟩
                  · have HF := Lib.hid (show circles l heads r.frm (n + 1) r.to = true from by rw [hr.out, HP.out]; exact circles_same hxe)
                    go_wp2
                    go_ret
                    exact ⟨ret_i64 (by rw [HW.out, HF.out]; rfl), hbz⟩
                · have HF := Lib.hid (show circles l heads r.frm (n + 1) r.to = false from by rw [hr.out, show n + 1 - k2 = 0 from by omega]; rfl)
                  go_wp2
                  go_ret
                  exact ⟨ret_i64 (by rw [HW.out, HF.out]; rfl), hbz⟩
          · have HW := Lib.hid (wr3 hcn.out (show (Rf.has heads r.frm != r.also) = false from by rw [hf, ha]; rfl) hcl)
            go_wp2
            go_ret
            exact ⟨ret_i64 HW.out.symm, hbz⟩
        · go_wp2
          have hS : (wr.drew).cell? ⟨w.heap.size, 0, none⟩ = some (.string r.frm) ∧ (wr.drew).cell? ⟨w.heap.size, 2, none⟩ = some (.bool false) := ⟨c0, c2⟩
          refine wp_region_mix [(true, 0), (true, 1), (true, 2), (true, 4), (true, 5), (false, 3), (true, 6)] 7 (fun wz => wz.cell? ⟨w.heap.size, 0, none⟩ = some (.string r.frm) ∧ wz.cell? ⟨w.heap.size, 2, none⟩ = some (.bool false)) (by kernel_rfl) (by kernel_rfl) ?_
          refine wpMix_put (v := ?_) rfl rfl (Or.inl ⟨by rfl, fun wz hz => ?_⟩) hS ?_
          rotate_left
          (focus (go_simp; try (with_reducible rfl)))
          simp only [List.setIfInBounds_toArray, List.set_cons_succ, List.set_cons_zero]
          refine wpMix_put (v := ?_) rfl rfl (Or.inl ⟨by rfl, fun wz hz => ?_⟩) hS ?_
          rotate_left
          (focus (go_simp; try (with_reducible rfl)))
          simp only [List.setIfInBounds_toArray, List.set_cons_succ, List.set_cons_zero]
          refine wpMix_put (v := ?_) rfl rfl (Or.inl ⟨by rfl, fun wz hz => ?_⟩) hS ?_
          rotate_left
          (focus (go_simp; try (with_reducible rfl)))
          simp only [List.setIfInBounds_toArray, List.set_cons_succ, List.set_cons_zero]
          refine wpMix_put (v := ?_) rfl rfl (Or.inl ⟨by rfl, fun wz hz => ?_⟩) hS ?_
          rotate_left
          (focus (go_simp; try (with_reducible rfl)))
          simp only [List.setIfInBounds_toArray, List.set_cons_succ, List.set_cons_zero]
          refine wpMix_put (v := ?_) rfl rfl (Or.inl ⟨by rfl, fun wz hz => ?_⟩) hS ?_
          rotate_left
          (focus (go_simp; try (with_reducible rfl)))
          simp only [List.setIfInBounds_toArray, List.set_cons_succ, List.set_cons_zero]
          refine wpMix_step rfl (fun K hK => ?_)
          go_simp
          refine (has_any _ _ _ _ _ _ (by omega) (hh.below (hbl.drn 1))).mono ?_
          rintro e w' ⟨rfl, rfl⟩
          go_simp
          refine hK _ _ (fun _ => hS) ?_
          clear hK K
          refine wpMix_put (v := ?_) rfl rfl (Or.inl ⟨by rfl, fun wz hz => ?_⟩) hS ?_
          rotate_left
          (focus (go_simp; try (with_reducible rfl)))
          simp only [List.setIfInBounds_toArray, List.set_cons_succ, List.set_cons_zero]
          refine wpMix_nil ?_
          clear hS
          have hbz : Below w.heap.size w (wr.drewN 1) := hbl.drn 1
          have z0 : (wr.drewN 1).cell? ⟨w.heap.size, 0, none⟩ = some (.string r.frm) := c0
          have z1 : (wr.drewN 1).cell? ⟨w.heap.size, 1, none⟩ = some (.string r.to) := c1
          have z2 : (wr.drewN 1).cell? ⟨w.heap.size, 2, none⟩ = some (.bool false) := c2
          clear c0 c1 c2 hbl
          generalize wr.drewN 1 = wz at hbz z0 z1 z2 ⊢
          have hhz := hh.below hbz
          have hlz := hl.below hbz
          have HW := Lib.hid (wr2 hcn.out (show (Rf.has heads r.frm != r.also) = true from by rw [hf, ha]; rfl))
          go_wp2
          go_ret
          exact ⟨ret_i64 HW.out.symm, hbz⟩
      · rw [ha] at c2
        have hcl := clash_also ha (l.take k)
        cases hf : Rf.has heads r.frm
        · go_wp2
          have hS : (wr.drew).cell? ⟨w.heap.size, 0, none⟩ = some (.string r.frm) ∧ (wr.drew).cell? ⟨w.heap.size, 2, none⟩ = some (.bool true) := ⟨c0, c2⟩
          refine wp_region_mix [(true, 0), (true, 1), (true, 2), (true, 4), (true, 5), (false, 3), (true, 6)] 7 (fun wz => wz.cell? ⟨w.heap.size, 0, none⟩ = some (.string r.frm) ∧ wz.cell? ⟨w.heap.size, 2, none⟩ = some (.bool true)) (by kernel_rfl) (by kernel_rfl) ?_
          refine wpMix_put (v := ?_) rfl rfl (Or.inl ⟨by rfl, fun wz hz => ?_⟩) hS ?_
          rotate_left
          (focus (go_simp; try (with_reducible rfl)))
          simp only [List.setIfInBounds_toArray, List.set_cons_succ, List.set_cons_zero]
          refine wpMix_put (v := ?_) rfl rfl (Or.inl ⟨by rfl, fun wz hz => ?_⟩) hS ?_
          rotate_left
          (focus (go_simp; try (with_reducible rfl)))
          simp only [List.setIfInBounds_toArray, List.set_cons_succ, List.set_cons_zero]
          refine wpMix_put (v := ?_) rfl rfl (Or.inl ⟨by rfl, fun wz hz => ?_⟩) hS ?_
          rotate_left
          (focus (go_simp; try (with_reducible rfl)))
          simp only [List.setIfInBounds_toArray, List.set_cons_succ, List.set_cons_zero]
          refine wpMix_put (v := ?_) rfl rfl (Or.inl ⟨by rfl, fun wz hz => ?_⟩) hS ?_
          rotate_left
          (focus (go_simp; try (with_reducible rfl)))
          simp only [List.setIfInBounds_toArray, List.set_cons_succ, List.set_cons_zero]
          refine wpMix_put (v := ?_) rfl rfl (Or.inl ⟨by rfl, fun wz hz => ?_⟩) hS ?_
          rotate_left
          (focus (go_simp; try (with_reducible rfl)))
          simp only [List.setIfInBounds_toArray, List.set_cons_succ, List.set_cons_zero]
          refine wpMix_step rfl (fun K hK => ?_)
          go_simp
          refine (has_any _ _ _ _ _ _ (by omega) (hh.below (hbl.drn 1))).mono ?_
          rintro e w' ⟨rfl, rfl⟩
          go_simp
          refine hK _ _ (fun _ => hS) ?_
          clear hK K
          refine wpMix_put (v := ?_) rfl rfl (Or.inl ⟨by rfl, fun wz hz => ?_⟩) hS ?_
          rotate_left
          (focus (go_simp; try (with_reducible rfl)))
          simp only [List.setIfInBounds_toArray, List.set_cons_succ, List.set_cons_zero]
          refine wpMix_nil ?_
          clear hS
          have hbz : Below w.heap.size w (wr.drewN 1) := hbl.drn 1
          have z0 : (wr.drewN 1).cell? ⟨w.heap.size, 0, none⟩ = some (.string r.frm) := c0
          have z1 : (wr.drewN 1).cell? ⟨w.heap.size, 1, none⟩ = some (.string r.to) := c1
          have z2 : (wr.drewN 1).cell? ⟨w.heap.size, 2, none⟩ = some (.bool true) := c2
          clear c0 c1 c2 hbl
          generalize wr.drewN 1 = wz at hbz z0 z1 z2 ⊢
          have hhz := hh.below hbz
          have hlz := hl.below hbz
          have HW := Lib.hid (wr2 hcn.out (show (Rf.has heads r.frm != r.also) = true from by rw [hf, ha]; rfl))
          go_wp2
          go_ret
          exact ⟨ret_i64 HW.out.symm, hbz⟩
        · go_wp2
          have hS : (wr.drew).cell? ⟨w.heap.size, 0, none⟩ = some (.string r.frm) ∧ (wr.drew).cell? ⟨w.heap.size, 2, none⟩ = some (.bool true) := ⟨c0, c2⟩
          refine wp_region_mix [(true, 0), (true, 1), (true, 2), (true, 4), (true, 5), (false, 3), (true, 6)] 7 (fun wz => wz.cell? ⟨w.heap.size, 0, none⟩ = some (.string r.frm) ∧ wz.cell? ⟨w.heap.size, 2, none⟩ = some (.bool true)) (by kernel_rfl) (by kernel_rfl) ?_
          refine wpMix_put (v := ?_) rfl rfl (Or.inl ⟨by rfl, fun wz hz => ?_⟩) hS ?_
          rotate_left
          (focus (go_simp; try (with_reducible rfl)))
          simp only [List.setIfInBounds_toArray, List.set_cons_succ, List.set_cons_zero]
          refine wpMix_put (v := ?_) rfl rfl (Or.inl ⟨by rfl, fun wz hz => ?_⟩) hS ?_
          rotate_left
          (focus (go_simp; try (with_reducible rfl)))
          simp only [List.setIfInBounds_toArray, List.set_cons_succ, List.set_cons_zero]
          refine wpMix_put (v := ?_) rfl rfl (Or.inl ⟨by rfl, fun wz hz => ?_⟩) hS ?_
          rotate_left
          (focus (go_simp; try (with_reducible rfl)))
          simp only [List.setIfInBounds_toArray, List.set_cons_succ, List.set_cons_zero]
          refine wpMix_put (v := ?_) rfl rfl (Or.inl ⟨by rfl, fun wz hz => ?_⟩) hS ?_
          rotate_left
          (focus (go_simp; try (with_reducible rfl)))
          simp only [List.setIfInBounds_toArray, List.set_cons_succ, List.set_cons_zero]
          refine wpMix_put (v := ?_) rfl rfl (Or.inl ⟨by rfl, fun wz hz => ?_⟩) hS ?_
          rotate_left
          (focus (go_simp; try (with_reducible rfl)))
          simp only [List.setIfInBounds_toArray, List.set_cons_succ, List.set_cons_zero]
          refine wpMix_step rfl (fun K hK => ?_)
          go_simp
          refine (has_any _ _ _ _ _ _ (by omega) (hh.below (hbl.drn 1))).mono ?_
          rintro e w' ⟨rfl, rfl⟩
          go_simp
          refine hK _ _ (fun _ => hS) ?_
          clear hK K
          refine wpMix_put (v := ?_) rfl rfl (Or.inl ⟨by rfl, fun wz hz => ?_⟩) hS ?_
          rotate_left
          (focus (go_simp; try (with_reducible rfl)))
          simp only [List.setIfInBounds_toArray, List.set_cons_succ, List.set_cons_zero]
          refine wpMix_nil ?_
          clear hS
          have hbz : Below w.heap.size w (wr.drewN 1) := hbl.drn 1
          have z0 : (wr.drewN 1).cell? ⟨w.heap.size, 0, none⟩ = some (.string r.frm) := c0
          have z1 : (wr.drewN 1).cell? ⟨w.heap.size, 1, none⟩ = some (.string r.to) := c1
          have z2 : (wr.drewN 1).cell? ⟨w.heap.size, 2, none⟩ = some (.bool true) := c2
          clear c0 c1 c2 hbl
          generalize wr.drewN 1 = wz at hbz z0 z1 z2 ⊢
          have hhz := hh.below hbz
          have hlz := hl.below hbz
          cases ht : Rf.has heads r.to
          · have HW := Lib.hid (wr4 hcn.out (show (Rf.has heads r.frm != r.also) = false from by rw [hf, ha]; rfl) hcl (show (!Rf.has heads r.to && (r.also || (see l r.to).isNone)) = true from by rw [ht, ha]; rfl))
            clear hf ha
            go_wp2_with (go_at_call 50; refine (has_any _ _ _ _ _ _ (by omega) hhz).mono ?_; rintro e w' ⟨rfl, rfl⟩)
            go_ret
            exact ⟨ret_i64 HW.out.symm, hbz⟩
          · have HW := Lib.hid (wr5 hcn.out (show (Rf.has heads r.frm != r.also) = false from by rw [hf, ha]; rfl) hcl (show (!Rf.has heads r.to && (r.also || (see l r.to).isNone)) = false from by rw [ht]; rfl) ha)
            clear hf ha
            cases he : (r.frm.toList == r.to.toList)
            · have HW2 := Lib.hid (show wrong l heads k r = 0 from by rw [HW.out, he]; rfl)
              go_wp2_with (go_at_call 50; refine (has_any _ _ _ _ _ _ (by omega) hhz).mono ?_; rintro e w' ⟨rfl, rfl⟩)
              go_ret
              exact ⟨ret_i64 HW2.out.symm, hbz⟩
            · have HW2 := Lib.hid (show wrong l heads k r = 13 from by rw [HW.out, he]; rfl)
              go_wp2_with (go_at_call 50; refine (has_any _ _ _ _ _ _ (by omega) hhz).mono ?_; rintro e w' ⟨rfl, rfl⟩)
              go_ret
              exact ⟨ret_i64 HW2.out.symm, hbz⟩
end Go.Proofs.YtdfnfimajhagfaaGreatDoor
