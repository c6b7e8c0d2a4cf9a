/- Walks: Repaired; own. -/
import Derived.Test.YtdfnfimajhagfaaGreatDoorG1
namespace Go.Proofs.YtdfnfimajhagfaaGreatDoor
open Go.RowKit Go.Maps Rf
set_option maxRecDepth 20000 in
set_option maxHeartbeats 2000000 in
theorem repaired_any (A B : Option Addr) (n m c d : Nat) (l : List Int) (heads : List S) (most : Int) (w : World) (h0 : -9223372036854775808 ≤ most) (h1 : most ≤ 10000) (hn : n ≤ 9223372036854775807) (hmh : m ≤ 100000) (hl : Ints w A n l) (hh : Strs w B m heads) :
    Calls Tryz.prog 67 #[.slice A n c, .slice B m d, .int .i64 most] w (ARefs most.toNat w) := by
  go_enter Tryz.func67, Tryz.ntmps67
  go_wp2_with fail
  refine (refs_any _ _ _ _ _ _ h0 (by omega) hn hl).mono ?_
  rintro e w2 ⟨A2, n2, c2, l2, rfl, hc2, hn2, hl2, hb2⟩
  go_wp2_with fail
  refine (repair_ref _ _ _ _ _ _ _ _ _ (by omega) (by omega) hl2 (hh.below hb2)).mono ?_
  rintro e w3 ⟨A3, k3, c3, A4, k4, c4, rfl, hk3, hkn3, hk4, hkn4, hi3, hs4, hb3⟩
  go_wp2_with fail
  refine (without_any _ _ _ _ _ _ _ _ _ (by omega) (by omega) (hl2.below hb3) hi3).mono ?_
  rintro e w5 ⟨A5, k5, c5, rfl, hk5, hkn5, hr5, hb5⟩
  go_wp2
  go_ret
  exact ⟨A5, k5, c5, _, rfl, hk5, by omega, hr5, (hb2.tr hb3).tr hb5⟩
theorem snoc_refs' {w : World} {base : Nat} {e : TypeId} {A : Option Addr} {n c : Nat} {l : List Ref} {r : Ref} (o : Own w base e 3 (.slice A n c) n (refsCells l ++ [.string r.frm, .string r.to, .bool r.also])) : Own w base e 3 (.slice A n c) n (refsCells (l ++ [r])) := snoc_refs o
set_option maxRecDepth 20000 in
set_option maxHeartbeats 4000000 in
theorem own_new (A : Option Addr) (n c : Nat) (l : List Ref) (w : World) (hm : n ≤ 100000) (hl : Refs w A n l) :
    Calls Tryz.prog 65 #[.slice A n c] w fun e w' => ∃ A' c', e = .returned (.slice A' n c') ∧ n ≤ c' ∧ Own w' w.heap.size 136 3 (.slice A' n c') n (refsCells l) ∧ Below w.heap.size w w' := by
  go_enter Tryz.func65, Tryz.ntmps65
  go_wp2
  go_loopw [3, 4] (fun o ii wr => ∃ (i c1 : Nat) (A1 : Option Addr), i ≤ n ∧ ii = .int .i64 i ∧ o = .slice A1 i c1 ∧ i ≤ c1 ∧ Own wr w.heap.size 136 3 (.slice A1 i c1) i (refsCells (l.take i)) ∧ Below w.heap.size w wr) (fun _ ii _ => n - (intOf ii).toNat)
  case atStart => exact ⟨0, 0, none, by omega, rfl, rfl, by omega, Own.nil _ _ _ (Nat.le_refl _), brefl⟩
  case round =>
    obtain ⟨i, c1, A1, hi, rfl, rfl, hc1, ho, hbl⟩ := hrel
    by_cases hlt : i < n
    · obtain ⟨b, off, r, rfl, hx, hs1, hs2, hb0, hd1, hd2, hd3⟩ := hl.at_ hlt
      have hd := Lib.hid (Rf.take_snoc hx)
      have hlti : (i : Int) < n := by omega
      clear hx
      have hcells : ∀ wz, Below w.heap.size w wz → wz.cell? ⟨b, off + i * 3, none⟩ = some (.string r.frm) ∧ wz.cell? ⟨b, off + i * 3 + 1, none⟩ = some (.string r.to) ∧ wz.cell? ⟨b, off + i * 3 + 2, none⟩ = some (.bool r.also) := fun wz hz =>
        ⟨(hz.cell (p := ⟨b, off + i * 3, none⟩) hb0).trans hd1, (hz.cell (p := ⟨b, off + i * 3 + 1, none⟩) hb0).trans hd2, (hz.cell (p := ⟨b, off + i * 3 + 2, none⟩) hb0).trans hd3⟩
      clear hd1 hd2 hd3 hb0
      have hbw5 : Below w.heap.size w wr.drew := hbl.drn 1
      have ho5 := ho.drew
      have hS := hcells _ hbw5
      go_wp2
      refine wp_region_mix [(true, 0), (true, 1), (true, 2), (true, 3), (true, 4), (true, 5), (true, 6), (true, 7), (true, 8), (true, 9), (true, 10), (true, 11), (true, 12), (true, 13), (true, 14), (true, 15), (true, 16), (false, 17), (false, 18), (true, 19)] 20 (fun wz => wz.cell? ⟨b, off + i * 3, none⟩ = some (.string r.frm) ∧ wz.cell? ⟨b, off + i * 3 + 1, none⟩ = some (.string r.to) ∧ wz.cell? ⟨b, off + i * 3 + 2, none⟩ = some (.bool r.also)) (by kernel_rfl) (by kernel_rfl) ?_
      generalize wr.drew = w5 at hbw5 ho5 hS ⊢
      refine wpMix_put (v := ?_) rfl rfl (Or.inl ⟨by rfl, fun wz hz => ?_⟩) hS ?_
      rotate_left
      (focus (go_simp; try (with_reducible rfl)))
      simp only [List.setIfInBounds_toArray, List.set_cons_succ, List.set_cons_zero]
      refine wpMix_put (v := ?_) rfl rfl (Or.inl ⟨by rfl, fun wz hz => ?_⟩) hS ?_
      rotate_left
      (focus (go_simp; try (with_reducible rfl)))
      simp only [List.setIfInBounds_toArray, List.set_cons_succ, List.set_cons_zero]
      refine wpMix_put (v := ?_) rfl rfl (Or.inl ⟨by rfl, fun wz hz => ?_⟩) hS ?_
      rotate_left
      (focus (go_simp; try (with_reducible rfl)))
      simp only [List.setIfInBounds_toArray, List.set_cons_succ, List.set_cons_zero]
      refine wpMix_put (v := ?_) rfl rfl (Or.inl ⟨by rfl, fun wz hz => ?_⟩) hS ?_
      rotate_left
      (focus (go_simp; try (with_reducible rfl)))
      simp only [List.setIfInBounds_toArray, List.set_cons_succ, List.set_cons_zero]
      refine wpMix_put (v := ?_) rfl rfl (Or.inl ⟨by rfl, fun wz hz => ?_⟩) hS ?_
      rotate_left
      (focus (go_simp; try (with_reducible rfl)))
      simp only [List.setIfInBounds_toArray, List.set_cons_succ, List.set_cons_zero]
      refine wpMix_put (v := ?_) rfl rfl (Or.inl ⟨by rfl, fun wz hz => ?_⟩) hS ?_
      rotate_left
      (focus (go_simp; try (with_reducible rfl)))
      simp only [List.setIfInBounds_toArray, List.set_cons_succ, List.set_cons_zero]
      refine wpMix_put (v := ?_) rfl rfl (Or.inl ⟨by rfl, fun wz hz => ?_⟩) hS ?_
      rotate_left
      (focus (go_simp; try (with_reducible rfl)))
      simp only [List.setIfInBounds_toArray, List.set_cons_succ, List.set_cons_zero]
      refine wpMix_put (v := ?_) rfl rfl (Or.inl ⟨by rfl, fun wz hz => ?_⟩) hS ?_
      rotate_left
      (focus (go_simp; try (with_reducible rfl)))
      simp only [List.setIfInBounds_toArray, List.set_cons_succ, List.set_cons_zero]
      refine wpMix_put (v := ?_) rfl rfl (Or.inl ⟨by rfl, fun wz hz => ?_⟩) hS ?_
      rotate_left
      (focus (go_simp; try (with_reducible rfl)))
      simp only [List.setIfInBounds_toArray, List.set_cons_succ, List.set_cons_zero]
      refine wpMix_put (v := ?_) rfl rfl (Or.inl ⟨by rfl, fun wz hz => ?_⟩) hS ?_
      rotate_left
      (focus (go_simp; try (with_reducible rfl)))
      simp only [List.setIfInBounds_toArray, List.set_cons_succ, List.set_cons_zero]
      refine wpMix_put (v := ?_) rfl rfl (Or.inl ⟨by rfl, fun wz hz => ?_⟩) hS ?_
      rotate_left
      (focus (go_simp; try (with_reducible rfl)))
      simp only [List.setIfInBounds_toArray, List.set_cons_succ, List.set_cons_zero]
      refine wpMix_put (v := ?_) rfl rfl (Or.inl ⟨by rfl, fun wz hz => ?_⟩) hS ?_
      rotate_left
      (focus (go_simp; try (with_reducible rfl)))
      simp only [List.setIfInBounds_toArray, List.set_cons_succ, List.set_cons_zero]
      refine wpMix_put (v := ?_) rfl rfl (Or.inl ⟨by rfl, fun wz hz => ?_⟩) hS ?_
      rotate_left
      (focus (go_simp; try (with_reducible rfl)))
      simp only [List.setIfInBounds_toArray, List.set_cons_succ, List.set_cons_zero]
      refine wpMix_put (v := ?_) rfl rfl (Or.inl ⟨by rfl, fun wz hz => ?_⟩) hS ?_
      rotate_left
      (focus (go_simp; try (with_reducible rfl)))
      simp only [List.setIfInBounds_toArray, List.set_cons_succ, List.set_cons_zero]
      refine wpMix_put (v := ?_) rfl rfl (Or.inl ⟨by rfl, fun wz hz => ?_⟩) hS ?_
      rotate_left
      (focus (go_simp; try (with_reducible rfl)))
      simp only [List.setIfInBounds_toArray, List.set_cons_succ, List.set_cons_zero]
      refine wpMix_put (v := ?_) rfl rfl (Or.inl ⟨by rfl, fun wz hz => ?_⟩) hS ?_
      rotate_left
      (focus (go_simp; try (with_reducible rfl)))
      simp only [List.setIfInBounds_toArray, List.set_cons_succ, List.set_cons_zero]
      refine wpMix_put (v := ?_) rfl rfl (Or.inl ⟨by rfl, fun wz hz => ?_⟩) hS ?_
      rotate_left
      (focus (go_simp; try (with_reducible rfl)))
      simp only [List.setIfInBounds_toArray, List.set_cons_succ, List.set_cons_zero]
      refine wpMix_step rfl (fun K hK => ?_)
      go_simp
      have hS7 := hcells _ (hbw5.al (.cells #[.string r.frm, .string r.to, .bool r.also] 136))
      refine hK _ _ (fun _ => hS7) ?_
      clear hK K hS
      have hS := hS7
      clear hS7
      refine wpMix_step rfl (fun K hK => ?_)
      refine step_app _ refsT rfl (.tmp 11) (.tmp 28) rfl (ho5.alloc _) rfl rfl (news := [.string r.frm, .string r.to, .bool r.also]) rfl (Rds.new3 w5 _ _ _ 136) (by simp [Value.oneCell']) ?_ ?_ ?_
      · omega
      · omega
      intro A4 c4 w4 o4 n4 g4 _
      go_simp
      have hb4 := (hbw5.al (.cells #[.string r.frm, .string r.to, .bool r.also] 136)).gr g4 ho5.row
      have hS7 := hcells _ hb4
      refine hK _ _ (fun _ => hS7) ?_
      clear hK K hS
      have hS := hS7
      clear hS7
      refine wpMix_put (v := ?_) rfl rfl (Or.inl ⟨by rfl, fun wz hz => ?_⟩) hS ?_
      rotate_left
      (focus (go_simp; try (with_reducible rfl)))
      simp only [List.setIfInBounds_toArray, List.set_cons_succ, List.set_cons_zero]
      refine wpMix_nil ?_
      clear hS hcells
      go_wp2
      go_roundw
      case rel => exact ⟨i + 1, c4, A4, by omega, by go_num, rfl, n4, by rw [hd.out]; exact snoc_refs o4, hb4⟩
      case measure => simp [intOf]; omega
    · have hin : i = n := by omega
      subst hin
      go_wp2
      go_ret
      exact ⟨A1, c1, rfl, hc1, by rw [take_all hl.1 hi hlt] at ho; exact ho, hbl⟩
theorem own_any (A : Option Addr) (n c : Nat) (l : List Ref) (w : World) (hm : n ≤ 100000) (hl : Refs w A n l) :
    Calls Tryz.prog 65 #[.slice A n c] w fun e w' => ∃ A' c', e = .returned (.slice A' n c') ∧ n ≤ c' ∧ Refs w' A' n l ∧ Below w.heap.size w w' :=
  (own_new A n c l w hm hl).mono fun _ _ ⟨A', c', h1, h2, h3, h4⟩ => ⟨A', c', h1, h2, Refs.own h3 rfl hl.2.1, h4⟩
end Go.Proofs.YtdfnfimajhagfaaGreatDoor
/- Pairs of names compared; blocks that are known whole; Some; Bent. -/
namespace Go.Proofs.YtdfnfimajhagfaaGreatDoor
open Go.RowKit Go.Maps Rf
set_option maxRecDepth 20000 in
theorem eqIn_pair (x y x' y' : S) (w : World) : (Op.equalIn 10000 152 (.agg #[.string x, .string y]) (.agg #[.string x', .string y'])).run Tryz.prog w = .ok (x.toList == x'.toList && y.toList == y'.toList) w := by
  have u3 := Tryz.underlying9
  have hs : ∀ w, (sizeOf 9).run Tryz.prog w = .ok 1 w := fun w => by kernel_rfl
  rw [show (10000 : Nat) = 9999 + 1 from rfl, Op.equalIn]
  simp only [Sem.run_bind, run_underlying Tryz.underlying152, Result.andThen_ok, hs]
  have p0 : ∀ (a b : S) (w : World), (part 9 #[.string a, .string b] 0).run Tryz.prog w = .ok (.string a) w := fun a b w => by kernel_rfl
  have p1 : ∀ (a b : S) (w : World), (part 9 #[.string a, .string b] 1).run Tryz.prog w = .ok (.string b) w := fun a b w => by kernel_rfl
  have e : ∀ (a b : S) (w : World), (Op.equalIn 9999 9 (.string a) (.string b)).run Tryz.prog w = .ok (a.toList == b.toList) w := fun a b w => run_equalIn_string w 9998 9 a b u3
  simp [Std.Legacy.Range.forIn_eq_forIn_range', List.range', p0, p1, e]
  by_cases h1 : x.toList = x'.toList
  · by_cases h2 : y.toList = y'.toList <;> simp [h1, h2]
  · simp [h1]
theorem neq_pair (x y x' y' : S) (w : World) : Sem.run Tryz.prog (binOp .neq 152 (.agg #[.string x, .string y]) (.agg #[.string x', .string y'])) w = .ok (.bool !(x.toList == x'.toList && y.toList == y'.toList)) w := by
  rw [run_neq_struct, eqIn_pair]; rfl
theorem eql_pair (x y x' y' : S) (w : World) : Sem.run Tryz.prog (binOp .eql 152 (.agg #[.string x, .string y]) (.agg #[.string x', .string y'])) w = .ok (.bool (x.toList == x'.toList && y.toList == y'.toList)) w := by
  rw [run_eql_struct, eqIn_pair]; rfl
/-- a block that is known whole, as a source -/
theorem Rds.lit (w : World) (u : Array Value) (t : TypeId) : Rds (w.alloc (.cells u t)) (some ⟨w.heap.size, 0, none⟩) u.toList := fun _ =>
  ⟨w.heap.size, 0, rfl, by simp, fun j v hv => by
    rw [cell_of_row _ _ (0 + j) u t (0, 0) (heap_alloc_new w _), Nat.zero_add, ← Array.getElem?_toList]; exact hv⟩
theorem Strs.lit (w : World) (u : Array Value) (t : TypeId) (l : List S) (n : Nat) (hu : u.toList = l.map Value.string) (hn : l.length = n) (hl : ∀ s ∈ l, s.size ≤ maxLen) : Strs (w.alloc (.cells u t)) (some ⟨w.heap.size, 0, none⟩) n l :=
  ⟨hn, hl, by rw [← hu]; exact Rds.lit w u t⟩
theorem Ints.lit (w : World) (u : Array Value) (t : TypeId) (l : List Int) (n : Nat) (hu : u.toList = l.map (Value.int .i64)) (hn : l.length = n) (hl : ∀ s ∈ l, i64ok s) : Ints (w.alloc (.cells u t)) (some ⟨w.heap.size, 0, none⟩) n l :=
  ⟨hn, hl, by rw [← hu]; exact Rds.lit w u t⟩
theorem Refs.lit (w : World) (u : Array Value) (t : TypeId) (l : List Ref) (n : Nat) (hu : u.toList = refsCells l) (hn : l.length = n) (hl : ∀ r ∈ l, r.frm.size ≤ maxLen ∧ r.to.size ≤ maxLen) : Refs (w.alloc (.cells u t)) (some ⟨w.heap.size, 0, none⟩) n l :=
  ⟨hn, hl, by rw [← hu]; exact Rds.lit w u t⟩
def AInts (k : Nat) (w : World) (e : Ending) (w' : World) : Prop := ∃ A n c l, e = .returned (.slice A n c) ∧ n ≤ c ∧ n ≤ k ∧ Ints w' A n l ∧ Below w.heap.size w w'
end Go.Proofs.YtdfnfimajhagfaaGreatDoor
