/- Walks of package refer: Valid, back. -/
import Derived.Test.YtdfnfimajhagfaaGreatDoorP2
import Derived.Test.YtdfnfimajhagfaaGreatDoorReg
namespace Go.Proofs.YtdfnfimajhagfaaGreatDoor
open Go.RowKit Go.Maps Rf
theorem validFrom_ok {l : List Ref} {heads : List S} {rest : List Ref} {i : Nat} {r : Ref} {k : Int} (h : wrong l heads i r = k) (hk : k = 0) : validFrom l heads (r :: rest) i = validFrom l heads rest (i + 1) := by
  rw [validFrom, h, hk]; rfl
theorem validFrom_bad {l : List Ref} {heads : List S} {rest : List Ref} {i : Nat} {r : Ref} {k : Int} (h : wrong l heads i r = k) (hk : ¬ k = 0) : validFrom l heads (r :: rest) i = (i, k) := by
  rw [validFrom, h, if_pos (by simp only [eOK, bne_iff_ne, ne_eq]; exact hk)]
theorem wrong_range (l : List Ref) (heads : List S) (i : Nat) (r : Ref) : 0 ≤ wrong l heads i r ∧ wrong l heads i r ≤ 14 := by
  unfold wrong
  repeat' split
  all_goals decide
set_option maxRecDepth 20000 in
set_option maxHeartbeats 2000000 in
theorem valid_any (A B : Option Addr) (n m c d : Nat) (l : List Ref) (heads : List S) (w : World) (hm : n ≤ 100000) (hmh : m ≤ 100000) (hc : n ≤ c) (hl : Refs w A n l) (hh : Strs w B m heads) :
    Calls Tryz.prog 64 #[.slice A n c, .slice B m d] w fun e w' => e = .returned (.tuple #[.int .i64 (valid l heads).1, .int .i64 (valid l heads).2]) ∧ Below w.heap.size w w' := by
  go_enter Tryz.func64, Tryz.ntmps64
  go_wp2_with (go_at_call 112; refine (of_any _ _ _ _ _ _ _ _ _ hm hmh hc hl hh).mono ?_; rintro e w1 ⟨g, hb, sb, rfl, hg1, hg2, hg3⟩)
  go_loopw [14] (fun i wr => ∃ k : Nat, k ≤ n ∧ i = .int .i64 k ∧ Hid (valid l heads = validFrom l heads (l.drop k) k) ∧ Below w1.heap.size w1 wr) (fun i _ => n - (intOf i).toNat)
  case atStart => exact ⟨0, by omega, rfl, rfl, brefl⟩
  case round =>
    obtain ⟨k, hk, rfl, hr, hbl⟩ := hrel
    by_cases hlt : k < n
    · obtain ⟨b, off, r, rfl, hx, hs1, hs2, hb0, hc1, hc2, hc3⟩ := (hl.below (hg3.tr hbl)).at_ hlt
      have hd := Lib.hid (drop_get hx)
      have hwr := wrong_range l heads k r
      have hwc := wrongP_any g _ n c hb sb l heads k r wr hm (hg2.below hbl) hx
      clear hx hb0
      generalize hwv : wrong l heads k r = v at hwr hwc
      have WV := Lib.hid hwv
      clear hwv
      by_cases hv : v = 0
      · go_wp2_with (go_at_call 113; refine hwc.mono ?_; rintro e w2 ⟨rfl, hb2⟩)
        go_roundw
        case rel => exact ⟨k + 1, by omega, by go_num, by show _ = _; rw [hr.out, hd.out, validFrom_ok WV.out hv], hbl.tr hb2⟩
        case measure => simp [intOf]; omega
      · go_wp2_with (go_at_call 113; refine hwc.mono ?_; rintro e w2 ⟨rfl, hb2⟩)
        go_ret2
        exact ⟨by rw [hr.out, hd.out, validFrom_bad WV.out hv]; rfl, hg3.tr (hbl.tr hb2)⟩
    · have hd := Lib.hid (drop_len hl.1 hlt)
      have hkn : k = n := by omega
      subst hkn
      go_wp2
      go_ret2
      exact ⟨by rw [hr.out, hd.out]; rfl, hg3.tr hbl⟩
/-! ### back -/
theorem back_snoc (a : List Ref) (r : Ref) : back (a ++ [r]) = back a ++ [⟨r.to, r.frm, r.also⟩] := by simp [back]
theorem refsCells_append (a b : List Ref) : refsCells (a ++ b) = refsCells a ++ refsCells b := by simp [refsCells]
theorem grown_frozen {w w' : World} {row : Option Nat} (hg : w.grownBy w' row) {a : Addr} (h : a.block < w.heap.size) (hne : some a.block ≠ row) : w'.frozen? a = w.frozen? a := World.frozen?_of_block (hg.block _ h hne)
theorem Rds.new3 (w : World) (u1 u2 u3 : Value) (t : TypeId) : Rds (w.alloc (.cells #[u1, u2, u3] t)) (some ⟨w.heap.size, 0, none⟩) [u1, u2, u3] := fun _ =>
  ⟨w.heap.size, 0, rfl, by simp, fun j v hv => by
    match j, hv with
    | 0, hv => simp at hv; subst hv; exact cell_of_row _ _ 0 #[u1, u2, u3] t (0, 0) (heap_alloc_new w _)
    | 1, hv => simp at hv; subst hv; exact cell_of_row _ _ 1 #[u1, u2, u3] t (0, 0) (heap_alloc_new w _)
    | 2, hv => simp at hv; subst hv; exact cell_of_row _ _ 2 #[u1, u2, u3] t (0, 0) (heap_alloc_new w _)⟩
theorem grown_set (w : World) (a : Addr) (u : Value) : w.grownBy (w.setCell a u) (some a.block) :=
  ⟨rfl, rfl, rfl, by simp, fun k _ hk => heap_setCell_other w a k u (fun e => hk (by rw [e]))⟩
/-- a graph's list -/
def Gl (w : World) (g : Nat) (A : Option Addr) (n c : Nat) (l : List Ref) : Prop := g < w.heap.size ∧ n ≤ c ∧ Refs w A n l ∧ w.cell? ⟨g, 0, none⟩ = some (.slice A n c)
theorem Gr.gl {w : World} {g : Nat} {A : Option Addr} {n c hb sb : Nat} {l : List Ref} {heads : List S} (h : Gr w g A n c hb sb l heads) : Gl w g A n c l := ⟨h.1, h.2.1, h.2.2.1, h.2.2.2.2.2.1⟩
theorem Gl.below {w w' : World} {g : Nat} {A : Option Addr} {n c : Nat} {l : List Ref} (h : Gl w g A n c l) (hbl : Below w.heap.size w w') : Gl w' g A n c l :=
  ⟨Nat.lt_of_lt_of_le h.1 hbl.size, h.2.1, h.2.2.1.below hbl, (hbl.cell (p := ⟨g, 0, none⟩) h.1).trans h.2.2.2⟩
theorem refsT : AppT Tryz.prog 82 136 3 40 := AppT.mk Tryz.underlying82 (z := .agg #[.string ByteArray.empty, .string ByteArray.empty, .bool false]) (by kernel_rfl) rfl (by omega)
set_option maxRecDepth 20000 in
set_option maxHeartbeats 2000000 in
theorem back_any (g : Nat) (A : Option Addr) (n c hb sb : Nat) (l : List Ref) (heads : List S) (w : World) (hm : n ≤ 100000) (hg : Gr w g A n c hb sb l heads) :
    Calls Tryz.prog 155 #[.pointer (some ⟨g, 0, none⟩)] w fun e w' => ∃ g' A' c', e = .returned (.pointer (some ⟨g', 0, none⟩)) ∧ Gl w' g' A' n c' (back l) ∧ Below w.heap.size w w' := by
  obtain ⟨hg0, hnc, hl, hfh, hfs, c0, c1, c2⟩ := hg
  go_enter Tryz.func155, Tryz.ntmps155
  go_wp2
  go_loopw [17] (fun i wr => ∃ (k c1 : Nat) (A1 : Option Addr), k ≤ n ∧ i = .int .i64 k ∧ k ≤ c1 ∧ wr.cell? ⟨w.heap.size, 0, none⟩ = some (.slice A1 k c1) ∧ wr.frozen? ⟨w.heap.size, 0, none⟩ = false ∧
      Own wr (w.heap.size + 1) 136 3 (.slice A1 k c1) k (refsCells (back (l.take k))) ∧ Below w.heap.size w wr) (fun i _ => n - (intOf i).toNat)
  case atStart => exact ⟨0, 0, none, by omega, rfl, by omega, by simp, by simp, Own.nil _ _ _ (by simp), brefl.al _⟩
  case round =>
    obtain ⟨k, c3, A1, hk, rfl, hc3, g0, gf, ho, hbl⟩ := hrel
    by_cases hlt : k < n
    · obtain ⟨b, off, r, rfl, hx, hs1, hs2, hb0, hc1, hc2, hc4⟩ := (hl.below hbl).at_ hlt
      have hd := Lib.hid (take_snoc hx)
      clear hx hb0
      go_wp2
      have hgs : w.heap.size < wr.heap.size := by have := ho.2; omega
      have ho2 := ho.alloc (.cells #[.string r.frm, .string r.to, .bool r.also] 136)
      have hb2 : Below wr.heap.size wr (wr.alloc (.cells #[.string r.frm, .string r.to, .bool r.also] 136)) := brefl.al _
      have q0 : (wr.alloc (.cells #[.string r.frm, .string r.to, .bool r.also] 136)).cell? ⟨wr.heap.size, 0, none⟩ = some (.string r.frm) := by simp
      have q1 : (wr.alloc (.cells #[.string r.frm, .string r.to, .bool r.also] 136)).cell? ⟨wr.heap.size, 1, none⟩ = some (.string r.to) := by simp
      have q2 : (wr.alloc (.cells #[.string r.frm, .string r.to, .bool r.also] 136)).cell? ⟨wr.heap.size, 2, none⟩ = some (.bool r.also) := by simp
      replace g0 := (hb2.cell (p := ⟨w.heap.size, 0, none⟩) hgs).trans g0
      replace gf := (hb2.frozen (p := ⟨w.heap.size, 0, none⟩) hgs).trans gf
      have hqs : wr.heap.size < (wr.alloc (.cells #[.string r.frm, .string r.to, .bool r.also] 136)).heap.size := by simp
      have hbw := hbl.al (.cells #[.string r.frm, .string r.to, .bool r.also] 136)
      have hne : ∀ j, (Value.slice A1 k c3).ownBlock = some j → j ≠ w.heap.size ∧ j ≠ wr.heap.size := fun j hj => by
        have h1 := ho.row j hj; have h2 := ho.lt j hj; omega
      generalize (wr.alloc (.cells #[.string r.frm, .string r.to, .bool r.also] 136)) = w2 at ho2 q0 q1 q2 g0 gf hqs hbw ⊢
      clear ho hb2 c0 c1 c2 hc1 hc2 hc4
      refine wp_region_held [0, 1, 2, 3, 4, 5, 6, 7, 8, 9, 10, 11] [12, 13, 14, 15, 16] 16 (fun wz => wz.cell? ⟨w.heap.size, 0, none⟩ = some (.slice A1 k c3) ∧ wz.cell? ⟨wr.heap.size, 0, none⟩ = some (.string r.frm) ∧
        wz.cell? ⟨wr.heap.size, 1, none⟩ = some (.string r.to) ∧ wz.cell? ⟨wr.heap.size, 2, none⟩ = some (.bool r.also)) (by kernel_rfl) (by kernel_rfl) ⟨g0, q0, q1, q2⟩ ?_
      refine wpHeld_put (v := ?_) rfl rfl (Or.inl ⟨by rfl, fun wz hz => ?_⟩) ?_
      rotate_left
      (focus (obtain ⟨z0, z1, z2, z3⟩ := hz; go_simp; try (with_reducible rfl)))
      simp only [List.setIfInBounds_toArray, List.set_cons_succ, List.set_cons_zero]
      refine wpHeld_put (v := ?_) rfl rfl (Or.inl ⟨by rfl, fun wz hz => ?_⟩) ?_
      rotate_left
      (focus (obtain ⟨z0, z1, z2, z3⟩ := hz; go_simp; try (with_reducible rfl)))
      simp only [List.setIfInBounds_toArray, List.set_cons_succ, List.set_cons_zero]
      refine wpHeld_put (v := ?_) rfl rfl (Or.inl ⟨by rfl, fun wz hz => ?_⟩) ?_
      rotate_left
      (focus (obtain ⟨z0, z1, z2, z3⟩ := hz; go_simp; try (with_reducible rfl)))
      simp only [List.setIfInBounds_toArray, List.set_cons_succ, List.set_cons_zero]
      refine wpHeld_put (v := ?_) rfl rfl (Or.inl ⟨by rfl, fun wz hz => ?_⟩) ?_
      rotate_left
      (focus (obtain ⟨z0, z1, z2, z3⟩ := hz; go_simp; try (with_reducible rfl)))
      simp only [List.setIfInBounds_toArray, List.set_cons_succ, List.set_cons_zero]
      refine wpHeld_put (v := ?_) rfl rfl (Or.inl ⟨by rfl, fun wz hz => ?_⟩) ?_
      rotate_left
      (focus (obtain ⟨z0, z1, z2, z3⟩ := hz; go_simp; try (with_reducible rfl)))
      simp only [List.setIfInBounds_toArray, List.set_cons_succ, List.set_cons_zero]
      refine wpHeld_put (v := ?_) rfl rfl (Or.inl ⟨by rfl, fun wz hz => ?_⟩) ?_
      rotate_left
      (focus (obtain ⟨z0, z1, z2, z3⟩ := hz; go_simp; try (with_reducible rfl)))
      simp only [List.setIfInBounds_toArray, List.set_cons_succ, List.set_cons_zero]
      refine wpHeld_put (v := ?_) rfl rfl (Or.inl ⟨by rfl, fun wz hz => ?_⟩) ?_
      rotate_left
      (focus (obtain ⟨z0, z1, z2, z3⟩ := hz; go_simp; try (with_reducible rfl)))
      simp only [List.setIfInBounds_toArray, List.set_cons_succ, List.set_cons_zero]
      refine wpHeld_put (v := ?_) rfl rfl (Or.inl ⟨by rfl, fun wz hz => ?_⟩) ?_
      rotate_left
      (focus (obtain ⟨z0, z1, z2, z3⟩ := hz; go_simp; try (with_reducible rfl)))
      simp only [List.setIfInBounds_toArray, List.set_cons_succ, List.set_cons_zero]
      refine wpHeld_put (v := ?_) rfl rfl (Or.inl ⟨by rfl, fun wz hz => ?_⟩) ?_
      rotate_left
      (focus (obtain ⟨z0, z1, z2, z3⟩ := hz; go_simp; try (with_reducible rfl)))
      simp only [List.setIfInBounds_toArray, List.set_cons_succ, List.set_cons_zero]
      refine wpHeld_put (v := ?_) rfl rfl (Or.inl ⟨by rfl, fun wz hz => ?_⟩) ?_
      rotate_left
      (focus (obtain ⟨z0, z1, z2, z3⟩ := hz; go_simp; try (with_reducible rfl)))
      simp only [List.setIfInBounds_toArray, List.set_cons_succ, List.set_cons_zero]
      refine wpHeld_put (v := ?_) rfl rfl (Or.inl ⟨by rfl, fun wz hz => ?_⟩) ?_
      rotate_left
      (focus (obtain ⟨z0, z1, z2, z3⟩ := hz; go_simp; try (with_reducible rfl)))
      simp only [List.setIfInBounds_toArray, List.set_cons_succ, List.set_cons_zero]
      refine wpHeld_put (v := ?_) rfl rfl (Or.inl ⟨by rfl, fun wz hz => ?_⟩) ?_
      rotate_left
      (focus (obtain ⟨z0, z1, z2, z3⟩ := hz; go_simp; try (with_reducible rfl)))
      simp only [List.setIfInBounds_toArray, List.set_cons_succ, List.set_cons_zero]
      refine wpHeld_nil ?_
      have ho3 := ho2.drew
      have hS3 : (w2.drew.cell? ⟨w.heap.size, 0, none⟩ = some (.slice A1 k c3) ∧ w2.drew.cell? ⟨wr.heap.size, 0, none⟩ = some (.string r.frm) ∧ w2.drew.cell? ⟨wr.heap.size, 1, none⟩ = some (.string r.to) ∧ w2.drew.cell? ⟨wr.heap.size, 2, none⟩ = some (.bool r.also)) := ⟨g0, q0, q1, q2⟩
      have gf3 : w2.drew.frozen? ⟨w.heap.size, 0, none⟩ = false := gf
      have hb3 := hbw.drn 1
      replace hb3 : Below w.heap.size w w2.drew := hb3
      generalize w2.drew = w3 at ho3 hS3 gf3 hb3 ⊢
      clear ho2 q0 q1 q2 g0 gf hbw hqs
      refine wpSeq_step rfl (fun K hK => ?_)
      go_simp
      have ha := World.grownBy_alloc w3 (.cells #[.string r.to, .string r.frm, .bool r.also] 136) none
      refine hK _ _ (fun _ => ⟨ha.cell hS3.1 (by simp), ha.cell hS3.2.1 (by simp), ha.cell hS3.2.2.1 (by simp), ha.cell hS3.2.2.2 (by simp)⟩) ?_
      clear hK K
      refine wpSeq_step rfl (fun K hK => ?_)
      refine step_app _ refsT rfl (.tmp 25) (.tmp 33) rfl (ho3.alloc _) rfl rfl (news := refsCells [⟨r.to, r.frm, r.also⟩]) rfl ?_ (refs_one _) ?_ ?_ ?_
      · exact Rds.new3 w3 _ _ _ 136
      · omega
      · omega
      intro A4 c4 w4 o4 n4 g4 _
      have hr4 : some w.heap.size ≠ (Value.slice A1 k c3).ownBlock ∧ some wr.heap.size ≠ (Value.slice A1 k c3).ownBlock := ⟨fun e => (hne _ e.symm).1 rfl, fun e => (hne _ e.symm).2 rfl⟩
      have hs4 := ha.cell hS3.1 (by simp)
      replace hs4 := g4.cell hs4 hr4.1
      refine hK _ _ (fun _ => ⟨hs4, g4.cell (ha.cell hS3.2.1 (by simp)) hr4.2, g4.cell (ha.cell hS3.2.2.1 (by simp)) hr4.2, g4.cell (ha.cell hS3.2.2.2 (by simp)) hr4.2⟩) ?_
      have gf4 : w4.frozen? ⟨w.heap.size, 0, none⟩ = false := by
        rw [grown_frozen g4 (a := ⟨w.heap.size, 0, none⟩) (by have := (hb3.al (.cells #[.string r.to, .string r.frm, .bool r.also] 136)).size; have := ho3.2; simp; omega) hr4.1, grown_frozen (World.grownBy_alloc w3 _ none) (a := ⟨w.heap.size, 0, none⟩) (by have := ho3.2; simp; omega) (by simp)]; exact gf3
      have hb4 := (hb3.al (.cells #[.string r.to, .string r.frm, .bool r.also] 136)).gr g4 (fun j hj => by have := ho3.row j hj; omega)
      have hk4 : w4.cell? ⟨w.heap.size, 0, none⟩ = some (.slice A1 k c3) ∧ w4.cell? ⟨wr.heap.size, 0, none⟩ = some (.string r.frm) ∧ w4.cell? ⟨wr.heap.size, 1, none⟩ = some (.string r.to) ∧ w4.cell? ⟨wr.heap.size, 2, none⟩ = some (.bool r.also) := ⟨hs4, g4.cell (ha.cell hS3.2.1 (by simp)) hr4.2, g4.cell (ha.cell hS3.2.2.1 (by simp)) hr4.2, g4.cell (ha.cell hS3.2.2.2 (by simp)) hr4.2⟩
      clear hK K ha g4 hS3 ho3 gf3 hb3
      refine wpSeq_step rfl (fun K hK => ?_)
      go_simp
      refine hK _ _ (fun _ => hk4) ?_
      clear hK K
      refine wpSeq_step rfl (fun K hK => ?_)
      go_simp
      refine hK _ _ (fun _ => hk4) ?_
      clear hK K
      refine wpSeq_step rfl (fun K hK => ?_)
      go_simp
      refine hK _ _ (fun h => absurd rfl h) ?_
      clear hK K
      refine wpSeq_nil ?_
      go_wp2
      have hgs4 := grown_set w4 ⟨w.heap.size, 0, none⟩ (.slice A4 (k + 1) c4)
      have o5 := o4.kept hgs4 (.inr fun e => by have := o4.row w.heap.size e; omega)
      go_roundw
      case rel =>
        refine ⟨k + 1, c4, A4, by omega, by go_num, n4, World.cell?_setCell_same _ _ _ hk4.1, by rw [World.frozen?_setCell]; exact gf4, ?_, hb4.st (Nat.le_refl _) _⟩
        rw [hd.out, back_snoc, refsCells_append]; exact o5
      case measure => simp [intOf]; omega
    · have hkn : k = n := by omega
      have ht := Lib.hid (take_all hl.1 hk hlt)
      subst hkn
      go_wp2
      go_ret
      refine ⟨w.heap.size, A1, c3, rfl, ⟨by have := ho.2; omega, hc3, ?_, g0⟩, hbl⟩
      refine Refs.own ho (by rw [ht.out]) fun q hq => ?_
      obtain ⟨p, hp, rfl⟩ := List.mem_map.1 hq
      exact ⟨(hl.2.1 p hp).2, (hl.2.1 p hp).1⟩
end Go.Proofs.YtdfnfimajhagfaaGreatDoor
