/- Walk of package refer: from, the search in breadth. -/
import Derived.Test.YtdfnfimajhagfaaGreatDoorP3
import Derived.Test.YtdfnfimajhagfaaGreatDoorTail
import Derived.Deep.LoopGhost
namespace Go.Proofs.YtdfnfimajhagfaaGreatDoor
open Go.RowKit Go.Maps Rf
/-- the names to which references lead from a name -/
def nexts (l : List Ref) (s : S) : List S := (l.filter fun r => eqS r.frm s).map Ref.to
theorem nexts_snoc (a : List Ref) (r : Ref) (s : S) : nexts (a ++ [r]) s = if s = r.frm then nexts a s ++ [r.to] else nexts a s := by
  unfold nexts
  rw [List.filter_append, List.map_append]
  by_cases h : s = r.frm
  · subst h; simp [(eqS_iff r.frm r.frm).2 rfl]
  · rw [if_neg h]; simp [(eqS_false r.frm s).2 (Ne.symm h)]
theorem mem_nexts {l : List Ref} {s x : S} : x ∈ nexts l s ↔ ∃ r ∈ l, r.frm = s ∧ r.to = x := by
  unfold nexts
  simp only [List.mem_map, List.mem_filter, eqS_iff]
  constructor
  · rintro ⟨r, ⟨h1, h2⟩, h3⟩; exact ⟨r, h1, h2, h3⟩
  · rintro ⟨r, h1, h2, h3⟩; exact ⟨r, ⟨h1, h2⟩, h3⟩
theorem nexts_length (l : List Ref) (s : S) : (nexts l s).length ≤ l.length := by unfold nexts; rw [List.length_map]; exact List.length_filter_le _ _
abbrev nilS : Value := .slice none 0 0
/-- the map of the names that follow: no two of its slices lie in one row -/
def GrpF (w : World) (base nb n : Nat) (l : List Ref) (f : S → Option Value) : Prop :=
  MapS w nb n f ∧ (∀ s : S, s.size ≤ maxLen → ∃ A k c, (f s).getD nilS = .slice A k c ∧ k ≤ c ∧ Own w base 9 1 (.slice A k c) k ((nexts l s).map Value.string)) ∧
    ∀ s t : S, s.size ≤ maxLen → t.size ≤ maxLen → s ≠ t → ∀ j, ((f s).getD nilS).ownBlock = some j → ((f t).getD nilS).ownBlock ≠ some j
def Grp (w : World) (base nb n : Nat) (l : List Ref) : Prop := ∃ f, GrpF w base nb n l f
theorem GrpF.kept {w w' : World} {base nb n : Nat} {l : List Ref} {f : S → Option Value} {row : Option Nat} (h : GrpF w base nb n l f) (hg : w.grownBy w' row) (hr : ∀ j, row = some j → j < base ∧ j ≠ nb) : GrpF w' base nb n l f := by
  obtain ⟨h1, h2, h3⟩ := h
  refine ⟨h1.kept hg fun e => (hr nb e.symm).2 rfl, fun s hs => ?_, h3⟩
  obtain ⟨A, k, c, e, hk, ho⟩ := h2 s hs
  refine ⟨A, k, c, e, hk, ho.kept hg ?_⟩
  cases hb : (Value.slice A k c).ownBlock with
  | none => exact .inl rfl
  | some j => exact .inr fun e => by have := (hr j e.symm).1; have := ho.row j hb; omega
theorem GrpF.step {w w4 w5 : World} {base nb n : Nat} {a : List Ref} {r : Ref} {f : S → Option Value} (h : GrpF w base nb n a f) (hr : r.frm.size ≤ maxLen) (hnb : nb < base) {row : Option Nat} (hrow : row = ((f r.frm).getD nilS).ownBlock)
    (g4 : w.grownBy w4 row) {A' : Option Addr} {k c' : Nat} (o4 : Own w4 base 9 1 (.slice A' (k + 1) c') (k + 1) ((nexts a r.frm).map Value.string ++ [.string r.to])) (hc : k + 1 ≤ c')
    (hloc : (Value.slice A' (k + 1) c').ownBlock = row ∨ ∃ j, w.heap.size ≤ j ∧ (Value.slice A' (k + 1) c').ownBlock = some j) (g5 : w4.grownBy w5 (some nb)) (h5 : MapS w5 nb (n + 1) (updV f r.frm (.slice A' (k + 1) c'))) :
    Grp w5 base nb (n + 1) (a ++ [r]) := by
  obtain ⟨h1, h2, h3⟩ := h
  have fresh : ∀ s : S, s.size ≤ maxLen → ∀ j, ((f s).getD nilS).ownBlock = some j → j < w.heap.size := fun s hs j hj => by
    obtain ⟨A, k, c, e, hk, ho⟩ := h2 s hs
    rw [e] at hj
    exact ho.lt j hj
  have apart : ∀ s : S, s.size ≤ maxLen → s ≠ r.frm → ∀ j, ((f s).getD nilS).ownBlock = some j → (Value.slice A' (k + 1) c').ownBlock ≠ some j := fun s hs hne j hj e => by
    rcases hloc with hl | ⟨i, hi, hl⟩
    · rw [hl, hrow] at e
      exact h3 s r.frm hs hr hne j hj e
    · rw [hl] at e
      have := fresh s hs j hj
      cases e
      omega
  refine ⟨_, h5, fun s hs => ?_, fun s t hs ht hne j hj => ?_⟩
  · rw [nexts_snoc]
    unfold updV
    by_cases he : s = r.frm
    · subst he
      rw [if_pos rfl, if_pos rfl]
      refine ⟨A', k + 1, c', rfl, hc, ?_⟩
      rw [List.map_append]
      exact o4.kept g5 (by
        cases hb : (Value.slice A' (k + 1) c').ownBlock with
        | none => exact .inl rfl
        | some j => exact .inr fun e => by have := o4.row j hb; cases e; omega)
    · rw [if_neg he, if_neg he]
      obtain ⟨A, k, c, e, hk, ho⟩ := h2 s hs
      refine ⟨A, k, c, e, hk, ?_⟩
      cases hb : (Value.slice A k c).ownBlock with
      | none => exact (ho.kept g4 (.inl hb)).kept g5 (.inl hb)
      | some j =>
        refine (ho.kept g4 (.inr ?_)).kept g5 (.inr ?_)
        · rw [hb, hrow]; exact fun e2 => h3 s r.frm hs hr he j (by rw [e]; exact hb) e2.symm
        · rw [hb]; exact fun e2 => by have := ho.row j hb; cases e2; omega
  · unfold updV at hj ⊢
    by_cases h1 : s = r.frm
    · rw [if_pos h1] at hj
      have h2 : ¬ t = r.frm := fun e => hne (h1.trans e.symm)
      rw [if_neg h2]
      exact fun e => apart t ht h2 j e hj
    · rw [if_neg h1] at hj
      by_cases h2 : t = r.frm
      · rw [if_pos h2]; exact apart s hs h1 j hj
      · rw [if_neg h2]; exact h3 s t hs ht hne j hj
theorem intF_upd (f : S → Option Nat) (x : S) (n : Nat) (s : S) : intF (upd f x n) s = updV (intF f) x (.int .i64 n) s := by
  unfold intF upd updV; by_cases h : s = x <;> simp [h]
theorem unmet_le (l : List Ref) (f : S → Option Nat) : unmet l f ≤ l.length := List.countP_le_length
set_option maxRecDepth 20000 in
set_option maxHeartbeats 4000000 in
theorem from_any (g : Nat) (A : Option Addr) (n c : Nat) (l : List Ref) (name : S) (w : World) (hm : n ≤ 100000) (hg : Gl w g A n c l) (hs : name.size ≤ maxLen) :
    Calls Tryz.prog 156 #[.pointer (some ⟨g, 0, none⟩), .string name] w fun e w' => ∃ b, e = .returned (.map (some b)) ∧ MapS w' b (n + 1) (intF (dist l name)) ∧ w.heap.size ≤ b ∧ Below w.heap.size w w' := by
  have hgb := hg
  obtain ⟨hg0, hnc, hl, c0⟩ := hg
  have hmm := @run_makeMap Tryz.prog
  go_enter Tryz.func156, Tryz.ntmps156
  go_wp2_with (refine wpList_insert _ rfl _ _ _ 170 rfl keyS mapI rfl (MapF.made _ _ _) _ rfl _ rfl hs (by unfold maxLen; omega) ?_; intro w2 hf2 hg2; have hb2 : Below w.heap.size w w2 := (brefl.al _).gr hg2 (by intro j hj; cases hj; exact Nat.le_refl _); have c2 : (w2.alloc (.map #[] 0)).cell? ⟨g, 0, none⟩ = some (.slice A n c) := ((hb2.al _).cell (p := ⟨g, 0, none⟩) hg0).trans c0)
  have hs2 : w.heap.size < w2.heap.size := by have := hg2.size; simp at this; omega
  replace hf2 : MapS w2 w.heap.size 1 (intF (upd (fun _ => none) name 0)) := hf2.congr fun s => by rw [intF_upd]; rfl
  go_loopw [23] (fun i wr => ∃ k : Nat, k ≤ n ∧ i = .int .i64 k ∧ MapS wr w.heap.size 1 (intF (upd (fun _ => none) name 0)) ∧ Grp wr (w2.heap.size + 1) w2.heap.size k (l.take k) ∧ w2.heap.size < wr.heap.size ∧ Below w.heap.size w wr) (fun i _ => n - (intOf i).toNat)
  case atStart =>
    refine ⟨0, by omega, rfl, hf2.alloc _, ⟨_, MapF.made _ _ _, fun s _ => ⟨none, 0, 0, rfl, Nat.le_refl _, Own.nil _ _ _ (by simp)⟩, fun s t _ _ _ j hj => by simp [Value.ownBlock] at hj⟩, by simp, hb2.al _⟩
  case round =>
    obtain ⟨k, hk, rfl, hf, ⟨fn, hgr⟩, hnb, hbl⟩ := hrel
    by_cases hlt : k < n
    · obtain ⟨b, off, r, rfl, hx, hs1, hs2', hb0, hc1, hc2, hc4⟩ := (hl.below hbl).at_ hlt
      have hd := Lib.hid (take_snoc hx)
      clear hx hb0
      go_wp2
      have hgr0 := hgr
      obtain ⟨hfn0, hsl, hap⟩ := hgr0
      obtain ⟨A1, k1, c1, hv, hk1, ho0⟩ := hsl r.frm hs1
      have hl1 : k1 ≤ 1000000 := by
        have h1 := ho0.1.1
        have h2 := nexts_length (l.take k) r.frm
        rw [List.length_take] at h2
        simp at h1
        omega
      have hne : ∀ j, (Value.slice A1 k1 c1).ownBlock = some j → w2.heap.size < j ∧ j < wr.heap.size := fun j hj => by have h1 := ho0.row j hj; have h2 := ho0.lt j hj; omega
      clear hsl hap hfn0
      have ho1 := ho0.alloc (.cells #[.string r.frm, .string r.to, .bool r.also] 136)
      have hg2' : (wr.alloc (.cells #[.string r.frm, .string r.to, .bool r.also] 136)).cell? ⟨wr.heap.size, 0, none⟩ = some (.string r.frm) := by simp
      have hg3' : (wr.alloc (.cells #[.string r.frm, .string r.to, .bool r.also] 136)).cell? ⟨wr.heap.size, 1, none⟩ = some (.string r.to) := by simp
      have hgr2 := hgr.kept (World.grownBy_alloc wr (.cells #[.string r.frm, .string r.to, .bool r.also] 136) none) (fun j h => by cases h)
      have hf3 := hf.alloc (.cells #[.string r.frm, .string r.to, .bool r.also] 136)
      have hbl3 := hbl.al (.cells #[.string r.frm, .string r.to, .bool r.also] 136)
      have hsz3 : wr.heap.size < (wr.alloc (.cells #[.string r.frm, .string r.to, .bool r.also] 136)).heap.size := by simp
      generalize (wr.alloc (.cells #[.string r.frm, .string r.to, .bool r.also] 136)) = w3 at hg2' hg3' hgr2 hf3 hbl3 hsz3 ho1 ⊢
      have hfn := hgr2.1
      clear hc1 hc2 hc4 hgr hf c0 ho0
      refine wp_region_held [0, 1, 2, 3, 4, 5, 6, 7, 8] [9, 10, 11] 11 (fun wz => wz.cell? ⟨wr.heap.size, 0, none⟩ = some (.string r.frm) ∧ wz.cell? ⟨wr.heap.size, 1, none⟩ = some (.string r.to) ∧
        (Instr.lookup 206 (.map (some w2.heap.size)) (.string r.frm) false).run Tryz.prog wz = .ok (.slice A1 k1 c1) wz) (by kernel_rfl) (by kernel_rfl) ⟨hg2', hg3', by have := (hfn.drew.look keyS mapL (zeroL _) hs1).2; rwa [hv] at this⟩ ?_
      refine wpHeld_put (v := ?_) rfl rfl (Or.inl ⟨by rfl, fun wz hz => ?_⟩) ?_
      rotate_left
      (focus (obtain ⟨z0, z1, z2⟩ := hz; go_simp; try (with_reducible rfl)))
      simp only [List.setIfInBounds_toArray, List.set_cons_succ, List.set_cons_zero]
      refine wpHeld_put (v := ?_) rfl rfl (Or.inl ⟨by rfl, fun wz hz => ?_⟩) ?_
      rotate_left
      (focus (obtain ⟨z0, z1, z2⟩ := hz; go_simp; try (with_reducible rfl)))
      simp only [List.setIfInBounds_toArray, List.set_cons_succ, List.set_cons_zero]
      refine wpHeld_put (v := ?_) rfl rfl (Or.inl ⟨by rfl, fun wz hz => ?_⟩) ?_
      rotate_left
      (focus (obtain ⟨z0, z1, z2⟩ := hz; go_simp; try (with_reducible rfl)))
      simp only [List.setIfInBounds_toArray, List.set_cons_succ, List.set_cons_zero]
      refine wpHeld_put (v := ?_) rfl rfl (Or.inl ⟨by rfl, fun wz hz => ?_⟩) ?_
      rotate_left
      (focus (obtain ⟨z0, z1, z2⟩ := hz; go_simp; try (with_reducible rfl)))
      simp only [List.setIfInBounds_toArray, List.set_cons_succ, List.set_cons_zero]
      refine wpHeld_put (v := ?_) rfl rfl (Or.inl ⟨by rfl, fun wz hz => ?_⟩) ?_
      rotate_left
      (focus (obtain ⟨z0, z1, z2⟩ := hz; go_simp; try (with_reducible rfl)))
      simp only [List.setIfInBounds_toArray, List.set_cons_succ, List.set_cons_zero]
      refine wpHeld_put (v := ?_) rfl rfl (Or.inl ⟨by rfl, fun wz hz => ?_⟩) ?_
      rotate_left
      (focus (obtain ⟨z0, z1, z2⟩ := hz; go_simp; try (with_reducible rfl)))
      simp only [List.setIfInBounds_toArray, List.set_cons_succ, List.set_cons_zero]
      refine wpHeld_put (v := ?_) rfl rfl (Or.inl ⟨by rfl, fun wz hz => ?_⟩) ?_
      rotate_left
      (focus (obtain ⟨z0, z1, z2⟩ := hz; go_simp; try (with_reducible rfl)))
      simp only [List.setIfInBounds_toArray, List.set_cons_succ, List.set_cons_zero]
      refine wpHeld_put (v := ?_) rfl rfl (Or.inl ⟨by rfl, fun wz hz => ?_⟩) ?_
      rotate_left
      (focus (obtain ⟨z0, z1, z2⟩ := hz; go_simp; try (with_reducible rfl)))
      simp only [List.setIfInBounds_toArray, List.set_cons_succ, List.set_cons_zero]
      refine wpHeld_put (v := ?_) rfl rfl (Or.inl ⟨by rfl, fun wz hz => ?_⟩) ?_
      rotate_left
      (focus (obtain ⟨z0, z1, z2⟩ := hz; go_simp; try (with_reducible rfl)))
      simp only [List.setIfInBounds_toArray, List.set_cons_succ, List.set_cons_zero]
      refine wpHeld_nil ?_
      have hgr4 : GrpF w3.drew (w2.heap.size + 1) w2.heap.size k (l.take k) fn := hgr2
      have hf4 := hf3.drew
      have hbl4 : Below w.heap.size w w3.drew := hbl3.drn 1
      have hq0 : w3.drew.cell? ⟨wr.heap.size, 0, none⟩ = some (.string r.frm) := hg2'
      have hq1 : w3.drew.cell? ⟨wr.heap.size, 1, none⟩ = some (.string r.to) := hg3'
      have ho4 := ho1.drew
      have hfn4 := hfn.drew
      replace hsz3 : wr.heap.size < w3.drew.heap.size := hsz3
      generalize w3.drew = w4 at hgr4 hf4 hbl4 hq0 hq1 ho4 hfn4 hsz3 ⊢
      clear hgr2 hf3 hbl3 hg2' hg3' ho1 hfn
      have ha := World.grownBy_alloc w4 (.cells #[.string r.to] 9) none
      refine wpSeq_step rfl (fun K hK => ?_)
      go_simp
      refine hK _ _ (fun _ => ⟨ha.cell hq0 (by simp), ha.cell hq1 (by simp), by have := ((hfn4.alloc (.cells #[.string r.to] 9)).look keyS mapL (zeroL _) hs1).2; rwa [hv] at this⟩) ?_
      clear hK K
      refine wpSeq_step (by simp only [List.getElem?_toArray, List.getElem?_cons_succ, List.getElem?_cons_zero]; rfl) (fun K hK => ?_)
      refine step_app _ stringsT rfl (.tmp 33) (.tmp 36) rfl (ho4.alloc _) rfl rfl (news := [.string r.to]) rfl (Rds.one w4 (.string r.to) 9) (by simp [Value.oneCell']) ?_ ?_ ?_
      · omega
      · omega
      intro A5 c5 w5 o5 n5 g5 hloc
      have hr5 : some wr.heap.size ≠ (Value.slice A1 k1 c1).ownBlock ∧ some w2.heap.size ≠ (Value.slice A1 k1 c1).ownBlock ∧ some w.heap.size ≠ (Value.slice A1 k1 c1).ownBlock := ⟨fun e => by have := hne _ e.symm; omega, fun e => by have := hne _ e.symm; omega, fun e => by have := hne _ e.symm; omega⟩
      have hfn5 : MapS w5 w2.heap.size k fn := (hfn4.alloc _).kept g5 hr5.2.1
      refine hK _ _ (fun _ => ⟨g5.cell (ha.cell hq0 (by simp)) hr5.1, g5.cell (ha.cell hq1 (by simp)) hr5.1, by have := (hfn5.look keyS mapL (zeroL _) hs1).2; rwa [hv] at this⟩) ?_
      clear hK K
      refine wpSeq_step (by simp only [List.getElem?_toArray, List.getElem?_cons_succ, List.getElem?_cons_zero]; rfl) (fun K hK => ?_)
      refine step_of rfl (wp_store _ _ _ _ 206 rfl keyS mapL rfl hfn5 r.frm rfl _ rfl hs1 (by unfold maxLen; omega) ?_)
      intro w6 hfn6 hg6
      refine hK _ _ (fun h => absurd rfl h) ?_
      clear hK K
      refine wpSeq_nil ?_
      go_frame
      go_wp2
      have hg45 : w4.grownBy w5 (Value.slice A1 k1 c1).ownBlock := (World.grownBy_alloc w4 (.cells #[.string r.to] 9) _).trans g5
      have hgrp : Grp w6 (w2.heap.size + 1) w2.heap.size (k + 1) (l.take k ++ [r]) := hgr4.step hs1 (by omega) (row := (Value.slice A1 k1 c1).ownBlock) (by rw [hv]) hg45 (by simpa using o5) n5 (by
        rcases hloc with h | h
        · exact .inl h
        · exact .inr ⟨_, by simp, h⟩) hg6 hfn6
      have hf6 : MapS w6 w.heap.size 1 (intF (upd (fun _ => none) name 0)) := ((hf4.alloc _).kept g5 hr5.2.2).kept hg6 (by simp; omega)
      have hb6 := ((hbl4.al (.cells #[.string r.to] 9)).gr g5 (fun j hj => by have := hne j hj; omega)).gr hg6 (by intro j hj; cases hj; omega)
      have hs6 : w2.heap.size < w6.heap.size := by have h1 := hg45.size; have h2 := hg6.size; omega
      go_roundw
      case rel => exact ⟨k + 1, by omega, by go_num, hf6, by rw [hd.out]; exact hgrp, hs6, hb6⟩
      case measure => simp [intOf]; omega
    · have hkn : k = n := by omega
      have ht : l.take k = l := take_all hl.1 hk hlt
      rw [ht, hkn] at hgr
      clear hkn ht
      go_wp2
      obtain ⟨w6, hw6⟩ : ∃ w6 : World, w6 = wr := ⟨_, rfl⟩
      subst hw6
      clear c0
      go_loopg [9] (2 * unmet l (upd (fun _ => none) name 0) + 1) (fun G y wr => ∃ (todo : List S) (f : S → Option Nat) (T : Option Addr) (m d : Nat), y = .slice T m d ∧ G = 2 * unmet l f + m ∧ 2 * unmet l f + m ≤ 2 * n + 1 ∧ OwnT wr w6.heap.size 9 (.slice T m d) m (todo.map Value.string) ∧
        (∀ s ∈ todo, s.size ≤ maxLen) ∧ Bfs l name f todo ∧ (∀ x v, f x = some v → v + unmet l f ≤ n) ∧ MapS wr w.heap.size (n + 1 - unmet l f) (intF f) ∧ w6.grownBy wr (some w.heap.size))
      case atStart =>
        have h1 : unmet l (upd (fun _ => none) name 0) ≤ n := by have := unmet_le l (upd (fun _ => none) name 0); have := hl.1; omega
        refine ⟨[name], _, _, 1, 1, rfl, rfl, by omega, OwnT.one w6 _ _ (Nat.le_refl _), by simpa using hs, Bfs.begin l name, fun x v hv => ?_, (hf.alloc _).mono (by omega), World.grownBy_alloc _ _ _⟩
        unfold upd at hv
        split at hv
        · cases hv; omega
        · cases hv
      case round =>
        obtain ⟨todo, f, T, m, d, rfl, rfl, hm1, hot, hts, hbf, hsm, hfs, hgw⟩ := hrel
        have hbw : Below w.heap.size w wr := hbl.gr hgw (by intro j hj; cases hj; exact Nat.le_refl _)
        have hml := hot.1
        rw [List.length_map] at hml
        cases todo with
        | nil =>
          obtain rfl : 0 = m := by simpa using hml
          have hfin := Lib.hid (fun x => hbf.eq x)
          go_wp2
          go_ret
          exact ⟨w.heap.size, rfl, (hfs.mono (by omega)).congr fun s => by unfold intF; rw [hfin.out s], Nat.le_refl _, hbw⟩
        | cons p q =>
          have hmp : 0 < m := by simp at hml; omega
          have hps := hts p (by simp)
          obtain ⟨dp, hdp⟩ := hbf.inq p (by simp)
          have hdn := hsm p dp hdp
          obtain ⟨A2, k2, c2, hv, hk2, ho6⟩ := hgr.2.1 p hps
          have hkeep : ∀ wz : World, w6.grownBy wz (some w.heap.size) → Own wz (w2.heap.size + 1) 9 1 (.slice A2 k2 c2) k2 ((nexts l p).map Value.string) := fun wz hg => ho6.kept hg (by
            cases hb : (Value.slice A2 k2 c2).ownBlock with
            | none => exact .inl rfl
            | some j => exact .inr fun e => by have := ho6.row j hb; cases e; omega)
          have e1 := ((hgr.kept hgw (by intro j hj; cases hj; omega)).1.look keyS mapL (zeroL _) hps).2
          rw [hv] at e1
          obtain ⟨tg, to, td, etv, htd1, htd2, htg, htc⟩ := hot.form2
          injection etv with eT _ ed
          subst eT
          subst ed
          have hc0 : wr.cell? ⟨tg, to, none⟩ = some (.string p) := by have := htc 0 (.string p) (by simp); simpa using this
          have hk2l : (nexts l p).length = k2 := by have := ho6.1.1; simpa using this
          have hk2n : k2 ≤ n := by have := nexts_length l p; have := hl.1; omega
          have hnx : ∀ x ∈ nexts l p, x.size ≤ maxLen := fun x hx => by
            obtain ⟨r, hr, _, rfl⟩ := mem_nexts.1 hx
            exact (hl.2.1 r hr).2
          go_wp2
          obtain ⟨wo, hwo⟩ : ∃ wo : World, wo = wr := ⟨_, rfl⟩
          subst hwo
          clear hc0 htc e1
          go_loopw [9, 52] (fun y i wr => ∃ (j : Nat) (q' : List S) (f' : S → Option Nat) (T' : Option Addr) (m' d' : Nat), j ≤ k2 ∧ i = .int .i64 j ∧ y = .slice T' m' d' ∧ 2 * unmet l f' + m' ≤ 2 * unmet l f + m ∧
            OwnT wr w6.heap.size 9 (.slice T' m' d') m' ((p :: q').map Value.string) ∧ (∀ s ∈ p :: q', s.size ≤ maxLen) ∧ Bfs l name f' (p :: q') ∧ f' p = some dp ∧ (∀ x v, f' x = some v → v + unmet l f' ≤ n) ∧
            MapS wr w.heap.size (n + 1 - unmet l f') (intF f') ∧ (∀ x ∈ (nexts l p).take j, (f' x).isSome = true) ∧ w6.grownBy wr (some w.heap.size)) (fun _ i _ => k2 - (intOf i).toNat)
          case atStart => exact ⟨0, q, f, _, m, d, by omega, rfl, rfl, by omega, hot, hts, hbf, hdp, hsm, hfs, by simp, hgw⟩
          case round =>
            clear hot hts hbf hdp hsm hfs hgw hml hbw
            obtain ⟨j, q', f', T', m', d', hj, rfl, rfl, hms, hot, hts, hbf, hdp, hsm, hfs, hsome, hgw⟩ := hrel
            obtain ⟨tg', to', td', etv', htd1', htd2', htg', htc'⟩ := hot.form2
            injection etv' with eT' _ ed'
            subst eT'
            subst ed'
            have hc0 : wr.cell? ⟨tg', to', none⟩ = some (.string p) := by have := htc' 0 (.string p) (by simp); simpa using this
            have hml : (p :: q').length = m' := by have := hot.1; rw [List.length_map] at this; exact this
            have hmp' : 0 < m' := by simp at hml; omega
            have hdn' := hsm p dp hdp
            by_cases hjlt : j < k2
            · obtain ⟨b, off, x, rfl, hx, hxs, hb0, hcx⟩ := (Strs.own (hkeep wr hgw) rfl hnx).at_ hjlt
              have hxm : x ∈ nexts l p := List.mem_of_getElem? hx
              have htk := Lib.hid (take_snoc hx)
              clear hx hb0
              cases hfx : f' x with
              | some v =>
                have e2 := (hfs.lookI0 hxs hfx).1
                have hfx' := Lib.hid hfx
                clear hfx
                go_wp2
                go_roundw
                case rel => exact ⟨j + 1, q', f', _, m', d', by omega, by go_num, rfl, hms, hot, hts, hbf, hdp, hsm, hfs, fun y hy => by
                  rw [htk.out, List.mem_append] at hy
                  rcases hy with hy | hy
                  · exact hsome y hy
                  · simp at hy; subst hy; rw [hfx'.out]; rfl, hgw⟩
                case measure => simp [intOf]; omega
              | none =>
                have e2 := (hfs.lookI0 hxs hfx).1
                have e3 := (hfs.lookI0 hps hdp).2
                have hpx : ¬ p = x := fun e => by rw [e, hfx] at hdp; cases hdp
                obtain ⟨r, hr, hrf, hrx⟩ := mem_nexts.1 hxm
                have hun : unmet l (upd f' x (dp + 1)) < unmet l f' := by rw [← hrx]; exact unmet_found hr (by rw [hrx]; exact hfx) _
                have hul := unmet_le l f'
                have hul0 := unmet_le l f
                have hll := hl.1
                have hbf2 : Bfs l name (upd f' x (dp + 1)) (p :: (q' ++ [x])) := by have := hbf.found hdp hr hrf (by rw [hrx]; exact hfx); rwa [hrx] at this
                have hdp2 : upd f' x (dp + 1) p = some dp := by unfold upd; rw [if_neg hpx]; exact hdp
                have hsm2 : ∀ y v, upd f' x (dp + 1) y = some v → v + unmet l (upd f' x (dp + 1)) ≤ n := fun y v hy => by
                  unfold upd at hy
                  split at hy
                  · cases hy; omega
                  · have := hsm y v hy; omega
                have hfx' := Lib.hid hfx
                have hdph := Lib.hid hdp
                clear hfx hdp hpx hrf hrx
                have hm9 : m' + 1 ≤ 1000000 := by omega
                have hrw := hot.row
                go_wp2_with (first
                  | (at_mapUpdate; refine wpList_store _ rfl _ _ _ 170 rfl keyS mapI rfl hfs _ rfl _ rfl hxs (by unfold maxLen; omega) ?_; intro w7 hf7 hg7; have ho7 := hot.kept hg7 (fun e => by have := hrw _ e; omega))
                  | (at_builtin; refine wpList_appT _ stringsT rfl (.tmp 72) (.tmp 74) rfl (ho7.alloc _) rfl rfl (Rds.one w7 (.string x) 9) (by simp [Value.oneCell']) ?_ ?_ ?_; (focus omega); (focus omega); intro A8 c8 w8 o8 g8 hl8))
                have hg78 := (World.grownBy_alloc w7 (.cells #[.string x] 9) _).trans g8
                have hgw8 : w6.grownBy w8 (some w.heap.size) := (hgw.trans hg7).andThen hg78 (fun j hj => .inl (hrw j hj).1)
                have hf8 : MapS w8 w.heap.size (n + 1 - unmet l (upd f' x (dp + 1))) (intF (upd f' x (dp + 1))) := ((hf7.kept hg78 (fun e => by have := (hrw _ e.symm).1; omega)).mono (by omega)).congr fun s => intF_upd f' x (dp + 1) s
                go_roundw
                case rel =>
                  refine ⟨j + 1, q' ++ [x], upd f' x (dp + 1), A8, m' + 1, c8, by omega, by go_num, rfl, by omega, by simpa using o8, fun s hs' => ?_, hbf2, hdp2, hsm2, hf8, fun y hy => ?_, hgw8⟩
                  · simp only [List.mem_cons, List.mem_append, List.not_mem_nil, or_false] at hs'
                    rcases hs' with h | h | h
                    · exact hts s (by simp [h])
                    · exact hts s (by simp [h])
                    · rw [h]; exact hxs
                  · rw [htk.out, List.mem_append] at hy
                    unfold upd
                    split
                    · rfl
                    · rename_i hyx
                      rcases hy with hy | hy
                      · exact hsome y hy
                      · simp at hy; exact absurd hy hyx
                case measure => simp [intOf]; omega
            · have hjk : j = k2 := by omega
              have hall : ∀ r ∈ l, r.frm = p → ∃ v, f' r.to = some v := fun r hr hrp => by
                refine Option.isSome_iff_exists.1 (hsome r.to ?_)
                rw [hjk, List.take_of_length_le (by omega)]
                exact mem_nexts.2 ⟨r, hr, hrp, rfl⟩
              have hbf2 := hbf.pop hdp hall
              have hul := unmet_le l f'
              have hul0 := unmet_le l f
              have hll := hl.1
              obtain ⟨m1, rfl⟩ : ∃ m1, m' = m1 + 1 := ⟨m' - 1, by omega⟩
              have hot2 := hot.pop
              have h1d : 1 ≤ d' := by omega
              clear hdp hsome hjk
              by_cases hd1 : d' = 1
              · subst hd1
                obtain rfl : m1 = 0 := by omega
                rw [if_pos rfl] at hot2
                replace hot2 : OwnT wr w6.heap.size 9 (.slice (some ⟨tg', to', none⟩) 0 0) 0 (q'.map Value.string) := hot2
                go_wp2
                go_roundg (2 * unmet l f' + 0)
                case measure => omega
                case rel => exact ⟨q', f', _, 0, _, rfl, rfl, by omega, hot2, fun s hs' => hts s (by simp [hs']), hbf2, hsm, hfs, hgw⟩
              · rw [if_neg hd1] at hot2
                have hot3 : OwnT wr w6.heap.size 9 (.slice (some ⟨tg', to' + 1, none⟩) m1 (d' - 1)) m1 (q'.map Value.string) := by simpa [addr_add] using hot2
                go_wp2
                go_roundg (2 * unmet l f' + m1)
                case measure => omega
                case rel => exact ⟨q', f', _, m1, _, rfl, rfl, by omega, hot3, fun s hs' => hts s (by simp [hs']), hbf2, hsm, hfs, hgw⟩
end Go.Proofs.YtdfnfimajhagfaaGreatDoor
