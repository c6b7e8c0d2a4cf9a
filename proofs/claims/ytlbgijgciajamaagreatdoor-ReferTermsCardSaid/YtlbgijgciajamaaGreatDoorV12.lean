/- Walks of package refer: the comparison of references, the library's clone and sort at references. -/
import Derived.Test.YtlbgijgciajamaaGreatDoorP6
import Derived.Test.YtlbgijgciajamaaGreatDoorP10
import Derived.Test.YtlbgijgciajamaaGreatDoorG1
import Derived.Test.YtlbgijgciajamaaGreatDoorVOf
import Derived.Shelf.SlSortCmp.WholeK
namespace Go.Proofs.YtlbgijgciajamaaGreatDoor
open Go.RowKit Go.Maps Go.Sort Go.Shelf Rf
theorem orI_hit {x : Int} {l : List Int} (h : x ≠ 0) : orI (x :: l) = x := by unfold orI; rw [if_neg h]
theorem orI_miss {l : List Int} : orI (0 :: l) = orI l := by rw [orI, if_pos rfl]
set_option maxRecDepth 20000 in
set_option maxHeartbeats 1000000 in
theorem or_any (A : Option Addr) (n c : Nat) (l : List Int) (w : World) (hm : n ≤ 100000) (hl : Ints w A n l) :
    Calls Tryz.prog 62 #[.slice A n c] w fun e w' => e = .returned (.int .i64 (orI l)) ∧ w' = w := by
  go_enter Tryz.func62, Tryz.ntmps62
  go_wp2
  go_loop [8] (fun i => ∃ k : Nat, k ≤ n ∧ i = .int .i64 k ∧ Hid (orI l = orI (l.drop k))) (fun i => n - (intOf i).toNat)
  case atStart => exact ⟨0, by omega, rfl, rfl⟩
  case round =>
    obtain ⟨k, hk, rfl, hr⟩ := hrel
    by_cases hlt : k < n
    · obtain ⟨b, off, x, rfl, hx, _, hb, hc⟩ := hl.at_ hlt
      have hd := Lib.hid (drop_get hx)
      clear hx hb
      by_cases h0 : x = 0
      · subst h0
        go_wp2
        go_round
        case rel => exact ⟨k + 1, by omega, by go_num, by show _ = _; rw [hr.out, hd.out, orI_miss]⟩
        case measure => simp [intOf]; omega
      · go_wp2
        go_ret
        exact ⟨ret_i64 (by rw [hr.out, hd.out, orI_hit h0]), rfl⟩
    · have hd := Lib.hid (drop_len hl.1 hlt)
      go_wp2
      go_ret
      exact ⟨ret_i64 (by rw [hr.out, hd.out]; rfl), rfl⟩
set_option maxRecDepth 20000 in
set_option maxHeartbeats 1000000 in
theorem also_any (r : Ref) (w : World) :
    Calls Tryz.prog 61 #[.agg #[.string r.frm, .string r.to, .bool r.also]] w fun e w' => e = .returned (.int .i64 (alsoI r)) ∧ w' = w.alloc (.cells #[.string r.frm, .string r.to, .bool r.also] 60) := by
  obtain ⟨f, t, a⟩ := r
  cases a
  all_goals
    go_enter Tryz.func61, Tryz.ntmps61
    go_wp2
    go_ret
    exact ⟨rfl, rfl⟩
theorem new3_cells {w wz : World} {v1 v2 v3 : Value} {t : TypeId} {b : Nat} (hbe : b = w.heap.size) (hb : Below (w.alloc (.cells #[v1, v2, v3] t)).heap.size (w.alloc (.cells #[v1, v2, v3] t)) wz) :
    wz.cell? ⟨b, 0, none⟩ = some v1 ∧ wz.cell? ⟨b, 1, none⟩ = some v2 ∧ wz.cell? ⟨b, 2, none⟩ = some v3 := by
  subst hbe
  have h := fun j => hb.cell (p := ⟨w.heap.size, j, none⟩) (by simp)
  refine ⟨(h 0).trans ?_, (h 1).trans ?_, (h 2).trans ?_⟩
  all_goals rw [cell_of_row _ _ _ _ _ _ (heap_alloc_new _ _)]; rfl
theorem grown5 (w : World) (a b c d e : Obj) : (((((w.alloc a).alloc b).drew).alloc c).alloc d).alloc e = grow (w.drewN 1) (#[a] ++ (#[b] ++ (#[c] ++ (#[d] ++ #[e])))) := by
  simp only [alloc_eq_grow]
  show grow (grow (grow (grow (grow (w.drewN 1) _) _) _) _) _ = _
  rw [grow_grow, grow_grow, grow_grow, grow_grow]
instance refInh : Inhabited Ref := ⟨⟨ByteArray.empty, ByteArray.empty, false⟩⟩
set_option maxRecDepth 20000 in
set_option maxHeartbeats 4000000 in
theorem compare_any (x y : Ref) (w : World) :
    Calls Tryz.prog 37 #[.agg #[.string x.frm, .string x.to, .bool x.also], .agg #[.string y.frm, .string y.to, .bool y.also]] w fun e w' => e = .returned (.int .i64 (cfR x y)) ∧ ∃ q os', w' = grow (w.drewN q) os' := by
  obtain ⟨c1, h1⟩ : ∃ c, Lib.compareBytes x.frm.data.toList y.frm.data.toList = c := ⟨_, rfl⟩
  obtain ⟨c2, h2⟩ : ∃ c, Lib.compareBytes x.to.data.toList y.to.data.toList = c := ⟨_, rfl⟩
  obtain ⟨a1, h3⟩ : ∃ c, alsoI x = c := ⟨_, rfl⟩
  obtain ⟨a2, h4⟩ : ∃ c, alsoI y = c := ⟨_, rfl⟩
  obtain ⟨c3, h5⟩ : ∃ c, Lib.compareInt a1 a2 = c := ⟨_, rfl⟩
  obtain ⟨v, h6⟩ : ∃ c, orI [c1, c2, c3] = c := ⟨_, rfl⟩
  have hres : cfR x y = v := by unfold cfR; rw [h1, h2, h3, h4, h5, h6]
  have hr1 : i64ok c1 := by have := cmpB_range x.frm.data.toList y.frm.data.toList; rw [h1] at this; unfold i64ok; omega
  have hr2 : i64ok c2 := by have := cmpB_range x.to.data.toList y.to.data.toList; rw [h2] at this; unfold i64ok; omega
  have hr3 : i64ok c3 := by
    rw [← h5]; unfold Lib.compareInt i64ok
    by_cases q1 : a1 < a2
    · rw [if_pos q1]; omega
    · rw [if_neg q1]
      by_cases q2 : a1 > a2
      · rw [if_pos q2]; omega
      · rw [if_neg q2]; omega
  rw [hres]
  clear hres
  go_enter Tryz.func37, Tryz.ntmps37
  go_wp2_with fail
  have hX := fun wz (hz : Below ((w.alloc (.cells #[.string x.frm, .string x.to, .bool x.also] 60)).alloc (.cells #[.string y.frm, .string y.to, .bool y.also] 60)).heap.size ((w.alloc (.cells #[.string x.frm, .string x.to, .bool x.also] 60)).alloc (.cells #[.string y.frm, .string y.to, .bool y.also] 60)) wz) =>
    And.intro (new3_cells (w := w) (b := w.heap.size) rfl ((brefl.al _).tr hz)) (new3_cells (w := w.alloc (.cells #[.string x.frm, .string x.to, .bool x.also] 60)) (b := w.heap.size + 1) (by simp) hz)
  have hcells : ∀ wz, Below ((w.alloc (.cells #[.string x.frm, .string x.to, .bool x.also] 60)).alloc (.cells #[.string y.frm, .string y.to, .bool y.also] 60)).drew.heap.size ((w.alloc (.cells #[.string x.frm, .string x.to, .bool x.also] 60)).alloc (.cells #[.string y.frm, .string y.to, .bool y.also] 60)).drew wz →
      ((wz.cell? ⟨w.heap.size, 0, none⟩ = some (.string x.frm) ∧ wz.cell? ⟨w.heap.size, 1, none⟩ = some (.string x.to) ∧ wz.cell? ⟨w.heap.size, 2, none⟩ = some (.bool x.also)) ∧
        wz.cell? ⟨w.heap.size + 1, 0, none⟩ = some (.string y.frm) ∧ wz.cell? ⟨w.heap.size + 1, 1, none⟩ = some (.string y.to) ∧ wz.cell? ⟨w.heap.size + 1, 2, none⟩ = some (.bool y.also)) := fun wz hz => hX wz ((brefl.drn 1).tr hz)
  have hS := hcells _ brefl
  have hoks : ∀ i ∈ [c1, c2, c3], i64ok i := by
    intro i hi
    simp at hi
    rcases hi with rfl | rfl | rfl
    · exact hr1
    · exact hr2
    · exact hr3
  clear hX hr1 hr2 hr3
  obtain ⟨w0, hw0⟩ : ∃ w0, ((w.alloc (.cells #[.string x.frm, .string x.to, .bool x.also] 60)).alloc (.cells #[.string y.frm, .string y.to, .bool y.also] 60)).drew = w0 := ⟨_, rfl⟩
  have HW0 := Lib.hid hw0
  refine wp_region_mix [(true, 0), (true, 1), (true, 2), (true, 3), (true, 5), (true, 6), (true, 7), (true, 8), (true, 10), (true, 11), (true, 13), (true, 14), (false, 4), (false, 9), (false, 12), (false, 15), (false, 16), (false, 17), (false, 18), (true, 19)] 20 (fun wz => (wz.cell? ⟨w.heap.size, 0, none⟩ = some (.string x.frm) ∧ wz.cell? ⟨w.heap.size, 1, none⟩ = some (.string x.to) ∧ wz.cell? ⟨w.heap.size, 2, none⟩ = some (.bool x.also)) ∧ wz.cell? ⟨w.heap.size + 1, 0, none⟩ = some (.string y.frm) ∧ wz.cell? ⟨w.heap.size + 1, 1, none⟩ = some (.string y.to) ∧ wz.cell? ⟨w.heap.size + 1, 2, none⟩ = some (.bool y.also)) (by kernel_rfl) (by kernel_rfl) ?_
  rw [hw0] at hcells hS ⊢; clear hw0; have hb0 : Below w0.heap.size w0 w0 := brefl
  refine wpMix_put (v := ?_) rfl rfl (Or.inl ⟨by rfl, fun wz hz => ?_⟩) hS ?_
  rotate_left
  (focus (go_simp; try (with_reducible rfl)))
  simp only [List.setIfInBounds_toArray, List.set_cons_succ, List.set_cons_zero]
  refine wpMix_put (v := ?_) rfl rfl (Or.inl ⟨by rfl, fun wz hz => ?_⟩) hS ?_
  rotate_left
  (focus (go_simp; try (with_reducible rfl)))
  simp only [List.setIfInBounds_toArray, List.set_cons_succ, List.set_cons_zero]
  refine wpMix_put (v := ?_) rfl rfl (Or.inl ⟨by rfl, fun wz hz => ?_⟩) hS ?_
  rotate_left
  (focus (go_simp; try (with_reducible rfl)))
  simp only [List.setIfInBounds_toArray, List.set_cons_succ, List.set_cons_zero]
  refine wpMix_put (v := ?_) rfl rfl (Or.inl ⟨by rfl, fun wz hz => ?_⟩) hS ?_
  rotate_left
  (focus (go_simp; try (with_reducible rfl)))
  simp only [List.setIfInBounds_toArray, List.set_cons_succ, List.set_cons_zero]
  refine wpMix_put (v := ?_) rfl rfl (Or.inl ⟨by rfl, fun wz hz => ?_⟩) hS ?_
  rotate_left
  (focus (go_simp; try (with_reducible rfl)))
  simp only [List.setIfInBounds_toArray, List.set_cons_succ, List.set_cons_zero]
  refine wpMix_put (v := ?_) rfl rfl (Or.inl ⟨by rfl, fun wz hz => ?_⟩) hS ?_
  rotate_left
  (focus (go_simp; try (with_reducible rfl)))
  simp only [List.setIfInBounds_toArray, List.set_cons_succ, List.set_cons_zero]
  refine wpMix_put (v := ?_) rfl rfl (Or.inl ⟨by rfl, fun wz hz => ?_⟩) hS ?_
  rotate_left
  (focus (go_simp; try (with_reducible rfl)))
  simp only [List.setIfInBounds_toArray, List.set_cons_succ, List.set_cons_zero]
  refine wpMix_put (v := ?_) rfl rfl (Or.inl ⟨by rfl, fun wz hz => ?_⟩) hS ?_
  rotate_left
  (focus (go_simp; try (with_reducible rfl)))
  simp only [List.setIfInBounds_toArray, List.set_cons_succ, List.set_cons_zero]
  refine wpMix_put (v := ?_) rfl rfl (Or.inl ⟨by rfl, fun wz hz => ?_⟩) hS ?_
  rotate_left
  (focus (go_simp; try (with_reducible rfl)))
  simp only [List.setIfInBounds_toArray, List.set_cons_succ, List.set_cons_zero]
  refine wpMix_put (v := ?_) rfl rfl (Or.inl ⟨by rfl, fun wz hz => ?_⟩) hS ?_
  rotate_left
  (focus (go_simp; try (with_reducible rfl)))
  simp only [List.setIfInBounds_toArray, List.set_cons_succ, List.set_cons_zero]
  refine wpMix_put (v := ?_) rfl rfl (Or.inl ⟨by rfl, fun wz hz => ?_⟩) hS ?_
  rotate_left
  (focus (go_simp; try (with_reducible rfl)))
  simp only [List.setIfInBounds_toArray, List.set_cons_succ, List.set_cons_zero]
  refine wpMix_put (v := ?_) rfl rfl (Or.inl ⟨by rfl, fun wz hz => ?_⟩) hS ?_
  rotate_left
  (focus (go_simp; try (with_reducible rfl)))
  simp only [List.setIfInBounds_toArray, List.set_cons_succ, List.set_cons_zero]
  refine wpMix_step rfl (fun K hK => ?_)
  go_simp
  refine (Tryz.strings_Compare _ _ _).mono ?_
  rintro e w6 ⟨rfl, hw6⟩
  have hw6 := hw6.symm
  subst hw6
  rw [h1]
  go_simp
  refine hK _ _ (fun _ => hS) ?_
  clear hK K
  refine wpMix_step rfl (fun K hK => ?_)
  go_simp
  refine (Tryz.strings_Compare _ _ _).mono ?_
  rintro e w6 ⟨rfl, hw6⟩
  have hw6 := hw6.symm
  subst hw6
  rw [h2]
  go_simp
  refine hK _ _ (fun _ => hS) ?_
  clear hK K
  refine wpMix_step rfl (fun K hK => ?_)
  go_simp
  refine (also_any x w0).mono ?_
  rintro e w6 ⟨rfl, hw6⟩
  subst hw6
  rw [h3]
  go_simp
  have hS7 := hcells _ (hb0.al (.cells #[.string x.frm, .string x.to, .bool x.also] 60))
  refine hK _ _ (fun _ => hS7) ?_
  clear hK K hS
  have hS := hS7
  clear hS7
  refine wpMix_step rfl (fun K hK => ?_)
  go_simp
  refine (also_any y (w0.alloc (.cells #[.string x.frm, .string x.to, .bool x.also] 60))).mono ?_
  rintro e w6 ⟨rfl, hw6⟩
  subst hw6
  rw [h4]
  go_simp
  have hS7 := hcells _ ((hb0.al (.cells #[.string x.frm, .string x.to, .bool x.also] 60)).al (.cells #[.string y.frm, .string y.to, .bool y.also] 60))
  refine hK _ _ (fun _ => hS7) ?_
  clear hK K hS
  have hS := hS7
  clear hS7
  refine wpMix_step rfl (fun K hK => ?_)
  go_simp
  refine (Tryz.cmp_Compare_int _ _ _).mono ?_
  rintro e w6 ⟨rfl, hw6⟩
  have hw6 := hw6.symm
  subst hw6
  rw [h5]
  go_simp
  refine hK _ _ (fun _ => hS) ?_
  clear hK K
  refine wpMix_step rfl (fun K hK => ?_)
  go_simp
  have hS7 := hcells _ (((hb0.al (.cells #[.string x.frm, .string x.to, .bool x.also] 60)).al (.cells #[.string y.frm, .string y.to, .bool y.also] 60)).al (.cells #[.int .i64 c1, .int .i64 c2, .int .i64 c3] 3))
  refine hK _ _ (fun _ => hS7) ?_
  clear hK K hS
  have hS := hS7
  clear hS7
  refine wpMix_step rfl (fun K hK => ?_)
  go_simp
  refine (or_any _ 3 _ [c1, c2, c3] _ (by omega) ⟨rfl, hoks, Rds.new3At ((w0.alloc (.cells #[.string x.frm, .string x.to, .bool x.also] 60)).alloc (.cells #[.string y.frm, .string y.to, .bool y.also] 60)) (by simp) _ _ _ 3⟩).mono ?_
  rintro e w6 ⟨rfl, hw6⟩
  have hw6 := hw6.symm
  subst hw6
  rw [h6]
  go_simp
  refine hK _ _ (fun _ => hS) ?_
  clear hK K
  refine wpMix_put (v := ?_) rfl rfl (Or.inl ⟨by rfl, fun wz hz => ?_⟩) hS ?_
  rotate_left
  (focus (go_simp; try (with_reducible rfl)))
  simp only [List.setIfInBounds_toArray, List.set_cons_succ, List.set_cons_zero]
  refine wpMix_nil ?_
  clear hS hcells
  go_wp2
  go_ret
  have hg := grown5 w (.cells #[.string x.frm, .string x.to, .bool x.also] 60) (.cells #[.string y.frm, .string y.to, .bool y.also] 60) (.cells #[.string x.frm, .string x.to, .bool x.also] 60) (.cells #[.string y.frm, .string y.to, .bool y.also] 60) (.cells #[.int .i64 c1, .int .i64 c2, .int .i64 c3] 3)
  rw [HW0.out] at hg
  exact ⟨rfl, 1, _, hg⟩
theorem cmpLaysR (blk off size : Nat) (w : World) : CmpLays Tryz.prog 37 #[] refCells 3 cfR blk off size w := fun _ _ _ _ x y => compare_any x y _
end Go.Proofs.YtlbgijgciajamaaGreatDoor
/- Walks of package refer: references cloned, sorted, each once (where none stands twice); Sort. -/
namespace Go.Proofs.YtlbgijgciajamaaGreatDoor
open Go.RowKit Go.Maps Go.Sort Go.Shelf Rf
/-! ### a row of whatever cells, sorted by the library -/
theorem holds_id {w : World} {g : Nat} {cur : Array Value} {e : TypeId} {xs : List Value} (hb : w.heap[g]? = some (.cells cur e (0, 0))) (ht : cur.toList.take xs.length = xs) : Holds id w g 0 xs.toArray := by
  intro j hj
  have hj' : j < xs.length := by simpa using hj
  refine ⟨?_, by simp [World.frozen?, hb]⟩
  have h1 : (cur.toList.take xs.length)[j]? = xs[j]? := by rw [ht]
  rw [List.getElem?_take_of_lt hj'] at h1
  simp only [World.cell?, hb, Nat.zero_add]
  simp only [Option.isSome_none, Bool.false_eq_true, if_false]
  rw [← Array.getElem?_toList, h1]
  simp [hj']
theorem heap_id {w : World} {g n : Nat} {os : Array Obj} {cur : Array Value} {e : TypeId} {fr : Nat × Nat} (d : Array Value) (hb : w.heap[g]? = some (.cells cur e fr)) :
    (grow (putRow id (Sort.ahead w n) g 0 d) os).heap[g]? = some (.cells (putCells id 0 d cur) e fr) := by
  have hg : g < w.heap.size := (Array.getElem?_eq_some_iff.1 hb).1
  rw [heap_grow_old _ _ (by simpa using hg)]
  simp [putRow, mapBlock, Sort.ahead, Array.getElem?_modify, hb, onCells]
theorem grown_id {w : World} {g n : Nat} {os : Array Obj} (d : Array Value) : w.grownBy (grow (putRow id (Sort.ahead w n) g 0 d) os) (some g) := by
  refine ⟨rfl, rfl, rfl, by simp, fun k hk hne => ?_⟩
  rw [heap_grow_old _ _ (by simpa using hk)]
  have : g ≠ k := fun e => hne (by rw [e])
  simp [putRow, mapBlock, Sort.ahead, Array.getElem?_modify, this]
theorem take_id (cur : Array Value) (ts : List Value) (h : ts.length ≤ cur.size) : (putCells id 0 ts.toArray cur).toList.take ts.length = ts := by
  apply List.ext_getElem?
  intro j
  by_cases hj : j < ts.length
  · rw [List.getElem?_take_of_lt hj, Array.getElem?_toList]
    simp [putCells, hj, show j < cur.size by omega]
  · rw [List.getElem?_take_eq_none (by omega), List.getElem?_eq_none (by omega)]
theorem flat_refs (l : List Ref) : flatK refCells 3 l.toArray = (refsCells l).toArray := by
  apply Array.ext
  · simp [refsCells_length]
  · intro t h1 h2
    have ht : t < l.length * 3 := by simpa using h1
    have hq : t / 3 < l.length := by omega
    have hg := refsCells_get l (t / 3) (t % 3) (by omega)
    rw [show t / 3 * 3 + t % 3 = t from by omega, List.getElem?_eq_getElem hq, Option.bind_some] at hg
    have h3 : t % 3 < (refCells l[t / 3]).length := by simp [refCells]; omega
    rw [List.getElem?_eq_getElem h3] at hg
    have h4 : (refsCells l)[t]? = some ((refsCells l).toArray[t]) := by simp
    rw [h4] at hg
    injection hg with hg
    rw [hg]
    simp [flatK, hq, List.getElem?_eq_getElem h3]
/-! ### clone, sort -/
theorem cloneR_any {A : Option Addr} {n c base : Nat} {l : List Ref} {w : World} (hm : n ≤ 100000) (ho : Own w base 60 3 (.slice A n c) n (refsCells l)) :
    Calls Tryz.prog 58 #[.slice A n c] w fun e w' => ∃ A' c', e = .returned (.slice A' n c') ∧ n ≤ c' ∧ Own w' w.heap.size 60 3 (.slice A' n c') n (refsCells l) ∧ Below w.heap.size w w' := by
  have hll : (refsCells l).length = n * 3 := ho.1.1
  rcases ho.1.2 with ⟨hv, h0⟩ | ⟨g, cap, cur, hv, _⟩
  · injection hv with hA hn hc
    subst hA; subst hn; subst hc
    refine (AnyE.slices_Clone_nil Tryz.cloneRef 0 0 w).mono ?_
    rintro e w' ⟨rfl, rfl⟩
    obtain rfl : l = [] := List.eq_nil_of_length_eq_zero (by rw [refsCells_length] at hll; omega)
    exact ⟨none, 0, rfl, Nat.le_refl _, Own.nil _ _ _ (Nat.le_refl _), brefl⟩
  · injection hv with hA _ hc
    subst hA; subst hc
    obtain ⟨i, z, _, hi, hz, hsize, hby, hzs, hsz⟩ := refsT
    refine (AnyE.slices_Clone Tryz.cloneRef i z 3 40 hi hz hsize hby hzs hsz Tryz.sizeOf60 g 0 n c (refsCells l) w hll (by unfold maxLen; omega) (by omega) (fun j u hu => ?_) (refs_one l)).mono ?_
    · obtain ⟨b, off, h1, _, h3⟩ := ho.reads (by have := (List.getElem?_eq_some_iff.1 hu).1; omega)
      cases h1
      exact h3 j u hu
    · rintro e w' ⟨v', rfl, h2, _, h3⟩
      obtain ⟨A', c', rfl, h4, _⟩ := form_own _ h2
      exact ⟨A', c', rfl, h4, ⟨h2, h3.size⟩, h3⟩
theorem sortR_any {A : Option Addr} {n c base : Nat} {l : List Ref} {w : World} (hm : n ≤ 100000) (ho : Own w base 60 3 (.slice A n c) n (refsCells l)) :
    Calls Tryz.prog 59 #[.slice A n c, .func (.func 37) #[] #[]] w fun e w' => e = .returned (.tuple #[]) ∧ Own w' base 60 3 (.slice A n c) n (refsCells (msortR l)) ∧ w.grownBy w' (Value.slice A n c).ownBlock := by
  have hll : (refsCells l).length = n * 3 := ho.1.1
  have hl3 := refsCells_length l
  have hln : l.length = n := by omega
  obtain ⟨hrow, hbase⟩ := ho
  rcases hrow.2 with ⟨hv, h0⟩ | ⟨g, cap, cur, hv, hbg, hb, h1, h2, h3, h4⟩
  · injection hv with hA hn hc
    subst hA; subst hn; subst hc
    refine (AnyF.slices_SortFunc_none Tryz.sortRef none 0 _ w).mono ?_
    rintro e w' ⟨rfl, rfl⟩
    refine ⟨rfl, ⟨?_, hbase⟩, World.grownBy.refl _ _⟩
    have : msortR l = [] := List.eq_nil_of_length_eq_zero (by rw [msortR_length]; exact hln)
    rw [this]; exact World.ownsRow_nil _ _ _ _
  · injection hv with hA _ hc
    subst hA; subst hc
    rw [← hll] at h4
    have hH : HoldsK refCells 3 w g 0 l.toArray := by
      unfold HoldsK
      rw [flat_refs]
      exact holds_id hb h4
    have hc := AnyQ.slices_SortFunc_total Tryz.sortRef 3 Tryz.isAgg60 Tryz.sizeOf60 refCells (fun _ => rfl) (fun x v hv => by simp [refCells] at hv; rcases hv with rfl | rfl | rfl <;> rfl) cfR swoR 37 #[] g 0 c l.toArray w
      (enters_of Tryz.func37 (by kernel_rfl) rfl) (cmpLaysR g 0 _ w) hH (Array.getElem?_eq_some_iff.1 hb).1 (by simp; omega) partsR
    simp only [List.size_toArray, hln] at hc
    refine hc.mono ?_
    rintro e w' ⟨rfl, q, os, rfl⟩
    have hms : (l.mergeSort fun x y => !ltOf cfR y x) = msortR l := by
      unfold msortR
      congr 1
      funext x y
      rw [ltOfR]; rfl
    rw [hms]
    unfold sortWorldK putRowK
    rw [flat_refs]
    have hlm : (refsCells (msortR l)).length = (refsCells l).length := by rw [refsCells_length, refsCells_length, msortR_length]
    refine ⟨rfl, ⟨⟨by rw [hlm]; exact hll, .inr ⟨g, c, _, rfl, hbg, heap_id _ hb, h1, h2, by simp [putCells, h3], ?_⟩⟩, Nat.le_trans hbase (grown_id _).size⟩, grown_id _⟩
    rw [← hll, ← hlm]
    exact take_id cur _ (by omega)
/-! ### each once, where none stands twice -/
set_option maxRecDepth 20000 in
set_option maxHeartbeats 1000000 in
theorem compactN_any (A : Option Addr) (n c : Nat) (l : List Ref) (w : World) (hm : n ≤ 100000) (hl : Refs w A n l) (hn : l.Nodup) :
    Calls Tryz.prog 60 #[.slice A n c] w fun e w' => e = .returned (.slice A n c) ∧ Below w.heap.size w w' := by
  by_cases h2 : n < 2
  · have h2' : (n : Int) < 2 := by omega
    go_enter Tryz.func60, Tryz.ntmps60
    go_wp2
    go_ret
    exact ⟨rfl, brefl⟩
  · have h2' : ¬ (n : Int) < 2 := by omega
    go_enter Tryz.func60, Tryz.ntmps60
    go_wp2
    go_loopw [3] (fun i wr => ∃ k : Nat, k + 1 ≤ n ∧ i = .int .i64 ((k : Int) + 1) ∧ Below w.heap.size w wr) (fun i _ => n - (intOf i).toNat)
    case atStart => exact ⟨0, by omega, rfl, brefl⟩
    case round =>
      obtain ⟨k, hk, rfl, hbl⟩ := hrel
      by_cases hlt : k + 1 < n
      · obtain ⟨b, off, r, rfl, hx, _, _, _, d1, d2, d3⟩ := (hl.below hbl).at_ (k := k) (by omega)
        obtain ⟨b', off', q, hA', hy, _, _, _, e1, e2, e3⟩ := (hl.below hbl).at_ (k := k + 1) hlt
        injection hA' with hA'
        injection hA' with hA1 hA2
        subst hA1; subst hA2
        have hne : decide (q = r) = false := decide_eq_false fun e => by
          subst e
          have := (List.getElem?_inj (by rw [hl.1]; omega) hn).1 (hx.trans hy.symm)
          omega
        have he := eql_ref q r
        rw [hne] at he
        have hlt' : (k : Int) + 1 < n := by omega
        have hk0 : (0 : Int) ≤ k := by omega
        have hk1 : (k : Int) < n := by omega
        have hk2 : (0 : Int) ≤ (k : Int) + 1 := by omega
        clear hx hy
        go_wp2
        have hwrap := IntWalk.i64_in (k : Int) (by omega)
        go_quiet (fail)
        clear hwrap
        go_wp2
        go_roundw
        case rel => exact ⟨k + 1, by omega, by go_num, hbl.drn _⟩
        case measure => simp [intOf]; omega
      · have hlt' : ¬ (k : Int) + 1 < n := by omega
        go_wp2
        go_ret
        exact ⟨rfl, hbl⟩
end Go.Proofs.YtlbgijgciajamaaGreatDoor
