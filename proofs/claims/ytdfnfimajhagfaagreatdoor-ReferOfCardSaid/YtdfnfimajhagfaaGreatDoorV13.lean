/- Walks of package refer: the comparison of references, the library's clone and sort at references. -/
import Derived.Test.YtdfnfimajhagfaaGreatDoorP6
import Derived.Test.YtdfnfimajhagfaaGreatDoorP10
import Derived.Test.YtdfnfimajhagfaaGreatDoorG1
import Derived.Test.YtdfnfimajhagfaaGreatDoorGen
import Derived.Shelf.SlSortCmp.WholeK
import Derived.Test.YtdfnfimajhagfaaGreatDoorV10
import Derived.Test.YtdfnfimajhagfaaGreatDoorG3
namespace Go.Proofs.YtdfnfimajhagfaaGreatDoor
open Go.RowKit Go.Maps Go.Sort Go.Shelf Rf
theorem orI_hit {x : Int} {l : List Int} (h : x ≠ 0) : orI (x :: l) = x := by unfold orI; rw [if_neg h]
theorem orI_miss {l : List Int} : orI (0 :: l) = orI l := by rw [orI, if_pos rfl]
set_option maxRecDepth 20000 in
set_option maxHeartbeats 1000000 in
theorem or_any (A : Option Addr) (n c : Nat) (l : List Int) (w : World) (hm : n ≤ 100000) (hl : Ints w A n l) :
    Calls Tryz.prog 153 #[.slice A n c] w fun e w' => e = .returned (.int .i64 (orI l)) ∧ w' = w := by
  go_enter Tryz.func153, Tryz.ntmps153
  go_wp2
  go_loop [8] (fun i => ∃ k : Nat, k ≤ n ∧ i = .int .i64 k ∧ Hid (orI l = orI (l.drop k))) (fun i => n - (intOf i).toNat)
  case atStart => exact ⟨0, by omega, rfl, rfl⟩
  case round =>
    obtain ⟨k, hk, rfl, hr⟩ := hrel
    by_cases hlt : k < n
    · obtain ⟨b, off, x, rfl, hx, _, hb, hc⟩ := hl.at_ hlt
      have hd := Lib.hid (drop_get hx)
      clear hx hb
      by_cases h0 : x = 0
      · subst h0
        go_wp2
        go_round
        case rel => exact ⟨k + 1, by omega, by go_num, by show _ = _; rw [hr.out, hd.out, orI_miss]⟩
        case measure => simp [intOf]; omega
      · go_wp2
        go_ret
        exact ⟨ret_i64 (by rw [hr.out, hd.out, orI_hit h0]), rfl⟩
    · have hd := Lib.hid (drop_len hl.1 hlt)
      go_wp2
      go_ret
      exact ⟨ret_i64 (by rw [hr.out, hd.out]; rfl), rfl⟩
set_option maxRecDepth 20000 in
set_option maxHeartbeats 1000000 in
theorem also_any (r : Ref) (w : World) :
    Calls Tryz.prog 152 #[.agg #[.string r.frm, .string r.to, .bool r.also]] w fun e w' => e = .returned (.int .i64 (alsoI r)) ∧ w' = w.alloc (.cells #[.string r.frm, .string r.to, .bool r.also] 136) := by
  obtain ⟨f, t, a⟩ := r
  cases a
  all_goals
    go_enter Tryz.func152, Tryz.ntmps152
    go_wp2
    go_ret
    exact ⟨rfl, rfl⟩
theorem new3_cells {w wz : World} {v1 v2 v3 : Value} {t : TypeId} {b : Nat} (hbe : b = w.heap.size) (hb : Below (w.alloc (.cells #[v1, v2, v3] t)).heap.size (w.alloc (.cells #[v1, v2, v3] t)) wz) :
    wz.cell? ⟨b, 0, none⟩ = some v1 ∧ wz.cell? ⟨b, 1, none⟩ = some v2 ∧ wz.cell? ⟨b, 2, none⟩ = some v3 := by
  subst hbe
  have h := fun j => hb.cell (p := ⟨w.heap.size, j, none⟩) (by simp)
  refine ⟨(h 0).trans ?_, (h 1).trans ?_, (h 2).trans ?_⟩
  all_goals rw [cell_of_row _ _ _ _ _ _ (heap_alloc_new _ _)]; rfl
theorem grown5 (w : World) (a b c d e : Obj) : (((((w.alloc a).alloc b).drew).alloc c).alloc d).alloc e = grow (w.drewN 1) (#[a] ++ (#[b] ++ (#[c] ++ (#[d] ++ #[e])))) := by
  simp only [alloc_eq_grow]
  show grow (grow (grow (grow (grow (w.drewN 1) _) _) _) _) _ = _
  rw [grow_grow, grow_grow, grow_grow, grow_grow]
instance refInh : Inhabited Ref := ⟨⟨ByteArray.empty, ByteArray.empty, false⟩⟩
set_option maxRecDepth 20000 in
set_option maxHeartbeats 4000000 in
theorem compare_any (x y : Ref) (w : World) :
    Calls Tryz.prog 118 #[.agg #[.string x.frm, .string x.to, .bool x.also], .agg #[.string y.frm, .string y.to, .bool y.also]] w fun e w' => e = .returned (.int .i64 (cfR x y)) ∧ ∃ q os', w' = grow (w.drewN q) os' := by
  obtain ⟨c1, h1⟩ : ∃ c, Lib.compareBytes x.frm.data.toList y.frm.data.toList = c := ⟨_, rfl⟩
  obtain ⟨c2, h2⟩ : ∃ c, Lib.compareBytes x.to.data.toList y.to.data.toList = c := ⟨_, rfl⟩
  obtain ⟨a1, h3⟩ : ∃ c, alsoI x = c := ⟨_, rfl⟩
  obtain ⟨a2, h4⟩ : ∃ c, alsoI y = c := ⟨_, rfl⟩
  obtain ⟨c3, h5⟩ : ∃ c, Lib.compareInt a1 a2 = c := ⟨_, rfl⟩
  obtain ⟨v, h6⟩ : ∃ c, orI [c1, c2, c3] = c := ⟨_, rfl⟩
  have hres : cfR x y = v := by unfold cfR; rw [h1, h2, h3, h4, h5, h6]
  have hr1 : i64ok c1 := by have := cmpB_range x.frm.data.toList y.frm.data.toList; rw [h1] at this; unfold i64ok; omega
  have hr2 : i64ok c2 := by have := cmpB_range x.to.data.toList y.to.data.toList; rw [h2] at this; unfold i64ok; omega
  have hr3 : i64ok c3 := by
    rw [← h5]; unfold Lib.compareInt i64ok
    by_cases q1 : a1 < a2
    · rw [if_pos q1]; omega
    · rw [if_neg q1]
      by_cases q2 : a1 > a2
      · rw [if_pos q2]; omega
      · rw [if_neg q2]; omega
  rw [hres]
  clear hres
  go_enter Tryz.func118, Tryz.ntmps118
  go_wp2_with fail
  have hX := fun wz (hz : Below ((w.alloc (.cells #[.string x.frm, .string x.to, .bool x.also] 136)).alloc (.cells #[.string y.frm, .string y.to, .bool y.also] 136)).heap.size ((w.alloc (.cells #[.string x.frm, .string x.to, .bool x.also] 136)).alloc (.cells #[.string y.frm, .string y.to, .bool y.also] 136)) wz) =>
    And.intro (new3_cells (w := w) (b := w.heap.size) rfl ((brefl.al _).tr hz)) (new3_cells (w := w.alloc (.cells #[.string x.frm, .string x.to, .bool x.also] 136)) (b := w.heap.size + 1) (by simp) hz)
  have hcells : ∀ wz, Below ((w.alloc (.cells #[.string x.frm, .string x.to, .bool x.also] 136)).alloc (.cells #[.string y.frm, .string y.to, .bool y.also] 136)).drew.heap.size ((w.alloc (.cells #[.string x.frm, .string x.to, .bool x.also] 136)).alloc (.cells #[.string y.frm, .string y.to, .bool y.also] 136)).drew wz →
      ((wz.cell? ⟨w.heap.size, 0, none⟩ = some (.string x.frm) ∧ wz.cell? ⟨w.heap.size, 1, none⟩ = some (.string x.to) ∧ wz.cell? ⟨w.heap.size, 2, none⟩ = some (.bool x.also)) ∧
        wz.cell? ⟨w.heap.size + 1, 0, none⟩ = some (.string y.frm) ∧ wz.cell? ⟨w.heap.size + 1, 1, none⟩ = some (.string y.to) ∧ wz.cell? ⟨w.heap.size + 1, 2, none⟩ = some (.bool y.also)) := fun wz hz => hX wz ((brefl.drn 1).tr hz)
  have hS := hcells _ brefl
  have hoks : ∀ i ∈ [c1, c2, c3], i64ok i := by
    intro i hi
    simp at hi
    rcases hi with rfl | rfl | rfl
    · exact hr1
    · exact hr2
    · exact hr3
  clear hX hr1 hr2 hr3
  obtain ⟨w0, hw0⟩ : ∃ w0, ((w.alloc (.cells #[.string x.frm, .string x.to, .bool x.also] 136)).alloc (.cells #[.string y.frm, .string y.to, .bool y.also] 136)).drew = w0 := ⟨_, rfl⟩
  have HW0 := Lib.hid hw0
  refine wp_region_mix [(true, 0), (true, 1), (true, 2), (true, 3), (true, 5), (true, 6), (true, 7), (true, 8), (true, 10), (true, 11), (true, 13), (true, 14), (false, 4), (false, 9), (false, 12), (false, 15), (false, 16), (false, 17), (false, 18), (true, 19)] 20 (fun wz => (wz.cell? ⟨w.heap.size, 0, none⟩ = some (.string x.frm) ∧ wz.cell? ⟨w.heap.size, 1, none⟩ = some (.string x.to) ∧ wz.cell? ⟨w.heap.size, 2, none⟩ = some (.bool x.also)) ∧ wz.cell? ⟨w.heap.size + 1, 0, none⟩ = some (.string y.frm) ∧ wz.cell? ⟨w.heap.size + 1, 1, none⟩ = some (.string y.to) ∧ wz.cell? ⟨w.heap.size + 1, 2, none⟩ = some (.bool y.also)) (by kernel_rfl) (by kernel_rfl) ?_
  rw [hw0] at hcells hS ⊢; clear hw0; have hb0 : Below w0.heap.size w0 w0 := brefl
  refine wpMix_put (v := ?_) rfl rfl (Or.inl ⟨by rfl, fun wz hz => ?_⟩) hS ?_
  rotate_left
  (focus (go_simp; try (with_reducible rfl)))
  simp only [List.setIfInBounds_toArray, List.set_cons_succ, List.set_cons_zero]
  refine wpMix_put (v := ?_) rfl rfl (Or.inl ⟨by rfl, fun wz hz => ?_⟩) hS ?_
  rotate_left
  (focus (go_simp; try (with_reducible rfl)))
  simp only [List.setIfInBounds_toArray, List.set_cons_succ, List.set_cons_zero]
  refine wpMix_put (v := ?_) rfl rfl (Or.inl ⟨by rfl, fun wz hz => ?_⟩) hS ?_
  rotate_left
  (focus (go_simp; try (with_reducible rfl)))
  simp only [List.setIfInBounds_toArray, List.set_cons_succ, List.set_cons_zero]
  refine wpMix_put (v := ?_) rfl rfl (Or.inl ⟨by rfl, fun wz hz => ?_⟩) hS ?_
  rotate_left
  (focus (go_simp; try (with_reducible rfl)))
  simp only [List.setIfInBounds_toArray, List.set_cons_succ, List.set_cons_zero]
  refine wpMix_put (v := ?_) rfl rfl (Or.inl ⟨by rfl, fun wz hz => ?_⟩) hS ?_
  rotate_left
  (focus (go_simp; try (with_reducible rfl)))
  simp only [List.setIfInBounds_toArray, List.set_cons_succ, List.set_cons_zero]
  refine wpMix_put (v := ?_) rfl rfl (Or.inl ⟨by rfl, fun wz hz => ?_⟩) hS ?_
  rotate_left
  (focus (go_simp; try (with_reducible rfl)))
  simp only [List.setIfInBounds_toArray, List.set_cons_succ, List.set_cons_zero]
  refine wpMix_put (v := ?_) rfl rfl (Or.inl ⟨by rfl, fun wz hz => ?_⟩) hS ?_
  rotate_left
  (focus (go_simp; try (with_reducible rfl)))
  simp only [List.setIfInBounds_toArray, List.set_cons_succ, List.set_cons_zero]
  refine wpMix_put (v := ?_) rfl rfl (Or.inl ⟨by rfl, fun wz hz => ?_⟩) hS ?_
  rotate_left
  (focus (go_simp; try (with_reducible rfl)))
  simp only [List.setIfInBounds_toArray, List.set_cons_succ, List.set_cons_zero]
  refine wpMix_put (v := ?_) rfl rfl (Or.inl ⟨by rfl, fun wz hz => ?_⟩) hS ?_
  rotate_left
  (focus (go_simp; try (with_reducible rfl)))
  simp only [List.setIfInBounds_toArray, List.set_cons_succ, List.set_cons_zero]
  refine wpMix_put (v := ?_) rfl rfl (Or.inl ⟨by rfl, fun wz hz => ?_⟩) hS ?_
  rotate_left
  (focus (go_simp; try (with_reducible rfl)))
  simp only [List.setIfInBounds_toArray, List.set_cons_succ, List.set_cons_zero]
  refine wpMix_put (v := ?_) rfl rfl (Or.inl ⟨by rfl, fun wz hz => ?_⟩) hS ?_
  rotate_left
  (focus (go_simp; try (with_reducible rfl)))
  simp only [List.setIfInBounds_toArray, List.set_cons_succ, List.set_cons_zero]
  refine wpMix_put (v := ?_) rfl rfl (Or.inl ⟨by rfl, fun wz hz => ?_⟩) hS ?_
  rotate_left
  (focus (go_simp; try (with_reducible rfl)))
  simp only [List.setIfInBounds_toArray, List.set_cons_succ, List.set_cons_zero]
  refine wpMix_step rfl (fun K hK => ?_)
  go_simp
  refine (Tryz.strings_Compare _ _ _).mono ?_
  rintro e w6 ⟨rfl, hw6⟩
  have hw6 := hw6.symm
  subst hw6
  rw [h1]
  go_simp
  refine hK _ _ (fun _ => hS) ?_
  clear hK K
  refine wpMix_step rfl (fun K hK => ?_)
  go_simp
  refine (Tryz.strings_Compare _ _ _).mono ?_
  rintro e w6 ⟨rfl, hw6⟩
  have hw6 := hw6.symm
  subst hw6
  rw [h2]
  go_simp
  refine hK _ _ (fun _ => hS) ?_
  clear hK K
  refine wpMix_step rfl (fun K hK => ?_)
  go_simp
  refine (also_any x w0).mono ?_
  rintro e w6 ⟨rfl, hw6⟩
  subst hw6
  rw [h3]
  go_simp
  have hS7 := hcells _ (hb0.al (.cells #[.string x.frm, .string x.to, .bool x.also] 136))
  refine hK _ _ (fun _ => hS7) ?_
  clear hK K hS
  have hS := hS7
  clear hS7
  refine wpMix_step rfl (fun K hK => ?_)
  go_simp
  refine (also_any y (w0.alloc (.cells #[.string x.frm, .string x.to, .bool x.also] 136))).mono ?_
  rintro e w6 ⟨rfl, hw6⟩
  subst hw6
  rw [h4]
  go_simp
  have hS7 := hcells _ ((hb0.al (.cells #[.string x.frm, .string x.to, .bool x.also] 136)).al (.cells #[.string y.frm, .string y.to, .bool y.also] 136))
  refine hK _ _ (fun _ => hS7) ?_
  clear hK K hS
  have hS := hS7
  clear hS7
  refine wpMix_step rfl (fun K hK => ?_)
  go_simp
  refine (Tryz.cmp_Compare_int _ _ _).mono ?_
  rintro e w6 ⟨rfl, hw6⟩
  have hw6 := hw6.symm
  subst hw6
  rw [h5]
  go_simp
  refine hK _ _ (fun _ => hS) ?_
  clear hK K
  refine wpMix_step rfl (fun K hK => ?_)
  go_simp
  have hS7 := hcells _ (((hb0.al (.cells #[.string x.frm, .string x.to, .bool x.also] 136)).al (.cells #[.string y.frm, .string y.to, .bool y.also] 136)).al (.cells #[.int .i64 c1, .int .i64 c2, .int .i64 c3] 3))
  refine hK _ _ (fun _ => hS7) ?_
  clear hK K hS
  have hS := hS7
  clear hS7
  refine wpMix_step rfl (fun K hK => ?_)
  go_simp
  refine (or_any _ 3 _ [c1, c2, c3] _ (by omega) ⟨rfl, hoks, Rds.new3At ((w0.alloc (.cells #[.string x.frm, .string x.to, .bool x.also] 136)).alloc (.cells #[.string y.frm, .string y.to, .bool y.also] 136)) (by simp) _ _ _ 3⟩).mono ?_
  rintro e w6 ⟨rfl, hw6⟩
  have hw6 := hw6.symm
  subst hw6
  rw [h6]
  go_simp
  refine hK _ _ (fun _ => hS) ?_
  clear hK K
  refine wpMix_put (v := ?_) rfl rfl (Or.inl ⟨by rfl, fun wz hz => ?_⟩) hS ?_
  rotate_left
  (focus (go_simp; try (with_reducible rfl)))
  simp only [List.setIfInBounds_toArray, List.set_cons_succ, List.set_cons_zero]
  refine wpMix_nil ?_
  clear hS hcells
  go_wp2
  go_ret
  have hg := grown5 w (.cells #[.string x.frm, .string x.to, .bool x.also] 136) (.cells #[.string y.frm, .string y.to, .bool y.also] 136) (.cells #[.string x.frm, .string x.to, .bool x.also] 136) (.cells #[.string y.frm, .string y.to, .bool y.also] 136) (.cells #[.int .i64 c1, .int .i64 c2, .int .i64 c3] 3)
  rw [HW0.out] at hg
  exact ⟨rfl, 1, _, hg⟩
theorem cmpLaysR (blk off size : Nat) (w : World) : CmpLays Tryz.prog 118 #[] refCells 3 cfR blk off size w := fun _ _ _ _ x y => compare_any x y _
end Go.Proofs.YtdfnfimajhagfaaGreatDoor
/- Walks of package refer: references cloned, sorted, each once (where none stands twice); Sort. -/
namespace Go.Proofs.YtdfnfimajhagfaaGreatDoor
open Go.RowKit Go.Maps Go.Sort Go.Shelf Rf
/-! ### a row of whatever cells, sorted by the library -/
theorem holds_id {w : World} {g : Nat} {cur : Array Value} {e : TypeId} {xs : List Value} (hb : w.heap[g]? = some (.cells cur e (0, 0))) (ht : cur.toList.take xs.length = xs) : Holds id w g 0 xs.toArray := by
  intro j hj
  have hj' : j < xs.length := by simpa using hj
  refine ⟨?_, by simp [World.frozen?, hb]⟩
  have h1 : (cur.toList.take xs.length)[j]? = xs[j]? := by rw [ht]
  rw [List.getElem?_take_of_lt hj'] at h1
  simp only [World.cell?, hb, Nat.zero_add]
  simp only [Option.isSome_none, Bool.false_eq_true, if_false]
  rw [← Array.getElem?_toList, h1]
  simp [hj']
theorem heap_id {w : World} {g n : Nat} {os : Array Obj} {cur : Array Value} {e : TypeId} {fr : Nat × Nat} (d : Array Value) (hb : w.heap[g]? = some (.cells cur e fr)) :
    (grow (putRow id (Sort.ahead w n) g 0 d) os).heap[g]? = some (.cells (putCells id 0 d cur) e fr) := by
  have hg : g < w.heap.size := (Array.getElem?_eq_some_iff.1 hb).1
  rw [heap_grow_old _ _ (by simpa using hg)]
  simp [putRow, mapBlock, Sort.ahead, Array.getElem?_modify, hb, onCells]
theorem grown_id {w : World} {g n : Nat} {os : Array Obj} (d : Array Value) : w.grownBy (grow (putRow id (Sort.ahead w n) g 0 d) os) (some g) := by
  refine ⟨rfl, rfl, rfl, by simp, fun k hk hne => ?_⟩
  rw [heap_grow_old _ _ (by simpa using hk)]
  have : g ≠ k := fun e => hne (by rw [e])
  simp [putRow, mapBlock, Sort.ahead, Array.getElem?_modify, this]
theorem take_id (cur : Array Value) (ts : List Value) (h : ts.length ≤ cur.size) : (putCells id 0 ts.toArray cur).toList.take ts.length = ts := by
  apply List.ext_getElem?
  intro j
  by_cases hj : j < ts.length
  · rw [List.getElem?_take_of_lt hj, Array.getElem?_toList]
    simp [putCells, hj, show j < cur.size by omega]
  · rw [List.getElem?_take_eq_none (by omega), List.getElem?_eq_none (by omega)]
theorem flat_refs (l : List Ref) : flatK refCells 3 l.toArray = (refsCells l).toArray := by
  apply Array.ext
  · simp [refsCells_length]
  · intro t h1 h2
    have ht : t < l.length * 3 := by simpa using h1
    have hq : t / 3 < l.length := by omega
    have hg := refsCells_get l (t / 3) (t % 3) (by omega)
    rw [show t / 3 * 3 + t % 3 = t from by omega, List.getElem?_eq_getElem hq, Option.bind_some] at hg
    have h3 : t % 3 < (refCells l[t / 3]).length := by simp [refCells]; omega
    rw [List.getElem?_eq_getElem h3] at hg
    have h4 : (refsCells l)[t]? = some ((refsCells l).toArray[t]) := by simp
    rw [h4] at hg
    injection hg with hg
    rw [hg]
    simp [flatK, hq, List.getElem?_eq_getElem h3]
/-! ### clone, sort -/
theorem cloneR_any {A : Option Addr} {n c base : Nat} {l : List Ref} {w : World} (hm : n ≤ 100000) (ho : Own w base 136 3 (.slice A n c) n (refsCells l)) :
    Calls Tryz.prog 149 #[.slice A n c] w fun e w' => ∃ A' c', e = .returned (.slice A' n c') ∧ n ≤ c' ∧ Own w' w.heap.size 136 3 (.slice A' n c') n (refsCells l) ∧ Below w.heap.size w w' := by
  have hll : (refsCells l).length = n * 3 := ho.1.1
  rcases ho.1.2 with ⟨hv, h0⟩ | ⟨g, cap, cur, hv, _⟩
  · injection hv with hA hn hc
    subst hA; subst hn; subst hc
    refine (AnyE.slices_Clone_nil Tryz.cloneRef 0 0 w).mono ?_
    rintro e w' ⟨rfl, rfl⟩
    obtain rfl : l = [] := List.eq_nil_of_length_eq_zero (by rw [refsCells_length] at hll; omega)
    exact ⟨none, 0, rfl, Nat.le_refl _, Own.nil _ _ _ (Nat.le_refl _), brefl⟩
  · injection hv with hA _ hc
    subst hA; subst hc
    obtain ⟨i, z, _, hi, hz, hsize, hby, hzs, hsz⟩ := refsT
    refine (AnyE.slices_Clone Tryz.cloneRef i z 3 40 hi hz hsize hby hzs hsz Tryz.sizeOf136 g 0 n c (refsCells l) w hll (by unfold maxLen; omega) (by omega) (fun j u hu => ?_) (refs_one l)).mono ?_
    · obtain ⟨b, off, h1, _, h3⟩ := ho.reads (by have := (List.getElem?_eq_some_iff.1 hu).1; omega)
      cases h1
      exact h3 j u hu
    · rintro e w' ⟨v', rfl, h2, _, h3⟩
      obtain ⟨A', c', rfl, h4, _⟩ := form_own _ h2
      exact ⟨A', c', rfl, h4, ⟨h2, h3.size⟩, h3⟩
theorem sortR_any {A : Option Addr} {n c base : Nat} {l : List Ref} {w : World} (hm : n ≤ 100000) (ho : Own w base 136 3 (.slice A n c) n (refsCells l)) :
    Calls Tryz.prog 150 #[.slice A n c, .func (.func 118) #[] #[]] w fun e w' => e = .returned (.tuple #[]) ∧ Own w' base 136 3 (.slice A n c) n (refsCells (msortR l)) ∧ w.grownBy w' (Value.slice A n c).ownBlock := by
  have hll : (refsCells l).length = n * 3 := ho.1.1
  have hl3 := refsCells_length l
  have hln : l.length = n := by omega
  obtain ⟨hrow, hbase⟩ := ho
  rcases hrow.2 with ⟨hv, h0⟩ | ⟨g, cap, cur, hv, hbg, hb, h1, h2, h3, h4⟩
  · injection hv with hA hn hc
    subst hA; subst hn; subst hc
    refine (AnyF.slices_SortFunc_none Tryz.sortRef none 0 _ w).mono ?_
    rintro e w' ⟨rfl, rfl⟩
    refine ⟨rfl, ⟨?_, hbase⟩, World.grownBy.refl _ _⟩
    have : msortR l = [] := List.eq_nil_of_length_eq_zero (by rw [msortR_length]; exact hln)
    rw [this]; exact World.ownsRow_nil _ _ _ _
  · injection hv with hA _ hc
    subst hA; subst hc
    rw [← hll] at h4
    have hH : HoldsK refCells 3 w g 0 l.toArray := by
      unfold HoldsK
      rw [flat_refs]
      exact holds_id hb h4
    have hc := AnyQ.slices_SortFunc_total Tryz.sortRef 3 Tryz.isAgg136 Tryz.sizeOf136 refCells (fun _ => rfl) (fun x v hv => by simp [refCells] at hv; rcases hv with rfl | rfl | rfl <;> rfl) cfR swoR 118 #[] g 0 c l.toArray w
      (enters_of Tryz.func118 (by kernel_rfl) rfl) (cmpLaysR g 0 _ w) hH (Array.getElem?_eq_some_iff.1 hb).1 (by simp; omega) partsR
    simp only [List.size_toArray, hln] at hc
    refine hc.mono ?_
    rintro e w' ⟨rfl, q, os, rfl⟩
    have hms : (l.mergeSort fun x y => !ltOf cfR y x) = msortR l := by
      unfold msortR
      congr 1
      funext x y
      rw [ltOfR]; rfl
    rw [hms]
    unfold sortWorldK putRowK
    rw [flat_refs]
    have hlm : (refsCells (msortR l)).length = (refsCells l).length := by rw [refsCells_length, refsCells_length, msortR_length]
    refine ⟨rfl, ⟨⟨by rw [hlm]; exact hll, .inr ⟨g, c, _, rfl, hbg, heap_id _ hb, h1, h2, by simp [putCells, h3], ?_⟩⟩, Nat.le_trans hbase (grown_id _).size⟩, grown_id _⟩
    rw [← hll, ← hlm]
    exact take_id cur _ (by omega)
/-! ### each once, where none stands twice -/
set_option maxRecDepth 20000 in
set_option maxHeartbeats 1000000 in
theorem compactN_any (A : Option Addr) (n c : Nat) (l : List Ref) (w : World) (hm : n ≤ 100000) (hl : Refs w A n l) (hn : l.Nodup) :
    Calls Tryz.prog 151 #[.slice A n c] w fun e w' => e = .returned (.slice A n c) ∧ Below w.heap.size w w' := by
  by_cases h2 : n < 2
  · have h2' : (n : Int) < 2 := by omega
    go_enter Tryz.func151, Tryz.ntmps151
    go_wp2
    go_ret
    exact ⟨rfl, brefl⟩
  · have h2' : ¬ (n : Int) < 2 := by omega
    go_enter Tryz.func151, Tryz.ntmps151
    go_wp2
    go_loopw [3] (fun i wr => ∃ k : Nat, k + 1 ≤ n ∧ i = .int .i64 ((k : Int) + 1) ∧ Below w.heap.size w wr) (fun i _ => n - (intOf i).toNat)
    case atStart => exact ⟨0, by omega, rfl, brefl⟩
    case round =>
      obtain ⟨k, hk, rfl, hbl⟩ := hrel
      by_cases hlt : k + 1 < n
      · obtain ⟨b, off, r, rfl, hx, _, _, _, d1, d2, d3⟩ := (hl.below hbl).at_ (k := k) (by omega)
        obtain ⟨b', off', q, hA', hy, _, _, _, e1, e2, e3⟩ := (hl.below hbl).at_ (k := k + 1) hlt
        injection hA' with hA'
        injection hA' with hA1 hA2
        subst hA1; subst hA2
        have hne : decide (q = r) = false := decide_eq_false fun e => by
          subst e
          have := (List.getElem?_inj (by rw [hl.1]; omega) hn).1 (hx.trans hy.symm)
          omega
        have he := eql_ref q r
        rw [hne] at he
        have hlt' : (k : Int) + 1 < n := by omega
        have hk0 : (0 : Int) ≤ k := by omega
        have hk1 : (k : Int) < n := by omega
        have hk2 : (0 : Int) ≤ (k : Int) + 1 := by omega
        clear hx hy
        go_wp2
        have hwrap := IntWalk.i64_in (k : Int) (by omega)
        go_quiet (fail)
        clear hwrap
        go_wp2
        go_roundw
        case rel => exact ⟨k + 1, by omega, by go_num, hbl.drn _⟩
        case measure => simp [intOf]; omega
      · have hlt' : ¬ (k : Int) + 1 < n := by omega
        go_wp2
        go_ret
        exact ⟨rfl, hbl⟩
end Go.Proofs.YtdfnfimajhagfaaGreatDoor
/- Walks of package refer: Sort, Of. -/
namespace Go.Proofs.YtdfnfimajhagfaaGreatDoor
open Go.RowKit Go.Maps Go.Sort Rf
/-- what a list of references is once it is sorted, each once -/
def IsSortR (l rs : List Ref) : Prop := SortedR rs ∧ ∀ r, r ∈ rs ↔ r ∈ l
def szR (l : List Ref) : Prop := ∀ r ∈ l, r.frm.size ≤ maxLen ∧ r.to.size ≤ maxLen
set_option maxRecDepth 20000 in
set_option maxHeartbeats 1000000 in
theorem sortedN_any {A : Option Addr} {n c base : Nat} {l : List Ref} {w : World} (hm : n ≤ 100000) (ho : Own w base 136 3 (.slice A n c) n (refsCells l)) (hs : szR l) (hn : l.Nodup) :
    Calls Tryz.prog 117 #[.slice A n c, .func (.func 118) #[] #[]] w fun e w' => ∃ A' k c' rs, e = .returned (.slice A' k c') ∧ k ≤ c' ∧ k ≤ n ∧ Refs w' A' k rs ∧ IsSortR l rs ∧ Below w.heap.size w w' := by
  have hsz : szR (msortR l) := fun r hr => hs r (mem_msortR.1 hr)
  go_enter Tryz.func117, Tryz.ntmps117
  go_wp2_with (first
    | (go_at_call 149; refine (cloneR_any hm ho).mono ?_; rintro e w2 ⟨A2, c2, rfl, hc2, ho2, hb2⟩)
    | (go_at_call 150; refine (sortR_any hm ho2).mono ?_; rintro e w3 ⟨rfl, ho3, hg3⟩; have hr3 := Refs.own ho3 rfl hsz)
    | (go_at_call 151; refine (compactN_any _ _ _ _ _ hm hr3 (msortR_sorted hn).nodup).mono ?_; rintro e w4 ⟨rfl, hb4⟩))
  go_ret
  exact ⟨A2, n, c2, msortR l, rfl, hc2, Nat.le_refl _, hr3.below hb4, ⟨msortR_sorted hn, fun r => mem_msortR⟩, (hb2.gr hg3 ho2.row).tr hb4⟩
set_option maxRecDepth 20000 in
set_option maxHeartbeats 1000000 in
theorem sortN_any {A : Option Addr} {n c base : Nat} {l : List Ref} {w : World} (hm : n ≤ 100000) (ho : Own w base 136 3 (.slice A n c) n (refsCells l)) (hs : szR l) (hn : l.Nodup) :
    Calls Tryz.prog 68 #[.slice A n c] w fun e w' => ∃ A' k c' rs, e = .returned (.slice A' k c') ∧ k ≤ c' ∧ k ≤ n ∧ Refs w' A' k rs ∧ IsSortR l rs ∧ Below w.heap.size w w' := by
  have h := sortedN_any hm ho hs hn
  go_enter Tryz.func68, Tryz.ntmps68
  go_wp2_with (go_at_call 117; refine h.mono ?_; rintro e w2 ⟨A2, k2, c2, rs, rfl, hc2, hk2, hr2, hi2, hb2⟩)
  go_ret
  exact ⟨A2, k2, c2, rs, rfl, hc2, hk2, hr2, hi2, hb2⟩
/-- what Of makes -/
def IsOf (l : List Term) (heads : List S) (rs : List Ref) : Prop := if (vvalid l).2 = 0 then IsSortR (ofAll l heads) rs else rs = []
set_option maxRecDepth 20000 in
set_option maxHeartbeats 8000000 in
theorem rof_any (A B : Option Addr) (n c m d : Nat) (ms : List TM) (heads : List S) (w : World) (hm : n ≤ 100000) (hmh : m ≤ 1000000) (hr : Rdy w) (hl : Tms w A n ms) (hh : Strs w B m heads) :
    Calls Tryz.prog 60 #[.slice A n c, .slice B m d] w fun e w' => ∃ A' k c' rs, e = .returned (.slice A' k c') ∧ k ≤ c' ∧ k ≤ 20000 ∧ Refs w' A' k rs ∧ IsOf (terms ms) heads rs ∧ Below w.heap.size w w' := by
  have hv := vvalid_any A n c ms w hm hr hl
  have hlen := terms_length hl
  have hmm := @run_makeMap Tryz.prog
  by_cases h0 : (vvalid (terms ms)).2 = 0
  · have h128 : n ≤ 128 := by
      rcases Nat.lt_or_ge 128 n with h | h
      · have h1 := h0
        unfold vvalid at h1
        rw [if_pos (by rw [hlen]; exact h)] at h1; cases h1
      · exact h
    have hnd := Lib.hid (ofAll_nodup (heads := heads) (vok (show _ = eOK from h0)))
    have hio := Lib.hid (show ∀ rs, IsSortR (ofAll (terms ms) heads) rs → IsOf (terms ms) heads rs from fun rs h => by unfold IsOf; rw [if_pos h0]; exact h)
    rw [h0] at hv
    clear h0
    generalize ((vvalid (terms ms)).1 : Int) = u at hv
    go_enter Tryz.func60, Tryz.ntmps60
    go_wp2_with (first
      | (go_at_call 12; refine hv.mono ?_; rintro e w2 ⟨rfl, hb2⟩)
      | (go_at_call 110; refine (set_any _ _ _ _ _ hmh (hh.below hb2)).mono ?_; rintro e w3 ⟨hb, rfl, hbb, hf3, hb3⟩))
    have hb23 := hb2.tr hb3
    obtain ⟨wo, hwo⟩ : ∃ wo : World, wo = w3 := ⟨_, rfl⟩
    subst hwo
    have hh3 : hb < wo.heap.size := hf3.lt
    have hs3 := hb23.size
    clear hbb hb2 hb3 hv
    go_loopw [8, 24] (fun o i wr => ∃ (k m1 c1 : Nat) (A1 : Option Addr), k ≤ n ∧ i = .int .i64 k ∧ o = .slice A1 m1 c1 ∧ m1 ≤ c1 ∧ m1 ≤ 101 * k ∧ Own wr wo.heap.size 136 3 (.slice A1 m1 c1) m1 (refsCells (ofAll ((terms ms).take k) heads)) ∧ szR (ofAll ((terms ms).take k) heads) ∧ MapS wr hb m (boolF heads) ∧ Below w.heap.size w wr) (fun _ i _ => n - (intOf i).toNat)
    case atStart => exact ⟨0, 0, 0, none, by omega, rfl, rfl, by omega, by omega, Own.nil _ _ _ (Nat.le_refl _), (fun r h => by cases h), hf3, hb23⟩
    case round =>
      clear hf3 hb23
      obtain ⟨k, m1, c1, A1, hk, rfl, rfl, hc1, hm1, ho, hsz, hf, hbl⟩ := hrel
      by_cases hlt : k < n
      · obtain ⟨b, off, ⟨t, Am, nm, cm⟩, rfl, hx, hok, hb0, hat⟩ := hl.at_ hlt
        obtain ⟨d1, d2, d3, d4, d5⟩ := hat.below hbl hb0
        clear hat
        have htk := terms_get hx
        obtain ⟨hnm, hse, _, _, hcap, hfew, hbr⟩ := hok
        dsimp only at d1 d2 d3 d4 d5 hnm hse hcap hfew hbr htk
        have hsn := Lib.hid (ofAll_snoc (heads := heads) htk)
        have hfa := hf.alloc (.cells #[.string t.name, .int .i64 t.kind, .int .i64 t.lang, .string t.see, .slice Am nm cm] 33)
        have hba := hbl.al (.cells #[.string t.name, .int .i64 t.kind, .int .i64 t.lang, .string t.see, .slice Am nm cm] 33)
        have hoa := ho.alloc (.cells #[.string t.name, .int .i64 t.kind, .int .i64 t.lang, .string t.see, .slice Am nm cm] 33)
        clear hx htk hb0
        cases hn : Rf.has heads t.name
        · have e1 := hfa.lookB0 hnm hn
          cases hs0 : t.see.data.isEmpty
          · have u0 := not_empty hs0
            have u2 := (empty_data t.see).trans hs0
            cases hs1 : Rf.has heads t.see
            · have e2 := hfa.lookB0 hse hs1
              have hnil := Lib.hid (ofTerm_none (t := t) hn (by rw [hs1]; simp))
              clear hn hs0 hs1
              go_wp2
              go_roundw
              case rel => exact ⟨k + 1, m1, c1, A1, by omega, by go_num, rfl, hc1, by omega, by rw [hsn.out, hnil.out, List.append_nil]; exact hoa, by rw [hsn.out, hnil.out, List.append_nil]; exact hsz, hfa, hba⟩
              case measure => simp [intOf]; omega
            · have e2 := hfa.lookB0 hse hs1
              have hone := Lib.hid (ofTerm_see (t := t) hn hs0 hs1)
              clear hn hs0 hs1
              go_wp2_with (at_builtin; refine wpList_app _ refsT rfl (.tmp 61) (.tmp 67) rfl (hoa.alloc _) rfl rfl (news := [.string t.name, .string t.see, .bool false]) rfl (Rds.new3At (wr.alloc (.cells #[.string t.name, .int .i64 t.kind, .int .i64 t.lang, .string t.see, .slice Am nm cm] 33)) (by simp) _ _ _ 136) (by simp [Value.oneCell']) ?_ ?_ ?_; (focus omega); (focus omega); intro A8 c8 w8 o8 n8 g8 _)
              have hb8 := (hba.al (.cells #[.string t.name, .string t.see, .bool false] 136)).gr g8 (fun k e => Nat.le_trans hs3 (ho.row k e))
              have hf8 := (hfa.alloc (.cells #[.string t.name, .string t.see, .bool false] 136)).kept g8 (fun e => by have := ho.row _ e.symm; omega)
              go_roundw
              case rel => exact ⟨k + 1, m1 + 1, c8, A8, by omega, by go_num, rfl, n8, by omega, by rw [hsn.out, hone.out]; exact snoc_refs (r := ⟨t.name, t.see, false⟩) o8, (by
                rw [hsn.out, hone.out]
                intro q hq
                rcases List.mem_append.1 hq with hq | hq
                · exact hsz q hq
                · simp at hq; subst hq; exact ⟨hnm, hse⟩), hf8, hb8⟩
              case measure => simp [intOf]; omega
          · have hnil := Lib.hid (ofTerm_none (heads := heads) (t := t) hn (by rw [hs0]; rfl))
            have u1 := is_empty hs0
            rw [u1] at d4 hfa hba hoa e1
            clear hn hs0
            go_wp2
            go_roundw
            case rel => exact ⟨k + 1, m1, c1, A1, by omega, by go_num, rfl, hc1, by omega, by rw [hsn.out, hnil.out, List.append_nil]; exact hoa, by rw [hsn.out, hnil.out, List.append_nil]; exact hsz, hfa, hba⟩
            case measure => simp [intOf]; omega
        · have e1 := hfa.lookB0 hnm hn
          have hall := Lib.hid (fun n h => brTake_all (heads := heads) (t := t) (n := n) h hn)
          clear hn
          go_wp2
          clear e1
          have hbc := (box_tm (w := wr) (v1 := .string t.name) (v2 := .int .i64 t.kind) (v3 := .int .i64 t.lang) (v4 := .string t.see) (v5 := .slice Am nm cm) (t := 33) brefl).1
          have hlt0 : ∀ g, (Value.slice A1 m1 c1).ownBlock = some g → g ≠ wr.heap.size := fun g e => by have := ho.lt g e; omega
          have hsw : wr.heap.size < (wr.alloc (.cells #[.string t.name, .int .i64 t.kind, .int .i64 t.lang, .string t.see, .slice Am nm cm] 33)).heap.size := by simp
          obtain ⟨wx, hwx⟩ : ∃ wx, wr.alloc (.cells #[.string t.name, .int .i64 t.kind, .int .i64 t.lang, .string t.see, .slice Am nm cm] 33) = wx := ⟨_, rfl⟩
          rw [hwx] at hfa hba hoa hbc hsw ⊢
          clear d1 d2 d3 d4 d5 hwx
          obtain ⟨wb, hwb⟩ : ∃ wb : World, wb = wr := ⟨_, rfl⟩
          subst hwb
          go_loopw [8, 31] (fun o i wz => ∃ (j m2 c2 : Nat) (A2 : Option Addr), j ≤ nm ∧ i = .int .i64 j ∧ o = .slice A2 m2 c2 ∧ m2 ≤ c2 ∧ m2 ≤ 101 * k + j ∧ Own wz wo.heap.size 136 3 (.slice A2 m2 c2) m2 (refsCells (ofAll ((terms ms).take k) heads ++ brTake heads t j)) ∧
            wz.cell? ⟨wb.heap.size, 0, none⟩ = some (.string t.name) ∧ (∀ g, (Value.slice A2 m2 c2).ownBlock = some g → g ≠ wb.heap.size) ∧ wb.heap.size < wz.heap.size ∧ szR (ofAll ((terms ms).take k) heads ++ brTake heads t j) ∧ MapS wz hb m (boolF heads) ∧ Below w.heap.size w wz) (fun _ i _ => nm - (intOf i).toNat)
          case atStart => exact ⟨0, m1, c1, A1, by omega, rfl, rfl, hc1, by omega, by rw [brTake_zero, List.append_nil]; exact hoa, hbc, hlt0, hsw, by rw [brTake_zero, List.append_nil]; exact hsz, hfa, hba⟩
          case round =>
            clear hfa hba hoa hbc hlt0 hsw ho hsz hf
            obtain ⟨j, m2, c2, A2, hj, rfl, rfl, hc2, hm2, ho2, hcn, hg2, hsz2, hszr, hf2, hb2⟩ := hrel
            by_cases hlt2 : j < nm
            · obtain ⟨b9, off9, x, rfl, hx, hxs, hb9, hcx⟩ := (hbr.below hb2).at_ hlt2
              cases hxh : Rf.has heads x
              · have e3 := hf2.lookB0 hxs hxh
                have hms := Lib.hid (brTake_miss (t := t) hx hxh)
                clear hx hb9 hxh
                go_wp2
                go_roundw
                case rel => exact ⟨j + 1, m2, c2, A2, by omega, by go_num, rfl, hc2, by omega, by rw [hms.out]; exact ho2, hcn, hg2, hsz2, by rw [hms.out]; exact hszr, hf2, hb2⟩
                case measure => simp [intOf]; omega
              · have e3 := hf2.lookB0 hxs hxh
                have hms := Lib.hid (brTake_hit (t := t) hx hxh)
                clear hx hb9 hxh
                go_wp2_with (at_builtin; refine wpList_app _ refsT rfl (.tmp 38) (.tmp 43) rfl (ho2.alloc _) rfl rfl (news := [.string x, .string t.name, .bool true]) rfl (Rds.new3 wr _ _ _ 136) (by simp [Value.oneCell']) ?_ ?_ ?_; (focus omega); (focus omega); intro A8 c8 w8 o8 n8 g8 e8)
                have hb8 := (hb2.al (.cells #[.string x, .string t.name, .bool true] 136)).gr g8 (fun k e => Nat.le_trans hs3 (ho2.row k e))
                have hf8 := (hf2.alloc (.cells #[.string x, .string t.name, .bool true] 136)).kept g8 (fun e => by have := ho2.row _ e.symm; omega)
                have hcn8 := g8.cell (((brefl.al (.cells #[.string x, .string t.name, .bool true] 136) : Below wr.heap.size wr _).cell (p := ⟨wb.heap.size, 0, none⟩) hsz2).trans hcn) (fun e => hg2 wb.heap.size e.symm rfl)
                have hg8 : ∀ g, (Value.slice A8 (m2 + 1) c8).ownBlock = some g → g ≠ wb.heap.size := fun g hg => by
                  rcases e8 with e8 | e8
                  · exact hg2 g (by rw [← e8]; exact hg)
                  · rw [e8] at hg
                    injection hg with hg
                    rw [← hg, World.size_alloc]; omega
                have hsz8 : wb.heap.size < w8.heap.size := Nat.lt_of_lt_of_le hsz2 (Nat.le_trans (by simp) g8.size)
                go_roundw
                case rel => exact ⟨j + 1, m2 + 1, c8, A8, by omega, by go_num, rfl, n8, by omega, by rw [hms.out, ← List.append_assoc]; exact snoc_refs (r := ⟨x, t.name, true⟩) o8, hcn8, hg8, hsz8, (by
                  rw [hms.out, ← List.append_assoc]
                  intro q hq
                  rcases List.mem_append.1 hq with hq | hq
                  · exact hszr q hq
                  · simp at hq; subst hq; exact ⟨hxs, hnm⟩), hf8, hb8⟩
                case measure => simp [intOf]; omega
            · have hjn : j = nm := by omega
              have hbt := Lib.hid (hall.out j (by rw [hbr.1]; omega))
              rw [hbt.out] at ho2 hszr
              go_wp2
              go_roundw
              case rel => exact ⟨k + 1, m2, c2, A2, by omega, by go_num, rfl, hc2, by omega, by rw [hsn.out]; exact ho2, by rw [hsn.out]; exact hszr, hf2, hb2⟩
              case measure => simp [intOf]; omega
      · have hkn : k = n := by omega
        have htk := Lib.hid (take_all hlen hk hlt)
        rw [htk.out] at ho hsz
        go_wp2_with (go_at_call 68; refine (sortN_any (by omega) ho hsz hnd.out).mono ?_; rintro e w5 ⟨A5, k5, c5, rs, rfl, hc5, hk5, hr5, hi5, hb5⟩)
        go_ret
        exact ⟨A5, k5, c5, rs, rfl, hc5, by omega, hr5, hio.out rs hi5, hbl.tr hb5⟩
  · have hno : IsOf (terms ms) heads [] := by unfold IsOf; rw [if_neg h0]
    generalize (vvalid (terms ms)).2 = v at h0 hv
    generalize ((vvalid (terms ms)).1 : Int) = u at hv
    go_enter Tryz.func60, Tryz.ntmps60
    go_wp2_with (go_at_call 12; refine hv.mono ?_; rintro e w2 ⟨rfl, hb2⟩)
    go_ret
    exact ⟨none, 0, 0, [], rfl, Nat.le_refl _, by omega, Refs.nil _, hno, hb2⟩
end Go.Proofs.YtdfnfimajhagfaaGreatDoor
