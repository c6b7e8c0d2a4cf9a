/- Walk of package vocabulary: flaw, which ranges over a function twice. -/
import Derived.Test.YtdfnfimajhagfaaGreatDoorV7
import Derived.Test.YtdfnfimajhagfaaGreatDoorPlan
namespace Go.Proofs.YtdfnfimajhagfaaGreatDoor
open Go.RowKit Go.Maps Go.Shelf Rf
attribute [local go_sem] Oper.semAt_some
theorem results_cell1 {fn : Func} {t : Tmp} {ty : TypeId} {P : Program} (h : fn.results = #[.cell t ty]) (tmps : Array Value) (w : World) {b : Nat} {v : Value} (ht : tmps.getD t undef = .pointer (some ⟨b, 0, none⟩))
    (ha : ∀ w, (isAgg ty).run P w = .ok false w) (hc : w.cell? ⟨b, 0, none⟩ = some v) : (results fn tmps).run P w = .ok v w := by
  have ht2 : tmps[t]?.getD undef = .pointer (some ⟨b, 0, none⟩) := by simpa using ht
  simp [results, h, ht2, loadVar, ha, hc, go_sem]
/-- how a function whose result lies in a cell leaves, with no mark, with one, with two -/
theorem leave0 {k : Nat} {P : Program} {fn : Func} {R : Ending → World → Prop} {t : Tmp} {ty : TypeId} (h : fn.results = #[.cell t ty]) (ha : ∀ w, (isAgg ty).run P w = .ok false w) {tmps : Array Value} {w : World} {b : Nat} {v : Value}
    (ht : tmps.getD t undef = .pointer (some ⟨b, 0, none⟩)) (hc : w.cell? ⟨b, 0, none⟩ = some v) (hR : R (.returned v) w) : bodyPostM Fence.wide k P fn R .ret { tmps, defers := [] } w :=
  ⟨v, results_cell1 h tmps w ht ha hc, hR⟩
theorem put_cell {w : World} {D b : Nat} {o : Obj} {v : Value} (hK : w.heap[D]? = some (.deferred (some []))) (hc : w.cell? ⟨b, 0, none⟩ = some v) : (w.putObj D o).cell? ⟨b, 0, none⟩ = some v := by
  by_cases e : b = D
  · subst e
    have : w.cell? ⟨b, 0, none⟩ = none := by simp [World.cell?, hK]
    rw [this] at hc; cases hc
  · rw [← hc]
    exact World.cell?_of_block (World.putObj_heap_other e)
theorem leave1 {k : Nat} {P : Program} {fn : Func} {R : Ending → World → Prop} {t : Tmp} {ty : TypeId} (h : fn.results = #[.cell t ty]) (ha : ∀ w, (isAgg ty).run P w = .ok false w) {tmps : Array Value} {w : World} {b D : Nat} {v : Value}
    (ht : tmps.getD t undef = .pointer (some ⟨b, 0, none⟩)) (hc : w.cell? ⟨b, 0, none⟩ = some v) (hK : w.heap[D]? = some (.deferred (some []))) (hR : R (.returned v) (w.putObj D (.deferred none))) :
    bodyPostM Fence.wide k P fn R .ret { tmps, defers := [{ target := .collected D, args := #[] }] } w :=
  ⟨by simp, .inl ⟨_, _, rfl, run_takeDeferred hK, v, results_cell1 h tmps _ ht ha (put_cell hK hc), hR⟩⟩
theorem leave2 {k : Nat} {P : Program} {fn : Func} {R : Ending → World → Prop} {t : Tmp} {ty : TypeId} (h : fn.results = #[.cell t ty]) (ha : ∀ w, (isAgg ty).run P w = .ok false w) {tmps : Array Value} {w : World} {b D E : Nat} {v : Value}
    (ht : tmps.getD t undef = .pointer (some ⟨b, 0, none⟩)) (hc : w.cell? ⟨b, 0, none⟩ = some v) (hK : w.heap[D]? = some (.deferred (some []))) (hE : w.heap[E]? = some (.deferred (some []))) (hne : D ≠ E)
    (hR : R (.returned v) ((w.putObj E (.deferred none)).putObj D (.deferred none))) :
    bodyPostM Fence.wide k P fn R .ret { tmps, defers := [{ target := .collected E, args := #[] }, { target := .collected D, args := #[] }] } w := by
  have hK2 : (w.putObj E (.deferred none)).heap[D]? = some (.deferred (some [])) := (World.putObj_heap_other hne).trans hK
  exact ⟨by simp, .inl ⟨_, _, rfl, run_takeDeferred hE, by simp, .inl ⟨_, _, rfl, run_takeDeferred hK2, v, results_cell1 h tmps _ ht ha (put_cell hK2 (put_cell hE hc)), hR⟩⟩⟩
def prevT (l : List Term) (i : Nat) : Option Term := if i = 0 then none else l[i - 1]?
/-- what flaw has laid: the list, its result, the term -/
structure FS (w : World) (A : Option Addr) (n c : Nat) (m : TM) (v : Int) (z : World) : Prop where
  cl : z.cell? ⟨w.heap.size, 0, none⟩ = some (.slice A n c)
  cr : z.cell? ⟨w.heap.size + 1, 0, none⟩ = some (.int .i64 v)
  fr : z.frozen? ⟨w.heap.size + 1, 0, none⟩ = false
  t0 : z.cell? ⟨w.heap.size + 1 + 1, 0, none⟩ = some (.string m.t.name)
  t1 : z.cell? ⟨w.heap.size + 1 + 1, 1, none⟩ = some (.int .i64 m.t.kind)
  t2 : z.cell? ⟨w.heap.size + 1 + 1, 2, none⟩ = some (.int .i64 m.t.lang)
  t3 : z.cell? ⟨w.heap.size + 1 + 1, 3, none⟩ = some (.string m.t.see)
  t4 : z.cell? ⟨w.heap.size + 1 + 1, 4, none⟩ = some (.slice m.A m.n m.c)
  bel : Below w.heap.size w z
  big : w.heap.size + 1 + 1 < z.heap.size
section
variable {w : World} {A : Option Addr} {n c : Nat} {m : TM} {v : Int} {z z' : World}
theorem FS.start (w : World) (A : Option Addr) (n c : Nat) (m : TM) : FS w A n c m 0 (((w.alloc (.cells #[.slice A n c] 28)).alloc (.cells #[.int .i64 0] 25)).alloc
    (.cells #[.string m.t.name, .int .i64 m.t.kind, .int .i64 m.t.lang, .string m.t.see, .slice m.A m.n m.c] 33)) := by
  have hb := box_tm (w := (w.alloc (.cells #[.slice A n c] 28)).alloc (.cells #[.int .i64 0] 25)) (v1 := .string m.t.name) (v2 := .int .i64 m.t.kind) (v3 := .int .i64 m.t.lang) (v4 := .string m.t.see) (v5 := .slice m.A m.n m.c) (t := 33) brefl
  simp only [World.size_alloc] at hb
  obtain ⟨h0, h1, h2, h3, h4⟩ := hb
  have hr := new_cell (w.alloc (.cells #[.slice A n c] 28)) (.int .i64 0) 25 (b := w.heap.size + 1) (by simp) (brefl.al (.cells #[.string m.t.name, .int .i64 m.t.kind, .int .i64 m.t.lang, .string m.t.see, .slice m.A m.n m.c] 33))
  exact ⟨(new_cell w _ _ rfl ((brefl.al _).al _)).1, hr.1, hr.2, h0, h1, h2, h3, h4, ((brefl.al _).al _).al _, by simp⟩
theorem FS.grown (h : FS w A n c m v z) {row : Option Nat} (hg : z.grownBy z' row) (hr : ∀ k, row = some k → w.heap.size + 1 + 1 < k) : FS w A n c m v z' := by
  have ne : ∀ b, b ≤ w.heap.size + 1 + 1 → some b ≠ row := fun b hb e => by have := hr b e.symm; omega
  have hbig := h.big
  have n0 := ne w.heap.size (by omega)
  have n1 := ne (w.heap.size + 1) (by omega)
  have n2 := ne (w.heap.size + 1 + 1) (by omega)
  exact ⟨hg.cell h.cl n0, hg.cell h.cr n1, (World.frozen?_of_block (hg.block _ (by show w.heap.size + 1 < _; omega) n1)).trans h.fr, hg.cell h.t0 n2, hg.cell h.t1 n2, hg.cell h.t2 n2, hg.cell h.t3 n2, hg.cell h.t4 n2,
    h.bel.gr hg (fun k e => by have := hr k e; omega), Nat.lt_of_lt_of_le h.big hg.size⟩
theorem FS.below (h : FS w A n c m v z) (hb : Below z.heap.size z z') : FS w A n c m v z' :=
  h.grown (row := none) ⟨hb.os, hb.tape, hb.output, hb.size, fun k hk _ => hb.block k hk⟩ (by simp)
theorem FS.alloc (h : FS w A n c m v z) (o : Obj) : FS w A n c m v (z.alloc o) := h.below (brefl.al o)
theorem FS.drew (h : FS w A n c m v z) : FS w A n c m v z.drew := h.below (brefl.drn 1)
theorem FS.store (h : FS w A n c m v z) (u : Int) : FS w A n c m u (z.setCell ⟨w.heap.size + 1, 0, none⟩ (.int .i64 u)) := by
  have ot : ∀ {b j : Nat}, b ≠ w.heap.size + 1 → (z.setCell ⟨w.heap.size + 1, 0, none⟩ (.int .i64 u)).cell? ⟨b, j, none⟩ = z.cell? ⟨b, j, none⟩ := fun {b j} hne => by
    have hq : (⟨w.heap.size + 1, 0, none⟩ : Addr) ≠ ⟨b, j, none⟩ := fun e => by injection e with e1; exact hne e1.symm
    exact World.cell?_setCell_other _ _ _ _ hq
  exact ⟨(ot (by omega)).trans h.cl, World.cell?_setCell_same _ _ _ h.cr, by rw [World.frozen?_setCell]; exact h.fr, (ot (by omega)).trans h.t0, (ot (by omega)).trans h.t1, (ot (by omega)).trans h.t2, (ot (by omega)).trans h.t3, (ot (by omega)).trans h.t4,
    h.bel.st (by show w.heap.size ≤ w.heap.size + 1; omega) _, by have := h.big; simpa using this⟩
theorem FS.from {B : Nat} (hB : w.heap.size + 1 + 1 < B) {β : Type} : OwnFrom B (fun (_ : β) z => FS w A n c m v z) := fun _ _ _ _ h hg hr => h.grown hg (fun k e => Nat.lt_of_lt_of_le hB (hr k e).1)
end
theorem keeps_below {B : Nat} {W W' : World} (hb : Below W.heap.size W W') : KeepsFrom B W W' := ⟨hb.size, fun k _ _ hk _ => (hb.block k (Array.getElem?_eq_some_iff.1 hk).1).trans hk⟩
theorem keeps_store (B : Nat) (W : World) (a : Addr) (v : Value) : KeepsFrom B W (W.setCell a v) := (KeepsOthers.setCell W a v).from B
theorem range_T {P : Program} {g : Operand} {ps : Array Tmp} {assign body : Code} {Q : Exit → Act → World → Prop} {tmps : Array Value} {ds : List Deferred} {w : World}
    (h : ∀ T, T = tmps → (Code.rangeFunc g ps assign body).wp P Q { tmps := T, defers := ds } w) : (Code.rangeFunc g ps assign body).wp P Q { tmps := tmps, defers := ds } w := h _ rfl
theorem late_some (q t : Term) : late (some q) t = !ltS q.name t.name := rfl
theorem errno_agg : ∀ w, (isAgg 25).run Tryz.prog w = .ok false w := Tryz.isAgg25
/-! ### what flaw says -/
section
variable {l : List Term} {p : Option Term} {t : Term}
theorem fl_arg (h : possible t = false) : Rf.flaw l p t = 1 := by unfold Rf.flaw; rw [if_pos h]; rfl
theorem fl_twice (h : possible t = true) (h2 : late p t = true) : Rf.flaw l p t = 7 := by unfold Rf.flaw; rw [if_neg (by rw [h]; simp), if_pos h2]; rfl
theorem fl_none (h : possible t = true) (h2 : late p t = false) {x : S} (hx : x ∈ leads t) (hn : findT l x = none) : Rf.flaw l p t = 6 := by
  unfold Rf.flaw; rw [if_neg (by rw [h]; simp), if_neg (by rw [h2]; simp), if_pos (List.any_eq_true.2 ⟨x, hx, by rw [hn]; rfl⟩)]; rfl
theorem fl_found {f : ∀ x ∈ leads t, ∃ u, findT l x = some u} : ¬ ((leads t).any fun n => (findT l n).isNone) = true := by
  rw [List.any_eq_true]
  rintro ⟨x, hx, hn⟩
  obtain ⟨u, hu⟩ := f x hx
  rw [hu] at hn; cases hn
theorem fl_type (h : possible t = true) (h2 : late p t = false) (f : ∀ x ∈ leads t, ∃ u, findT l x = some u) {x : S} (hx : x ∈ leads t) (hn : second l x = true) : Rf.flaw l p t = 12 := by
  unfold Rf.flaw; rw [if_neg (by rw [h]; simp), if_neg (by rw [h2]; simp), if_neg (fl_found (f := f)), if_pos (List.any_eq_true.2 ⟨x, hx, hn⟩)]; rfl
theorem fl_last (h : possible t = true) (h2 : late p t = false) (f : ∀ x ∈ leads t, ∃ u, findT l x = some u) (g : ∀ x ∈ leads t, second l x = false) : Rf.flaw l p t = if has (ups (brd l) t.name) t.name = true then 13 else 0 := by
  unfold Rf.flaw; rw [if_neg (by rw [h]; simp), if_neg (by rw [h2]; simp), if_neg (fl_found (f := f)), if_neg]
  · rfl
  · rw [List.any_eq_true]
    rintro ⟨x, hx, hn⟩
    rw [g x hx] at hn; cases hn
end
theorem prefix_mem {x : S} {pre l : List S} (h : pre <+: l) (hx : x ∈ pre) : x ∈ l := h.subset hx
theorem containsS_has (x : S) (l : List S) : Lib.containsS l x = Rf.has l x := by
  rw [Bool.eq_iff_iff, Lib.containsS_iff, has_iff]
theorem set_heap (w : World) (b D : Nat) (v : Value) (h : b ≠ D) : (w.setCell ⟨b, 0, none⟩ v).heap[D]? = w.heap[D]? := Below.heap_setCell _ _ _ _ (fun e => h e.symm)
theorem containsS_any (A : Option Addr) (n c : Nat) (l : List S) (x : S) (w : World) (hn : n ≤ 1000000) (hl : Strs w A n l) :
    Calls Tryz.prog 95 #[.slice A n c, .string x] w fun e w' => e = .returned (.bool (Rf.has l x)) ∧ w' = w := by
  rcases Nat.eq_zero_or_pos n with h0 | h0
  · subst h0
    obtain rfl : l = [] := List.eq_nil_of_length_eq_zero hl.1
    exact Tryz.slices_Contains_string_empty A c x w
  · obtain ⟨b, off, _, ha, _⟩ := hl.at_ h0
    subst ha
    have := Tryz.slices_Contains_string b off n c l x w (by rw [hl.1]; exact Nat.le_refl _) (by omega) (fun j hj => by
      obtain ⟨b2, off2, s, h1, h2, _, _, h3⟩ := hl.at_ (k := j) (by rw [← hl.1]; exact hj)
      cases h1
      rw [h3, List.getD, h2]; rfl)
    rw [List.take_of_length_le (by rw [hl.1]; exact Nat.le_refl _), containsS_has] at this
    exact this
set_option maxRecDepth 100000 in
set_option maxHeartbeats 8000000 in
theorem flaw_any (A : Option Addr) (n c i : Nat) (ms : List TM) (m : TM) (w : World) (hm : n ≤ 128) (hr : Rdy w) (hl : Tms w A n ms) (hi : ms[i]? = some m) :
    Calls Tryz.prog 71 #[.slice A n c, .int .i64 i] w fun e w' => e = .returned (.int .i64 (Rf.flaw (terms ms) (prevT (terms ms) i) m.t)) ∧ Below w.heap.size w w' := by
  have hin : i < n := by rw [← hl.1]; exact (List.getElem?_eq_some_iff.1 hi).1
  obtain ⟨b, off, m', rfl, hx, hok, hb0, d1, d2, d3, d4, d5⟩ := hl.at_ hin
  obtain rfl : m' = m := by rw [hi] at hx; injection hx with hx; exact hx.symm
  have F0 := FS.start w (some ⟨b, off, none⟩) n c m'
  have hr3 := hr.below F0.bel
  have hok3 := hok.below F0.bel
  refine (callsIn_wide (n := 6)).1 ?_
  refine callsIn_of_wp_marks Tryz.func71 rfl trivial ?_
  refine wpIn_wide.2 ?_
  simp only [Tryz.ntmps71, List.size_toArray, List.length_cons, List.length_nil, Nat.reduceAdd, Nat.reduceSub, Array.replicate_succ, Array.replicate_zero, List.push_toArray, List.append_toArray, List.nil_append, List.cons_append]
  obtain ⟨fv, hfv⟩ : ∃ fv, Rf.flaw (terms ms) (prevT (terms ms) i) m'.t = fv := ⟨_, rfl⟩
  rw [hfv]
  cases hp : possible m'.t
  · obtain rfl : 1 = fv := by rw [← hfv, fl_arg hp]
    clear hfv
    go_wp2_with (go_at_call 126; refine (vposs_any m' _ hr3 hok3).mono ?_; rintro e w2 ⟨rfl, hb2⟩; rw [hp]; have F2 := F0.below hb2; have k1 := F2.cr; have k2 := F2.fr)
    have F3 := F2.store 1
    exact leave0 rfl errno_agg rfl F3.cr ⟨rfl, F3.bel⟩
  · have ARM : True := trivial
    by_cases hi0 : i = 0
    · have h0 : ¬ (0 : Int) < i := by omega
      have h0n : ¬ 0 < i := by omega
      have h0b : decide (0 < i) = false := by simpa using h0n
      have hpv : late (prevT (terms ms) i) m'.t = false := by unfold prevT; rw [if_pos hi0]; rfl
      clear hi0
      go_wp2_with (go_at_call 126; refine (vposs_any m' _ hr3 hok3).mono ?_; rintro e w2 ⟨rfl, hb2⟩; rw [hp]; have F2 := F0.below hb2; clear F0 hb2 hr3 hok3 d1 d2 d3 d4 d5)
      have F3 := F2.drew
      have hS : True := trivial
      refine wp_region_mix [(true, 0), (true, 1), (true, 2), (true, 3), (true, 4), (true, 5), (true, 6), (true, 7), (true, 8), (true, 9), (true, 10), (true, 11), (true, 12)] 13 (fun _ => True) (by kernel_rfl) (by kernel_rfl) ?_
      clear F2; generalize w2.drew = w3 at F3 ⊢
      refine wpMix_put (v := ?_) rfl rfl (Or.inl ⟨by rfl, fun wz hz => ?_⟩) hS ?_
      rotate_left
      (focus (go_simp; try (with_reducible rfl)))
      simp only [List.setIfInBounds_toArray, List.set_cons_succ, List.set_cons_zero]
      refine wpMix_put (v := ?_) rfl rfl (Or.inl ⟨by rfl, fun wz hz => ?_⟩) hS ?_
      rotate_left
      (focus (go_simp; try (with_reducible rfl)))
      simp only [List.setIfInBounds_toArray, List.set_cons_succ, List.set_cons_zero]
      refine wpMix_put (v := ?_) rfl rfl (Or.inl ⟨by rfl, fun wz hz => ?_⟩) hS ?_
      rotate_left
      (focus (go_simp; try (with_reducible rfl)))
      simp only [List.setIfInBounds_toArray, List.set_cons_succ, List.set_cons_zero]
      refine wpMix_put (v := undef) rfl rfl (Or.inr ⟨by rfl, rfl⟩) hS ?_
      simp only [List.setIfInBounds_toArray, List.set_cons_succ, List.set_cons_zero]
      refine wpMix_put (v := undef) rfl rfl (Or.inr ⟨by rfl, rfl⟩) hS ?_
      simp only [List.setIfInBounds_toArray, List.set_cons_succ, List.set_cons_zero]
      refine wpMix_put (v := undef) rfl rfl (Or.inr ⟨by rfl, rfl⟩) hS ?_
      simp only [List.setIfInBounds_toArray, List.set_cons_succ, List.set_cons_zero]
      refine wpMix_put (v := undef) rfl rfl (Or.inr ⟨by rfl, rfl⟩) hS ?_
      simp only [List.setIfInBounds_toArray, List.set_cons_succ, List.set_cons_zero]
      refine wpMix_put (v := undef) rfl rfl (Or.inr ⟨by rfl, rfl⟩) hS ?_
      simp only [List.setIfInBounds_toArray, List.set_cons_succ, List.set_cons_zero]
      refine wpMix_put (v := undef) rfl rfl (Or.inr ⟨by rfl, rfl⟩) hS ?_
      simp only [List.setIfInBounds_toArray, List.set_cons_succ, List.set_cons_zero]
      refine wpMix_put (v := undef) rfl rfl (Or.inr ⟨by rfl, rfl⟩) hS ?_
      simp only [List.setIfInBounds_toArray, List.set_cons_succ, List.set_cons_zero]
      refine wpMix_put (v := undef) rfl rfl (Or.inr ⟨by rfl, rfl⟩) hS ?_
      simp only [List.setIfInBounds_toArray, List.set_cons_succ, List.set_cons_zero]
      refine wpMix_put (v := undef) rfl rfl (Or.inr ⟨by rfl, rfl⟩) hS ?_
      simp only [List.setIfInBounds_toArray, List.set_cons_succ, List.set_cons_zero]
      refine wpMix_put (v := ?_) rfl rfl (Or.inl ⟨by rfl, fun wz hz => ?_⟩) hS ?_
      rotate_left
      (focus (go_simp; try (with_reducible rfl)))
      simp only [List.setIfInBounds_toArray, List.set_cons_succ, List.set_cons_zero]
      refine wpMix_nil ?_
      clear hS
      have e0 := F3.t0
      have e1 := F3.t1
      have e2 := F3.t2
      have e3 := F3.t3
      have e4 := F3.t4
      go_wp2_with (go_at_call 127; refine (leads_any m' _).mono ?_; rintro e w4 ⟨rfl, rfl⟩)
      clear e0 e1 e2 e3 e4
      have FL := F3.alloc (.cells #[.string m'.t.name, .int .i64 m'.t.kind, .int .i64 m'.t.lang, .string m'.t.see, .slice m'.A m'.n m'.c] 33)
      have hbx := box_tm (w := w3) (v1 := .string m'.t.name) (v2 := .int .i64 m'.t.kind) (v3 := .int .i64 m'.t.lang) (v4 := .string m'.t.see) (v5 := .slice m'.A m'.n m'.c) (t := 33) brefl
      have hsz : w3.heap.size < (w3.alloc (.cells #[.string m'.t.name, .int .i64 m'.t.kind, .int .i64 m'.t.lang, .string m'.t.see, .slice m'.A m'.n m'.c] 33)).heap.size := by simp
      generalize (w3.alloc (.cells #[.string m'.t.name, .int .i64 m'.t.kind, .int .i64 m'.t.lang, .string m'.t.see, .slice m'.A m'.n m'.c] 33)) = wL at FL hbx hsz ⊢
      obtain ⟨_, _, _, h3, h4⟩ := hbx
      refine range_T fun T hT => ?_
      refine (wpIn_wide (n := 6)).1 ?_
      refine wpIn_rangeFunc_ownG_of_H (n := 6) rfl (by omega) (gf := 169) (lb := #[.pointer (some ⟨w3.heap.size, 0, none⟩)]) (by rw [hT]; rfl) trivial (enters_of Tryz.func169 (by kernel_rfl) rfl)
        (leads_stops 5 w3.heap.size (by omega) m'.A m'.n m'.c m'.t (fun _ => True) (fun _ _ => trivial) wL hsz h3 h4 hok.few (hok.br.below FL.bel)) belowK_t (belowK_b (Nat.le_refl _)) (Below.refl _ _) (fun _ => rfl)
        (fun pre W => FS w (some ⟨b, off, none⟩) n c m' 0 W ∧ Below wL.heap.size wL W ∧ ∀ x ∈ pre, ∃ u, findT (terms ms) x.1 = some u)
        (fun cd pre W => cd = .ret ∧ FS w (some ⟨b, off, none⟩) n c m' 6 W ∧ ∃ x ∈ pre, findT (terms ms) x.1 = none)
        (fun pre W W' row ⟨h1, h2, h3⟩ hg hr => ⟨h1.grown hg (fun k e => Nat.lt_of_lt_of_le FL.big (hr k e).1), h2.gr hg (fun k e => (hr k e).1), h3⟩)
        (fun cd pre W W' row ⟨h1, h2, h3⟩ hg hr => ⟨h1, h2.grown hg (fun k e => Nat.lt_of_lt_of_le FL.big (hr k e).1), h3⟩)
        ⟨FL, Below.refl _ _, by simp⟩ (fun x => { tmps := (T.setIfInBounds 30 (.string x.1)).setIfInBounds 6 (.string x.1), defers := [] }) ?assign ?body ?done ?stop (fun W => Below.refl _ _)
      case assign =>
        intro l x W K hK
        subst hT
        simp only [List.setIfInBounds_toArray, List.set_cons_succ, List.set_cons_zero] at hK
        gi_wp2
        exact hK
      case body =>
        rintro l pre x W ⟨hF, hbL, hpre⟩ _
        subst hT
        simp only [List.setIfInBounds_toArray, List.set_cons_succ, List.set_cons_zero]
        have c1 := hF.cl
        rcases findAt_cases (terms ms) x.1 0 with ⟨g1, g2⟩ | ⟨k, t, g1, g2, g3⟩
        · gi_wp2_with (refine ⟨trivial, ?_⟩; gi_at_call 20; refine (CallsIn.inRound l (callsIn_wide.2 (vfind_any _ _ _ ms x.1 _ (by omega) (hl.below hF.bel)))).mono ?_; rintro e W2 ⟨rfl, hb2⟩; rw [g2]; have G := hF.below hb2; have r1 := G.cr; have r2 := G.fr)
          exact ⟨(keeps_below hb2).trans (keeps_store _ _ _ _), rfl, G.store 6, x, by simp, g1⟩
        · gi_wp2_with (refine ⟨trivial, ?_⟩; gi_at_call 20; refine (CallsIn.inRound l (callsIn_wide.2 (vfind_any _ _ _ ms x.1 _ (by omega) (hl.below hF.bel)))).mono ?_; rintro e W2 ⟨rfl, hb2⟩; rw [g2])
          exact ⟨keeps_below hb2, hb2.mono hbL.size, hF.below hb2, hbL.trans (hb2.mono hbL.size), fun y hy => by
            rcases List.mem_append.1 hy with hy | hy
            · exact hpre y hy
            · simp at hy; subst hy; exact ⟨t, g1⟩⟩
      case stop =>
        rintro D cd pre W hD hpre ⟨rfl, hF, x, hx, hn⟩ hK
        subst hT
        obtain rfl : 6 = fv := by rw [← hfv, fl_none hp hpv (x := x.1) (prefix_mem hpre (List.mem_map_of_mem hx)) hn]
        gi_wp2
        exact leave1 rfl errno_agg rfl hF.cr hK ⟨rfl, hF.bel.trans (belowK_b (w := wL) (Nat.le_of_lt (Nat.lt_of_le_of_lt (Nat.le_add_right _ 2) FL.big)) W D _ _ hD hK rfl rfl)⟩
      case done =>
        rintro D xs W hD hxs ⟨hF, hbL, hall⟩ hK
        subst hT
        have hfd : ∀ x ∈ leads m'.t, ∃ u, findT (terms ms) x = some u := fun x hx => by
          rw [← hxs] at hx
          obtain ⟨y, hy, rfl⟩ := List.mem_map.1 hx
          exact hall y hy
        clear hall hxs h3 h4
        have e0 := hF.t0
        have e1 := hF.t1
        have e2 := hF.t2
        have e3 := hF.t3
        have e4 := hF.t4
        go_wp2_with (go_at_call 127; refine (leads_any m' _).mono ?_; rintro e w4 ⟨rfl, rfl⟩)
        clear e0 e1 e2 e3 e4
        have FM := hF.alloc (.cells #[.string m'.t.name, .int .i64 m'.t.kind, .int .i64 m'.t.lang, .string m'.t.see, .slice m'.A m'.n m'.c] 33)
        have hbx := box_tm (w := W) (v1 := .string m'.t.name) (v2 := .int .i64 m'.t.kind) (v3 := .int .i64 m'.t.lang) (v4 := .string m'.t.see) (v5 := .slice m'.A m'.n m'.c) (t := 33) brefl
        have hszM : W.heap.size < (W.alloc (.cells #[.string m'.t.name, .int .i64 m'.t.kind, .int .i64 m'.t.lang, .string m'.t.see, .slice m'.A m'.n m'.c] 33)).heap.size := by simp
        have hDW : D < W.heap.size := (Array.getElem?_eq_some_iff.1 hK).1
        have hKM : (W.alloc (.cells #[.string m'.t.name, .int .i64 m'.t.kind, .int .i64 m'.t.lang, .string m'.t.see, .slice m'.A m'.n m'.c] 33)).heap[D]? = some (.deferred (some [])) := ((brefl.al _ : Below W.heap.size W _).block D hDW).trans hK
        generalize (W.alloc (.cells #[.string m'.t.name, .int .i64 m'.t.kind, .int .i64 m'.t.lang, .string m'.t.see, .slice m'.A m'.n m'.c] 33)) = wM at FM hbx hszM hKM ⊢
        obtain ⟨_, _, _, h3, h4⟩ := hbx
        refine range_T fun T hT => ?_
        refine (wpIn_wide (n := 6)).1 ?_
        refine wpIn_rangeFunc_ownG_of_H (n := 6) rfl (by omega) (gf := 169) (lb := #[.pointer (some ⟨W.heap.size, 0, none⟩)]) (by rw [hT]; rfl) trivial (enters_of Tryz.func169 (by kernel_rfl) rfl)
          (leads_stops 5 W.heap.size (by omega) m'.A m'.n m'.c m'.t (fun x => ∃ u, findT (terms ms) x = some u) hfd wM hszM h3 h4 hok.few (hok.br.below FM.bel)) belowK_t (belowK_b (Nat.le_refl _)) (Below.refl _ _) (fun _ => rfl)
          (fun pre Z => FS w (some ⟨b, off, none⟩) n c m' 0 Z ∧ Below wM.heap.size wM Z ∧ Z.heap[D]? = some (.deferred (some [])) ∧ ∀ x ∈ pre, second (terms ms) x.1 = false)
          (fun cd pre Z => cd = .ret ∧ FS w (some ⟨b, off, none⟩) n c m' 12 Z ∧ Z.heap[D]? = some (.deferred (some [])) ∧ ∃ x ∈ pre, second (terms ms) x.1 = true)
          (fun pre Z Z' row ⟨h1, h2, h3, h4⟩ hg hr => ⟨h1.grown hg (fun k e => Nat.lt_of_lt_of_le FM.big (hr k e).1), h2.gr hg (fun k e => (hr k e).1), (hg.block D (Array.getElem?_eq_some_iff.1 h3).1 (fun e => by have := (hr D e.symm).1; omega)).trans h3, h4⟩)
          (fun cd pre Z Z' row ⟨h1, h2, h3, h4⟩ hg hr => ⟨h1, h2.grown hg (fun k e => Nat.lt_of_lt_of_le FM.big (hr k e).1), (hg.block D (Array.getElem?_eq_some_iff.1 h3).1 (fun e => by have := (hr D e.symm).1; omega)).trans h3, h4⟩)
          ⟨FM, Below.refl _ _, hKM, by simp⟩ (fun x => { tmps := (T.setIfInBounds 37 (.string x.1)).setIfInBounds 7 (.string x.1), defers := [] }) ?assign2 ?body2 ?done2 ?stop2 (fun W => Below.refl _ _)
        case assign2 =>
          intro l x W K hK
          subst hT
          simp only [List.setIfInBounds_toArray, List.set_cons_succ, List.set_cons_zero] at hK
          gi_wp2
          exact hK
        case body2 =>
          rintro l pre ⟨x, u, hu⟩ Z ⟨hG, hbM, hKZ, hpre⟩ _
          subst hT
          simp only [List.setIfInBounds_toArray, List.set_cons_succ, List.set_cons_zero]
          rcases findAt_cases (terms ms) x 0 with ⟨g1, g2⟩ | ⟨k, t, g1, g2, g3⟩
          · rw [hu] at g1; cases g1
          · rw [Nat.zero_add] at g2
            have hkn : k < n := by have := (List.getElem?_eq_some_iff.1 g3).1; rw [terms_length hl] at this; exact this
            obtain ⟨b', off', mk, hA', hmk, _, _, _, _, _, y3, _⟩ := hl.at_ hkn
            injection hA' with hA'
            injection hA' with hA1 hA2
            subst hA1; subst hA2
            have htk : mk.t = t := by have := terms_get hmk; rw [g3] at this; injection this with this; exact this.symm
            rw [htk] at y3
            have hsd : second (terms ms) x = !t.see.data.isEmpty := by unfold second; rw [g1]
            clear hmk htk
            have hGd := hG.drew
            have hS : Z.drew.cell? ⟨w.heap.size, 0, none⟩ = some (.slice (some ⟨b, off, none⟩) n c) ∧ Z.drew.cell? ⟨b, off + k * 5 + 3, none⟩ = some (.string t.see) := ⟨hGd.cl, (hGd.bel.cell (p := ⟨b, off + k * 5 + 3, none⟩) hb0).trans y3⟩
            have hbd : Below Z.heap.size Z Z.drew := brefl.drn 1
            gi_wp2_with fail
            cases hse : t.see.data.isEmpty
            · have u0 := not_empty hse
              have u2 := (empty_data t.see).trans hse
              refine wpIn_region_mix [(true, 0), (true, 1), (true, 2), (false, 3), (true, 4), (true, 5), (true, 6), (true, 7)] 8 (fun wz => wz.cell? ⟨w.heap.size, 0, none⟩ = some (.slice (some ⟨b, off, none⟩) n c) ∧ wz.cell? ⟨b, off + k * 5 + 3, none⟩ = some (.string t.see)) (by kernel_rfl) (by kernel_rfl) (by kernel_rfl) ?_
              generalize Z.drew = Zd at hGd hS hbd ⊢
              refine wpMix_put (v := ?_) rfl rfl (Or.inl ⟨by rfl, fun wz hz => ?_⟩) hS ?_
              rotate_left
              (focus (go_simp; try (with_reducible rfl)))
              simp only [List.setIfInBounds_toArray, List.set_cons_succ, List.set_cons_zero]
              refine wpMix_put (v := ?_) rfl rfl (Or.inl ⟨by rfl, fun wz hz => ?_⟩) hS ?_
              rotate_left
              (focus (go_simp; try (with_reducible rfl)))
              simp only [List.setIfInBounds_toArray, List.set_cons_succ, List.set_cons_zero]
              refine wpMix_put (v := ?_) rfl rfl (Or.inl ⟨by rfl, fun wz hz => ?_⟩) hS ?_
              rotate_left
              (focus (go_simp; try (with_reducible rfl)))
              simp only [List.setIfInBounds_toArray, List.set_cons_succ, List.set_cons_zero]
              refine wpMix_step rfl (fun K hK => ?_)
              go_simp
              refine (vfind_any _ _ _ ms x _ (by omega) (hl.below hGd.bel)).mono ?_
              rintro e W2 ⟨rfl, hb2⟩
              rw [g2]
              go_simp
              have hS7 := And.intro ((hb2.cell (p := ⟨w.heap.size, 0, none⟩) (by have := hGd.big; show w.heap.size < _; omega)).trans hS.1) ((hb2.cell (p := ⟨b, off + k * 5 + 3, none⟩) (Nat.lt_of_lt_of_le hb0 hGd.bel.size)).trans hS.2)
              refine hK _ _ (fun _ => hS7) ?_
              clear hK K hS
              have hS := hS7
              clear hS7
              refine wpMix_put (v := ?_) rfl rfl (Or.inl ⟨by rfl, fun wz hz => ?_⟩) hS ?_
              rotate_left
              (focus (go_simp; try (with_reducible rfl)))
              simp only [List.setIfInBounds_toArray, List.set_cons_succ, List.set_cons_zero]
              refine wpMix_put (v := ?_) rfl rfl (Or.inl ⟨by rfl, fun wz hz => ?_⟩) hS ?_
              rotate_left
              (focus (go_simp; try (with_reducible rfl)))
              simp only [List.setIfInBounds_toArray, List.set_cons_succ, List.set_cons_zero]
              refine wpMix_put (v := ?_) rfl rfl (Or.inl ⟨by rfl, fun wz hz => ?_⟩) hS ?_
              rotate_left
              (focus (go_simp; try (with_reducible rfl)))
              simp only [List.setIfInBounds_toArray, List.set_cons_succ, List.set_cons_zero]
              refine wpMix_put (v := ?_) rfl rfl (Or.inl ⟨by rfl, fun wz hz => ?_⟩) hS ?_
              rotate_left
              (focus (go_simp; try (with_reducible rfl)))
              simp only [List.setIfInBounds_toArray, List.set_cons_succ, List.set_cons_zero]
              refine wpMix_nil ?_
              have G := hGd.below hb2
              have r1 := G.cr
              have r2 := G.fr
              gi_wp2
              exact ⟨(keeps_below (hbd.tr hb2)).trans (keeps_store _ _ _ _), rfl, G.store 12, ((brefl.tr (hbd.tr hb2)).block D (Array.getElem?_eq_some_iff.1 hKZ).1 |> fun e => (show (W2.setCell ⟨w.heap.size + 1, 0, none⟩ (.int .i64 12)).heap[D]? = _ from (set_heap _ _ D _ (by have := FL.big; omega)).trans (e.trans hKZ))), ⟨x, u, hu⟩, by simp, by rw [hsd, hse]; rfl⟩
            · have u1 := is_empty hse
              rw [u1] at hS
              refine wpIn_region_mix [(true, 0), (true, 1), (true, 2), (false, 3), (true, 4), (true, 5), (true, 6), (true, 7)] 8 (fun wz => wz.cell? ⟨w.heap.size, 0, none⟩ = some (.slice (some ⟨b, off, none⟩) n c) ∧ wz.cell? ⟨b, off + k * 5 + 3, none⟩ = some (.string ⟨#[]⟩)) (by kernel_rfl) (by kernel_rfl) (by kernel_rfl) ?_
              generalize Z.drew = Zd at hGd hS hbd ⊢
              refine wpMix_put (v := ?_) rfl rfl (Or.inl ⟨by rfl, fun wz hz => ?_⟩) hS ?_
              rotate_left
              (focus (go_simp; try (with_reducible rfl)))
              simp only [List.setIfInBounds_toArray, List.set_cons_succ, List.set_cons_zero]
              refine wpMix_put (v := ?_) rfl rfl (Or.inl ⟨by rfl, fun wz hz => ?_⟩) hS ?_
              rotate_left
              (focus (go_simp; try (with_reducible rfl)))
              simp only [List.setIfInBounds_toArray, List.set_cons_succ, List.set_cons_zero]
              refine wpMix_put (v := ?_) rfl rfl (Or.inl ⟨by rfl, fun wz hz => ?_⟩) hS ?_
              rotate_left
              (focus (go_simp; try (with_reducible rfl)))
              simp only [List.setIfInBounds_toArray, List.set_cons_succ, List.set_cons_zero]
              refine wpMix_step rfl (fun K hK => ?_)
              go_simp
              refine (vfind_any _ _ _ ms x _ (by omega) (hl.below hGd.bel)).mono ?_
              rintro e W2 ⟨rfl, hb2⟩
              rw [g2]
              go_simp
              have hS7 := And.intro ((hb2.cell (p := ⟨w.heap.size, 0, none⟩) (by have := hGd.big; show w.heap.size < _; omega)).trans hS.1) ((hb2.cell (p := ⟨b, off + k * 5 + 3, none⟩) (Nat.lt_of_lt_of_le hb0 hGd.bel.size)).trans hS.2)
              refine hK _ _ (fun _ => hS7) ?_
              clear hK K hS
              have hS := hS7
              clear hS7
              refine wpMix_put (v := ?_) rfl rfl (Or.inl ⟨by rfl, fun wz hz => ?_⟩) hS ?_
              rotate_left
              (focus (go_simp; try (with_reducible rfl)))
              simp only [List.setIfInBounds_toArray, List.set_cons_succ, List.set_cons_zero]
              refine wpMix_put (v := ?_) rfl rfl (Or.inl ⟨by rfl, fun wz hz => ?_⟩) hS ?_
              rotate_left
              (focus (go_simp; try (with_reducible rfl)))
              simp only [List.setIfInBounds_toArray, List.set_cons_succ, List.set_cons_zero]
              refine wpMix_put (v := ?_) rfl rfl (Or.inl ⟨by rfl, fun wz hz => ?_⟩) hS ?_
              rotate_left
              (focus (go_simp; try (with_reducible rfl)))
              simp only [List.setIfInBounds_toArray, List.set_cons_succ, List.set_cons_zero]
              refine wpMix_put (v := ?_) rfl rfl (Or.inl ⟨by rfl, fun wz hz => ?_⟩) hS ?_
              rotate_left
              (focus (go_simp; try (with_reducible rfl)))
              simp only [List.setIfInBounds_toArray, List.set_cons_succ, List.set_cons_zero]
              refine wpMix_nil ?_
              gi_wp2
              exact ⟨keeps_below (hbd.tr hb2), (hbd.tr hb2).mono hbM.size, hGd.below hb2, hbM.trans ((hbd.tr hb2).mono hbM.size), ((hbd.tr hb2).block D (Array.getElem?_eq_some_iff.1 hKZ).1).trans hKZ, fun y hy => by
                rcases List.mem_append.1 hy with hy | hy
                · exact hpre y hy
                · simp at hy; subst hy; rw [hsd, hse]; rfl⟩
        case stop2 =>
          rintro E cd pre Z hE hpre ⟨rfl, hG, hKZ, x, hx, hn⟩ hKE
          subst hT
          obtain rfl : 12 = fv := by rw [← hfv, fl_type hp hpv hfd (x := x.1) (prefix_mem hpre (List.mem_map_of_mem hx)) hn]
          gi_wp2
          have hb1 := belowK_b (w := wM) (n₀ := w.heap.size) (Nat.le_of_lt (Nat.lt_of_le_of_lt (Nat.le_add_right _ 2) FM.big)) Z E _ (Obj.deferred none) hE hKE rfl rfl
          have hKE2 : (Z.putObj E (.deferred none)).heap[D]? = some (.deferred (some [])) := (World.putObj_heap_other (by omega)).trans hKZ
          exact leave2 rfl errno_agg rfl hG.cr hKZ hKE (by omega) ⟨rfl, (hG.bel.trans hb1).trans (belowK_b (w := wL) (Nat.le_of_lt (Nat.lt_of_le_of_lt (Nat.le_add_right _ 2) FL.big)) _ D _ _ hD hKE2 rfl rfl)⟩
        case done2 =>
          rintro E xs Z hE hxs ⟨hG, hbM, hKZ, hall⟩ hKE
          subst hT
          have hsc : ∀ x ∈ leads m'.t, second (terms ms) x = false := fun x hx => by
            rw [← hxs] at hx
            obtain ⟨y, hy, rfl⟩ := List.mem_map.1 hx
            exact hall y hy
          clear hall hxs h3 h4
          cases hhv : Rf.has (ups (brd (terms ms)) m'.t.name) m'.t.name
          · skip
            have hfl : Rf.flaw (terms ms) (prevT (terms ms) i) m'.t = 0 := by rw [fl_last hp hpv hfd hsc, hhv]; rfl
            obtain rfl : 0 = fv := by rw [← hfv, hfl]
            go_wp2_with fail
            have hGd := hG.drew
            have hS : Z.drew.cell? ⟨w.heap.size, 0, none⟩ = some (.slice (some ⟨b, off, none⟩) n c) ∧ Z.drew.cell? ⟨w.heap.size + 1 + 1, 0, none⟩ = some (.string m'.t.name) := ⟨hGd.cl, hGd.t0⟩
            have hbd : Below Z.heap.size Z Z.drew := brefl.drn 1
            refine wp_region_mix [(true, 0), (true, 1), (true, 2), (true, 4), (true, 5), (false, 3), (false, 6)] 7 (fun wz => wz.cell? ⟨w.heap.size, 0, none⟩ = some (.slice (some ⟨b, off, none⟩) n c) ∧ wz.cell? ⟨w.heap.size + 1 + 1, 0, none⟩ = some (.string m'.t.name)) (by kernel_rfl) (by kernel_rfl) ?_
            generalize Z.drew = Zd at hGd hS hbd ⊢
            refine wpMix_put (v := ?_) rfl rfl (Or.inl ⟨by rfl, fun wz hz => ?_⟩) hS ?_
            rotate_left
            (focus (go_simp; try (with_reducible rfl)))
            simp only [List.setIfInBounds_toArray, List.set_cons_succ, List.set_cons_zero]
            refine wpMix_put (v := ?_) rfl rfl (Or.inl ⟨by rfl, fun wz hz => ?_⟩) hS ?_
            rotate_left
            (focus (go_simp; try (with_reducible rfl)))
            simp only [List.setIfInBounds_toArray, List.set_cons_succ, List.set_cons_zero]
            refine wpMix_put (v := ?_) rfl rfl (Or.inl ⟨by rfl, fun wz hz => ?_⟩) hS ?_
            rotate_left
            (focus (go_simp; try (with_reducible rfl)))
            simp only [List.setIfInBounds_toArray, List.set_cons_succ, List.set_cons_zero]
            refine wpMix_put (v := ?_) rfl rfl (Or.inl ⟨by rfl, fun wz hz => ?_⟩) hS ?_
            rotate_left
            (focus (go_simp; try (with_reducible rfl)))
            simp only [List.setIfInBounds_toArray, List.set_cons_succ, List.set_cons_zero]
            refine wpMix_put (v := ?_) rfl rfl (Or.inl ⟨by rfl, fun wz hz => ?_⟩) hS ?_
            rotate_left
            (focus (go_simp; try (with_reducible rfl)))
            simp only [List.setIfInBounds_toArray, List.set_cons_succ, List.set_cons_zero]
            refine wpMix_step rfl (fun K hK => ?_)
            go_simp
            refine (above_any _ _ _ ms m'.t.name _ hm (hl.below hGd.bel)).mono ?_
            rintro e W2 ⟨A5, k5, c5, rfl, hk5, hs5, hb5⟩
            go_simp
            have hS7 := And.intro ((hb5.cell (p := ⟨w.heap.size, 0, none⟩) (by have := hGd.big; show w.heap.size < _; omega)).trans hS.1) ((hb5.cell (p := ⟨w.heap.size + 1 + 1, 0, none⟩) hGd.big).trans hS.2)
            refine hK _ _ (fun _ => hS7) ?_
            clear hK K hS
            have hS := hS7
            clear hS7
            refine wpMix_step rfl (fun K hK => ?_)
            go_simp
            refine (containsS_any _ _ _ _ m'.t.name _ hk5 hs5).mono ?_
            rintro e W3 ⟨rfl, hW3⟩
            have hW3 := hW3.symm
            subst hW3
            rw [hhv]
            go_simp
            refine hK _ _ (fun _ => hS) ?_
            clear hK K
            refine wpMix_nil ?_
            have G := hGd.below hb5
            have r1 := G.cr
            have r2 := G.fr
            clear hS
            go_wp2
            have G2 := G.store 0
            have hZ2 := hbd.tr hb5
            have hDE : D < wM.heap.size := by omega
            have hKZ2 : (W2.setCell ⟨w.heap.size + 1, 0, none⟩ (.int .i64 0)).heap[D]? = some (.deferred (some [])) := (set_heap _ _ D _ (by have := FL.big; omega)).trans ((hZ2.block D (Array.getElem?_eq_some_iff.1 hKZ).1).trans hKZ)
            have hKE2 : (W2.setCell ⟨w.heap.size + 1, 0, none⟩ (.int .i64 0)).heap[E]? = some (.deferred (some [])) := (set_heap _ _ E _ (by have := FM.big; omega)).trans ((hZ2.block E (Array.getElem?_eq_some_iff.1 hKE).1).trans hKE)
            have hb1 := belowK_b (w := wM) (n₀ := w.heap.size) (Nat.le_of_lt (Nat.lt_of_le_of_lt (Nat.le_add_right _ 2) FM.big)) (W2.setCell ⟨w.heap.size + 1, 0, none⟩ (.int .i64 0)) E _ (Obj.deferred none) hE hKE2 rfl rfl
            have hKE3 : ((W2.setCell ⟨w.heap.size + 1, 0, none⟩ (.int .i64 0)).putObj E (.deferred none)).heap[D]? = some (.deferred (some [])) := (World.putObj_heap_other (by omega)).trans hKZ2
            exact leave2 rfl errno_agg rfl G2.cr hKZ2 hKE2 (by omega) ⟨rfl, (G2.bel.trans hb1).trans (belowK_b (w := wL) (Nat.le_of_lt (Nat.lt_of_le_of_lt (Nat.le_add_right _ 2) FL.big)) _ D _ _ hD hKE3 rfl rfl)⟩
          · skip
            have hfl : Rf.flaw (terms ms) (prevT (terms ms) i) m'.t = 13 := by rw [fl_last hp hpv hfd hsc, hhv]; rfl
            obtain rfl : 13 = fv := by rw [← hfv, hfl]
            go_wp2_with fail
            have hGd := hG.drew
            have hS : Z.drew.cell? ⟨w.heap.size, 0, none⟩ = some (.slice (some ⟨b, off, none⟩) n c) ∧ Z.drew.cell? ⟨w.heap.size + 1 + 1, 0, none⟩ = some (.string m'.t.name) := ⟨hGd.cl, hGd.t0⟩
            have hbd : Below Z.heap.size Z Z.drew := brefl.drn 1
            refine wp_region_mix [(true, 0), (true, 1), (true, 2), (true, 4), (true, 5), (false, 3), (false, 6)] 7 (fun wz => wz.cell? ⟨w.heap.size, 0, none⟩ = some (.slice (some ⟨b, off, none⟩) n c) ∧ wz.cell? ⟨w.heap.size + 1 + 1, 0, none⟩ = some (.string m'.t.name)) (by kernel_rfl) (by kernel_rfl) ?_
            generalize Z.drew = Zd at hGd hS hbd ⊢
            refine wpMix_put (v := ?_) rfl rfl (Or.inl ⟨by rfl, fun wz hz => ?_⟩) hS ?_
            rotate_left
            (focus (go_simp; try (with_reducible rfl)))
            simp only [List.setIfInBounds_toArray, List.set_cons_succ, List.set_cons_zero]
            refine wpMix_put (v := ?_) rfl rfl (Or.inl ⟨by rfl, fun wz hz => ?_⟩) hS ?_
            rotate_left
            (focus (go_simp; try (with_reducible rfl)))
            simp only [List.setIfInBounds_toArray, List.set_cons_succ, List.set_cons_zero]
            refine wpMix_put (v := ?_) rfl rfl (Or.inl ⟨by rfl, fun wz hz => ?_⟩) hS ?_
            rotate_left
            (focus (go_simp; try (with_reducible rfl)))
            simp only [List.setIfInBounds_toArray, List.set_cons_succ, List.set_cons_zero]
            refine wpMix_put (v := ?_) rfl rfl (Or.inl ⟨by rfl, fun wz hz => ?_⟩) hS ?_
            rotate_left
            (focus (go_simp; try (with_reducible rfl)))
            simp only [List.setIfInBounds_toArray, List.set_cons_succ, List.set_cons_zero]
            refine wpMix_put (v := ?_) rfl rfl (Or.inl ⟨by rfl, fun wz hz => ?_⟩) hS ?_
            rotate_left
            (focus (go_simp; try (with_reducible rfl)))
            simp only [List.setIfInBounds_toArray, List.set_cons_succ, List.set_cons_zero]
            refine wpMix_step rfl (fun K hK => ?_)
            go_simp
            refine (above_any _ _ _ ms m'.t.name _ hm (hl.below hGd.bel)).mono ?_
            rintro e W2 ⟨A5, k5, c5, rfl, hk5, hs5, hb5⟩
            go_simp
            have hS7 := And.intro ((hb5.cell (p := ⟨w.heap.size, 0, none⟩) (by have := hGd.big; show w.heap.size < _; omega)).trans hS.1) ((hb5.cell (p := ⟨w.heap.size + 1 + 1, 0, none⟩) hGd.big).trans hS.2)
            refine hK _ _ (fun _ => hS7) ?_
            clear hK K hS
            have hS := hS7
            clear hS7
            refine wpMix_step rfl (fun K hK => ?_)
            go_simp
            refine (containsS_any _ _ _ _ m'.t.name _ hk5 hs5).mono ?_
            rintro e W3 ⟨rfl, hW3⟩
            have hW3 := hW3.symm
            subst hW3
            rw [hhv]
            go_simp
            refine hK _ _ (fun _ => hS) ?_
            clear hK K
            refine wpMix_nil ?_
            have G := hGd.below hb5
            have r1 := G.cr
            have r2 := G.fr
            clear hS
            go_wp2
            have G2 := G.store 13
            have hZ2 := hbd.tr hb5
            have hDE : D < wM.heap.size := by omega
            have hKZ2 : (W2.setCell ⟨w.heap.size + 1, 0, none⟩ (.int .i64 13)).heap[D]? = some (.deferred (some [])) := (set_heap _ _ D _ (by have := FL.big; omega)).trans ((hZ2.block D (Array.getElem?_eq_some_iff.1 hKZ).1).trans hKZ)
            have hKE2 : (W2.setCell ⟨w.heap.size + 1, 0, none⟩ (.int .i64 13)).heap[E]? = some (.deferred (some [])) := (set_heap _ _ E _ (by have := FM.big; omega)).trans ((hZ2.block E (Array.getElem?_eq_some_iff.1 hKE).1).trans hKE)
            have hb1 := belowK_b (w := wM) (n₀ := w.heap.size) (Nat.le_of_lt (Nat.lt_of_le_of_lt (Nat.le_add_right _ 2) FM.big)) (W2.setCell ⟨w.heap.size + 1, 0, none⟩ (.int .i64 13)) E _ (Obj.deferred none) hE hKE2 rfl rfl
            have hKE3 : ((W2.setCell ⟨w.heap.size + 1, 0, none⟩ (.int .i64 13)).putObj E (.deferred none)).heap[D]? = some (.deferred (some [])) := (World.putObj_heap_other (by omega)).trans hKZ2
            exact leave2 rfl errno_agg rfl G2.cr hKZ2 hKE2 (by omega) ⟨rfl, (G2.bel.trans hb1).trans (belowK_b (w := wL) (Nat.le_of_lt (Nat.lt_of_le_of_lt (Nat.le_add_right _ 2) FL.big)) _ D _ _ hD hKE3 rfl rfl)⟩
    · obtain ⟨b', off', q, hA', hq, hqok, _, q1, _, _, _, _⟩ := hl.at_ (k := i - 1) (by omega)
      injection hA' with hA'
      injection hA' with hA1 hA2
      subst hA1; subst hA2
      have hpq : prevT (terms ms) i = some q.t := by unfold prevT; rw [if_neg hi0]; exact terms_get hq
      have hi1 : (0 : Int) < i := by omega
      have hi1n : 0 < i := by omega
      have hi1b : decide (0 < i) = true := by simpa using hi1n
      have hi2 : (0 : Int) ≤ (i : Int) - 1 := by omega
      have hi5 : (1 : Int) ≤ i := by omega
      have hi3 : (i : Int) - 1 < n := by omega
      have hi4 : ((i : Int) - 1).toNat = i - 1 := by omega
      have hwrap := IntWalk.i64_in ((i : Int) - 1) (by omega)
      clear hqok hq
      rcases cmp3 m'.t.name q.t.name with ⟨f1, f2, f3⟩ | ⟨f1, f2, f3⟩ | ⟨f1, f2, f3⟩
      · skip
        obtain rfl : 7 = fv := by rw [← hfv, fl_twice hp (by rw [hpq, late_some, f3]; rfl)]
        clear hfv
        go_wp2_with (go_at_call 126; refine (vposs_any m' _ hr3 hok3).mono ?_; rintro e w2 ⟨rfl, hb2⟩; rw [hp]; have F2 := F0.below hb2; clear F0 hb2 hr3 hok3 d1 d2 d3 d4 d5)
        have F3 := F2.drew
        have hS : w2.drew.cell? ⟨w.heap.size, 0, none⟩ = some (.slice (some ⟨b, off, none⟩) n c) ∧ w2.drew.cell? ⟨w.heap.size + 1 + 1, 0, none⟩ = some (.string m'.t.name) ∧ w2.drew.cell? ⟨b, off + (i - 1) * 5, none⟩ = some (.string q.t.name) :=
          ⟨F3.cl, F3.t0, (F3.bel.cell (p := ⟨b, off + (i - 1) * 5, none⟩) hb0).trans q1⟩
        refine wp_region_mix [(true, 0), (true, 1), (true, 2), (true, 3), (true, 4), (true, 5), (true, 6), (true, 7), (true, 8), (true, 9), (true, 10), (true, 11), (true, 12)] 13 (fun wz => wz.cell? ⟨w.heap.size, 0, none⟩ = some (.slice (some ⟨b, off, none⟩) n c) ∧ wz.cell? ⟨w.heap.size + 1 + 1, 0, none⟩ = some (.string m'.t.name) ∧ wz.cell? ⟨b, off + (i - 1) * 5, none⟩ = some (.string q.t.name)) (by kernel_rfl) (by kernel_rfl) ?_
        clear F2; generalize w2.drew = w3 at F3 hS ⊢
        refine wpMix_put (v := ?_) rfl rfl (Or.inl ⟨by rfl, fun wz hz => ?_⟩) hS ?_
        rotate_left
        (focus (go_simp; try (with_reducible rfl)))
        simp only [List.setIfInBounds_toArray, List.set_cons_succ, List.set_cons_zero]
        refine wpMix_put (v := ?_) rfl rfl (Or.inl ⟨by rfl, fun wz hz => ?_⟩) hS ?_
        rotate_left
        (focus (go_simp; try (with_reducible rfl)))
        simp only [List.setIfInBounds_toArray, List.set_cons_succ, List.set_cons_zero]
        refine wpMix_put (v := ?_) rfl rfl (Or.inl ⟨by rfl, fun wz hz => ?_⟩) hS ?_
        rotate_left
        (focus (go_simp; try (with_reducible rfl)))
        simp only [List.setIfInBounds_toArray, List.set_cons_succ, List.set_cons_zero]
        refine wpMix_put (v := ?_) rfl rfl (Or.inl ⟨by rfl, fun wz hz => ?_⟩) hS ?_
        rotate_left
        (focus (go_simp; try (with_reducible rfl)))
        simp only [List.setIfInBounds_toArray, List.set_cons_succ, List.set_cons_zero]
        refine wpMix_put (v := ?_) rfl rfl (Or.inl ⟨by rfl, fun wz hz => ?_⟩) hS ?_
        rotate_left
        (focus (go_simp; try (with_reducible rfl)))
        simp only [List.setIfInBounds_toArray, List.set_cons_succ, List.set_cons_zero]
        refine wpMix_put (v := ?_) rfl rfl (Or.inl ⟨by rfl, fun wz hz => ?_⟩) hS ?_
        rotate_left
        (focus (go_simp; try (with_reducible rfl)))
        simp only [List.setIfInBounds_toArray, List.set_cons_succ, List.set_cons_zero]
        refine wpMix_put (v := ?_) rfl rfl (Or.inl ⟨by rfl, fun wz hz => ?_⟩) hS ?_
        rotate_left
        (focus (go_simp; try (with_reducible rfl)))
        simp only [List.setIfInBounds_toArray, List.set_cons_succ, List.set_cons_zero]
        refine wpMix_put (v := ?_) rfl rfl (Or.inl ⟨by rfl, fun wz hz => ?_⟩) hS ?_
        rotate_left
        (focus (go_simp; try (with_reducible rfl)))
        simp only [List.setIfInBounds_toArray, List.set_cons_succ, List.set_cons_zero]
        refine wpMix_put (v := ?_) rfl rfl (Or.inl ⟨by rfl, fun wz hz => ?_⟩) hS ?_
        rotate_left
        (focus (go_simp; try (with_reducible rfl)))
        simp only [List.setIfInBounds_toArray, List.set_cons_succ, List.set_cons_zero]
        refine wpMix_put (v := ?_) rfl rfl (Or.inl ⟨by rfl, fun wz hz => ?_⟩) hS ?_
        rotate_left
        (focus (go_simp; try (with_reducible rfl)))
        simp only [List.setIfInBounds_toArray, List.set_cons_succ, List.set_cons_zero]
        refine wpMix_put (v := ?_) rfl rfl (Or.inl ⟨by rfl, fun wz hz => ?_⟩) hS ?_
        rotate_left
        (focus (go_simp; try (with_reducible rfl)))
        simp only [List.setIfInBounds_toArray, List.set_cons_succ, List.set_cons_zero]
        refine wpMix_put (v := ?_) rfl rfl (Or.inl ⟨by rfl, fun wz hz => ?_⟩) hS ?_
        rotate_left
        (focus (go_simp; try (with_reducible rfl)))
        simp only [List.setIfInBounds_toArray, List.set_cons_succ, List.set_cons_zero]
        refine wpMix_put (v := ?_) rfl rfl (Or.inl ⟨by rfl, fun wz hz => ?_⟩) hS ?_
        rotate_left
        (focus (go_simp; try (with_reducible rfl)))
        simp only [List.setIfInBounds_toArray, List.set_cons_succ, List.set_cons_zero]
        refine wpMix_nil ?_
        clear hS
        have k1 := F3.cr
        have k2 := F3.fr
        go_wp2
        have F4 := F3.store 7
        exact leave0 rfl errno_agg rfl F4.cr ⟨rfl, F4.bel⟩
      · skip
        obtain rfl : 7 = fv := by rw [← hfv, fl_twice hp (by rw [hpq, late_some, f3]; rfl)]
        clear hfv
        go_wp2_with (go_at_call 126; refine (vposs_any m' _ hr3 hok3).mono ?_; rintro e w2 ⟨rfl, hb2⟩; rw [hp]; have F2 := F0.below hb2; clear F0 hb2 hr3 hok3 d1 d2 d3 d4 d5)
        have F3 := F2.drew
        have hS : w2.drew.cell? ⟨w.heap.size, 0, none⟩ = some (.slice (some ⟨b, off, none⟩) n c) ∧ w2.drew.cell? ⟨w.heap.size + 1 + 1, 0, none⟩ = some (.string m'.t.name) ∧ w2.drew.cell? ⟨b, off + (i - 1) * 5, none⟩ = some (.string q.t.name) :=
          ⟨F3.cl, F3.t0, (F3.bel.cell (p := ⟨b, off + (i - 1) * 5, none⟩) hb0).trans q1⟩
        refine wp_region_mix [(true, 0), (true, 1), (true, 2), (true, 3), (true, 4), (true, 5), (true, 6), (true, 7), (true, 8), (true, 9), (true, 10), (true, 11), (true, 12)] 13 (fun wz => wz.cell? ⟨w.heap.size, 0, none⟩ = some (.slice (some ⟨b, off, none⟩) n c) ∧ wz.cell? ⟨w.heap.size + 1 + 1, 0, none⟩ = some (.string m'.t.name) ∧ wz.cell? ⟨b, off + (i - 1) * 5, none⟩ = some (.string q.t.name)) (by kernel_rfl) (by kernel_rfl) ?_
        clear F2; generalize w2.drew = w3 at F3 hS ⊢
        refine wpMix_put (v := ?_) rfl rfl (Or.inl ⟨by rfl, fun wz hz => ?_⟩) hS ?_
        rotate_left
        (focus (go_simp; try (with_reducible rfl)))
        simp only [List.setIfInBounds_toArray, List.set_cons_succ, List.set_cons_zero]
        refine wpMix_put (v := ?_) rfl rfl (Or.inl ⟨by rfl, fun wz hz => ?_⟩) hS ?_
        rotate_left
        (focus (go_simp; try (with_reducible rfl)))
        simp only [List.setIfInBounds_toArray, List.set_cons_succ, List.set_cons_zero]
        refine wpMix_put (v := ?_) rfl rfl (Or.inl ⟨by rfl, fun wz hz => ?_⟩) hS ?_
        rotate_left
        (focus (go_simp; try (with_reducible rfl)))
        simp only [List.setIfInBounds_toArray, List.set_cons_succ, List.set_cons_zero]
        refine wpMix_put (v := ?_) rfl rfl (Or.inl ⟨by rfl, fun wz hz => ?_⟩) hS ?_
        rotate_left
        (focus (go_simp; try (with_reducible rfl)))
        simp only [List.setIfInBounds_toArray, List.set_cons_succ, List.set_cons_zero]
        refine wpMix_put (v := ?_) rfl rfl (Or.inl ⟨by rfl, fun wz hz => ?_⟩) hS ?_
        rotate_left
        (focus (go_simp; try (with_reducible rfl)))
        simp only [List.setIfInBounds_toArray, List.set_cons_succ, List.set_cons_zero]
        refine wpMix_put (v := ?_) rfl rfl (Or.inl ⟨by rfl, fun wz hz => ?_⟩) hS ?_
        rotate_left
        (focus (go_simp; try (with_reducible rfl)))
        simp only [List.setIfInBounds_toArray, List.set_cons_succ, List.set_cons_zero]
        refine wpMix_put (v := ?_) rfl rfl (Or.inl ⟨by rfl, fun wz hz => ?_⟩) hS ?_
        rotate_left
        (focus (go_simp; try (with_reducible rfl)))
        simp only [List.setIfInBounds_toArray, List.set_cons_succ, List.set_cons_zero]
        refine wpMix_put (v := ?_) rfl rfl (Or.inl ⟨by rfl, fun wz hz => ?_⟩) hS ?_
        rotate_left
        (focus (go_simp; try (with_reducible rfl)))
        simp only [List.setIfInBounds_toArray, List.set_cons_succ, List.set_cons_zero]
        refine wpMix_put (v := ?_) rfl rfl (Or.inl ⟨by rfl, fun wz hz => ?_⟩) hS ?_
        rotate_left
        (focus (go_simp; try (with_reducible rfl)))
        simp only [List.setIfInBounds_toArray, List.set_cons_succ, List.set_cons_zero]
        refine wpMix_put (v := ?_) rfl rfl (Or.inl ⟨by rfl, fun wz hz => ?_⟩) hS ?_
        rotate_left
        (focus (go_simp; try (with_reducible rfl)))
        simp only [List.setIfInBounds_toArray, List.set_cons_succ, List.set_cons_zero]
        refine wpMix_put (v := ?_) rfl rfl (Or.inl ⟨by rfl, fun wz hz => ?_⟩) hS ?_
        rotate_left
        (focus (go_simp; try (with_reducible rfl)))
        simp only [List.setIfInBounds_toArray, List.set_cons_succ, List.set_cons_zero]
        refine wpMix_put (v := ?_) rfl rfl (Or.inl ⟨by rfl, fun wz hz => ?_⟩) hS ?_
        rotate_left
        (focus (go_simp; try (with_reducible rfl)))
        simp only [List.setIfInBounds_toArray, List.set_cons_succ, List.set_cons_zero]
        refine wpMix_put (v := ?_) rfl rfl (Or.inl ⟨by rfl, fun wz hz => ?_⟩) hS ?_
        rotate_left
        (focus (go_simp; try (with_reducible rfl)))
        simp only [List.setIfInBounds_toArray, List.set_cons_succ, List.set_cons_zero]
        refine wpMix_nil ?_
        clear hS
        have k1 := F3.cr
        have k2 := F3.fr
        go_wp2
        have F4 := F3.store 7
        exact leave0 rfl errno_agg rfl F4.cr ⟨rfl, F4.bel⟩
      · have hpv : late (prevT (terms ms) i) m'.t = false := by rw [hpq, late_some, f3]; rfl
        go_wp2_with (go_at_call 126; refine (vposs_any m' _ hr3 hok3).mono ?_; rintro e w2 ⟨rfl, hb2⟩; rw [hp]; have F2 := F0.below hb2; clear F0 hb2 hr3 hok3 d1 d2 d3 d4 d5)
        have F3 := F2.drew
        have hS : w2.drew.cell? ⟨w.heap.size, 0, none⟩ = some (.slice (some ⟨b, off, none⟩) n c) ∧ w2.drew.cell? ⟨w.heap.size + 1 + 1, 0, none⟩ = some (.string m'.t.name) ∧ w2.drew.cell? ⟨b, off + (i - 1) * 5, none⟩ = some (.string q.t.name) :=
          ⟨F3.cl, F3.t0, (F3.bel.cell (p := ⟨b, off + (i - 1) * 5, none⟩) hb0).trans q1⟩
        refine wp_region_mix [(true, 0), (true, 1), (true, 2), (true, 3), (true, 4), (true, 5), (true, 6), (true, 7), (true, 8), (true, 9), (true, 10), (true, 11), (true, 12)] 13 (fun wz => wz.cell? ⟨w.heap.size, 0, none⟩ = some (.slice (some ⟨b, off, none⟩) n c) ∧ wz.cell? ⟨w.heap.size + 1 + 1, 0, none⟩ = some (.string m'.t.name) ∧ wz.cell? ⟨b, off + (i - 1) * 5, none⟩ = some (.string q.t.name)) (by kernel_rfl) (by kernel_rfl) ?_
        clear F2; generalize w2.drew = w3 at F3 hS ⊢
        refine wpMix_put (v := ?_) rfl rfl (Or.inl ⟨by rfl, fun wz hz => ?_⟩) hS ?_
        rotate_left
        (focus (go_simp; try (with_reducible rfl)))
        simp only [List.setIfInBounds_toArray, List.set_cons_succ, List.set_cons_zero]
        refine wpMix_put (v := ?_) rfl rfl (Or.inl ⟨by rfl, fun wz hz => ?_⟩) hS ?_
        rotate_left
        (focus (go_simp; try (with_reducible rfl)))
        simp only [List.setIfInBounds_toArray, List.set_cons_succ, List.set_cons_zero]
        refine wpMix_put (v := ?_) rfl rfl (Or.inl ⟨by rfl, fun wz hz => ?_⟩) hS ?_
        rotate_left
        (focus (go_simp; try (with_reducible rfl)))
        simp only [List.setIfInBounds_toArray, List.set_cons_succ, List.set_cons_zero]
        refine wpMix_put (v := ?_) rfl rfl (Or.inl ⟨by rfl, fun wz hz => ?_⟩) hS ?_
        rotate_left
        (focus (go_simp; try (with_reducible rfl)))
        simp only [List.setIfInBounds_toArray, List.set_cons_succ, List.set_cons_zero]
        refine wpMix_put (v := ?_) rfl rfl (Or.inl ⟨by rfl, fun wz hz => ?_⟩) hS ?_
        rotate_left
        (focus (go_simp; try (with_reducible rfl)))
        simp only [List.setIfInBounds_toArray, List.set_cons_succ, List.set_cons_zero]
        refine wpMix_put (v := ?_) rfl rfl (Or.inl ⟨by rfl, fun wz hz => ?_⟩) hS ?_
        rotate_left
        (focus (go_simp; try (with_reducible rfl)))
        simp only [List.setIfInBounds_toArray, List.set_cons_succ, List.set_cons_zero]
        refine wpMix_put (v := ?_) rfl rfl (Or.inl ⟨by rfl, fun wz hz => ?_⟩) hS ?_
        rotate_left
        (focus (go_simp; try (with_reducible rfl)))
        simp only [List.setIfInBounds_toArray, List.set_cons_succ, List.set_cons_zero]
        refine wpMix_put (v := ?_) rfl rfl (Or.inl ⟨by rfl, fun wz hz => ?_⟩) hS ?_
        rotate_left
        (focus (go_simp; try (with_reducible rfl)))
        simp only [List.setIfInBounds_toArray, List.set_cons_succ, List.set_cons_zero]
        refine wpMix_put (v := ?_) rfl rfl (Or.inl ⟨by rfl, fun wz hz => ?_⟩) hS ?_
        rotate_left
        (focus (go_simp; try (with_reducible rfl)))
        simp only [List.setIfInBounds_toArray, List.set_cons_succ, List.set_cons_zero]
        refine wpMix_put (v := ?_) rfl rfl (Or.inl ⟨by rfl, fun wz hz => ?_⟩) hS ?_
        rotate_left
        (focus (go_simp; try (with_reducible rfl)))
        simp only [List.setIfInBounds_toArray, List.set_cons_succ, List.set_cons_zero]
        refine wpMix_put (v := ?_) rfl rfl (Or.inl ⟨by rfl, fun wz hz => ?_⟩) hS ?_
        rotate_left
        (focus (go_simp; try (with_reducible rfl)))
        simp only [List.setIfInBounds_toArray, List.set_cons_succ, List.set_cons_zero]
        refine wpMix_put (v := ?_) rfl rfl (Or.inl ⟨by rfl, fun wz hz => ?_⟩) hS ?_
        rotate_left
        (focus (go_simp; try (with_reducible rfl)))
        simp only [List.setIfInBounds_toArray, List.set_cons_succ, List.set_cons_zero]
        refine wpMix_put (v := ?_) rfl rfl (Or.inl ⟨by rfl, fun wz hz => ?_⟩) hS ?_
        rotate_left
        (focus (go_simp; try (with_reducible rfl)))
        simp only [List.setIfInBounds_toArray, List.set_cons_succ, List.set_cons_zero]
        refine wpMix_nil ?_
        clear hS
        have e0 := F3.t0
        have e1 := F3.t1
        have e2 := F3.t2
        have e3 := F3.t3
        have e4 := F3.t4
        go_wp2_with (go_at_call 127; refine (leads_any m' _).mono ?_; rintro e w4 ⟨rfl, rfl⟩)
        clear e0 e1 e2 e3 e4
        have FL := F3.alloc (.cells #[.string m'.t.name, .int .i64 m'.t.kind, .int .i64 m'.t.lang, .string m'.t.see, .slice m'.A m'.n m'.c] 33)
        have hbx := box_tm (w := w3) (v1 := .string m'.t.name) (v2 := .int .i64 m'.t.kind) (v3 := .int .i64 m'.t.lang) (v4 := .string m'.t.see) (v5 := .slice m'.A m'.n m'.c) (t := 33) brefl
        have hsz : w3.heap.size < (w3.alloc (.cells #[.string m'.t.name, .int .i64 m'.t.kind, .int .i64 m'.t.lang, .string m'.t.see, .slice m'.A m'.n m'.c] 33)).heap.size := by simp
        generalize (w3.alloc (.cells #[.string m'.t.name, .int .i64 m'.t.kind, .int .i64 m'.t.lang, .string m'.t.see, .slice m'.A m'.n m'.c] 33)) = wL at FL hbx hsz ⊢
        obtain ⟨_, _, _, h3, h4⟩ := hbx
        refine range_T fun T hT => ?_
        refine (wpIn_wide (n := 6)).1 ?_
        refine wpIn_rangeFunc_ownG_of_H (n := 6) rfl (by omega) (gf := 169) (lb := #[.pointer (some ⟨w3.heap.size, 0, none⟩)]) (by rw [hT]; rfl) trivial (enters_of Tryz.func169 (by kernel_rfl) rfl)
          (leads_stops 5 w3.heap.size (by omega) m'.A m'.n m'.c m'.t (fun _ => True) (fun _ _ => trivial) wL hsz h3 h4 hok.few (hok.br.below FL.bel)) belowK_t (belowK_b (Nat.le_refl _)) (Below.refl _ _) (fun _ => rfl)
          (fun pre W => FS w (some ⟨b, off, none⟩) n c m' 0 W ∧ Below wL.heap.size wL W ∧ ∀ x ∈ pre, ∃ u, findT (terms ms) x.1 = some u)
          (fun cd pre W => cd = .ret ∧ FS w (some ⟨b, off, none⟩) n c m' 6 W ∧ ∃ x ∈ pre, findT (terms ms) x.1 = none)
          (fun pre W W' row ⟨h1, h2, h3⟩ hg hr => ⟨h1.grown hg (fun k e => Nat.lt_of_lt_of_le FL.big (hr k e).1), h2.gr hg (fun k e => (hr k e).1), h3⟩)
          (fun cd pre W W' row ⟨h1, h2, h3⟩ hg hr => ⟨h1, h2.grown hg (fun k e => Nat.lt_of_lt_of_le FL.big (hr k e).1), h3⟩)
          ⟨FL, Below.refl _ _, by simp⟩ (fun x => { tmps := (T.setIfInBounds 30 (.string x.1)).setIfInBounds 6 (.string x.1), defers := [] }) ?assign ?body ?done ?stop (fun W => Below.refl _ _)
        case assign =>
          intro l x W K hK
          subst hT
          simp only [List.setIfInBounds_toArray, List.set_cons_succ, List.set_cons_zero] at hK
          gi_wp2
          exact hK
        case body =>
          rintro l pre x W ⟨hF, hbL, hpre⟩ _
          subst hT
          simp only [List.setIfInBounds_toArray, List.set_cons_succ, List.set_cons_zero]
          have c1 := hF.cl
          rcases findAt_cases (terms ms) x.1 0 with ⟨g1, g2⟩ | ⟨k, t, g1, g2, g3⟩
          · gi_wp2_with (refine ⟨trivial, ?_⟩; gi_at_call 20; refine (CallsIn.inRound l (callsIn_wide.2 (vfind_any _ _ _ ms x.1 _ (by omega) (hl.below hF.bel)))).mono ?_; rintro e W2 ⟨rfl, hb2⟩; rw [g2]; have G := hF.below hb2; have r1 := G.cr; have r2 := G.fr)
            exact ⟨(keeps_below hb2).trans (keeps_store _ _ _ _), rfl, G.store 6, x, by simp, g1⟩
          · gi_wp2_with (refine ⟨trivial, ?_⟩; gi_at_call 20; refine (CallsIn.inRound l (callsIn_wide.2 (vfind_any _ _ _ ms x.1 _ (by omega) (hl.below hF.bel)))).mono ?_; rintro e W2 ⟨rfl, hb2⟩; rw [g2])
            exact ⟨keeps_below hb2, hb2.mono hbL.size, hF.below hb2, hbL.trans (hb2.mono hbL.size), fun y hy => by
              rcases List.mem_append.1 hy with hy | hy
              · exact hpre y hy
              · simp at hy; subst hy; exact ⟨t, g1⟩⟩
        case stop =>
          rintro D cd pre W hD hpre ⟨rfl, hF, x, hx, hn⟩ hK
          subst hT
          obtain rfl : 6 = fv := by rw [← hfv, fl_none hp hpv (x := x.1) (prefix_mem hpre (List.mem_map_of_mem hx)) hn]
          gi_wp2
          exact leave1 rfl errno_agg rfl hF.cr hK ⟨rfl, hF.bel.trans (belowK_b (w := wL) (Nat.le_of_lt (Nat.lt_of_le_of_lt (Nat.le_add_right _ 2) FL.big)) W D _ _ hD hK rfl rfl)⟩
        case done =>
          rintro D xs W hD hxs ⟨hF, hbL, hall⟩ hK
          subst hT
          have hfd : ∀ x ∈ leads m'.t, ∃ u, findT (terms ms) x = some u := fun x hx => by
            rw [← hxs] at hx
            obtain ⟨y, hy, rfl⟩ := List.mem_map.1 hx
            exact hall y hy
          clear hall hxs h3 h4
          have e0 := hF.t0
          have e1 := hF.t1
          have e2 := hF.t2
          have e3 := hF.t3
          have e4 := hF.t4
          go_wp2_with (go_at_call 127; refine (leads_any m' _).mono ?_; rintro e w4 ⟨rfl, rfl⟩)
          clear e0 e1 e2 e3 e4
          have FM := hF.alloc (.cells #[.string m'.t.name, .int .i64 m'.t.kind, .int .i64 m'.t.lang, .string m'.t.see, .slice m'.A m'.n m'.c] 33)
          have hbx := box_tm (w := W) (v1 := .string m'.t.name) (v2 := .int .i64 m'.t.kind) (v3 := .int .i64 m'.t.lang) (v4 := .string m'.t.see) (v5 := .slice m'.A m'.n m'.c) (t := 33) brefl
          have hszM : W.heap.size < (W.alloc (.cells #[.string m'.t.name, .int .i64 m'.t.kind, .int .i64 m'.t.lang, .string m'.t.see, .slice m'.A m'.n m'.c] 33)).heap.size := by simp
          have hDW : D < W.heap.size := (Array.getElem?_eq_some_iff.1 hK).1
          have hKM : (W.alloc (.cells #[.string m'.t.name, .int .i64 m'.t.kind, .int .i64 m'.t.lang, .string m'.t.see, .slice m'.A m'.n m'.c] 33)).heap[D]? = some (.deferred (some [])) := ((brefl.al _ : Below W.heap.size W _).block D hDW).trans hK
          generalize (W.alloc (.cells #[.string m'.t.name, .int .i64 m'.t.kind, .int .i64 m'.t.lang, .string m'.t.see, .slice m'.A m'.n m'.c] 33)) = wM at FM hbx hszM hKM ⊢
          obtain ⟨_, _, _, h3, h4⟩ := hbx
          refine range_T fun T hT => ?_
          refine (wpIn_wide (n := 6)).1 ?_
          refine wpIn_rangeFunc_ownG_of_H (n := 6) rfl (by omega) (gf := 169) (lb := #[.pointer (some ⟨W.heap.size, 0, none⟩)]) (by rw [hT]; rfl) trivial (enters_of Tryz.func169 (by kernel_rfl) rfl)
            (leads_stops 5 W.heap.size (by omega) m'.A m'.n m'.c m'.t (fun x => ∃ u, findT (terms ms) x = some u) hfd wM hszM h3 h4 hok.few (hok.br.below FM.bel)) belowK_t (belowK_b (Nat.le_refl _)) (Below.refl _ _) (fun _ => rfl)
            (fun pre Z => FS w (some ⟨b, off, none⟩) n c m' 0 Z ∧ Below wM.heap.size wM Z ∧ Z.heap[D]? = some (.deferred (some [])) ∧ ∀ x ∈ pre, second (terms ms) x.1 = false)
            (fun cd pre Z => cd = .ret ∧ FS w (some ⟨b, off, none⟩) n c m' 12 Z ∧ Z.heap[D]? = some (.deferred (some [])) ∧ ∃ x ∈ pre, second (terms ms) x.1 = true)
            (fun pre Z Z' row ⟨h1, h2, h3, h4⟩ hg hr => ⟨h1.grown hg (fun k e => Nat.lt_of_lt_of_le FM.big (hr k e).1), h2.gr hg (fun k e => (hr k e).1), (hg.block D (Array.getElem?_eq_some_iff.1 h3).1 (fun e => by have := (hr D e.symm).1; omega)).trans h3, h4⟩)
            (fun cd pre Z Z' row ⟨h1, h2, h3, h4⟩ hg hr => ⟨h1, h2.grown hg (fun k e => Nat.lt_of_lt_of_le FM.big (hr k e).1), (hg.block D (Array.getElem?_eq_some_iff.1 h3).1 (fun e => by have := (hr D e.symm).1; omega)).trans h3, h4⟩)
            ⟨FM, Below.refl _ _, hKM, by simp⟩ (fun x => { tmps := (T.setIfInBounds 37 (.string x.1)).setIfInBounds 7 (.string x.1), defers := [] }) ?assign2 ?body2 ?done2 ?stop2 (fun W => Below.refl _ _)
          case assign2 =>
            intro l x W K hK
            subst hT
            simp only [List.setIfInBounds_toArray, List.set_cons_succ, List.set_cons_zero] at hK
            gi_wp2
            exact hK
          case body2 =>
            rintro l pre ⟨x, u, hu⟩ Z ⟨hG, hbM, hKZ, hpre⟩ _
            subst hT
            simp only [List.setIfInBounds_toArray, List.set_cons_succ, List.set_cons_zero]
            rcases findAt_cases (terms ms) x 0 with ⟨g1, g2⟩ | ⟨k, t, g1, g2, g3⟩
            · rw [hu] at g1; cases g1
            · rw [Nat.zero_add] at g2
              have hkn : k < n := by have := (List.getElem?_eq_some_iff.1 g3).1; rw [terms_length hl] at this; exact this
              obtain ⟨b', off', mk, hA', hmk, _, _, _, _, _, y3, _⟩ := hl.at_ hkn
              injection hA' with hA'
              injection hA' with hA1 hA2
              subst hA1; subst hA2
              have htk : mk.t = t := by have := terms_get hmk; rw [g3] at this; injection this with this; exact this.symm
              rw [htk] at y3
              have hsd : second (terms ms) x = !t.see.data.isEmpty := by unfold second; rw [g1]
              clear hmk htk
              have hGd := hG.drew
              have hS : Z.drew.cell? ⟨w.heap.size, 0, none⟩ = some (.slice (some ⟨b, off, none⟩) n c) ∧ Z.drew.cell? ⟨b, off + k * 5 + 3, none⟩ = some (.string t.see) := ⟨hGd.cl, (hGd.bel.cell (p := ⟨b, off + k * 5 + 3, none⟩) hb0).trans y3⟩
              have hbd : Below Z.heap.size Z Z.drew := brefl.drn 1
              gi_wp2_with fail
              cases hse : t.see.data.isEmpty
              · have u0 := not_empty hse
                have u2 := (empty_data t.see).trans hse
                refine wpIn_region_mix [(true, 0), (true, 1), (true, 2), (false, 3), (true, 4), (true, 5), (true, 6), (true, 7)] 8 (fun wz => wz.cell? ⟨w.heap.size, 0, none⟩ = some (.slice (some ⟨b, off, none⟩) n c) ∧ wz.cell? ⟨b, off + k * 5 + 3, none⟩ = some (.string t.see)) (by kernel_rfl) (by kernel_rfl) (by kernel_rfl) ?_
                generalize Z.drew = Zd at hGd hS hbd ⊢
                refine wpMix_put (v := ?_) rfl rfl (Or.inl ⟨by rfl, fun wz hz => ?_⟩) hS ?_
                rotate_left
                (focus (go_simp; try (with_reducible rfl)))
                simp only [List.setIfInBounds_toArray, List.set_cons_succ, List.set_cons_zero]
                refine wpMix_put (v := ?_) rfl rfl (Or.inl ⟨by rfl, fun wz hz => ?_⟩) hS ?_
                rotate_left
                (focus (go_simp; try (with_reducible rfl)))
                simp only [List.setIfInBounds_toArray, List.set_cons_succ, List.set_cons_zero]
                refine wpMix_put (v := ?_) rfl rfl (Or.inl ⟨by rfl, fun wz hz => ?_⟩) hS ?_
                rotate_left
                (focus (go_simp; try (with_reducible rfl)))
                simp only [List.setIfInBounds_toArray, List.set_cons_succ, List.set_cons_zero]
                refine wpMix_step rfl (fun K hK => ?_)
                go_simp
                refine (vfind_any _ _ _ ms x _ (by omega) (hl.below hGd.bel)).mono ?_
                rintro e W2 ⟨rfl, hb2⟩
                rw [g2]
                go_simp
                have hS7 := And.intro ((hb2.cell (p := ⟨w.heap.size, 0, none⟩) (by have := hGd.big; show w.heap.size < _; omega)).trans hS.1) ((hb2.cell (p := ⟨b, off + k * 5 + 3, none⟩) (Nat.lt_of_lt_of_le hb0 hGd.bel.size)).trans hS.2)
                refine hK _ _ (fun _ => hS7) ?_
                clear hK K hS
                have hS := hS7
                clear hS7
                refine wpMix_put (v := ?_) rfl rfl (Or.inl ⟨by rfl, fun wz hz => ?_⟩) hS ?_
                rotate_left
                (focus (go_simp; try (with_reducible rfl)))
                simp only [List.setIfInBounds_toArray, List.set_cons_succ, List.set_cons_zero]
                refine wpMix_put (v := ?_) rfl rfl (Or.inl ⟨by rfl, fun wz hz => ?_⟩) hS ?_
                rotate_left
                (focus (go_simp; try (with_reducible rfl)))
                simp only [List.setIfInBounds_toArray, List.set_cons_succ, List.set_cons_zero]
                refine wpMix_put (v := ?_) rfl rfl (Or.inl ⟨by rfl, fun wz hz => ?_⟩) hS ?_
                rotate_left
                (focus (go_simp; try (with_reducible rfl)))
                simp only [List.setIfInBounds_toArray, List.set_cons_succ, List.set_cons_zero]
                refine wpMix_put (v := ?_) rfl rfl (Or.inl ⟨by rfl, fun wz hz => ?_⟩) hS ?_
                rotate_left
                (focus (go_simp; try (with_reducible rfl)))
                simp only [List.setIfInBounds_toArray, List.set_cons_succ, List.set_cons_zero]
                refine wpMix_nil ?_
                have G := hGd.below hb2
                have r1 := G.cr
                have r2 := G.fr
                gi_wp2
                exact ⟨(keeps_below (hbd.tr hb2)).trans (keeps_store _ _ _ _), rfl, G.store 12, ((brefl.tr (hbd.tr hb2)).block D (Array.getElem?_eq_some_iff.1 hKZ).1 |> fun e => (show (W2.setCell ⟨w.heap.size + 1, 0, none⟩ (.int .i64 12)).heap[D]? = _ from (set_heap _ _ D _ (by have := FL.big; omega)).trans (e.trans hKZ))), ⟨x, u, hu⟩, by simp, by rw [hsd, hse]; rfl⟩
              · have u1 := is_empty hse
                rw [u1] at hS
                refine wpIn_region_mix [(true, 0), (true, 1), (true, 2), (false, 3), (true, 4), (true, 5), (true, 6), (true, 7)] 8 (fun wz => wz.cell? ⟨w.heap.size, 0, none⟩ = some (.slice (some ⟨b, off, none⟩) n c) ∧ wz.cell? ⟨b, off + k * 5 + 3, none⟩ = some (.string ⟨#[]⟩)) (by kernel_rfl) (by kernel_rfl) (by kernel_rfl) ?_
                generalize Z.drew = Zd at hGd hS hbd ⊢
                refine wpMix_put (v := ?_) rfl rfl (Or.inl ⟨by rfl, fun wz hz => ?_⟩) hS ?_
                rotate_left
                (focus (go_simp; try (with_reducible rfl)))
                simp only [List.setIfInBounds_toArray, List.set_cons_succ, List.set_cons_zero]
                refine wpMix_put (v := ?_) rfl rfl (Or.inl ⟨by rfl, fun wz hz => ?_⟩) hS ?_
                rotate_left
                (focus (go_simp; try (with_reducible rfl)))
                simp only [List.setIfInBounds_toArray, List.set_cons_succ, List.set_cons_zero]
                refine wpMix_put (v := ?_) rfl rfl (Or.inl ⟨by rfl, fun wz hz => ?_⟩) hS ?_
                rotate_left
                (focus (go_simp; try (with_reducible rfl)))
                simp only [List.setIfInBounds_toArray, List.set_cons_succ, List.set_cons_zero]
                refine wpMix_step rfl (fun K hK => ?_)
                go_simp
                refine (vfind_any _ _ _ ms x _ (by omega) (hl.below hGd.bel)).mono ?_
                rintro e W2 ⟨rfl, hb2⟩
                rw [g2]
                go_simp
                have hS7 := And.intro ((hb2.cell (p := ⟨w.heap.size, 0, none⟩) (by have := hGd.big; show w.heap.size < _; omega)).trans hS.1) ((hb2.cell (p := ⟨b, off + k * 5 + 3, none⟩) (Nat.lt_of_lt_of_le hb0 hGd.bel.size)).trans hS.2)
                refine hK _ _ (fun _ => hS7) ?_
                clear hK K hS
                have hS := hS7
                clear hS7
                refine wpMix_put (v := ?_) rfl rfl (Or.inl ⟨by rfl, fun wz hz => ?_⟩) hS ?_
                rotate_left
                (focus (go_simp; try (with_reducible rfl)))
                simp only [List.setIfInBounds_toArray, List.set_cons_succ, List.set_cons_zero]
                refine wpMix_put (v := ?_) rfl rfl (Or.inl ⟨by rfl, fun wz hz => ?_⟩) hS ?_
                rotate_left
                (focus (go_simp; try (with_reducible rfl)))
                simp only [List.setIfInBounds_toArray, List.set_cons_succ, List.set_cons_zero]
                refine wpMix_put (v := ?_) rfl rfl (Or.inl ⟨by rfl, fun wz hz => ?_⟩) hS ?_
                rotate_left
                (focus (go_simp; try (with_reducible rfl)))
                simp only [List.setIfInBounds_toArray, List.set_cons_succ, List.set_cons_zero]
                refine wpMix_put (v := ?_) rfl rfl (Or.inl ⟨by rfl, fun wz hz => ?_⟩) hS ?_
                rotate_left
                (focus (go_simp; try (with_reducible rfl)))
                simp only [List.setIfInBounds_toArray, List.set_cons_succ, List.set_cons_zero]
                refine wpMix_nil ?_
                gi_wp2
                exact ⟨keeps_below (hbd.tr hb2), (hbd.tr hb2).mono hbM.size, hGd.below hb2, hbM.trans ((hbd.tr hb2).mono hbM.size), ((hbd.tr hb2).block D (Array.getElem?_eq_some_iff.1 hKZ).1).trans hKZ, fun y hy => by
                  rcases List.mem_append.1 hy with hy | hy
                  · exact hpre y hy
                  · simp at hy; subst hy; rw [hsd, hse]; rfl⟩
          case stop2 =>
            rintro E cd pre Z hE hpre ⟨rfl, hG, hKZ, x, hx, hn⟩ hKE
            subst hT
            obtain rfl : 12 = fv := by rw [← hfv, fl_type hp hpv hfd (x := x.1) (prefix_mem hpre (List.mem_map_of_mem hx)) hn]
            gi_wp2
            have hb1 := belowK_b (w := wM) (n₀ := w.heap.size) (Nat.le_of_lt (Nat.lt_of_le_of_lt (Nat.le_add_right _ 2) FM.big)) Z E _ (Obj.deferred none) hE hKE rfl rfl
            have hKE2 : (Z.putObj E (.deferred none)).heap[D]? = some (.deferred (some [])) := (World.putObj_heap_other (by omega)).trans hKZ
            exact leave2 rfl errno_agg rfl hG.cr hKZ hKE (by omega) ⟨rfl, (hG.bel.trans hb1).trans (belowK_b (w := wL) (Nat.le_of_lt (Nat.lt_of_le_of_lt (Nat.le_add_right _ 2) FL.big)) _ D _ _ hD hKE2 rfl rfl)⟩
          case done2 =>
            rintro E xs Z hE hxs ⟨hG, hbM, hKZ, hall⟩ hKE
            subst hT
            have hsc : ∀ x ∈ leads m'.t, second (terms ms) x = false := fun x hx => by
              rw [← hxs] at hx
              obtain ⟨y, hy, rfl⟩ := List.mem_map.1 hx
              exact hall y hy
            clear hall hxs h3 h4
            cases hhv : Rf.has (ups (brd (terms ms)) m'.t.name) m'.t.name
            · skip
              have hfl : Rf.flaw (terms ms) (prevT (terms ms) i) m'.t = 0 := by rw [fl_last hp hpv hfd hsc, hhv]; rfl
              obtain rfl : 0 = fv := by rw [← hfv, hfl]
              go_wp2_with fail
              have hGd := hG.drew
              have hS : Z.drew.cell? ⟨w.heap.size, 0, none⟩ = some (.slice (some ⟨b, off, none⟩) n c) ∧ Z.drew.cell? ⟨w.heap.size + 1 + 1, 0, none⟩ = some (.string m'.t.name) := ⟨hGd.cl, hGd.t0⟩
              have hbd : Below Z.heap.size Z Z.drew := brefl.drn 1
              refine wp_region_mix [(true, 0), (true, 1), (true, 2), (true, 4), (true, 5), (false, 3), (false, 6)] 7 (fun wz => wz.cell? ⟨w.heap.size, 0, none⟩ = some (.slice (some ⟨b, off, none⟩) n c) ∧ wz.cell? ⟨w.heap.size + 1 + 1, 0, none⟩ = some (.string m'.t.name)) (by kernel_rfl) (by kernel_rfl) ?_
              generalize Z.drew = Zd at hGd hS hbd ⊢
              refine wpMix_put (v := ?_) rfl rfl (Or.inl ⟨by rfl, fun wz hz => ?_⟩) hS ?_
              rotate_left
              (focus (go_simp; try (with_reducible rfl)))
              simp only [List.setIfInBounds_toArray, List.set_cons_succ, List.set_cons_zero]
              refine wpMix_put (v := ?_) rfl rfl (Or.inl ⟨by rfl, fun wz hz => ?_⟩) hS ?_
              rotate_left
              (focus (go_simp; try (with_reducible rfl)))
              simp only [List.setIfInBounds_toArray, List.set_cons_succ, List.set_cons_zero]
              refine wpMix_put (v := ?_) rfl rfl (Or.inl ⟨by rfl, fun wz hz => ?_⟩) hS ?_
              rotate_left
              (focus (go_simp; try (with_reducible rfl)))
              simp only [List.setIfInBounds_toArray, List.set_cons_succ, List.set_cons_zero]
              refine wpMix_put (v := ?_) rfl rfl (Or.inl ⟨by rfl, fun wz hz => ?_⟩) hS ?_
              rotate_left
              (focus (go_simp; try (with_reducible rfl)))
              simp only [List.setIfInBounds_toArray, List.set_cons_succ, List.set_cons_zero]
              refine wpMix_put (v := ?_) rfl rfl (Or.inl ⟨by rfl, fun wz hz => ?_⟩) hS ?_
              rotate_left
              (focus (go_simp; try (with_reducible rfl)))
              simp only [List.setIfInBounds_toArray, List.set_cons_succ, List.set_cons_zero]
              refine wpMix_step rfl (fun K hK => ?_)
              go_simp
              refine (above_any _ _ _ ms m'.t.name _ hm (hl.below hGd.bel)).mono ?_
              rintro e W2 ⟨A5, k5, c5, rfl, hk5, hs5, hb5⟩
              go_simp
              have hS7 := And.intro ((hb5.cell (p := ⟨w.heap.size, 0, none⟩) (by have := hGd.big; show w.heap.size < _; omega)).trans hS.1) ((hb5.cell (p := ⟨w.heap.size + 1 + 1, 0, none⟩) hGd.big).trans hS.2)
              refine hK _ _ (fun _ => hS7) ?_
              clear hK K hS
              have hS := hS7
              clear hS7
              refine wpMix_step rfl (fun K hK => ?_)
              go_simp
              refine (containsS_any _ _ _ _ m'.t.name _ hk5 hs5).mono ?_
              rintro e W3 ⟨rfl, hW3⟩
              have hW3 := hW3.symm
              subst hW3
              rw [hhv]
              go_simp
              refine hK _ _ (fun _ => hS) ?_
              clear hK K
              refine wpMix_nil ?_
              have G := hGd.below hb5
              have r1 := G.cr
              have r2 := G.fr
              clear hS
              go_wp2
              have G2 := G.store 0
              have hZ2 := hbd.tr hb5
              have hDE : D < wM.heap.size := by omega
              have hKZ2 : (W2.setCell ⟨w.heap.size + 1, 0, none⟩ (.int .i64 0)).heap[D]? = some (.deferred (some [])) := (set_heap _ _ D _ (by have := FL.big; omega)).trans ((hZ2.block D (Array.getElem?_eq_some_iff.1 hKZ).1).trans hKZ)
              have hKE2 : (W2.setCell ⟨w.heap.size + 1, 0, none⟩ (.int .i64 0)).heap[E]? = some (.deferred (some [])) := (set_heap _ _ E _ (by have := FM.big; omega)).trans ((hZ2.block E (Array.getElem?_eq_some_iff.1 hKE).1).trans hKE)
              have hb1 := belowK_b (w := wM) (n₀ := w.heap.size) (Nat.le_of_lt (Nat.lt_of_le_of_lt (Nat.le_add_right _ 2) FM.big)) (W2.setCell ⟨w.heap.size + 1, 0, none⟩ (.int .i64 0)) E _ (Obj.deferred none) hE hKE2 rfl rfl
              have hKE3 : ((W2.setCell ⟨w.heap.size + 1, 0, none⟩ (.int .i64 0)).putObj E (.deferred none)).heap[D]? = some (.deferred (some [])) := (World.putObj_heap_other (by omega)).trans hKZ2
              exact leave2 rfl errno_agg rfl G2.cr hKZ2 hKE2 (by omega) ⟨rfl, (G2.bel.trans hb1).trans (belowK_b (w := wL) (Nat.le_of_lt (Nat.lt_of_le_of_lt (Nat.le_add_right _ 2) FL.big)) _ D _ _ hD hKE3 rfl rfl)⟩
            · skip
              have hfl : Rf.flaw (terms ms) (prevT (terms ms) i) m'.t = 13 := by rw [fl_last hp hpv hfd hsc, hhv]; rfl
              obtain rfl : 13 = fv := by rw [← hfv, hfl]
              go_wp2_with fail
              have hGd := hG.drew
              have hS : Z.drew.cell? ⟨w.heap.size, 0, none⟩ = some (.slice (some ⟨b, off, none⟩) n c) ∧ Z.drew.cell? ⟨w.heap.size + 1 + 1, 0, none⟩ = some (.string m'.t.name) := ⟨hGd.cl, hGd.t0⟩
              have hbd : Below Z.heap.size Z Z.drew := brefl.drn 1
              refine wp_region_mix [(true, 0), (true, 1), (true, 2), (true, 4), (true, 5), (false, 3), (false, 6)] 7 (fun wz => wz.cell? ⟨w.heap.size, 0, none⟩ = some (.slice (some ⟨b, off, none⟩) n c) ∧ wz.cell? ⟨w.heap.size + 1 + 1, 0, none⟩ = some (.string m'.t.name)) (by kernel_rfl) (by kernel_rfl) ?_
              generalize Z.drew = Zd at hGd hS hbd ⊢
              refine wpMix_put (v := ?_) rfl rfl (Or.inl ⟨by rfl, fun wz hz => ?_⟩) hS ?_
              rotate_left
              (focus (go_simp; try (with_reducible rfl)))
              simp only [List.setIfInBounds_toArray, List.set_cons_succ, List.set_cons_zero]
              refine wpMix_put (v := ?_) rfl rfl (Or.inl ⟨by rfl, fun wz hz => ?_⟩) hS ?_
              rotate_left
              (focus (go_simp; try (with_reducible rfl)))
              simp only [List.setIfInBounds_toArray, List.set_cons_succ, List.set_cons_zero]
              refine wpMix_put (v := ?_) rfl rfl (Or.inl ⟨by rfl, fun wz hz => ?_⟩) hS ?_
              rotate_left
              (focus (go_simp; try (with_reducible rfl)))
              simp only [List.setIfInBounds_toArray, List.set_cons_succ, List.set_cons_zero]
              refine wpMix_put (v := ?_) rfl rfl (Or.inl ⟨by rfl, fun wz hz => ?_⟩) hS ?_
              rotate_left
              (focus (go_simp; try (with_reducible rfl)))
              simp only [List.setIfInBounds_toArray, List.set_cons_succ, List.set_cons_zero]
              refine wpMix_put (v := ?_) rfl rfl (Or.inl ⟨by rfl, fun wz hz => ?_⟩) hS ?_
              rotate_left
              (focus (go_simp; try (with_reducible rfl)))
              simp only [List.setIfInBounds_toArray, List.set_cons_succ, List.set_cons_zero]
              refine wpMix_step rfl (fun K hK => ?_)
              go_simp
              refine (above_any _ _ _ ms m'.t.name _ hm (hl.below hGd.bel)).mono ?_
              rintro e W2 ⟨A5, k5, c5, rfl, hk5, hs5, hb5⟩
              go_simp
              have hS7 := And.intro ((hb5.cell (p := ⟨w.heap.size, 0, none⟩) (by have := hGd.big; show w.heap.size < _; omega)).trans hS.1) ((hb5.cell (p := ⟨w.heap.size + 1 + 1, 0, none⟩) hGd.big).trans hS.2)
              refine hK _ _ (fun _ => hS7) ?_
              clear hK K hS
              have hS := hS7
              clear hS7
              refine wpMix_step rfl (fun K hK => ?_)
              go_simp
              refine (containsS_any _ _ _ _ m'.t.name _ hk5 hs5).mono ?_
              rintro e W3 ⟨rfl, hW3⟩
              have hW3 := hW3.symm
              subst hW3
              rw [hhv]
              go_simp
              refine hK _ _ (fun _ => hS) ?_
              clear hK K
              refine wpMix_nil ?_
              have G := hGd.below hb5
              have r1 := G.cr
              have r2 := G.fr
              clear hS
              go_wp2
              have G2 := G.store 13
              have hZ2 := hbd.tr hb5
              have hDE : D < wM.heap.size := by omega
              have hKZ2 : (W2.setCell ⟨w.heap.size + 1, 0, none⟩ (.int .i64 13)).heap[D]? = some (.deferred (some [])) := (set_heap _ _ D _ (by have := FL.big; omega)).trans ((hZ2.block D (Array.getElem?_eq_some_iff.1 hKZ).1).trans hKZ)
              have hKE2 : (W2.setCell ⟨w.heap.size + 1, 0, none⟩ (.int .i64 13)).heap[E]? = some (.deferred (some [])) := (set_heap _ _ E _ (by have := FM.big; omega)).trans ((hZ2.block E (Array.getElem?_eq_some_iff.1 hKE).1).trans hKE)
              have hb1 := belowK_b (w := wM) (n₀ := w.heap.size) (Nat.le_of_lt (Nat.lt_of_le_of_lt (Nat.le_add_right _ 2) FM.big)) (W2.setCell ⟨w.heap.size + 1, 0, none⟩ (.int .i64 13)) E _ (Obj.deferred none) hE hKE2 rfl rfl
              have hKE3 : ((W2.setCell ⟨w.heap.size + 1, 0, none⟩ (.int .i64 13)).putObj E (.deferred none)).heap[D]? = some (.deferred (some [])) := (World.putObj_heap_other (by omega)).trans hKZ2
              exact leave2 rfl errno_agg rfl G2.cr hKZ2 hKE2 (by omega) ⟨rfl, (G2.bel.trans hb1).trans (belowK_b (w := wL) (Nat.le_of_lt (Nat.lt_of_le_of_lt (Nat.le_add_right _ 2) FL.big)) _ D _ _ hD hKE3 rfl rfl)⟩
end Go.Proofs.YtdfnfimajhagfaaGreatDoor
