/- Walks of package refer: set, of, circles. -/
import Derived.Test.YtdfnfimajhagfaaGreatDoorW3
import Derived.Test.YtdfnfimajhagfaaGreatDoorMap
import Derived.Test.YtdfnfimajhagfaaGreatDoorPlain
import Derived.StillTailTactics
namespace Go.Proofs.YtdfnfimajhagfaaGreatDoor
open Go.RowKit Go.Maps Rf
abbrev MapS (w : World) (b n : Nat) (f : S → Option Value) : Prop := MapF w Tryz.prog 9 b n f
theorem keyS : Tryz.prog.underlying 9 = some .string := Tryz.underlying9
theorem mapB : Tryz.prog.underlying 137 = some (.map 9 4) := Tryz.underlying137
theorem mapI : Tryz.prog.underlying 170 = some (.map 9 3) := Tryz.underlying170
theorem mapL : Tryz.prog.underlying 206 = some (.map 9 31) := Tryz.underlying206
theorem zeroB (w : World) : (zeroValue 4).run Tryz.prog w = .ok (.bool false) w := by kernel_rfl
theorem zeroI (w : World) : (zeroValue 3).run Tryz.prog w = .ok (.int .i64 0) w := by kernel_rfl
theorem zeroL (w : World) : (zeroValue 31).run Tryz.prog w = .ok (.slice none 0 0) w := by kernel_rfl
/-- the elements of a map of truths, of numbers -/
def boolF (l : List S) (s : S) : Option Value := if Rf.has l s then some (.bool true) else none
def intF (f : S → Option Nat) (s : S) : Option Value := (f s).map fun n => .int .i64 n
theorem boolF_get (l : List S) (s : S) : (boolF l s).getD (.bool false) = .bool (Rf.has l s) := by unfold boolF; cases Rf.has l s <;> rfl
theorem boolF_isSome (l : List S) (s : S) : (boolF l s).isSome = Rf.has l s := by unfold boolF; cases Rf.has l s <;> rfl
theorem intF_isSome (f : S → Option Nat) (s : S) : (intF f s).isSome = (f s).isSome := by unfold intF; cases f s <;> rfl
theorem intF_get (f : S → Option Nat) (s : S) : (intF f s).getD (.int .i64 0) = .int .i64 ((f s).getD 0 : Nat) := by unfold intF; cases f s <;> rfl
theorem boolF_nil : boolF [] = fun _ => none := rfl
theorem has_snoc (a : List S) (x s : S) : Rf.has (a ++ [x]) s = (decide (s = x) || Rf.has a s) := by
  rw [Bool.eq_iff_iff, has_iff, Bool.or_eq_true, decide_eq_true_iff, has_iff]
  simp [or_comm]
theorem boolF_snoc (a : List S) (x s : S) : boolF (a ++ [x]) s = updV (boolF a) x (.bool true) s := by
  unfold boolF updV
  rw [has_snoc]
  by_cases h : s = x
  · simp [h]
  · simp [h]
theorem take_all {α : Type} {l : List α} {n k : Nat} (h : l.length = n) (hk : k ≤ n) (hlt : ¬ k < n) : l.take k = l := List.take_of_length_le (by omega)
set_option maxHeartbeats 400000 in
theorem set_any (A : Option Addr) (n c : Nat) (l : List S) (w : World) (hm : n ≤ 1000000) (hl : Strs w A n l) :
    Calls Tryz.prog 110 #[.slice A n c] w fun e w' => ∃ b, e = .returned (.map (some b)) ∧ w.heap.size ≤ b ∧ MapS w' b n (boolF l) ∧ Below w.heap.size w w' := by
  have hmm := @run_makeMap Tryz.prog
  go_enter Tryz.func110, Tryz.ntmps110
  go_wp2
  go_loopw [9] (fun i wr => ∃ k : Nat, k ≤ n ∧ i = .int .i64 k ∧ MapS wr w.heap.size k (boolF (l.take k)) ∧ Below w.heap.size w wr) (fun i _ => n - (intOf i).toNat)
  case atStart => exact ⟨0, by omega, rfl, MapF.made _ _ _, brefl.al _⟩
  case round =>
    obtain ⟨k, hk, rfl, hf, hbl⟩ := hrel
    by_cases hlt : k < n
    · obtain ⟨b, off, x, rfl, hx, hxs, hb, hc⟩ := (hl.below hbl).at_ hlt
      have hd := Lib.hid (take_snoc hx)
      clear hx hb
      go_wp2_with (at_mapUpdate; refine wpList_store _ rfl _ _ _ 137 rfl keyS mapB rfl hf _ rfl _ rfl hxs (by unfold maxLen; omega) ?_; intro w2 hf2 hg2)
      go_roundw
      case rel => exact ⟨k + 1, by omega, by go_num, hf2.congr fun s => by rw [hd.out]; exact boolF_snoc _ _ _, hbl.gr hg2 (by intro j hj; cases hj; exact Nat.le_refl _)⟩
      case measure => simp [intOf]; omega
    · have ht := Lib.hid (take_all hl.1 hk hlt)
      go_wp2
      go_ret
      exact ⟨_, rfl, Nat.le_refl _, (hf.mono hk).congr fun s => by rw [ht.out], hbl⟩
/-! ### the equations of look-ups, whatever was drawn -/
section
variable {w : World} {b n : Nat} {s : S}
theorem MapF.lookI {f : S → Option Nat} (h : MapS w b n (intF f)) (hs : s.size ≤ maxLen) {v : Option Nat} (hv : f s = v) :
    (∀ m, (Instr.lookup 170 (.map (some b)) (.string s) true).run Tryz.prog (w.drewN m) = .ok (.tuple #[.int .i64 (v.getD 0 : Nat), .bool v.isSome]) (w.drewN m)) ∧
    (∀ m, (Instr.lookup 170 (.map (some b)) (.string s) false).run Tryz.prog (w.drewN m) = .ok (.int .i64 (v.getD 0 : Nat)) (w.drewN m)) := by
  subst hv
  have h' : ∀ m, MapS (w.drewN m) b n (intF f) := fun m => h
  refine ⟨fun m => ?_, fun m => ?_⟩
  · have := ((h' m).look keyS mapI (zeroI _) hs).1
    rwa [intF_get, intF_isSome] at this
  · have := ((h' m).look keyS mapI (zeroI _) hs).2
    rwa [intF_get] at this
theorem MapF.lookB {l : List S} (h : MapS w b n (boolF l)) (hs : s.size ≤ maxLen) {v : Bool} (hv : Rf.has l s = v) :
    (∀ m, (Instr.lookup 137 (.map (some b)) (.string s) false).run Tryz.prog (w.drewN m) = .ok (.bool v) (w.drewN m)) := by
  subst hv
  have h' : ∀ m, MapS (w.drewN m) b n (boolF l) := fun m => h
  intro m
  have := ((h' m).look keyS mapB (zeroB _) hs).2
  rwa [boolF_get] at this
end
/-- a region whose first n operations only read, in whatever order, and whose others stand in a row -/
theorem wp_region_tail {P : Program} {id : Nat} {Q : Exit → Act → World → Prop} {a : Act} {w : World} {l : List Oper} (n : Nat) (hm : P.follows .mixedOrders = true) (hB : Region.lexTailB .any l.toArray n = true)
    (h : wpStill P l.toArray w.drew (fun a' => wpList P l.toArray Q (l.drop n) a' w.drew) (l.take n) a) : (Code.region id l.toArray true).wp P Q a w :=
  wp_region_still_tail n hm hB h
/-- a graph in memory -/
def Gr (w : World) (g : Nat) (A : Option Addr) (n c hb sb : Nat) (l : List Ref) (heads : List S) : Prop :=
  g < w.heap.size ∧ n ≤ c ∧ Refs w A n l ∧ MapS w hb heads.length (boolF heads) ∧ MapS w sb n (intF (see l)) ∧
    w.cell? ⟨g, 0, none⟩ = some (.slice A n c) ∧ w.cell? ⟨g, 1, none⟩ = some (.map (some hb)) ∧ w.cell? ⟨g, 2, none⟩ = some (.map (some sb))
theorem Gr.below {w w' : World} {g : Nat} {A : Option Addr} {n c hb sb : Nat} {l : List Ref} {heads : List S} (h : Gr w g A n c hb sb l heads) (hbl : Below w.heap.size w w') : Gr w' g A n c hb sb l heads := by
  obtain ⟨h1, h2, h3, h4, h5, h6, h7, h8⟩ := h
  exact ⟨Nat.lt_of_lt_of_le h1 hbl.size, h2, h3.below hbl, h4.below hbl, h5.below hbl, (hbl.cell (p := ⟨g, 0, none⟩) h1).trans h6, (hbl.cell (p := ⟨g, 1, none⟩) h1).trans h7, (hbl.cell (p := ⟨g, 2, none⟩) h1).trans h8⟩
theorem see_nil : intF (see []) = fun _ => none := rfl
theorem see_new {l : List Ref} {k : Nat} {r : Ref} (h : l[k]? = some r) (ha : r.also = false) (hn : see (l.take k) r.frm = none) (s : S) :
    intF (see (l.take (k + 1))) s = updV (intF (see (l.take k))) r.frm (.int .i64 k) s := by
  unfold intF updV
  rw [see_snoc h]
  by_cases hs : s = r.frm
  · subst hs; rw [hn, if_pos rfl, if_pos ⟨rfl, ha⟩]; rfl
  · rw [if_neg hs, if_neg (fun e => hs e.1)]; simp
theorem see_old {l : List Ref} {k : Nat} {r : Ref} (h : l[k]? = some r) (ho : r.also = true ∨ (see (l.take k) r.frm).isSome = true) (s : S) : intF (see (l.take (k + 1))) s = intF (see (l.take k)) s := by
  unfold intF
  rw [see_snoc h]
  by_cases hs : s = r.frm ∧ r.also = false
  · rw [if_pos hs]
    rcases ho with h | h
    · rw [hs.2] at h; cases h
    · rw [hs.1]; obtain ⟨j, hj⟩ := Option.isSome_iff_exists.1 h; rw [hj]; rfl
  · rw [if_neg hs]; simp
theorem gr_cells {w w' : World} {g : Nat} {row : Option Nat} (hg : w.grownBy w' row) (hr : some g ≠ row) {j : Nat} {v : Value} (h : w.cell? ⟨g, j, none⟩ = some v) : w'.cell? ⟨g, j, none⟩ = some v := hg.cell h hr
set_option maxRecDepth 20000 in
set_option maxHeartbeats 1000000 in
theorem of_any (A B : Option Addr) (n m c d : Nat) (l : List Ref) (heads : List S) (w : World) (hm : n ≤ 100000) (hmh : m ≤ 100000) (hc : n ≤ c) (hl : Refs w A n l) (hh : Strs w B m heads) :
    Calls Tryz.prog 112 #[.slice A n c, .slice B m d] w fun e w' =>
      ∃ g hb sb, e = .returned (.pointer (some ⟨g, 0, none⟩)) ∧ w.heap.size ≤ g ∧ Gr w' g A n c hb sb l heads ∧ Below w.heap.size w w' := by
  have hmm := @run_makeMap Tryz.prog
  go_enter Tryz.func112, Tryz.ntmps112
  go_wp2_with (go_at_call 110; refine (set_any _ _ _ _ _ (by omega) hh).mono ?_; rintro e w1 ⟨hb, rfl, hb1, hf1, hbl1⟩)
  have hm1 : heads.length = m := hh.1
  go_loopw [18] (fun i wr => ∃ k : Nat, k ≤ n ∧ i = .int .i64 k ∧ (w1.heap.size + 1 < wr.heap.size ∧ wr.cell? ⟨w1.heap.size + 1, 0, none⟩ = some (.slice A n c) ∧ wr.cell? ⟨w1.heap.size + 1, 1, none⟩ = some (.map (some hb)) ∧
      wr.cell? ⟨w1.heap.size + 1, 2, none⟩ = some (.map (some w1.heap.size))) ∧ MapS wr hb m (boolF heads) ∧ MapS wr w1.heap.size k (intF (see (l.take k))) ∧ Below w1.heap.size w1 wr) (fun i _ => n - (intOf i).toNat)
  case atStart =>
    refine ⟨0, by omega, rfl, ⟨by simp, ?_, ?_, ?_⟩, (hf1.alloc _).alloc _, (MapF.made _ _ _).alloc _, (brefl.al _).al _⟩
    all_goals simp
  case round =>
    obtain ⟨k, hk, rfl, ⟨hg0, hg1, hg2, hg3⟩, hfh, hfs, hbl⟩ := hrel
    by_cases hlt : k < n
    · obtain ⟨b, off, r, rfl, hx, hs1, hs2, hb0, hc1, hc2, hc3⟩ := (hl.below (hbl1.tr hbl)).at_ hlt
      cases hsee : see (l.take k) r.frm with
      | none =>
        cases ha : r.also
        · obtain ⟨e1, _⟩ := (hfs.alloc (.cells #[.string r.frm, .string r.to, .bool r.also] 136)).lookI hs1 hsee
          rw [ha] at hc3 e1
          have hnew := Lib.hid (see_new hx ha hsee)
          clear hsee ha hx
          go_wp2
          go_quiet (fail)
          go_wp2
          have G3 : ((wr.alloc (.cells #[.string r.frm, .string r.to, .bool false] 136)).drewN nq).cell? ⟨w1.heap.size + 1, 2, none⟩ = some (.map (some w1.heap.size)) := (((brefl (a := wr)).al _).drn nq).cell (p := ⟨w1.heap.size + 1, 2, none⟩) hg0 |>.trans hg3
          have G4 : ((wr.alloc (.cells #[.string r.frm, .string r.to, .bool false] 136)).drewN nq).cell? ⟨wr.heap.size, 0, none⟩ = some (.string r.frm) := by simp
          have hfs2 : MapS ((wr.alloc (.cells #[.string r.frm, .string r.to, .bool false] 136)).drewN nq) w1.heap.size k (intF (see (l.take k))) := hfs.alloc _
          have hbl2 : Below wr.heap.size wr ((wr.alloc (.cells #[.string r.frm, .string r.to, .bool false] 136)).drewN nq) := (brefl.al _).drn _
          generalize ((wr.alloc (.cells #[.string r.frm, .string r.to, .bool false] 136)).drewN nq) = wq at G3 G4 hfs2 hbl2 ⊢
          refine wp_region_tail 7 (by kernel_rfl) (by kernel_rfl) ?_
          simp only [List.take_succ_cons, List.take_zero, List.drop_succ_cons, List.drop_zero]
          repeat still_step
          refine wpStill_nil ?_
          go_wp2_with (at_mapUpdate; refine wpList_store _ rfl _ _ _ 170 rfl keyS mapI rfl (hfs2.drew) _ rfl _ rfl hs1 (by unfold maxLen; omega) ?_; intro w4 hf4 hg4)
          have hne : some (w1.heap.size + 1) ≠ some w1.heap.size := by simp
          have hbw := ((hbl.tr hbl2).drn 1).gr hg4 (by intro j hj; cases hj; exact Nat.le_refl _)
          have hcs : ∀ j v, wr.cell? ⟨w1.heap.size + 1, j, none⟩ = some v → w4.cell? ⟨w1.heap.size + 1, j, none⟩ = some v := fun j v h => hg4.cell (((hbl2.drn 1).cell (p := ⟨w1.heap.size + 1, j, none⟩) hg0).trans h) hne
          have hsz : w1.heap.size + 1 < w4.heap.size := Nat.lt_of_lt_of_le hg0 (Nat.le_trans hbl2.size hg4.size)
          have hfh4 : MapS w4 hb m (boolF heads) := (hfh.below (hbl2.drn 1)).kept hg4 (by simp; have := hf1.lt; omega)
          go_roundw
          case rel => exact ⟨k + 1, by omega, by go_num, ⟨hsz, hcs _ _ hg1, hcs _ _ hg2, hcs _ _ hg3⟩, hfh4, hf4.congr hnew.out, hbw⟩
          case measure => simp [intOf]; omega
        · obtain ⟨e1, _⟩ := (hfs.alloc (.cells #[.string r.frm, .string r.to, .bool r.also] 136)).lookI hs1 hsee
          rw [ha] at hc3 e1
          have hold := Lib.hid (see_old hx (.inl ha))
          clear hsee ha hx
          go_wp2
          go_quiet (fail)
          go_wp2
          have hbl2 : Below wr.heap.size wr ((wr.alloc (.cells #[.string r.frm, .string r.to, .bool true] 136)).drewN nq) := (brefl.al _).drn _
          go_roundw
          case rel => exact ⟨k + 1, by omega, by go_num, ⟨Nat.lt_of_lt_of_le hg0 hbl2.size, (hbl2.cell (p := ⟨w1.heap.size + 1, 0, none⟩) hg0).trans hg1, (hbl2.cell (p := ⟨w1.heap.size + 1, 1, none⟩) hg0).trans hg2, (hbl2.cell (p := ⟨w1.heap.size + 1, 2, none⟩) hg0).trans hg3⟩, hfh.below hbl2, (hfs.mono (Nat.le_succ k)).below hbl2 |>.congr hold.out, hbl.tr hbl2⟩
          case measure => simp [intOf]; omega
      | some j =>
        obtain ⟨e1, _⟩ := (hfs.alloc (.cells #[.string r.frm, .string r.to, .bool r.also] 136)).lookI hs1 hsee
        have hold := Lib.hid (see_old hx (.inr (by rw [hsee]; rfl)))
        clear hsee
        cases ha : r.also
        · rw [ha] at hc3 e1
          clear ha hx
          go_wp2
          go_quiet (fail)
          go_wp2
          have hbl2 : Below wr.heap.size wr ((wr.alloc (.cells #[.string r.frm, .string r.to, .bool false] 136)).drewN nq) := (brefl.al _).drn _
          go_roundw
          case rel => exact ⟨k + 1, by omega, by go_num, ⟨Nat.lt_of_lt_of_le hg0 hbl2.size, (hbl2.cell (p := ⟨w1.heap.size + 1, 0, none⟩) hg0).trans hg1, (hbl2.cell (p := ⟨w1.heap.size + 1, 1, none⟩) hg0).trans hg2, (hbl2.cell (p := ⟨w1.heap.size + 1, 2, none⟩) hg0).trans hg3⟩, hfh.below hbl2, (hfs.mono (Nat.le_succ k)).below hbl2 |>.congr hold.out, hbl.tr hbl2⟩
          case measure => simp [intOf]; omega
        · rw [ha] at hc3 e1
          clear ha hx
          go_wp2
          go_quiet (fail)
          go_wp2
          have hbl2 : Below wr.heap.size wr ((wr.alloc (.cells #[.string r.frm, .string r.to, .bool true] 136)).drewN nq) := (brefl.al _).drn _
          go_roundw
          case rel => exact ⟨k + 1, by omega, by go_num, ⟨Nat.lt_of_lt_of_le hg0 hbl2.size, (hbl2.cell (p := ⟨w1.heap.size + 1, 0, none⟩) hg0).trans hg1, (hbl2.cell (p := ⟨w1.heap.size + 1, 1, none⟩) hg0).trans hg2, (hbl2.cell (p := ⟨w1.heap.size + 1, 2, none⟩) hg0).trans hg3⟩, hfh.below hbl2, (hfs.mono (Nat.le_succ k)).below hbl2 |>.congr hold.out, hbl.tr hbl2⟩
          case measure => simp [intOf]; omega
    · have ht := Lib.hid (take_all hl.1 hk hlt)
      go_wp2
      go_ret
      refine ⟨w1.heap.size + 1, hb, w1.heap.size, rfl, by have := hbl1.size; omega, ⟨hg0, hc, hl.below (hbl1.tr hbl), ?_, (hfs.mono hk).congr fun s => by rw [ht.out], hg1, hg2, hg3⟩, hbl1.tr hbl⟩
      rw [hm1]; exact hfh
end Go.Proofs.YtdfnfimajhagfaaGreatDoor
