/- Walk of package vocabulary: above, and what Contains and Find say. -/
import Derived.Test.YtdfnfimajhagfaaGreatDoorV4
import Derived.Test.YtdfnfimajhagfaaGreatDoorP7
import Derived.RangeFuncNested
import Derived.RangeFuncBound
import Derived.RangeFuncCalls
import Derived.RangeFuncLeaves
import Derived.Shelf.Abstract
import Derived.Shelf.RegionOpen
import Derived.WalkKit
import Derived.OwnWalkIn
import Derived.TacticsInMore
import Derived.LoopNIn
import Derived.LoopIn
import Derived.Test.YtdfnfimajhagfaaGreatDoorV5
namespace Go.Proofs.YtdfnfimajhagfaaGreatDoor
open Go.RowKit Go.Maps Go.Sort Rf
theorem flat_few {l : List Term} (h : ∀ t ∈ l, t.broader.length ≤ 100) : (l.flatMap Term.broader).length ≤ 100 * l.length := by
  induction l with
  | nil => simp
  | cons t l ih =>
    have h1 := h t List.mem_cons_self
    have h2 := ih fun u hu => h u (List.mem_cons_of_mem _ hu)
    simp only [List.flatMap_cons, List.length_append, List.length_cons]
    omega
theorem Tms.few {w : World} {A : Option Addr} {n : Nat} {ms : List TM} (h : Tms w A n ms) : ∀ t ∈ terms ms, t.broader.length ≤ 100 := by
  intro t ht
  obtain ⟨m, hm, rfl⟩ := List.mem_map.1 ht
  have := h.2.1 m hm
  rw [this.br.1]; exact this.few
theorem run_store_func (P : Program) (w : World) (a : Addr) (m : Mode) (f : Fn) (ts cs : Array Value) : (store a (.func f ts cs) m).run P w = stored P w a (.func f ts cs) m := run_store P w a _ m rfl
theorem cb_start (w : World) : CB w w.heap.size (w.heap.size + 1 + 1) (w.heap.size + 1 + 1 + 1) (w.heap.size + 1 + 1 + 1 + 1) (w.heap.size + 1) (w.heap.size + 1 + 1 + 1 + 1 + 1) := by
  constructor <;> omega
theorem new_cell (w : World) (v : Value) (t : TypeId) {b : Nat} (hb : b = w.heap.size) {wz : World} (hz : Below (w.alloc (.cells #[v] t)).heap.size (w.alloc (.cells #[v] t)) wz) : wz.cell? ⟨b, 0, none⟩ = some v ∧ wz.frozen? ⟨b, 0, none⟩ = false := by
  subst hb
  refine ⟨(hz.cell (p := ⟨w.heap.size, 0, none⟩) (by simp)).trans ?_, (hz.frozen (p := ⟨w.heap.size, 0, none⟩) (by simp)).trans ?_⟩
  · rw [cell_of_row _ _ _ _ _ _ (heap_alloc_new _ _)]; rfl
  · simp
theorem cs_start (w : World) (A : Option Addr) (n c : Nat) (l : List Term) (hl : (l.flatMap Term.broader).length ≤ 1000000) :
    CS w w.heap.size (w.heap.size + 1 + 1) (w.heap.size + 1 + 1 + 1) (w.heap.size + 1 + 1 + 1 + 1) (w.heap.size + 1) (w.heap.size + 1 + 1 + 1 + 1 + 1) A n c l []
      (((((w.alloc (.cells #[.slice A n c] 28)).alloc (.map #[] 0)).alloc (.cells #[.map (some (w.heap.size + 1))] 137)).alloc (.cells #[.slice none 0 0] 31)).alloc
        (.cells #[.func (.func 137) #[] #[.pointer (some ⟨w.heap.size, 0, none⟩), .pointer (some ⟨w.heap.size + 1 + 1, 0, none⟩), .pointer (some ⟨w.heap.size + 1 + 1 + 1, 0, none⟩), .pointer (some ⟨w.heap.size + 1 + 1 + 1 + 1, 0, none⟩)]] 166)) where
  cl := (new_cell w _ _ rfl ((((brefl.al _).al _).al _).al _)).1
  cm := (new_cell ((w.alloc (.cells #[.slice A n c] 28)).alloc (.map #[] 0)) _ _ (by simp) ((brefl.al _).al _)).1
  cc := (new_cell ((((w.alloc (.cells #[.slice A n c] 28)).alloc (.map #[] 0)).alloc (.cells #[.map (some (w.heap.size + 1))] 137)).alloc (.cells #[.slice none 0 0] 31)) _ _ (by simp) brefl).1
  co := ⟨none, 0, (new_cell (((w.alloc (.cells #[.slice A n c] 28)).alloc (.map #[] 0)).alloc (.cells #[.map (some (w.heap.size + 1))] 137)) _ _ (by simp) (brefl.al _)).1, Own.nil _ _ _ (by simp)⟩
  fo := (new_cell (((w.alloc (.cells #[.slice A n c] 28)).alloc (.map #[] 0)).alloc (.cells #[.map (some (w.heap.size + 1))] 137)) _ _ (by simp) (brefl.al _)).2
  mp := by
    have := MapF.made (w.alloc (.cells #[.slice A n c] 28)) Tryz.prog 9
    simp only [World.size_alloc] at this
    exact ((this.alloc _).alloc _).alloc _
  sz := by simp
  bel := ((((brefl.al _).al _).al _).al _).al _
  few := by
    have : unmetN l [] ≤ (l.flatMap Term.broader).length := List.countP_le_length
    simp; omega
set_option maxRecDepth 20000 in
set_option maxHeartbeats 4000000 in
theorem above_any (A : Option Addr) (n c : Nat) (ms : List TM) (s : S) (w : World) (hm : n ≤ 128) (hl : Tms w A n ms) :
    Calls Tryz.prog 93 #[.slice A n c, .string s] w fun e w' => ∃ A' k c', e = .returned (.slice A' k c') ∧ k ≤ 1000000 ∧ Strs w' A' k (ups (brd (terms ms)) s) ∧ Below w.heap.size w w' := by
  have hmm := @run_makeMap Tryz.prog
  have hsf := run_store_func Tryz.prog
  have hfl : ((terms ms).flatMap Term.broader).length ≤ 1000000 := by
    have h1 := flat_few hl.few
    rw [terms_length hl] at h1
    omega
  have hS0 := cs_start w A n c (terms ms) hfl
  have hcl := climb_any w w.heap.size (w.heap.size + 1 + 1) (w.heap.size + 1 + 1 + 1) (w.heap.size + 1 + 1 + 1 + 1) (w.heap.size + 1) (w.heap.size + 1 + 1 + 1 + 1 + 1) A n c ms (cb_start w) hm hl _ [] s _ rfl hS0
  clear hS0 hfl
  go_enter Tryz.func93, Tryz.ntmps93
  go_wp2_with (first
    | (go_at_call 137; refine hcl.mono ?_; clear hcl; rintro e w6 ⟨rfl, out6, hcl6, hS6⟩; have hfew := hS6.few; obtain ⟨Ao, d, k1, ho6⟩ := hS6.co)
    | (go_at_call 90; refine (sort_any (by omega) ho6).mono ?_; rintro e w7 ⟨rfl, ho7, hg7⟩; have k7 := hg7.cell k1 (fun e => by have := ho6.row (w.heap.size + 1 + 1 + 1) e.symm; omega)))
  go_ret
  refine ⟨Ao, out6.length, d, rfl, by omega, ?_, hS6.bel.gr hg7 (fun k e => by have := ho6.row k e; omega)⟩
  rw [← ups_depth hcl6]
  refine Strs.own ho7 rfl fun x hx => ?_
  obtain ⟨z, hz, rfl⟩ := List.mem_map.1 hx
  rw [mem_msort, List.mem_map] at hz
  obtain ⟨y, hy, rfl⟩ := hz
  rw [ofB_byts]; exact hS6.sz y hy
end Go.Proofs.YtdfnfimajhagfaaGreatDoor
/- Walk of package vocabulary: leads, a function to range over. -/
namespace Go.Proofs.YtdfnfimajhagfaaGreatDoor
open Go.RowKit Go.Maps Go.Shelf Rf
attribute [local go_sem] Oper.semAt_some
set_option maxRecDepth 20000 in
set_option maxHeartbeats 1000000 in
theorem leads_any (m : TM) (w : World) :
    Calls Tryz.prog 127 #[.agg #[.string m.t.name, .int .i64 m.t.kind, .int .i64 m.t.lang, .string m.t.see, .slice m.A m.n m.c]] w fun e w' =>
      e = .returned (.func (.func 169) #[] #[.pointer (some ⟨w.heap.size, 0, none⟩)]) ∧
        w' = w.alloc (.cells #[.string m.t.name, .int .i64 m.t.kind, .int .i64 m.t.lang, .string m.t.see, .slice m.A m.n m.c] 33) := by
  go_enter Tryz.func127, Tryz.ntmps127
  go_wp2
  go_ret
  exact ⟨rfl, rfl⟩
theorem take_pre {p l : List S} {k : Nat} : p ++ l.take k <+: p ++ l := (List.prefix_append_right_inj p).2 (List.take_prefix k l)
set_option maxRecDepth 100000 in
set_option maxHeartbeats 4000000 in
theorem leads1_in (k l Bt N : Nat) (A : Option Addr) (n c : Nat) (t : Term) (w W : World) (J Jx : List S → World → Prop) (hB : Bt < w.heap.size) (h3 : w.cell? ⟨Bt, 3, none⟩ = some (.string t.see)) (h4 : w.cell? ⟨Bt, 4, none⟩ = some (.slice A n c))
    (hk1 : 1 ≤ k) (hn : n ≤ 100) (hs : Strs w A n t.broader) (hW : Below w.heap.size w W) (hN : N = (Rf.leads t).length)
    (hY : ∀ pre x W1, J pre W1 → x ∈ Rf.leads t → pre.length < N → YieldAt Fence.wide (k - 1) Tryz.prog l #[.string x] W1 fun e W' =>
      (e = .returned (.bool true) ∧ J (pre ++ [x]) W' ∧ Below w.heap.size W1 W') ∨ (e = .returned (.bool false) ∧ Jx (pre ++ [x]) W')) (h0 : J [] W) :
    CallsIn Fence.wide k Tryz.prog 169 #[.func (.yield l) #[] #[], .pointer (some ⟨Bt, 0, none⟩)] W fun e W' => (∃ v, e = .returned v) ∧
      ((∃ xs, xs = Rf.leads t ∧ J xs W') ∨ (∃ pre, pre <+: Rf.leads t ∧ Jx pre W')) := by
  have h3W := (hW.cell (p := ⟨Bt, 3, none⟩) hB).trans h3
  have h4W := (hW.cell (p := ⟨Bt, 4, none⟩) hB).trans h4
  cases hse : t.see.data.isEmpty
  · have hld : Rf.leads t = [t.see] ++ t.broader := by unfold Rf.leads; rw [if_neg (by rw [hse]; simp)]
    have e0 := not_empty hse
    have e2 := (empty_data t.see).trans hse
    obtain ⟨fn, tmps, assign, body, hy, hR⟩ := hY [] t.see W h0 (by rw [hld]; simp) (by rw [hN, hld]; simp)
    refine callsIn_of_wp Tryz.func169 rfl trivial ?_ rfl
    simp only [Tryz.ntmps169, List.size_toArray, List.length_cons, List.length_nil, Nat.reduceAdd, Nat.reduceSub, Array.replicate_succ, Array.replicate_zero, List.push_toArray, List.append_toArray, List.nil_append, List.cons_append]
    gi_wp2
    refine hR.mono ?_
    rintro e W3 (⟨rfl, hJ3, hk3⟩ | ⟨rfl, hJx3⟩)
    · have h4X := (hk3.cell (p := ⟨Bt, 4, none⟩) hB).trans h4W
      have hWX := hW.trans hk3
      gi_wp2
      clear h3W h4W h4X
      gi_loopw [18] (fun i wr => ∃ j : Nat, j ≤ n ∧ i = .int .i64 j ∧ J ([t.see] ++ t.broader.take j) wr ∧ Below w.heap.size w wr) (fun i _ => n - (intOf i).toNat)
      case atStart => exact ⟨0, by omega, rfl, by simpa using hJ3, hWX⟩
      case round =>
        obtain ⟨j, hj, rfl, hJ, hbl⟩ := hrel
        by_cases hlt : j < n
        · obtain ⟨b, off, x, rfl, hx, hxs, hb0, hcx⟩ := (hs.below hbl).at_ hlt
          have htk := Rf.take_snoc hx
          have hlen : ([t.see] ++ t.broader.take j).length < N := by rw [hN, hld, List.length_append, List.length_append, List.length_take, hs.1]; omega
          obtain ⟨fn, tmps, assign, body, hy, hR⟩ := hY _ x wr hJ (by rw [hld]; exact List.mem_append_right _ (drop_mem hx)) hlen
          clear hx hb0
          gi_wp2
          refine hR.mono ?_
          rintro e W3 (⟨rfl, hJ3, hk3⟩ | ⟨rfl, hJx3⟩)
          · gi_wp2
            go_roundw
            case rel => exact ⟨j + 1, by omega, by go_num, by rw [htk, ← List.append_assoc]; exact hJ3, hbl.trans hk3⟩
            case measure => simp [intOf]; omega
          · gi_wp2
            refine bodyPost_ret (results_none rfl _ _ _) rfl ?_
            exact ⟨⟨_, rfl⟩, .inr ⟨_, by rw [hld, List.append_assoc, ← htk]; exact take_pre, hJx3⟩⟩
        · have hjn : j = n := by omega
          subst hjn
          gi_wp2
          go_end0
          exact ⟨⟨_, rfl⟩, .inl ⟨_, by rw [hld, take_all hs.1 hj hlt], hJ⟩⟩
    · gi_wp2
      refine bodyPost_ret (results_none rfl _ _ _) rfl ?_
      exact ⟨⟨_, rfl⟩, .inr ⟨_, by rw [hld]; exact List.prefix_append [t.see] t.broader, hJx3⟩⟩
  · have hse2 := is_empty hse
    have hld : Rf.leads t = [] ++ t.broader := by unfold Rf.leads; rw [if_pos hse]
    rw [hse2] at h3W
    refine callsIn_of_wp Tryz.func169 rfl trivial ?_ rfl
    simp only [Tryz.ntmps169, List.size_toArray, List.length_cons, List.length_nil, Nat.reduceAdd, Nat.reduceSub, Array.replicate_succ, Array.replicate_zero, List.push_toArray, List.append_toArray, List.nil_append, List.cons_append]
    gi_wp2
    refine ⟨fun _ h => (by cases h), ?_⟩
    gi_wp2
    clear h3W h4W
    gi_loopw [18] (fun i wr => ∃ j : Nat, j ≤ n ∧ i = .int .i64 j ∧ J ([] ++ t.broader.take j) wr ∧ Below w.heap.size w wr) (fun i _ => n - (intOf i).toNat)
    case atStart => exact ⟨0, by omega, rfl, by simpa using h0, hW⟩
    case round =>
      obtain ⟨j, hj, rfl, hJ, hbl⟩ := hrel
      by_cases hlt : j < n
      · obtain ⟨b, off, x, rfl, hx, hxs, hb0, hcx⟩ := (hs.below hbl).at_ hlt
        have htk := Rf.take_snoc hx
        have hlen : ([] ++ t.broader.take j).length < N := by rw [hN, hld, List.length_append, List.length_append, List.length_take, hs.1]; omega
        obtain ⟨fn, tmps, assign, body, hy, hR⟩ := hY _ x wr hJ (by rw [hld]; exact List.mem_append_right _ (drop_mem hx)) hlen
        clear hx hb0
        gi_wp2
        refine hR.mono ?_
        rintro e W3 (⟨rfl, hJ3, hk3⟩ | ⟨rfl, hJx3⟩)
        · gi_wp2
          go_roundw
          case rel => exact ⟨j + 1, by omega, by go_num, by rw [htk, ← List.append_assoc]; exact hJ3, hbl.trans hk3⟩
          case measure => simp [intOf]; omega
        · gi_wp2
          refine bodyPost_ret (results_none rfl _ _ _) rfl ?_
          exact ⟨⟨_, rfl⟩, .inr ⟨_, by rw [hld, List.append_assoc, ← htk]; exact take_pre, hJx3⟩⟩
      · have hjn : j = n := by omega
        subst hjn
        gi_wp2
        go_end0
        exact ⟨⟨_, rfl⟩, .inl ⟨_, by rw [hld, take_all hs.1 hj hlt], hJ⟩⟩
theorem leads_stops (k Bt : Nat) (hk1 : 1 ≤ k) (A : Option Addr) (n c : Nat) (t : Term) (p : S → Prop) (hp : ∀ x ∈ Rf.leads t, p x) (w : World) (hB : Bt < w.heap.size) (h3 : w.cell? ⟨Bt, 3, none⟩ = some (.string t.see)) (h4 : w.cell? ⟨Bt, 4, none⟩ = some (.slice A n c)) (hn : n ≤ 100) (hs : Strs w A n t.broader) :
    SeqStopsK Fence.wide k Tryz.prog 169 #[.pointer (some ⟨Bt, 0, none⟩)] (fun x : { x : S // p x } => #[Value.string x.1]) (Below w.heap.size) (fun ys => ys.map (·.1) = Rf.leads t) (fun pre => pre.map (·.1) <+: Rf.leads t) (Rf.leads t).length w :=
  fun l J Jx W hW _ _ hY h0 => by
    refine (leads1_in k l Bt _ A n c t w W (fun q W => ∃ r : List { x : S // p x }, r.map (·.1) = q ∧ J r W) (fun q W => ∃ r : List { x : S // p x }, r.map (·.1) = q ∧ Jx r W) hB h3 h4 hk1 hn hs hW rfl (fun pre x W1 hJ hx hlen => ?_) ⟨[], rfl, h0⟩).mono ?_
    · obtain ⟨r, rfl, hJ⟩ := hJ
      obtain ⟨fn, tmps, assign, body, hy, hR⟩ := hY r ⟨x, hp x hx⟩ W1 hJ (by simpa using hlen)
      refine ⟨fn, tmps, assign, body, hy, hR.mono ?_⟩
      rintro e W' (⟨h1, h2, h3⟩ | ⟨h1, h2⟩)
      · exact .inl ⟨h1, ⟨_, by simp, h2⟩, h3⟩
      · exact .inr ⟨h1, ⟨_, by simp, h2⟩⟩
    · rintro e W' ⟨h1, ⟨xs, hx, r, hr, hJ⟩ | ⟨q, hq, r, hr, hJ⟩⟩
      · exact ⟨h1, .inl ⟨r, hr.trans hx, hJ⟩⟩
      · exact ⟨h1, .inr ⟨r, by show r.map (·.1) <+: _; rw [hr]; exact hq, hJ⟩⟩
end Go.Proofs.YtdfnfimajhagfaaGreatDoor
