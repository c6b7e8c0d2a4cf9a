/- Walks of package refer: circles, wrong, Valid. -/
import Derived.Test.YtdfnfimajhagfaaGreatDoorP1
import Derived.Laws.StructEq
namespace Go.Proofs.YtdfnfimajhagfaaGreatDoor
open Go.RowKit Go.Maps Rf
section
variable {w : World} {b n : Nat} {s : S}
theorem MapF.lookI0 {f : S → Option Nat} (h : MapS w b n (intF f)) (hs : s.size ≤ maxLen) {v : Option Nat} (hv : f s = v) :
    (Instr.lookup 170 (.map (some b)) (.string s) true).run Tryz.prog w = .ok (.tuple #[.int .i64 (v.getD 0 : Nat), .bool v.isSome]) w ∧
    (Instr.lookup 170 (.map (some b)) (.string s) false).run Tryz.prog w = .ok (.int .i64 (v.getD 0 : Nat)) w := by
  subst hv
  have := h.look keyS mapI (zeroI _) hs
  rwa [intF_get, intF_isSome] at this
theorem MapF.lookB0 {l : List S} (h : MapS w b n (boolF l)) (hs : s.size ≤ maxLen) {v : Bool} (hv : Rf.has l s = v) :
    (Instr.lookup 137 (.map (some b)) (.string s) false).run Tryz.prog w = .ok (.bool v) w := by
  subst hv
  have := (h.look keyS mapB (zeroB _) hs).2
  rwa [boolF_get] at this
end
theorem circles_same {l : List Ref} {heads : List S} {to x : S} {k : Nat} (h : (x.toList == to.toList) = true) : circles l heads to (k + 1) x = true := by rw [circles, if_pos (show eqS x to = true from h)]
theorem circles_none {l : List Ref} {heads : List S} {to x : S} {k : Nat} (h : (x.toList == to.toList) = false) (hs : see l x = none) : circles l heads to (k + 1) x = false := by
  rw [circles, if_neg (by rw [show eqS x to = false from h]; simp), hs]
theorem circles_head {l : List Ref} {heads : List S} {to x : S} {k j : Nat} (h : (x.toList == to.toList) = false) (hs : see l x = some j) (hh : Rf.has heads x = true) : circles l heads to (k + 1) x = false := by
  rw [circles, if_neg (by rw [show eqS x to = false from h]; simp), hs]; simp only [hh, if_pos]
theorem circles_go {l : List Ref} {heads : List S} {to x : S} {k j : Nat} {r : Ref} (h : (x.toList == to.toList) = false) (hs : see l x = some j) (hh : Rf.has heads x = false) (hr : l[j]? = some r) : circles l heads to (k + 1) x = circles l heads to k r.to := by
  rw [circles, if_neg (by rw [show eqS x to = false from h]; simp), hs]; simp [hh, toOf, hr]
set_option maxRecDepth 20000 in
set_option maxHeartbeats 1000000 in
theorem circles_any (g : Nat) (A : Option Addr) (n c hb sb : Nat) (l : List Ref) (heads : List S) (x to : S) (w : World) (hm : n ≤ 100000) (hg : Gr w g A n c hb sb l heads) (hx : x.size ≤ maxLen) :
    Calls Tryz.prog 145 #[.pointer (some ⟨g, 0, none⟩), .string x, .string to] w fun e w' => e = .returned (.bool (circles l heads to (n + 1) x)) ∧ w = w' := by
  obtain ⟨hg0, hnc, hl, hfh, hfs, c0, c1, c2⟩ := hg
  go_enter Tryz.func145, Tryz.ntmps145
  go_wp2
  go_loop [1, 15] (fun y i => ∃ (k : Nat) (a : S), k ≤ n + 1 ∧ i = .int .i64 k ∧ y = .string a ∧ a.size ≤ maxLen ∧ Hid (circles l heads to (n + 1) x = circles l heads to (n + 1 - k) a)) (fun _ i => n + 1 - (intOf i).toNat)
  case atStart => exact ⟨0, x, by omega, rfl, rfl, hx, rfl⟩
  case round =>
    obtain ⟨k, a, hk, rfl, rfl, ha, hr⟩ := hrel
    by_cases hlt : k < n + 1
    · have hp := Lib.hid (show n + 1 - k = (n - k) + 1 from by omega)
      cases he : (a.toList == to.toList)
      · cases hsee : see l a with
        | none =>
          have e1 := (hfs.lookI0 ha hsee).1
          have hfin := Lib.hid (circles_none (heads := heads) (k := n - k) he hsee)
          clear hsee
          cases hh : Rf.has heads a
          · have e2 := hfh.lookB0 ha hh
            clear hh
            go_wp2
            go_ret
            exact ⟨ret_bool (by rw [hr.out, hp.out, hfin.out]), rfl⟩
          · have e2 := hfh.lookB0 ha hh
            clear hh
            go_wp2
            go_ret
            exact ⟨ret_bool (by rw [hr.out, hp.out, hfin.out]), rfl⟩
        | some j =>
          have e1 := (hfs.lookI0 ha hsee).1
          obtain ⟨hj, r, hr1, _, _⟩ := see_some hsee
          have hjn : j < n := by have := hl.1; omega
          cases hh : Rf.has heads a
          · have e2 := hfh.lookB0 ha hh
            have hfin := Lib.hid (circles_go (k := n - k) he hsee hh hr1)
            obtain ⟨b, off, r', rfl, hx', hs1, hs2, hb0, hc1, hc2, hc3⟩ := hl.at_ hjn
            obtain rfl : r = r' := by rw [hr1] at hx'; injection hx'
            clear hsee hh hx' hr1 hj
            go_wp2
            go_round
            case rel => exact ⟨k + 1, r.to, by omega, by go_num, rfl, hs2, by show _ = _; rw [hr.out, hp.out, hfin.out, show n + 1 - (k + 1) = n - k from by omega]⟩
            case measure => simp [intOf]; omega
          · have e2 := hfh.lookB0 ha hh
            have hfin := Lib.hid (circles_head (k := n - k) he hsee hh)
            clear hsee hh hr1 hj
            go_wp2
            go_ret
            exact ⟨ret_bool (by rw [hr.out, hp.out, hfin.out]), rfl⟩
      · have hfin := Lib.hid (circles_same (l := l) (heads := heads) (k := n - k) he)
        go_wp2
        go_ret
        exact ⟨ret_bool (by rw [hr.out, hp.out, hfin.out]), rfl⟩
    · have hp := Lib.hid (show n + 1 - k = 0 from by omega)
      go_wp2
      go_ret
      exact ⟨ret_bool (by rw [hr.out, hp.out]; rfl), rfl⟩
/-! ### slices.Contains at references -/
def refV (r : Ref) : Value := .agg #[.string r.frm, .string r.to, .bool r.also]
theorem ref_iff (r q : Ref) : r = q ↔ r.frm.toList = q.frm.toList ∧ r.to.toList = q.to.toList ∧ r.also = q.also := by
  have e1 : r.frm.toList = q.frm.toList ↔ r.frm = q.frm := by rw [← eqS_iff]; simp [eqS]
  have e2 : r.to.toList = q.to.toList ↔ r.to = q.to := by rw [← eqS_iff]; simp [eqS]
  rw [e1, e2]
  cases r; cases q; simp
set_option maxRecDepth 20000 in
theorem eql_ref (r q : Ref) (w : World) : Sem.run Tryz.prog (binOp .eql 136 (.agg #[.string r.frm, .string r.to, .bool r.also]) (.agg #[.string q.frm, .string q.to, .bool q.also])) w = .ok (.bool (decide (r = q))) w := by
  have u3 := Tryz.underlying9
  have u4 := Tryz.underlying4
  have hS : Tryz.prog.underlying 136 = some (.struct (Tryz.prog.fieldsOf 136)) := by kernel_rfl
  have hp : Tryz.prog.stoodInHeld 136 = false := by kernel_rfl
  rw [run_eql_struct, show (10000 : Nat) = 9999 + 1 from rfl, run_equalIn_agg w 9999 136 _ _ hS hp]
  simp only [Program.fieldsOf, Tryz.underlying136]
  go_simp
  by_cases h1 : r.frm.toList = q.frm.toList <;> by_cases h2 : r.to.toList = q.to.toList <;> by_cases h3 : r.also = q.also <;> simp [h1, h2, h3] <;> rw [ref_iff] <;> simp [h1, h2, h3]
def idxFrom (r : Ref) : List Ref → Nat → Int
  | [], _ => -1
  | q :: l, i => if r = q then i else idxFrom r l (i + 1)
theorem idxFrom_pos (r : Ref) : ∀ (l : List Ref) (i : Nat), decide (0 ≤ idxFrom r l i) = l.contains r
  | [], i => rfl
  | q :: l, i => by
    unfold idxFrom
    rw [List.contains_cons]
    by_cases h : r = q
    · subst h; simp
    · rw [if_neg h, idxFrom_pos r l (i + 1), show (r == q) = false from by simp [h]]; rfl
theorem idxFrom_ge (r : Ref) : ∀ (l : List Ref) (i : Nat), -1 ≤ idxFrom r l i ∧ idxFrom r l i ≤ i + l.length
  | [], i => by simp [idxFrom]
  | q :: l, i => by
    unfold idxFrom
    split
    · simp; omega
    · have := idxFrom_ge r l (i + 1); simp only [List.length_cons]; omega
set_option maxRecDepth 20000 in
set_option maxHeartbeats 1000000 in
theorem indexRef_any (A : Option Addr) (n c : Nat) (l : List Ref) (r : Ref) (w : World) (hm : n ≤ 100000) (hl : Refs w A n l) :
    Calls Tryz.prog 189 #[.slice A n c, .agg #[.string r.frm, .string r.to, .bool r.also]] w fun e w' => e = .returned (.int .i64 (idxFrom r l 0)) ∧ Below w.heap.size w w' := by
  go_enter Tryz.func189, Tryz.ntmps189
  go_wp2
  go_loopw [8] (fun i wr => ∃ k : Nat, k ≤ n ∧ i = .int .i64 k ∧ (wr.cell? ⟨w.heap.size, 0, none⟩ = some (.string r.frm) ∧ wr.cell? ⟨w.heap.size, 1, none⟩ = some (.string r.to) ∧ wr.cell? ⟨w.heap.size, 2, none⟩ = some (.bool r.also)) ∧
      Hid (idxFrom r l 0 = idxFrom r (l.drop k) k) ∧ Below w.heap.size w wr) (fun i _ => n - (intOf i).toNat)
  case atStart => exact ⟨0, by omega, rfl, ⟨by simp, by simp, by simp⟩, rfl, brefl.al _⟩
  case round =>
    obtain ⟨k, hk, rfl, ⟨c0, c1, c2⟩, hr, hbl⟩ := hrel
    by_cases hlt : k < n
    · obtain ⟨b, off, q, rfl, hx, hs1, hs2, hb0, hc1, hc2, hc3⟩ := (hl.below hbl).at_ hlt
      have hd := Lib.hid (drop_get hx)
      clear hx hb0
      have he := eql_ref r q
      cases hrq : decide (r = q)
      · rw [hrq] at he
        go_wp2
        go_quiet (fail)
        go_wp2
        go_roundw
        case rel => exact ⟨k + 1, by omega, by go_num, ⟨c0, c1, c2⟩, by show _ = _; rw [hr.out, hd.out, idxFrom, if_neg (of_decide_eq_false hrq)], hbl.drn _⟩
        case measure => simp [intOf]; omega
      · rw [hrq] at he
        go_wp2
        go_quiet (fail)
        go_wp2
        go_ret
        exact ⟨ret_i64 (by rw [hr.out, hd.out]; unfold idxFrom; rw [if_pos (of_decide_eq_true hrq)]), hbl.drn _⟩
    · have hd := Lib.hid (drop_len hl.1 hlt)
      go_wp2
      go_ret
      exact ⟨ret_i64 (by rw [hr.out, hd.out]; rfl), hbl⟩
set_option maxRecDepth 20000 in
set_option maxHeartbeats 1000000 in
theorem containsRef_any (A : Option Addr) (n c : Nat) (l : List Ref) (r : Ref) (w : World) (hm : n ≤ 100000) (hl : Refs w A n l) :
    Calls Tryz.prog 144 #[.slice A n c, .agg #[.string r.frm, .string r.to, .bool r.also]] w fun e w' => e = .returned (.bool (l.contains r)) ∧ Below w.heap.size w w' := by
  have hb := idxFrom_ge r l 0
  have hp := Lib.hid (idxFrom_pos r l 0)
  generalize hi : idxFrom r l 0 = i at hb hp
  have hI := Lib.hid hi
  clear hi
  go_enter Tryz.func144, Tryz.ntmps144
  go_wp2_with (go_at_call 189; refine (indexRef_any _ _ _ _ _ _ hm (hl.below (brefl.al _))).mono ?_; rintro e w1 ⟨rfl, hb1⟩; rw [hI.out])
  go_ret
  exact ⟨ret_bool hp.out, (brefl.al _).tr hb1⟩
/-! ### wrong -/
def Wfact (l : List Ref) (heads : List S) (i : Nat) (r : Ref) (e : Int) : Prop := wrong l heads i r = e
section
variable {l : List Ref} {heads : List S} {i : Nat} {r : Ref} (h : l[i]? = some r)
include h
theorem wrong1 (h1 : (l.take i).contains r = true) : wrong l heads i r = 7 := by rw [wrong_eq h, wrongP, if_pos h1]; rfl
theorem wrong2 (h1 : (l.take i).contains r = false) {b a : Bool} (h2 : Rf.has heads r.frm = b) (h3 : r.also = a) (h4 : (b != a) = true) : wrong l heads i r = 11 := by
  rw [wrong_eq h, wrongP, if_neg (by rw [h1]; simp), if_pos (by rw [h2, h3]; exact h4)]; rfl
theorem wrong3 (h1 : (l.take i).contains r = false) (h2 : Rf.has heads r.frm = false) (h3 : r.also = false) {j : Nat} (h4 : see l r.frm = some j) (h5 : j ≠ i) : wrong l heads i r = 14 := by
  rw [wrong_eq h, wrongP, if_neg (by rw [h1]; simp), if_neg (by rw [h2, h3]; simp), if_pos (by rw [h3, h4]; simp [h5])]; rfl
theorem wrong4 (h1 : (l.take i).contains r = false) {a : Bool} (h2 : Rf.has heads r.frm = a) (h3 : r.also = a) (h4 : a = true ∨ see l r.frm = some i) (h5 : Rf.has heads r.to = false) (h6 : a = true ∨ see l r.to = none) : wrong l heads i r = 6 := by
  rw [wrong_eq h, wrongP, if_neg (by rw [h1]; simp), if_neg (by rw [h2, h3]; simp), if_neg (by rw [h3]; rcases h4 with h4 | h4 <;> simp [h4]), if_pos (by rw [h5, h3]; rcases h6 with h6 | h6 <;> simp [h6])]; rfl
theorem wrong5 (h1 : (l.take i).contains r = false) (h2 : Rf.has heads r.frm = true) (h3 : r.also = true) (h5 : Rf.has heads r.to = true) : wrong l heads i r = if (r.frm.toList == r.to.toList) then 13 else 0 := by
  rw [wrong_eq h, wrongP, if_neg (by rw [h1]; simp), if_neg (by rw [h2, h3]; simp), if_neg (by rw [h3]; simp), if_neg (by rw [h5]; simp), if_pos h3]; rfl
theorem wrong6 (h1 : (l.take i).contains r = false) (h2 : Rf.has heads r.frm = false) (h3 : r.also = false) (h4 : see l r.frm = some i) (h5 : Rf.has heads r.to = true ∨ ∃ j, see l r.to = some j) {n : Nat} (hn : l.length = n) :
    wrong l heads i r = if circles l heads r.frm (n + 1) r.to then 13 else 0 := by
  rw [wrong_eq h, wrongP, if_neg (by rw [h1]; simp), if_neg (by rw [h2, h3]; simp), if_neg (by rw [h3, h4]; simp), if_neg (by rw [h3]; rcases h5 with h5 | ⟨j, h5⟩ <;> simp [h5]), if_neg (by rw [h3]; simp), hn]; rfl
end
theorem see_self {l : List Ref} {i : Nat} {r : Ref} (h : l[i]? = some r) (ha : r.also = false) : ∃ j, see l r.frm = some j := by
  cases hs : see l r.frm with
  | some j => exact ⟨j, rfl⟩
  | none => exact absurd ⟨rfl, ha⟩ ((seeFrom_none r.frm l 0).1 hs r (List.mem_of_getElem? h))
set_option maxRecDepth 20000 in
set_option maxHeartbeats 2000000 in
theorem wrongP_any (g : Nat) (A : Option Addr) (n c hb sb : Nat) (l : List Ref) (heads : List S) (i : Nat) (r : Ref) (w : World) (hm : n ≤ 100000) (hg : Gr w g A n c hb sb l heads) (hi : l[i]? = some r) :
    Calls Tryz.prog 113 #[.pointer (some ⟨g, 0, none⟩), .int .i64 i] w fun e w' => e = .returned (.int .i64 (wrong l heads i r)) ∧ Below w.heap.size w w' := by
  have hgb := hg
  obtain ⟨hg0, hnc, hl, hfh, hfs, c0, c1, c2⟩ := hg
  have hin : i < n := by have := (List.getElem?_eq_some_iff.1 hi).1; have := hl.1; omega
  obtain ⟨b, off, q, rfl, hx, hs1, hs2, hb0, hc1, hc2, hc3⟩ := hl.at_ hin
  obtain rfl : q = r := by rw [hi] at hx; injection hx with hx; exact hx.symm
  clear hx
  have HI := Lib.hid hi
  clear hi
  have e1 := ((hfs.alloc (.cells #[.string q.frm, .string q.to, .bool q.also] 136)).lookI hs2 rfl).1
  generalize htv : see l q.to = tv at e1
  have TV := Lib.hid htv
  clear htv
  go_enter Tryz.func113, Tryz.ntmps113
  go_wp2
  go_quiet (fail)
  go_wp2
  have hb3 : Below w.heap.size w ((w.alloc (.cells #[.string q.frm, .string q.to, .bool q.also] 136)).drewN nq) := (brefl.al _).drn _
  have q0 : ((w.alloc (.cells #[.string q.frm, .string q.to, .bool q.also] 136)).drewN nq).cell? ⟨w.heap.size, 0, none⟩ = some (.string q.frm) := by simp
  have q1 : ((w.alloc (.cells #[.string q.frm, .string q.to, .bool q.also] 136)).drewN nq).cell? ⟨w.heap.size, 1, none⟩ = some (.string q.to) := by simp
  have q2 : ((w.alloc (.cells #[.string q.frm, .string q.to, .bool q.also] 136)).drewN nq).cell? ⟨w.heap.size, 2, none⟩ = some (.bool q.also) := by simp
  have qs : w.heap.size < ((w.alloc (.cells #[.string q.frm, .string q.to, .bool q.also] 136)).drewN nq).heap.size := by simp
  generalize ((w.alloc (.cells #[.string q.frm, .string q.to, .bool q.also] 136)).drewN nq) = w3 at hb3 q0 q1 q2 qs ⊢
  clear c0 c1 c2 hfh hfs hl hc1 hc2 hc3 e1
  have hg3 := hgb.below hb3
  obtain ⟨hg0, hnc, hl, hfh, hfs, c0, c1, c2⟩ := hg3
  have hin2 : i ≤ n := by omega
  have hic : i ≤ c := by omega
  refine wp_region_tail 7 (by kernel_rfl) (by kernel_rfl) ?_
  simp only [List.take_succ_cons, List.take_zero, List.drop_succ_cons, List.drop_zero]
  repeat still_step
  refine wpStill_nil ?_
  cases hcc : (l.take i).contains q
  · have CC := Lib.hid hcc
    clear hcc
    go_wp2_with (go_at_call 144; refine (containsRef_any _ _ _ _ _ _ (by omega) ((hl.take hin2).below (brefl.drn 1))).mono ?_; rintro e w4 ⟨rfl, hb4⟩; rw [CC.out])
    have hb34 : Below w3.heap.size w3 w4 := (brefl.drn 1).tr hb4
    have hb5 := hb3.tr hb34
    replace q0 := (hb34.cell (p := ⟨w.heap.size, 0, none⟩) qs).trans q0
    replace q1 := (hb34.cell (p := ⟨w.heap.size, 1, none⟩) qs).trans q1
    replace q2 := (hb34.cell (p := ⟨w.heap.size, 2, none⟩) qs).trans q2
    have hg5 := hgb.below hb5
    have hG : ∀ a, Gr (w4.drewN a) g (some ⟨_, _, none⟩) n c hb sb l heads := fun _ => hg5
    clear hb4 hb34 c0 c1 c2 hfh hfs hl hb3 qs hg0 hnc hgb
    obtain ⟨hg0, hnc, hl, hfh, hfs, c0, c1, c2⟩ := hg5
    cases hh : Rf.has heads q.frm
    · cases ha : q.also
      · obtain ⟨j, hj⟩ := see_self HI.out ha
        have e1 := hfh.lookB hs1 hh
        have e2 := (hfs.lookI hs1 hj).2
        rw [ha] at q2
        by_cases hji : j = i
        · subst hji
          cases ht : Rf.has heads q.to
          · have e3 := hfh.lookB hs2 ht
            cases htt : see l q.to with
            | none =>
              obtain rfl : none = tv := by rw [← htt, ← TV.out]
              have HW := Lib.hid (wrong4 HI.out CC.out hh ha (.inr hj) ht (.inr htt))
              clear hh ha hj ht htt
              go_wp2
              go_quiet (fail)
              go_wp2
              go_quiet (fail)
              go_wp2
              go_quiet (fail)
              go_wp2
              go_ret
              exact ⟨ret_i64 HW.out.symm, ⟨hb5.os, hb5.tape, hb5.output, hb5.size, hb5.block⟩⟩
            | some t =>
              obtain rfl : some t = tv := by rw [← htt, ← TV.out]
              have HW := Lib.hid (wrong6 HI.out CC.out hh ha hj (.inr ⟨t, htt⟩) hl.1)
              clear hh ha hj ht htt
              cases hcir : circles l heads q.frm (n + 1) q.to
              · have HW2 := Lib.hid (show wrong l heads _ q = 0 from by rw [HW.out, hcir]; rfl)
                have HC := Lib.hid hcir
                clear hcir
                go_wp2
                go_quiet (fail)
                go_wp2
                go_quiet (fail)
                go_wp2
                go_quiet (fail)
                go_wp2_with (go_at_call 145; refine (circles_any _ _ _ _ _ _ _ _ _ _ _ hm (hG _) hs2).mono ?_; rintro e w' ⟨rfl, rfl⟩; rw [HC.out])
                go_ret
                exact ⟨ret_i64 HW2.out.symm, ⟨hb5.os, hb5.tape, hb5.output, hb5.size, hb5.block⟩⟩
              · have HW2 := Lib.hid (show wrong l heads _ q = 13 from by rw [HW.out, hcir]; rfl)
                have HC := Lib.hid hcir
                clear hcir
                go_wp2
                go_quiet (fail)
                go_wp2
                go_quiet (fail)
                go_wp2
                go_quiet (fail)
                go_wp2_with (go_at_call 145; refine (circles_any _ _ _ _ _ _ _ _ _ _ _ hm (hG _) hs2).mono ?_; rintro e w' ⟨rfl, rfl⟩; rw [HC.out])
                go_ret
                exact ⟨ret_i64 HW2.out.symm, ⟨hb5.os, hb5.tape, hb5.output, hb5.size, hb5.block⟩⟩
          · have e3 := hfh.lookB hs2 ht
            have HW := Lib.hid (wrong6 HI.out CC.out hh ha hj (.inl ht) hl.1)
            clear hh ha hj ht
            cases hcir : circles l heads q.frm (n + 1) q.to
            · have HW2 := Lib.hid (show wrong l heads _ q = 0 from by rw [HW.out, hcir]; rfl)
              have HC := Lib.hid hcir
              clear hcir
              go_wp2
              go_quiet (fail)
              go_wp2
              go_quiet (fail)
              go_wp2
              go_quiet (fail)
              go_wp2_with (go_at_call 145; refine (circles_any _ _ _ _ _ _ _ _ _ _ _ hm (hG _) hs2).mono ?_; rintro e w' ⟨rfl, rfl⟩; rw [HC.out])
              go_ret
              exact ⟨ret_i64 HW2.out.symm, ⟨hb5.os, hb5.tape, hb5.output, hb5.size, hb5.block⟩⟩
            · have HW2 := Lib.hid (show wrong l heads _ q = 13 from by rw [HW.out, hcir]; rfl)
              have HC := Lib.hid hcir
              clear hcir
              go_wp2
              go_quiet (fail)
              go_wp2
              go_quiet (fail)
              go_wp2
              go_quiet (fail)
              go_wp2_with (go_at_call 145; refine (circles_any _ _ _ _ _ _ _ _ _ _ _ hm (hG _) hs2).mono ?_; rintro e w' ⟨rfl, rfl⟩; rw [HC.out])
              go_ret
              exact ⟨ret_i64 HW2.out.symm, ⟨hb5.os, hb5.tape, hb5.output, hb5.size, hb5.block⟩⟩
        · have hji' : ¬ (j : Int) = (i : Int) := by omega
          have HW := Lib.hid (wrong3 HI.out CC.out hh ha hj hji)
          clear hh ha hj hji
          go_wp2
          go_quiet (fail)
          go_wp2
          go_quiet (fail)
          go_wp2
          go_ret
          exact ⟨ret_i64 HW.out.symm, ⟨hb5.os, hb5.tape, hb5.output, hb5.size, hb5.block⟩⟩
      · have e1 := hfh.lookB hs1 hh
        rw [ha] at q2
        have HW := Lib.hid (wrong2 HI.out CC.out hh ha rfl)
        clear hh ha
        go_wp2
        go_quiet (fail)
        go_wp2
        go_ret
        exact ⟨ret_i64 HW.out.symm, ⟨hb5.os, hb5.tape, hb5.output, hb5.size, hb5.block⟩⟩
    · cases ha : q.also
      · have e1 := hfh.lookB hs1 hh
        rw [ha] at q2
        have HW := Lib.hid (wrong2 HI.out CC.out hh ha rfl)
        clear hh ha
        go_wp2
        go_quiet (fail)
        go_wp2
        go_ret
        exact ⟨ret_i64 HW.out.symm, ⟨hb5.os, hb5.tape, hb5.output, hb5.size, hb5.block⟩⟩
      · have e1 := hfh.lookB hs1 hh
        rw [ha] at q2
        cases ht : Rf.has heads q.to
        · have e3 := hfh.lookB hs2 ht
          have HW := Lib.hid (wrong4 HI.out CC.out hh ha (.inl rfl) ht (.inl rfl))
          clear hh ha ht
          go_wp2
          go_quiet (fail)
          go_wp2
          go_quiet (fail)
          go_wp2
          go_quiet (fail)
          go_wp2
          go_ret
          exact ⟨ret_i64 HW.out.symm, ⟨hb5.os, hb5.tape, hb5.output, hb5.size, hb5.block⟩⟩
        · have e3 := hfh.lookB hs2 ht
          have HW := Lib.hid (wrong5 HI.out CC.out hh ha ht)
          clear hh ha ht
          cases he : (q.frm.toList == q.to.toList)
          · have HW2 := Lib.hid (show wrong l heads i q = 0 from by rw [HW.out, he]; rfl)
            go_wp2
            go_quiet (fail)
            go_wp2
            go_quiet (fail)
            go_wp2
            go_quiet (fail)
            go_wp2
            go_ret
            exact ⟨ret_i64 HW2.out.symm, ⟨hb5.os, hb5.tape, hb5.output, hb5.size, hb5.block⟩⟩
          · have HW2 := Lib.hid (show wrong l heads i q = 13 from by rw [HW.out, he]; rfl)
            go_wp2
            go_quiet (fail)
            go_wp2
            go_quiet (fail)
            go_wp2
            go_quiet (fail)
            go_wp2
            go_ret
            exact ⟨ret_i64 HW2.out.symm, ⟨hb5.os, hb5.tape, hb5.output, hb5.size, hb5.block⟩⟩
  · have CC := Lib.hid hcc
    clear hcc
    go_wp2_with (go_at_call 144; refine (containsRef_any _ _ _ _ _ _ (by omega) ((hl.take hin2).below (brefl.drn 1))).mono ?_; rintro e w4 ⟨rfl, hb4⟩; rw [CC.out])
    go_ret
    exact ⟨ret_i64 (wrong1 HI.out CC.out).symm, (hb3.drn 1).tr hb4⟩
end Go.Proofs.YtdfnfimajhagfaaGreatDoor
