/- Walk of package refer: Far. -/
import Derived.Test.YtdfnfimajhagfaaGreatDoorP6
import Derived.Deep.RegionWith
import Derived.Deep.MidRow
namespace Go.Proofs.YtdfnfimajhagfaaGreatDoor
open Go.RowKit Go.Maps Go.Sort Rf
theorem Strs.kept {w w' : World} {A : Option Addr} {n : Nat} {l : List S} {row : Option Nat} (h : Strs w A n l) (hg : w.grownBy w' row) (hr : ∀ b off, A = some ⟨b, off, none⟩ → some b ≠ row) : Strs w' A n l := ⟨h.1, h.2.1, h.2.2.grown hg hr⟩
theorem grown_of {w w' : World} (hb : Below w.heap.size w w') (row : Option Nat) : w.grownBy w' row := ⟨hb.os, hb.tape, hb.output, hb.size, fun k hk _ => hb.block k hk⟩
theorem results_tmp_cell {P : Program} {fn : Func} {u p : Tmp} {ty : TypeId} (h : fn.results = #[.tmp u, .cell p ty]) {tmps : Array Value} {w : World} {b : Nat} {v : Value} (hp : tmps.getD p undef = .pointer (some ⟨b, 0, none⟩))
    (hv : (loadVar ty ⟨b, 0, none⟩).run P w = .ok v w) : (results fn tmps).run P w = .ok (.tuple #[tmps.getD u undef, v]) w := by
  have hp' : tmps[p]?.getD undef = .pointer (some ⟨b, 0, none⟩) := by simpa using hp
  simp [results, h, hp', asAddr, hv, Result.andThen]
theorem pair_set {w : World} {b : Nat} {u0 u1 : Value} (h0 : w.cell? ⟨b, 0, none⟩ = some u0) (h1 : w.cell? ⟨b, 1, none⟩ = some u1) (v0 v1 : Value) :
    ((w.setCell ⟨b, 0, none⟩ v0).setCell ⟨b, 1, none⟩ v1).cell? ⟨b, 0, none⟩ = some v0 ∧ ((w.setCell ⟨b, 0, none⟩ v0).setCell ⟨b, 1, none⟩ v1).cell? ⟨b, 1, none⟩ = some v1 ∧
      (∀ j, ((w.setCell ⟨b, 0, none⟩ v0).setCell ⟨b, 1, none⟩ v1).frozen? ⟨b, j, none⟩ = w.frozen? ⟨b, j, none⟩) ∧ w.grownBy ((w.setCell ⟨b, 0, none⟩ v0).setCell ⟨b, 1, none⟩ v1) (some b) := by
  have e0 := World.cell?_setCell_same w ⟨b, 0, none⟩ v0 h0
  have e1 : (w.setCell ⟨b, 0, none⟩ v0).cell? ⟨b, 1, none⟩ = some u1 := by rw [World.cell?_setCell_other _ _ _ _ (by simp)]; exact h1
  refine ⟨by rw [World.cell?_setCell_other _ _ _ _ (by simp)]; exact e0, World.cell?_setCell_same _ _ _ e1, fun j => by rw [World.frozen?_setCell, World.frozen?_setCell], (grown_set w ⟨b, 0, none⟩ v0).trans (grown_set _ ⟨b, 1, none⟩ v1)⟩
theorem farIn_none {l : List Ref} {heads : List S} {f t : S} {ts : List S} {b : Int × S × S} (h : steps l heads f t = none) : farIn l heads f (t :: ts) b = farIn l heads f ts b := by rw [farIn, h]
theorem farIn_keep {l : List Ref} {heads : List S} {f t : S} {ts : List S} {b : Int × S × S} {d : Nat} (h : steps l heads f t = some d) (hd : ¬ b.1 < (d : Int)) : farIn l heads f (t :: ts) b = farIn l heads f ts b := by
  rw [farIn, h]; simp only [if_neg hd]
theorem farIn_new {l : List Ref} {heads : List S} {f t : S} {ts : List S} {b : Int × S × S} {d : Nat} (h : steps l heads f t = some d) (hd : b.1 < (d : Int)) : farIn l heads f (t :: ts) b = farIn l heads f ts ((d : Int), f, t) := by
  rw [farIn, h]; simp only [if_pos hd]
theorem names_eq (l : List Ref) (heads : List S) : names l heads = sortS (heads ++ l.map Ref.frm) := rfl
theorem names_nil (heads : List S) : names [] heads = sortS heads := by unfold names sortS; simp
set_option maxRecDepth 20000 in
set_option maxHeartbeats 4000000 in
theorem far_any (A B : Option Addr) (n m c d : Nat) (l : List Ref) (heads : List S) (w : World) (hm : n ≤ 10000) (hmh : m ≤ 10000) (hc : n ≤ c) (hl : Refs w A n l) (hh : Strs w B m heads) :
    Calls Tryz.prog 121 #[.slice A n c, .slice B m d] w fun e w' =>
      e = .returned (.tuple #[.int .i64 (far l heads).1, .agg #[.string (far l heads).2.1, .string (far l heads).2.2]]) ∧ Below w.heap.size w w' := by
  go_enter Tryz.func121, Tryz.ntmps121
  go_wp2_with (first
    | (go_at_call 112; refine (of_any _ _ _ _ _ _ _ _ _ (by omega) (by omega) hc (hl.below (brefl.al _)) (hh.below (brefl.al _))).mono ?_; rintro e w1 ⟨g, hb, sb, rfl, hg1, hg2, hg3⟩)
    | (go_at_call 129; refine (clone_any _ _ _ _ _ (by omega) (hh.below ((brefl.al _).tr hg3))).mono ?_; rintro e w2 ⟨A2, c2, rfl, hc2, ho2, hb2⟩))
  have hb0 : Below w.heap.size w (w.alloc (.cells #[.string ByteArray.empty, .string ByteArray.empty] 152)) := brefl.al _
  have hbw1 : Below w.heap.size w w1 := hb0.tr hg3
  have hfs : w.heap.size < w1.heap.size := by have := hg3.size; simp at this; omega
  have hfc0 : w1.cell? ⟨w.heap.size, 0, none⟩ = some (.string ByteArray.empty) := (hg3.cell (p := ⟨w.heap.size, 0, none⟩) (by simp)).trans (by simp; rfl)
  have hfc1 : w1.cell? ⟨w.heap.size, 1, none⟩ = some (.string ByteArray.empty) := (hg3.cell (p := ⟨w.heap.size, 1, none⟩) (by simp)).trans (by simp; rfl)
  have hff : ∀ j, w1.frozen? ⟨w.heap.size, j, none⟩ = false := fun j => (hg3.frozen (p := ⟨w.heap.size, j, none⟩) (by simp)).trans (by simp)
  go_loopw [7, 27] (fun y i wr => ∃ (k c1 : Nat) (A1 : Option Addr), k ≤ n ∧ i = .int .i64 k ∧ y = .slice A1 (m + k) c1 ∧ m + k ≤ c1 ∧ Own wr w1.heap.size 9 1 (.slice A1 (m + k) c1) (m + k) ((heads ++ (l.take k).map Ref.frm).map Value.string) ∧ Below w1.heap.size w1 wr) (fun _ i _ => n - (intOf i).toNat)
  case atStart => exact ⟨0, c2, A2, by omega, rfl, rfl, hc2, by simpa using ho2, hb2⟩
  case round =>
    obtain ⟨k, c1, A1, hk, rfl, rfl, hc1, ho, hbl⟩ := hrel
    by_cases hlt : k < n
    · obtain ⟨b, off, r, rfl, hx, hs1, hs2, hbb, hd1, hd2, hd3⟩ := (hl.below (hbw1.tr hbl)).at_ hlt
      have hd := Lib.hid (take_snoc hx)
      clear hx hbb
      go_wp2_with (at_builtin; refine wpList_app _ stringsT rfl (.tmp 31) (.tmp 34) rfl ((ho.alloc _).alloc _) rfl rfl (news := [.string r.frm]) rfl (Rds.oneAt (wr.alloc (.cells #[.string r.frm, .string r.to, .bool r.also] 136)) (by simp) (.string r.frm) 9) (by simp [Value.oneCell']) ?_ ?_ ?_; (focus omega); (focus omega); intro A5 c5 w5 o5 n5 g5 _)
      have hb5 := ((hbl.al (.cells #[.string r.frm, .string r.to, .bool r.also] 136)).al (.cells #[.string r.frm] 9)).gr g5 ho.row
      go_roundw
      case rel => exact ⟨k + 1, c5, A5, by omega, by go_num, rfl, n5, by rw [hd.out, show m + (k + 1) = m + k + 1 from by omega]; simpa using o5, hb5⟩
      case measure => simp [intOf]; omega
    · have hkn : k = n := by omega
      have ht := take_all hl.1 hk hlt
      subst hkn
      rw [ht] at ho
      clear ht
      have hnm := Strs.own ho rfl (fun s hs => by
        rcases List.mem_append.1 hs with h | h
        · exact hh.2.1 s h
        · obtain ⟨r, hr, rfl⟩ := List.mem_map.1 h
          exact (hl.2.1 r hr).1)
      have hbwr := hbw1.tr hbl
      have hlc0 := (hbl.cell (p := ⟨w.heap.size, 0, none⟩) hfs).trans hfc0
      have hlc1 := (hbl.cell (p := ⟨w.heap.size, 1, none⟩) hfs).trans hfc1
      have hlf := fun j => (hbl.frozen (p := ⟨w.heap.size, j, none⟩) hfs).trans (hff j)
      have hsw : w.heap.size < wr.heap.size := Nat.lt_of_lt_of_le hfs hbl.size
      have hgr := hg2.below hbl
      have hal : Below wr.heap.size wr (wr.alloc (.cells #[.string ByteArray.empty, .string ByteArray.empty] 152)) := brefl.al _
      clear hfc0 hfc1 hff hb2 ho2
      go_wp2_with (first
        | (go_at_call_of 159 (Value.slice B m d); refine (sorted_any _ _ _ _ _ (by omega) (hh.below (hbwr.tr hal))).mono ?_; rintro e w5 ⟨A5, k5, c5, rfl, hk5, hkn5, hs5, hf5, hb5⟩)
        | (go_at_call_of 159 (Value.slice A1 (m + k) c1); refine (sorted_any _ _ _ _ _ (by omega) (hnm.below (hal.tr hb5))).mono ?_; rintro e w6 ⟨A6, k6, c6, rfl, hk6, hkn6, hs6, hf6, hb6⟩))
      have hps : wr.heap.size < (wr.alloc (.cells #[.string ByteArray.empty, .string ByteArray.empty] 152)).heap.size := by simp
      have hb56 := hb5.tr hb6
      have hpc0 : w6.cell? ⟨wr.heap.size, 0, none⟩ = some (.string ByteArray.empty) := (hb56.cell (p := ⟨wr.heap.size, 0, none⟩) hps).trans (by simp)
      have hpc1 : w6.cell? ⟨wr.heap.size, 1, none⟩ = some (.string ByteArray.empty) := (hb56.cell (p := ⟨wr.heap.size, 1, none⟩) hps).trans (by simp)
      have hpf : ∀ j, w6.frozen? ⟨wr.heap.size, j, none⟩ = false := fun j => (hb56.frozen (p := ⟨wr.heap.size, j, none⟩) hps).trans (by simp)
      have hbo6 := hal.tr hb56
      have hs5' := hs5.below hb6
      have hA5 : ∀ b off, A5 = some ⟨b, off, none⟩ → some b ≠ some wr.heap.size := fun b off e h => by have := hf5 b off e; cases h; omega
      have hA6 : ∀ b off, A6 = some ⟨b, off, none⟩ → some b ≠ some wr.heap.size := fun b off e h => by have := hf6 b off e; have := hb5.size; cases h; omega
      have hth : ∀ t ∈ sortS heads, Rf.has heads t = true := fun t ht => (has_iff _ _).2 (mem_sortS.1 ht)
      have hfar : far l heads = (max (farOut l heads (sortS heads) (sortS (heads ++ l.map Ref.frm)) (-1, ByteArray.empty, ByteArray.empty)).1 0, (farOut l heads (sortS heads) (sortS (heads ++ l.map Ref.frm)) (-1, ByteArray.empty, ByteArray.empty)).2) := by
        unfold far; rw [names_nil, names_eq]
      have HF := Lib.hid hfar
      clear hfar
      obtain ⟨wo, hwo⟩ : ∃ wo : World, wo = wr := ⟨_, rfl⟩
      subst hwo
      clear hb56 hal hb6 hs5 hf5 hf6 hnm hb5 ho hg2 hps
      generalize sortS heads = ts at *
      generalize sortS (heads ++ l.map Ref.frm) = fs at *
      go_loopw [10, 43] (fun y i wz => ∃ (j : Nat) (b : Int × S × S), j ≤ k6 ∧ i = .int .i64 j ∧ y = .int .i64 b.1 ∧ -1 ≤ b.1 ∧ b.1 ≤ k ∧ wz.cell? ⟨wo.heap.size, 0, none⟩ = some (.string b.2.1) ∧ wz.cell? ⟨wo.heap.size, 1, none⟩ = some (.string b.2.2) ∧
        (∀ j, wz.frozen? ⟨wo.heap.size, j, none⟩ = false) ∧ Hid (farOut l heads ts fs (-1, ByteArray.empty, ByteArray.empty) = farOut l heads ts (fs.drop j) b) ∧ w6.grownBy wz (some wo.heap.size)) (fun _ i _ => k6 - (intOf i).toNat)
      case atStart => exact ⟨0, (-1, ByteArray.empty, ByteArray.empty), by omega, rfl, rfl, by simp, by simp, hpc0, hpc1, hpf, rfl, World.grownBy.refl _ _⟩
      case round =>
        clear hpc0 hpc1 hpf
        obtain ⟨j, ⟨mo, p0, p1⟩, hj, rfl, rfl, hmo1, hmo2, hpc0, hpc1, hpf, hr, hgz⟩ := hrel
        simp only at hmo1 hmo2 hpc0 hpc1
        have hboz := hbo6.gr hgz (by intro j hj; cases hj; exact Nat.le_refl _)
        by_cases hjlt : j < k6
        · obtain ⟨b, off, f, rfl, hx, hfs', hbb, hcx⟩ := (hs6.kept hgz hA6).at_ hjlt
          have hd := Lib.hid (drop_get hx)
          clear hx hbb
          go_wp2_with (go_at_call 156; refine (from_any _ _ _ _ _ _ _ (by omega) (hgr.gl.below hboz) hfs').mono ?_; rintro e w7 ⟨sb7, rfl, hm7, hsb7, hb7⟩)
          have hgz7 : w6.grownBy w7 (some wo.heap.size) := hgz.trans (grown_of hb7 _)
          have hpz : wo.heap.size < wr.heap.size := World.block_lt_of_cell? _ _ hpc0
          replace hpc0 := (hb7.cell (p := ⟨wo.heap.size, 0, none⟩) hpz).trans hpc0
          replace hpc1 := (hb7.cell (p := ⟨wo.heap.size, 1, none⟩) hpz).trans hpc1
          replace hpf : ∀ j, w7.frozen? ⟨wo.heap.size, j, none⟩ = false := fun j => (hb7.frozen (p := ⟨wo.heap.size, j, none⟩) hpz).trans (hpf j)
          have hsb7' : some sb7 ≠ some wo.heap.size := by simp; omega
          clear hgz hboz hb7 hsb7 hpz
          go_loopw [10, 52] (fun y i wi => ∃ (q : Nat) (b : Int × S × S), q ≤ k5 ∧ i = .int .i64 q ∧ y = .int .i64 b.1 ∧ -1 ≤ b.1 ∧ b.1 ≤ k ∧ wi.cell? ⟨wo.heap.size, 0, none⟩ = some (.string b.2.1) ∧ wi.cell? ⟨wo.heap.size, 1, none⟩ = some (.string b.2.2) ∧
            (∀ j, wi.frozen? ⟨wo.heap.size, j, none⟩ = false) ∧ Hid (farIn l heads f ts (mo, p0, p1) = farIn l heads f (ts.drop q) b) ∧ w7.grownBy wi (some wo.heap.size)) (fun _ i _ => k5 - (intOf i).toNat)
          case atStart => exact ⟨0, (mo, p0, p1), by omega, rfl, rfl, hmo1, hmo2, hpc0, hpc1, hpf, rfl, World.grownBy.refl _ _⟩
          case round =>
            clear hpc0 hpc1 hpf
            obtain ⟨q, ⟨bo, q0, q1⟩, hq, rfl, rfl, hbo1, hbo2, hpc0, hpc1, hpf, hr2, hgi⟩ := hrel
            simp only at hbo1 hbo2 hpc0 hpc1
            by_cases hqlt : q < k5
            · obtain ⟨b5, off5, t, rfl, hx5, hts5, hbb5, hcx5⟩ := (hs5'.kept (hgz7.trans hgi) hA5).at_ hqlt
              have hd5 := Lib.hid (drop_get hx5)
              have hst := steps_head (l := l) (hth t (List.mem_of_getElem? hx5)) f
              clear hx5 hbb5
              have hm8 := hm7.kept hgi hsb7'
              cases hdt : dist l f t with
              | none =>
                have e1 := (hm8.lookI0 hts5 hdt).1
                have hstep := Lib.hid (farIn_none (ts := ts.drop (q + 1)) (b := (bo, q0, q1)) (hst.trans hdt))
                clear hst hdt
                go_wp2
                go_roundw
                case rel => exact ⟨q + 1, (bo, q0, q1), by omega, by go_num, rfl, hbo1, hbo2, hpc0, hpc1, hpf, by show _ = _; rw [hr2.out, hd5.out, hstep.out], hgi⟩
                case measure => simp [intOf]; omega
              | some dd =>
                have hdd := dist_le hdt
                have hll := hl.1
                have e1 := (hm8.lookI0 hts5 hdt).1
                by_cases hlt2 : bo < (dd : Int)
                · have hstep := Lib.hid (farIn_new (ts := ts.drop (q + 1)) (b := (bo, q0, q1)) (hst.trans hdt) hlt2)
                  clear hst hdt
                  have hpf0 := hpf 0
                  have hpf1 := hpf 1
                  go_wp2
                  obtain ⟨n0, n1, nf, ng⟩ := pair_set hpc0 hpc1 (.string f) (.string t)
                  go_roundw
                  case rel => exact ⟨q + 1, ((dd : Int), f, t), by omega, by go_num, rfl, by simp only; omega, by simp only; omega, n0, n1, fun j => (nf j).trans (hpf j), by show _ = _; rw [hr2.out, hd5.out, hstep.out], hgi.trans ng⟩
                  case measure => simp [intOf]; omega
                · have hstep := Lib.hid (farIn_keep (ts := ts.drop (q + 1)) (b := (bo, q0, q1)) (hst.trans hdt) hlt2)
                  clear hst hdt
                  go_wp2
                  go_roundw
                  case rel => exact ⟨q + 1, (bo, q0, q1), by omega, by go_num, rfl, hbo1, hbo2, hpc0, hpc1, hpf, by show _ = _; rw [hr2.out, hd5.out, hstep.out], hgi⟩
                  case measure => simp [intOf]; omega
            · have hd5 := Lib.hid (drop_len hs5'.1 hqlt)
              go_wp2
              go_roundw
              case rel => exact ⟨j + 1, (bo, q0, q1), by omega, by go_num, rfl, hbo1, hbo2, hpc0, hpc1, hpf, by
                show _ = _
                rw [hr.out, hd.out, farOut, hr2.out, hd5.out]; rfl, hgz7.trans hgi⟩
              case measure => simp [intOf]; omega
        · have hd := Lib.hid (drop_len hs6.1 hjlt)
          go_wp2
          have hlow := hlc0
          have g0 := (hboz.cell (p := ⟨w.heap.size, 0, none⟩) hsw).trans hlc0
          have g1 := (hboz.cell (p := ⟨w.heap.size, 1, none⟩) hsw).trans hlc1
          have gf0 := (hboz.frozen (p := ⟨w.heap.size, 0, none⟩) hsw).trans (hlf 0)
          have gf1 := (hboz.frozen (p := ⟨w.heap.size, 1, none⟩) hsw).trans (hlf 1)
          have hmx : (if mo < 0 then (0 : Int) else mo) = max mo 0 := by
            by_cases h : mo < 0
            · rw [if_pos h]; omega
            · rw [if_neg h]; omega
          have hres : far l heads = (max mo 0, p0, p1) := by rw [HF.out, hr.out, hd.out]; rfl
          refine wp_region_tail 4 (by kernel_rfl) (by kernel_rfl) ?_
          simp only [List.take_succ_cons, List.take_zero, List.drop_succ_cons, List.drop_zero]
          repeat still_step
          refine wpStill_nil ?_
          go_wp2
          refine bodyPost_ret (results_tmp_cell rfl rfl (run_loadVar_mid _ _ _ _ [.string p0, .string p1] _ (fun j v hv => ?_) Tryz.underlying152 rfl (by kernel_rfl))) rfl ?_
          · have h0 := World.cell?_setCell_same wr ⟨w.heap.size, 0, none⟩ (.string p0) g0
            have h1 : (wr.setCell ⟨w.heap.size, 0, none⟩ (.string p0)).cell? ⟨w.heap.size, 1, none⟩ = some (.string ByteArray.empty) := by rw [World.cell?_setCell_other _ _ _ _ (by simp)]; exact g1
            match j, hv with
            | 0, hv =>
              simp at hv; subst hv
              show ((wr.setCell ⟨w.heap.size, 0, none⟩ (.string p0)).setCell ⟨w.heap.size, 1, none⟩ (.string p1)).cell? ⟨w.heap.size, 0, none⟩ = _
              rw [World.cell?_setCell_other _ _ _ _ (by simp)]; exact h0
            | 1, hv =>
              simp at hv; subst hv
              exact World.cell?_setCell_same _ _ _ h1
          · refine ⟨by rw [hres]; rfl, ?_⟩
            have hb9 := hbwr.tr hboz
            exact (((hb9.st (Nat.le_refl _) (p := ⟨w.heap.size, 0, none⟩) _).st (Nat.le_refl _) (p := ⟨w.heap.size, 1, none⟩) _).drn 1)
end Go.Proofs.YtdfnfimajhagfaaGreatDoor
