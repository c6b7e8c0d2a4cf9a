/- Walk: Far of the reference model. -/
import Derived.Test.YtdeeflbghhajiaaW5
import Derived.Test.YtdeeflbghhajiaaP8
namespace Go.Proofs.Ytdeeflbghhajiaa
open Go.RowKit Go.Maps Rf
set_option maxRecDepth 20000 in
set_option maxHeartbeats 4000000 in
theorem far_ref (A B : Option Addr) (n m c d : Nat) (l : List Ref) (heads : List S) (w : World) (hm : n ≤ 10000) (hmh : m ≤ 10000) (hl : Refs w A n l) (hh : Strs w B m heads) :
    Calls Try.prog 17 #[.slice A n c, .slice B m d] w fun e w' =>
      e = .returned (.tuple #[.int .i64 (far l heads).1, .agg #[.string (far l heads).2.1, .string (far l heads).2.2]]) ∧ Below w.heap.size w w' := by
  go_enter Try.func17, Try.ntmps17
  have hb0 : Below w.heap.size w (w.alloc (.cells #[.string ByteArray.empty, .string ByteArray.empty] 37)) := brefl.al _
  have hb1 := hb0.al (.cells #[.string ByteArray.empty, .string ByteArray.empty] 37)
  go_wp2_with fail
  refine (names_all _ _ _ _ _ _ _ _ _ (by omega) (by omega) (hl.below hb1) (hh.below hb1)).mono ?_
  rintro e w2 ⟨A2, k2, c2, rfl, hk2, hkn2, hs2, hb2, hf2⟩
  go_wp2_with fail
  refine (names_all _ _ _ _ _ _ _ _ _ (by omega) (by omega) (Refs.nil _) (hh.below (hb1.tr hb2))).mono ?_
  rintro e w3 ⟨A3, k3, c3, rfl, hk3, hkn3, hs3, hb3, hf3⟩
  have hb23 := hb2.tr hb3
  have hb13 := hb1.tr hb23
  have z0 : w.heap.size < ((w.alloc (.cells #[.string ByteArray.empty, .string ByteArray.empty] 37)).alloc (.cells #[.string ByteArray.empty, .string ByteArray.empty] 37)).heap.size := by simp; omega
  have z1 : w.heap.size + 1 < ((w.alloc (.cells #[.string ByteArray.empty, .string ByteArray.empty] 37)).alloc (.cells #[.string ByteArray.empty, .string ByteArray.empty] 37)).heap.size := by simp
  have rc0 : w3.cell? ⟨w.heap.size, 0, none⟩ = some (.string ByteArray.empty) := (hb23.cell (p := ⟨w.heap.size, 0, none⟩) z0).trans (by simp)
  have rc1 : w3.cell? ⟨w.heap.size, 1, none⟩ = some (.string ByteArray.empty) := (hb23.cell (p := ⟨w.heap.size, 1, none⟩) z0).trans (by simp)
  have rf : ∀ j, w3.frozen? ⟨w.heap.size, j, none⟩ = false := fun j => (hb23.frozen (p := ⟨w.heap.size, j, none⟩) z0).trans (by simp)
  have pc0 : w3.cell? ⟨w.heap.size + 1, 0, none⟩ = some (.string ByteArray.empty) := (hb23.cell (p := ⟨w.heap.size + 1, 0, none⟩) z1).trans (by simp)
  have pc1 : w3.cell? ⟨w.heap.size + 1, 1, none⟩ = some (.string ByteArray.empty) := (hb23.cell (p := ⟨w.heap.size + 1, 1, none⟩) z1).trans (by simp)
  have pf : ∀ j, w3.frozen? ⟨w.heap.size + 1, j, none⟩ = false := fun j => (hb23.frozen (p := ⟨w.heap.size + 1, j, none⟩) z1).trans (by simp)
  have hA2 : ∀ b off, A2 = some ⟨b, off, none⟩ → some b ≠ some (w.heap.size + 1) := fun b off e h => by have := hf2 b off e; simp at this; cases h; omega
  have hA3 : ∀ b off, A3 = some ⟨b, off, none⟩ → some b ≠ some (w.heap.size + 1) := fun b off e h => by have := hf3 b off e; have := hb2.size; simp at this; cases h; omega
  have hs2' := hs2.below hb3
  have z3 : w.heap.size + 1 < w3.heap.size := Nat.lt_of_lt_of_le z1 hb23.size
  have HF := Lib.hid (show far l heads = (max (farOut l heads (names [] heads) (names l heads) (-1, ByteArray.empty, ByteArray.empty)).1 0, (farOut l heads (names [] heads) (names l heads) (-1, ByteArray.empty, ByteArray.empty)).2) from rfl)
  have hle : ∀ f t dd, steps l heads f t = some dd → dd ≤ n := fun f t dd h => by have := steps_le h; rw [hl.1] at this; exact this
  have hnn : (0 : Int) ≤ (n : Int) := by omega
  clear hs2 hf2 hf3 hb2 hb3 hb23 z0 z1 hb0 hb1
  obtain ⟨P, hP⟩ : ∃ P, w.heap.size + 1 = P := ⟨_, rfl⟩
  rw [hP] at pc0 pc1 pf hA2 hA3 z3
  have HP := Lib.hid hP
  generalize names [] heads = ts at *
  generalize names l heads = fs at *
  go_wp2
  clear hP
  go_loopw [6, 10] (fun y i wz => ∃ (j : Nat) (b : Int × S × S), j ≤ k2 ∧ i = .int .i64 j ∧ y = .int .i64 b.1 ∧ -1 ≤ b.1 ∧ b.1 ≤ n ∧ wz.cell? ⟨P, 0, none⟩ = some (.string b.2.1) ∧ wz.cell? ⟨P, 1, none⟩ = some (.string b.2.2) ∧
    (∀ j, wz.frozen? ⟨P, j, none⟩ = false) ∧ Hid (farOut l heads ts fs (-1, ByteArray.empty, ByteArray.empty) = farOut l heads ts (fs.drop j) b) ∧ w3.grownBy wz (some P)) (fun _ i _ => k2 - (intOf i).toNat)
  case atStart => exact ⟨0, (-1, ByteArray.empty, ByteArray.empty), by omega, rfl, rfl, by simp, by simp, pc0, pc1, pf, rfl, World.grownBy.refl _ _⟩
  case round =>
    clear pc0 pc1 pf
    obtain ⟨j, ⟨mo, p0, p1⟩, hj, rfl, rfl, hmo1, hmo2, pc0, pc1, pf, hr, hgz⟩ := hrel
    simp only at hmo1 hmo2 pc0 pc1
    by_cases hjlt : j < k2
    · obtain ⟨b, off, f, rfl, hx, hfs', hbb, hcx⟩ := hs2'.at_ hjlt
      have hd := Lib.hid (drop_get hx)
      have hjlt' : (j : Int) < k2 := by omega
      clear hx
      obtain ⟨wo, hwo⟩ : ∃ wo : World, wo = wr := ⟨_, rfl⟩
      subst hwo
      go_wp2
      go_loopw [6, 11] (fun y i wi => ∃ (q : Nat) (b : Int × S × S), q ≤ k3 ∧ i = .int .i64 q ∧ y = .int .i64 b.1 ∧ -1 ≤ b.1 ∧ b.1 ≤ n ∧ wi.cell? ⟨P, 0, none⟩ = some (.string b.2.1) ∧ wi.cell? ⟨P, 1, none⟩ = some (.string b.2.2) ∧
        (∀ j, wi.frozen? ⟨P, j, none⟩ = false) ∧ Hid (farIn l heads f ts (mo, p0, p1) = farIn l heads f (ts.drop q) b) ∧ w3.grownBy wi (some P)) (fun _ i _ => k3 - (intOf i).toNat)
      case atStart => exact ⟨0, (mo, p0, p1), by omega, rfl, rfl, hmo1, hmo2, pc0, pc1, pf, rfl, hgz⟩
      case round =>
        clear pc0 pc1 pf hgz
        obtain ⟨q, ⟨bo, q0, q1⟩, hq, rfl, rfl, hbo1, hbo2, pc0, pc1, pf, hr2, hgi⟩ := hrel
        simp only at hbo1 hbo2 pc0 pc1
        by_cases hqlt : q < k3
        · obtain ⟨b5, off5, t, rfl, hx5, hts5, hbb5, hcx5⟩ := hs3.at_ hqlt
          have hd5 := Lib.hid (drop_get hx5)
          have hqlt' : (q : Int) < k3 := by omega
          clear hx5
          have hPz : P < wr.heap.size := Nat.lt_of_lt_of_le z3 hgi.size
          have hbz : Below w.heap.size w wr := hb13.gr hgi (by intro j hj; cases hj; have := HP.out; omega)
          have hcells : ∀ wz, Below wr.heap.size wr wz → wz.cell? ⟨b, off + j, none⟩ = some (.string f) ∧ wz.cell? ⟨b5, off5 + q, none⟩ = some (.string t) := fun wz hz =>
            ⟨(hz.cell (p := ⟨b, off + j, none⟩) (Nat.lt_of_lt_of_le hbb hgi.size)).trans (hgi.cell hcx (hA2 b off rfl)), (hz.cell (p := ⟨b5, off5 + q, none⟩) (Nat.lt_of_lt_of_le hbb5 hgi.size)).trans (hgi.cell hcx5 (hA3 b5 off5 rfl))⟩
          have hdr : Below wr.heap.size wr wr.drew := brefl.drn 1
          have hst := steps_any A B n m c d l heads f t wr.drew (by omega) (by omega) (hl.below (hbz.drn 1)) (hh.below (hbz.drn 1)) hfs'
          have hS := hcells _ hdr
          obtain ⟨sv, hsv⟩ : ∃ sv, steps l heads f t = sv := ⟨_, rfl⟩
          have HSV := Lib.hid hsv
          rw [hsv] at hst
          have hlv := fun dd h => hle f t dd (hsv.trans h)
          clear hsv
          go_wp2
          refine wp_region_mix [(true, 0), (true, 1), (true, 2), (true, 3), (true, 4), (true, 5), (true, 6), (true, 7), (true, 8), (true, 9), (false, 10), (true, 11)] 12 (fun wz => wz.cell? ⟨b, off + j, none⟩ = some (.string f) ∧ wz.cell? ⟨b5, off5 + q, none⟩ = some (.string t)) (by kernel_rfl) (by kernel_rfl) ?_
          refine wpMix_put (v := ?_) rfl rfl (Or.inl ⟨by rfl, fun wz hz => ?_⟩) hS ?_
          rotate_left
          (focus (go_simp; try (with_reducible rfl)))
          simp only [List.setIfInBounds_toArray, List.set_cons_succ, List.set_cons_zero]
          refine wpMix_put (v := ?_) rfl rfl (Or.inl ⟨by rfl, fun wz hz => ?_⟩) hS ?_
          rotate_left
          (focus (go_simp; try (with_reducible rfl)))
          simp only [List.setIfInBounds_toArray, List.set_cons_succ, List.set_cons_zero]
          refine wpMix_put (v := ?_) rfl rfl (Or.inl ⟨by rfl, fun wz hz => ?_⟩) hS ?_
          rotate_left
          (focus (go_simp; try (with_reducible rfl)))
          simp only [List.setIfInBounds_toArray, List.set_cons_succ, List.set_cons_zero]
          refine wpMix_put (v := ?_) rfl rfl (Or.inl ⟨by rfl, fun wz hz => ?_⟩) hS ?_
          rotate_left
          (focus (go_simp; try (with_reducible rfl)))
          simp only [List.setIfInBounds_toArray, List.set_cons_succ, List.set_cons_zero]
          refine wpMix_put (v := ?_) rfl rfl (Or.inl ⟨by rfl, fun wz hz => ?_⟩) hS ?_
          rotate_left
          (focus (go_simp; try (with_reducible rfl)))
          simp only [List.setIfInBounds_toArray, List.set_cons_succ, List.set_cons_zero]
          refine wpMix_put (v := ?_) rfl rfl (Or.inl ⟨by rfl, fun wz hz => ?_⟩) hS ?_
          rotate_left
          (focus (go_simp; try (with_reducible rfl)))
          simp only [List.setIfInBounds_toArray, List.set_cons_succ, List.set_cons_zero]
          refine wpMix_put (v := ?_) rfl rfl (Or.inl ⟨by rfl, fun wz hz => ?_⟩) hS ?_
          rotate_left
          (focus (go_simp; try (with_reducible rfl)))
          simp only [List.setIfInBounds_toArray, List.set_cons_succ, List.set_cons_zero]
          refine wpMix_put (v := ?_) rfl rfl (Or.inl ⟨by rfl, fun wz hz => ?_⟩) hS ?_
          rotate_left
          (focus (go_simp; try (with_reducible rfl)))
          simp only [List.setIfInBounds_toArray, List.set_cons_succ, List.set_cons_zero]
          refine wpMix_put (v := ?_) rfl rfl (Or.inl ⟨by rfl, fun wz hz => ?_⟩) hS ?_
          rotate_left
          (focus (go_simp; try (with_reducible rfl)))
          simp only [List.setIfInBounds_toArray, List.set_cons_succ, List.set_cons_zero]
          refine wpMix_put (v := ?_) rfl rfl (Or.inl ⟨by rfl, fun wz hz => ?_⟩) hS ?_
          rotate_left
          (focus (go_simp; try (with_reducible rfl)))
          simp only [List.setIfInBounds_toArray, List.set_cons_succ, List.set_cons_zero]
          refine wpMix_step rfl (fun K hK => ?_)
          go_simp
          refine hst.mono ?_
          rintro e w7 ⟨rfl, hbc⟩
          go_simp
          have hS7 := hcells _ (hdr.tr hbc)
          refine hK _ _ (fun _ => hS7) ?_
          clear hK K hS
          have hS := hS7
          clear hS7 hst
          have hb7 := hdr.tr hbc
          clear hbc
          refine wpMix_put (v := ?_) rfl rfl (Or.inl ⟨by rfl, fun wz hz => ?_⟩) hS ?_
          rotate_left
          (focus (go_simp; try (with_reducible rfl)))
          simp only [List.setIfInBounds_toArray, List.set_cons_succ, List.set_cons_zero]
          refine wpMix_nil ?_
          have hpc0 := (hb7.cell (p := ⟨P, 0, none⟩) hPz).trans pc0
          have hpc1 := (hb7.cell (p := ⟨P, 1, none⟩) hPz).trans pc1
          have hpf : ∀ j, w7.frozen? ⟨P, j, none⟩ = false := fun j => (hb7.frozen (p := ⟨P, j, none⟩) hPz).trans (pf j)
          have hg7 : w3.grownBy w7 (some P) := hgi.trans (grown_of hb7 _)
          clear pc0 pc1 pf hgi
          cases sv with
          | none =>
            have hstep := Lib.hid (farIn_none (ts := ts.drop (q + 1)) (b := (bo, q0, q1)) HSV.out)
            have hneg : ¬ bo < -1 := by omega
            rw [idx]
            clear hS hcells hlv
            go_wp2
            go_roundw
            case rel => exact ⟨q + 1, (bo, q0, q1), by omega, by go_num, rfl, hbo1, hbo2, hpc0, hpc1, hpf, by show _ = _; rw [hr2.out, hd5.out, hstep.out], hg7⟩
            case measure => simp [intOf]; omega
          | some dd =>
            have hdd := hlv dd rfl
            rw [idx]
            by_cases hlt2 : bo < (dd : Int)
            · have hstep := Lib.hid (farIn_new (ts := ts.drop (q + 1)) (b := (bo, q0, q1)) HSV.out hlt2)
              have hS9 := hcells _ (hb7.drn 1)
              have hpf0 := hpf 0
              have hpf1 := hpf 1
              have hpd0 : w7.drew.cell? ⟨P, 0, none⟩ = some (.string q0) := hpc0
              have hpd1 : w7.drew.cell? ⟨P, 1, none⟩ = some (.string q1) := hpc1
              have hpdf : ∀ j, w7.drew.frozen? ⟨P, j, none⟩ = false := hpf
              have hg9 : w3.grownBy w7.drew (some P) := hg7.trans (grown_of (brefl.drn 1) _)
              replace hS9 : w7.drew.cell? ⟨b, off + j, none⟩ = some (.string f) ∧ w7.drew.cell? ⟨b5, off5 + q, none⟩ = some (.string t) := hS9
              clear hS hcells hlv
              have hS := hS9
              clear hS9
              go_wp2
              refine wp_region_mix [(true, 0), (true, 1), (true, 2), (true, 3), (true, 4), (true, 5), (true, 6), (true, 7), (true, 8), (false, 9)] 9 (fun wz => wz.cell? ⟨b, off + j, none⟩ = some (.string f) ∧ wz.cell? ⟨b5, off5 + q, none⟩ = some (.string t)) (by kernel_rfl) (by kernel_rfl) ?_
              generalize w7.drew = w9 at hpd0 hpd1 hpdf hg9 hS ⊢
              refine wpMix_put (v := ?_) rfl rfl (Or.inl ⟨by rfl, fun wz hz => ?_⟩) hS ?_
              rotate_left
              (focus (go_simp; try (with_reducible rfl)))
              simp only [List.setIfInBounds_toArray, List.set_cons_succ, List.set_cons_zero]
              refine wpMix_put (v := ?_) rfl rfl (Or.inl ⟨by rfl, fun wz hz => ?_⟩) hS ?_
              rotate_left
              (focus (go_simp; try (with_reducible rfl)))
              simp only [List.setIfInBounds_toArray, List.set_cons_succ, List.set_cons_zero]
              refine wpMix_put (v := ?_) rfl rfl (Or.inl ⟨by rfl, fun wz hz => ?_⟩) hS ?_
              rotate_left
              (focus (go_simp; try (with_reducible rfl)))
              simp only [List.setIfInBounds_toArray, List.set_cons_succ, List.set_cons_zero]
              refine wpMix_put (v := ?_) rfl rfl (Or.inl ⟨by rfl, fun wz hz => ?_⟩) hS ?_
              rotate_left
              (focus (go_simp; try (with_reducible rfl)))
              simp only [List.setIfInBounds_toArray, List.set_cons_succ, List.set_cons_zero]
              refine wpMix_put (v := ?_) rfl rfl (Or.inl ⟨by rfl, fun wz hz => ?_⟩) hS ?_
              rotate_left
              (focus (go_simp; try (with_reducible rfl)))
              simp only [List.setIfInBounds_toArray, List.set_cons_succ, List.set_cons_zero]
              refine wpMix_put (v := ?_) rfl rfl (Or.inl ⟨by rfl, fun wz hz => ?_⟩) hS ?_
              rotate_left
              (focus (go_simp; try (with_reducible rfl)))
              simp only [List.setIfInBounds_toArray, List.set_cons_succ, List.set_cons_zero]
              refine wpMix_put (v := ?_) rfl rfl (Or.inl ⟨by rfl, fun wz hz => ?_⟩) hS ?_
              rotate_left
              (focus (go_simp; try (with_reducible rfl)))
              simp only [List.setIfInBounds_toArray, List.set_cons_succ, List.set_cons_zero]
              refine wpMix_put (v := ?_) rfl rfl (Or.inl ⟨by rfl, fun wz hz => ?_⟩) hS ?_
              rotate_left
              (focus (go_simp; try (with_reducible rfl)))
              simp only [List.setIfInBounds_toArray, List.set_cons_succ, List.set_cons_zero]
              refine wpMix_put (v := ?_) rfl rfl (Or.inl ⟨by rfl, fun wz hz => ?_⟩) hS ?_
              rotate_left
              (focus (go_simp; try (with_reducible rfl)))
              simp only [List.setIfInBounds_toArray, List.set_cons_succ, List.set_cons_zero]
              refine wpMix_step rfl (fun K hK => ?_)
              go_simp
              refine hK _ _ (fun h => absurd rfl h) ?_
              clear hK K
              refine wpMix_nil ?_
              obtain ⟨n0, n1, nf, ng⟩ := pair_set hpd0 hpd1 (.string f) (.string t)
              go_wp2
              go_roundw
              case rel => exact ⟨q + 1, ((dd : Int), f, t), by omega, by go_num, rfl, by simp only; omega, by simp only; omega, n0, n1, fun j => (nf j).trans (hpdf j), by show _ = _; rw [hr2.out, hd5.out, hstep.out], hg9.trans ng⟩
              case measure => simp [intOf]; omega
            · have hstep := Lib.hid (farIn_keep (ts := ts.drop (q + 1)) (b := (bo, q0, q1)) HSV.out hlt2)
              clear hS hcells hlv
              go_wp2
              go_roundw
              case rel => exact ⟨q + 1, (bo, q0, q1), by omega, by go_num, rfl, hbo1, hbo2, hpc0, hpc1, hpf, by show _ = _; rw [hr2.out, hd5.out, hstep.out], hg7⟩
              case measure => simp [intOf]; omega
        · have hd5 := Lib.hid (drop_len hs3.1 hqlt)
          go_wp2
          go_roundw
          case rel => exact ⟨j + 1, (bo, q0, q1), by omega, by go_num, rfl, hbo1, hbo2, pc0, pc1, pf, by
            show _ = _
            rw [hr.out, hd.out, farOut, hr2.out, hd5.out]; rfl, hgi⟩
          case measure => simp [intOf]; omega
    · have hd := Lib.hid (drop_len hs2'.1 hjlt)
      have hb9 : Below w.heap.size w wr := hb13.gr hgz (by intro j hj; cases hj; have := HP.out; omega)
      have hne : some w.heap.size ≠ some P := by have := HP.out; simp; omega
      have g0 := hgz.cell rc0 hne
      have g1 := hgz.cell rc1 hne
      have gf : ∀ j, wr.frozen? ⟨w.heap.size, j, none⟩ = false := fun j => (grown_frozen hgz (a := ⟨w.heap.size, j, none⟩) (by have := HP.out; simp only; omega) hne).trans (rf j)
      have hres : far l heads = (max mo 0, p0, p1) := by rw [HF.out, hr.out, hd.out]; rfl
      have HR := Lib.hid hres
      clear hres rc0 rc1 rf
      have gf0 := gf 0
      have gf1 := gf 1
      have hmx : (if mo < 0 then (0 : Int) else mo) = max mo 0 := by
        by_cases h : mo < 0
        · rw [if_pos h]; omega
        · rw [if_neg h]; omega
      have hS : wr.drew.cell? ⟨P, 0, none⟩ = some (.string p0) ∧ wr.drew.cell? ⟨P, 1, none⟩ = some (.string p1) := ⟨pc0, pc1⟩
      have g0' : wr.drew.cell? ⟨w.heap.size, 0, none⟩ = some (.string ByteArray.empty) := g0
      have g1' : wr.drew.cell? ⟨w.heap.size, 1, none⟩ = some (.string ByteArray.empty) := g1
      have gf' : ∀ j, wr.drew.frozen? ⟨w.heap.size, j, none⟩ = false := gf
      have hb9' : Below w.heap.size w wr.drew := hb9.drn 1
      clear g0 g1 gf gf0 gf1 hb9 pc0 pc1 pf hgz
      go_wp2
      refine wp_region_mix [(true, 0), (true, 1), (true, 2), (true, 3), (false, 4)] 4 (fun wz => wz.cell? ⟨P, 0, none⟩ = some (.string p0) ∧ wz.cell? ⟨P, 1, none⟩ = some (.string p1)) (by kernel_rfl) (by kernel_rfl) ?_
      generalize wr.drew = w9 at hS g0' g1' gf' hb9' ⊢
      refine wpMix_put (v := ?_) rfl rfl (Or.inl ⟨by rfl, fun wz hz => ?_⟩) hS ?_
      rotate_left
      (focus (go_simp; try (with_reducible rfl)))
      simp only [List.setIfInBounds_toArray, List.set_cons_succ, List.set_cons_zero]
      refine wpMix_put (v := ?_) rfl rfl (Or.inl ⟨by rfl, fun wz hz => ?_⟩) hS ?_
      rotate_left
      (focus (go_simp; try (with_reducible rfl)))
      simp only [List.setIfInBounds_toArray, List.set_cons_succ, List.set_cons_zero]
      refine wpMix_put (v := ?_) rfl rfl (Or.inl ⟨by rfl, fun wz hz => ?_⟩) hS ?_
      rotate_left
      (focus (go_simp; try (with_reducible rfl)))
      simp only [List.setIfInBounds_toArray, List.set_cons_succ, List.set_cons_zero]
      refine wpMix_put (v := ?_) rfl rfl (Or.inl ⟨by rfl, fun wz hz => ?_⟩) hS ?_
      rotate_left
      (focus (go_simp; try (with_reducible rfl)))
      simp only [List.setIfInBounds_toArray, List.set_cons_succ, List.set_cons_zero]
      refine wpMix_step rfl (fun K hK => ?_)
      go_simp
      refine hK _ _ (fun h => absurd rfl h) ?_
      clear hK K
      refine wpMix_nil ?_
      go_wp2
      have h0 := World.cell?_setCell_same w9 ⟨w.heap.size, 0, none⟩ (.string p0) g0'
      have h1 : (w9.setCell ⟨w.heap.size, 0, none⟩ (.string p0)).cell? ⟨w.heap.size, 1, none⟩ = some (.string ByteArray.empty) := by rw [World.cell?_setCell_other _ _ _ _ (by simp)]; exact g1'
      refine bodyPost_ret (results_tmp_cell rfl rfl (run_loadVar_mid _ _ _ _ [.string p0, .string p1] _ (fun j v hv => ?_) Try.underlying37 rfl (by kernel_rfl))) rfl ?_
      · match j, hv with
        | 0, hv =>
          simp at hv; subst hv
          show ((w9.setCell ⟨w.heap.size, 0, none⟩ (.string p0)).setCell ⟨w.heap.size, 1, none⟩ (.string p1)).cell? ⟨w.heap.size, 0, none⟩ = _
          rw [World.cell?_setCell_other _ _ _ _ (by simp)]; exact h0
        | 1, hv =>
          simp at hv; subst hv
          exact World.cell?_setCell_same _ _ _ h1
      · exact ⟨by rw [HR.out]; rfl, (hb9'.st (Nat.le_refl _) (p := ⟨w.heap.size, 0, none⟩) _).st (Nat.le_refl _) (p := ⟨w.heap.size, 1, none⟩) _⟩
end Go.Proofs.Ytdeeflbghhajiaa
