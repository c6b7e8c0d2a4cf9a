/- Walks: Valid, Without, Repair of the reference model. -/
import Derived.Test.YtdfnfimajhagfaaGreatDoorW5
import Derived.Test.YtdfnfimajhagfaaGreatDoorW6
import Derived.Test.YtdfnfimajhagfaaGreatDoorW7
namespace Go.Proofs.YtdfnfimajhagfaaGreatDoor
open Go.RowKit Go.Maps Rf
set_option maxRecDepth 20000 in
set_option maxHeartbeats 2000000 in
theorem valid_ref (A B : Option Addr) (n m c d : Nat) (l : List Ref) (heads : List S) (w : World) (hm : n ≤ 100000) (hmh : m ≤ 1000000) (hl : Refs w A n l) (hh : Strs w B m heads) :
    Calls Tryz.prog 66 #[.slice A n c, .slice B m d] w fun e w' => e = .returned (.tuple #[.int .i64 (valid l heads).1, .int .i64 (valid l heads).2]) ∧ Below w.heap.size w w' := by
  go_enter Tryz.func66, Tryz.ntmps66
  go_wp2
  go_loopw [6] (fun i wr => ∃ k : Nat, k ≤ n ∧ i = .int .i64 k ∧ Hid (valid l heads = validFrom l heads (l.drop k) k) ∧ Below w.heap.size w wr) (fun i _ => n - (intOf i).toNat)
  case atStart => exact ⟨0, by omega, rfl, rfl, brefl⟩
  case round =>
    obtain ⟨k, hk, rfl, hr, hbl⟩ := hrel
    by_cases hlt : k < n
    · obtain ⟨b, off, r, rfl, hx, hs1, hs2, hb0, hc1, hc2, hc3⟩ := (hl.below hbl).at_ hlt
      have hd := Lib.hid (drop_get hx)
      have hwr := wrong_range l heads k r
      have hwc := wrong_ref _ B n m c d l heads k r wr hm hmh (hl.below hbl) (hh.below hbl) hx
      clear hx hb0
      generalize hwv : wrong l heads k r = v at hwr hwc
      have WV := Lib.hid hwv
      clear hwv
      by_cases hv : v = 0
      · go_wp2_with (go_at_call 114; refine hwc.mono ?_; rintro e w2 ⟨rfl, hb2⟩)
        go_roundw
        case rel => exact ⟨k + 1, by omega, by go_num, by show _ = _; rw [hr.out, hd.out, validFrom_ok WV.out hv], hbl.tr hb2⟩
        case measure => simp [intOf]; omega
      · go_wp2_with (go_at_call 114; refine hwc.mono ?_; rintro e w2 ⟨rfl, hb2⟩)
        go_ret2
        exact ⟨by rw [hr.out, hd.out, validFrom_bad WV.out hv]; rfl, hbl.tr hb2⟩
    · have hd := Lib.hid (drop_len hl.1 hlt)
      have hkn : k = n := by omega
      subst hkn
      go_wp2
      go_ret2
      exact ⟨by rw [hr.out, hd.out]; rfl, hbl⟩
theorem refsT2 : AppT Tryz.prog 80 135 3 40 := AppT.mk Tryz.underlying80 (z := .agg #[.string ByteArray.empty, .string ByteArray.empty, .bool false]) (by kernel_rfl) rfl (by omega)
theorem withoutFrom_hit {r : Ref} {rest : List Ref} {i : Nat} {k : Int} {ks : List Int} (h : k = i) : withoutFrom (r :: rest) i (k :: ks) = withoutFrom rest (i + 1) ks := by
  show (if k = (i : Int) then withoutFrom rest (i + 1) ks else r :: withoutFrom rest (i + 1) (k :: ks)) = _
  rw [if_pos h]
theorem withoutFrom_miss {r : Ref} {rest : List Ref} {i : Nat} {k : Int} {ks : List Int} (h : ¬ k = i) : withoutFrom (r :: rest) i (k :: ks) = r :: withoutFrom rest (i + 1) (k :: ks) := by rw [withoutFrom, if_neg h]
theorem withoutFrom_done {r : Ref} {rest : List Ref} {i : Nat} : withoutFrom (r :: rest) i [] = r :: withoutFrom rest (i + 1) [] := by rw [withoutFrom]
theorem snoc_refs {w : World} {base : Nat} {e : TypeId} {A : Option Addr} {n c : Nat} {l : List Ref} {r : Ref} (o : Own w base e 3 (.slice A n c) n (refsCells l ++ [.string r.frm, .string r.to, .bool r.also])) : Own w base e 3 (.slice A n c) n (refsCells (l ++ [r])) := by
  rw [show refsCells (l ++ [r]) = refsCells l ++ [.string r.frm, .string r.to, .bool r.also] from by simp [refsCells, refCells]]
  exact o
set_option maxRecDepth 20000 in
set_option maxHeartbeats 2000000 in
theorem without_any (A B : Option Addr) (n m c d : Nat) (l : List Ref) (left : List Int) (w : World) (hm : n ≤ 100000) (hmh : m ≤ 1000000) (hl : Refs w A n l) (hh : Ints w B m left) :
    Calls Tryz.prog 116 #[.slice A n c, .slice B m d] w fun e w' => ∃ A' k c', e = .returned (.slice A' k c') ∧ k ≤ c' ∧ k ≤ n ∧ Refs w' A' k (without l left) ∧ Below w.heap.size w w' := by
  go_enter Tryz.func116, Tryz.ntmps116
  go_wp2
  go_loopw [5, 6, 7] (fun o kk ii wr => ∃ (i k m1 c1 : Nat) (A1 : Option Addr) (pre : List Ref), i ≤ n ∧ k ≤ m ∧ ii = .int .i64 i ∧ kk = .int .i64 k ∧ o = .slice A1 m1 c1 ∧ m1 ≤ c1 ∧ m1 ≤ i ∧ Own wr w.heap.size 135 3 (.slice A1 m1 c1) m1 (refsCells pre) ∧
    (∀ q ∈ pre, q.frm.size ≤ maxLen ∧ q.to.size ≤ maxLen) ∧ Hid (without l left = pre ++ withoutFrom (l.drop i) i (left.drop k)) ∧ Below w.heap.size w wr) (fun _ _ ii _ => n - (intOf ii).toNat)
  case atStart => exact ⟨0, 0, 0, 0, none, [], by omega, by omega, rfl, rfl, rfl, by omega, by omega, Own.nil _ _ _ (Nat.le_refl _), by simp, rfl, brefl⟩
  case round =>
    obtain ⟨i, k, m1, c1, A1, pre, hi, hk, rfl, rfl, rfl, hc1, hm1, ho, hpr, hr, hbl⟩ := hrel
    by_cases hlt : i < n
    · obtain ⟨b, off, r, rfl, hx, hs1, hs2, hb0, hd1, hd2, hd3⟩ := (hl.below hbl).at_ hlt
      have hd := Lib.hid (drop_get hx)
      clear hx hb0
      by_cases hkm : k < m
      · obtain ⟨b5, off5, x, rfl, hx5, hxok, hb5, hcx⟩ := (hh.below hbl).at_ hkm
        have hd5 := drop_get hx5
        have hmin : min (k : Int) ((m : Int) - 1) = k := by omega
        clear hx5 hb5
        by_cases hxi : x = i
        · have HW := Lib.hid (show withoutFrom (r :: l.drop (i + 1)) i (left.drop k) = withoutFrom (l.drop (i + 1)) (i + 1) (left.drop (k + 1)) from by rw [hd5, withoutFrom_hit hxi])
          subst hxi
          clear hd5
          go_wp2
          go_roundw
          case rel => exact ⟨i + 1, k + 1, m1, c1, A1, pre, by omega, by omega, by go_num, by go_num, rfl, hc1, by omega, ho, hpr, by show _ = _; rw [hr.out, hd.out, HW.out], hbl⟩
          case measure => simp [intOf]; omega
        · have HW := Lib.hid (show withoutFrom (r :: l.drop (i + 1)) i (left.drop k) = r :: withoutFrom (l.drop (i + 1)) (i + 1) (left.drop k) from by rw [hd5, withoutFrom_miss hxi])
          have hx1 : (x == (i : Int)) = false := by simpa using hxi
          have hx3 : decide (x = (i : Int)) = false := by simpa using hxi
          clear hd5
          go_wp2_with (at_builtin
                       ;
                       refine wpList_app _ refsT2 rfl (.tmp 32) (.tmp 37) rfl (ho.alloc _) rfl rfl (news := [.string r.frm, .string r.to, .bool r.also]) rfl (Rds.new3 wr _ _ _ 135) (by simp [Value.oneCell']) ?_ ?_ ?_
                       ; (focus omega)
                       ; (focus omega)
                       ; intro A4 c4 w4 o4 n4 g4 _
                       )
          have hb4 := (hbl.al (.cells #[.string r.frm, .string r.to, .bool r.also] 135)).gr g4 ho.row
          go_roundw
          case rel => exact ⟨i + 1, k, m1 + 1, c4, A4, pre ++ [r], by omega, by omega, by go_num, rfl, rfl, n4, by omega, snoc_refs o4, (fun q hq => by
            rcases List.mem_append.1 hq with h | h
            · exact hpr q h
            · simp at h; subst h; exact ⟨hs1, hs2⟩), by show _ = _; rw [hr.out, hd.out, HW.out]; simp, hb4⟩
          case measure => simp [intOf]; omega
      · have hkm' : k = m := by omega
        have HW := Lib.hid (show withoutFrom (r :: l.drop (i + 1)) i (left.drop k) = r :: withoutFrom (l.drop (i + 1)) (i + 1) (left.drop k) from by rw [show left.drop k = [] from List.drop_eq_nil_of_le (by have := hh.1; omega), withoutFrom_done])
        clear hkm'
        go_wp2_with (at_builtin
                     ;
                     refine wpList_app _ refsT2 rfl (.tmp 32) (.tmp 37) rfl (ho.alloc _) rfl rfl (news := [.string r.frm, .string r.to, .bool r.also]) rfl (Rds.new3 wr _ _ _ 135) (by simp [Value.oneCell']) ?_ ?_ ?_
                     ; (focus omega)
                     ; (focus omega)
                     ; intro A4 c4 w4 o4 n4 g4 _
                     )
        have hb4 := (hbl.al (.cells #[.string r.frm, .string r.to, .bool r.also] 135)).gr g4 ho.row
        go_roundw
        case rel => exact ⟨i + 1, k, m1 + 1, c4, A4, pre ++ [r], by omega, by omega, by go_num, rfl, rfl, n4, by omega, snoc_refs o4, (fun q hq => by
          rcases List.mem_append.1 hq with h | h
          · exact hpr q h
          · simp at h; subst h; exact ⟨hs1, hs2⟩), by show _ = _; rw [hr.out, hd.out, HW.out]; simp, hb4⟩
        case measure => simp [intOf]; omega
    · have hfin : without l left = pre := by rw [hr.out, drop_len hl.1 hlt]; simp [withoutFrom]
      have HF := Lib.hid hfin
      clear hfin
      go_wp2
      go_ret
      exact ⟨A1, m1, c1, rfl, hc1, by omega, by rw [HF.out]; exact Refs.own ho rfl hpr, hbl⟩
theorem intsT : AppT Tryz.prog 22 3 1 8 := AppT.mk Tryz.underlying22 (z := .int .i64 0) (by kernel_rfl) rfl (by omega)
theorem leftFrom_yes {l : List Ref} {heads : List S} {rest : List Ref} {i : Nat} {r : Ref} (h : isLeft l heads i r = true) : leftFrom l heads (r :: rest) i = i :: leftFrom l heads rest (i + 1) := by rw [leftFrom, if_pos h]
theorem leftFrom_no {l : List Ref} {heads : List S} {rest : List Ref} {i : Nat} {r : Ref} (h : isLeft l heads i r = false) : leftFrom l heads (r :: rest) i = leftFrom l heads rest (i + 1) := by rw [leftFrom, if_neg (by rw [h]; simp)]
theorem deadFrom_yes {l : List Ref} {heads : List S} {rest : List Ref} {d : List S} {r : Ref} (h : (!r.also && (rank l heads r.frm).isNone) = true) : deadFrom l heads (r :: rest) d = deadFrom l heads rest (Rf.put d r.frm) := by rw [deadFrom, if_pos h]
theorem deadFrom_no {l : List Ref} {heads : List S} {rest : List Ref} {d : List S} {r : Ref} (h : (!r.also && (rank l heads r.frm).isNone) = false) : deadFrom l heads (r :: rest) d = deadFrom l heads rest d := by rw [deadFrom, if_neg (by rw [h]; simp)]
end Go.Proofs.YtdfnfimajhagfaaGreatDoor
