/- Walks: Names, Far, Way of the reference model. -/
import Derived.Test.YtdeeflbghhajiaaW4
import Derived.Test.YtdeeflbghhajiaaReg
import Derived.Deep.RegionWith
namespace Go.Proofs.Ytdeeflbghhajiaa
open Go.RowKit Go.Maps Rf
theorem foldl_drop {l : List S} {k : Nat} {x : S} {acc : List S} (h : l[k]? = some x) : (l.drop k).foldl Rf.put acc = (l.drop (k + 1)).foldl Rf.put (Rf.put acc x) := by rw [drop_get h]; rfl
theorem put_len (l : List S) (s : S) : (Rf.put l s).length ≤ l.length + 1 := by
  unfold put; simp only
  split
  · omega
  · have := putAt_le l s l.length; simp; omega
/-- a slice in a block that is new -/
def Fresh (B : Nat) (A : Option Addr) : Prop := ∀ b off, A = some ⟨b, off, none⟩ → B ≤ b
theorem Fresh.no (B : Nat) : Fresh B none := fun _ _ h => by cases h
theorem Fresh.put {B N : Nat} {A A' : Option Addr} (h : Fresh B A) (hA : A' = A ∨ ∀ b off, A' = some ⟨b, off, none⟩ → N ≤ b) (hN : B ≤ N) : Fresh B A' := fun b off e => by
  rcases hA with rfl | hA
  · exact h b off e
  · exact Nat.le_trans hN (hA b off e)
set_option maxHeartbeats 1000000 in
theorem names_all (A B : Option Addr) (n m c d : Nat) (l : List Ref) (heads : List S) (w : World) (hm : n ≤ 100000) (hmh : m ≤ 100000) (hl : Refs w A n l) (hh : Strs w B m heads) :
    Calls Try.prog 42 #[.slice A n c, .slice B m d] w fun e w' =>
      ∃ A' k c', e = .returned (.slice A' k c') ∧ k ≤ c' ∧ k ≤ n + m ∧ Strs w' A' k (names l heads) ∧ Below w.heap.size w w' ∧ Fresh w.heap.size A' := by
  go_enter Try.func42, Try.ntmps42
  go_wp2
  go_loopw [5, 6] (fun o i wr => ∃ (k m3 c3 : Nat) (A3 : Option Addr) (nx : List S), k ≤ m ∧ i = .int .i64 k ∧ o = .slice A3 m3 c3 ∧ m3 ≤ c3 ∧ m3 ≤ k ∧ Strs wr A3 m3 nx ∧ Hid ((heads.drop k).foldl Rf.put nx = heads.foldl Rf.put []) ∧ Below w.heap.size w wr ∧ Fresh w.heap.size A3) (fun _ i _ => m - (intOf i).toNat)
  case atStart => exact ⟨0, 0, 0, none, [], by omega, rfl, rfl, by omega, by omega, Strs.nil _, rfl, brefl, Fresh.no _⟩
  case round =>
    obtain ⟨k, m3, c3, A3, nx, hk, rfl, rfl, hc3, hmk, hs, hr, hbl, hfr⟩ := hrel
    by_cases hlt : k < m
    · obtain ⟨b, off, x, rfl, hx, hsz, hb, hcell⟩ := (hh.below hbl).at_ hlt
      have hr2 := Lib.hid ((foldl_drop hx).symm.trans hr.out)
      have hpl := put_len nx x
      have hsl := hs.1
      have hpl2 : (Rf.put nx x).length ≤ m3 + 1 := by omega
      clear hx hb hr hpl hsl
      go_wp2_with (go_at_call 48; refine (put_all _ _ _ _ _ _ (by omega) hc3 hsz hs).mono ?_; rintro e w4 ⟨A4, m4, c4, rfl, hc4, hs4, hb4, hA4⟩)
      have h4 := hs4.1
      go_roundw
      case rel => exact ⟨k + 1, m4, c4, A4, _, by omega, by go_num, rfl, hc4, by omega, hs4, hr2, hbl.tr hb4, hfr.put hA4 hbl.size⟩
      case measure => simp [intOf]; omega
    · have hr2 : nx = heads.foldl Rf.put [] := by rw [← hr.out, drop_len hh.1 hlt]; rfl
      have hr2 := Lib.hid hr2
      clear hr
      obtain ⟨wo, rfl⟩ : ∃ wo : World, wo = wr := ⟨_, rfl⟩
      go_wp2
      go_loopw [5, 7] (fun o i wr => ∃ (k2 m5 c5 : Nat) (A5 : Option Addr) (nx2 : List S), k2 ≤ n ∧ i = .int .i64 k2 ∧ o = .slice A5 m5 c5 ∧ m5 ≤ c5 ∧ m5 ≤ k2 + m ∧ Strs wr A5 m5 nx2 ∧ Hid (((l.map Ref.frm).drop k2).foldl Rf.put nx2 = (l.map Ref.frm).foldl Rf.put nx) ∧ Below wo.heap.size wo wr ∧ Fresh w.heap.size A5) (fun _ i _ => n - (intOf i).toNat)
      case atStart => exact ⟨0, m3, c3, A3, nx, by omega, rfl, rfl, hc3, by omega, hs, rfl, brefl, hfr⟩
      case round =>
        obtain ⟨k2, m5, c5, A5, nx2, hk2, rfl, rfl, hc5, hmk5, hs5, hr5, hbl5, hfr5⟩ := hrel
        by_cases hlt2 : k2 < n
        · obtain ⟨b, off, r, rfl, hx, hsz1, hsz2, hb, hcell1, hcell2, _⟩ := (hl.below (hbl.tr hbl5)).at_ hlt2
          have hr6 := Lib.hid ((foldl_drop (l := l.map Ref.frm) (by rw [List.getElem?_map, hx]; rfl)).symm.trans hr5.out)
          have hpl := put_len nx2 r.frm
          have hsl := hs5.1
          have hpl2 : (Rf.put nx2 r.frm).length ≤ m5 + 1 := by omega
          clear hx hb hr5 hpl hsl hcell2
          go_wp2_with (go_at_call 48; refine (put_all _ _ _ _ _ _ (by omega) hc5 hsz1 hs5).mono ?_; rintro e w4 ⟨A4, m4, c4, rfl, hc4, hs4, hb4, hA4⟩)
          have h4 := hs4.1
          go_roundw
          case rel => exact ⟨k2 + 1, m4, c4, A4, _, by omega, by go_num, rfl, hc4, by omega, hs4, hr6, hbl5.tr hb4, hfr5.put hA4 (Nat.le_trans hbl.size hbl5.size)⟩
          case measure => simp [intOf]; omega
        · go_wp2
          go_ret
          refine ⟨A5, m5, c5, rfl, hc5, by omega, ?_, hbl.tr hbl5, hfr5⟩
          have : names l heads = nx2 := by
            unfold names
            rw [List.foldl_append, ← hr2.out, ← hr5.out, List.drop_eq_nil_of_le (by rw [List.length_map, hl.1]; omega)]; rfl
          rw [this]; exact hs5
theorem names_any (A B : Option Addr) (n m c d : Nat) (l : List Ref) (heads : List S) (w : World) (hm : n ≤ 100000) (hmh : m ≤ 100000) (hl : Refs w A n l) (hh : Strs w B m heads) :
    Calls Try.prog 42 #[.slice A n c, .slice B m d] w fun e w' =>
      ∃ A' k c', e = .returned (.slice A' k c') ∧ k ≤ c' ∧ k ≤ n + m ∧ Strs w' A' k (names l heads) ∧ Below w.heap.size w w' :=
  (names_all A B n m c d l heads w hm hmh hl hh).mono fun _ _ ⟨A', k, c', h1, h2, h3, h4, h5, _⟩ => ⟨A', k, c', h1, h2, h3, h4, h5⟩
theorem idx_beq (o : Option Nat) (k : Nat) : (idx o == (k : Int)) = (o == some k) := by
  cases o with
  | none => simp [idx]
  | some d => rw [Bool.eq_iff_iff]; simp [idx]; omega
def better (b : Option S) (x : S) : Bool := match b with | none => true | some y => ltS x y
theorem best_cons (l : List Ref) (heads : List S) (last to : S) (n : Nat) (r : Ref) (rest : List Ref) (b : Option S) :
    best l heads last to n (r :: rest) b = best l heads last to n rest (if eqS r.frm last && better b r.to && (steps l heads r.to to == some n) then some r.to else b) := rfl
theorem best_skip {l : List Ref} {heads : List S} {last to : S} {n : Nat} {r : Ref} {rest : List Ref} {b : Option S} (h : eqS r.frm last = false ∨ better b r.to = false ∨ (steps l heads r.to to == some n) = false) :
    best l heads last to n (r :: rest) b = best l heads last to n rest b := by
  rw [best_cons, if_neg]
  rcases h with h | h | h <;> simp [h]
theorem best_take {l : List Ref} {heads : List S} {last to : S} {n : Nat} {r : Ref} {rest : List Ref} {b : Option S} (h1 : eqS r.frm last = true) (h2 : better b r.to = true) (h3 : (steps l heads r.to to == some n) = true) :
    best l heads last to n (r :: rest) b = best l heads last to n rest (some r.to) := by
  rw [best_cons, if_pos (by simp [h1, h2, h3])]
def strVal (b : Option S) : Value := .string (b.getD ByteArray.empty)
theorem steps_le {l : List Ref} {heads : List S} {a x : S} {d : Nat} (h : steps l heads a x = some d) : d ≤ l.length := by
  unfold steps at h
  split at h
  · exact dist_le (l := l) (a := a) (x := x) h
  · cases h
theorem Own.lit (w : World) {base : Nat} (e : TypeId) (u : Value) (h : base ≤ w.heap.size) : Own (w.alloc (.cells #[u] e)) base e 1 (.slice (some ⟨w.heap.size, 0, none⟩) 1 1) 1 [u] :=
  ⟨⟨by simp, .inr ⟨w.heap.size, 1, #[u], rfl, h, heap_alloc_new w _, Nat.le_refl _, by unfold maxLen; omega, rfl, rfl⟩⟩, Nat.le_trans h (by simp)⟩
theorem wayN_next (l : List Ref) (heads : List S) (to : S) (n : Nat) (last : S) : wayN l heads to (n + 1) last = (best l heads last to n l none).getD ByteArray.empty :: wayN l heads to n ((best l heads last to n l none).getD ByteArray.empty) := rfl
set_option maxRecDepth 20000 in
set_option maxHeartbeats 8000000 in
theorem way_ref (A B : Option Addr) (n m c d : Nat) (l : List Ref) (heads : List S) (frm to : S) (w : World) (hm : n ≤ 100000) (hmh : m ≤ 1000000) (hl : Refs w A n l) (hh : Strs w B m heads) (hf : frm.size ≤ maxLen) (_ht : to.size ≤ maxLen) :
    Calls Try.prog 15 #[.slice A n c, .slice B m d, .string frm, .string to] w fun e w' =>
      ∃ A' k c', e = .returned (.tuple #[.slice A' k c', .bool (way l heads frm to).2]) ∧ k ≤ c' ∧ Strs w' A' k (way l heads frm to).1 ∧ Below w.heap.size w w' := by
  cases hst : steps l heads frm to with
  | none =>
    have hfin : way l heads frm to = ([], false) := by unfold way; rw [hst]
    have HF := Lib.hid hfin
    clear hfin
    have HS := Lib.hid hst
    clear hst
    go_enter Try.func15, Try.ntmps15
    go_wp2_with (go_at_call 38; refine (steps_any _ _ _ _ _ _ _ _ _ _ _ hm hmh hl hh hf).mono ?_; rintro e w2 ⟨rfl, hb2⟩; rw [HS.out, idx])
    go_ret2
    exact ⟨none, 0, 0, by rw [HF.out]; rfl, Nat.le_refl _, by rw [HF.out]; exact Strs.nil _, hb2⟩
  | some N =>
    have hfin : way l heads frm to = (frm :: wayN l heads to N frm, true) := by unfold way; rw [hst]
    have HF := Lib.hid hfin
    have hN := steps_le hst
    have hN2 : N ≤ n := by rw [hl.1] at hN; exact hN
    clear hfin hN
    have HS := Lib.hid hst
    clear hst
    go_enter Try.func15, Try.ntmps15
    go_wp2_with (go_at_call 38; refine (steps_any _ _ _ _ _ _ _ _ _ _ _ hm hmh hl hh hf).mono ?_; rintro e w2 ⟨rfl, hb2⟩; rw [HS.out, idx])
    go_loopw [10, 11, 12, 13, 14] (fun nn o _ _ _ wr => ∃ (k m3 c3 : Nat) (A3 : Option Addr) (pre : List S) (last : S), k ≤ N ∧ nn = .int .i64 k ∧ o = .slice A3 m3 c3 ∧ m3 ≤ c3 ∧ m3 + k = N + 1 ∧ m3 = pre.length + 1 ∧ last.size ≤ maxLen ∧ (∀ s ∈ pre, s.size ≤ maxLen) ∧
      Own wr w.heap.size 9 1 (.slice A3 m3 c3) m3 ((pre ++ [last]).map Value.string) ∧ Hid (frm :: wayN l heads to N frm = pre ++ last :: wayN l heads to k last) ∧ Below w.heap.size w wr) (fun nn _ _ _ _ _ => (intOf nn).toNat)
    case atStart =>
      exact ⟨N, 1, 1, _, [], frm, by omega, rfl, rfl, by omega, by omega, rfl, hf, by simp, Own.lit _ _ _ hb2.size, rfl, hb2.al _⟩
    case round =>
      obtain ⟨k, m3, c3, A3, pre, last, hk, rfl, rfl, hc3, hmk, hpre, hls, hps, ho, hr, hbl⟩ := hrel
      cases k with
      | zero =>
        go_wp2
        go_ret2
        refine ⟨A3, m3, c3, by rw [HF.out]; rfl, hc3, ?_, hbl⟩
        rw [HF.out]
        show Strs _ _ _ (frm :: wayN l heads to N frm)
        rw [hr.out]
        show Strs _ _ _ (pre ++ [last])
        refine Strs.own ho rfl fun s hs => ?_
        rcases List.mem_append.1 hs with h | h
        · exact hps s h
        · simp at h; rw [h]; exact hls
      | succ k =>
        obtain ⟨wo, rfl⟩ : ∃ wo : World, wo = wr := ⟨_, rfl⟩
        obtain ⟨q, rfl⟩ : ∃ q, m3 = q + 1 := ⟨m3 - 1, by omega⟩
        obtain rfl : q = pre.length := by omega
        have hmk' : pre.length + k + 1 = N := by omega
        have hq0 : (0 : Int) ≤ (pre.length : Int) := by omega
        clear hpre hmk
        rw [show ((k + 1 : Nat) : Int) = (k : Int) + 1 from rfl]
        go_wp2
        go_loopw [12, 13, 14] (fun bv fv i wr => ∃ (k2 : Nat) (b : Option S), k2 ≤ n ∧ i = .int .i64 k2 ∧ bv = .string (b.getD ByteArray.empty) ∧ fv = .bool b.isSome ∧ (b.getD ByteArray.empty).size ≤ maxLen ∧ Hid (best l heads last to k l none = best l heads last to k (l.drop k2) b) ∧ Below wo.heap.size wo wr) (fun _ _ i _ => n - (intOf i).toNat)
        case atStart => exact ⟨0, none, by omega, rfl, rfl, rfl, by simp, rfl, brefl⟩
        case round =>
          obtain ⟨k2, b, hk2, rfl, rfl, rfl, hbs, hr2, hbl2⟩ := hrel
          by_cases hlt : k2 < n
          · have hbw := hbl.tr hbl2
            obtain ⟨b1, off, r, rfl, hx, hsz1, hsz2, hb1, hcell1, hcell2, _⟩ := (hl.below hbw).at_ hlt
            obtain ⟨b3, off3, x3, rfl, hx3, hsz3, hb3, hcell3⟩ := (Strs.own (ho.below hbl2) rfl (fun s hs => by
              rcases List.mem_append.1 hs with h | h
              · exact hps s h
              · simp at h; rw [h]; exact hls)).at_ (k := pre.length) (by omega)
            obtain rfl : last = x3 := by simpa using hx3
            have hd := Lib.hid (drop_get hx)
            clear hx hx3 hsz3
            by_cases he : (r.frm.toList == last.toList) = true
            · have hst := steps_any (some ⟨b1, off, none⟩) B n m c d l heads r.to to wr.drew hm hmh (hl.below (hbw.drn 1)) (hh.below (hbw.drn 1)) hsz2
              have hcells : ∀ wz, Below wr.heap.size wr wz → wz.cell? ⟨b1, off + k2 * 3, none⟩ = some (.string r.frm) ∧ wz.cell? ⟨b1, off + k2 * 3 + 1, none⟩ = some (.string r.to) ∧ wz.cell? ⟨b3, off3 + pre.length, none⟩ = some (.string last) := fun wz hz =>
                ⟨(hz.cell (p := ⟨b1, off + k2 * 3, none⟩) hb1).trans hcell1, (hz.cell (p := ⟨b1, off + k2 * 3 + 1, none⟩) hb1).trans hcell2, (hz.cell (p := ⟨b3, off3 + pre.length, none⟩) hb3).trans hcell3⟩
              have hbs5 : Below wr.heap.size wr wr.drew := brefl.drn 1
              have hS := hcells _ hbs5
              obtain ⟨sv, hsv⟩ : ∃ sv, steps l heads r.to to = sv := ⟨_, rfl⟩
              rw [hsv] at hst
              have hqq : ∀ bb, (idx sv == (k : Int)) = bb → Hid ((steps l heads r.to to == some k) = bb) := fun bb h => by rw [idx_beq] at h; exact Lib.hid (by rw [hsv]; exact h)
              clear hsv
              generalize idx sv = iv at hst hqq
              cases b with
              | none =>
                have hbt : better none r.to = true := rfl
                by_cases hiv : iv = k
                · subst hiv
                  have HQ := hqq true (by simp)
                  clear hqq
                  go_wp2
                  have hlt9 : (pre.length : Int) < pre.length + 1 := by omega
                  have hwrap := IntWalk.i64_in (pre.length : Int) (by omega)
                  refine wp_region_mix [(true, 0), (true, 1), (true, 2), (true, 3), (true, 4), (true, 5), (true, 6), (true, 7), (true, 8), (true, 9), (true, 10), (true, 11), (true, 12), (true, 13), (true, 14), (true, 15), (true, 16), (true, 17), (true, 18), (true, 19), (true, 20), (true, 21), (true, 22), (true, 23), (true, 24), (true, 25), (true, 26), (true, 27), (true, 28), (true, 29), (true, 30), (true, 31), (true, 32), (true, 33), (true, 35), (false, 34), (true, 36), (true, 37)] 38 (fun wz => wz.cell? ⟨b1, off + k2 * 3, none⟩ = some (.string r.frm) ∧ wz.cell? ⟨b1, off + k2 * 3 + 1, none⟩ = some (.string r.to) ∧ wz.cell? ⟨b3, off3 + pre.length, none⟩ = some (.string last)) (by kernel_rfl) (by kernel_rfl) ?_
                  refine wpMix_put (v := ?_) rfl rfl (Or.inl ⟨by rfl, fun wz hz => ?_⟩) hS ?_
                  rotate_left
                  (focus (go_simp; try (with_reducible rfl)))
                  simp only [List.setIfInBounds_toArray, List.set_cons_succ, List.set_cons_zero]
                  refine wpMix_put (v := ?_) rfl rfl (Or.inl ⟨by rfl, fun wz hz => ?_⟩) hS ?_
                  rotate_left
                  (focus (go_simp; try (with_reducible rfl)))
                  simp only [List.setIfInBounds_toArray, List.set_cons_succ, List.set_cons_zero]
                  refine wpMix_put (v := ?_) rfl rfl (Or.inl ⟨by rfl, fun wz hz => ?_⟩) hS ?_
                  rotate_left
                  (focus (go_simp; try (with_reducible rfl)))
                  simp only [List.setIfInBounds_toArray, List.set_cons_succ, List.set_cons_zero]
                  refine wpMix_put (v := ?_) rfl rfl (Or.inl ⟨by rfl, fun wz hz => ?_⟩) hS ?_
                  rotate_left
                  (focus (go_simp; try (with_reducible rfl)))
                  simp only [List.setIfInBounds_toArray, List.set_cons_succ, List.set_cons_zero]
                  refine wpMix_put (v := ?_) rfl rfl (Or.inl ⟨by rfl, fun wz hz => ?_⟩) hS ?_
                  rotate_left
                  (focus (go_simp; try (with_reducible rfl)))
                  simp only [List.setIfInBounds_toArray, List.set_cons_succ, List.set_cons_zero]
                  refine wpMix_put (v := ?_) rfl rfl (Or.inl ⟨by rfl, fun wz hz => ?_⟩) hS ?_
                  rotate_left
                  (focus (go_simp; try (with_reducible rfl)))
                  simp only [List.setIfInBounds_toArray, List.set_cons_succ, List.set_cons_zero]
                  refine wpMix_put (v := ?_) rfl rfl (Or.inl ⟨by rfl, fun wz hz => ?_⟩) hS ?_
                  rotate_left
                  (focus (go_simp; try (with_reducible rfl)))
                  simp only [List.setIfInBounds_toArray, List.set_cons_succ, List.set_cons_zero]
                  refine wpMix_put (v := ?_) rfl rfl (Or.inl ⟨by rfl, fun wz hz => ?_⟩) hS ?_
                  rotate_left
                  (focus (go_simp; try (with_reducible rfl)))
                  simp only [List.setIfInBounds_toArray, List.set_cons_succ, List.set_cons_zero]
                  refine wpMix_put (v := ?_) rfl rfl (Or.inl ⟨by rfl, fun wz hz => ?_⟩) hS ?_
                  rotate_left
                  (focus (go_simp; try (with_reducible rfl)))
                  simp only [List.setIfInBounds_toArray, List.set_cons_succ, List.set_cons_zero]
                  refine wpMix_put (v := ?_) rfl rfl (Or.inl ⟨by rfl, fun wz hz => ?_⟩) hS ?_
                  rotate_left
                  (focus (go_simp; try (with_reducible rfl)))
                  simp only [List.setIfInBounds_toArray, List.set_cons_succ, List.set_cons_zero]
                  refine wpMix_put (v := ?_) rfl rfl (Or.inl ⟨by rfl, fun wz hz => ?_⟩) hS ?_
                  rotate_left
                  (focus (go_simp; try (with_reducible rfl)))
                  simp only [List.setIfInBounds_toArray, List.set_cons_succ, List.set_cons_zero]
                  refine wpMix_put (v := ?_) rfl rfl (Or.inl ⟨by rfl, fun wz hz => ?_⟩) hS ?_
                  rotate_left
                  (focus (go_simp; try (with_reducible rfl)))
                  simp only [List.setIfInBounds_toArray, List.set_cons_succ, List.set_cons_zero]
                  refine wpMix_put (v := ?_) rfl rfl (Or.inl ⟨by rfl, fun wz hz => ?_⟩) hS ?_
                  rotate_left
                  (focus (go_simp; try (with_reducible rfl)))
                  simp only [List.setIfInBounds_toArray, List.set_cons_succ, List.set_cons_zero]
                  refine wpMix_put (v := ?_) rfl rfl (Or.inl ⟨by rfl, fun wz hz => ?_⟩) hS ?_
                  rotate_left
                  (focus (go_simp; try (with_reducible rfl)))
                  simp only [List.setIfInBounds_toArray, List.set_cons_succ, List.set_cons_zero]
                  refine wpMix_put (v := ?_) rfl rfl (Or.inl ⟨by rfl, fun wz hz => ?_⟩) hS ?_
                  rotate_left
                  (focus (go_simp; try (with_reducible rfl)))
                  simp only [List.setIfInBounds_toArray, List.set_cons_succ, List.set_cons_zero]
                  refine wpMix_put (v := ?_) rfl rfl (Or.inl ⟨by rfl, fun wz hz => ?_⟩) hS ?_
                  rotate_left
                  (focus (go_simp; try (with_reducible rfl)))
                  simp only [List.setIfInBounds_toArray, List.set_cons_succ, List.set_cons_zero]
                  refine wpMix_put (v := undef) rfl rfl (Or.inr ⟨by rfl, rfl⟩) hS ?_
                  simp only [List.setIfInBounds_toArray, List.set_cons_succ, List.set_cons_zero]
                  refine wpMix_put (v := undef) rfl rfl (Or.inr ⟨by rfl, rfl⟩) hS ?_
                  simp only [List.setIfInBounds_toArray, List.set_cons_succ, List.set_cons_zero]
                  refine wpMix_put (v := undef) rfl rfl (Or.inr ⟨by rfl, rfl⟩) hS ?_
                  simp only [List.setIfInBounds_toArray, List.set_cons_succ, List.set_cons_zero]
                  refine wpMix_put (v := undef) rfl rfl (Or.inr ⟨by rfl, rfl⟩) hS ?_
                  simp only [List.setIfInBounds_toArray, List.set_cons_succ, List.set_cons_zero]
                  refine wpMix_put (v := undef) rfl rfl (Or.inr ⟨by rfl, rfl⟩) hS ?_
                  simp only [List.setIfInBounds_toArray, List.set_cons_succ, List.set_cons_zero]
                  refine wpMix_put (v := undef) rfl rfl (Or.inr ⟨by rfl, rfl⟩) hS ?_
                  simp only [List.setIfInBounds_toArray, List.set_cons_succ, List.set_cons_zero]
                  refine wpMix_put (v := undef) rfl rfl (Or.inr ⟨by rfl, rfl⟩) hS ?_
                  simp only [List.setIfInBounds_toArray, List.set_cons_succ, List.set_cons_zero]
                  refine wpMix_put (v := ?_) rfl rfl (Or.inl ⟨by rfl, fun wz hz => ?_⟩) hS ?_
                  rotate_left
                  (focus (go_simp; try (with_reducible rfl)))
                  simp only [List.setIfInBounds_toArray, List.set_cons_succ, List.set_cons_zero]
                  refine wpMix_put (v := ?_) rfl rfl (Or.inl ⟨by rfl, fun wz hz => ?_⟩) hS ?_
                  rotate_left
                  (focus (go_simp; try (with_reducible rfl)))
                  simp only [List.setIfInBounds_toArray, List.set_cons_succ, List.set_cons_zero]
                  refine wpMix_put (v := ?_) rfl rfl (Or.inl ⟨by rfl, fun wz hz => ?_⟩) hS ?_
                  rotate_left
                  (focus (go_simp; try (with_reducible rfl)))
                  simp only [List.setIfInBounds_toArray, List.set_cons_succ, List.set_cons_zero]
                  refine wpMix_put (v := ?_) rfl rfl (Or.inl ⟨by rfl, fun wz hz => ?_⟩) hS ?_
                  rotate_left
                  (focus (go_simp; try (with_reducible rfl)))
                  simp only [List.setIfInBounds_toArray, List.set_cons_succ, List.set_cons_zero]
                  refine wpMix_put (v := ?_) rfl rfl (Or.inl ⟨by rfl, fun wz hz => ?_⟩) hS ?_
                  rotate_left
                  (focus (go_simp; try (with_reducible rfl)))
                  simp only [List.setIfInBounds_toArray, List.set_cons_succ, List.set_cons_zero]
                  refine wpMix_put (v := ?_) rfl rfl (Or.inl ⟨by rfl, fun wz hz => ?_⟩) hS ?_
                  rotate_left
                  (focus (go_simp; try (with_reducible rfl)))
                  simp only [List.setIfInBounds_toArray, List.set_cons_succ, List.set_cons_zero]
                  refine wpMix_put (v := ?_) rfl rfl (Or.inl ⟨by rfl, fun wz hz => ?_⟩) hS ?_
                  rotate_left
                  (focus (go_simp; try (with_reducible rfl)))
                  simp only [List.setIfInBounds_toArray, List.set_cons_succ, List.set_cons_zero]
                  refine wpMix_put (v := ?_) rfl rfl (Or.inl ⟨by rfl, fun wz hz => ?_⟩) hS ?_
                  rotate_left
                  (focus (go_simp; try (with_reducible rfl)))
                  simp only [List.setIfInBounds_toArray, List.set_cons_succ, List.set_cons_zero]
                  refine wpMix_put (v := ?_) rfl rfl (Or.inl ⟨by rfl, fun wz hz => ?_⟩) hS ?_
                  rotate_left
                  (focus (go_simp; try (with_reducible rfl)))
                  simp only [List.setIfInBounds_toArray, List.set_cons_succ, List.set_cons_zero]
                  refine wpMix_put (v := ?_) rfl rfl (Or.inl ⟨by rfl, fun wz hz => ?_⟩) hS ?_
                  rotate_left
                  (focus (go_simp; try (with_reducible rfl)))
                  simp only [List.setIfInBounds_toArray, List.set_cons_succ, List.set_cons_zero]
                  refine wpMix_put (v := ?_) rfl rfl (Or.inl ⟨by rfl, fun wz hz => ?_⟩) hS ?_
                  rotate_left
                  (focus (go_simp; try (with_reducible rfl)))
                  simp only [List.setIfInBounds_toArray, List.set_cons_succ, List.set_cons_zero]
                  refine wpMix_put (v := ?_) rfl rfl (Or.inl ⟨by rfl, fun wz hz => ?_⟩) hS ?_
                  rotate_left
                  (focus (go_simp; try (with_reducible rfl)))
                  simp only [List.setIfInBounds_toArray, List.set_cons_succ, List.set_cons_zero]
                  refine wpMix_step rfl (fun K hK => ?_)
                  go_simp
                  refine hst.mono ?_
                  rintro e w7 ⟨rfl, hbc⟩
                  go_simp
                  have hS7 := hcells _ (hbs5.tr hbc)
                  refine hK _ _ (fun _ => hS7) ?_
                  clear hK K hS
                  have hS := hS7
                  clear hS7 hst
                  have hb7 := hbs5.tr hbc
                  clear hbc
                  refine wpMix_put (v := ?_) rfl rfl (Or.inl ⟨by rfl, fun wz hz => ?_⟩) hS ?_
                  rotate_left
                  (focus (go_simp; try (with_reducible rfl)))
                  simp only [List.setIfInBounds_toArray, List.set_cons_succ, List.set_cons_zero]
                  refine wpMix_put (v := ?_) rfl rfl (Or.inl ⟨by rfl, fun wz hz => ?_⟩) hS ?_
                  rotate_left
                  (focus (go_simp; try (with_reducible rfl)))
                  simp only [List.setIfInBounds_toArray, List.set_cons_succ, List.set_cons_zero]
                  refine wpMix_nil ?_
                  obtain ⟨hk1, hk2, _⟩ := hS
                  clear hcells hwrap
                  go_wp2
                  go_roundw
                  case rel => exact ⟨k2 + 1, some r.to, by omega, by go_num, rfl, rfl, hsz2, by show _ = _; rw [hr2.out, hd.out, best_take he hbt HQ.out], hbl2.tr hb7⟩
                  case measure => simp [intOf]; omega
                · have hv1 : (iv == (k : Int)) = false := by simpa using hiv
                  have hv3 : decide (iv = (k : Int)) = false := by simpa using hiv
                  have HQ := hqq false hv1
                  clear hqq
                  go_wp2
                  have hlt9 : (pre.length : Int) < pre.length + 1 := by omega
                  have hwrap := IntWalk.i64_in (pre.length : Int) (by omega)
                  refine wp_region_mix [(true, 0), (true, 1), (true, 2), (true, 3), (true, 4), (true, 5), (true, 6), (true, 7), (true, 8), (true, 9), (true, 10), (true, 11), (true, 12), (true, 13), (true, 14), (true, 15), (true, 16), (true, 17), (true, 18), (true, 19), (true, 20), (true, 21), (true, 22), (true, 23), (true, 24), (true, 25), (true, 26), (true, 27), (true, 28), (true, 29), (true, 30), (true, 31), (true, 32), (true, 33), (true, 35), (false, 34), (true, 36), (true, 37)] 38 (fun wz => wz.cell? ⟨b1, off + k2 * 3, none⟩ = some (.string r.frm) ∧ wz.cell? ⟨b1, off + k2 * 3 + 1, none⟩ = some (.string r.to) ∧ wz.cell? ⟨b3, off3 + pre.length, none⟩ = some (.string last)) (by kernel_rfl) (by kernel_rfl) ?_
                  refine wpMix_put (v := ?_) rfl rfl (Or.inl ⟨by rfl, fun wz hz => ?_⟩) hS ?_
                  rotate_left
                  (focus (go_simp; try (with_reducible rfl)))
                  simp only [List.setIfInBounds_toArray, List.set_cons_succ, List.set_cons_zero]
                  refine wpMix_put (v := ?_) rfl rfl (Or.inl ⟨by rfl, fun wz hz => ?_⟩) hS ?_
                  rotate_left
                  (focus (go_simp; try (with_reducible rfl)))
                  simp only [List.setIfInBounds_toArray, List.set_cons_succ, List.set_cons_zero]
                  refine wpMix_put (v := ?_) rfl rfl (Or.inl ⟨by rfl, fun wz hz => ?_⟩) hS ?_
                  rotate_left
                  (focus (go_simp; try (with_reducible rfl)))
                  simp only [List.setIfInBounds_toArray, List.set_cons_succ, List.set_cons_zero]
                  refine wpMix_put (v := ?_) rfl rfl (Or.inl ⟨by rfl, fun wz hz => ?_⟩) hS ?_
                  rotate_left
                  (focus (go_simp; try (with_reducible rfl)))
                  simp only [List.setIfInBounds_toArray, List.set_cons_succ, List.set_cons_zero]
                  refine wpMix_put (v := ?_) rfl rfl (Or.inl ⟨by rfl, fun wz hz => ?_⟩) hS ?_
                  rotate_left
                  (focus (go_simp; try (with_reducible rfl)))
                  simp only [List.setIfInBounds_toArray, List.set_cons_succ, List.set_cons_zero]
                  refine wpMix_put (v := ?_) rfl rfl (Or.inl ⟨by rfl, fun wz hz => ?_⟩) hS ?_
                  rotate_left
                  (focus (go_simp; try (with_reducible rfl)))
                  simp only [List.setIfInBounds_toArray, List.set_cons_succ, List.set_cons_zero]
                  refine wpMix_put (v := ?_) rfl rfl (Or.inl ⟨by rfl, fun wz hz => ?_⟩) hS ?_
                  rotate_left
                  (focus (go_simp; try (with_reducible rfl)))
                  simp only [List.setIfInBounds_toArray, List.set_cons_succ, List.set_cons_zero]
                  refine wpMix_put (v := ?_) rfl rfl (Or.inl ⟨by rfl, fun wz hz => ?_⟩) hS ?_
                  rotate_left
                  (focus (go_simp; try (with_reducible rfl)))
                  simp only [List.setIfInBounds_toArray, List.set_cons_succ, List.set_cons_zero]
                  refine wpMix_put (v := ?_) rfl rfl (Or.inl ⟨by rfl, fun wz hz => ?_⟩) hS ?_
                  rotate_left
                  (focus (go_simp; try (with_reducible rfl)))
                  simp only [List.setIfInBounds_toArray, List.set_cons_succ, List.set_cons_zero]
                  refine wpMix_put (v := ?_) rfl rfl (Or.inl ⟨by rfl, fun wz hz => ?_⟩) hS ?_
                  rotate_left
                  (focus (go_simp; try (with_reducible rfl)))
                  simp only [List.setIfInBounds_toArray, List.set_cons_succ, List.set_cons_zero]
                  refine wpMix_put (v := ?_) rfl rfl (Or.inl ⟨by rfl, fun wz hz => ?_⟩) hS ?_
                  rotate_left
                  (focus (go_simp; try (with_reducible rfl)))
                  simp only [List.setIfInBounds_toArray, List.set_cons_succ, List.set_cons_zero]
                  refine wpMix_put (v := ?_) rfl rfl (Or.inl ⟨by rfl, fun wz hz => ?_⟩) hS ?_
                  rotate_left
                  (focus (go_simp; try (with_reducible rfl)))
                  simp only [List.setIfInBounds_toArray, List.set_cons_succ, List.set_cons_zero]
                  refine wpMix_put (v := ?_) rfl rfl (Or.inl ⟨by rfl, fun wz hz => ?_⟩) hS ?_
                  rotate_left
                  (focus (go_simp; try (with_reducible rfl)))
                  simp only [List.setIfInBounds_toArray, List.set_cons_succ, List.set_cons_zero]
                  refine wpMix_put (v := ?_) rfl rfl (Or.inl ⟨by rfl, fun wz hz => ?_⟩) hS ?_
                  rotate_left
                  (focus (go_simp; try (with_reducible rfl)))
                  simp only [List.setIfInBounds_toArray, List.set_cons_succ, List.set_cons_zero]
                  refine wpMix_put (v := ?_) rfl rfl (Or.inl ⟨by rfl, fun wz hz => ?_⟩) hS ?_
                  rotate_left
                  (focus (go_simp; try (with_reducible rfl)))
                  simp only [List.setIfInBounds_toArray, List.set_cons_succ, List.set_cons_zero]
                  refine wpMix_put (v := ?_) rfl rfl (Or.inl ⟨by rfl, fun wz hz => ?_⟩) hS ?_
                  rotate_left
                  (focus (go_simp; try (with_reducible rfl)))
                  simp only [List.setIfInBounds_toArray, List.set_cons_succ, List.set_cons_zero]
                  refine wpMix_put (v := undef) rfl rfl (Or.inr ⟨by rfl, rfl⟩) hS ?_
                  simp only [List.setIfInBounds_toArray, List.set_cons_succ, List.set_cons_zero]
                  refine wpMix_put (v := undef) rfl rfl (Or.inr ⟨by rfl, rfl⟩) hS ?_
                  simp only [List.setIfInBounds_toArray, List.set_cons_succ, List.set_cons_zero]
                  refine wpMix_put (v := undef) rfl rfl (Or.inr ⟨by rfl, rfl⟩) hS ?_
                  simp only [List.setIfInBounds_toArray, List.set_cons_succ, List.set_cons_zero]
                  refine wpMix_put (v := undef) rfl rfl (Or.inr ⟨by rfl, rfl⟩) hS ?_
                  simp only [List.setIfInBounds_toArray, List.set_cons_succ, List.set_cons_zero]
                  refine wpMix_put (v := undef) rfl rfl (Or.inr ⟨by rfl, rfl⟩) hS ?_
                  simp only [List.setIfInBounds_toArray, List.set_cons_succ, List.set_cons_zero]
                  refine wpMix_put (v := undef) rfl rfl (Or.inr ⟨by rfl, rfl⟩) hS ?_
                  simp only [List.setIfInBounds_toArray, List.set_cons_succ, List.set_cons_zero]
                  refine wpMix_put (v := undef) rfl rfl (Or.inr ⟨by rfl, rfl⟩) hS ?_
                  simp only [List.setIfInBounds_toArray, List.set_cons_succ, List.set_cons_zero]
                  refine wpMix_put (v := ?_) rfl rfl (Or.inl ⟨by rfl, fun wz hz => ?_⟩) hS ?_
                  rotate_left
                  (focus (go_simp; try (with_reducible rfl)))
                  simp only [List.setIfInBounds_toArray, List.set_cons_succ, List.set_cons_zero]
                  refine wpMix_put (v := ?_) rfl rfl (Or.inl ⟨by rfl, fun wz hz => ?_⟩) hS ?_
                  rotate_left
                  (focus (go_simp; try (with_reducible rfl)))
                  simp only [List.setIfInBounds_toArray, List.set_cons_succ, List.set_cons_zero]
                  refine wpMix_put (v := ?_) rfl rfl (Or.inl ⟨by rfl, fun wz hz => ?_⟩) hS ?_
                  rotate_left
                  (focus (go_simp; try (with_reducible rfl)))
                  simp only [List.setIfInBounds_toArray, List.set_cons_succ, List.set_cons_zero]
                  refine wpMix_put (v := ?_) rfl rfl (Or.inl ⟨by rfl, fun wz hz => ?_⟩) hS ?_
                  rotate_left
                  (focus (go_simp; try (with_reducible rfl)))
                  simp only [List.setIfInBounds_toArray, List.set_cons_succ, List.set_cons_zero]
                  refine wpMix_put (v := ?_) rfl rfl (Or.inl ⟨by rfl, fun wz hz => ?_⟩) hS ?_
                  rotate_left
                  (focus (go_simp; try (with_reducible rfl)))
                  simp only [List.setIfInBounds_toArray, List.set_cons_succ, List.set_cons_zero]
                  refine wpMix_put (v := ?_) rfl rfl (Or.inl ⟨by rfl, fun wz hz => ?_⟩) hS ?_
                  rotate_left
                  (focus (go_simp; try (with_reducible rfl)))
                  simp only [List.setIfInBounds_toArray, List.set_cons_succ, List.set_cons_zero]
                  refine wpMix_put (v := ?_) rfl rfl (Or.inl ⟨by rfl, fun wz hz => ?_⟩) hS ?_
                  rotate_left
                  (focus (go_simp; try (with_reducible rfl)))
                  simp only [List.setIfInBounds_toArray, List.set_cons_succ, List.set_cons_zero]
                  refine wpMix_put (v := ?_) rfl rfl (Or.inl ⟨by rfl, fun wz hz => ?_⟩) hS ?_
                  rotate_left
                  (focus (go_simp; try (with_reducible rfl)))
                  simp only [List.setIfInBounds_toArray, List.set_cons_succ, List.set_cons_zero]
                  refine wpMix_put (v := ?_) rfl rfl (Or.inl ⟨by rfl, fun wz hz => ?_⟩) hS ?_
                  rotate_left
                  (focus (go_simp; try (with_reducible rfl)))
                  simp only [List.setIfInBounds_toArray, List.set_cons_succ, List.set_cons_zero]
                  refine wpMix_put (v := ?_) rfl rfl (Or.inl ⟨by rfl, fun wz hz => ?_⟩) hS ?_
                  rotate_left
                  (focus (go_simp; try (with_reducible rfl)))
                  simp only [List.setIfInBounds_toArray, List.set_cons_succ, List.set_cons_zero]
                  refine wpMix_put (v := ?_) rfl rfl (Or.inl ⟨by rfl, fun wz hz => ?_⟩) hS ?_
                  rotate_left
                  (focus (go_simp; try (with_reducible rfl)))
                  simp only [List.setIfInBounds_toArray, List.set_cons_succ, List.set_cons_zero]
                  refine wpMix_put (v := ?_) rfl rfl (Or.inl ⟨by rfl, fun wz hz => ?_⟩) hS ?_
                  rotate_left
                  (focus (go_simp; try (with_reducible rfl)))
                  simp only [List.setIfInBounds_toArray, List.set_cons_succ, List.set_cons_zero]
                  refine wpMix_step rfl (fun K hK => ?_)
                  go_simp
                  refine hst.mono ?_
                  rintro e w7 ⟨rfl, hbc⟩
                  go_simp
                  have hS7 := hcells _ (hbs5.tr hbc)
                  refine hK _ _ (fun _ => hS7) ?_
                  clear hK K hS
                  have hS := hS7
                  clear hS7 hst
                  have hb7 := hbs5.tr hbc
                  clear hbc
                  refine wpMix_put (v := ?_) rfl rfl (Or.inl ⟨by rfl, fun wz hz => ?_⟩) hS ?_
                  rotate_left
                  (focus (go_simp; try (with_reducible rfl)))
                  simp only [List.setIfInBounds_toArray, List.set_cons_succ, List.set_cons_zero]
                  refine wpMix_put (v := ?_) rfl rfl (Or.inl ⟨by rfl, fun wz hz => ?_⟩) hS ?_
                  rotate_left
                  (focus (go_simp; try (with_reducible rfl)))
                  simp only [List.setIfInBounds_toArray, List.set_cons_succ, List.set_cons_zero]
                  refine wpMix_nil ?_
                  clear hS hcells hwrap
                  go_wp2
                  go_roundw
                  case rel => exact ⟨k2 + 1, none, by omega, by go_num, rfl, rfl, hbs, by show _ = _; rw [hr2.out, hd.out, best_skip (.inr (.inr HQ.out))], hbl2.tr hb7⟩
                  case measure => simp [intOf]; omega
              | some y =>
                cases hbt : better (some y) r.to
                · have hlt2 : Op.bytesLess r.to.toList y.toList = false := hbt
                  clear hst hqq
                  go_wp2
                  have hlt9 : (pre.length : Int) < pre.length + 1 := by omega
                  have hwrap := IntWalk.i64_in (pre.length : Int) (by omega)
                  refine wp_region_mix [(true, 0), (true, 1), (true, 2), (true, 3), (true, 4), (true, 5), (true, 6), (true, 7), (true, 8), (true, 9), (true, 10), (true, 11), (true, 12), (true, 13), (true, 14), (true, 15), (true, 16), (true, 17), (true, 18), (true, 19), (true, 20), (true, 21), (true, 22), (true, 23), (true, 24), (true, 25), (true, 26), (true, 27), (true, 28), (true, 29), (true, 30), (true, 31), (true, 32), (true, 33), (true, 34), (true, 35), (true, 36), (true, 37)] 38 (fun wz => wz.cell? ⟨b1, off + k2 * 3, none⟩ = some (.string r.frm) ∧ wz.cell? ⟨b1, off + k2 * 3 + 1, none⟩ = some (.string r.to) ∧ wz.cell? ⟨b3, off3 + pre.length, none⟩ = some (.string last)) (by kernel_rfl) (by kernel_rfl) ?_
                  refine wpMix_put (v := ?_) rfl rfl (Or.inl ⟨by rfl, fun wz hz => ?_⟩) hS ?_
                  rotate_left
                  (focus (go_simp; try (with_reducible rfl)))
                  simp only [List.setIfInBounds_toArray, List.set_cons_succ, List.set_cons_zero]
                  refine wpMix_put (v := ?_) rfl rfl (Or.inl ⟨by rfl, fun wz hz => ?_⟩) hS ?_
                  rotate_left
                  (focus (go_simp; try (with_reducible rfl)))
                  simp only [List.setIfInBounds_toArray, List.set_cons_succ, List.set_cons_zero]
                  refine wpMix_put (v := ?_) rfl rfl (Or.inl ⟨by rfl, fun wz hz => ?_⟩) hS ?_
                  rotate_left
                  (focus (go_simp; try (with_reducible rfl)))
                  simp only [List.setIfInBounds_toArray, List.set_cons_succ, List.set_cons_zero]
                  refine wpMix_put (v := ?_) rfl rfl (Or.inl ⟨by rfl, fun wz hz => ?_⟩) hS ?_
                  rotate_left
                  (focus (go_simp; try (with_reducible rfl)))
                  simp only [List.setIfInBounds_toArray, List.set_cons_succ, List.set_cons_zero]
                  refine wpMix_put (v := ?_) rfl rfl (Or.inl ⟨by rfl, fun wz hz => ?_⟩) hS ?_
                  rotate_left
                  (focus (go_simp; try (with_reducible rfl)))
                  simp only [List.setIfInBounds_toArray, List.set_cons_succ, List.set_cons_zero]
                  refine wpMix_put (v := ?_) rfl rfl (Or.inl ⟨by rfl, fun wz hz => ?_⟩) hS ?_
                  rotate_left
                  (focus (go_simp; try (with_reducible rfl)))
                  simp only [List.setIfInBounds_toArray, List.set_cons_succ, List.set_cons_zero]
                  refine wpMix_put (v := ?_) rfl rfl (Or.inl ⟨by rfl, fun wz hz => ?_⟩) hS ?_
                  rotate_left
                  (focus (go_simp; try (with_reducible rfl)))
                  simp only [List.setIfInBounds_toArray, List.set_cons_succ, List.set_cons_zero]
                  refine wpMix_put (v := ?_) rfl rfl (Or.inl ⟨by rfl, fun wz hz => ?_⟩) hS ?_
                  rotate_left
                  (focus (go_simp; try (with_reducible rfl)))
                  simp only [List.setIfInBounds_toArray, List.set_cons_succ, List.set_cons_zero]
                  refine wpMix_put (v := ?_) rfl rfl (Or.inl ⟨by rfl, fun wz hz => ?_⟩) hS ?_
                  rotate_left
                  (focus (go_simp; try (with_reducible rfl)))
                  simp only [List.setIfInBounds_toArray, List.set_cons_succ, List.set_cons_zero]
                  refine wpMix_put (v := ?_) rfl rfl (Or.inl ⟨by rfl, fun wz hz => ?_⟩) hS ?_
                  rotate_left
                  (focus (go_simp; try (with_reducible rfl)))
                  simp only [List.setIfInBounds_toArray, List.set_cons_succ, List.set_cons_zero]
                  refine wpMix_put (v := ?_) rfl rfl (Or.inl ⟨by rfl, fun wz hz => ?_⟩) hS ?_
                  rotate_left
                  (focus (go_simp; try (with_reducible rfl)))
                  simp only [List.setIfInBounds_toArray, List.set_cons_succ, List.set_cons_zero]
                  refine wpMix_put (v := ?_) rfl rfl (Or.inl ⟨by rfl, fun wz hz => ?_⟩) hS ?_
                  rotate_left
                  (focus (go_simp; try (with_reducible rfl)))
                  simp only [List.setIfInBounds_toArray, List.set_cons_succ, List.set_cons_zero]
                  refine wpMix_put (v := ?_) rfl rfl (Or.inl ⟨by rfl, fun wz hz => ?_⟩) hS ?_
                  rotate_left
                  (focus (go_simp; try (with_reducible rfl)))
                  simp only [List.setIfInBounds_toArray, List.set_cons_succ, List.set_cons_zero]
                  refine wpMix_put (v := ?_) rfl rfl (Or.inl ⟨by rfl, fun wz hz => ?_⟩) hS ?_
                  rotate_left
                  (focus (go_simp; try (with_reducible rfl)))
                  simp only [List.setIfInBounds_toArray, List.set_cons_succ, List.set_cons_zero]
                  refine wpMix_put (v := ?_) rfl rfl (Or.inl ⟨by rfl, fun wz hz => ?_⟩) hS ?_
                  rotate_left
                  (focus (go_simp; try (with_reducible rfl)))
                  simp only [List.setIfInBounds_toArray, List.set_cons_succ, List.set_cons_zero]
                  refine wpMix_put (v := ?_) rfl rfl (Or.inl ⟨by rfl, fun wz hz => ?_⟩) hS ?_
                  rotate_left
                  (focus (go_simp; try (with_reducible rfl)))
                  simp only [List.setIfInBounds_toArray, List.set_cons_succ, List.set_cons_zero]
                  refine wpMix_put (v := ?_) rfl rfl (Or.inl ⟨by rfl, fun wz hz => ?_⟩) hS ?_
                  rotate_left
                  (focus (go_simp; try (with_reducible rfl)))
                  simp only [List.setIfInBounds_toArray, List.set_cons_succ, List.set_cons_zero]
                  refine wpMix_put (v := ?_) rfl rfl (Or.inl ⟨by rfl, fun wz hz => ?_⟩) hS ?_
                  rotate_left
                  (focus (go_simp; try (with_reducible rfl)))
                  simp only [List.setIfInBounds_toArray, List.set_cons_succ, List.set_cons_zero]
                  refine wpMix_put (v := ?_) rfl rfl (Or.inl ⟨by rfl, fun wz hz => ?_⟩) hS ?_
                  rotate_left
                  (focus (go_simp; try (with_reducible rfl)))
                  simp only [List.setIfInBounds_toArray, List.set_cons_succ, List.set_cons_zero]
                  refine wpMix_put (v := ?_) rfl rfl (Or.inl ⟨by rfl, fun wz hz => ?_⟩) hS ?_
                  rotate_left
                  (focus (go_simp; try (with_reducible rfl)))
                  simp only [List.setIfInBounds_toArray, List.set_cons_succ, List.set_cons_zero]
                  refine wpMix_put (v := ?_) rfl rfl (Or.inl ⟨by rfl, fun wz hz => ?_⟩) hS ?_
                  rotate_left
                  (focus (go_simp; try (with_reducible rfl)))
                  simp only [List.setIfInBounds_toArray, List.set_cons_succ, List.set_cons_zero]
                  refine wpMix_put (v := ?_) rfl rfl (Or.inl ⟨by rfl, fun wz hz => ?_⟩) hS ?_
                  rotate_left
                  (focus (go_simp; try (with_reducible rfl)))
                  simp only [List.setIfInBounds_toArray, List.set_cons_succ, List.set_cons_zero]
                  refine wpMix_put (v := ?_) rfl rfl (Or.inl ⟨by rfl, fun wz hz => ?_⟩) hS ?_
                  rotate_left
                  (focus (go_simp; try (with_reducible rfl)))
                  simp only [List.setIfInBounds_toArray, List.set_cons_succ, List.set_cons_zero]
                  refine wpMix_put (v := ?_) rfl rfl (Or.inl ⟨by rfl, fun wz hz => ?_⟩) hS ?_
                  rotate_left
                  (focus (go_simp; try (with_reducible rfl)))
                  simp only [List.setIfInBounds_toArray, List.set_cons_succ, List.set_cons_zero]
                  refine wpMix_put (v := ?_) rfl rfl (Or.inl ⟨by rfl, fun wz hz => ?_⟩) hS ?_
                  rotate_left
                  (focus (go_simp; try (with_reducible rfl)))
                  simp only [List.setIfInBounds_toArray, List.set_cons_succ, List.set_cons_zero]
                  refine wpMix_put (v := ?_) rfl rfl (Or.inl ⟨by rfl, fun wz hz => ?_⟩) hS ?_
                  rotate_left
                  (focus (go_simp; try (with_reducible rfl)))
                  simp only [List.setIfInBounds_toArray, List.set_cons_succ, List.set_cons_zero]
                  refine wpMix_put (v := undef) rfl rfl (Or.inr ⟨by rfl, rfl⟩) hS ?_
                  simp only [List.setIfInBounds_toArray, List.set_cons_succ, List.set_cons_zero]
                  refine wpMix_put (v := undef) rfl rfl (Or.inr ⟨by rfl, rfl⟩) hS ?_
                  simp only [List.setIfInBounds_toArray, List.set_cons_succ, List.set_cons_zero]
                  refine wpMix_put (v := undef) rfl rfl (Or.inr ⟨by rfl, rfl⟩) hS ?_
                  simp only [List.setIfInBounds_toArray, List.set_cons_succ, List.set_cons_zero]
                  refine wpMix_put (v := undef) rfl rfl (Or.inr ⟨by rfl, rfl⟩) hS ?_
                  simp only [List.setIfInBounds_toArray, List.set_cons_succ, List.set_cons_zero]
                  refine wpMix_put (v := undef) rfl rfl (Or.inr ⟨by rfl, rfl⟩) hS ?_
                  simp only [List.setIfInBounds_toArray, List.set_cons_succ, List.set_cons_zero]
                  refine wpMix_put (v := undef) rfl rfl (Or.inr ⟨by rfl, rfl⟩) hS ?_
                  simp only [List.setIfInBounds_toArray, List.set_cons_succ, List.set_cons_zero]
                  refine wpMix_put (v := undef) rfl rfl (Or.inr ⟨by rfl, rfl⟩) hS ?_
                  simp only [List.setIfInBounds_toArray, List.set_cons_succ, List.set_cons_zero]
                  refine wpMix_put (v := undef) rfl rfl (Or.inr ⟨by rfl, rfl⟩) hS ?_
                  simp only [List.setIfInBounds_toArray, List.set_cons_succ, List.set_cons_zero]
                  refine wpMix_put (v := undef) rfl rfl (Or.inr ⟨by rfl, rfl⟩) hS ?_
                  simp only [List.setIfInBounds_toArray, List.set_cons_succ, List.set_cons_zero]
                  refine wpMix_put (v := undef) rfl rfl (Or.inr ⟨by rfl, rfl⟩) hS ?_
                  simp only [List.setIfInBounds_toArray, List.set_cons_succ, List.set_cons_zero]
                  refine wpMix_put (v := undef) rfl rfl (Or.inr ⟨by rfl, rfl⟩) hS ?_
                  simp only [List.setIfInBounds_toArray, List.set_cons_succ, List.set_cons_zero]
                  refine wpMix_put (v := ?_) rfl rfl (Or.inl ⟨by rfl, fun wz hz => ?_⟩) hS ?_
                  rotate_left
                  (focus (go_simp; try (with_reducible rfl)))
                  simp only [List.setIfInBounds_toArray, List.set_cons_succ, List.set_cons_zero]
                  refine wpMix_nil ?_
                  clear hS hcells hbs5 hwrap
                  go_wp2
                  go_roundw
                  case rel => exact ⟨k2 + 1, some y, by omega, by go_num, rfl, rfl, hbs, by show _ = _; rw [hr2.out, hd.out, best_skip (.inr (.inl hbt))], hbl2.drn _⟩
                  case measure => simp [intOf]; omega
                · have hlt2 : Op.bytesLess r.to.toList y.toList = true := hbt
                  by_cases hiv : iv = k
                  · subst hiv
                    have HQ := hqq true (by simp)
                    clear hqq
                    go_wp2
                    have hlt9 : (pre.length : Int) < pre.length + 1 := by omega
                    have hwrap := IntWalk.i64_in (pre.length : Int) (by omega)
                    refine wp_region_mix [(true, 0), (true, 1), (true, 2), (true, 3), (true, 4), (true, 5), (true, 6), (true, 7), (true, 8), (true, 9), (true, 10), (true, 11), (true, 12), (true, 13), (true, 14), (true, 15), (true, 16), (true, 17), (true, 18), (true, 19), (true, 20), (true, 21), (true, 22), (true, 23), (true, 24), (true, 25), (true, 26), (true, 27), (true, 28), (true, 29), (true, 30), (true, 31), (true, 32), (true, 33), (true, 35), (false, 34), (true, 36), (true, 37)] 38 (fun wz => wz.cell? ⟨b1, off + k2 * 3, none⟩ = some (.string r.frm) ∧ wz.cell? ⟨b1, off + k2 * 3 + 1, none⟩ = some (.string r.to) ∧ wz.cell? ⟨b3, off3 + pre.length, none⟩ = some (.string last)) (by kernel_rfl) (by kernel_rfl) ?_
                    refine wpMix_put (v := ?_) rfl rfl (Or.inl ⟨by rfl, fun wz hz => ?_⟩) hS ?_
                    rotate_left
                    (focus (go_simp; try (with_reducible rfl)))
                    simp only [List.setIfInBounds_toArray, List.set_cons_succ, List.set_cons_zero]
                    refine wpMix_put (v := ?_) rfl rfl (Or.inl ⟨by rfl, fun wz hz => ?_⟩) hS ?_
                    rotate_left
                    (focus (go_simp; try (with_reducible rfl)))
                    simp only [List.setIfInBounds_toArray, List.set_cons_succ, List.set_cons_zero]
                    refine wpMix_put (v := ?_) rfl rfl (Or.inl ⟨by rfl, fun wz hz => ?_⟩) hS ?_
                    rotate_left
                    (focus (go_simp; try (with_reducible rfl)))
                    simp only [List.setIfInBounds_toArray, List.set_cons_succ, List.set_cons_zero]
                    refine wpMix_put (v := ?_) rfl rfl (Or.inl ⟨by rfl, fun wz hz => ?_⟩) hS ?_
                    rotate_left
                    (focus (go_simp; try (with_reducible rfl)))
                    simp only [List.setIfInBounds_toArray, List.set_cons_succ, List.set_cons_zero]
                    refine wpMix_put (v := ?_) rfl rfl (Or.inl ⟨by rfl, fun wz hz => ?_⟩) hS ?_
                    rotate_left
                    (focus (go_simp; try (with_reducible rfl)))
                    simp only [List.setIfInBounds_toArray, List.set_cons_succ, List.set_cons_zero]
                    refine wpMix_put (v := ?_) rfl rfl (Or.inl ⟨by rfl, fun wz hz => ?_⟩) hS ?_
                    rotate_left
                    (focus (go_simp; try (with_reducible rfl)))
                    simp only [List.setIfInBounds_toArray, List.set_cons_succ, List.set_cons_zero]
                    refine wpMix_put (v := ?_) rfl rfl (Or.inl ⟨by rfl, fun wz hz => ?_⟩) hS ?_
                    rotate_left
                    (focus (go_simp; try (with_reducible rfl)))
                    simp only [List.setIfInBounds_toArray, List.set_cons_succ, List.set_cons_zero]
                    refine wpMix_put (v := ?_) rfl rfl (Or.inl ⟨by rfl, fun wz hz => ?_⟩) hS ?_
                    rotate_left
                    (focus (go_simp; try (with_reducible rfl)))
                    simp only [List.setIfInBounds_toArray, List.set_cons_succ, List.set_cons_zero]
                    refine wpMix_put (v := ?_) rfl rfl (Or.inl ⟨by rfl, fun wz hz => ?_⟩) hS ?_
                    rotate_left
                    (focus (go_simp; try (with_reducible rfl)))
                    simp only [List.setIfInBounds_toArray, List.set_cons_succ, List.set_cons_zero]
                    refine wpMix_put (v := ?_) rfl rfl (Or.inl ⟨by rfl, fun wz hz => ?_⟩) hS ?_
                    rotate_left
                    (focus (go_simp; try (with_reducible rfl)))
                    simp only [List.setIfInBounds_toArray, List.set_cons_succ, List.set_cons_zero]
                    refine wpMix_put (v := ?_) rfl rfl (Or.inl ⟨by rfl, fun wz hz => ?_⟩) hS ?_
                    rotate_left
                    (focus (go_simp; try (with_reducible rfl)))
                    simp only [List.setIfInBounds_toArray, List.set_cons_succ, List.set_cons_zero]
                    refine wpMix_put (v := ?_) rfl rfl (Or.inl ⟨by rfl, fun wz hz => ?_⟩) hS ?_
                    rotate_left
                    (focus (go_simp; try (with_reducible rfl)))
                    simp only [List.setIfInBounds_toArray, List.set_cons_succ, List.set_cons_zero]
                    refine wpMix_put (v := ?_) rfl rfl (Or.inl ⟨by rfl, fun wz hz => ?_⟩) hS ?_
                    rotate_left
                    (focus (go_simp; try (with_reducible rfl)))
                    simp only [List.setIfInBounds_toArray, List.set_cons_succ, List.set_cons_zero]
                    refine wpMix_put (v := ?_) rfl rfl (Or.inl ⟨by rfl, fun wz hz => ?_⟩) hS ?_
                    rotate_left
                    (focus (go_simp; try (with_reducible rfl)))
                    simp only [List.setIfInBounds_toArray, List.set_cons_succ, List.set_cons_zero]
                    refine wpMix_put (v := ?_) rfl rfl (Or.inl ⟨by rfl, fun wz hz => ?_⟩) hS ?_
                    rotate_left
                    (focus (go_simp; try (with_reducible rfl)))
                    simp only [List.setIfInBounds_toArray, List.set_cons_succ, List.set_cons_zero]
                    refine wpMix_put (v := ?_) rfl rfl (Or.inl ⟨by rfl, fun wz hz => ?_⟩) hS ?_
                    rotate_left
                    (focus (go_simp; try (with_reducible rfl)))
                    simp only [List.setIfInBounds_toArray, List.set_cons_succ, List.set_cons_zero]
                    refine wpMix_put (v := ?_) rfl rfl (Or.inl ⟨by rfl, fun wz hz => ?_⟩) hS ?_
                    rotate_left
                    (focus (go_simp; try (with_reducible rfl)))
                    simp only [List.setIfInBounds_toArray, List.set_cons_succ, List.set_cons_zero]
                    refine wpMix_put (v := ?_) rfl rfl (Or.inl ⟨by rfl, fun wz hz => ?_⟩) hS ?_
                    rotate_left
                    (focus (go_simp; try (with_reducible rfl)))
                    simp only [List.setIfInBounds_toArray, List.set_cons_succ, List.set_cons_zero]
                    refine wpMix_put (v := ?_) rfl rfl (Or.inl ⟨by rfl, fun wz hz => ?_⟩) hS ?_
                    rotate_left
                    (focus (go_simp; try (with_reducible rfl)))
                    simp only [List.setIfInBounds_toArray, List.set_cons_succ, List.set_cons_zero]
                    refine wpMix_put (v := ?_) rfl rfl (Or.inl ⟨by rfl, fun wz hz => ?_⟩) hS ?_
                    rotate_left
                    (focus (go_simp; try (with_reducible rfl)))
                    simp only [List.setIfInBounds_toArray, List.set_cons_succ, List.set_cons_zero]
                    refine wpMix_put (v := ?_) rfl rfl (Or.inl ⟨by rfl, fun wz hz => ?_⟩) hS ?_
                    rotate_left
                    (focus (go_simp; try (with_reducible rfl)))
                    simp only [List.setIfInBounds_toArray, List.set_cons_succ, List.set_cons_zero]
                    refine wpMix_put (v := ?_) rfl rfl (Or.inl ⟨by rfl, fun wz hz => ?_⟩) hS ?_
                    rotate_left
                    (focus (go_simp; try (with_reducible rfl)))
                    simp only [List.setIfInBounds_toArray, List.set_cons_succ, List.set_cons_zero]
                    refine wpMix_put (v := ?_) rfl rfl (Or.inl ⟨by rfl, fun wz hz => ?_⟩) hS ?_
                    rotate_left
                    (focus (go_simp; try (with_reducible rfl)))
                    simp only [List.setIfInBounds_toArray, List.set_cons_succ, List.set_cons_zero]
                    refine wpMix_put (v := ?_) rfl rfl (Or.inl ⟨by rfl, fun wz hz => ?_⟩) hS ?_
                    rotate_left
                    (focus (go_simp; try (with_reducible rfl)))
                    simp only [List.setIfInBounds_toArray, List.set_cons_succ, List.set_cons_zero]
                    refine wpMix_put (v := ?_) rfl rfl (Or.inl ⟨by rfl, fun wz hz => ?_⟩) hS ?_
                    rotate_left
                    (focus (go_simp; try (with_reducible rfl)))
                    simp only [List.setIfInBounds_toArray, List.set_cons_succ, List.set_cons_zero]
                    refine wpMix_put (v := ?_) rfl rfl (Or.inl ⟨by rfl, fun wz hz => ?_⟩) hS ?_
                    rotate_left
                    (focus (go_simp; try (with_reducible rfl)))
                    simp only [List.setIfInBounds_toArray, List.set_cons_succ, List.set_cons_zero]
                    refine wpMix_put (v := ?_) rfl rfl (Or.inl ⟨by rfl, fun wz hz => ?_⟩) hS ?_
                    rotate_left
                    (focus (go_simp; try (with_reducible rfl)))
                    simp only [List.setIfInBounds_toArray, List.set_cons_succ, List.set_cons_zero]
                    refine wpMix_put (v := ?_) rfl rfl (Or.inl ⟨by rfl, fun wz hz => ?_⟩) hS ?_
                    rotate_left
                    (focus (go_simp; try (with_reducible rfl)))
                    simp only [List.setIfInBounds_toArray, List.set_cons_succ, List.set_cons_zero]
                    refine wpMix_put (v := ?_) rfl rfl (Or.inl ⟨by rfl, fun wz hz => ?_⟩) hS ?_
                    rotate_left
                    (focus (go_simp; try (with_reducible rfl)))
                    simp only [List.setIfInBounds_toArray, List.set_cons_succ, List.set_cons_zero]
                    refine wpMix_put (v := ?_) rfl rfl (Or.inl ⟨by rfl, fun wz hz => ?_⟩) hS ?_
                    rotate_left
                    (focus (go_simp; try (with_reducible rfl)))
                    simp only [List.setIfInBounds_toArray, List.set_cons_succ, List.set_cons_zero]
                    refine wpMix_put (v := ?_) rfl rfl (Or.inl ⟨by rfl, fun wz hz => ?_⟩) hS ?_
                    rotate_left
                    (focus (go_simp; try (with_reducible rfl)))
                    simp only [List.setIfInBounds_toArray, List.set_cons_succ, List.set_cons_zero]
                    refine wpMix_put (v := ?_) rfl rfl (Or.inl ⟨by rfl, fun wz hz => ?_⟩) hS ?_
                    rotate_left
                    (focus (go_simp; try (with_reducible rfl)))
                    simp only [List.setIfInBounds_toArray, List.set_cons_succ, List.set_cons_zero]
                    refine wpMix_put (v := ?_) rfl rfl (Or.inl ⟨by rfl, fun wz hz => ?_⟩) hS ?_
                    rotate_left
                    (focus (go_simp; try (with_reducible rfl)))
                    simp only [List.setIfInBounds_toArray, List.set_cons_succ, List.set_cons_zero]
                    refine wpMix_put (v := ?_) rfl rfl (Or.inl ⟨by rfl, fun wz hz => ?_⟩) hS ?_
                    rotate_left
                    (focus (go_simp; try (with_reducible rfl)))
                    simp only [List.setIfInBounds_toArray, List.set_cons_succ, List.set_cons_zero]
                    refine wpMix_put (v := ?_) rfl rfl (Or.inl ⟨by rfl, fun wz hz => ?_⟩) hS ?_
                    rotate_left
                    (focus (go_simp; try (with_reducible rfl)))
                    simp only [List.setIfInBounds_toArray, List.set_cons_succ, List.set_cons_zero]
                    refine wpMix_step rfl (fun K hK => ?_)
                    go_simp
                    refine hst.mono ?_
                    rintro e w7 ⟨rfl, hbc⟩
                    go_simp
                    have hS7 := hcells _ (hbs5.tr hbc)
                    refine hK _ _ (fun _ => hS7) ?_
                    clear hK K hS
                    have hS := hS7
                    clear hS7 hst
                    have hb7 := hbs5.tr hbc
                    clear hbc
                    refine wpMix_put (v := ?_) rfl rfl (Or.inl ⟨by rfl, fun wz hz => ?_⟩) hS ?_
                    rotate_left
                    (focus (go_simp; try (with_reducible rfl)))
                    simp only [List.setIfInBounds_toArray, List.set_cons_succ, List.set_cons_zero]
                    refine wpMix_put (v := ?_) rfl rfl (Or.inl ⟨by rfl, fun wz hz => ?_⟩) hS ?_
                    rotate_left
                    (focus (go_simp; try (with_reducible rfl)))
                    simp only [List.setIfInBounds_toArray, List.set_cons_succ, List.set_cons_zero]
                    refine wpMix_nil ?_
                    obtain ⟨hk1, hk2, _⟩ := hS
                    clear hcells hwrap
                    go_wp2
                    go_roundw
                    case rel => exact ⟨k2 + 1, some r.to, by omega, by go_num, rfl, rfl, hsz2, by show _ = _; rw [hr2.out, hd.out, best_take he hbt HQ.out], hbl2.tr hb7⟩
                    case measure => simp [intOf]; omega
                  · have hv1 : (iv == (k : Int)) = false := by simpa using hiv
                    have hv3 : decide (iv = (k : Int)) = false := by simpa using hiv
                    have HQ := hqq false hv1
                    clear hqq
                    go_wp2
                    have hlt9 : (pre.length : Int) < pre.length + 1 := by omega
                    have hwrap := IntWalk.i64_in (pre.length : Int) (by omega)
                    refine wp_region_mix [(true, 0), (true, 1), (true, 2), (true, 3), (true, 4), (true, 5), (true, 6), (true, 7), (true, 8), (true, 9), (true, 10), (true, 11), (true, 12), (true, 13), (true, 14), (true, 15), (true, 16), (true, 17), (true, 18), (true, 19), (true, 20), (true, 21), (true, 22), (true, 23), (true, 24), (true, 25), (true, 26), (true, 27), (true, 28), (true, 29), (true, 30), (true, 31), (true, 32), (true, 33), (true, 35), (false, 34), (true, 36), (true, 37)] 38 (fun wz => wz.cell? ⟨b1, off + k2 * 3, none⟩ = some (.string r.frm) ∧ wz.cell? ⟨b1, off + k2 * 3 + 1, none⟩ = some (.string r.to) ∧ wz.cell? ⟨b3, off3 + pre.length, none⟩ = some (.string last)) (by kernel_rfl) (by kernel_rfl) ?_
                    refine wpMix_put (v := ?_) rfl rfl (Or.inl ⟨by rfl, fun wz hz => ?_⟩) hS ?_
                    rotate_left
                    (focus (go_simp; try (with_reducible rfl)))
                    simp only [List.setIfInBounds_toArray, List.set_cons_succ, List.set_cons_zero]
                    refine wpMix_put (v := ?_) rfl rfl (Or.inl ⟨by rfl, fun wz hz => ?_⟩) hS ?_
                    rotate_left
                    (focus (go_simp; try (with_reducible rfl)))
                    simp only [List.setIfInBounds_toArray, List.set_cons_succ, List.set_cons_zero]
                    refine wpMix_put (v := ?_) rfl rfl (Or.inl ⟨by rfl, fun wz hz => ?_⟩) hS ?_
                    rotate_left
                    (focus (go_simp; try (with_reducible rfl)))
                    simp only [List.setIfInBounds_toArray, List.set_cons_succ, List.set_cons_zero]
                    refine wpMix_put (v := ?_) rfl rfl (Or.inl ⟨by rfl, fun wz hz => ?_⟩) hS ?_
                    rotate_left
                    (focus (go_simp; try (with_reducible rfl)))
                    simp only [List.setIfInBounds_toArray, List.set_cons_succ, List.set_cons_zero]
                    refine wpMix_put (v := ?_) rfl rfl (Or.inl ⟨by rfl, fun wz hz => ?_⟩) hS ?_
                    rotate_left
                    (focus (go_simp; try (with_reducible rfl)))
                    simp only [List.setIfInBounds_toArray, List.set_cons_succ, List.set_cons_zero]
                    refine wpMix_put (v := ?_) rfl rfl (Or.inl ⟨by rfl, fun wz hz => ?_⟩) hS ?_
                    rotate_left
                    (focus (go_simp; try (with_reducible rfl)))
                    simp only [List.setIfInBounds_toArray, List.set_cons_succ, List.set_cons_zero]
                    refine wpMix_put (v := ?_) rfl rfl (Or.inl ⟨by rfl, fun wz hz => ?_⟩) hS ?_
                    rotate_left
                    (focus (go_simp; try (with_reducible rfl)))
                    simp only [List.setIfInBounds_toArray, List.set_cons_succ, List.set_cons_zero]
                    refine wpMix_put (v := ?_) rfl rfl (Or.inl ⟨by rfl, fun wz hz => ?_⟩) hS ?_
                    rotate_left
                    (focus (go_simp; try (with_reducible rfl)))
                    simp only [List.setIfInBounds_toArray, List.set_cons_succ, List.set_cons_zero]
                    refine wpMix_put (v := ?_) rfl rfl (Or.inl ⟨by rfl, fun wz hz => ?_⟩) hS ?_
                    rotate_left
                    (focus (go_simp; try (with_reducible rfl)))
                    simp only [List.setIfInBounds_toArray, List.set_cons_succ, List.set_cons_zero]
                    refine wpMix_put (v := ?_) rfl rfl (Or.inl ⟨by rfl, fun wz hz => ?_⟩) hS ?_
                    rotate_left
                    (focus (go_simp; try (with_reducible rfl)))
                    simp only [List.setIfInBounds_toArray, List.set_cons_succ, List.set_cons_zero]
                    refine wpMix_put (v := ?_) rfl rfl (Or.inl ⟨by rfl, fun wz hz => ?_⟩) hS ?_
                    rotate_left
                    (focus (go_simp; try (with_reducible rfl)))
                    simp only [List.setIfInBounds_toArray, List.set_cons_succ, List.set_cons_zero]
                    refine wpMix_put (v := ?_) rfl rfl (Or.inl ⟨by rfl, fun wz hz => ?_⟩) hS ?_
                    rotate_left
                    (focus (go_simp; try (with_reducible rfl)))
                    simp only [List.setIfInBounds_toArray, List.set_cons_succ, List.set_cons_zero]
                    refine wpMix_put (v := ?_) rfl rfl (Or.inl ⟨by rfl, fun wz hz => ?_⟩) hS ?_
                    rotate_left
                    (focus (go_simp; try (with_reducible rfl)))
                    simp only [List.setIfInBounds_toArray, List.set_cons_succ, List.set_cons_zero]
                    refine wpMix_put (v := ?_) rfl rfl (Or.inl ⟨by rfl, fun wz hz => ?_⟩) hS ?_
                    rotate_left
                    (focus (go_simp; try (with_reducible rfl)))
                    simp only [List.setIfInBounds_toArray, List.set_cons_succ, List.set_cons_zero]
                    refine wpMix_put (v := ?_) rfl rfl (Or.inl ⟨by rfl, fun wz hz => ?_⟩) hS ?_
                    rotate_left
                    (focus (go_simp; try (with_reducible rfl)))
                    simp only [List.setIfInBounds_toArray, List.set_cons_succ, List.set_cons_zero]
                    refine wpMix_put (v := ?_) rfl rfl (Or.inl ⟨by rfl, fun wz hz => ?_⟩) hS ?_
                    rotate_left
                    (focus (go_simp; try (with_reducible rfl)))
                    simp only [List.setIfInBounds_toArray, List.set_cons_succ, List.set_cons_zero]
                    refine wpMix_put (v := ?_) rfl rfl (Or.inl ⟨by rfl, fun wz hz => ?_⟩) hS ?_
                    rotate_left
                    (focus (go_simp; try (with_reducible rfl)))
                    simp only [List.setIfInBounds_toArray, List.set_cons_succ, List.set_cons_zero]
                    refine wpMix_put (v := ?_) rfl rfl (Or.inl ⟨by rfl, fun wz hz => ?_⟩) hS ?_
                    rotate_left
                    (focus (go_simp; try (with_reducible rfl)))
                    simp only [List.setIfInBounds_toArray, List.set_cons_succ, List.set_cons_zero]
                    refine wpMix_put (v := ?_) rfl rfl (Or.inl ⟨by rfl, fun wz hz => ?_⟩) hS ?_
                    rotate_left
                    (focus (go_simp; try (with_reducible rfl)))
                    simp only [List.setIfInBounds_toArray, List.set_cons_succ, List.set_cons_zero]
                    refine wpMix_put (v := ?_) rfl rfl (Or.inl ⟨by rfl, fun wz hz => ?_⟩) hS ?_
                    rotate_left
                    (focus (go_simp; try (with_reducible rfl)))
                    simp only [List.setIfInBounds_toArray, List.set_cons_succ, List.set_cons_zero]
                    refine wpMix_put (v := ?_) rfl rfl (Or.inl ⟨by rfl, fun wz hz => ?_⟩) hS ?_
                    rotate_left
                    (focus (go_simp; try (with_reducible rfl)))
                    simp only [List.setIfInBounds_toArray, List.set_cons_succ, List.set_cons_zero]
                    refine wpMix_put (v := ?_) rfl rfl (Or.inl ⟨by rfl, fun wz hz => ?_⟩) hS ?_
                    rotate_left
                    (focus (go_simp; try (with_reducible rfl)))
                    simp only [List.setIfInBounds_toArray, List.set_cons_succ, List.set_cons_zero]
                    refine wpMix_put (v := ?_) rfl rfl (Or.inl ⟨by rfl, fun wz hz => ?_⟩) hS ?_
                    rotate_left
                    (focus (go_simp; try (with_reducible rfl)))
                    simp only [List.setIfInBounds_toArray, List.set_cons_succ, List.set_cons_zero]
                    refine wpMix_put (v := ?_) rfl rfl (Or.inl ⟨by rfl, fun wz hz => ?_⟩) hS ?_
                    rotate_left
                    (focus (go_simp; try (with_reducible rfl)))
                    simp only [List.setIfInBounds_toArray, List.set_cons_succ, List.set_cons_zero]
                    refine wpMix_put (v := ?_) rfl rfl (Or.inl ⟨by rfl, fun wz hz => ?_⟩) hS ?_
                    rotate_left
                    (focus (go_simp; try (with_reducible rfl)))
                    simp only [List.setIfInBounds_toArray, List.set_cons_succ, List.set_cons_zero]
                    refine wpMix_put (v := ?_) rfl rfl (Or.inl ⟨by rfl, fun wz hz => ?_⟩) hS ?_
                    rotate_left
                    (focus (go_simp; try (with_reducible rfl)))
                    simp only [List.setIfInBounds_toArray, List.set_cons_succ, List.set_cons_zero]
                    refine wpMix_put (v := ?_) rfl rfl (Or.inl ⟨by rfl, fun wz hz => ?_⟩) hS ?_
                    rotate_left
                    (focus (go_simp; try (with_reducible rfl)))
                    simp only [List.setIfInBounds_toArray, List.set_cons_succ, List.set_cons_zero]
                    refine wpMix_put (v := ?_) rfl rfl (Or.inl ⟨by rfl, fun wz hz => ?_⟩) hS ?_
                    rotate_left
                    (focus (go_simp; try (with_reducible rfl)))
                    simp only [List.setIfInBounds_toArray, List.set_cons_succ, List.set_cons_zero]
                    refine wpMix_put (v := ?_) rfl rfl (Or.inl ⟨by rfl, fun wz hz => ?_⟩) hS ?_
                    rotate_left
                    (focus (go_simp; try (with_reducible rfl)))
                    simp only [List.setIfInBounds_toArray, List.set_cons_succ, List.set_cons_zero]
                    refine wpMix_put (v := ?_) rfl rfl (Or.inl ⟨by rfl, fun wz hz => ?_⟩) hS ?_
                    rotate_left
                    (focus (go_simp; try (with_reducible rfl)))
                    simp only [List.setIfInBounds_toArray, List.set_cons_succ, List.set_cons_zero]
                    refine wpMix_put (v := ?_) rfl rfl (Or.inl ⟨by rfl, fun wz hz => ?_⟩) hS ?_
                    rotate_left
                    (focus (go_simp; try (with_reducible rfl)))
                    simp only [List.setIfInBounds_toArray, List.set_cons_succ, List.set_cons_zero]
                    refine wpMix_put (v := ?_) rfl rfl (Or.inl ⟨by rfl, fun wz hz => ?_⟩) hS ?_
                    rotate_left
                    (focus (go_simp; try (with_reducible rfl)))
                    simp only [List.setIfInBounds_toArray, List.set_cons_succ, List.set_cons_zero]
                    refine wpMix_put (v := ?_) rfl rfl (Or.inl ⟨by rfl, fun wz hz => ?_⟩) hS ?_
                    rotate_left
                    (focus (go_simp; try (with_reducible rfl)))
                    simp only [List.setIfInBounds_toArray, List.set_cons_succ, List.set_cons_zero]
                    refine wpMix_put (v := ?_) rfl rfl (Or.inl ⟨by rfl, fun wz hz => ?_⟩) hS ?_
                    rotate_left
                    (focus (go_simp; try (with_reducible rfl)))
                    simp only [List.setIfInBounds_toArray, List.set_cons_succ, List.set_cons_zero]
                    refine wpMix_put (v := ?_) rfl rfl (Or.inl ⟨by rfl, fun wz hz => ?_⟩) hS ?_
                    rotate_left
                    (focus (go_simp; try (with_reducible rfl)))
                    simp only [List.setIfInBounds_toArray, List.set_cons_succ, List.set_cons_zero]
                    refine wpMix_step rfl (fun K hK => ?_)
                    go_simp
                    refine hst.mono ?_
                    rintro e w7 ⟨rfl, hbc⟩
                    go_simp
                    have hS7 := hcells _ (hbs5.tr hbc)
                    refine hK _ _ (fun _ => hS7) ?_
                    clear hK K hS
                    have hS := hS7
                    clear hS7 hst
                    have hb7 := hbs5.tr hbc
                    clear hbc
                    refine wpMix_put (v := ?_) rfl rfl (Or.inl ⟨by rfl, fun wz hz => ?_⟩) hS ?_
                    rotate_left
                    (focus (go_simp; try (with_reducible rfl)))
                    simp only [List.setIfInBounds_toArray, List.set_cons_succ, List.set_cons_zero]
                    refine wpMix_put (v := ?_) rfl rfl (Or.inl ⟨by rfl, fun wz hz => ?_⟩) hS ?_
                    rotate_left
                    (focus (go_simp; try (with_reducible rfl)))
                    simp only [List.setIfInBounds_toArray, List.set_cons_succ, List.set_cons_zero]
                    refine wpMix_nil ?_
                    clear hS hcells hwrap
                    go_wp2
                    go_roundw
                    case rel => exact ⟨k2 + 1, (some y), by omega, by go_num, rfl, rfl, hbs, by show _ = _; rw [hr2.out, hd.out, best_skip (.inr (.inr HQ.out))], hbl2.tr hb7⟩
                    case measure => simp [intOf]; omega
            · have he : (r.frm.toList == last.toList) = false := by simpa using he
              go_wp2
              go_quiet (fail)
              go_wp2
              go_roundw
              case rel => exact ⟨k2 + 1, b, by omega, by go_num, rfl, rfl, hbs, by show _ = _; rw [hr2.out, hd.out, best_skip (.inl he)], hbl2.drn _⟩
              case measure => simp [intOf]; omega
          · have hfin : best l heads last to k l none = b := by rw [hr2.out, drop_len hl.1 hlt]; rfl
            have HB := Lib.hid hfin
            clear hfin
            obtain ⟨x, hx⟩ : ∃ x, b.getD ByteArray.empty = x := ⟨_, rfl⟩
            have HX := Lib.hid hx
            rw [hx] at hbs ⊢
            clear hx
            go_wp2_with (at_builtin; refine wpList_app _ stringsT rfl (.tmp 77) (.tmp 79) rfl ((ho.below hbl2).alloc _) rfl rfl (news := [.string x]) rfl (Rds.one wr (.string x) 9) (by simp [Value.oneCell']) ?_ ?_ ?_; (focus omega); (focus omega); intro A6 c6 w6 o6 n6 g6 _)
            have hb6 := ((hbl.tr hbl2).al (.cells #[.string x] 9)).gr g6 (fun j hj => by have := ho.row j hj; omega)
            go_roundw
            case rel => exact ⟨k, pre.length + 1 + 1, c6, A6, pre ++ [last], x, by omega, rfl, rfl, n6, by omega, by simp, hbs, (fun s hs => by
              rcases List.mem_append.1 hs with h | h
              · exact hps s h
              · simp at h; rw [h]; exact hls), one_app o6 rfl, by show _ = _; rw [hr.out, wayN_next, HB.out, HX.out]; simp, hb6⟩
            case measure => simp [intOf]
end Go.Proofs.Ytdeeflbghhajiaa
