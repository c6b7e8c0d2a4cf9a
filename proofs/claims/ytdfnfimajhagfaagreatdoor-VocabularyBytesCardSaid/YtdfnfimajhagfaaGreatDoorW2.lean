/- Walks: SameTexts, SameInts, see, Put. -/
import Derived.Test.YtdfnfimajhagfaaGreatDoorW1
import Derived.Deep.RegionLaw
import Derived.Deep.QuietTactic
import Derived.BigQuiet
namespace Go.Proofs.YtdfnfimajhagfaaGreatDoor
open Go.RowKit Go.Maps Rf
theorem stringsT : AppT Tryz.prog 31 9 1 16 := AppT.mk Tryz.underlying31 (z := .string ByteArray.empty) (by kernel_rfl) rfl (by omega)
theorem putAt_gt' {l : List S} {s x : S} {k : Nat} (h0 : 0 < k) (hx : l[k - 1]? = some x) (h : ltS s x = true) : putAt l s k = putAt l s (k - 1) := by
  obtain ⟨k, rfl⟩ : ∃ j, k = j + 1 := ⟨k - 1, by omega⟩
  simp only [Nat.add_sub_cancel] at hx ⊢
  rw [putAt, if_pos]; simp [List.getD, hx, h]
theorem putAt_stop {l : List S} {s x : S} {k : Nat} (h0 : 0 < k) (hx : l[k - 1]? = some x) (h : ltS s x = false) : putAt l s k = k := by
  obtain ⟨k, rfl⟩ : ∃ j, k = j + 1 := ⟨k - 1, by omega⟩
  simp only [Nat.add_sub_cancel] at hx ⊢
  rw [putAt, if_neg]; simp [List.getD, hx, h]
theorem cmp3 (x s : S) : (Op.bytesLess x.toList s.toList = true ∧ (x.toList == s.toList) = false ∧ ltS s x = false) ∨ (Op.bytesLess x.toList s.toList = false ∧ (x.toList == s.toList) = true ∧ ltS s x = false) ∨
    (Op.bytesLess x.toList s.toList = false ∧ (x.toList == s.toList) = false ∧ ltS s x = true) := by
  rcases ltS_total x s with h | h | h
  · refine .inl ⟨h, (eqS_false x s).2 ?_, ltS_asymm h⟩
    intro e; subst e; rw [ltS_irrefl] at h; cases h
  · subst h; exact .inr (.inl ⟨ltS_irrefl x, (eqS_iff x x).2 rfl, ltS_irrefl x⟩)
  · refine .inr (.inr ⟨ltS_asymm h, (eqS_false x s).2 ?_, h⟩)
    intro e; subst e; rw [ltS_irrefl] at h; cases h
theorem put_insert {l : List S} {s : S} {n k : Nat} (hn : l.length = n) (hp : putAt l s n = k) (h : k = 0 ∨ ∃ x, l[k - 1]? = some x ∧ (x.toList == s.toList) = false) :
    Rf.put l s = l.take k ++ s :: l.drop k := by
  unfold put
  simp only [hn, hp]
  rw [if_neg]
  rintro ⟨h0, h1⟩
  rcases h with h | ⟨x, hx, he⟩
  · omega
  · simp only [List.getD, hx, Option.getD_some] at h1
    have : (x.toList == s.toList) = true := h1
    rw [he] at this; cases this
theorem put_there {l : List S} {s : S} {n k : Nat} {x : S} (hn : l.length = n) (hp : putAt l s n = k) (h0 : 0 < k) (hx : l[k - 1]? = some x) (he : (x.toList == s.toList) = true) : Rf.put l s = l := by
  unfold put
  simp only [hn, hp]
  rw [if_pos]
  exact ⟨h0, by simp only [List.getD, hx, Option.getD_some]; exact he⟩
theorem put_done {w : World} {base : Nat} {e : TypeId} {A : Option Addr} {m c k : Nat} {l : List S} {s : S} (h : Rf.put l s = l.take k ++ s :: l.drop k) (hl : ∀ s ∈ l, s.size ≤ maxLen) (hs : s.size ≤ maxLen)
    (o : Own w base e 1 (.slice A m c) m ((l.take k).map Value.string ++ [.string s] ++ (l.drop k).map Value.string)) : Strs w A m (Rf.put l s) := by
  refine Strs.own o (by rw [h]; simp) fun x hx => ?_
  rcases (mem_put l s x).1 hx with e | hx
  · rw [e]; exact hs
  · exact hl x hx
theorem not_row {a b : Nat} {off : Nat} {A : Option Addr} (hA : A = some ⟨a, off, none⟩) (h : a ≠ b) : ∀ b' off', A = some ⟨b', off', none⟩ → some b' ≠ some b := by
  intro b' off' e; rw [hA] at e; injection e with e; injection e with e1 e2; subst e1; simpa using h
set_option maxHeartbeats 1000000 in
theorem put_all (A : Option Addr) (n c : Nat) (l : List S) (s : S) (w : World) (hm : n ≤ 1000000) (hc : n ≤ c) (hss : s.size ≤ maxLen) (hl : Strs w A n l) :
    Calls Tryz.prog 92 #[.slice A n c, .string s] w fun e w' => ∃ A' n' c', e = .returned (.slice A' n' c') ∧ n' ≤ c' ∧ Strs w' A' n' (Rf.put l s) ∧ Below w.heap.size w w' ∧ (A' = A ∨ ∀ b off, A' = some ⟨b, off, none⟩ → w.heap.size ≤ b) := by
  go_enter Tryz.func92, Tryz.ntmps92
  go_wp2
  go_loop [5] (fun i => ∃ k : Nat, k ≤ n ∧ i = .int .i64 k ∧ Hid (putAt l s n = putAt l s k)) (fun i => (intOf i).toNat)
  case atStart => exact ⟨n, by omega, rfl, rfl⟩
  case round =>
    obtain ⟨k, hk, rfl, hr⟩ := hrel
    have hkc : k ≤ c := Nat.le_trans hk hc
    have R1 := Lib.hid (hl.take hk)
    have L1 := Lib.hid (show ((l.take k).map Value.string).length = k * 1 from by have := R1.out.1; simpa using this)
    have R2 := Lib.hid (hl.drop hk hc)
    have L2 := Lib.hid (show ((l.drop k).map Value.string).length = (n - k) * 1 from by have := R2.out.1; simpa using this)
    by_cases h0 : 0 < k
    · obtain ⟨b, off, x, rfl, hx, hxs, hb, hcell⟩ := hl.at_ (k := k - 1) (by omega)
      have HX := Lib.hid hx
      have R3 := R2.out
      clear hx hxs hb R2
      simp only [Option.map_some, addr_add] at R3
      have R2 := Lib.hid R3
      clear R3
      rcases cmp3 x s with ⟨f1, f2, f3⟩ | ⟨f1, f2, f3⟩ | ⟨f1, f2, f3⟩
      · have F3 := Lib.hid f3; clear f3
        have HI := Lib.hid (put_insert hl.1 (k := k) (hr.out.trans (putAt_stop h0 HX.out F3.out)) (.inr ⟨x, HX.out, f2⟩))
        go_wp2
        go_region_law (first
          | (have o0 := (Own.empty w 9 1 (Nat.le_refl _)).drew; refine step_app _ stringsT rfl (.tmp 33) (.tmp 36) rfl o0 rfl rfl L1.out (R1.out.2.2.below (brefl.al _).drew) (strs_one _) ?_ ?_ ?_; (focus omega); (focus omega); intro A1 c1 w1 o1 n1 g1 e1; have b1 := ((brefl (a := w)).al _).drew.gr g1 o0.row; simp only [Nat.zero_add, List.nil_append] at o1 n1 e1)
          | (have o0 := ((Own.empty w 9 1 (Nat.le_refl _)).alloc (.cells #[.string s] 9)).drew; refine step_app _ stringsT rfl (.tmp 33) (.tmp 36) rfl o0 rfl rfl L1.out (R1.out.2.2.below ((brefl.al _).al _).drew) (strs_one _) ?_ ?_ ?_; (focus omega); (focus omega); intro A1 c1 w1 o1 n1 g1 e1; have x39 := ((Rds.one (w.alloc (.cells #[] 9)) (.string s) 9).drew).grown g1 (not_row rfl (by simp)); simp only [World.size_alloc] at x39; have b1 := (((brefl (a := w)).al _).al _).drew.gr g1 o0.row; simp only [Nat.zero_add, List.nil_append] at o1 n1 e1)
          | (have o0 := (Own.empty (w.alloc (.cells #[.string s] 9)) 9 1 (base := w.heap.size) (by simp)).drew; simp only [World.size_alloc] at o0; refine step_app _ stringsT rfl (.tmp 33) (.tmp 36) rfl o0 rfl rfl L1.out (R1.out.2.2.below ((brefl.al _).al _).drew) (strs_one _) ?_ ?_ ?_; (focus omega); (focus omega); intro A1 c1 w1 o1 n1 g1 e1; have x39 := (((Rds.one w (.string s) 9).alloc (.cells #[] 9)).drew).grown g1 (not_row rfl (by simp)); have b1 := (((brefl (a := w)).al _).al _).drew.gr g1 o0.row; simp only [Nat.zero_add, List.nil_append] at o1 n1 e1)
          | (refine step_app _ stringsT rfl (.tmp 37) (.tmp 39) rfl o1 rfl rfl (news := [.string s]) rfl x39 (by simp [Value.oneCell']) ?_ ?_ ?_; (focus omega); (focus omega); intro A2 c2 w2 o2 n2 g2 e2; have b2 := b1.gr g2 o1.row)
          | (refine step_app _ stringsT rfl (.tmp 37) (.tmp 39) rfl (o1.alloc _) rfl rfl (news := [.string s]) rfl (Rds.one w1 (.string s) 9) (by simp [Value.oneCell']) ?_ ?_ ?_; (focus omega); (focus omega); intro A2 c2 w2 o2 n2 g2 e2; have b2 := (b1.al _).gr g2 o1.row)
          | (refine step_app _ stringsT rfl (.tmp 40) (.tmp 43) rfl o2 rfl rfl L2.out (R2.out.2.2.below b2) (strs_one _) ?_ ?_ ?_; (focus omega); (focus omega); intro A3 c3 w3 o3 n3 g3 e3; have b3 := b2.gr g3 o2.row))
        all_goals
          generalize (if c = k then some (⟨b, off, none⟩ : Addr) else some ⟨b, off + k, none⟩) = AA at *
          go_wp2
          go_ret
          exact ⟨A3, _, c3, rfl, n3, put_done HI.out hl.2.1 hss o3, b3, .inr fun b9 off9 e9 => o3.row b9 (by subst e9; rfl)⟩
      · have F3 := Lib.hid f3; clear f3
        go_wp2
        go_ret
        refine ⟨_, _, _, rfl, hc, ?_, brefl, .inl rfl⟩
        rw [put_there hl.1 (hr.out.trans (putAt_stop h0 HX.out F3.out)) h0 HX.out f2]
        exact hl
      · have F3 := Lib.hid f3; clear f3
        go_wp2
        go_round
        case rel => exact ⟨k - 1, by omega, by congr 1; omega, hr.out.trans (putAt_gt' h0 HX.out F3.out)⟩
        case measure => simp [intOf]; omega
    · have HI := Lib.hid (put_insert (s := s) hl.1 (k := k) (by rw [hr.out, show k = 0 from by omega]; rfl) (.inl (by omega)))
      go_wp2
      go_region_law (first
        | (have o0 := (Own.empty w 9 1 (Nat.le_refl _)).drew; refine step_app _ stringsT rfl (.tmp 33) (.tmp 36) rfl o0 rfl rfl L1.out (R1.out.2.2.below (brefl.al _).drew) (strs_one _) ?_ ?_ ?_; (focus omega); (focus omega); intro A1 c1 w1 o1 n1 g1 e1; have b1 := ((brefl (a := w)).al _).drew.gr g1 o0.row; simp only [Nat.zero_add, List.nil_append] at o1 n1 e1)
        | (have o0 := ((Own.empty w 9 1 (Nat.le_refl _)).alloc (.cells #[.string s] 9)).drew; refine step_app _ stringsT rfl (.tmp 33) (.tmp 36) rfl o0 rfl rfl L1.out (R1.out.2.2.below ((brefl.al _).al _).drew) (strs_one _) ?_ ?_ ?_; (focus omega); (focus omega); intro A1 c1 w1 o1 n1 g1 e1; have x39 := ((Rds.one (w.alloc (.cells #[] 9)) (.string s) 9).drew).grown g1 (not_row rfl (by simp)); simp only [World.size_alloc] at x39; have b1 := (((brefl (a := w)).al _).al _).drew.gr g1 o0.row; simp only [Nat.zero_add, List.nil_append] at o1 n1 e1)
        | (have o0 := (Own.empty (w.alloc (.cells #[.string s] 9)) 9 1 (base := w.heap.size) (by simp)).drew; simp only [World.size_alloc] at o0; refine step_app _ stringsT rfl (.tmp 33) (.tmp 36) rfl o0 rfl rfl L1.out (R1.out.2.2.below ((brefl.al _).al _).drew) (strs_one _) ?_ ?_ ?_; (focus omega); (focus omega); intro A1 c1 w1 o1 n1 g1 e1; have x39 := (((Rds.one w (.string s) 9).alloc (.cells #[] 9)).drew).grown g1 (not_row rfl (by simp)); have b1 := (((brefl (a := w)).al _).al _).drew.gr g1 o0.row; simp only [Nat.zero_add, List.nil_append] at o1 n1 e1)
        | (refine step_app _ stringsT rfl (.tmp 37) (.tmp 39) rfl o1 rfl rfl (news := [.string s]) rfl x39 (by simp [Value.oneCell']) ?_ ?_ ?_; (focus omega); (focus omega); intro A2 c2 w2 o2 n2 g2 e2; have b2 := b1.gr g2 o1.row)
        | (refine step_app _ stringsT rfl (.tmp 37) (.tmp 39) rfl (o1.alloc _) rfl rfl (news := [.string s]) rfl (Rds.one w1 (.string s) 9) (by simp [Value.oneCell']) ?_ ?_ ?_; (focus omega); (focus omega); intro A2 c2 w2 o2 n2 g2 e2; have b2 := (b1.al _).gr g2 o1.row)
        | (refine step_app _ stringsT rfl (.tmp 40) (.tmp 43) rfl o2 rfl rfl L2.out (R2.out.2.2.below b2) (strs_one _) ?_ ?_ ?_; (focus omega); (focus omega); intro A3 c3 w3 o3 n3 g3 e3; have b3 := b2.gr g3 o2.row))
      all_goals
        generalize (if c = k then A else Option.map (fun x : Addr => x.add k) A) = AA at *
        go_wp2
        go_ret
        exact ⟨A3, _, c3, rfl, n3, put_done HI.out hl.2.1 hss o3, b3, .inr fun b9 off9 e9 => o3.row b9 (by subst e9; rfl)⟩
theorem put_any (A : Option Addr) (n c : Nat) (l : List S) (s : S) (w : World) (hm : n ≤ 1000000) (hc : n ≤ c) (hss : s.size ≤ maxLen) (hl : Strs w A n l) :
    Calls Tryz.prog 92 #[.slice A n c, .string s] w fun e w' => ∃ A' n' c', e = .returned (.slice A' n' c') ∧ n' ≤ c' ∧ Strs w' A' n' (Rf.put l s) ∧ Below w.heap.size w w' :=
  (put_all A n c l s w hm hc hss hl).mono fun _ _ ⟨A', n', c', h1, h2, h3, h4, _⟩ => ⟨A', n', c', h1, h2, h3, h4⟩
end Go.Proofs.YtdfnfimajhagfaaGreatDoor
