/- Walks: the generators Name, Heads, Refs, Repaired; own. -/
import Derived.Test.YtdfnfimajhagfaaGreatDoorW9
namespace Go.Proofs.YtdfnfimajhagfaaGreatDoor
open Go.RowKit Go.Maps Rf
theorem Rds.new3At (w : World) {b : Nat} (hb : b = w.heap.size) (u1 u2 u3 : Value) (t : TypeId) : Rds (w.alloc (.cells #[u1, u2, u3] t)) (some ⟨b, 0, none⟩) [u1, u2, u3] := by subst hb; exact Rds.new3 w u1 u2 u3 t
/-- some string, not long -/
def ANm (w : World) (e : Ending) (w' : World) : Prop := ∃ s : S, e = .returned (.string s) ∧ s.size ≤ maxLen ∧ Below w.heap.size w w'
set_option maxRecDepth 20000 in
set_option maxHeartbeats 2000000 in
theorem name_any (n : Int) (w : World) (h0 : -9223372036854775808 ≤ n) (h1 : n ≤ 9223372036854775807) :
    Calls Tryz.prog 111 #[.int .i64 n] w (ANm w) := by
  have hr := around_range n 8 (by omega)
  have h8 : around n 8 = 0 ∨ around n 8 = 1 ∨ around n 8 = 2 ∨ around n 8 = 3 ∨ around n 8 = 4 ∨ around n 8 = 5 ∨ around n 8 = 6 ∨ around n 8 = 7 := by omega
  rcases h8 with h | h | h | h | h | h | h | h
  all_goals
    have H := Lib.hid h
    clear h hr
    go_enter Tryz.func111, Tryz.ntmps111
    go_wp2_with (go_at_call 24; refine (around_any _ _ _ h0 h1 (by omega) (by omega)).mono ?_; rintro e w' ⟨rfl, rfl⟩; rw [H.out])
    go_ret
    exact ⟨_, rfl, by decide, brefl.al _⟩
def ANms (k : Nat) (w : World) (e : Ending) (w' : World) : Prop := ∃ A n c l, e = .returned (.slice A n c) ∧ n ≤ c ∧ n ≤ k ∧ Strs w' A n l ∧ Below w.heap.size w w'
set_option maxRecDepth 20000 in
set_option maxHeartbeats 2000000 in
theorem heads_any (n : Int) (w : World) (h0 : -9223372036854775808 ≤ n) (h1 : n ≤ 9223372036854775807) :
    Calls Tryz.prog 63 #[.int .i64 n] w (ANms 4 w) := by
  have hr := around_range n 16 (by omega)
  obtain ⟨v, hv⟩ : ∃ v, around n 16 = v := ⟨_, rfl⟩
  have HV := Lib.hid hv
  rw [hv] at hr
  clear hv
  go_enter Tryz.func63, Tryz.ntmps63
  go_wp2
  go_loopw [3, 4] (fun o ii wr => ∃ (i m1 c1 : Nat) (A1 : Option Addr) (pre : List S), i ≤ 4 ∧ ii = .int .i64 i ∧ o = .slice A1 m1 c1 ∧ m1 ≤ c1 ∧ m1 ≤ i ∧ Own wr w.heap.size 9 1 (.slice A1 m1 c1) m1 (pre.map Value.string) ∧ (∀ s ∈ pre, s.size ≤ maxLen) ∧ Below w.heap.size w wr) (fun _ ii _ => 4 - (intOf ii).toNat)
  case atStart => exact ⟨0, 0, 0, none, [], by omega, rfl, rfl, by omega, by omega, Own.nil _ _ _ (Nat.le_refl _), by simp, brefl⟩
  case round =>
    obtain ⟨i, m1, c1, A1, pre, hi, rfl, rfl, hc1, hm1, ho, hpr, hbl⟩ := hrel
    by_cases hlt : i < 4
    · go_wp2_with (first
        | (go_at_call 24; refine (around_any _ _ _ h0 h1 (by omega) (by omega)).mono ?_; rintro e w' ⟨rfl, rfl⟩; rw [HV.out])
        | (go_at_call 111; refine (name_any _ _ (by omega) (by omega)).mono ?_; rintro e w2 ⟨s, rfl, hs, hb2⟩)
        | (at_builtin; refine wpList_app _ stringsT rfl (.tmp 15) (.tmp 18) rfl ((ho.below hb2).alloc _) rfl rfl (news := [.string s]) rfl (Rds.one w2 (.string s) 9) (by simp [Value.oneCell']) ?_ ?_ ?_; (focus omega); (focus omega); intro A4 c4 w4 o4 n4 g4 _; have hb4 := ((hbl.tr hb2).al (.cells #[.string s] 9)).gr g4 ho.row))
      · go_roundw
        case rel => exact ⟨i + 1, m1 + 1, c4, A4, pre ++ [s], by omega, by go_num, rfl, n4, by omega, one_app o4 rfl, (fun q hq => by
          rcases List.mem_append.1 hq with h | h
          · exact hpr q h
          · simp at h; rw [h]; exact hs), hb4⟩
        case measure => simp [intOf]; omega
      · go_roundw
        case rel => exact ⟨i + 1, m1, c1, A1, pre, by omega, by go_num, rfl, hc1, by omega, ho, hpr, hbl⟩
        case measure => simp [intOf]; omega
    · go_wp2
      go_ret
      exact ⟨A1, m1, c1, pre, rfl, hc1, by omega, Strs.own ho rfl hpr, hbl⟩
def ARefs (k : Nat) (w : World) (e : Ending) (w' : World) : Prop := ∃ A n c l, e = .returned (.slice A n c) ∧ n ≤ c ∧ n ≤ k ∧ Refs w' A n l ∧ Below w.heap.size w w'
/-- a reference being made in block b -/
def Mk (w : World) (b : Nat) (r : Ref) : Prop := b < w.heap.size ∧ (w.cell? ⟨b, 0, none⟩ = some (.string r.frm) ∧ w.cell? ⟨b, 1, none⟩ = some (.string r.to) ∧ w.cell? ⟨b, 2, none⟩ = some (.bool r.also)) ∧ (∀ j, w.frozen? ⟨b, j, none⟩ = false) ∧ r.frm.size ≤ maxLen ∧ r.to.size ≤ maxLen
theorem Mk.below {w w' : World} {b : Nat} {r : Ref} (h : Mk w b r) (hb : Below w.heap.size w w') : Mk w' b r :=
  ⟨Nat.lt_of_lt_of_le h.1 hb.size, ⟨(hb.cell (p := ⟨b, 0, none⟩) h.1).trans h.2.1.1, (hb.cell (p := ⟨b, 1, none⟩) h.1).trans h.2.1.2.1, (hb.cell (p := ⟨b, 2, none⟩) h.1).trans h.2.1.2.2⟩, fun j => (hb.frozen (p := ⟨b, j, none⟩) h.1).trans (h.2.2.1 j), h.2.2.2⟩
theorem Mk.new (w : World) (r : Ref) (t : TypeId) (h : r.frm.size ≤ maxLen ∧ r.to.size ≤ maxLen) : Mk (w.alloc (.cells #[.string r.frm, .string r.to, .bool r.also] t)) w.heap.size r :=
  ⟨by simp, ⟨by simp, by simp, by simp⟩, by simp, h⟩
theorem Mk.set0 {w : World} {b : Nat} {r : Ref} (h : Mk w b r) (s : S) (hs : s.size ≤ maxLen) : Mk (w.setCell ⟨b, 0, none⟩ (.string s)) b ⟨s, r.to, r.also⟩ :=
  ⟨by simpa using h.1, ⟨World.cell?_setCell_same _ _ _ h.2.1.1, by rw [World.cell?_setCell_other _ _ _ _ (by simp)]; exact h.2.1.2.1, by rw [World.cell?_setCell_other _ _ _ _ (by simp)]; exact h.2.1.2.2⟩, fun j => by rw [World.frozen?_setCell]; exact h.2.2.1 j, hs, h.2.2.2.2⟩
theorem Mk.set1 {w : World} {b : Nat} {r : Ref} (h : Mk w b r) (s : S) (hs : s.size ≤ maxLen) : Mk (w.setCell ⟨b, 1, none⟩ (.string s)) b ⟨r.frm, s, r.also⟩ :=
  ⟨by simpa using h.1, ⟨by rw [World.cell?_setCell_other _ _ _ _ (by simp)]; exact h.2.1.1, World.cell?_setCell_same _ _ _ h.2.1.2.1, by rw [World.cell?_setCell_other _ _ _ _ (by simp)]; exact h.2.1.2.2⟩, fun j => by rw [World.frozen?_setCell]; exact h.2.2.1 j, h.2.2.2.1, hs⟩
theorem Mk.set2 {w : World} {b : Nat} {r : Ref} (h : Mk w b r) (s : Bool) : Mk (w.setCell ⟨b, 2, none⟩ (.bool s)) b ⟨r.frm, r.to, s⟩ :=
  ⟨by simpa using h.1, ⟨by rw [World.cell?_setCell_other _ _ _ _ (by simp)]; exact h.2.1.1, by rw [World.cell?_setCell_other _ _ _ _ (by simp)]; exact h.2.1.2.1, World.cell?_setCell_same _ _ _ h.2.1.2.2⟩, fun j => by rw [World.frozen?_setCell]; exact h.2.2.1 j, h.2.2.2⟩
set_option maxRecDepth 20000 in
set_option maxHeartbeats 4000000 in
theorem refs_any (A : Option Addr) (n c : Nat) (l : List Int) (most : Int) (w : World) (h0 : -9223372036854775808 ≤ most) (h1 : most ≤ 100000) (hn : n ≤ 9223372036854775807) (hl : Ints w A n l) :
    Calls Tryz.prog 62 #[.slice A n c, .int .i64 most] w (ARefs most.toNat w) := by
  go_enter Tryz.func62, Tryz.ntmps62
  go_wp2
  go_loopw [5, 6] (fun o ii wr => ∃ (i m1 c1 : Nat) (A1 : Option Addr) (pre : List Ref), i ≤ n ∧ ii = .int .i64 i ∧ o = .slice A1 m1 c1 ∧ m1 ≤ c1 ∧ m1 ≤ i ∧ i ≤ most.toNat ∧ Own wr w.heap.size 135 3 (.slice A1 m1 c1) m1 (refsCells pre) ∧ (∀ q ∈ pre, q.frm.size ≤ maxLen ∧ q.to.size ≤ maxLen) ∧ Below w.heap.size w wr) (fun _ ii _ => n - (intOf ii).toNat)
  case atStart => exact ⟨0, 0, 0, none, [], by omega, rfl, rfl, by omega, by omega, by omega, Own.nil _ _ _ (Nat.le_refl _), by simp, brefl⟩
  case round =>
    obtain ⟨i, m1, c1, A1, pre, hi, rfl, rfl, hc1, hm1, him, ho, hpr, hbl⟩ := hrel
    by_cases hlt : i < n
    · by_cases hlt2 : (i : Int) < most
      · obtain ⟨b, off, x, rfl, hx, ⟨hx0, hx1⟩, hb0, hcx⟩ := (hl.below hbl).at_ hlt
        have hv := around_range x 4096 (by omega)
        clear hx hb0
        go_wp2_with fail
        refine (around_any _ _ _ hx0 hx1 (by omega) (by omega)).mono ?_
        rintro e w' ⟨rfl, rfl⟩
        generalize around x 4096 = v at hv ⊢
        obtain ⟨al, hal⟩ : ∃ al, (v / 64 % 3 == 0) = al := ⟨_, rfl⟩
        go_wp2_with fail
        refine (name_any _ _ (by omega) (by omega)).mono ?_
        rintro e w2 ⟨s2, rfl, hs2, hb2⟩
        go_wp2_with fail
        refine (name_any _ _ (by omega) (by omega)).mono ?_
        rintro e w3 ⟨s3, rfl, hs3, hb3⟩
        have hb23 := hb2.tr hb3
        have M4 := Mk.new w3 ⟨s2, s3, al⟩ 135 ⟨hs2, hs3⟩
        have hb4 : Below wr.heap.size wr (w3.alloc (.cells #[.string s2, .string s3, .bool al] 135)) := hb23.al _
        have ha4 : Below w3.heap.size w3 (w3.alloc (.cells #[.string s2, .string s3, .bool al] 135)) := brefl.al _
        by_cases h192 : v / 192 % 4 ≤ 0
        · have hb := hb4
          have MM := M4
          obtain ⟨_, ⟨p0, p1, p2⟩, ff, hz⟩ := M4
          have hz1 : i + 1 ≤ most.toNat := by omega
          clear ff
          go_wp2_with (at_builtin; refine wpList_app _ refsT2 rfl (.tmp 55) (.tmp 57) rfl ((ho.below hb4).alloc _) rfl rfl (news := [.string s2, .string s3, .bool al]) rfl (Rds.new3At (w3.alloc (.cells #[.string s2, .string s3, .bool al] 135)) (by simp) _ _ _ 135) (by simp [Value.oneCell']) ?_ ?_ ?_; (focus omega); (focus omega); intro A8 c8 w8 o8 n8 g8 _)
          have hb9 := ((hbl.tr hb4).al _).gr g8 ho.row
          go_roundw
          case rel => exact ⟨i + 1, m1 + 1, c8, A8, pre ++ [⟨s2, s3, al⟩], by omega, by go_num, rfl, n8, by omega, hz1, snoc_refs o8, (fun q hq => by
            rcases List.mem_append.1 hq with h | h
            · exact hpr q h
            · simp at h; subst h; exact hz), hb9⟩
          case measure => simp [intOf]; omega
        · have h192' : 0 < v / 192 % 4 := by omega
          clear h192
          go_wp2_with fail
          refine (name_any _ _ (by omega) (by omega)).mono ?_
          rintro e w4 ⟨s4, rfl, hs4, hb5⟩
          have hx5 := hb4.tr hb5
          have M5 := M4.below hb5
          have M6 := M5.set0 s4 hs4
          have hx6 : Below wr.heap.size wr (w4.setCell ⟨w3.heap.size, 0, none⟩ (.string s4)) := hx5.st hb23.size _
          cases al
          · obtain ⟨_, ⟨p0, p1, p2⟩, ff, _⟩ := M5
            obtain ⟨_, ⟨d0, d1, d2⟩, fg, hz⟩ := M6
            have hz1 : i + 1 ≤ most.toNat := by omega
            go_wp2_with (at_builtin; refine wpList_app _ refsT2 rfl (.tmp 55) (.tmp 57) rfl ((ho.below hx6).alloc _) rfl rfl (news := [.string s4, .string s3, .bool false]) rfl (Rds.new3At (w4.setCell ⟨w3.heap.size, 0, none⟩ (.string s4)) (by simp) _ _ _ 135) (by simp [Value.oneCell']) ?_ ?_ ?_; (focus omega); (focus omega); intro A8 c8 w8 o8 n8 g8 _)
            have hb9 := ((hbl.tr hx6).al _).gr g8 ho.row
            go_roundw
            case rel => exact ⟨i + 1, m1 + 1, c8, A8, pre ++ [⟨s4, s3, false⟩], by omega, by go_num, rfl, n8, by omega, hz1, snoc_refs o8, (fun q hq => by
              rcases List.mem_append.1 hq with h | h
              · exact hpr q h
              · simp at h; subst h; exact hz), hb9⟩
            case measure => simp [intOf]; omega
          · have M5' := M5
            have M6' := M6
            obtain ⟨_, ⟨p0, p1, p2⟩, ff, _⟩ := M5
            obtain ⟨_, ⟨d0, d1, d2⟩, fg, _⟩ := M6
            go_wp2_with fail
            refine (name_any _ _ (by omega) (by omega)).mono ?_
            rintro e w6 ⟨s6, rfl, hs6, hb6⟩
            have hx7 := hx6.tr hb6
            have M7 := M6'.below hb6
            have M8 := M7.set0 s6 hs6
            have hx8 : Below wr.heap.size wr (w6.setCell ⟨w3.heap.size, 0, none⟩ (.string s6)) := hx7.st hb23.size _
            have M8' := M8
            clear p0 p1 p2 d0 d1 d2 ff fg
            obtain ⟨_, ⟨p0, p1, p2⟩, ff, _⟩ := M7
            obtain ⟨_, ⟨d0, d1, d2⟩, fg, _⟩ := M8
            go_wp2_with fail
            refine (name_any _ _ (by omega) (by omega)).mono ?_
            rintro e w7 ⟨s7, rfl, hs7, hb7⟩
            have hx9 := hx8.tr hb7
            have M9 := M8'.below hb7
            have M10 := M9.set1 s7 hs7
            have hx10 : Below wr.heap.size wr (w7.setCell ⟨w3.heap.size, 1, none⟩ (.string s7)) := hx9.st hb23.size _
            clear p0 p1 p2 d0 d1 d2 ff fg
            obtain ⟨_, ⟨p0, p1, p2⟩, ff, _⟩ := M9
            obtain ⟨_, ⟨d0, d1, d2⟩, fg, hz⟩ := M10
            have hz1 : i + 1 ≤ most.toNat := by omega
            go_wp2_with (at_builtin; refine wpList_app _ refsT2 rfl (.tmp 55) (.tmp 57) rfl ((ho.below hx10).alloc _) rfl rfl (news := [.string s6, .string s7, .bool true]) rfl (Rds.new3At (w7.setCell ⟨w3.heap.size, 1, none⟩ (.string s7)) (by simp) _ _ _ 135) (by simp [Value.oneCell']) ?_ ?_ ?_; (focus omega); (focus omega); intro A8 c8 w8 o8 n8 g8 _)
            have hb9 := ((hbl.tr hx10).al _).gr g8 ho.row
            go_roundw
            case rel => exact ⟨i + 1, m1 + 1, c8, A8, pre ++ [⟨s6, s7, true⟩], by omega, by go_num, rfl, n8, by omega, hz1, snoc_refs o8, (fun q hq => by
              rcases List.mem_append.1 hq with h | h
              · exact hpr q h
              · simp at h; subst h; exact hz), hb9⟩
            case measure => simp [intOf]; omega
      · go_wp2
        go_ret
        exact ⟨A1, m1, c1, pre, rfl, hc1, by omega, Refs.own ho rfl hpr, hbl⟩
    · go_wp2
      go_ret
      exact ⟨A1, m1, c1, pre, rfl, hc1, by omega, Refs.own ho rfl hpr, hbl⟩
end Go.Proofs.YtdfnfimajhagfaaGreatDoor
