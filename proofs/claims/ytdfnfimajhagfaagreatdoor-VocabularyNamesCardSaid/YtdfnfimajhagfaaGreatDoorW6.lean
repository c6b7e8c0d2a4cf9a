/- Walks: rank and kept of the reference model. -/
import Derived.Test.YtdfnfimajhagfaaGreatDoorW4
import Derived.Test.YtdfnfimajhagfaaGreatDoorPlain
namespace Go.Proofs.YtdfnfimajhagfaaGreatDoor
open Go.RowKit Go.Maps Rf
theorem rstep_hit {out nx : List S} {r : Ref} {l : List Ref} (h : Rf.has out r.frm = true) (ha : r.also = false) : rstep out (r :: l) nx = rstep out l (Rf.put nx r.to) := by rw [rstep, if_pos (by simp [h, ha])]
theorem rstep_miss {out nx : List S} {r : Ref} {l : List Ref} (h : Rf.has out r.frm = false ∨ r.also = true) : rstep out (r :: l) nx = rstep out l nx := by
  rw [rstep, if_neg]
  rcases h with h | h <;> simp [h]
theorem rank_hit {l : List Ref} {heads : List S} {k n : Nat} {all : List S} (h : all.any (Rf.has heads) = true) : rankFrom l heads (k + 1) n all = some n := by rw [rankFrom, if_pos h]
theorem rank_miss {l : List Ref} {heads : List S} {k n : Nat} {all : List S} (h : all.any (Rf.has heads) = false) : rankFrom l heads (k + 1) n all = rankFrom l heads k (n + 1) (rstep all l all) := by rw [rankFrom, if_neg (by simp [h])]
theorem any_drop {p : S → Bool} {l : List S} {k : Nat} {x : S} (h : l[k]? = some x) : (l.drop k).any p = (p x || (l.drop (k + 1)).any p) := by rw [drop_get h]; rfl
set_option maxRecDepth 20000 in
set_option maxHeartbeats 2000000 in
theorem rank_ref (A B : Option Addr) (n m c d : Nat) (l : List Ref) (heads : List S) (frm : S) (w : World) (hm : n ≤ 100000) (hmh : m ≤ 1000000) (hl : Refs w A n l) (hh : Strs w B m heads) (hf : frm.size ≤ maxLen) :
    Calls Tryz.prog 148 #[.slice A n c, .slice B m d, .string frm] w fun e w' => e = .returned (.int .i64 (idx (rank l heads frm))) ∧ Below w.heap.size w w' := by
  have HN := Lib.hid hl.1
  go_enter Tryz.func148, Tryz.ntmps148
  go_wp2
  go_loopw [7, 8] (fun o i wr => ∃ (k m c1 : Nat) (A1 : Option Addr) (out : List S), k ≤ n + 1 ∧ i = .int .i64 k ∧ o = .slice A1 m c1 ∧ m ≤ c1 ∧ Strs wr A1 m out ∧ Grow l frm out ∧
      Hid (rank l heads frm = rankFrom l heads (n + 1 - k) k out) ∧ Below w.heap.size w wr) (fun _ i _ => n + 1 - (intOf i).toNat)
  case atStart =>
    refine ⟨0, 1, 1, _, [frm], by omega, rfl, rfl, Nat.le_refl _, ⟨rfl, by simp [hf], ?_⟩, Grow.one _ _, ?_, brefl.al _⟩
    · exact Rds.one w (.string frm) 9
    · show _ = _; unfold rank; rw [hl.1]; rfl
  case round =>
    obtain ⟨k, m1, c1, A1, out, hk, rfl, rfl, hc1, ho, hgo, hr, hbl⟩ := hrel
    have hm1 := hgo.len hl.1
    have hm2 := ho.1
    have hm3 : m1 ≤ n + 1 := by omega
    clear hm1 hm2
    by_cases hlt : k ≤ n
    · have HP := Lib.hid (show n + 1 - k = (n - k) + 1 from by omega)
      have hh1 := hh.below hbl
      go_wp2
      go_loop [9] (fun i => ∃ k2 : Nat, k2 ≤ m1 ∧ i = .int .i64 k2 ∧ Hid (out.any (Rf.has heads) = (out.drop k2).any (Rf.has heads))) (fun i => m1 - (intOf i).toNat)
      case atStart => exact ⟨0, by omega, rfl, rfl⟩
      case round =>
        obtain ⟨k2, hk2, rfl, hr2⟩ := hrel
        by_cases hlt2 : k2 < m1
        · obtain ⟨b, off, x, rfl, hx, hsz, hb, hcell⟩ := ho.at_ hlt2
          have hd := Lib.hid (any_drop (p := Rf.has heads) hx)
          clear hx hb
          cases hit : Rf.has heads x
          · go_wp2_with (go_at_call 50; refine (has_any _ _ _ _ _ _ (by omega) hh1).mono ?_; rintro e w' ⟨rfl, rfl⟩)
            go_round
            case rel => exact ⟨k2 + 1, by omega, by go_num, by show _ = _; rw [hr2.out, hd.out, hit]; rfl⟩
            case measure => simp [intOf]; omega
          · go_wp2_with (go_at_call 50; refine (has_any _ _ _ _ _ _ (by omega) hh1).mono ?_; rintro e w' ⟨rfl, rfl⟩)
            go_ret
            exact ⟨ret_i64 (by rw [hr.out, HP.out, rank_hit (by rw [hr2.out, hd.out, hit]; rfl)]; rfl), hbl⟩
        · have hno : out.any (Rf.has heads) = false := by rw [hr2.out, List.drop_eq_nil_of_le (by have := ho.1; omega)]; rfl
          have HNO := Lib.hid hno
          clear hno
          have hown := Own.empty wr 9 1 (base := w.heap.size) hbl.size
          have L1 := Lib.hid (show (out.map Value.string).length = m1 * 1 from by have := ho.1; simpa using this)
          have R1 := Lib.hid (ho.2.2.below (brefl.al (.cells #[] 9)))
          go_wp2_with (at_builtin; refine wpList_app _ stringsT rfl (.tmp 33) (.tmp 34) rfl hown rfl rfl L1.out R1.out (strs_one _) ?_ ?_ ?_; (focus omega); (focus omega); intro A2 c2 w2 o2 n2 g2 _)
          simp only [Nat.zero_add, List.nil_append] at o2 n2
          have hb2 := (hbl.al _).gr g2 hown.row
          have ho2 := ho.below ((brefl.al _).gr g2 (row_ge (Nat.le_refl _)))
          have hs2 := Strs.own o2 rfl ho.2.1
          clear L1 R1 hown g2 o2
          obtain ⟨wo, rfl⟩ : ∃ wo : World, wo = w2 := ⟨_, rfl⟩
          go_loopw [10, 11] (fun o i wr => ∃ (k2 m3 c3 : Nat) (A3 : Option Addr) (nx : List S), k2 ≤ n ∧ i = .int .i64 k2 ∧ o = .slice A3 m3 c3 ∧ m3 ≤ c3 ∧ Strs wr A3 m3 nx ∧ Grow l frm nx ∧
            Hid (rstep out l out = rstep out (l.drop k2) nx) ∧ Below wo.heap.size wo wr) (fun _ i _ => n - (intOf i).toNat)
          case atStart => exact ⟨0, m1, c2, A2, out, by omega, rfl, rfl, n2, hs2, hgo, rfl, brefl⟩
          case round =>
            obtain ⟨k3, m3, c3, A3, nx, hk3, rfl, rfl, hc3, hs3, hg3, hr3, hbl3⟩ := hrel
            have hbw := hb2.tr hbl3
            by_cases hlt3 : k3 < n
            · obtain ⟨b, off, r, rfl, hx, hsz1, hsz2, hb, hcell1, hcell2, hcell3⟩ := (hl.below hbw).at_ hlt3
              have hd := Lib.hid (drop_get hx)
              have hmem := List.mem_of_getElem? hx
              have hl3 : m3 ≤ 1000000 := by have h1 := hg3.len hl.1; have h2 := hs3.1; omega
              clear hx hb
              have ho3 := ho2.below hbl3
              cases ha : r.also
              · rw [ha] at hcell3
                cases hh2 : Rf.has out r.frm
                · go_wp2_with (go_at_call 50; refine (has_any _ _ _ _ _ _ (by omega) ho3).mono ?_; rintro e w' ⟨rfl, rfl⟩)
                  go_roundw
                  case rel => exact ⟨k3 + 1, m3, c3, A3, nx, by omega, by go_num, rfl, hc3, hs3, hg3, by show _ = _; rw [hr3.out, hd.out, rstep_miss (.inl hh2)], hbl3⟩
                  case measure => simp [intOf]; omega
                · go_wp2_with (first
                    | (go_at_call 50; refine (has_any _ _ _ _ _ _ (by omega) ho3).mono ?_; rintro e w' ⟨rfl, rfl⟩)
                    | (go_at_call 92; refine (put_any _ _ _ _ _ _ hl3 hc3 hsz2 hs3).mono ?_; rintro e w4 ⟨A4, m4, c4, rfl, hc4, hs4, hb4⟩))
                  go_roundw
                  case rel => exact ⟨k3 + 1, m4, c4, A4, _, by omega, by go_num, rfl, hc4, hs4, hg3.put hmem, by show _ = _; rw [hr3.out, hd.out, rstep_hit hh2 ha], hbl3.tr hb4⟩
                  case measure => simp [intOf]; omega
              · rw [ha] at hcell3
                go_wp2
                go_roundw
                case rel => exact ⟨k3 + 1, m3, c3, A3, nx, by omega, by go_num, rfl, hc3, hs3, hg3, by show _ = _; rw [hr3.out, hd.out, rstep_miss (.inr ha)], hbl3⟩
                case measure => simp [intOf]; omega
            · go_wp2
              go_roundw
              case rel =>
                refine ⟨k + 1, m3, c3, A3, nx, by omega, by go_num, rfl, hc3, hs3, hg3, ?_, hbw⟩
                show _ = _
                rw [hr.out, HP.out, rank_miss HNO.out, hr3.out, drop_len hl.1 hlt3, show n + 1 - (k + 1) = n - k from by omega]; rfl
              case measure => simp [intOf]; omega
    · go_wp2
      go_ret
      exact ⟨ret_i64 (by rw [hr.out, show n + 1 - k = 0 from by omega]; rfl), hbl⟩
theorem rank_le' {l : List Ref} {heads : List S} {x : S} {d : Nat} (h : rank l heads x = some d) : d ≤ l.length := by
  have h1 := (rank_some.1 h)
  rcases Nat.lt_or_ge l.length d with h2 | h2
  · exact absurd (R_bound h1.1) (h1.2 _ h2)
  · exact h2
theorem keptFrom_cons (l : List Ref) (heads : List S) (name : S) (r : Ref) (rest : List Ref) (i : Nat) (b : Option (Nat × Nat)) : keptFrom l heads name (r :: rest) i b = keptFrom l heads name rest (i + 1) (kstep l heads name i r b) := rfl
def bestI (b : Option (Nat × Nat)) : Int := match b with | none => -1 | some p => p.1
def bestN (b : Option (Nat × Nat)) : Int := match b with | none => 0 | some p => p.2
theorem bestI_idx (b : Option (Nat × Nat)) : bestI b = idx (b.map (·.1)) := by cases b <;> rfl
set_option maxRecDepth 20000 in
set_option maxHeartbeats 2000000 in
theorem kept_ref (A B : Option Addr) (n m c d : Nat) (l : List Ref) (heads : List S) (name : S) (w : World) (hm : n ≤ 100000) (hmh : m ≤ 1000000) (hl : Refs w A n l) (hh : Strs w B m heads) :
    Calls Tryz.prog 147 #[.slice A n c, .slice B m d, .string name] w fun e w' => e = .returned (.int .i64 (idx (kept l heads name))) ∧ Below w.heap.size w w' := by
  have HN := Lib.hid hl.1
  go_enter Tryz.func147, Tryz.ntmps147
  go_wp2
  go_loopw [7, 8, 9] (fun o v i wr => ∃ (k : Nat) (b : Option (Nat × Nat)), k ≤ n ∧ i = .int .i64 k ∧ o = .int .i64 (bestI b) ∧ v = .int .i64 (bestN b) ∧ (∀ i q, b = some (i, q) → i ≤ n ∧ q ≤ n) ∧
      Hid (keptFrom l heads name l 0 none = keptFrom l heads name (l.drop k) k b) ∧ Below w.heap.size w wr) (fun _ _ i _ => n - (intOf i).toNat)
  case atStart => exact ⟨0, none, by omega, rfl, rfl, rfl, (fun i q h => by cases h), rfl, brefl⟩
  case round =>
    obtain ⟨k, b, hk, rfl, rfl, rfl, hbd, hr, hbl⟩ := hrel
    by_cases hlt : k < n
    · obtain ⟨b1, off, r, rfl, hx, hsz1, hsz2, hb1, hcell1, hcell2, hcell3⟩ := (hl.below hbl).at_ hlt
      have hd := Lib.hid (drop_get hx)
      clear hx hb1
      by_cases he : (r.frm.toList == name.toList) = true
      · cases ha : r.also
        · rw [ha] at hcell3
          have hrk := rank_ref (some ⟨b1, off, none⟩) B n m c d l heads r.to wr hm hmh (hl.below hbl) (hh.below hbl) hsz2
          cases hrt : rank l heads r.to with
          | none =>
            rw [hrt] at hrk
            have HK := Lib.hid (show kstep l heads name k r b = b from by unfold kstep; rw [hrt]; split <;> rfl)
            clear hrt
            go_wp2_with (go_at_call 148; refine hrk.mono ?_; rintro e w2 ⟨rfl, hb2⟩; rw [idx])
            go_roundw
            case rel => exact ⟨k + 1, b, by omega, by go_num, rfl, rfl, hbd, by show _ = _; rw [hr.out, hd.out, keptFrom_cons, HK.out], hbl.tr hb2⟩
            case measure => simp [intOf]; omega
          | some nn =>
            have hnn := rank_le' hrt
            rw [hl.1] at hnn
            have hnn' : (0 : Int) ≤ (nn : Int) := by omega
            rw [hrt] at hrk
            cases b with
            | none =>
              have HK := Lib.hid (show kstep l heads name k r none = some (k, nn) from by unfold kstep; rw [if_pos (by simp [ha]; exact he), hrt])
              clear hrt
              rw [bestI, bestN]
              go_wp2_with (go_at_call 148; refine hrk.mono ?_; rintro e w2 ⟨rfl, hb2⟩; rw [idx])
              go_roundw
              case rel => exact ⟨k + 1, some (k, nn), by omega, by go_num, rfl, rfl, by intro i q e; cases e; exact ⟨by omega, hnn⟩, by show _ = _; rw [hr.out, hd.out, keptFrom_cons, HK.out], hbl.tr hb2⟩
              case measure => simp [intOf]; omega
            | some p =>
              obtain ⟨i, q⟩ := p
              obtain ⟨hin, hqn⟩ := hbd i q rfl
              rw [bestI, bestN]
              simp only
              by_cases hlt2 : nn < q
              · have HK := Lib.hid (show kstep l heads name k r (some (i, q)) = some (k, nn) from by unfold kstep; rw [if_pos (by simp [ha]; exact he), hrt]; simp [hlt2])
                have hlt3 : (nn : Int) < q := by omega
                clear hrt hbd
                go_wp2_with (go_at_call 148; refine hrk.mono ?_; rintro e w2 ⟨rfl, hb2⟩; rw [idx])
                go_roundw
                case rel => exact ⟨k + 1, some (k, nn), by omega, by go_num, rfl, rfl, by intro i q e; cases e; exact ⟨by omega, hnn⟩, by show _ = _; rw [hr.out, hd.out, keptFrom_cons, HK.out], hbl.tr hb2⟩
                case measure => simp [intOf]; omega
              · have HK := Lib.hid (show kstep l heads name k r (some (i, q)) = some (i, q) from by unfold kstep; rw [hrt]; simp [hlt2])
                have hlt3 : ¬ (nn : Int) < q := by omega
                clear hrt
                go_wp2_with (go_at_call 148; refine hrk.mono ?_; rintro e w2 ⟨rfl, hb2⟩; rw [idx])
                go_roundw
                case rel => exact ⟨k + 1, (some (i, q)), by omega, by go_num, rfl, rfl, hbd, by show _ = _; rw [hr.out, hd.out, keptFrom_cons, HK.out], hbl.tr hb2⟩
                case measure => simp [intOf]; omega
        · rw [ha] at hcell3
          have HK := Lib.hid (show kstep l heads name k r b = b from by unfold kstep; rw [if_neg (by simp [ha])])
          go_wp2
          go_roundw
          case rel => exact ⟨k + 1, b, by omega, by go_num, rfl, rfl, hbd, by show _ = _; rw [hr.out, hd.out, keptFrom_cons, HK.out], hbl⟩
          case measure => simp [intOf]; omega
      · have he : (r.frm.toList == name.toList) = false := by simpa using he
        have HK := Lib.hid (show kstep l heads name k r b = b from by unfold kstep; rw [if_neg (by rw [show eqS r.frm name = false from he]; simp)])
        go_wp2
        go_roundw
        case rel => exact ⟨k + 1, b, by omega, by go_num, rfl, rfl, hbd, by show _ = _; rw [hr.out, hd.out, keptFrom_cons, HK.out], hbl⟩
        case measure => simp [intOf]; omega
    · have hfin : keptFrom l heads name l 0 none = b := by rw [hr.out, drop_len hl.1 hlt]; rfl
      have HB := Lib.hid hfin
      clear hfin
      go_wp2
      go_ret
      exact ⟨ret_i64 (by unfold kept; rw [HB.out, bestI_idx]), hbl⟩
end Go.Proofs.YtdfnfimajhagfaaGreatDoor
