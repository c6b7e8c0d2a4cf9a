/- Reference of layer 6: the class of a byte. -/
import Derived.Test.YtdfnfimajhagfaaGreatDoorT2
import Derived.Test.YtdfnfimajhagfaaGreatDoorUnit
import Derived.BigQuiet
import Derived.Test.YtdfnfimajhagfaaGreatDoorV19
import Derived.Laws.IdiomStrings
namespace Rf
/-- the reference's class of a byte: a blank is none -/
def clsN (b : Nat) : Int := if b = 32 then -1 else (kindN b : Int)
end Rf
namespace Go.Proofs.YtdfnfimajhagfaaGreatDoor
open Go.RowKit Go.Maps Rf
set_option maxRecDepth 20000 in
set_option maxHeartbeats 1000000 in
theorem rclsN_any (b : Nat) (w : World) (hb : b < 256) : Calls Tryz.prog 139 #[.int .u8 b] w fun e w' => e = .returned (.int .i64 (clsN b)) ∧ w = w' := by
  have hb' : (b : Int) < 256 := by omega
  have h8 : b = 32 ∨ (b ≠ 32 ∧ b < 48) ∨ (48 ≤ b ∧ b ≤ 57) ∨ (57 < b ∧ b < 64) ∨ b = 64 ∨ (65 ≤ b ∧ b ≤ 90) ∨ (90 < b ∧ b < 97) ∨ (97 ≤ b ∧ b ≤ 122) ∨ 122 < b := by omega
  rcases h8 with h | h | h | h | h | h | h | h | h
  · subst h
    go_enter Tryz.func139, Tryz.ntmps139
    go_wp2
    go_ret
    exact ⟨ret_i64 (by unfold clsN kindN; rfl), rfl⟩
  · have e0 : ((b : Int) == 32) = false := by rw [beq_eq_false_iff_ne]; omega
    have e1 : ¬ (97 : Int) ≤ b := by omega
    have e2 : ¬ (65 : Int) ≤ b := by omega
    have e3 : ¬ (48 : Int) ≤ b := by omega
    have e4 : ((b : Int) == 64) = false := by rw [beq_eq_false_iff_ne]; omega
    go_enter Tryz.func139, Tryz.ntmps139
    go_wp2
    go_ret
    exact ⟨ret_i64 (by unfold clsN kindN; rw [if_neg (by omega), if_neg (by omega), if_neg (by omega), if_neg (by omega), if_neg (by omega)]; rfl), rfl⟩
  · have e0 : ((b : Int) == 32) = false := by rw [beq_eq_false_iff_ne]; omega
    have e1 : ¬ (97 : Int) ≤ b := by omega
    have e2 : ¬ (65 : Int) ≤ b := by omega
    have e3 : (48 : Int) ≤ b := by omega
    have e5 : (b : Int) ≤ 57 := by omega
    go_enter Tryz.func139, Tryz.ntmps139
    go_wp2
    go_ret
    exact ⟨ret_i64 (by unfold clsN kindN; rw [if_neg (by omega), if_neg (by omega), if_neg (by omega), if_pos (by omega)]; rfl), rfl⟩
  · have e0 : ((b : Int) == 32) = false := by rw [beq_eq_false_iff_ne]; omega
    have e1 : ¬ (97 : Int) ≤ b := by omega
    have e2 : ¬ (65 : Int) ≤ b := by omega
    have e3 : (48 : Int) ≤ b := by omega
    have e5 : ¬ (b : Int) ≤ 57 := by omega
    have e4 : ((b : Int) == 64) = false := by rw [beq_eq_false_iff_ne]; omega
    go_enter Tryz.func139, Tryz.ntmps139
    go_wp2
    go_ret
    exact ⟨ret_i64 (by unfold clsN kindN; rw [if_neg (by omega), if_neg (by omega), if_neg (by omega), if_neg (by omega), if_neg (by omega)]; rfl), rfl⟩
  · subst h
    go_enter Tryz.func139, Tryz.ntmps139
    go_wp2
    go_ret
    exact ⟨ret_i64 (by unfold clsN kindN; rfl), rfl⟩
  · have e0 : ((b : Int) == 32) = false := by rw [beq_eq_false_iff_ne]; omega
    have e1 : ¬ (97 : Int) ≤ b := by omega
    have e2 : (65 : Int) ≤ b := by omega
    have e6 : (b : Int) ≤ 90 := by omega
    go_enter Tryz.func139, Tryz.ntmps139
    go_wp2
    go_ret
    exact ⟨ret_i64 (by unfold clsN kindN; rw [if_neg (by omega), if_neg (by omega), if_pos (by omega)]; rfl), rfl⟩
  · have e0 : ((b : Int) == 32) = false := by rw [beq_eq_false_iff_ne]; omega
    have e1 : ¬ (97 : Int) ≤ b := by omega
    have e2 : (65 : Int) ≤ b := by omega
    have e6 : ¬ (b : Int) ≤ 90 := by omega
    have e3 : (48 : Int) ≤ b := by omega
    have e5 : ¬ (b : Int) ≤ 57 := by omega
    have e4 : ((b : Int) == 64) = false := by rw [beq_eq_false_iff_ne]; omega
    go_enter Tryz.func139, Tryz.ntmps139
    go_wp2
    go_ret
    exact ⟨ret_i64 (by unfold clsN kindN; rw [if_neg (by omega), if_neg (by omega), if_neg (by omega), if_neg (by omega), if_neg (by omega)]; rfl), rfl⟩
  · have e0 : ((b : Int) == 32) = false := by rw [beq_eq_false_iff_ne]; omega
    have e1 : (97 : Int) ≤ b := by omega
    have e7 : (b : Int) ≤ 122 := by omega
    go_enter Tryz.func139, Tryz.ntmps139
    go_wp2
    go_ret
    exact ⟨ret_i64 (by unfold clsN kindN; rw [if_neg (by omega), if_pos (by omega)]; rfl), rfl⟩
  · have e0 : ((b : Int) == 32) = false := by rw [beq_eq_false_iff_ne]; omega
    have e1 : (97 : Int) ≤ b := by omega
    have e7 : ¬ (b : Int) ≤ 122 := by omega
    have e2 : (65 : Int) ≤ b := by omega
    have e6 : ¬ (b : Int) ≤ 90 := by omega
    have e3 : (48 : Int) ≤ b := by omega
    have e5 : ¬ (b : Int) ≤ 57 := by omega
    have e4 : ((b : Int) == 64) = false := by rw [beq_eq_false_iff_ne]; omega
    go_enter Tryz.func139, Tryz.ntmps139
    go_wp2
    go_ret
    exact ⟨ret_i64 (by unfold clsN kindN; rw [if_neg (by omega), if_neg (by omega), if_neg (by omega), if_neg (by omega), if_neg (by omega)]; rfl), rfl⟩
theorem rcls_any (b : UInt8) (w : World) : Calls Tryz.prog 139 #[.int .u8 (b.toNat : Int)] w fun e w' => e = .returned (.int .i64 (clsN b.toNat)) ∧ w = w' := rclsN_any b.toNat w b.toNat_lt
end Go.Proofs.YtdfnfimajhagfaaGreatDoor
/- Reference of layer 6: Last. -/
namespace Rf
/-- a token is the last one of its unit -/
def lastT (l : List Tok) (i : Nat) : Bool := match l[i]?, l[i + 1]? with
  | some t, some u => decide (t.hi < u.lo)
  | _, _ => true
theorem lastT_two {l : List Tok} {i : Nat} {t u : Tok} (h : l[i]? = some t) (g : l[i + 1]? = some u) : lastT l i = decide (t.hi < u.lo) := by unfold lastT; rw [h, g]
theorem lastT_end {l : List Tok} {i : Nat} (g : l.length ≤ i + 1) : lastT l i = true := by
  have h : l[i + 1]? = none := List.getElem?_eq_none g
  unfold lastT
  rw [h]
  cases l[i]? <;> rfl
end Rf
namespace Go.Proofs.YtdfnfimajhagfaaGreatDoor
open Go.RowKit Go.Maps Rf
set_option maxRecDepth 100000 in
set_option maxHeartbeats 2000000 in
theorem rlast_any (A : Option Addr) (n c : Nat) (l : List Tok) (i : Nat) (w : World) (hl : l.length = n) (hn : n ≤ 1000000) (h : Rds w A (tokCells l)) (hi : i < n) :
    Calls Tryz.prog 99 #[.slice A n c, .int .i64 i] w fun e w' => e = .returned (.bool (lastT l i)) ∧ Below w.heap.size w w' := by
  have hi1 := IntWalk.i64_in ((i : Int) + 1) (by omega)
  by_cases hlt : i + 1 < n
  · obtain ⟨t, ht⟩ : ∃ t, l[i]? = some t := ⟨_, List.getElem?_eq_getElem (by omega)⟩
    obtain ⟨u, hu⟩ : ∃ u, l[i + 1]? = some u := ⟨_, List.getElem?_eq_getElem (by omega)⟩
    obtain ⟨b, off, e1, hb, c0, c1, c2⟩ := tok_at h ht
    obtain ⟨b2, off2, e2, hb2, d0, d1, d2⟩ := tok_at h hu
    subst e1
    obtain ⟨rfl, rfl⟩ : b = b2 ∧ off = off2 := by cases e2; exact ⟨rfl, rfl⟩
    clear e2 h c0 c2 d1 d2 hb2
    rw [lastT_two ht hu]
    clear ht hu hl
    have hd : decide ((n : Int) ≤ (i : Int) + 1) = false := by simp; omega
    have g1 : (i : Int) < n := by omega
    have g2 : (i : Int) + 1 < n := by omega
    go_enter Tryz.func99, Tryz.ntmps99
    go_wp2
    go_quiet (fail)
    go_wp2
    go_ret
    exact ⟨rfl, brefl.drn _⟩
  · rw [lastT_end (by omega)]
    have hd : decide ((n : Int) ≤ (i : Int) + 1) = true := by simp; omega
    clear h hl
    go_enter Tryz.func99, Tryz.ntmps99
    go_wp2
    go_quiet (fail)
    go_wp2
    go_ret
    exact ⟨rfl, brefl.drn _⟩
end Go.Proofs.YtdfnfimajhagfaaGreatDoor
/- Strings to bytes and back; the reference's Fold; the law's capital letters. -/
namespace Rf
/-- a list of bytes of which the first i are changed -/
def midB (f : UInt8 → UInt8) (l : List UInt8) (i : Nat) : List UInt8 := (l.take i).map f ++ l.drop i
theorem midB_zero (f : UInt8 → UInt8) (l : List UInt8) : midB f l 0 = l := rfl
theorem midB_end (f : UInt8 → UInt8) {l : List UInt8} {i : Nat} (h : l.length ≤ i) : midB f l i = l.map f := by unfold midB; rw [List.take_of_length_le h, List.drop_of_length_le h, List.append_nil]
theorem midB_len (f : UInt8 → UInt8) (l : List UInt8) (i : Nat) : (midB f l i).length = l.length := by unfold midB; simp; omega
theorem midB_get (f : UInt8 → UInt8) {l : List UInt8} {i : Nat} (h : i < l.length) : (midB f l i)[i]? = some l[i] := by
  unfold midB
  rw [List.getElem?_append_right (by simp; omega), List.getElem?_drop]
  simp only [List.length_map, List.length_take]
  rw [show i + (i - min i l.length) = i from by omega, List.getElem?_eq_getElem h]
theorem midB_set (f : UInt8 → UInt8) {l : List UInt8} {i : Nat} (h : i < l.length) : (midB f l i).set i (f l[i]) = midB f l (i + 1) := by
  unfold midB
  rw [List.set_append_right _ _ (by simp; omega)]
  simp only [List.length_map, List.length_take]
  rw [show i - min i l.length = 0 from by omega, List.drop_eq_getElem_cons h, List.set_cons_zero, List.take_add_one, List.getElem?_eq_getElem h, List.map_append, List.append_assoc]
  rfl
theorem midB_keep (f : UInt8 → UInt8) {l : List UInt8} {i : Nat} (h : i < l.length) (he : f l[i] = l[i]) : midB f l i = midB f l (i + 1) := by
  rw [← midB_set f h, he]
  have := midB_get f h
  obtain ⟨h1, h2⟩ := List.getElem?_eq_some_iff.1 this
  conv => rhs; rw [← h2]
  rw [List.set_getElem_self]
end Rf
namespace Go.Proofs.YtdfnfimajhagfaaGreatDoor
open Go.RowKit Go.Maps Rf
/-- a row of bytes of the call's own -/
structure BRow (w : World) (b : Nat) (l : List UInt8) : Prop where
  lt : b < w.heap.size
  cell : ∀ j x, l[j]? = some x → w.cell? ⟨b, j, none⟩ = some (.int .u8 (x.toNat : Int))
  fr : ∀ j, j < l.length → w.frozen? ⟨b, j, none⟩ = false
theorem BRow.below {w w' : World} {b : Nat} {l : List UInt8} (h : BRow w b l) (hb : Below w.heap.size w w') : BRow w' b l :=
  ⟨Nat.lt_of_lt_of_le h.lt hb.size, fun j x hx => (hb.cell (p := ⟨b, j, none⟩) h.lt).trans (h.cell j x hx), fun j hj => (hb.frozen (p := ⟨b, j, none⟩) h.lt).trans (h.fr j hj)⟩
theorem BRow.set {w : World} {b : Nat} {l : List UInt8} (h : BRow w b l) {i : Nat} (hi : i < l.length) {v : Int} {x : UInt8} (hv : v = (x.toNat : Int)) : BRow (w.setCell ⟨b, i, none⟩ (.int .u8 v)) b (l.set i x) := by
  subst hv
  refine ⟨by simpa [World.setCell] using h.lt, fun j y hy => ?_, fun j hj => ?_⟩
  · by_cases e : i = j
    · subst e
      rw [List.getElem?_set_self hi] at hy
      injection hy with hy
      subst hy
      exact World.cell?_setCell_same _ _ _ (h.cell i _ (List.getElem?_eq_getElem hi))
    · rw [List.getElem?_set_ne e] at hy
      rw [World.cell?_setCell_other _ _ _ _ (by intro q; injection q with _ q; exact e (by omega))]
      exact h.cell j y hy
  · rw [World.frozen?_setCell]; exact h.fr j (by simpa using hj)
/-- '[]byte(s)' -/
theorem conv_in (s : S) (w : World) : ∃ cap w1, (convert 9 70 (.string s)).run Tryz.prog w = .ok (.slice (some ⟨w.heap.size, 0, none⟩) s.size cap) w1 ∧ s.size ≤ cap ∧ BRow w1 w.heap.size (byts s) ∧ Below w.heap.size w w1 := by
  have hz : s.size ≤ (bytesRow s (grownCap w s.size 0 5)).size := by
    unfold bytesRow
    rw [Array.size_append, Array.size_map]
    exact Nat.le_add_right _ _
  refine ⟨_, _, run_bytes_of_string w 9 70 5 s Tryz.underlying9 Tryz.underlying70 Tryz.underlying5, grownCap_ge w _ _ _, ⟨by simp, fun j x hx => ?_, fun j hj => ?_⟩, ?_⟩
  · have hx' : s.data.toList[j]? = some x := hx
    rw [Array.getElem?_toList] at hx'
    obtain ⟨h1, h2⟩ := Array.getElem?_eq_some_iff.1 hx'
    have := World.cell?_alloc_mark w.drew (bytesRow s (grownCap w s.size 0 5)) 5 ((bytesRow s (grownCap w s.size 0 5)).size, (bytesRow s (grownCap w s.size 0 5)).size + 1) j
    rw [bytesRow_at s _ j h1, h2] at this
    exact this
  · have := World.frozen?_alloc_mark w.drew (bytesRow s (grownCap w s.size 0 5)) 5 (bytesRow s (grownCap w s.size 0 5)).size ((bytesRow s (grownCap w s.size 0 5)).size + 1) j
    refine this.trans ?_
    have hl : (byts s).length = s.size := by simp [byts]
    rw [show decide ((bytesRow s (grownCap w s.size 0 5)).size ≤ j) = false from by rw [decide_eq_false_iff_not]; omega]
    rfl
  · exact (show Below w.heap.size w w.drew from brefl.drn 1).al _
/-- 'string(b)' -/
theorem conv_out {w : World} {b n cap : Nat} {l : List UInt8} (h : BRow w b l) (hn : l.length = n) : (convert 70 9 (.slice (some ⟨b, 0, none⟩) n cap)).run Tryz.prog w = .ok (.string (ofB l)) w := by
  subst hn
  refine run_convert_bytes_back w 70 9 5 ⟨b, 0, none⟩ cap l Tryz.underlying70 Tryz.underlying5 Tryz.underlying9 (fun j hj => ?_)
  rw [addr_add, Nat.zero_add]
  exact h.cell j _ (List.getElem?_eq_getElem hj)
set_option maxRecDepth 100000 in
set_option maxHeartbeats 2000000 in
theorem rfold_any (s : S) (w : World) (hs : s.size ≤ 1000000) :
    Calls Tryz.prog 100 #[.string s] w fun e w' => e = .returned (.string (foldS s)) ∧ Below w.heap.size w w' := by
  obtain ⟨cap, w1, hcv, hcap, hrow1, hb1⟩ := conv_in s w
  have hbl : (byts s).length = s.size := by simp [byts]
  have hback := fun (wr : World) (l : List UInt8) (h : BRow wr w.heap.size l) (hn : l.length = s.size) => conv_out (cap := cap) h hn
  have HB := Lib.hid hback
  clear hback
  obtain ⟨b, hb⟩ : ∃ b, w.heap.size = b := ⟨_, rfl⟩
  have hbw : w.heap.size ≤ b := Nat.le_of_eq hb
  rw [hb] at hcv hrow1 HB
  clear hb
  go_enter Tryz.func100, Tryz.ntmps100
  go_wp2
  go_loopw [4] (fun t4 wr => ∃ i : Nat, i ≤ s.size ∧ t4 = .int .i64 i ∧ BRow wr b (midB foldB (byts s) i) ∧ Below w.heap.size w wr) (fun t4 _ => s.size - (intOf t4).toNat)
  case atStart => exact ⟨0, by omega, rfl, by rw [midB_zero]; exact hrow1, hb1⟩
  case round =>
    obtain ⟨i, hi, rfl, hrow, hbr⟩ := hrel
    by_cases hlt : i < s.size
    · have hlt' : (i : Int) < s.size := by omega
      have hil : i < (byts s).length := by omega
      have hc := hrow.cell i _ (midB_get foldB hil)
      have hf := hrow.fr i (by rw [midB_len]; exact hil)
      rw [byts_at hlt hil] at hc
      by_cases h1 : 65 ≤ s[i].toNat
      · have h1' : (65 : Int) ≤ s[i].toNat := by omega
        by_cases h2 : s[i].toNat ≤ 90
        · have h2' : (s[i].toNat : Int) ≤ 90 := by omega
          have HR := Lib.hid (show BRow (wr.setCell ⟨b, i, none⟩ (.int .u8 ((s[i].toNat : Int) - 65 + 97))) b (midB foldB (byts s) (i + 1)) from by
            rw [← midB_set foldB hil]
            refine hrow.set (by rw [midB_len]; exact hil) ?_
            rw [byts_at hlt hil, foldB_up ⟨h1, h2⟩]; omega)
          go_wp2
          go_roundw
          case rel => exact ⟨i + 1, by omega, by go_num, HR.out, hbr.st (p := ⟨b, i, none⟩) hbw _⟩
          case measure => simp [intOf]; omega
        · have h2' : ¬ (s[i].toNat : Int) ≤ 90 := by omega
          have HR := Lib.hid (show BRow wr b (midB foldB (byts s) (i + 1)) from by
            rw [← midB_keep foldB hil (by rw [byts_at hlt hil]; exact foldB_same (fun h => h2 h.2))]; exact hrow)
          go_wp2
          go_roundw
          case rel => exact ⟨i + 1, by omega, by go_num, HR.out, hbr⟩
          case measure => simp [intOf]; omega
      · have h1' : ¬ (65 : Int) ≤ s[i].toNat := by omega
        have HR := Lib.hid (show BRow wr b (midB foldB (byts s) (i + 1)) from by
          rw [← midB_keep foldB hil (by rw [byts_at hlt hil]; exact foldB_same (fun h => h1 h.1))]; exact hrow)
        go_wp2
        go_roundw
        case rel => exact ⟨i + 1, by omega, by go_num, HR.out, hbr⟩
        case measure => simp [intOf]; omega
    · have hlt' : ¬ (i : Int) < s.size := by omega
      rw [midB_end foldB (by omega)] at hrow
      have hcv2 := HB.out wr _ hrow (by rw [List.length_map]; exact hbl)
      go_wp2
      go_ret
      exact ⟨rfl, hbr⟩
end Go.Proofs.YtdfnfimajhagfaaGreatDoor
/- Reference of layer 6: Split. -/
namespace Rf
/-- the kind of the byte before the i-th (none: a blank, or the beginning) -/
def pk (l : List UInt8) (i : Nat) : Option Nat := match i with
  | 0 => none
  | i + 1 => match l[i]? with
    | some b => if b = 32 then none else some (kindB b)
    | none => none
theorem pk_succ {l : List UInt8} {i : Nat} {b : UInt8} (h : l[i]? = some b) : pk l (i + 1) = if b = 32 then none else some (kindB b) := by
  show (match l[i]? with | some b => if b = 32 then none else some (kindB b) | none => none) = _
  rw [h]
theorem cls_blank : clsN (32 : UInt8).toNat = -1 := rfl
theorem cls_kind {b : UInt8} (h : ¬ b = 32) : clsN b.toNat = (kindB b : Int) := by
  unfold clsN kindB
  rw [if_neg]
  intro e
  apply h
  apply UInt8.toNat_inj.1
  have : (32 : UInt8).toNat = 32 := rfl
  omega
theorem pk_cls {l : List UInt8} {i k : Nat} {b : UInt8} (h : l[i]? = some b) : pk l (i + 1) = some k ↔ clsN b.toNat = (k : Int) := by
  rw [pk_succ h]
  by_cases hb : b = 32
  · subst hb
    rw [if_pos rfl, cls_blank]
    constructor
    · intro h; cases h
    · intro h; omega
  · rw [if_neg hb, cls_kind hb]
    constructor
    · intro h; injection h with h; omega
    · intro h; congr 1; omega
end Rf
namespace Go.Proofs.YtdfnfimajhagfaaGreatDoor
open Go.RowKit Go.Maps Rf
theorem byts_get {s : S} {i : Nat} (h : i < s.size) : (byts s)[i]? = some s[i] := by
  have h' : i < (byts s).length := by simpa [byts] using h
  rw [List.getElem?_eq_getElem h']
  exact congrArg some (byts_at h h')
theorem rcls_v {b : UInt8} {k : Int} (h : clsN b.toNat = k) (w : World) : Calls Tryz.prog 139 #[.int .u8 (b.toNat : Int)] w fun e w' => e = .returned (.int .i64 k) ∧ w = w' := by
  subst h; exact rcls_any b w
theorem rtoksT : AppT Tryz.prog 117 120 3 24 := AppT.mk Tryz.underlying117 (z := .agg #[.int .i64 0, .int .i64 0, .int .i64 0]) (by kernel_rfl) rfl (by omega)
theorem tokCells_end (o : List Tok) (t : Tok) (h : Nat) : (tokCells (o ++ [t])).set (o.length * 3 + 1) (.int .i64 h) = tokCells (o ++ [⟨t.lo, h, t.kd⟩]) := by
  rw [tokCells_app, tokCells_app, List.set_append_right _ _ (by rw [tokCells_len]; omega), tokCells_len]
  congr 1
  rw [show o.length * 3 + 1 - o.length * 3 = 1 from by omega]
  rfl
set_option maxRecDepth 20000 in
set_option maxHeartbeats 1000000 in
theorem rsplit_any (s : S) (w : World) (hs : s.size ≤ 1000000) :
    Calls Tryz.prog 98 #[.string s] w fun e w' => ∃ A n c, e = .returned (.slice A n c) ∧ n ≤ s.size ∧ (toks (byts s) 0).length = n ∧ Rds w' A (tokCells (toks (byts s) 0)) ∧ Below w.heap.size w w' := by
  have hbl' : (byts s).length = s.size := by simp [byts]
  go_enter Tryz.func98, Tryz.ntmps98
  go_wp2
  go_loopw [3, 4] (fun t3 t4 wr => ∃ (i n c : Nat) (A : Option Addr) (o : List Tok), i ≤ s.size ∧ n ≤ i ∧ t4 = .int .i64 i ∧ t3 = .slice A n c ∧ o.length = n ∧ Hid (rtoks ((byts s).drop i) i (pk (byts s) i) o = toks (byts s) 0) ∧ Hid (pk (byts s) i ≠ none → n ≠ 0) ∧
      Own wr w.heap.size 120 3 (.slice A n c) n (tokCells o) ∧ Below w.heap.size w wr) (fun _ t4 _ => s.size - (intOf t4).toNat)
  case atStart => exact ⟨0, 0, 0, none, [], by omega, by omega, rfl, rfl, rfl, rtoks_toks _, fun h => absurd rfl h, Own.nil _ _ _ (Nat.le_refl _), brefl⟩
  case round =>
    obtain ⟨i, n, c, A, o, hi, hn, rfl, rfl, hol, hh, hne, ho, hb⟩ := hrel
    by_cases hlt : i < s.size
    · have hlt' : (i : Int) < s.size := by omega
      have HD := Lib.hid (byts_drop hlt)
      have hgi := byts_get hlt
      by_cases h32 : s[i] = 32
      · have HH := Lib.hid (show rtoks ((byts s).drop (i + 1)) (i + 1) (pk (byts s) (i + 1)) o = toks (byts s) 0 from by
          rw [← hh.out, HD.out, h32, rtoks, if_pos rfl, pk_succ hgi, if_pos h32])
        have HN := Lib.hid (show pk (byts s) (i + 1) ≠ none → n ≠ 0 from by rw [pk_succ hgi, if_pos h32]; exact fun h => absurd rfl h)
        have HK := Lib.hid (show clsN s[i].toNat = -1 from by rw [h32]; rfl)
        clear h32
        go_wp2_with (go_at_call 139; (with_reducible refine (rcls_v HK.out _).mono ?_); rintro e _ ⟨rfl, rfl⟩)
        go_roundw
        case rel => exact ⟨i + 1, n, c, A, o, by omega, by omega, by go_num, rfl, hol, HH, HN, ho, hb⟩
        case measure => simp [intOf]; omega
      · obtain ⟨k, hk0⟩ : ∃ k, kindB s[i] = k := ⟨_, rfl⟩
        have hk4 := kindB_lt s[i]
        rw [hk0] at hk4
        have HK := Lib.hid (show clsN s[i].toNat = (k : Int) from by rw [cls_kind h32, hk0])
        have HNO := Lib.hid (fun (h : ¬ (k < 2 ∧ pk (byts s) i = some k)) => (show rtoks ((byts s).drop (i + 1)) (i + 1) (pk (byts s) (i + 1)) (o ++ [⟨i, i + 1, k⟩]) = toks (byts s) 0 from by
          rw [← hh.out, HD.out, rtoks, if_neg h32, hk0, if_neg h, pk_succ hgi, if_neg h32, hk0]))
        have HYES := Lib.hid (fun (h : k < 2 ∧ pk (byts s) i = some k) => (show rtoks ((byts s).drop (i + 1)) (i + 1) (pk (byts s) (i + 1)) (o.dropLast ++ [⟨(o.getLast?.getD ⟨0, 0, 0⟩).lo, i + 1, (o.getLast?.getD ⟨0, 0, 0⟩).kd⟩]) = toks (byts s) 0 from by
          rw [← hh.out, HD.out, rtoks, if_neg h32, hk0, if_pos h, pk_succ hgi, if_neg h32, hk0]))
        clear h32 hk0
        have hk0 : ¬ (k : Int) < 0 := by omega
        by_cases hn0 : n = 0
        · have HH := Lib.hid (HNO.out (fun h => hne.out (by rw [h.2]; simp) hn0))
          have hn0' : decide ((0 : Int) < n) = false := by rw [decide_eq_false_iff_not]; omega
          have hn0'' : ¬ (0 : Int) < n := by omega
          clear HYES HNO hn0
          go_wp2_with (first
            | (go_at_call 139; (with_reducible refine (rcls_v HK.out _).mono ?_); rintro e _ ⟨rfl, rfl⟩)
            | (at_builtin; go_loud (refine wpList_app _ rtoksT rfl (.tmp 47) (.tmp 53) rfl (ho.alloc _) rfl rfl (news := tokCells [⟨i, i + 1, k⟩]) rfl (rds_three wr _ _ _ 120) (toks_one _) ?_ ?_ ?_; (focus omega); (focus omega); intro A4 c4 w4 o4 n4 g4 _))
            )
          have hb4 := (hb.al (.cells #[.int .i64 i, .int .i64 ((i : Int) + 1), .int .i64 k] 120)).gr g4 ho.row
          go_roundw
          case rel => exact ⟨i + 1, n + 1, c4, A4, _, by omega, by omega, by go_num, rfl, by rw [List.length_append, hol]; rfl, HH, (fun _ => Nat.succ_ne_zero _), by rw [tokCells_app]; exact o4, hb4⟩
          case measure => simp [intOf]; omega
        · have hnp : (0 : Int) < n := by omega
          obtain ⟨j, hij0⟩ : ∃ j, i = j + 1 := ⟨i - 1, by omega⟩
          have hip : (0 : Int) < (i : Int) := by omega
          by_cases hk2 : k < 2
          · have hk2' : (k : Int) < 2 := by omega
            have hjl : j < s.size := by omega
            have hgj := byts_get hjl
            obtain ⟨c', hc'⟩ : ∃ c' : Int, clsN s[j].toNat = c' := ⟨_, rfl⟩
            have HKJ := Lib.hid hc'
            have hpc : pk (byts s) i = some k ↔ c' = (k : Int) := by
              have := pk_cls (k := k) hgj
              rw [hc', ← hij0] at this
              exact this
            have hj1 : (i : Int) - 1 = (j : Int) := by omega
            have hjl' : (j : Int) < s.size := by omega
            clear hij0 hgj
            by_cases hck : c' = k
            · have hck' : (c' == (k : Int)) = true := by rw [beq_iff_eq]; exact hck
              obtain ⟨o', t, rfl⟩ : ∃ o' t, o = o' ++ [t] := by
                have h : o ≠ [] := by intro e; subst e; exact hn0 hol.symm
                exact ⟨o.dropLast, o.getLast h, (List.dropLast_concat_getLast h).symm⟩
              have HH0 := HYES.out ⟨hk2, hpc.2 hck⟩
              rw [List.dropLast_concat, List.getLast?_concat, Option.getD_some] at HH0
              have HH := Lib.hid HH0
              obtain ⟨m, hm0⟩ : ∃ m, n = m + 1 := ⟨n - 1, by omega⟩
              have hom : o'.length = m := by rw [List.length_append] at hol; simp at hol; omega
              obtain ⟨b, rfl, hbb, hbs⟩ := ho.addr (by omega)
              have hz := ho.cellAt (j := m * 3 + 1) rfl (v := .int .i64 t.hi) (by rw [tokCells_app, List.getElem?_append_right (by rw [tokCells_len]; omega), tokCells_len, hom, show m * 3 + 1 - m * 3 = 1 from by omega]; rfl)
              have hfz := ho.frozenAt rfl (m * 3 + 1)
              have hm1 : (n : Int) - 1 = (m : Int) := by omega
              have hm2 : (m : Int) < (n : Int) := by omega
              have HCK := Lib.hid hck
              clear HYES HNO hn0 HH0 hpc hc' hck hm0
              go_wp2_with (first
                | (go_at_call 139; (with_reducible refine (rcls_v HK.out _).mono ?_); rintro e _ ⟨rfl, rfl⟩)
                | (go_at_call 139; refine (rcls_v HKJ.out _).mono ?_; rintro e _ ⟨rfl, rfl⟩)
                )
              go_roundw
              case rel => exact ⟨i + 1, n, c, _, _, by omega, by omega, by go_num, rfl, by rw [List.length_append]; rw [List.length_append] at hol; exact hol, HH, (fun _ => by omega), by
                have := ho.set rfl (j := m * 3 + 1) (.int .i64 ((i + 1 : Nat) : Int))
                rw [← hom, tokCells_end, hom] at this
                exact this, hb.st (p := ⟨b, m * 3 + 1, none⟩) hbb _⟩
              case measure => simp [intOf]; omega
            · have hck' : (c' == (k : Int)) = false := by rw [beq_eq_false_iff_ne]; exact hck
              have HH := Lib.hid (HNO.out (fun h => hck (hpc.1 h.2)))
              clear HYES HNO hn0 hpc hc' hck
              go_wp2_with (first
                | (go_at_call 139; (with_reducible refine (rcls_v HK.out _).mono ?_); rintro e _ ⟨rfl, rfl⟩)
                | (go_at_call 139; refine (rcls_v HKJ.out _).mono ?_; rintro e _ ⟨rfl, rfl⟩)
                | (at_builtin; go_loud (refine wpList_app _ rtoksT rfl (.tmp 47) (.tmp 53) rfl (ho.alloc _) rfl rfl (news := tokCells [⟨i, i + 1, k⟩]) rfl (rds_three wr _ _ _ 120) (toks_one _) ?_ ?_ ?_; (focus omega); (focus omega); intro A4 c4 w4 o4 n4 g4 _))
                )
              have hb4 := (hb.al (.cells #[.int .i64 i, .int .i64 ((i : Int) + 1), .int .i64 k] 120)).gr g4 ho.row
              go_roundw
              case rel => exact ⟨i + 1, n + 1, c4, A4, _, by omega, by omega, by go_num, rfl, by rw [List.length_append, hol]; rfl, HH, (fun _ => Nat.succ_ne_zero _), by rw [tokCells_app]; exact o4, hb4⟩
              case measure => simp [intOf]; omega
          · have hk2' : ¬ (k : Int) < 2 := by omega
            have HH := Lib.hid (HNO.out (fun h => hk2 h.1))
            clear HYES HNO hn0 hk2 hij0
            go_wp2_with (first
              | (go_at_call 139; (with_reducible refine (rcls_v HK.out _).mono ?_); rintro e _ ⟨rfl, rfl⟩)
              | (at_builtin; go_loud (refine wpList_app _ rtoksT rfl (.tmp 47) (.tmp 53) rfl (ho.alloc _) rfl rfl (news := tokCells [⟨i, i + 1, k⟩]) rfl (rds_three wr _ _ _ 120) (toks_one _) ?_ ?_ ?_; (focus omega); (focus omega); intro A4 c4 w4 o4 n4 g4 _))
              )
            have hb4 := (hb.al (.cells #[.int .i64 i, .int .i64 ((i : Int) + 1), .int .i64 k] 120)).gr g4 ho.row
            go_roundw
            case rel => exact ⟨i + 1, n + 1, c4, A4, _, by omega, by omega, by go_num, rfl, by rw [List.length_append, hol]; rfl, HH, (fun _ => Nat.succ_ne_zero _), by rw [tokCells_app]; exact o4, hb4⟩
            case measure => simp [intOf]; omega
    · have hlt' : ¬ (i : Int) < s.size := by omega
      have HH := Lib.hid (show o = toks (byts s) 0 from by rw [← hh.out, List.drop_of_length_le (by omega), rtoks])
      go_wp2
      go_ret
      refine ⟨A, n, ⟨c, rfl⟩, by omega, by rw [← HH.out]; exact hol, ?_, hb⟩
      rw [← HH.out]; exact ho.reads
end Go.Proofs.YtdfnfimajhagfaaGreatDoor
