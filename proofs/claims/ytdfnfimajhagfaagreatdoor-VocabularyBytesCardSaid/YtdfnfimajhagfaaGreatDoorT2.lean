/- Tokens of a text, in plain Lean: the program's runs and the reference's byte by byte are one list; the folded words of units. -/
import Derived.Test.YtdfnfimajhagfaaGreatDoorGen
import Derived.Test.YtdfnfimajhagfaaGreatDoorW2
namespace Rf
/-- the kind of a byte -/
def kindN (b : Nat) : Nat := if 97 ≤ b ∧ b ≤ 122 then 0 else if 65 ≤ b ∧ b ≤ 90 then 0 else if 48 ≤ b ∧ b ≤ 57 then 1 else if b = 64 then 3 else 2
def kindB (b : UInt8) : Nat := kindN b.toNat
structure Tok where
  lo : Nat
  hi : Nat
  kd : Nat
  deriving DecidableEq
/-- how many bytes of the kind k follow -/
def runLen (k : Nat) : List UInt8 → Nat
  | [] => 0
  | b :: l => if k < 2 ∧ kindB b = k then 1 + runLen k l else 0
theorem runLen_le (k : Nat) : ∀ l, runLen k l ≤ l.length
  | [] => Nat.le_refl _
  | b :: l => by
    unfold runLen
    split
    · have := runLen_le k l; simp; omega
    · simp
/-- the tokens of a text whose first byte stands at 'a' -/
def toks (l : List UInt8) (a : Nat) : List Tok := match l with
  | [] => []
  | b :: l => if b = 32 then toks l (a + 1) else ⟨a, a + 1 + runLen (kindB b) l, kindB b⟩ :: toks (l.drop (runLen (kindB b) l)) (a + 1 + runLen (kindB b) l)
termination_by l.length
decreasing_by
  · simp
  · simp only [List.length_drop, List.length_cons]; omega
theorem toks_nil (a : Nat) : toks [] a = [] := by rw [toks]
theorem toks_blank {l : List UInt8} {a : Nat} : toks (32 :: l) a = toks l (a + 1) := by rw [toks, if_pos rfl]
theorem toks_more {b : UInt8} {l : List UInt8} {a : Nat} (h : ¬ b = 32) : toks (b :: l) a = ⟨a, a + 1 + runLen (kindB b) l, kindB b⟩ :: toks (l.drop (runLen (kindB b) l)) (a + 1 + runLen (kindB b) l) := by rw [toks, if_neg h]
/-! ### byte by byte -/
/-- the reference: the last token so far and the kind of the byte before (none: a blank, or the text's beginning) -/
def rtoks : List UInt8 → Nat → Option Nat → List Tok → List Tok
  | [], _, _, o => o
  | b :: l, i, p, o =>
    if b = 32 then rtoks l (i + 1) none o
    else if kindB b < 2 ∧ p = some (kindB b) then rtoks l (i + 1) (some (kindB b)) (o.dropLast ++ [⟨(o.getLast?.getD ⟨0, 0, 0⟩).lo, i + 1, (o.getLast?.getD ⟨0, 0, 0⟩).kd⟩])
    else rtoks l (i + 1) (some (kindB b)) (o ++ [⟨i, i + 1, kindB b⟩])
theorem rtoks_run : ∀ (n : Nat) (l : List UInt8), l.length = n → (∀ (i : Nat) (p : Option Nat) (o : List Tok), (∀ b, l.head? = some b → ¬ (kindB b < 2 ∧ p = some (kindB b))) → rtoks l i p o = o ++ toks l i) ∧
    ∀ (i a k : Nat) (o : List Tok), k < 2 → rtoks l i (some k) (o ++ [⟨a, i, k⟩]) = o ++ [⟨a, i + runLen k l, k⟩] ++ toks (l.drop (runLen k l)) (i + runLen k l) := by
  intro n
  induction n using Nat.strongRecOn with
  | _ n ih =>
    intro l hl
    cases l with
    | nil =>
      refine ⟨fun i p o _ => by rw [rtoks, toks_nil, List.append_nil], fun i a k o _ => by rw [rtoks, runLen, List.drop_nil, toks_nil, List.append_nil]; rfl⟩
    | cons b l =>
      have hlt : l.length < n := by rw [← hl]; simp
      obtain ⟨h1, h2⟩ := ih l.length hlt l rfl
      have fresh : ∀ (i : Nat) (o : List Tok), ¬ b = 32 → rtoks l (i + 1) (some (kindB b)) (o ++ [⟨i, i + 1, kindB b⟩]) = o ++ toks (b :: l) i := by
        intro i o hb
        rw [toks_more hb]
        by_cases hk : kindB b < 2
        · rw [h2 (i + 1) i (kindB b) o hk, List.append_assoc]; rfl
        · have hr : runLen (kindB b) l = 0 := by
            cases l with
            | nil => rfl
            | cons c l => unfold runLen; rw [if_neg (fun h => hk h.1)]
          rw [h1 (i + 1) _ _ (fun c hc h => by
            have e : kindB b = kindB c := Option.some.inj h.2
            rw [← e] at h; exact hk h.1), hr, List.append_assoc]
          simp
      refine ⟨fun i p o hp => ?_, fun i a k o hk => ?_⟩
      · by_cases hb : b = 32
        · subst hb
          rw [rtoks, if_pos rfl, toks_blank, h1 (i + 1) none o (fun c _ h => by cases h.2)]
        · rw [rtoks, if_neg hb, if_neg (hp b rfl)]
          exact fresh i o hb
      · by_cases hb : b = 32
        · subst hb
          have hr : runLen k (32 :: l) = 0 := by
            unfold runLen
            rw [if_neg]
            rintro ⟨_, h⟩
            have : kindB 32 = 2 := by decide
            omega
          rw [rtoks, if_pos rfl, hr, h1 (i + 1) none _ (fun c _ h => by cases h.2), List.drop_zero, toks_blank]
          rfl
        · by_cases hkb : kindB b = k
          · rw [rtoks, if_neg hb, if_pos ⟨by omega, by rw [hkb]⟩]
            have hr : runLen k (b :: l) = 1 + runLen k l := by rw [runLen, if_pos ⟨hk, hkb⟩]
            rw [hr, List.dropLast_concat, List.getLast?_concat, hkb]
            show rtoks l (i + 1) (some k) (o ++ [⟨a, i + 1, k⟩]) = _
            rw [h2 (i + 1) a k o hk, show i + 1 + runLen k l = i + (1 + runLen k l) from by omega, Nat.add_comm 1 (runLen k l), List.drop_succ_cons]
          · rw [rtoks, if_neg hb, if_neg (by rintro ⟨_, h⟩; injection h with h; exact hkb h.symm)]
            have hr : runLen k (b :: l) = 0 := by rw [runLen, if_neg (fun h => hkb h.2)]
            rw [hr, List.drop_zero, Nat.add_zero]
            exact fresh i (o ++ [⟨a, i, k⟩]) hb
/-- the reference's tokens are the program's -/
theorem rtoks_toks (l : List UInt8) : rtoks l 0 none [] = toks l 0 := by
  rw [(rtoks_run l.length l rfl).1 0 none [] (fun b _ h => by cases h.2), List.nil_append]
end Rf
/- Walks of package token: kind, the closure of Split, Split. -/
namespace Go.Proofs.YtdfnfimajhagfaaGreatDoor
open Go.RowKit Go.Maps Rf
set_option maxRecDepth 20000 in
set_option maxHeartbeats 1000000 in
theorem kindN_any (b : Nat) (w : World) (hb : b < 256) : Calls Tryz.prog 97 #[.int .u8 b] w fun e w' => e = .returned (.int .i64 (kindN b)) ∧ w = w' := by
  have hb' : (b : Int) < 256 := by omega
  have h8 : b < 48 ∨ (48 ≤ b ∧ b ≤ 57) ∨ (57 < b ∧ b < 64) ∨ b = 64 ∨ (65 ≤ b ∧ b ≤ 90) ∨ (90 < b ∧ b < 97) ∨ (97 ≤ b ∧ b ≤ 122) ∨ 122 < b := by omega
  rcases h8 with h | h | h | h | h | h | h | h
  · have e1 : ¬ (97 : Int) ≤ b := by omega
    have e2 : ¬ (65 : Int) ≤ b := by omega
    have e3 : ¬ (48 : Int) ≤ b := by omega
    have e4 : ((b : Int) == 64) = false := by rw [beq_eq_false_iff_ne]; omega
    go_enter Tryz.func97, Tryz.ntmps97
    go_wp2
    go_ret
    exact ⟨ret_i64 (by unfold kindN; rw [if_neg (by omega), if_neg (by omega), if_neg (by omega), if_neg (by omega)]; rfl), rfl⟩
  · have e1 : ¬ (97 : Int) ≤ b := by omega
    have e2 : ¬ (65 : Int) ≤ b := by omega
    have e3 : (48 : Int) ≤ b := by omega
    have e4 : (b : Int) ≤ 57 := by omega
    go_enter Tryz.func97, Tryz.ntmps97
    go_wp2
    go_ret
    exact ⟨ret_i64 (by unfold kindN; rw [if_neg (by omega), if_neg (by omega), if_pos (by omega)]; rfl), rfl⟩
  · have e1 : ¬ (97 : Int) ≤ b := by omega
    have e2 : ¬ (65 : Int) ≤ b := by omega
    have e3 : (48 : Int) ≤ b := by omega
    have e5 : ¬ (b : Int) ≤ 57 := by omega
    have e4 : ((b : Int) == 64) = false := by rw [beq_eq_false_iff_ne]; omega
    go_enter Tryz.func97, Tryz.ntmps97
    go_wp2
    go_ret
    exact ⟨ret_i64 (by unfold kindN; rw [if_neg (by omega), if_neg (by omega), if_neg (by omega), if_neg (by omega)]; rfl), rfl⟩
  · subst h
    go_enter Tryz.func97, Tryz.ntmps97
    go_wp2
    go_ret
    exact ⟨ret_i64 (by unfold kindN; rfl), rfl⟩
  · have e1 : ¬ (97 : Int) ≤ b := by omega
    have e2 : (65 : Int) ≤ b := by omega
    have e3 : (b : Int) ≤ 90 := by omega
    go_enter Tryz.func97, Tryz.ntmps97
    go_wp2
    go_ret
    exact ⟨ret_i64 (by unfold kindN; rw [if_neg (by omega), if_pos (by omega)]; rfl), rfl⟩
  · have e1 : ¬ (97 : Int) ≤ b := by omega
    have e2 : (65 : Int) ≤ b := by omega
    have e6 : ¬ (b : Int) ≤ 90 := by omega
    have e3 : (48 : Int) ≤ b := by omega
    have e5 : ¬ (b : Int) ≤ 57 := by omega
    have e4 : ((b : Int) == 64) = false := by rw [beq_eq_false_iff_ne]; omega
    go_enter Tryz.func97, Tryz.ntmps97
    go_wp2
    go_ret
    exact ⟨ret_i64 (by unfold kindN; rw [if_neg (by omega), if_neg (by omega), if_neg (by omega), if_neg (by omega)]; rfl), rfl⟩
  · have e1 : (97 : Int) ≤ b := by omega
    have e2 : (b : Int) ≤ 122 := by omega
    go_enter Tryz.func97, Tryz.ntmps97
    go_wp2
    go_ret
    exact ⟨ret_i64 (by unfold kindN; rw [if_pos (by omega)]; rfl), rfl⟩
  · have e1 : (97 : Int) ≤ b := by omega
    have e7 : ¬ (b : Int) ≤ 122 := by omega
    have e2 : (65 : Int) ≤ b := by omega
    have e6 : ¬ (b : Int) ≤ 90 := by omega
    have e3 : (48 : Int) ≤ b := by omega
    have e5 : ¬ (b : Int) ≤ 57 := by omega
    have e4 : ((b : Int) == 64) = false := by rw [beq_eq_false_iff_ne]; omega
    go_enter Tryz.func97, Tryz.ntmps97
    go_wp2
    go_ret
    exact ⟨ret_i64 (by unfold kindN; rw [if_neg (by omega), if_neg (by omega), if_neg (by omega), if_neg (by omega)]; rfl), rfl⟩
theorem kind_any (b : UInt8) (w : World) : Calls Tryz.prog 97 #[.int .u8 (b.toNat : Int)] w fun e w' => e = .returned (.int .i64 (kindB b)) ∧ w = w' := kindN_any b.toNat w b.toNat_lt
theorem kind_v {b : UInt8} {k : Nat} (h : kindB b = k) (w : World) : Calls Tryz.prog 97 #[.int .u8 (b.toNat : Int)] w fun e w' => e = .returned (.int .i64 k) ∧ w = w' := by subst h; exact kind_any b w
theorem kindB_lt (b : UInt8) : kindB b < 4 := by unfold kindB kindN; split <;> (try split) <;> (try split) <;> (try split) <;> omega
theorem runLen_hit {k : Nat} {b : UInt8} {l : List UInt8} (hk : k < 2) (h : kindB b = k) : runLen k (b :: l) = 1 + runLen k l := by rw [runLen, if_pos ⟨hk, h⟩]
theorem runLen_miss {k : Nat} {b : UInt8} {l : List UInt8} (h : ¬ kindB b = k) : runLen k (b :: l) = 0 := by rw [runLen, if_neg (fun e => h e.2)]
theorem runLen_two {k : Nat} (hk : ¬ k < 2) (l : List UInt8) : runLen k l = 0 := by
  cases l with
  | nil => rfl
  | cons b l => rw [runLen, if_neg (fun e => hk e.1)]
theorem byts_drop {s : S} {i : Nat} (h : i < s.size) : (byts s).drop i = s[i] :: (byts s).drop (i + 1) := by
  have h' : i < (byts s).length := by simpa [byts] using h
  rw [List.drop_eq_getElem_cons h']
  congr 1
set_option maxRecDepth 20000 in
set_option maxHeartbeats 2000000 in
theorem split1_any (bx : Nat) (s : S) (at_ : Nat) (w : World) (hs : s.size ≤ 1000000) (ha : at_ < s.size) (hc : w.cell? ⟨bx, 0, none⟩ = some (.string s)) :
    Calls Tryz.prog 96 #[.int .i64 at_, .pointer (some ⟨bx, 0, none⟩)] w fun e w' => e = .returned (.int .i64 (at_ + 1 + runLen (kindB s[at_]) ((byts s).drop (at_ + 1)) : Nat)) ∧ w = w' := by
  have h4 := kindB_lt s[at_]
  have ha' : (at_ : Int) < s.size := by omega
  obtain ⟨k, hk0⟩ : ∃ k, kindB s[at_] = k := ⟨_, rfl⟩
  rw [hk0] at h4
  have hk4 : k = 0 ∨ k = 1 ∨ k = 2 ∨ k = 3 := by omega
  clear h4
  rcases hk4 with rfl | rfl | rfl | rfl
  · have HK := Lib.hid hk0
    clear hk0
    go_enter Tryz.func96, Tryz.ntmps96
    go_wp2_with (go_at_call 97; refine (kind_v HK.out _).mono ?_; rintro e _ ⟨rfl, rfl⟩)
    go_loop [5] (fun t5 => ∃ t : Nat, at_ + 1 ≤ t ∧ t ≤ s.size ∧ t5 = .int .i64 t ∧ Hid (at_ + 1 + runLen 0 ((byts s).drop (at_ + 1)) = t + runLen 0 ((byts s).drop t))) (fun t5 => s.size - (intOf t5).toNat)
    case atStart => exact ⟨at_ + 1, by omega, by omega, by go_num, rfl⟩
    case round =>
      obtain ⟨t, ht1, ht2, rfl, hr⟩ := hrel
      by_cases hlt : t < s.size
      · have hlt' : (t : Int) < s.size := by omega
        have HD := Lib.hid (byts_drop hlt)
        by_cases hkt : kindB s[t] = 0
        · have HT := Lib.hid hkt
          have HR := Lib.hid (show at_ + 1 + runLen 0 ((byts s).drop (at_ + 1)) = t + 1 + runLen 0 ((byts s).drop (t + 1)) from by rw [hr.out, HD.out, runLen_hit (by omega) hkt]; omega)
          clear hkt
          go_wp2_with (go_at_call 97; refine (kind_v HT.out _).mono ?_; rintro e _ ⟨rfl, rfl⟩)
          go_round
          case rel => exact ⟨t + 1, by omega, by omega, by go_num, HR.out⟩
          case measure => simp [intOf]; omega
        · obtain ⟨c, hc1⟩ : ∃ c, kindB s[t] = c := ⟨_, rfl⟩
          have HT := Lib.hid hc1
          have hck : ((c : Int) == 0) = false := by rw [beq_eq_false_iff_ne]; intro e; exact hkt (by omega)
          have HR := Lib.hid (show at_ + 1 + runLen 0 ((byts s).drop (at_ + 1)) = t from by rw [hr.out, HD.out, runLen_miss hkt]; omega)
          clear hkt hc1
          go_wp2_with (go_at_call 97; refine (kind_v HT.out _).mono ?_; rintro e _ ⟨rfl, rfl⟩)
          go_ret
          exact ⟨ret_i64 (by have := HR.out; rw [HK.out]; omega), rfl⟩
      · have hlt' : ¬ (t : Int) < s.size := by omega
        have HR := Lib.hid (show at_ + 1 + runLen 0 ((byts s).drop (at_ + 1)) = t from by
          rw [hr.out, List.drop_of_length_le (by simp [byts]; omega)]; rfl)
        go_wp2
        go_ret
        exact ⟨ret_i64 (by have := HR.out; rw [HK.out]; omega), rfl⟩
  · have HK := Lib.hid hk0
    clear hk0
    go_enter Tryz.func96, Tryz.ntmps96
    go_wp2_with (go_at_call 97; refine (kind_v HK.out _).mono ?_; rintro e _ ⟨rfl, rfl⟩)
    go_loop [5] (fun t5 => ∃ t : Nat, at_ + 1 ≤ t ∧ t ≤ s.size ∧ t5 = .int .i64 t ∧ Hid (at_ + 1 + runLen 1 ((byts s).drop (at_ + 1)) = t + runLen 1 ((byts s).drop t))) (fun t5 => s.size - (intOf t5).toNat)
    case atStart => exact ⟨at_ + 1, by omega, by omega, by go_num, rfl⟩
    case round =>
      obtain ⟨t, ht1, ht2, rfl, hr⟩ := hrel
      by_cases hlt : t < s.size
      · have hlt' : (t : Int) < s.size := by omega
        have HD := Lib.hid (byts_drop hlt)
        by_cases hkt : kindB s[t] = 1
        · have HT := Lib.hid hkt
          have HR := Lib.hid (show at_ + 1 + runLen 1 ((byts s).drop (at_ + 1)) = t + 1 + runLen 1 ((byts s).drop (t + 1)) from by rw [hr.out, HD.out, runLen_hit (by omega) hkt]; omega)
          clear hkt
          go_wp2_with (go_at_call 97; refine (kind_v HT.out _).mono ?_; rintro e _ ⟨rfl, rfl⟩)
          go_round
          case rel => exact ⟨t + 1, by omega, by omega, by go_num, HR.out⟩
          case measure => simp [intOf]; omega
        · obtain ⟨c, hc1⟩ : ∃ c, kindB s[t] = c := ⟨_, rfl⟩
          have HT := Lib.hid hc1
          have hck : ((c : Int) == 1) = false := by rw [beq_eq_false_iff_ne]; intro e; exact hkt (by omega)
          have HR := Lib.hid (show at_ + 1 + runLen 1 ((byts s).drop (at_ + 1)) = t from by rw [hr.out, HD.out, runLen_miss hkt]; omega)
          clear hkt hc1
          go_wp2_with (go_at_call 97; refine (kind_v HT.out _).mono ?_; rintro e _ ⟨rfl, rfl⟩)
          go_ret
          exact ⟨ret_i64 (by have := HR.out; rw [HK.out]; omega), rfl⟩
      · have hlt' : ¬ (t : Int) < s.size := by omega
        have HR := Lib.hid (show at_ + 1 + runLen 1 ((byts s).drop (at_ + 1)) = t from by
          rw [hr.out, List.drop_of_length_le (by simp [byts]; omega)]; rfl)
        go_wp2
        go_ret
        exact ⟨ret_i64 (by have := HR.out; rw [HK.out]; omega), rfl⟩
  · have HK := Lib.hid hk0
    clear hk0
    go_enter Tryz.func96, Tryz.ntmps96
    go_wp2_with (go_at_call 97; refine (kind_v HK.out _).mono ?_; rintro e _ ⟨rfl, rfl⟩)
    go_loop [5] (fun t5 => t5 = .int .i64 ((at_ : Int) + 1)) (fun _ => 0)
    case atStart => rfl
    case round =>
      obtain rfl := hrel
      go_wp2
      go_ret
      exact ⟨ret_i64 (by rw [HK.out, runLen_two (by omega)]; omega), rfl⟩
  · have HK := Lib.hid hk0
    clear hk0
    go_enter Tryz.func96, Tryz.ntmps96
    go_wp2_with (go_at_call 97; refine (kind_v HK.out _).mono ?_; rintro e _ ⟨rfl, rfl⟩)
    go_loop [5] (fun t5 => t5 = .int .i64 ((at_ : Int) + 1)) (fun _ => 0)
    case atStart => rfl
    case round =>
      obtain rfl := hrel
      go_wp2
      go_ret
      exact ⟨ret_i64 (by rw [HK.out, runLen_two (by omega)]; omega), rfl⟩
end Go.Proofs.YtdfnfimajhagfaaGreatDoor
/- Walk of package token: Split. -/
namespace Go.Proofs.YtdfnfimajhagfaaGreatDoor
open Go.RowKit Go.Maps Rf
def tokCell (t : Tok) : List Value := [.int .i64 t.lo, .int .i64 t.hi, .int .i64 t.kd]
def tokCells (l : List Tok) : List Value := l.flatMap tokCell
theorem tokCells_app (a b : List Tok) : tokCells (a ++ b) = tokCells a ++ tokCells b := by simp [tokCells]
theorem tokCells_len : ∀ l : List Tok, (tokCells l).length = l.length * 3
  | [] => rfl
  | t :: l => by
    have := tokCells_len l
    show (tokCell t ++ tokCells l).length = _
    rw [List.length_append, this]; simp [tokCell]; omega
theorem toks_one (l : List Tok) : ∀ u ∈ tokCells l, u.oneCell' = true := by
  intro u hu
  obtain ⟨r, _, hr⟩ := List.mem_flatMap.1 hu
  simp [tokCell] at hr
  rcases hr with rfl | rfl | rfl <;> rfl
theorem rds_three (w : World) (u1 u2 u3 : Value) (t : TypeId) : Rds (w.alloc (.cells #[u1, u2, u3] t)) (some ⟨w.heap.size, 0, none⟩) [u1, u2, u3] := fun _ =>
  ⟨w.heap.size, 0, rfl, by simp, fun j v hv => by
    match j, hv with
    | 0, hv => simp at hv; subst hv; exact cell_of_row _ _ 0 #[u1, u2, u3] t (0, 0) (heap_alloc_new w _)
    | 1, hv => simp at hv; subst hv; exact cell_of_row _ _ 1 #[u1, u2, u3] t (0, 0) (heap_alloc_new w _)
    | 2, hv => simp at hv; subst hv; exact cell_of_row _ _ 2 #[u1, u2, u3] t (0, 0) (heap_alloc_new w _)⟩
theorem own_base {w : World} {base base' : Nat} {e : TypeId} {size : Nat} {v : Value} {n : Nat} {xs : List Value} (h : Own w base e size v n xs) (hb : base' ≤ base) : Own w base' e size v n xs :=
  ⟨⟨h.1.1, h.1.2.imp id fun ⟨g, cap, cur, h1, h2, h3⟩ => ⟨g, cap, cur, h1, Nat.le_trans hb h2, h3⟩⟩, Nat.le_trans hb h.2⟩
theorem toksT : AppT Tryz.prog 59 116 3 24 := AppT.mk Tryz.underlying59 (z := .agg #[.int .i64 0, .int .i64 0, .int .i64 0]) (by kernel_rfl) rfl (by omega)
set_option maxRecDepth 20000 in
set_option maxHeartbeats 2000000 in
theorem tsplit_any (s : S) (w : World) (hs : s.size ≤ 1000000) :
    Calls Tryz.prog 43 #[.string s] w fun e w' => ∃ A n c, e = .returned (.slice A n c) ∧ n ≤ s.size ∧ (toks (byts s) 0).length = n ∧ Own w' w.heap.size 116 3 (.slice A n c) n (tokCells (toks (byts s) 0)) ∧ Below w.heap.size w w' := by
  have hbl' : (byts s).length = s.size := by simp [byts]
  go_enter Tryz.func43, Tryz.ntmps43
  go_wp2
  go_loopw [3, 5] (fun t3 t5 wr => ∃ (a n c : Nat) (A : Option Addr) (o : List Tok), a ≤ s.size ∧ n ≤ a ∧ t5 = .int .i64 a ∧ t3 = .slice A n c ∧ o.length = n ∧ Hid (o ++ toks ((byts s).drop a) a = toks (byts s) 0) ∧
      Own wr (w.heap.size + 1) 116 3 (.slice A n c) n (tokCells o) ∧ wr.cell? ⟨w.heap.size, 0, none⟩ = some (.string s) ∧ Below w.heap.size w wr) (fun _ t5 _ => s.size - (intOf t5).toNat)
  case atStart => exact ⟨0, 0, 0, none, [], by omega, by omega, rfl, rfl, rfl, rfl, Own.nil _ _ _ (by simp), by simp, brefl.al _⟩
  case round =>
    obtain ⟨a, n, c, A, o, ha, hn, rfl, rfl, hol, hh, ho, hc, hb⟩ := hrel
    by_cases hlt : a < s.size
    · have hlt' : (a : Int) < s.size := by omega
      have HD := Lib.hid (byts_drop hlt)
      by_cases h32 : s[a] = 32
      · have HH := Lib.hid (show o ++ toks ((byts s).drop (a + 1)) (a + 1) = toks (byts s) 0 from by rw [← hh.out, HD.out, h32, toks_blank])
        have hb32 : (s[a].toNat : Int) = 32 := by rw [h32]; rfl
        go_wp2
        go_round
        case rel => exact ⟨a + 1, n, c, A, o, by omega, by omega, by go_num, rfl, hol, HH, ho, hc, hb⟩
        case measure => simp [intOf]; omega
      · have hb32 : ((s[a].toNat : Int) == 32) = false := by
          rw [beq_eq_false_iff_ne]; intro e; apply h32; apply UInt8.toNat_inj.1; have : (32 : UInt8).toNat = 32 := rfl; omega
        have hrl := runLen_le (kindB s[a]) ((byts s).drop (a + 1))
        have hkb := kindB_lt s[a]
        simp only [List.length_drop, hbl'] at hrl
        obtain ⟨k, hk0⟩ : ∃ k, kindB s[a] = k := ⟨_, rfl⟩
        obtain ⟨r, hr0⟩ : ∃ r, runLen (kindB s[a]) ((byts s).drop (a + 1)) = r := ⟨_, rfl⟩
        have HH := Lib.hid (show (o ++ [⟨a, a + 1 + r, k⟩]) ++ toks ((byts s).drop (a + 1 + r)) (a + 1 + r) = toks (byts s) 0 from by
          rw [← hh.out, HD.out, toks_more h32, hr0, hk0, List.drop_drop, List.append_assoc]; rfl)
        have HC := Lib.hid (split1_any w.heap.size s a wr hs hlt hc)
        rw [hr0] at HC hrl
        rw [hk0] at hkb
        have HK := Lib.hid hk0
        clear hk0 hr0
        obtain ⟨q, hq⟩ : ∃ q, a + 1 + r = q := ⟨_, rfl⟩
        rw [hq] at HC HH
        go_wp2_with (first
          | (go_at_call 96; refine HC.out.mono ?_; rintro e _ ⟨rfl, rfl⟩)
          | (go_at_call 97; refine (kind_v HK.out _).mono ?_; rintro e _ ⟨rfl, rfl⟩)
          | (at_builtin; go_loud (refine wpList_app _ toksT rfl (.tmp 21) (.tmp 29) rfl (ho.alloc _) rfl rfl (news := tokCells [⟨a, q, k⟩]) rfl (rds_three wr _ _ _ 116) (toks_one _) ?_ ?_ ?_; (focus omega); (focus omega); intro A4 c4 w4 o4 n4 g4 _; have hne : some w.heap.size ≠ (Value.slice A n c).ownBlock := fun e => by { have := ho.row _ e.symm; omega }; have hc4 := g4.cell ((World.grownBy_alloc wr (.cells #[.int .i64 a, .int .i64 (q), .int .i64 k] 116) none).cell hc (by simp)) hne; have hb4 := (hb.al (.cells #[.int .i64 a, .int .i64 (q), .int .i64 k] 116)).gr g4 (fun j e => by have := ho.row j e; omega))))
        go_round
        case rel => exact ⟨q, n + 1, c4, A4, _, by omega, by omega, by go_num, rfl, by rw [List.length_append, hol]; rfl, HH, by rw [tokCells_app]; exact o4, hc4, hb4⟩
        case measure => simp [intOf]; omega
    · have hlt' : ¬ (a : Int) < s.size := by omega
      have HH := Lib.hid (show o = toks (byts s) 0 from by rw [← hh.out, List.drop_of_length_le (by omega), toks_nil, List.append_nil])
      go_wp2
      go_ret
      refine ⟨A, n, c, rfl, by omega, by rw [← HH.out]; exact hol, ?_, hb⟩
      rw [← HH.out]
      exact own_base ho (by omega)
end Go.Proofs.YtdfnfimajhagfaaGreatDoor
