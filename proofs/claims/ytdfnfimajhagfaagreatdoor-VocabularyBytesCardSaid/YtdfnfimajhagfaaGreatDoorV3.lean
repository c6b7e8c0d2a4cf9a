/- Walks of package vocabulary: Find. -/
import Derived.Test.YtdfnfimajhagfaaGreatDoorP1
import Derived.Test.YtdfnfimajhagfaaGreatDoorTm
import Derived.Test.YtdfnfimajhagfaaGreatDoorW1
import Derived.Test.YtdfnfimajhagfaaGreatDoorP2
import Derived.Test.YtdfnfimajhagfaaGreatDoorShelf
import Derived.Shelf.Strings.SlTrimAscii
namespace Go.Proofs.YtdfnfimajhagfaaGreatDoor
open Go.RowKit Go.Maps Rf
set_option maxRecDepth 20000 in
set_option maxHeartbeats 1000000 in
theorem find1_any (bx : Nat) (m : TM) (s : S) (w : World) (hbx : bx < w.heap.size) (hc : w.cell? ⟨bx, 0, none⟩ = some (.string s)) :
    Calls Tryz.prog 81 #[.agg #[.string m.t.name, .int .i64 m.t.kind, .int .i64 m.t.lang, .string m.t.see, .slice m.A m.n m.c], .pointer (some ⟨bx, 0, none⟩)] w fun e w' =>
      e = .returned (.bool (eqS m.t.name s)) ∧ Below w.heap.size w w' := by
  have hne : bx ≠ w.heap.size := by omega
  go_enter Tryz.func81, Tryz.ntmps81
  go_wp2
  go_ret
  exact ⟨rfl, brefl.al _⟩
theorem findAt_hit {t : Term} {l : List Term} {s : S} {k : Nat} (h : eqS t.name s = true) : findAt (t :: l) s k = k := by rw [findAt, if_pos h]
theorem findAt_miss {t : Term} {l : List Term} {s : S} {k : Nat} (h : eqS t.name s = false) : findAt (t :: l) s k = findAt l s (k + 1) := by rw [findAt, if_neg (by rw [h]; simp)]
set_option maxRecDepth 20000 in
set_option maxHeartbeats 1000000 in
theorem indexFind_any (bx : Nat) (A : Option Addr) (n c : Nat) (ms : List TM) (s : S) (w : World) (hm : n ≤ 100000) (hbx : bx < w.heap.size) (hcb : w.cell? ⟨bx, 0, none⟩ = some (.string s)) (hl : Tms w A n ms) :
    Calls Tryz.prog 80 #[.slice A n c, .func (.func 81) #[] #[.pointer (some ⟨bx, 0, none⟩)]] w fun e w' =>
      e = .returned (.int .i64 (findAt (terms ms) s 0)) ∧ Below w.heap.size w w' := by
  go_enter Tryz.func80, Tryz.ntmps80
  go_wp2
  go_loopw [8] (fun i wr => ∃ k : Nat, k ≤ n ∧ i = .int .i64 k ∧ Hid (findAt (terms ms) s 0 = findAt ((terms ms).drop k) s k) ∧ Below w.heap.size w wr) (fun i _ => n - (intOf i).toNat)
  case atStart => exact ⟨0, by omega, rfl, rfl, brefl⟩
  case round =>
    obtain ⟨k, hk, rfl, hr, hbl⟩ := hrel
    by_cases hlt : k < n
    · obtain ⟨b, off, m, rfl, hx, _, hb0, d1, d2, d3, d4, d5⟩ := (hl.below hbl).at_ hlt
      have hd := Lib.hid (drop_get (terms_get hx))
      clear hx hb0
      have hbx2 := Nat.lt_of_lt_of_le hbx hbl.size
      have hcb2 := (hbl.cell (p := ⟨bx, 0, none⟩) hbx).trans hcb
      cases ho : eqS m.t.name s
      · go_wp2_with (go_at_call 81; refine (find1_any _ m s _ hbx2 hcb2).mono ?_; rintro e w2 ⟨rfl, hb2⟩; rw [ho])
        go_roundw
        case rel => exact ⟨k + 1, by omega, by go_num, by show _ = _; rw [hr.out, hd.out, findAt_miss ho], hbl.tr hb2⟩
        case measure => simp [intOf]; omega
      · go_wp2_with (go_at_call 81; refine (find1_any _ m s _ hbx2 hcb2).mono ?_; rintro e w2 ⟨rfl, hb2⟩; rw [ho])
        go_ret
        exact ⟨ret_i64 (by rw [hr.out, hd.out, findAt_hit ho]), hbl.tr hb2⟩
    · have hd := Lib.hid (drop_len (terms_length hl) hlt)
      go_wp2
      go_ret
      exact ⟨ret_i64 (by rw [hr.out, hd.out]; rfl), hbl⟩
set_option maxRecDepth 20000 in
set_option maxHeartbeats 1000000 in
theorem vfind_any (A : Option Addr) (n c : Nat) (ms : List TM) (s : S) (w : World) (hm : n ≤ 100000) (hl : Tms w A n ms) :
    Calls Tryz.prog 20 #[.slice A n c, .string s] w fun e w' => e = .returned (.int .i64 (findAt (terms ms) s 0)) ∧ Below w.heap.size w w' := by
  have hb1 : Below w.heap.size w (w.alloc (.cells #[.string s] 9)) := brefl.al _
  have h1 := indexFind_any w.heap.size A n c ms s (w.alloc (.cells #[.string s] 9)) hm (by simp) (by simp) (hl.below hb1)
  generalize findAt (terms ms) s 0 = r at h1 ⊢
  go_enter Tryz.func20, Tryz.ntmps20
  go_wp2_with (go_at_call 80; refine h1.mono ?_; rintro e w2 ⟨rfl, hb2⟩)
  go_ret
  exact ⟨rfl, hb1.tr hb2⟩
end Go.Proofs.YtdfnfimajhagfaaGreatDoor
/- Walks of package vocabulary: name. -/
namespace Go.Proofs.YtdfnfimajhagfaaGreatDoor
open Go.RowKit Go.Maps Rf
/-- the library's variable holds some number -/
def Rdy (w : World) : Prop := 0 < w.heap.size ∧ ∃ m, w.cell? ⟨0, 0, none⟩ = some (.int .i64 m)
theorem Rdy.below {w w' : World} (h : Rdy w) (hb : Below w.heap.size w w') : Rdy w' :=
  ⟨Nat.lt_of_lt_of_le h.1 hb.size, h.2.imp fun _ hm => (hb.cell (p := ⟨0, 0, none⟩) h.1).trans hm⟩
def lowers : S := ⟨#[97, 98, 99, 100, 101, 102, 103, 104, 105, 106, 107, 108, 109, 110, 111, 112, 113, 114, 115, 116, 117, 118, 119, 120, 121, 122]⟩
theorem lowers_iff (b : UInt8) : lowers.data.toList.contains b = decide (97 ≤ b.toNat ∧ b.toNat ≤ 122) := by
  rw [Bool.eq_iff_iff, List.contains_iff_mem, decide_eq_true_iff]
  constructor
  · intro h
    have : ∀ x ∈ lowers.data.toList, 97 ≤ x.toNat ∧ x.toNat ≤ 122 := by decide
    exact this b h
  · intro h
    have h2 : b = UInt8.ofNat b.toNat := by simp
    obtain ⟨n, hn⟩ : ∃ n, b.toNat = n := ⟨_, rfl⟩
    rw [hn] at h h2
    rw [h2]
    have : ∀ n, 97 ≤ n → n ≤ 122 → UInt8.ofNat n ∈ lowers.data.toList := by
      intro n h1 h2
      have : ∀ k : Fin 26, UInt8.ofNat (97 + k.val) ∈ lowers.data.toList := by decide
      have h3 := this ⟨n - 97, by omega⟩
      simpa [show 97 + (n - 97) = n from by omega] using h3
    exact this n h.1 h.2
/-- a word that spoils a name -/
def badWord (s : S) : Bool := s.data.isEmpty || !(s.data.toList.all fun b => decide (97 ≤ b.toNat ∧ b.toNat ≤ 122))
theorem toList_data (s : S) : s.toList = s.data.toList := Go.ByteArray.toList_eq s
theorem empty_data (s : S) : s.toList.isEmpty = s.data.isEmpty := by
  rw [toList_data]
  cases s with
  | mk d => cases d with
    | mk l => cases l <;> rfl
theorem is_empty {s : S} (h : s.data.isEmpty = true) : s = ⟨#[]⟩ := by
  cases s with
  | mk d => cases d with
    | mk l => cases l with
      | nil => rfl
      | cons a l => simp at h
theorem not_empty {s : S} (h : s.data.isEmpty = false) : ¬ s.toList = [] := by
  intro e
  have := empty_data s
  rw [e, h] at this; cases this
theorem trim_bad (s : S) (r : S) (h : r = ⟨(Lib.trimS s.data.toList lowers.data.toList).toArray⟩) : r.toList.isEmpty = s.data.toList.all fun b => decide (97 ≤ b.toNat ∧ b.toNat ≤ 122) := by
  subst h
  rw [toList_data, Bool.eq_iff_iff]
  have := trimS_nil s.data.toList lowers.data.toList
  rw [List.all_eq_true]
  constructor
  · intro h
    have h2 : Lib.trimS s.data.toList lowers.data.toList = [] := by simpa using h
    intro b hb
    rw [← lowers_iff]
    exact this.1 h2 b hb
  · intro h
    have h2 : Lib.trimS s.data.toList lowers.data.toList = [] := this.2 fun b hb => by rw [lowers_iff]; exact h b hb
    simp [h2]
theorem trim_any (s : S) (w : World) (hs : s.size ≤ maxLen) :
    Calls Tryz.prog 197 #[.string s, .string ⟨#[97, 98, 99, 100, 101, 102, 103, 104, 105, 106, 107, 108, 109, 110, 111, 112, 113, 114, 115, 116, 117, 118, 119, 120, 121, 122]⟩] w fun e w' =>
      ∃ r : S, e = .returned (.string r) ∧ r.toList.isEmpty = (s.data.toList.all fun b => decide (97 ≤ b.toNat ∧ b.toNat ≤ 122)) ∧ Below w.heap.size w w' :=
  (Any.strings_Trim_laid Tryz.lays160 (by kernel_rfl) s lowers w (by unfold maxLen at hs; omega) (by decide) (ascii_of_all (by decide))).mono fun e w' ⟨h1, h2⟩ => ⟨_, h1, trim_bad s _ rfl, h2⟩
set_option maxRecDepth 20000 in
set_option maxHeartbeats 1000000 in
theorem name1_any (s : S) (w : World) (hs : s.size ≤ maxLen) :
    Calls Tryz.prog 196 #[.string s] w fun e w' => e = .returned (.bool (badWord s)) ∧ Below w.heap.size w w' := by
  unfold badWord
  cases he : s.data.isEmpty
  · have h0 := not_empty he
    have h2 := (empty_data s).trans he
    obtain ⟨al, hal⟩ : ∃ al, (s.data.toList.all fun b => decide (97 ≤ b.toNat ∧ b.toNat ≤ 122)) = al := ⟨_, rfl⟩
    have HA := Lib.hid hal
    rw [hal]
    clear hal
    go_enter Tryz.func196, Tryz.ntmps196
    go_wp2_with (go_at_call 197; refine (trim_any s _ hs).mono ?_; rintro e w' ⟨r, rfl, h1, hb⟩; rw [HA.out] at h1)
    go_ret
    refine ⟨?_, hb⟩
    subst h1
    rfl
  · obtain rfl := is_empty he
    go_enter Tryz.func196, Tryz.ntmps196
    go_wp2
    go_ret
    exact ⟨rfl, brefl⟩
/-- the first place at which a test holds; -1: none -/
def idxQ (p : S → Bool) : List S → Nat → Int
  | [], _ => -1
  | x :: l, i => if p x = true then i else idxQ p l (i + 1)
theorem idxQ_hit {p : S → Bool} {x : S} {l : List S} {k : Nat} (h : p x = true) : idxQ p (x :: l) k = k := by rw [idxQ, if_pos h]
theorem idxQ_miss {p : S → Bool} {x : S} {l : List S} {k : Nat} (h : p x = false) : idxQ p (x :: l) k = idxQ p l (k + 1) := by rw [idxQ, if_neg (by rw [h]; simp)]
theorem idxQ_any (p : S → Bool) : ∀ (l : List S) (k : Nat), (l.any p = false ∧ idxQ p l k = -1) ∨ (l.any p = true ∧ ∃ j : Nat, idxQ p l k = j ∧ j < k + l.length)
  | [], k => .inl ⟨rfl, rfl⟩
  | x :: l, k => by
    rw [List.any_cons]
    cases h : p x
    · rw [idxQ_miss h]
      rcases idxQ_any p l (k + 1) with ⟨h1, h2⟩ | ⟨h1, j, h2, h3⟩
      · exact .inl ⟨by rw [h1]; rfl, h2⟩
      · exact .inr ⟨by rw [h1]; rfl, j, h2, by simp; omega⟩
    · rw [idxQ_hit h]
      exact .inr ⟨rfl, k, rfl, by simp⟩
set_option maxRecDepth 20000 in
set_option maxHeartbeats 1000000 in
theorem indexBad_any (B : Option Addr) (m d : Nat) (l : List S) (w : World) (hm : m ≤ 100000) (hl : Strs w B m l) :
    Calls Tryz.prog 195 #[.slice B m d, .func (.func 196) #[] #[]] w fun e w' => e = .returned (.int .i64 (idxQ badWord l 0)) ∧ Below w.heap.size w w' := by
  go_enter Tryz.func195, Tryz.ntmps195
  go_wp2
  go_loopw [8] (fun i wr => ∃ k : Nat, k ≤ m ∧ i = .int .i64 k ∧ Hid (idxQ badWord l 0 = idxQ badWord (l.drop k) k) ∧ Below w.heap.size w wr) (fun i _ => m - (intOf i).toNat)
  case atStart => exact ⟨0, by omega, rfl, rfl, brefl⟩
  case round =>
    obtain ⟨k, hk, rfl, hr, hbl⟩ := hrel
    by_cases hlt : k < m
    · obtain ⟨b, off, x, rfl, hx, hxs, hb0, hcx⟩ := (hl.below hbl).at_ hlt
      have hd := Lib.hid (drop_get hx)
      clear hx hb0
      cases ho : badWord x
      · go_wp2_with (go_at_call 196; refine (name1_any _ _ hxs).mono ?_; rintro e w2 ⟨rfl, hb2⟩; rw [ho])
        go_roundw
        case rel => exact ⟨k + 1, by omega, by go_num, by show _ = _; rw [hr.out, hd.out, idxQ_miss ho], hbl.tr hb2⟩
        case measure => simp [intOf]; omega
      · go_wp2_with (go_at_call 196; refine (name1_any _ _ hxs).mono ?_; rintro e w2 ⟨rfl, hb2⟩; rw [ho])
        go_ret
        exact ⟨ret_i64 (by rw [hr.out, hd.out, idxQ_hit ho]), hbl.tr hb2⟩
    · have hd := Lib.hid (drop_len hl.1 hlt)
      go_wp2
      go_ret
      exact ⟨ret_i64 (by rw [hr.out, hd.out]; rfl), hbl⟩
set_option maxRecDepth 20000 in
set_option maxHeartbeats 1000000 in
theorem containsBad_any (B : Option Addr) (m d : Nat) (l : List S) (w : World) (hm : m ≤ 100000) (hl : Strs w B m l) :
    Calls Tryz.prog 166 #[.slice B m d, .func (.func 196) #[] #[]] w fun e w' => e = .returned (.bool (l.any badWord)) ∧ Below w.heap.size w w' := by
  rcases idxQ_any badWord l 0 with ⟨h1, h2⟩ | ⟨h1, j, h2, h3⟩
  · rw [h1]
    go_enter Tryz.func166, Tryz.ntmps166
    go_wp2_with (go_at_call 195; refine (indexBad_any _ _ _ _ _ hm hl).mono ?_; rintro e w' ⟨rfl, hb⟩; rw [h2])
    go_ret
    exact ⟨rfl, hb⟩
  · rw [h1]
    have hll := hl.1
    go_enter Tryz.func166, Tryz.ntmps166
    go_wp2_with (go_at_call 195; refine (indexBad_any _ _ _ _ _ hm hl).mono ?_; rintro e w' ⟨rfl, hb⟩; rw [h2])
    go_ret
    exact ⟨ret_bool (by simp), hb⟩
theorem wordsB_le (c : UInt8) : ∀ (l : List UInt8), ∀ w ∈ wordsB c l, w.length ≤ l.length
  | [], w, h => by rw [wordsB, List.mem_singleton] at h; subst h; exact Nat.le_refl _
  | b :: l, w, h => by
    have ih := wordsB_le c l
    unfold wordsB at h
    by_cases hb : b = c
    · rw [if_pos hb] at h
      rcases List.mem_cons.1 h with e | h
      · subst e; simp
      · have := ih w h; simp; omega
    · rw [if_neg hb] at h
      cases hw : wordsB c l with
      | nil => rw [hw] at h; simp at h; subst h; simp
      | cons v vs =>
        rw [hw] at h ih
        rcases List.mem_cons.1 h with e | h
        · subst e; have := ih v List.mem_cons_self; simp; omega
        · have := ih w (List.mem_cons_of_mem _ h); simp; omega
def blank : S := ⟨#[32]⟩
def pieces (s : S) : List S := Lib.splitB blank 0 (Lib.countB s blank) s
theorem pieces_words (s : S) : (pieces s).map (fun p : S => p.data.toList) = wordsB 32 s.data.toList := by
  unfold pieces
  rw [Lib.splitB_data]
  exact split_words 32 _ _ (Lib.count_one 32 _).symm
theorem pieces_length (s : S) : (pieces s).length = Lib.countB s blank + 1 := Lib.splitB_all blank (by decide) 0 _ s rfl
theorem size_data (s : S) : s.size = s.data.toList.length := by cases s; rfl
theorem pieces_le {s p : S} (h : p ∈ pieces s) : p.size ≤ s.size := by
  rw [size_data, size_data]
  refine wordsB_le 32 _ _ ?_
  rw [← pieces_words]
  exact List.mem_map_of_mem (f := fun p : S => p.data.toList) h
theorem badWord_good (p : S) : badWord p = !(!p.data.toList.isEmpty && p.data.toList.all fun b => decide (97 ≤ b.toNat ∧ b.toNat ≤ 122)) := by
  unfold badWord
  have : p.data.toList.isEmpty = p.data.isEmpty := by rw [← toList_data, empty_data]
  rw [this]
  cases p.data.isEmpty <;> simp
theorem isName_pieces (s : S) : isName s = (decide (s.size ≤ 24) && decide ((pieces s).length ≤ 4) && !(pieces s).any badWord) := by
  unfold isName
  rw [← pieces_words, List.length_map, List.all_map]
  congr 1
  rw [List.not_any_eq_all_not]
  congr 1
  funext p
  rw [Function.comp, badWord_good]; simp
/-- a new block reads as its cells -/
theorem Rds.row (w : World) (xs : List Value) (t : TypeId) : Rds (w.alloc (.cells xs.toArray t)) (some ⟨w.heap.size, 0, none⟩) xs := fun _ =>
  ⟨w.heap.size, 0, rfl, by simp, fun j v hv => by
    rw [Nat.zero_add, cell_of_row _ _ j xs.toArray t (0, 0) (heap_alloc_new w _)]
    simpa using hv⟩
theorem split_any (s : S) (w : World) (hr : Rdy w) (hs : s.size ≤ 24) :
    Calls Tryz.prog 85 #[.string s, .string ⟨#[32]⟩] w fun e w' =>
      e = .returned (.slice (some ⟨w.heap.size, 0, none⟩) (pieces s).length (pieces s).length) ∧ Strs w' (some ⟨w.heap.size, 0, none⟩) (pieces s).length (pieces s) ∧ Below w.heap.size w w' := by
  obtain ⟨_, m, hm⟩ := hr
  refine (Tryz.strings_Split s blank m w (by omega) hm (by decide)).mono ?_
  rintro e w' ⟨rfl, rfl⟩
  refine ⟨by rw [pieces_length], ⟨rfl, fun p hp => ?_, Rds.row w _ _⟩, brefl.al _⟩
  have := pieces_le hp
  unfold maxLen; omega
set_option maxRecDepth 20000 in
set_option maxHeartbeats 1000000 in
theorem vname_any (s : S) (w : World) (hr : Rdy w) (_hs : s.size ≤ maxLen) :
    Calls Tryz.prog 168 #[.string s] w fun e w' => e = .returned (.bool (isName s)) ∧ Below w.heap.size w w' := by
  rw [isName_pieces]
  by_cases h24 : s.size ≤ 24
  · have h24' : ¬ (24 : Int) < s.size := by omega
    have hp1 := pieces_length s
    have hp2 : Lib.countB s blank ≤ s.size := Lib.countB_le blank (by decide) _ s (Nat.le_refl _)
    rw [decide_eq_true h24]
    have hsp := split_any s w hr h24
    obtain ⟨np, hnp⟩ : ∃ np, (pieces s).length = np := ⟨_, rfl⟩
    rw [hnp] at hsp hp1 ⊢
    have hp3 : np ≤ 25 := by omega
    clear hnp hp1 hp2
    by_cases h4 : np ≤ 4
    · have h4' : (np : Int) ≤ 4 := by omega
      rw [decide_eq_true h4]
      cases ha : (pieces s).any badWord
      all_goals
        go_enter Tryz.func168, Tryz.ntmps168
        go_wp2_with (first
          | (go_at_call 85; refine hsp.mono ?_; rintro e w2 ⟨rfl, hs2, hb2⟩)
          | (go_at_call 166; refine (containsBad_any _ _ _ _ _ (by omega) hs2).mono ?_; rintro e w3 ⟨rfl, hb3⟩; rw [ha]))
        go_ret
        exact ⟨ret_bool (by simp), hb2.tr hb3⟩
    · have h4' : ¬ (np : Int) ≤ 4 := by omega
      rw [decide_eq_false h4]
      generalize (pieces s).any badWord = al
      go_enter Tryz.func168, Tryz.ntmps168
      go_wp2_with (go_at_call 85; refine hsp.mono ?_; rintro e w2 ⟨rfl, hs2, hb2⟩)
      go_ret
      exact ⟨ret_bool (by simp), hb2⟩
  · have h24' : (24 : Int) < s.size := by omega
    rw [decide_eq_false h24]
    generalize (decide ((pieces s).length ≤ 4)) = al
    generalize (pieces s).any badWord = al2
    go_enter Tryz.func168, Tryz.ntmps168
    go_wp2
    go_ret
    exact ⟨ret_bool (by simp), brefl⟩
end Go.Proofs.YtdfnfimajhagfaaGreatDoor
