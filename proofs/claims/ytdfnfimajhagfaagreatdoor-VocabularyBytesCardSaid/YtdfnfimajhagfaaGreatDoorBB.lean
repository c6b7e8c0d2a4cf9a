/- The encodings of numbers, strings and terms, in plain Lean: they tell apart what they encode. -/
import Derived.Test.YtdfnfimajhagfaaGreatDoorT2
import Derived.Test.YtdfnfimajhagfaaGreatDoorUnit
import Derived.Laws.BitsAllLaws
import Derived.Test.YtdfnfimajhagfaaGreatDoorMD
import Derived.Lib.AppendStr
namespace Rf
/-- the digits of a number base 256, the last one first -/
def le (m : Nat) : List UInt8 := if h : m = 0 then [] else UInt8.ofNat m :: le (m / 256)
termination_by m
decreasing_by omega
theorem le_zero : le 0 = [] := by rw [le, dif_pos rfl]
theorem le_more {m : Nat} (h : ¬ m = 0) : le m = UInt8.ofNat m :: le (m / 256) := by rw [le, dif_neg h]
/-- the number of digits -/
def valB (l : List UInt8) : Nat := l.foldr (fun b a => b.toNat + 256 * a) 0
theorem val_le : ∀ (n m : Nat), m = n → valB (le m) = m := by
  intro n
  induction n using Nat.strongRecOn with
  | _ n ih =>
    intro m hm
    by_cases h : m = 0
    · subst h; rw [le_zero]; rfl
    · rw [le_more h]
      show (UInt8.ofNat m).toNat + 256 * valB (le (m / 256)) = m
      rw [ih (m / 256) (by omega) _ rfl, UInt8.toNat_ofNat']
      omega
theorem le_inj {m k : Nat} (h : le m = le k) : m = k := by rw [← val_le m m rfl, ← val_le k k rfl, h]
theorem le_get : ∀ (n m : Nat), m = n → ∀ i, i < (le m).length → (le m)[i]? = some (UInt8.ofNat (m / 256 ^ i)) := by
  intro n
  induction n using Nat.strongRecOn with
  | _ n ih =>
    intro m hm i hi
    by_cases h : m = 0
    · subst h; rw [le_zero] at hi; simp at hi
    · rw [le_more h] at hi ⊢
      cases i with
      | zero => simp
      | succ i =>
        rw [List.getElem?_cons_succ, ih (m / 256) (by omega) _ rfl i (by simpa using hi), Nat.div_div_eq_div_mul, Nat.pow_succ, Nat.mul_comm 256]
theorem le_len : ∀ (k m : Nat), m < 256 ^ k → (k = 0 ∨ 256 ^ (k - 1) ≤ m) → (le m).length = k
  | 0, m, h, _ => by
    have : m = 0 := by simpa using h
    subst this; rw [le_zero]; rfl
  | k + 1, m, h, h2 => by
    have h3 : 256 ^ k ≤ m := by rcases h2 with h2 | h2; omega; exact h2
    have hp : 0 < 256 ^ k := Nat.pow_pos (by omega)
    rw [le_more (by omega), List.length_cons, le_len k (m / 256)]
    · rw [Nat.div_lt_iff_lt_mul (by omega)]; rw [Nat.pow_succ] at h; exact h
    · cases k with
      | zero => exact .inl rfl
      | succ k =>
        refine .inr ?_
        rw [Nat.le_div_iff_mul_le (by omega)]
        rw [Nat.pow_succ] at h3
        exact h3
theorem le_zero_iff {m j : Nat} : m / 256 ^ j = 0 ↔ (le m).length ≤ j := by
  have hp : ∀ k, 0 < 256 ^ k := fun k => Nat.pow_pos (by omega)
  constructor
  · intro h
    rw [Nat.div_eq_zero_iff] at h
    have h1 : m < 256 ^ j := h.resolve_left (by have := hp j; omega)
    clear h
    induction j generalizing m with
    | zero =>
      have : m = 0 := by simpa using h1
      subst this; rw [le_zero]; exact Nat.le_refl _
    | succ j ih =>
      by_cases h0 : m = 0
      · subst h0; rw [le_zero]; exact Nat.zero_le _
      · rw [le_more h0, List.length_cons]
        have := ih (m := m / 256) (by rw [Nat.div_lt_iff_lt_mul (by omega)]; rw [Nat.pow_succ] at h1; exact h1)
        omega
  · intro h
    apply Nat.div_eq_of_lt
    have h1 : ∀ (n m : Nat), m = n → ∀ j, (le m).length ≤ j → m < 256 ^ j := by
      intro n
      induction n using Nat.strongRecOn with
      | _ n ih =>
        intro m hm j hj
        by_cases h0 : m = 0
        · subst h0; exact hp j
        · rw [le_more h0, List.length_cons] at hj
          cases j with
          | zero => omega
          | succ j =>
            have := ih (m / 256) (by omega) _ rfl j (by omega)
            rw [Nat.div_lt_iff_lt_mul (by omega)] at this
            rw [Nat.pow_succ]; exact this
    exact h1 m m rfl j h
theorem le_eight {m : Nat} (h : m < 9223372036854775808) : (le m).length ≤ 8 := le_zero_iff.1 (Nat.div_eq_of_lt (by show m < 18446744073709551616; omega))
def flipB (b : UInt8) : UInt8 := 255 - b
theorem flip_flip (b : UInt8) : flipB (flipB b) = b := by
  unfold flipB
  apply UInt8.toNat_inj.1
  have := b.toNat_lt
  rw [UInt8.toNat_sub, UInt8.toNat_sub]
  have : (255 : UInt8).toNat = 255 := rfl
  omega
theorem flip_toNat (b : UInt8) : (flipB b).toNat = 255 - b.toNat := by
  unfold flipB
  have := b.toNat_lt
  rw [UInt8.toNat_sub]
  have : (255 : UInt8).toNat = 255 := rfl
  omega
/-- the encoding of a number -/
def enc (n : Int) : List UInt8 :=
  if 0 ≤ n then UInt8.ofNat (128 + (le n.toNat).length) :: (le n.toNat).reverse
  else UInt8.ofNat (127 - (le (-1 - n).toNat).length) :: (le (-1 - n).toNat).reverse.map flipB
theorem enc_pos {n : Int} (h : 0 ≤ n) : enc n = UInt8.ofNat (128 + (le n.toNat).length) :: (le n.toNat).reverse := by unfold enc; rw [if_pos h]
theorem enc_neg {n : Int} (h : ¬ 0 ≤ n) : enc n = UInt8.ofNat (127 - (le (-1 - n).toNat).length) :: (le (-1 - n).toNat).reverse.map flipB := by unfold enc; rw [if_neg h]
def i64n (n : Int) : Prop := -9223372036854775808 ≤ n ∧ n ≤ 9223372036854775807
/-- a code whose words are beginnings of no others -/
def PF {α : Type} (P : α → Prop) (f : α → List UInt8) : Prop := ∀ (a b : α) (x y : List UInt8), P a → P b → f a ++ x = f b ++ y → a = b ∧ x = y
theorem ofNat_inj {a b : Nat} (ha : a < 256) (hb : b < 256) (h : UInt8.ofNat a = UInt8.ofNat b) : a = b := by
  have := congrArg UInt8.toNat h
  rw [UInt8.toNat_ofNat', UInt8.toNat_ofNat'] at this
  omega
theorem app_inj {a b x y : List UInt8} (hl : a.length = b.length) (h : a ++ x = b ++ y) : a = b ∧ x = y := List.append_inj h hl
theorem map_flip {a b : List UInt8} (h : a.map flipB = b.map flipB) : a = b := by
  have := congrArg (List.map flipB) h
  rw [List.map_map, List.map_map] at this
  have e : flipB ∘ flipB = id := funext flip_flip
  rw [e, List.map_id, List.map_id] at this
  exact this
theorem enc_pf : PF i64n enc := by
  intro a b x y ha hb h
  unfold i64n at ha hb
  by_cases h1 : 0 ≤ a
  · have la := le_eight (m := a.toNat) (by omega)
    by_cases h2 : 0 ≤ b
    · have lb := le_eight (m := b.toNat) (by omega)
      rw [enc_pos h1, enc_pos h2, List.cons_append, List.cons_append] at h
      injection h with h3 h4
      have hl := ofNat_inj (by omega) (by omega) h3
      obtain ⟨h5, h6⟩ := app_inj (by simp; omega) h4
      refine ⟨?_, h6⟩
      have := le_inj (List.reverse_inj.1 h5)
      omega
    · have lb := le_eight (m := (-1 - b).toNat) (by omega)
      rw [enc_pos h1, enc_neg h2, List.cons_append, List.cons_append] at h
      injection h with h3 h4
      have hl := ofNat_inj (by omega) (by omega) h3
      omega
  · have la := le_eight (m := (-1 - a).toNat) (by omega)
    by_cases h2 : 0 ≤ b
    · have lb := le_eight (m := b.toNat) (by omega)
      rw [enc_neg h1, enc_pos h2, List.cons_append, List.cons_append] at h
      injection h with h3 h4
      have hl := ofNat_inj (by omega) (by omega) h3
      omega
    · have lb := le_eight (m := (-1 - b).toNat) (by omega)
      rw [enc_neg h1, enc_neg h2, List.cons_append, List.cons_append] at h
      injection h with h3 h4
      have hl := ofNat_inj (by omega) (by omega) h3
      obtain ⟨h5, h6⟩ := app_inj (by simp; omega) h4
      refine ⟨?_, h6⟩
      have := le_inj (List.reverse_inj.1 (map_flip h5))
      omega
theorem PF.list {α : Type} {P : α → Prop} {f : α → List UInt8} (h : PF P f) : ∀ (l m : List α) (x y : List UInt8), l.length = m.length → (∀ a ∈ l, P a) → (∀ a ∈ m, P a) → l.flatMap f ++ x = m.flatMap f ++ y → l = m ∧ x = y
  | [], [], x, y, _, _, _, e => ⟨rfl, by simpa using e⟩
  | [], _ :: _, _, _, hl, _, _, _ => by simp at hl
  | _ :: _, [], _, _, hl, _, _, _ => by simp at hl
  | a :: l, b :: m, x, y, hl, h1, h2, e => by
    rw [List.flatMap_cons, List.flatMap_cons, List.append_assoc, List.append_assoc] at e
    obtain ⟨e1, e2⟩ := h a b _ _ (h1 a List.mem_cons_self) (h2 b List.mem_cons_self) e
    obtain ⟨e3, e4⟩ := PF.list h l m x y (by simpa using hl) (fun c hc => h1 c (List.mem_cons_of_mem _ hc)) (fun c hc => h2 c (List.mem_cons_of_mem _ hc)) e2
    exact ⟨by rw [e1, e3], e4⟩
/-- a list with its length ahead -/
def encL {α : Type} (f : α → List UInt8) (l : List α) : List UInt8 := enc (l.length : Int) ++ l.flatMap f
theorem encL_pf {α : Type} {P : α → Prop} {f : α → List UInt8} (h : PF P f) : PF (fun l : List α => (∀ a ∈ l, P a) ∧ l.length ≤ 1000000000) (encL f) := by
  intro l m x y hl hm e
  unfold encL at e
  rw [List.append_assoc, List.append_assoc] at e
  have h1 := hl.2
  have h2 := hm.2
  obtain ⟨e1, e2⟩ := enc_pf _ _ _ _ (by unfold i64n; omega) (by unfold i64n; omega) e
  exact h.list l m x y (by omega) hl.1 hm.1 e2
def encW (s : S) : List UInt8 := enc (s.size : Int) ++ byts s
theorem encW_pf : PF (fun s : S => s.size ≤ 1000000000) encW := by
  intro a b x y ha hb e
  unfold encW at e
  rw [List.append_assoc, List.append_assoc] at e
  obtain ⟨e1, e2⟩ := enc_pf _ _ _ _ (by unfold i64n; omega) (by unfold i64n; omega) e
  have hla : (byts a).length = a.size := by simp [byts]
  have hlb : (byts b).length = b.size := by simp [byts]
  obtain ⟨e3, e4⟩ := app_inj (by omega) e2
  exact ⟨byts_inj e3, e4⟩
def encT (t : Term) : List UInt8 := encL enc [t.kind, t.lang] ++ encL encW (t.name :: t.see :: t.broader)
/-- what a term must keep to be encoded -/
structure TE (t : Term) : Prop where
  ki : i64n t.kind
  la : i64n t.lang
  nm : t.name.size ≤ 1000000000
  se : t.see.size ≤ 1000000000
  br : ∀ x ∈ t.broader, x.size ≤ 1000000000
  few : t.broader.length ≤ 1000000
theorem encT_pf : PF TE encT := by
  intro t u x y ht hu e
  unfold encT at e
  rw [List.append_assoc, List.append_assoc] at e
  obtain ⟨e1, e2⟩ := encL_pf enc_pf _ _ _ _ ⟨(by intro a ha; simp at ha; rcases ha with rfl | rfl; exact ht.ki; exact ht.la), by simp⟩ ⟨(by intro a ha; simp at ha; rcases ha with rfl | rfl; exact hu.ki; exact hu.la), by simp⟩ e
  have hs : ∀ v : Term, TE v → (∀ a ∈ v.name :: v.see :: v.broader, a.size ≤ 1000000000) ∧ (v.name :: v.see :: v.broader).length ≤ 1000000000 := fun v hv => ⟨fun a ha => by
    rcases List.mem_cons.1 ha with rfl | ha
    · exact hv.nm
    · rcases List.mem_cons.1 ha with rfl | ha
      · exact hv.se
      · exact hv.br a ha, by have := hv.few; simp; omega⟩
  obtain ⟨e3, e4⟩ := encL_pf encW_pf _ _ _ _ (hs t ht) (hs u hu) e2
  injection e1 with k1 k2
  injection k2 with k2 _
  injection e3 with n1 n2
  injection n2 with n2 n3
  refine ⟨?_, e4⟩
  cases t; cases u
  simp only [Term.mk.injEq]
  exact ⟨n1, k1, k2, n2, n3⟩
/-- the encoding of a list of terms -/
def encV (l : List Term) : List UInt8 := encL encT l
theorem encV_inj {l m : List Term} (hl : ∀ t ∈ l, TE t) (hm : ∀ t ∈ m, TE t) (h1 : l.length ≤ 1000000) (h2 : m.length ≤ 1000000) : encV l = encV m ↔ l = m := by
  refine ⟨fun h => ?_, fun h => by rw [h]⟩
  have := encL_pf encT_pf l m [] [] ⟨hl, by omega⟩ ⟨hm, by omega⟩ (by rw [List.append_nil, List.append_nil]; exact h)
  exact this.1
end Rf
/- Walks of package wire and of its reference: Int. -/
namespace Go.Proofs.YtdfnfimajhagfaaGreatDoor
open Go.RowKit Go.Maps Rf
/-- some bytes of the call's own -/
def ABy (l : List UInt8) (w : World) (e : Ending) (w' : World) : Prop := ∃ A c, e = .returned (.slice A l.length c) ∧ l.length ≤ c ∧ Own w' w.heap.size 5 1 (.slice A l.length c) l.length (Lib.byteCells l) ∧ Below w.heap.size w w'
theorem pow_two (j : Nat) : (2 : Int) ^ (8 * j) = ((256 ^ j : Nat) : Int) := by
  rw [Int.pow_mul]
  norm_cast
theorem shrI (m j : Nat) : (m : Int) / 2 ^ (8 * j) = ((m / 256 ^ j : Nat) : Int) := by
  rw [pow_two]
  exact (Int.natCast_ediv m (256 ^ j)).symm
theorem xor_zero {x : Int} (h0 : 0 ≤ x) (h : x < 256) : bits BinOp.xor IntKind.u8 x 0 = x := by
  have : ∀ n : Nat, n < 256 → bits BinOp.xor IntKind.u8 (n : Int) 0 = (n : Int) := by decide +kernel
  obtain ⟨n, rfl⟩ : ∃ n : Nat, x = n := ⟨x.toNat, by omega⟩
  exact this n (by omega)
theorem xor_full {x : Int} (h0 : 0 ≤ x) (h : x < 256) : bits BinOp.xor IntKind.u8 x 255 = 255 - x := by
  have : ∀ n : Nat, n < 256 → bits BinOp.xor IntKind.u8 (n : Int) 255 = 255 - (n : Int) := by decide +kernel
  obtain ⟨n, rfl⟩ : ∃ n : Nat, x = n := ⟨x.toNat, by omega⟩
  exact this n (by omega)
theorem byte_one {n : Nat} (h : n < 256) : Lib.byteCells [UInt8.ofNat n] = [.int .u8 (n : Int)] := by
  unfold Lib.byteCells
  simp only [List.map_cons, List.map_nil, UInt8.toNat_ofNat']
  rw [Nat.mod_eq_of_lt (by simpa using h)]
theorem byteCells_app (a b : List UInt8) : Lib.byteCells (a ++ b) = Lib.byteCells a ++ Lib.byteCells b := by simp [Lib.byteCells]
theorem byteCells_one (l : List UInt8) : ∀ u ∈ Lib.byteCells l, u.oneCell' = true := by
  intro u hu
  unfold Lib.byteCells at hu
  obtain ⟨b, _, rfl⟩ := List.mem_map.1 hu
  rfl
theorem rev_get {l : List UInt8} {k j d : Nat} {x : UInt8} (hl : l.length = k) (h : d + j + 1 = k) (hx : l[j]? = some x) : l.reverse[d]? = some x := by
  rw [List.getElem?_reverse (by omega), hl, show k - 1 - d = j from by omega, hx]
theorem Own.byte (w : World) (v : Value) (t : TypeId) {base : Nat} (h : base ≤ w.heap.size) : Own (w.alloc (.cells #[v] t)) base t 1 (.slice (some ⟨w.heap.size, 0, none⟩) 1 1) 1 [v] :=
  ⟨⟨rfl, .inr ⟨w.heap.size, 1, #[v], rfl, h, heap_alloc_new w _, Nat.le_refl _, by decide, rfl, rfl⟩⟩, Nat.le_trans h (by simp)⟩
set_option maxRecDepth 100000 in
set_option maxHeartbeats 1000000 in
theorem int_pos (m : Nat) (w : World) (hm : m < 9223372036854775808) : Calls Tryz.prog 103 #[.int .i64 m] w (ABy (enc m) w) := by
  have hm1 : ¬ (m : Int) < 0 := by omega
  have hm2 : (m : Int) ≤ 9223372036854775807 := by omega
  have hm0 : (0 : Int) ≤ m := by omega
  have HM := Lib.hid hm
  clear hm
  go_enter Tryz.func103, Tryz.ntmps103
  go_wp2
  go_step3
  go_wp2
  go_step3
  go_wp2
  go_loop [5] (fun t5 => ∃ k : Nat, k ≤ 8 ∧ t5 = .int .i64 k ∧ Hid (m < 256 ^ k)) (fun t5 => (intOf t5).toNat)
  case atStart => exact ⟨8, Nat.le_refl _, rfl, Lib.hid (by have := HM.out; show m < 18446744073709551616; omega)⟩
  case round =>
    obtain ⟨k, hk, rfl, hmk⟩ := hrel
    by_cases h0 : k = 0
    · have HL := Lib.hid (le_len k m hmk.out (.inl h0))
      have h0' : ¬ (0 : Int) < k := by omega
      clear h0
      have hbx : bits BinOp.xor IntKind.u8 (128 + (k : Int)) 0 = 128 + k := xor_zero (by omega) (by omega)
      go_wp2
      go_loopw [6, 7] (fun t6 t7 wr => ∃ (d c : Nat) (A : Option Addr) (z : Int), d ≤ k ∧ z = (k : Int) - 1 - d ∧ t7 = .int .i64 z ∧ t6 = .slice A (d + 1) c ∧ d + 1 ≤ c ∧ Own wr w.heap.size 5 1 (.slice A (d + 1) c) (d + 1) (Lib.byteCells (UInt8.ofNat (128 + k) :: (le m).reverse.take d)) ∧ Below w.heap.size w wr) (fun _ t7 _ => (intOf t7 + 1).toNat)
      case atStart =>
        refine ⟨0, 1, _, (k : Int) - 1, by omega, by omega, rfl, rfl, Nat.le_refl _, ?_, brefl.al _⟩
        rw [List.take_zero, byte_one (by omega)]
        exact Own.byte w _ _ (Nat.le_refl _)
      case round =>
        obtain ⟨d, c, A, z, hd, hz, rfl, rfl, hc, ho, hb⟩ := hrel
        by_cases hdk : d < k
        · exact absurd hdk (by omega)
        · have hzn : z = -1 := by omega
          subst hzn
          have hfin := Lib.hid (show UInt8.ofNat (128 + k) :: (le m).reverse.take d = enc m from by
            rw [enc_pos (by omega), Int.toNat_natCast, HL.out, List.take_of_length_le (by rw [List.length_reverse, HL.out]; omega)])
          have hlen : (enc (m : Int)).length = d + 1 := by rw [← hfin.out, List.length_cons, List.length_take, List.length_reverse, HL.out]; omega
          rw [hfin.out] at ho
          go_wp2
          try rw [Exit.noGoto_ret]
          go_ret
          exact ⟨A, c, by rw [hlen]; rfl, by rw [hlen]; exact hc, by rw [hlen]; exact ho, hb⟩
    · have h0' : (0 : Int) < k := by omega
      have hsh := shrI m (k - 1)
      by_cases hd : 256 ^ (k - 1) ≤ m
      · have HL := Lib.hid (le_len k m hmk.out (.inr hd))
        have hpos : (0 : Int) < (m : Int) / 2 ^ (8 * (k - 1)) := by
          rw [hsh]
          have : 0 < m / 256 ^ (k - 1) := Nat.div_pos hd (Nat.pow_pos (by omega))
          omega
        clear hd hsh h0
        have hbx : bits BinOp.xor IntKind.u8 (128 + (k : Int)) 0 = 128 + k := xor_zero (by omega) (by omega)
        go_wp2
        go_loopw [6, 7] (fun t6 t7 wr => ∃ (d c : Nat) (A : Option Addr) (z : Int), d ≤ k ∧ z = (k : Int) - 1 - d ∧ t7 = .int .i64 z ∧ t6 = .slice A (d + 1) c ∧ d + 1 ≤ c ∧ Own wr w.heap.size 5 1 (.slice A (d + 1) c) (d + 1) (Lib.byteCells (UInt8.ofNat (128 + k) :: (le m).reverse.take d)) ∧ Below w.heap.size w wr) (fun _ t7 _ => (intOf t7 + 1).toNat)
        case atStart =>
          refine ⟨0, 1, _, (k : Int) - 1, by omega, by omega, rfl, rfl, Nat.le_refl _, ?_, brefl.al _⟩
          rw [List.take_zero, byte_one (by omega)]
          exact Own.byte w _ _ (Nat.le_refl _)
        case round =>
          obtain ⟨d, c, A, z, hd, hz, rfl, rfl, hc, ho, hb⟩ := hrel
          by_cases hdk : d < k
          · obtain ⟨j, rfl⟩ : ∃ j : Nat, z = j := ⟨z.toNat, by omega⟩
            have hj0 : (0 : Int) ≤ j := by omega
            have hjd : d + j + 1 = k := by omega
            have HJD := Lib.hid hjd
            have hj8 : (j : Int) ≤ 8 := by omega
            clear hz hjd
            obtain ⟨v, hv⟩ : ∃ v, m / 256 ^ j % 256 = v := ⟨_, rfl⟩
            have hv256 : v < 256 := by omega
            have hsj := shrI m j
            have hwv : (m : Int) / 2 ^ (8 * j) % 256 = (v : Int) := by rw [hsj]; omega
            have hbv : bits BinOp.xor IntKind.u8 (v : Int) 0 = v := xor_zero (by omega) (by omega)
            have hnext := Lib.hid (show (le m).reverse.take (d + 1) = (le m).reverse.take d ++ [UInt8.ofNat v] from by
              rw [Rf.take_snoc (rev_get HL.out HJD.out (le_get m m rfl j (by rw [HL.out]; have := HJD.out; omega)))]
              congr 2
              apply UInt8.toNat_inj.1
              rw [UInt8.toNat_ofNat', UInt8.toNat_ofNat', ← hv]; omega)
            clear hsj hv
            go_wp2_with (at_builtin; go_loud (refine wpList_app _ bytesT rfl (.tmp 36) (.tmp 44) rfl (ho.alloc _) rfl rfl (news := [.int .u8 (v : Int)]) rfl (rds_byte wr _ 5) (by simp [Value.oneCell']) ?_ ?_ ?_; (focus omega); (focus omega); intro A4 c4 w4 o4 n4 g4 _))
            have hb4 := (hb.al (.cells #[.int .u8 (v : Int)] 5)).gr g4 ho.row
            go_roundw
            case rel => exact ⟨d + 1, c4, A4, (j : Int) - 1, by have := HJD.out; omega, by have := HJD.out; omega, rfl, rfl, n4, by
              rw [hnext.out, ← List.cons_append, byteCells_app, byte_one hv256]; exact o4, hb4⟩
            case measure => simp [intOf]
          · have hzn : z = -1 := by omega
            subst hzn
            have hfin := Lib.hid (show UInt8.ofNat (128 + k) :: (le m).reverse.take d = enc m from by
              rw [enc_pos (by omega), Int.toNat_natCast, HL.out, List.take_of_length_le (by rw [List.length_reverse, HL.out]; omega)])
            have hlen : (enc (m : Int)).length = d + 1 := by rw [← hfin.out, List.length_cons, List.length_take, List.length_reverse, HL.out]; omega
            rw [hfin.out] at ho
            go_wp2
            try rw [Exit.noGoto_ret]
            go_ret
            exact ⟨A, c, by rw [hlen]; rfl, by rw [hlen]; exact hc, by rw [hlen]; exact ho, hb⟩
      · have hneg : ¬ (0 : Int) < (m : Int) / 2 ^ (8 * (k - 1)) := by
          rw [hsh, Nat.div_eq_of_lt (by omega)]
          simp
        have HN := Lib.hid (show m < 256 ^ (k - 1) by omega)
        clear hd hsh h0
        go_wp2
        go_round
        case rel => exact ⟨k - 1, by omega, by congr 1; omega, HN⟩
        case measure => simp [intOf]; omega
theorem not_xor (m : Nat) (hm : m < 18446744073709551616) : (18446744073709551615 ^^^ (18446744073709551615 - m)) = m := by
  have h : (BitVec.allOnes 64 ^^^ ~~~(BitVec.ofNat 64 m)).toNat = m := by
    rw [BitVec.allOnes_xor, BitVec.not_not, BitVec.toNat_ofNat]; exact Nat.mod_eq_of_lt hm
  rw [BitVec.toNat_xor, BitVec.toNat_allOnes, BitVec.toNat_not, BitVec.toNat_ofNat, Nat.mod_eq_of_lt hm] at h
  exact h
theorem not_u64 (m : Nat) (hm : m < 18446744073709551616) : bits BinOp.xor IntKind.u64 IntKind.u64.max (IntKind.u64.wrap (-1 - (m : Int))) = (m : Int) := by
  have h1 : IntKind.u64.wrap (-1 - (m : Int)) = ((18446744073709551615 - m : Nat) : Int) := by rw [IntKind.wrap_u64]; omega
  have h2 : IntKind.u64.max = ((18446744073709551615 : Nat) : Int) := by decide
  rw [h1, h2, u64_xor_nat _ _ (by omega) (by omega), not_xor m hm]
theorem byte_flip {n : Nat} (h : n < 256) : Lib.byteCells [flipB (UInt8.ofNat n)] = [.int .u8 (255 - (n : Int))] := by
  unfold Lib.byteCells
  simp only [List.map_cons, List.map_nil, flip_toNat, UInt8.toNat_ofNat']
  rw [Nat.mod_eq_of_lt (by simpa using h), show ((255 - n : Nat) : Int) = 255 - (n : Int) from by omega]
set_option maxRecDepth 100000 in
set_option maxHeartbeats 1000000 in
theorem int_neg (m : Nat) (w : World) (hm : m < 9223372036854775808) : Calls Tryz.prog 103 #[.int .i64 (-1 - (m : Int))] w (ABy (enc (-1 - (m : Int))) w) := by
  have hm1 : (-1 - (m : Int)) < 0 := by omega
  have hwx := not_u64 m (by omega)
  have hm2 : (m : Int) ≤ 9223372036854775807 := by omega
  have hm0 : (0 : Int) ≤ m := by omega
  have HM := Lib.hid hm
  clear hm
  go_enter Tryz.func103, Tryz.ntmps103
  go_wp2
  go_step3
  go_wp2
  go_step3
  go_wp2
  go_loop [5] (fun t5 => ∃ k : Nat, k ≤ 8 ∧ t5 = .int .i64 k ∧ Hid (m < 256 ^ k)) (fun t5 => (intOf t5).toNat)
  case atStart => exact ⟨8, Nat.le_refl _, rfl, Lib.hid (by have := HM.out; show m < 18446744073709551616; omega)⟩
  case round =>
    obtain ⟨k, hk, rfl, hmk⟩ := hrel
    by_cases h0 : k = 0
    · have HL := Lib.hid (le_len k m hmk.out (.inl h0))
      have h0' : ¬ (0 : Int) < k := by omega
      clear h0
      have hbx : bits BinOp.xor IntKind.u8 (128 + (k : Int)) 255 = 127 - k := by rw [xor_full (by omega) (by omega)]; omega
      go_wp2
      go_loopw [6, 7] (fun t6 t7 wr => ∃ (d c : Nat) (A : Option Addr) (z : Int), d ≤ k ∧ z = (k : Int) - 1 - d ∧ t7 = .int .i64 z ∧ t6 = .slice A (d + 1) c ∧ d + 1 ≤ c ∧ Own wr w.heap.size 5 1 (.slice A (d + 1) c) (d + 1) (Lib.byteCells (UInt8.ofNat (127 - k) :: ((le m).reverse.map flipB).take d)) ∧ Below w.heap.size w wr) (fun _ t7 _ => (intOf t7 + 1).toNat)
      case atStart =>
        refine ⟨0, 1, _, (k : Int) - 1, by omega, by omega, rfl, rfl, Nat.le_refl _, ?_, brefl.al _⟩
        rw [List.take_zero, byte_one (by omega), show (((127 - k : Nat) : Int)) = 127 - (k : Int) from by omega]
        exact Own.byte w _ _ (Nat.le_refl _)
      case round =>
        obtain ⟨d, c, A, z, hd, hz, rfl, rfl, hc, ho, hb⟩ := hrel
        by_cases hdk : d < k
        · exact absurd hdk (by omega)
        · have hzn : z = -1 := by omega
          subst hzn
          have hfin := Lib.hid (show UInt8.ofNat (127 - k) :: ((le m).reverse.map flipB).take d = enc (-1 - (m : Int)) from by
            rw [enc_neg (by omega), show (-1 - (-1 - (m : Int))).toNat = m from by omega, HL.out, List.take_of_length_le (by rw [List.length_map, List.length_reverse, HL.out]; omega)])
          have hlen : (enc (-1 - (m : Int))).length = d + 1 := by rw [← hfin.out, List.length_cons, List.length_take, List.length_map, List.length_reverse, HL.out]; omega
          rw [hfin.out] at ho
          go_wp2
          try rw [Exit.noGoto_ret]
          go_ret
          exact ⟨A, c, by rw [hlen]; rfl, by rw [hlen]; exact hc, by rw [hlen]; exact ho, hb⟩
    · have h0' : (0 : Int) < k := by omega
      have hsh := shrI m (k - 1)
      by_cases hd : 256 ^ (k - 1) ≤ m
      · have HL := Lib.hid (le_len k m hmk.out (.inr hd))
        have hpos : (0 : Int) < (m : Int) / 2 ^ (8 * (k - 1)) := by
          rw [hsh]
          have : 0 < m / 256 ^ (k - 1) := Nat.div_pos hd (Nat.pow_pos (by omega))
          omega
        clear hd hsh h0
        have hbx : bits BinOp.xor IntKind.u8 (128 + (k : Int)) 255 = 127 - k := by rw [xor_full (by omega) (by omega)]; omega
        go_wp2
        go_loopw [6, 7] (fun t6 t7 wr => ∃ (d c : Nat) (A : Option Addr) (z : Int), d ≤ k ∧ z = (k : Int) - 1 - d ∧ t7 = .int .i64 z ∧ t6 = .slice A (d + 1) c ∧ d + 1 ≤ c ∧ Own wr w.heap.size 5 1 (.slice A (d + 1) c) (d + 1) (Lib.byteCells (UInt8.ofNat (127 - k) :: ((le m).reverse.map flipB).take d)) ∧ Below w.heap.size w wr) (fun _ t7 _ => (intOf t7 + 1).toNat)
        case atStart =>
          refine ⟨0, 1, _, (k : Int) - 1, by omega, by omega, rfl, rfl, Nat.le_refl _, ?_, brefl.al _⟩
          rw [List.take_zero, byte_one (by omega), show (((127 - k : Nat) : Int)) = 127 - (k : Int) from by omega]
          exact Own.byte w _ _ (Nat.le_refl _)
        case round =>
          obtain ⟨d, c, A, z, hd, hz, rfl, rfl, hc, ho, hb⟩ := hrel
          by_cases hdk : d < k
          · obtain ⟨j, rfl⟩ : ∃ j : Nat, z = j := ⟨z.toNat, by omega⟩
            have hj0 : (0 : Int) ≤ j := by omega
            have hjd : d + j + 1 = k := by omega
            have HJD := Lib.hid hjd
            have hj8 : (j : Int) ≤ 8 := by omega
            clear hz hjd
            obtain ⟨v, hv⟩ : ∃ v, m / 256 ^ j % 256 = v := ⟨_, rfl⟩
            have hv256 : v < 256 := by omega
            have hsj := shrI m j
            have hwv : (m : Int) / 2 ^ (8 * j) % 256 = (v : Int) := by rw [hsj]; omega
            have hbv : bits BinOp.xor IntKind.u8 (v : Int) 255 = 255 - v := xor_full (by omega) (by omega)
            have hnext := Lib.hid (show ((le m).reverse.map flipB).take (d + 1) = ((le m).reverse.map flipB).take d ++ [flipB (UInt8.ofNat v)] from by
              rw [Rf.take_snoc (r := flipB (UInt8.ofNat (m / 256 ^ j))) (by rw [List.getElem?_map, rev_get HL.out HJD.out (le_get m m rfl j (by rw [HL.out]; have := HJD.out; omega))]; rfl)]
              congr 3
              apply UInt8.toNat_inj.1
              rw [UInt8.toNat_ofNat', UInt8.toNat_ofNat', ← hv]; omega)
            clear hsj hv
            go_wp2_with (at_builtin; go_loud (refine wpList_app _ bytesT rfl (.tmp 36) (.tmp 44) rfl (ho.alloc _) rfl rfl (news := [.int .u8 (255 - (v : Int))]) rfl (rds_byte wr _ 5) (by simp [Value.oneCell']) ?_ ?_ ?_; (focus omega); (focus omega); intro A4 c4 w4 o4 n4 g4 _))
            have hb4 := (hb.al (.cells #[.int .u8 (255 - (v : Int))] 5)).gr g4 ho.row
            go_roundw
            case rel => exact ⟨d + 1, c4, A4, (j : Int) - 1, by have := HJD.out; omega, by have := HJD.out; omega, rfl, rfl, n4, by
              rw [hnext.out, ← List.cons_append, byteCells_app, byte_flip hv256]; exact o4, hb4⟩
            case measure => simp [intOf]
          · have hzn : z = -1 := by omega
            subst hzn
            have hfin := Lib.hid (show UInt8.ofNat (127 - k) :: ((le m).reverse.map flipB).take d = enc (-1 - (m : Int)) from by
              rw [enc_neg (by omega), show (-1 - (-1 - (m : Int))).toNat = m from by omega, HL.out, List.take_of_length_le (by rw [List.length_map, List.length_reverse, HL.out]; omega)])
            have hlen : (enc (-1 - (m : Int))).length = d + 1 := by rw [← hfin.out, List.length_cons, List.length_take, List.length_map, List.length_reverse, HL.out]; omega
            rw [hfin.out] at ho
            go_wp2
            try rw [Exit.noGoto_ret]
            go_ret
            exact ⟨A, c, by rw [hlen]; rfl, by rw [hlen]; exact hc, by rw [hlen]; exact ho, hb⟩
      · have hneg : ¬ (0 : Int) < (m : Int) / 2 ^ (8 * (k - 1)) := by
          rw [hsh, Nat.div_eq_of_lt (by omega)]
          simp
        have HN := Lib.hid (show m < 256 ^ (k - 1) by omega)
        clear hd hsh h0
        go_wp2
        go_round
        case rel => exact ⟨k - 1, by omega, by congr 1; omega, HN⟩
        case measure => simp [intOf]; omega
theorem int_any (n : Int) (w : World) (h : i64n n) : Calls Tryz.prog 103 #[.int .i64 n] w (ABy (enc n) w) := by
  unfold i64n at h
  by_cases h0 : 0 ≤ n
  · obtain ⟨m, rfl⟩ : ∃ m : Nat, n = m := ⟨n.toNat, by omega⟩
    exact int_pos m w (by omega)
  · obtain ⟨m, rfl⟩ : ∃ m : Nat, n = -1 - (m : Int) := ⟨(-1 - n).toNat, by omega⟩
    exact int_neg m w (by omega)
theorem le_at {m k j v : Nat} (hk : (le m).length = k) (hj : j < k) (hv : m / 256 ^ j % 256 = v) : (le m)[j]? = some (UInt8.ofNat v) := by
  rw [le_get m m rfl j (by omega)]
  congr 1
  apply UInt8.toNat_inj.1
  rw [UInt8.toNat_ofNat', UInt8.toNat_ofNat', ← hv]; omega
set_option maxRecDepth 100000 in
set_option maxHeartbeats 1000000 in
theorem rint_pos (m : Nat) (w : World) (hm : m < 9223372036854775808) : Calls Tryz.prog 106 #[.int .i64 m] w (ABy (enc m) w) := by
  have hm1 : ¬ (m : Int) < 0 := by omega
  have hm0 : (0 : Int) ≤ m := by omega
  have hm2 : (m : Int) ≤ 9223372036854775807 := by omega
  have hk8 := le_eight (m := m) (by omega)
  obtain ⟨k, hk⟩ : ∃ k, (le m).length = k := ⟨_, rfl⟩
  rw [hk] at hk8
  have HL := Lib.hid hk
  clear hk hm
  go_enter Tryz.func106, Tryz.ntmps106
  go_wp2
  go_loopw [3, 4] (fun t3 t4 wr => ∃ (j x c : Nat) (A : Option Addr), j ≤ k ∧ (x : Int) ≤ 9223372036854775807 ∧ t3 = .int .i64 x ∧ t4 = .slice A j c ∧ j ≤ c ∧ Hid (x = m / 256 ^ j) ∧ Own wr w.heap.size 5 1 (.slice A j c) j (Lib.byteCells ((le m).take j)) ∧ Below w.heap.size w wr) (fun t3 _ _ => (intOf t3).toNat)
  case atStart => exact ⟨0, m, 0, none, Nat.zero_le _, hm2, rfl, rfl, Nat.le_refl _, Lib.hid (by rw [Nat.pow_zero, Nat.div_one]), Own.nil _ _ _ (Nat.le_refl _), brefl⟩
  case round =>
    obtain ⟨j, x, c, A, hj, hx2, rfl, rfl, hc, hx, ho, hb⟩ := hrel
    by_cases hjk : j < k
    · have hx0 : (0 : Int) < x := by
        have : ¬ x = 0 := fun e => by rw [hx.out, le_zero_iff, HL.out] at e; omega
        omega
      obtain ⟨v, hv⟩ : ∃ v : Nat, x % 256 = v := ⟨_, rfl⟩
      obtain ⟨y, hy⟩ : ∃ y : Nat, x / 256 = y := ⟨_, rfl⟩
      have hvi : (x : Int) % 256 = (v : Int) := by omega
      have hyi : (x : Int) / 256 = (y : Int) := by omega
      have hv256 : v < 256 := by omega
      have hyx : y < x := by omega
      have hnext := Lib.hid (show (le m).take (j + 1) = (le m).take j ++ [UInt8.ofNat v] from Rf.take_snoc (le_at HL.out hjk (by rw [← hx.out]; exact hv)))
      have hY := Lib.hid (show y = m / 256 ^ (j + 1) from by rw [← hy, hx.out, Nat.div_div_eq_div_mul, Nat.pow_succ])
      clear hv hy
      go_wp2_with (at_builtin; go_loud (refine wpList_app _ bytesT rfl (.tmp 16) (.tmp 20) rfl (ho.alloc _) rfl rfl (news := [.int .u8 (v : Int)]) rfl (rds_byte wr _ 5) (by simp [Value.oneCell']) ?_ ?_ ?_; (focus omega); (focus omega); intro A4 c4 w4 o4 n4 g4 _))
      have hb4 := (hb.al (.cells #[.int .u8 (v : Int)] 5)).gr g4 ho.row
      go_roundw
      case rel => exact ⟨j + 1, y, c4, A4, by omega, by omega, rfl, rfl, n4, hY, by
        rw [hnext.out, byteCells_app, byte_one hv256]; exact o4, hb4⟩
      case measure => simp [intOf]; omega
    · have hjk' : j = k := by omega
      subst hjk'
      have hx0 : x = 0 := by rw [hx.out, le_zero_iff, HL.out]; exact Nat.le_refl _
      subst hx0
      rw [List.take_of_length_le (by rw [HL.out]; exact Nat.le_refl _)] at ho
      have hrd := ho.reads
      clear ho
      obtain ⟨w1, hw1⟩ : ∃ w1 : World, w1 = wr := ⟨_, rfl⟩
      subst hw1
      go_wp2_with (at_builtin; go_loud (refine wpList_app _ bytesT rfl (.tmp 28) (.tmp 32) rfl ((Own.nil w1 5 1 (Nat.le_refl _)).alloc _) rfl rfl (news := [.int .u8 (128 + (j : Int))]) rfl (rds_byte w1 _ 5) (by simp [Value.oneCell']) ?_ ?_ ?_; (focus omega); (focus omega); intro A5 c5 w5 o5 n5 g5 _))
      simp only [Nat.zero_add, List.nil_append] at o5 n5
      have hb5 := (brefl.al (.cells #[.int .u8 (128 + (j : Int))] 5) : Below w1.heap.size w1 _).gr g5 (fun q e => by cases e)
      go_loopw [6, 7] (fun t6 t7 wr => ∃ (d c : Nat) (A : Option Addr) (z : Int), d ≤ j ∧ z = (j : Int) - 1 - d ∧ t7 = .int .i64 z ∧ t6 = .slice A (d + 1) c ∧ d + 1 ≤ c ∧ Own wr w1.heap.size 5 1 (.slice A (d + 1) c) (d + 1) (Lib.byteCells (UInt8.ofNat (128 + j) :: (le m).reverse.take d)) ∧ Below w1.heap.size w1 wr) (fun _ t7 _ => (intOf t7 + 1).toNat)
      case atStart => exact ⟨0, c5, A5, (j : Int) - 1, by omega, by omega, rfl, rfl, n5, by rw [List.take_zero]; rw [byte_one (by omega)]; exact o5, hb5⟩
      case round =>
        obtain ⟨d, c, A, z, hd, hz, rfl, rfl, hc, ho, hbr⟩ := hrel
        by_cases hdk : d < j
        · obtain ⟨i, rfl⟩ : ∃ i : Nat, z = i := ⟨z.toNat, by omega⟩
          have hi0 : (0 : Int) ≤ i := by omega
          have hij : d + i + 1 = j := by omega
          have hilt : (i : Int) < j := by omega
          have HIJ := Lib.hid hij
          clear hz hij
          obtain ⟨v, hv⟩ : ∃ v, m / 256 ^ i % 256 = v := ⟨_, rfl⟩
          have hv256 : v < 256 := by omega
          have hle := le_at HL.out (show i < j by have := HIJ.out; omega) hv
          obtain ⟨b, off, e9, hb0, hcell⟩ := hrd (by rw [Lib.byteCells_length, HL.out]; have := HIJ.out; omega)
          first | subst e9 | (injection e9 with e9; injection e9 with e8 e9; subst e8; subst e9)
          have hcv := hcell i (.int .u8 (v : Int)) (by unfold Lib.byteCells; rw [List.getElem?_map, hle]; simp only [Option.map_some, UInt8.toNat_ofNat']; rw [Nat.mod_eq_of_lt (by simpa using hv256)])
          have hcw := (hbr.cell (p := ⟨b, off + i, none⟩) hb0).trans hcv
          have hnext := Lib.hid (show (le m).reverse.take (d + 1) = (le m).reverse.take d ++ [UInt8.ofNat v] from Rf.take_snoc (rev_get HL.out HIJ.out hle))
          clear hv hle hcell hcv
          go_wp2_with (at_builtin; go_loud (refine wpList_app _ bytesT rfl (.tmp 54) (.tmp 56) rfl (ho.alloc _) rfl rfl (news := [.int .u8 ((v : Int))]) rfl (rds_byte wr _ 5) (by simp [Value.oneCell']) ?_ ?_ ?_; (focus omega); (focus omega); intro A4 c4 w4 o4 n4 g4 _))
          have hb4 := (hbr.al (.cells #[.int .u8 ((v : Int))] 5)).gr g4 ho.row
          go_roundw
          case rel => exact ⟨d + 1, c4, A4, (i : Int) - 1, by have := HIJ.out; omega, by have := HIJ.out; omega, rfl, rfl, n4, by
            rw [hnext.out, ← List.cons_append, byteCells_app, byte_one hv256]; exact o4, hb4⟩
          case measure => simp [intOf]
        · have hzn : z = -1 := by omega
          subst hzn
          have hfin := Lib.hid (show UInt8.ofNat (128 + j) :: (le m).reverse.take d = enc ((m : Int)) from by
            rw [enc_pos (by omega), Int.toNat_natCast, HL.out, List.take_of_length_le (by rw [List.length_reverse, HL.out]; omega)])
          have hlen : (enc ((m : Int))).length = d + 1 := by rw [← hfin.out]; simp [HL.out]; omega
          rw [hfin.out] at ho
          go_wp2
          go_ret
          exact ⟨A, c, by rw [hlen]; rfl, by rw [hlen]; exact hc, by rw [hlen]; exact own_base ho hb.size, hb.tr hbr⟩
set_option maxRecDepth 100000 in
set_option maxHeartbeats 1000000 in
theorem rint_neg (m : Nat) (w : World) (hm : m < 9223372036854775808) : Calls Tryz.prog 106 #[.int .i64 (-1 - (m : Int))] w (ABy (enc (-1 - (m : Int))) w) := by
  have hm1 : (-1 - (m : Int)) < 0 := by omega
  have hm1' : ¬ (0 : Int) ≤ -1 - (m : Int) := by omega
  have hm0 : (0 : Int) ≤ m := by omega
  have hm2 : (m : Int) ≤ 9223372036854775807 := by omega
  have hmm : (-1 : Int) - (-1 - (m : Int)) = m := by omega
  have hk8 := le_eight (m := m) (by omega)
  obtain ⟨k, hk⟩ : ∃ k, (le m).length = k := ⟨_, rfl⟩
  rw [hk] at hk8
  have HL := Lib.hid hk
  clear hk hm
  go_enter Tryz.func106, Tryz.ntmps106
  go_wp2
  go_loopw [3, 4] (fun t3 t4 wr => ∃ (j x c : Nat) (A : Option Addr), j ≤ k ∧ (x : Int) ≤ 9223372036854775807 ∧ t3 = .int .i64 x ∧ t4 = .slice A j c ∧ j ≤ c ∧ Hid (x = m / 256 ^ j) ∧ Own wr w.heap.size 5 1 (.slice A j c) j (Lib.byteCells ((le m).take j)) ∧ Below w.heap.size w wr) (fun t3 _ _ => (intOf t3).toNat)
  case atStart => exact ⟨0, m, 0, none, Nat.zero_le _, hm2, rfl, rfl, Nat.le_refl _, Lib.hid (by rw [Nat.pow_zero, Nat.div_one]), Own.nil _ _ _ (Nat.le_refl _), brefl⟩
  case round =>
    obtain ⟨j, x, c, A, hj, hx2, rfl, rfl, hc, hx, ho, hb⟩ := hrel
    by_cases hjk : j < k
    · have hx0 : (0 : Int) < x := by
        have : ¬ x = 0 := fun e => by rw [hx.out, le_zero_iff, HL.out] at e; omega
        omega
      obtain ⟨v, hv⟩ : ∃ v : Nat, x % 256 = v := ⟨_, rfl⟩
      obtain ⟨y, hy⟩ : ∃ y : Nat, x / 256 = y := ⟨_, rfl⟩
      have hvi : (x : Int) % 256 = (v : Int) := by omega
      have hyi : (x : Int) / 256 = (y : Int) := by omega
      have hv256 : v < 256 := by omega
      have hyx : y < x := by omega
      have hnext := Lib.hid (show (le m).take (j + 1) = (le m).take j ++ [UInt8.ofNat v] from Rf.take_snoc (le_at HL.out hjk (by rw [← hx.out]; exact hv)))
      have hY := Lib.hid (show y = m / 256 ^ (j + 1) from by rw [← hy, hx.out, Nat.div_div_eq_div_mul, Nat.pow_succ])
      clear hv hy
      go_wp2_with (at_builtin; go_loud (refine wpList_app _ bytesT rfl (.tmp 16) (.tmp 20) rfl (ho.alloc _) rfl rfl (news := [.int .u8 (v : Int)]) rfl (rds_byte wr _ 5) (by simp [Value.oneCell']) ?_ ?_ ?_; (focus omega); (focus omega); intro A4 c4 w4 o4 n4 g4 _))
      have hb4 := (hb.al (.cells #[.int .u8 (v : Int)] 5)).gr g4 ho.row
      go_roundw
      case rel => exact ⟨j + 1, y, c4, A4, by omega, by omega, rfl, rfl, n4, hY, by
        rw [hnext.out, byteCells_app, byte_one hv256]; exact o4, hb4⟩
      case measure => simp [intOf]; omega
    · have hjk' : j = k := by omega
      subst hjk'
      have hx0 : x = 0 := by rw [hx.out, le_zero_iff, HL.out]; exact Nat.le_refl _
      subst hx0
      rw [List.take_of_length_le (by rw [HL.out]; exact Nat.le_refl _)] at ho
      have hrd := ho.reads
      clear ho
      obtain ⟨w1, hw1⟩ : ∃ w1 : World, w1 = wr := ⟨_, rfl⟩
      subst hw1
      go_wp2_with (at_builtin; go_loud (refine wpList_app _ bytesT rfl (.tmp 34) (.tmp 38) rfl ((Own.nil w1 5 1 (Nat.le_refl _)).alloc _) rfl rfl (news := [.int .u8 (127 - (j : Int))]) rfl (rds_byte w1 _ 5) (by simp [Value.oneCell']) ?_ ?_ ?_; (focus omega); (focus omega); intro A5 c5 w5 o5 n5 g5 _))
      simp only [Nat.zero_add, List.nil_append] at o5 n5
      have hb5 := (brefl.al (.cells #[.int .u8 (127 - (j : Int))] 5) : Below w1.heap.size w1 _).gr g5 (fun q e => by cases e)
      go_loopw [6, 7] (fun t6 t7 wr => ∃ (d c : Nat) (A : Option Addr) (z : Int), d ≤ j ∧ z = (j : Int) - 1 - d ∧ t7 = .int .i64 z ∧ t6 = .slice A (d + 1) c ∧ d + 1 ≤ c ∧ Own wr w1.heap.size 5 1 (.slice A (d + 1) c) (d + 1) (Lib.byteCells (UInt8.ofNat (127 - j) :: ((le m).reverse.map flipB).take d)) ∧ Below w1.heap.size w1 wr) (fun _ t7 _ => (intOf t7 + 1).toNat)
      case atStart => exact ⟨0, c5, A5, (j : Int) - 1, by omega, by omega, rfl, rfl, n5, by rw [List.take_zero]; rw [byte_one (by omega), show (((127 - j : Nat) : Int)) = 127 - (j : Int) from by omega]; exact o5, hb5⟩
      case round =>
        obtain ⟨d, c, A, z, hd, hz, rfl, rfl, hc, ho, hbr⟩ := hrel
        by_cases hdk : d < j
        · obtain ⟨i, rfl⟩ : ∃ i : Nat, z = i := ⟨z.toNat, by omega⟩
          have hi0 : (0 : Int) ≤ i := by omega
          have hij : d + i + 1 = j := by omega
          have hilt : (i : Int) < j := by omega
          have HIJ := Lib.hid hij
          clear hz hij
          obtain ⟨v, hv⟩ : ∃ v, m / 256 ^ i % 256 = v := ⟨_, rfl⟩
          have hv256 : v < 256 := by omega
          have hle := le_at HL.out (show i < j by have := HIJ.out; omega) hv
          obtain ⟨b, off, e9, hb0, hcell⟩ := hrd (by rw [Lib.byteCells_length, HL.out]; have := HIJ.out; omega)
          first | subst e9 | (injection e9 with e9; injection e9 with e8 e9; subst e8; subst e9)
          have hcv := hcell i (.int .u8 (v : Int)) (by unfold Lib.byteCells; rw [List.getElem?_map, hle]; simp only [Option.map_some, UInt8.toNat_ofNat']; rw [Nat.mod_eq_of_lt (by simpa using hv256)])
          have hcw := (hbr.cell (p := ⟨b, off + i, none⟩) hb0).trans hcv
          have hnext := Lib.hid (show ((le m).reverse.map flipB).take (d + 1) = ((le m).reverse.map flipB).take d ++ [flipB (UInt8.ofNat v)] from Rf.take_snoc (by rw [List.getElem?_map, rev_get HL.out HIJ.out hle]; rfl))
          clear hv hle hcell hcv
          go_wp2_with (at_builtin; go_loud (refine wpList_app _ bytesT rfl (.tmp 54) (.tmp 56) rfl (ho.alloc _) rfl rfl (news := [.int .u8 (255 - (v : Int))]) rfl (rds_byte wr _ 5) (by simp [Value.oneCell']) ?_ ?_ ?_; (focus omega); (focus omega); intro A4 c4 w4 o4 n4 g4 _))
          have hb4 := (hbr.al (.cells #[.int .u8 (255 - (v : Int))] 5)).gr g4 ho.row
          go_roundw
          case rel => exact ⟨d + 1, c4, A4, (i : Int) - 1, by have := HIJ.out; omega, by have := HIJ.out; omega, rfl, rfl, n4, by
            rw [hnext.out, ← List.cons_append, byteCells_app, byte_flip hv256]; exact o4, hb4⟩
          case measure => simp [intOf]
        · have hzn : z = -1 := by omega
          subst hzn
          have hfin := Lib.hid (show UInt8.ofNat (127 - j) :: ((le m).reverse.map flipB).take d = enc (-1 - (m : Int)) from by
            rw [enc_neg (by omega), hmm, Int.toNat_natCast, HL.out, List.take_of_length_le (by rw [List.length_map, List.length_reverse, HL.out]; omega)])
          have hlen : (enc (-1 - (m : Int))).length = d + 1 := by rw [← hfin.out]; simp [HL.out]; omega
          rw [hfin.out] at ho
          go_wp2
          go_ret
          exact ⟨A, c, by rw [hlen]; rfl, by rw [hlen]; exact hc, by rw [hlen]; exact own_base ho hb.size, hb.tr hbr⟩
theorem rint_any (n : Int) (w : World) (h : i64n n) : Calls Tryz.prog 106 #[.int .i64 n] w (ABy (enc n) w) := by
  unfold i64n at h
  by_cases h0 : 0 ≤ n
  · obtain ⟨m, rfl⟩ : ∃ m : Nat, n = m := ⟨n.toNat, by omega⟩
    exact rint_pos m w (by omega)
  · obtain ⟨m, rfl⟩ : ∃ m : Nat, n = -1 - (m : Int) := ⟨(-1 - n).toNat, by omega⟩
    exact rint_neg m w (by omega)
end Go.Proofs.YtdfnfimajhagfaaGreatDoor
/- Walks of package wire and of its reference: Bytes, Ints, Strings. -/
namespace Rf
theorem enc_len {n : Int} (h : i64n n) : (enc n).length ≤ 9 := by
  unfold i64n at h
  by_cases h0 : 0 ≤ n
  · have := le_eight (m := n.toNat) (by omega)
    rw [enc_pos h0]; simp; omega
  · have := le_eight (m := (-1 - n).toNat) (by omega)
    rw [enc_neg h0]; simp; omega
theorem encW_len {s : S} (h : s.size ≤ 1000000) : (encW s).length ≤ 9 + s.size := by
  unfold encW
  have h1 := enc_len (n := (s.size : Int)) (by unfold i64n; omega)
  have h2 : (byts s).length = s.size := by simp [byts]
  rw [List.length_append]; omega
theorem flat_len {α : Type} {f : α → List UInt8} {B : Nat} : ∀ {l : List α}, (∀ a ∈ l, (f a).length ≤ B) → (l.flatMap f).length ≤ l.length * B
  | [], _ => by simp
  | a :: l, h => by
    have h1 := h a List.mem_cons_self
    have h2 := flat_len (l := l) fun b hb => h b (List.mem_cons_of_mem _ hb)
    rw [List.flatMap_cons, List.length_append, List.length_cons, Nat.succ_mul]; omega
theorem flat_snoc {α : Type} (f : α → List UInt8) {l : List α} {k : Nat} {a : α} (h : l[k]? = some a) : (l.take (k + 1)).flatMap f = (l.take k).flatMap f ++ f a := by rw [take_snoc h, List.flatMap_append]; simp
end Rf
namespace Go.Proofs.YtdfnfimajhagfaaGreatDoor
open Go.RowKit Go.Maps Rf
theorem u8info : (Tryz.prog.info? 5).map (fun i => (i.zero, i.size, i.bytes)) = some (some (.int .u8 0), 1, 1) := by kernel_rfl
/-- 'append(b, s...)', s a string -/
theorem wpList_appStr {ops : Array Oper} {rest : List Oper} {o : Oper} {a : Act} {Q : Exit → Act → World → Prop} {w : World} (hgd : o.guard = none) (sl x : Operand)
    (ho : o.op = .call { callee := .builtin .append, args := #[sl, x], argTypes := #[70, 9] })
    {base : Nat} {v : Value} {n : Nat} {l : List UInt8} (hown : Own w base 5 1 v n (Lib.byteCells l)) (hs : a.eval sl = v) (s : S) (hx : a.eval x = .string s) (hb : n + s.size ≤ 1000000000)
    (h : ∀ A' c' w', Own w' base 5 1 (.slice A' (n + s.size) c') (n + s.size) (Lib.byteCells (l ++ byts s)) → n + s.size ≤ c' → w.grownBy w' v.ownBlock → wpList Tryz.prog ops Q rest (a.put o.dst (.slice A' (n + s.size) c')) w') :
    wpList Tryz.prog ops Q (o :: rest) a w := by
  obtain ⟨i, hi, hz, hsize, hby⟩ := info_parts u8info
  refine Lib.wpList_append_own_string w hgd sl x 70 9 ho base 5 i Tryz.underlying70 Tryz.underlying9 hi hz hsize hby v n _ hs hown.1 s hx (by unfold maxLen; omega) (by omega) hown.2 fun v' w' h1 h2 _ => ?_
  obtain ⟨A', c', rfl, hn, _⟩ := form_own w' h1
  refine h A' c' w' ⟨?_, Nat.le_trans hown.2 h2.size⟩ hn h2
  have e : Lib.byteCells (l ++ byts s) = Lib.byteCells l ++ Lib.strCells s := by rw [byteCells_app]; rfl
  rw [e]; exact h1
set_option maxRecDepth 20000 in
set_option maxHeartbeats 1000000 in
theorem bytes_any (s : S) (w : World) (hs : s.size ≤ 1000000) : Calls Tryz.prog 141 #[.string s] w (ABy (encW s) w) := by
  have hk := enc_len (n := (s.size : Int)) (by unfold i64n; omega)
  have hl : (encW s).length = (enc (s.size : Int)).length + s.size := by unfold encW; rw [List.length_append]; simp [byts]
  go_enter Tryz.func141, Tryz.ntmps141
  go_wp2_with (first
    | (go_at_call 103; go_loud (refine (int_any (s.size : Int) _ (by unfold i64n; omega)).mono ?_; rintro e w2 ⟨A2, c2, rfl, hc2, ho2, hb2⟩))
    | (at_builtin; go_loud (refine wpList_appStr rfl (.tmp 5) (.tmp 6) rfl ho2 rfl s rfl ?_ ?_; (focus omega); intro A4 c4 w4 o4 n4 g4)))
  go_ret
  refine ⟨A4, c4, by rw [hl]; rfl, by rw [hl]; exact n4, by rw [hl]; exact o4, hb2.gr g4 ho2.row⟩
set_option maxRecDepth 20000 in
set_option maxHeartbeats 1000000 in
theorem rbytes_any (s : S) (w : World) (hs : s.size ≤ 1000000) : Calls Tryz.prog 188 #[.string s] w (ABy (encW s) w) := by
  have hk := enc_len (n := (s.size : Int)) (by unfold i64n; omega)
  have hbl : (byts s).length = s.size := by simp [byts]
  have hl : (encW s).length = (enc (s.size : Int)).length + s.size := by unfold encW; rw [List.length_append, hbl]
  go_enter Tryz.func188, Tryz.ntmps188
  go_wp2_with (first
    | (go_at_call 106; go_loud (refine (rint_any (s.size : Int) _ (by unfold i64n; omega)).mono ?_; rintro e w2 ⟨A2, c2, rfl, hc2, ho2, hb2⟩; obtain ⟨cap, w3, hcv, hcap, hrow, hb3⟩ := conv_in s w2; have hr3 : Rds w3 (some ⟨w2.heap.size, 0, none⟩) (Lib.byteCells (byts s)) := (fun _ => ⟨w2.heap.size, 0, rfl, hrow.lt, fun j u hu => by { unfold Lib.byteCells at hu; rw [List.getElem?_map] at hu; obtain ⟨x, hx, rfl⟩ := Option.map_eq_some_iff.1 hu; rw [Nat.zero_add]; exact hrow.cell j x hx }⟩); have ho3 := ho2.below hb3))
    | (at_builtin; go_loud (refine wpList_app _ bytesT rfl (.tmp 5) (.tmp 7) rfl ho3 rfl rfl (news := Lib.byteCells (byts s)) (by rw [Lib.byteCells_length, hbl, Nat.mul_one]) hr3 (byteCells_one _) ?_ ?_ ?_; (focus omega); (focus omega); intro A4 c4 w4 o4 n4 g4 _)))
  go_ret
  refine ⟨A4, c4, by rw [hl]; rfl, by rw [hl]; exact n4, by rw [hl]; unfold encW; rw [byteCells_app]; exact o4, (hb2.tr hb3).gr g4 ho3.row⟩
/-- a list's encoding so far -/
def encU {α : Type} (f : α → List UInt8) (l : List α) (k : Nat) : List UInt8 := enc (l.length : Int) ++ (l.take k).flatMap f
theorem encU_zero {α : Type} (f : α → List UInt8) (l : List α) : encU f l 0 = enc (l.length : Int) := by unfold encU; simp
theorem encU_all {α : Type} (f : α → List UInt8) {l : List α} {k : Nat} (h : l.length ≤ k) : encU f l k = encL f l := by unfold encU encL; rw [List.take_of_length_le h]
theorem encU_snoc {α : Type} (f : α → List UInt8) {l : List α} {k : Nat} {a : α} (h : l[k]? = some a) : encU f l (k + 1) = encU f l k ++ f a := by unfold encU; rw [flat_snoc f h, List.append_assoc]
theorem encU_len {α : Type} {f : α → List UInt8} {B : Nat} {l : List α} {k : Nat} (h : ∀ a ∈ l, (f a).length ≤ B) (hk : k ≤ l.length) (hl : l.length ≤ 1000000) : (encU f l k).length ≤ 9 + k * B := by
  unfold encU
  have h1 := enc_len (n := (l.length : Int)) (by unfold i64n; omega)
  have h2 := flat_len (l := l.take k) (fun a ha => h a (List.mem_of_mem_take ha))
  rw [List.length_take, Nat.min_eq_left hk] at h2
  rw [List.length_append]; omega
/-- out's part of a loop that appends encodings -/
def OutB (wr : World) (base : Nat) (v : Value) (l : List UInt8) : Prop := ∃ (c : Nat) (A : Option Addr), v = .slice A l.length c ∧ l.length ≤ c ∧ Own wr base 5 1 (.slice A l.length c) l.length (Lib.byteCells l)
set_option maxRecDepth 20000 in
set_option maxHeartbeats 2000000 in
theorem wints_any (A : Option Addr) (n c : Nat) (l : List Int) (w : World) (hn : n ≤ 1000) (hl : Ints w A n l) : Calls Tryz.prog 104 #[.slice A n c] w (ABy (encL enc l) w) := by
  have hln := hl.1
  go_enter Tryz.func104, Tryz.ntmps104
  go_wp2_with (go_at_call 103; go_loud (refine (int_any (n : Int) _ (by unfold i64n; omega)).mono ?_; rintro e w1 ⟨A2, c2, rfl, hc2, ho2, hb2⟩))
  go_loopw [3, 11] (fun t3 ti wr => ∃ k : Nat, k ≤ n ∧ ti = .int .i64 k ∧ OutB wr w.heap.size t3 (encU enc l k) ∧ Below w.heap.size w wr) (fun _ ti _ => n - (intOf ti).toNat)
  case atStart => exact ⟨0, Nat.zero_le _, rfl, ⟨c2, A2, by rw [encU_zero, hln], by rw [encU_zero, hln]; exact hc2, by rw [encU_zero, hln]; exact ho2⟩, hb2⟩
  case round =>
    obtain ⟨k, hk, rfl, ⟨c, A9, rfl, hc, ho⟩, hb⟩ := hrel
    have hel := encU_len (f := enc) (B := 9) (l := l) (k := k) (fun a ha => enc_len (hl.2.1 a ha)) (by omega) (by omega)
    by_cases hlt : k < n
    · have hlt' : (k : Int) < n := by omega
      obtain ⟨b, off, x, rfl, hx, hok, hb0, hcx⟩ := (hl.below hb).at_ hlt
      have hxl := enc_len (n := x) hok
      have HN := Lib.hid (encU_snoc enc hx)
      have hnl : (encU enc l (k + 1)).length = (encU enc l k).length + (enc x).length := by rw [HN.out, List.length_append]
      clear hx
      obtain ⟨q, hq⟩ : ∃ q, (encU enc l k).length = q := ⟨_, rfl⟩
      rw [hq] at ho hc hel hnl ⊢
      go_wp2_with (first
        | (go_at_call 103; go_loud (refine (int_any x _ hok).mono ?_; rintro e w2 ⟨A3, c3, rfl, hc3, ho3, hb3⟩; have hoa := ho.below hb3))
        | (at_builtin; go_loud (refine wpList_app _ bytesT rfl (.tmp 15) (.tmp 17) rfl hoa rfl rfl (news := Lib.byteCells (enc x)) (by rw [Lib.byteCells_length, Nat.mul_one]) ho3.reads (byteCells_one _) ?_ ?_ ?_; (focus omega); (focus omega); intro A4 c4 w4 o4 n4 g4 _)))
      go_roundw
      case rel => exact ⟨k + 1, by omega, by go_num, ⟨c4, A4, by rw [hnl], by rw [hnl]; exact n4, by rw [hnl, HN.out, byteCells_app]; exact o4⟩, (hb.tr hb3).gr g4 ho.row⟩
      case measure => simp [intOf]; omega
    · have hlt' : ¬ (k : Int) < n := by omega
      have HE := Lib.hid (encU_all enc (l := l) (k := k) (by omega))
      go_wp2
      go_ret
      exact ⟨A9, c, by rw [← HE.out]; rfl, by rw [← HE.out]; exact hc, by rw [← HE.out]; exact ho, hb⟩
set_option maxRecDepth 20000 in
set_option maxHeartbeats 2000000 in
theorem rints_any (A : Option Addr) (n c : Nat) (l : List Int) (w : World) (hn : n ≤ 1000) (hl : Ints w A n l) : Calls Tryz.prog 142 #[.slice A n c] w (ABy (encL enc l) w) := by
  have hln := hl.1
  go_enter Tryz.func142, Tryz.ntmps142
  go_wp2_with (go_at_call 106; go_loud (refine (rint_any (n : Int) _ (by unfold i64n; omega)).mono ?_; rintro e w1 ⟨A2, c2, rfl, hc2, ho2, hb2⟩))
  go_loopw [3, 4] (fun t3 ti wr => ∃ k : Nat, k ≤ n ∧ ti = .int .i64 k ∧ OutB wr w.heap.size t3 (encU enc l k) ∧ Below w.heap.size w wr) (fun _ ti _ => n - (intOf ti).toNat)
  case atStart => exact ⟨0, Nat.zero_le _, rfl, ⟨c2, A2, by rw [encU_zero, hln], by rw [encU_zero, hln]; exact hc2, by rw [encU_zero, hln]; exact ho2⟩, hb2⟩
  case round =>
    obtain ⟨k, hk, rfl, ⟨c, A9, rfl, hc, ho⟩, hb⟩ := hrel
    have hel := encU_len (f := enc) (B := 9) (l := l) (k := k) (fun a ha => enc_len (hl.2.1 a ha)) (by omega) (by omega)
    by_cases hlt : k < n
    · have hlt' : (k : Int) < n := by omega
      obtain ⟨b, off, x, rfl, hx, hok, hb0, hcx⟩ := (hl.below hb).at_ hlt
      have hxl := enc_len (n := x) hok
      have HN := Lib.hid (encU_snoc enc hx)
      have hnl : (encU enc l (k + 1)).length = (encU enc l k).length + (enc x).length := by rw [HN.out, List.length_append]
      clear hx
      obtain ⟨q, hq⟩ : ∃ q, (encU enc l k).length = q := ⟨_, rfl⟩
      rw [hq] at ho hc hel hnl ⊢
      go_wp2_with (first
        | (go_at_call 106; go_loud (refine (rint_any x _ hok).mono ?_; rintro e w2 ⟨A3, c3, rfl, hc3, ho3, hb3⟩; have hoa := ho.below hb3))
        | (at_builtin; go_loud (refine wpList_app _ bytesT rfl (.tmp 14) (.tmp 19) rfl hoa rfl rfl (news := Lib.byteCells (enc x)) (by rw [Lib.byteCells_length, Nat.mul_one]) ho3.reads (byteCells_one _) ?_ ?_ ?_; (focus omega); (focus omega); intro A4 c4 w4 o4 n4 g4 _)))
      go_roundw
      case rel => exact ⟨k + 1, by omega, by go_num, ⟨c4, A4, by rw [hnl], by rw [hnl]; exact n4, by rw [hnl, HN.out, byteCells_app]; exact o4⟩, (hb.tr hb3).gr g4 ho.row⟩
      case measure => simp [intOf]; omega
    · have hlt' : ¬ (k : Int) < n := by omega
      have HE := Lib.hid (encU_all enc (l := l) (k := k) (by omega))
      go_wp2
      go_ret
      exact ⟨A9, c, by rw [← HE.out]; rfl, by rw [← HE.out]; exact hc, by rw [← HE.out]; exact ho, hb⟩
set_option maxRecDepth 20000 in
set_option maxHeartbeats 2000000 in
theorem wstrs_any (A : Option Addr) (n c : Nat) (l : List S) (w : World) (hn : n ≤ 1000) (hl : Strs w A n l) (hsz : ∀ x ∈ l, x.size ≤ 1000) : Calls Tryz.prog 105 #[.slice A n c] w (ABy (encL encW l) w) := by
  have hln := hl.1
  have hbd9 : ∀ x ∈ l, (encW x).length ≤ 1009 := fun x hx => by have := encW_len (s := x) (by have := hsz x hx; omega); have := hsz x hx; omega
  go_enter Tryz.func105, Tryz.ntmps105
  go_wp2_with (go_at_call 103; go_loud (refine (int_any (n : Int) _ (by unfold i64n; omega)).mono ?_; rintro e w1 ⟨A2, c2, rfl, hc2, ho2, hb2⟩))
  go_loopw [3, 11] (fun t3 ti wr => ∃ k : Nat, k ≤ n ∧ ti = .int .i64 k ∧ OutB wr w.heap.size t3 (encU encW l k) ∧ Below w.heap.size w wr) (fun _ ti _ => n - (intOf ti).toNat)
  case atStart => exact ⟨0, Nat.zero_le _, rfl, ⟨c2, A2, by rw [encU_zero, hln], by rw [encU_zero, hln]; exact hc2, by rw [encU_zero, hln]; exact ho2⟩, hb2⟩
  case round =>
    obtain ⟨k, hk, rfl, ⟨c, A9, rfl, hc, ho⟩, hb⟩ := hrel
    have hel := encU_len (f := encW) (B := 1009) (l := l) (k := k) hbd9 (by omega) (by omega)
    by_cases hlt : k < n
    · have hlt' : (k : Int) < n := by omega
      obtain ⟨b, off, x, rfl, hx, hok, hb0, hcx⟩ := (hl.below hb).at_ hlt
      have hxl := hbd9 x (List.mem_of_getElem? hx)
      have hxs := hsz x (List.mem_of_getElem? hx)
      have HN := Lib.hid (encU_snoc encW hx)
      have hnl : (encU encW l (k + 1)).length = (encU encW l k).length + (encW x).length := by rw [HN.out, List.length_append]
      clear hx
      obtain ⟨q, hq⟩ : ∃ q, (encU encW l k).length = q := ⟨_, rfl⟩
      rw [hq] at ho hc hel hnl ⊢
      go_wp2_with (first
        | (go_at_call 141; go_loud (refine (bytes_any x _ (by omega)).mono ?_; rintro e w2 ⟨A3, c3, rfl, hc3, ho3, hb3⟩; have hoa := ho.below hb3))
        | (at_builtin; go_loud (refine wpList_app _ bytesT rfl (.tmp 15) (.tmp 17) rfl hoa rfl rfl (news := Lib.byteCells (encW x)) (by rw [Lib.byteCells_length, Nat.mul_one]) ho3.reads (byteCells_one _) ?_ ?_ ?_; (focus omega); (focus omega); intro A4 c4 w4 o4 n4 g4 _)))
      go_roundw
      case rel => exact ⟨k + 1, by omega, by go_num, ⟨c4, A4, by rw [hnl], by rw [hnl]; exact n4, by rw [hnl, HN.out, byteCells_app]; exact o4⟩, (hb.tr hb3).gr g4 ho.row⟩
      case measure => simp [intOf]; omega
    · have hlt' : ¬ (k : Int) < n := by omega
      have HE := Lib.hid (encU_all encW (l := l) (k := k) (by omega))
      go_wp2
      go_ret
      exact ⟨A9, c, by rw [← HE.out]; rfl, by rw [← HE.out]; exact hc, by rw [← HE.out]; exact ho, hb⟩
set_option maxRecDepth 20000 in
set_option maxHeartbeats 2000000 in
theorem rstrs_any (A : Option Addr) (n c : Nat) (l : List S) (w : World) (hn : n ≤ 1000) (hl : Strs w A n l) (hsz : ∀ x ∈ l, x.size ≤ 1000) : Calls Tryz.prog 143 #[.slice A n c] w (ABy (encL encW l) w) := by
  have hln := hl.1
  have hbd9 : ∀ x ∈ l, (encW x).length ≤ 1009 := fun x hx => by have := encW_len (s := x) (by have := hsz x hx; omega); have := hsz x hx; omega
  go_enter Tryz.func143, Tryz.ntmps143
  go_wp2_with (go_at_call 106; go_loud (refine (rint_any (n : Int) _ (by unfold i64n; omega)).mono ?_; rintro e w1 ⟨A2, c2, rfl, hc2, ho2, hb2⟩))
  go_loopw [3, 4] (fun t3 ti wr => ∃ k : Nat, k ≤ n ∧ ti = .int .i64 k ∧ OutB wr w.heap.size t3 (encU encW l k) ∧ Below w.heap.size w wr) (fun _ ti _ => n - (intOf ti).toNat)
  case atStart => exact ⟨0, Nat.zero_le _, rfl, ⟨c2, A2, by rw [encU_zero, hln], by rw [encU_zero, hln]; exact hc2, by rw [encU_zero, hln]; exact ho2⟩, hb2⟩
  case round =>
    obtain ⟨k, hk, rfl, ⟨c, A9, rfl, hc, ho⟩, hb⟩ := hrel
    have hel := encU_len (f := encW) (B := 1009) (l := l) (k := k) hbd9 (by omega) (by omega)
    by_cases hlt : k < n
    · have hlt' : (k : Int) < n := by omega
      obtain ⟨b, off, x, rfl, hx, hok, hb0, hcx⟩ := (hl.below hb).at_ hlt
      have hxl := hbd9 x (List.mem_of_getElem? hx)
      have hxs := hsz x (List.mem_of_getElem? hx)
      have HN := Lib.hid (encU_snoc encW hx)
      have hnl : (encU encW l (k + 1)).length = (encU encW l k).length + (encW x).length := by rw [HN.out, List.length_append]
      clear hx
      obtain ⟨q, hq⟩ : ∃ q, (encU encW l k).length = q := ⟨_, rfl⟩
      rw [hq] at ho hc hel hnl ⊢
      go_wp2_with (first
        | (go_at_call 188; go_loud (refine (rbytes_any x _ (by omega)).mono ?_; rintro e w2 ⟨A3, c3, rfl, hc3, ho3, hb3⟩; have hoa := ho.below hb3))
        | (at_builtin; go_loud (refine wpList_app _ bytesT rfl (.tmp 14) (.tmp 19) rfl hoa rfl rfl (news := Lib.byteCells (encW x)) (by rw [Lib.byteCells_length, Nat.mul_one]) ho3.reads (byteCells_one _) ?_ ?_ ?_; (focus omega); (focus omega); intro A4 c4 w4 o4 n4 g4 _)))
      go_roundw
      case rel => exact ⟨k + 1, by omega, by go_num, ⟨c4, A4, by rw [hnl], by rw [hnl]; exact n4, by rw [hnl, HN.out, byteCells_app]; exact o4⟩, (hb.tr hb3).gr g4 ho.row⟩
      case measure => simp [intOf]; omega
    · have hlt' : ¬ (k : Int) < n := by omega
      have HE := Lib.hid (encU_all encW (l := l) (k := k) (by omega))
      go_wp2
      go_ret
      exact ⟨A9, c, by rw [← HE.out]; rfl, by rw [← HE.out]; exact hc, by rw [← HE.out]; exact ho, hb⟩
end Go.Proofs.YtdfnfimajhagfaaGreatDoor
