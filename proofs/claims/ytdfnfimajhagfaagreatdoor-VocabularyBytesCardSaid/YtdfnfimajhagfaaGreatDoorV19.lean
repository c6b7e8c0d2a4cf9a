/- Words for memory: a row of the call's own into which something is stored, that is cut, or whose end is cleared. -/
import Derived.Test.YtdfnfimajhagfaaGreatDoorMem
import Derived.Laws.IdiomCopy
import Derived.Laws.OwnMore
import Derived.Test.YtdfnfimajhagfaaGreatDoorV3
import Derived.Test.YtdfnfimajhagfaaGreatDoorP8
import Derived.Test.YtdfnfimajhagfaaGreatDoorV5
import Derived.Test.YtdfnfimajhagfaaGreatDoorW2
import Derived.Test.YtdfnfimajhagfaaGreatDoorV7
import Derived.Test.YtdfnfimajhagfaaGreatDoorGen
import Derived.Test.YtdfnfimajhagfaaGreatDoorW9
import Derived.Test.YtdfnfimajhagfaaGreatDoorV10
namespace Go.Proofs.YtdfnfimajhagfaaGreatDoor
open Go.RowKit Go.Maps Rf
section
variable {w : World} {base : Nat} {e : TypeId} {size : Nat} {A : Option Addr} {n c : Nat} {xs : List Value}
theorem grownBy_set (w : World) (b i : Nat) (v : Value) : w.grownBy (w.setCell ⟨b, i, none⟩ v) (some b) :=
  ⟨rfl, rfl, rfl, by simp [World.setCell], fun k _ hk => Below.heap_setCell _ _ _ _ (fun e => hk (by simp [e]))⟩
/-- one cell stored -/
theorem Own.set (h : Own w base e size (.slice A n c) n xs) {b j : Nat} (hA : A = some ⟨b, 0, none⟩) (v : Value) :
    Own (w.setCell ⟨b, j, none⟩ v) base e size (.slice A n c) n (xs.set j v) := by
  obtain ⟨⟨h1, h2⟩, h3⟩ := h
  rcases h2 with ⟨hv, _⟩ | ⟨g, cap, cur, hv, hb, hh, hn, hm, hcs, ht⟩
  · injection hv with hv; rw [hA] at hv; cases hv
  · injection hv with hv _ hc
    rw [hA] at hv
    injection hv with hv
    injection hv with hv
    subst hv; subst hc
    refine ⟨⟨by rw [List.length_set]; exact h1, .inr ⟨b, c, cur.setIfInBounds j v, by rw [hA], hb, heap_setCell_same w b j cur e v hh, hn, hm, by simpa using hcs, ?_⟩⟩, by simpa [World.setCell] using h3⟩
    rw [Array.toList_setIfInBounds, ← ht, List.take_set]
theorem Own.addr (h : Own w base e size (.slice A n c) n xs) (hn : 0 < n) : ∃ b, A = some ⟨b, 0, none⟩ ∧ base ≤ b ∧ b < w.heap.size := by
  rcases h.1.2 with ⟨_, h0⟩ | ⟨g, cap, cur, hv, hb, hh, _⟩
  · omega
  · injection hv with hv
    exact ⟨g, hv, hb, (Array.getElem?_eq_some_iff.1 hh).1⟩
theorem Own.cellAt (h : Own w base e size (.slice A n c) n xs) {b j : Nat} (hA : A = some ⟨b, 0, none⟩) {v : Value} (hv : xs[j]? = some v) : w.cell? ⟨b, j, none⟩ = some v := by
  obtain ⟨b2, off, e2, _, h2⟩ := h.reads (by have := (List.getElem?_eq_some_iff.1 hv).1; omega)
  rcases h.1.2 with ⟨hx, _⟩ | ⟨g, cap, cur, hx, _⟩
  · injection hx with hx; rw [hA] at hx; cases hx
  · injection hx with hx
    rw [e2] at hx
    injection hx with hx
    injection hx with hx1 hx2
    subst hx2
    rw [e2] at hA
    injection hA with hA
    injection hA with hA
    subst hA
    simpa using h2 j v hv
theorem Own.frozenAt (h : Own w base e size (.slice A n c) n xs) {b : Nat} (hA : A = some ⟨b, 0, none⟩) (j : Nat) : w.frozen? ⟨b, j, none⟩ = false := by
  rcases h.1.2 with ⟨hx, _⟩ | ⟨g, cap, cur, hx, _, hh, _⟩
  · injection hx with hx; rw [hA] at hx; cases hx
  · injection hx with hx
    rw [hA] at hx
    injection hx with hx
    injection hx with hx
    subst hx
    simp [World.frozen?, hh]
/-- the first k elements -/
theorem Own.takeN (h : Own w base e size (.slice A n c) n xs) {k : Nat} (hk : k ≤ n) : Own w base e size (.slice A k c) k (xs.take (k * size)) := by
  obtain ⟨⟨h1, h2⟩, h3⟩ := h
  have hks : k * size ≤ n * size := Nat.mul_le_mul_right _ hk
  refine ⟨⟨by rw [List.length_take, h1]; omega, ?_⟩, h3⟩
  rcases h2 with ⟨hv, h0⟩ | ⟨g, cap, cur, hv, hb, hh, hn, hm, hcs, ht⟩
  · injection hv with hA _ hc
    subst hA; subst hc
    exact .inl ⟨by congr 1; omega, by omega⟩
  · injection hv with hA _ hc
    subst hA; subst hc
    exact .inr ⟨g, c, cur, rfl, hb, hh, by omega, hm, hcs, by rw [← ht, List.take_take]; congr 1; omega⟩
/-- a new block, as a row of the call's own -/
theorem Own.made (w : World) (xs : List Value) (t : TypeId) {base n size : Nat} (h : base ≤ w.heap.size) (hn : xs.length = n * size) (hm : n ≤ maxLen) : Own (w.alloc (.cells xs.toArray t)) base t size (.slice (some ⟨w.heap.size, 0, none⟩) n n) n xs :=
  ⟨⟨hn, .inr ⟨w.heap.size, n, xs.toArray, rfl, h, heap_alloc_new w _, Nat.le_refl _, hm, by simpa using hn, by simp [← hn]⟩⟩, Nat.le_trans h (by simp)⟩
end
theorem below_cells {B b : Nat} {a : World} (hb : B ≤ b) : ∀ (vs : List Value) (o : Nat) (w : World), Below B a w → Below B a (w.setCells b o vs)
  | [], _, _, h => h
  | v :: r, o, _, h => below_cells hb r (o + 1) _ (h.setCell hb v)
end Go.Proofs.YtdfnfimajhagfaaGreatDoor
/- Walks of the reference of layer 24: Words, IsName. -/
namespace Go.Proofs.YtdfnfimajhagfaaGreatDoor
open Go.RowKit Go.Maps Rf
/-- the words so far -/
def Wd (B : List UInt8) (f i : Nat) (dn : List (List UInt8)) : Prop :=
  (i ≤ B.length ∧ f ≤ i ∧ dn ++ wordsB 32 (B.drop f) = wordsB 32 B ∧ (32 : UInt8) ∉ (B.drop f).take (i - f)) ∨ (i = B.length + 1 ∧ dn = wordsB 32 B)
theorem Wd.start (B : List UInt8) : Wd B 0 0 [] := .inl ⟨Nat.zero_le _, Nat.le_refl _, rfl, by simp⟩
theorem Wd.fin {B : List UInt8} {f i : Nat} {dn : List (List UInt8)} (h : Wd B f i dn) (hi : i = B.length) : Wd B (i + 1) (i + 1) (dn ++ [(B.drop f).take (i - f)]) := by
  rcases h with ⟨_, hf, h1, h2⟩ | ⟨h1, _⟩
  · refine .inr ⟨by omega, ?_⟩
    have ht : (B.drop f).take (i - f) = B.drop f := List.take_of_length_le (by rw [List.length_drop]; omega)
    rw [ht] at h2 ⊢
    rw [← h1, wordsB_none h2]
  · omega
theorem Wd.cut {B : List UInt8} {f i : Nat} {dn : List (List UInt8)} (h : Wd B f i dn) (hi : i < B.length) (hb : B[i] = 32) : Wd B (i + 1) (i + 1) (dn ++ [(B.drop f).take (i - f)]) := by
  rcases h with ⟨_, hf, h1, h2⟩ | ⟨h1, _⟩
  · refine .inl ⟨hi, Nat.le_refl _, ?_, by simp⟩
    have he : B.drop f = (B.drop f).take (i - f) ++ 32 :: B.drop (i + 1) := by
      rw [← hb, ← List.drop_eq_getElem_cons hi]
      have : B.drop i = (B.drop f).drop (i - f) := by rw [List.drop_drop]; congr 1; omega
      rw [this, List.take_append_drop]
    have hw := wordsB_cut (c := 32) (r := B.drop (i + 1)) h2
    rw [← he] at hw
    rw [← h1, hw, List.append_assoc]; rfl
  · omega
theorem Wd.go {B : List UInt8} {f i : Nat} {dn : List (List UInt8)} (h : Wd B f i dn) (hi : i < B.length) (hb : ¬ B[i] = 32) : Wd B f (i + 1) dn := by
  rcases h with ⟨_, hf, h1, h2⟩ | ⟨h1, _⟩
  · refine .inl ⟨hi, by omega, h1, ?_⟩
    have : (B.drop f).take (i + 1 - f) = (B.drop f).take (i - f) ++ [B[i]] := by
      rw [show i + 1 - f = i - f + 1 from by omega, List.take_add_one, List.getElem?_drop, show f + (i - f) = i from by omega, List.getElem?_eq_getElem hi]; rfl
    rw [this]
    intro hm
    rcases List.mem_append.1 hm with hm | hm
    · exact h2 hm
    · simp at hm; exact hb hm.symm
  · omega
theorem Wd.done {B : List UInt8} {f i : Nat} {dn : List (List UInt8)} (h : Wd B f i dn) (hi : ¬ i ≤ B.length) : dn = wordsB 32 B := by
  rcases h with ⟨h, _⟩ | ⟨_, h⟩
  · exact absurd h hi
  · exact h
theorem Wd.from_le {B : List UInt8} {f i : Nat} {dn : List (List UInt8)} (h : Wd B f i dn) (hi : i ≤ B.length) : f ≤ i := by
  rcases h with ⟨_, h, _⟩ | ⟨h, _⟩
  · exact h
  · omega
def wordVals (dn : List (List UInt8)) : List Value := dn.map fun x => .string (ofB x)
theorem ext_ofB (s : S) (f i : Nat) : s.extract f i = ofB (((byts s).drop f).take (i - f)) := by
  unfold ofB byts
  apply ByteArray.ext
  rw [ByteArray.data_extract]
  apply Array.ext'
  simp [Array.toList_extract, List.extract_eq_take_drop]
theorem wordVals_snoc {w : World} {base : Nat} {A : Option Addr} {n c : Nat} {dn : List (List UInt8)} {s : S} {f i : Nat} (o : Own w base 9 1 (.slice A n c) n (wordVals dn ++ [.string (s.extract f i)])) :
    Own w base 9 1 (.slice A n c) n (wordVals (dn ++ [((byts s).drop f).take (i - f)])) := by
  unfold wordVals
  rw [List.map_append]
  rw [ext_ofB] at o
  exact o
theorem byts_at {s : S} {i : Nat} (_h : i < s.size) (h' : i < (byts s).length) : (byts s)[i] = s[i] := by simp [byts]; rfl
theorem u8_32 {b : UInt8} (h : ((b.toNat : Int) == 32) = true) : b = 32 := by
  have h1 : (b.toNat : Int) = 32 := by simpa using h
  have : b.toNat = 32 := by omega
  exact UInt8.toNat_inj.1 this
theorem u8_n32 {b : UInt8} (h : ((b.toNat : Int) == 32) = false) : ¬ b = 32 := fun e => by subst e; simp at h
theorem word_size (B : List UInt8) : ∀ x ∈ (wordsB 32 B).map ofB, x.size ≤ B.length := by
  have : ∀ B : List UInt8, ∀ x ∈ wordsB 32 B, x.length ≤ B.length := by
    intro B
    induction B with
    | nil => intro x hx; simp [wordsB] at hx; subst hx; simp
    | cons b l ih =>
      intro x hx
      rw [wordsB] at hx
      split at hx
      · rcases List.mem_cons.1 hx with rfl | hx
        · simp
        · have := ih x hx; simp; omega
      · split at hx
        · simp at hx; subst hx; simp
        · next w ws he =>
          rcases List.mem_cons.1 hx with rfl | hx
          · have := ih w (by rw [he]; exact List.mem_cons_self); simp; omega
          · have := ih x (by rw [he]; exact List.mem_cons_of_mem _ hx); simp; omega
  intro x hx
  obtain ⟨y, hy, rfl⟩ := List.mem_map.1 hx
  have := this B y hy
  simpa [ofB, ByteArray.size] using this
set_option maxRecDepth 20000 in
set_option maxHeartbeats 1000000 in
theorem words_any (s : S) (w : World) (hs : s.size ≤ 1000000) :
    Calls Tryz.prog 47 #[.string s] w fun e w' => ∃ A k c, e = .returned (.slice A k c) ∧ k ≤ c ∧ k ≤ s.size + 1 ∧ Strs w' A k ((wordsB 32 (byts s)).map ofB) ∧ Below w.heap.size w w' := by
  have hlen : (byts s).length = s.size := by simp [byts]
  have hmx : (1000000 : Nat) ≤ maxLen := by decide
  go_enter Tryz.func47, Tryz.ntmps47
  go_wp2
  go_loopw [3, 4, 5] (fun o ff ii wr => ∃ (f i m1 c1 : Nat) (A1 : Option Addr) (dn : List (List UInt8)), i ≤ s.size + 1 ∧ ii = .int .i64 i ∧ ff = .int .i64 f ∧ o = .slice A1 m1 c1 ∧ m1 ≤ c1 ∧ m1 ≤ i ∧ Own wr w.heap.size 9 1 (.slice A1 m1 c1) m1 (wordVals dn) ∧ Hid (Wd (byts s) f i dn) ∧ Below w.heap.size w wr) (fun _ _ ii _ => s.size + 1 - (intOf ii).toNat)
  case atStart => exact ⟨0, 0, 0, 0, none, [], by omega, rfl, rfl, rfl, by omega, by omega, Own.nil _ _ _ (Nat.le_refl _), Wd.start _, brefl⟩
  case round =>
    obtain ⟨f, i, m1, c1, A1, dn, hi, rfl, rfl, rfl, hc1, hm1, ho, hW, hbl⟩ := hrel
    by_cases hle : i ≤ s.size
    · have hle' : (i : Int) ≤ s.size := by omega
      have hf := hW.out.from_le (by rw [hlen]; exact hle)
      have hf' : (f : Int) ≤ i := by omega
      by_cases hie : i = s.size
      · have hW2 := Lib.hid (hW.out.fin (by rw [hlen]; exact hie))
        have hie' : ((i : Int) == (s.size : Int)) = true := by rw [hie]; simp
        clear hie
        go_wp2_with (at_builtin; go_must (refine wpList_app _ stringsT rfl (.tmp 22) (.tmp 27) rfl (ho.alloc _) rfl rfl (news := [.string (s.extract f i)]) rfl (Rds.one wr (.string (s.extract f i)) 9) (by simp [Value.oneCell']) ?_ ?_ ?_; (focus omega); (focus omega); intro A4 c4 w4 o4 n4 g4 _))
        exact ⟨⟨i + 1, i + 1, m1 + 1, c4, A4, _, by omega, by go_num, by go_num, rfl, n4, by omega, wordVals_snoc o4, hW2, (hbl.al (.cells #[.string (s.extract f i)] 9)).gr g4 ho.row⟩, by simp [intOf]; omega⟩
      · have hlt : i < s.size := by omega
        have hie' : ((i : Int) == (s.size : Int)) = false := by rw [beq_eq_false_iff_ne]; omega
        have hlt' : (i : Int) < s.size := by omega
        cases h32 : ((s[i].toNat : Int) == 32)
        · have hW2 := Lib.hid (hW.out.go (by rw [hlen]; exact hlt) (by rw [byts_at hlt]; exact u8_n32 h32))
          go_wp2
          go_roundw
          case rel => exact ⟨f, i + 1, m1, c1, A1, dn, by omega, by go_num, rfl, rfl, hc1, by omega, ho, hW2, hbl⟩
          case measure => simp [intOf]; omega
        · have hW2 := Lib.hid (hW.out.cut (by rw [hlen]; exact hlt) (by rw [byts_at hlt]; exact u8_32 h32))
          go_wp2_with (at_builtin; go_must (refine wpList_app _ stringsT rfl (.tmp 22) (.tmp 27) rfl (ho.alloc _) rfl rfl (news := [.string (s.extract f i)]) rfl (Rds.one wr (.string (s.extract f i)) 9) (by simp [Value.oneCell']) ?_ ?_ ?_; (focus omega); (focus omega); intro A4 c4 w4 o4 n4 g4 _))
          exact ⟨⟨i + 1, i + 1, m1 + 1, c4, A4, _, by omega, by go_num, by go_num, rfl, n4, by omega, wordVals_snoc o4, hW2, (hbl.al (.cells #[.string (s.extract f i)] 9)).gr g4 ho.row⟩, by simp [intOf]; omega⟩
    · have hle' : ¬ (i : Int) ≤ s.size := by omega
      have hdn := hW.out.done (by rw [hlen]; exact hle)
      subst hdn
      go_wp2
      go_ret
      refine ⟨A1, m1, c1, rfl, hc1, by omega, Strs.own (by unfold wordVals at ho; rw [List.map_map]; exact ho) rfl (fun x hx => ?_), hbl⟩
      have := word_size _ x hx
      omega
/-- a letter -/
def az (b : UInt8) : Bool := decide (97 ≤ b.toNat ∧ b.toNat ≤ 122)
def goodW (w : List UInt8) : Bool := !w.isEmpty && w.all az
theorem isName_eq (s : S) : isName s = (decide (s.size ≤ 24) && decide ((wordsB 32 (byts s)).length ≤ 4) && (wordsB 32 (byts s)).all goodW) := rfl
theorem isName_bad {s : S} {i : Nat} {x : List UInt8} (h : (wordsB 32 (byts s))[i]? = some x) (hb : goodW x = false) : isName s = false := by
  rw [isName_eq, show (wordsB 32 (byts s)).all goodW = false from ?_, Bool.and_false]
  rw [List.all_eq_false]
  exact ⟨x, List.mem_of_getElem? h, by rw [hb]; simp⟩
theorem goodW_bad {x : List UInt8} {j : Nat} (hj : j < x.length) (hb : az x[j] = false) : goodW x = false := by
  unfold goodW
  rw [show x.all az = false from ?_, Bool.and_false]
  rw [List.all_eq_false]
  exact ⟨x[j], List.getElem_mem hj, by rw [hb]; simp⟩
theorem all_take {α : Type} {l : List α} {p : α → Bool} {k : Nat} (h : (l.take k).all p = true) (hk : k < l.length) (hp : p l[k] = true) : (l.take (k + 1)).all p = true := by
  rw [List.take_add_one, List.all_append, h, List.getElem?_eq_getElem hk]
  simp [hp]
theorem az_lo {b : UInt8} (h : (b.toNat : Int) < 97) : az b = false := by unfold az; simp; omega
theorem az_hi {b : UInt8} (h : (122 : Int) < b.toNat) : az b = false := by unfold az; simp; omega
theorem az_in {b : UInt8} (h1 : ¬ (b.toNat : Int) < 97) (h2 : ¬ (122 : Int) < b.toNat) : az b = true := by unfold az; simp; omega
theorem word_at {s x : S} {i : Nat} (h : ((wordsB 32 (byts s)).map ofB)[i]? = some x) : (wordsB 32 (byts s))[i]? = some (byts x) := by
  rw [List.getElem?_map] at h
  cases hw : (wordsB 32 (byts s))[i]? with
  | none => rw [hw] at h; cases h
  | some y => rw [hw] at h; injection h with h; rw [← h, byts_ofB]
set_option maxRecDepth 20000 in
set_option maxHeartbeats 1000000 in
theorem rname_any (s : S) (w : World) (hs : s.size ≤ 1000000) :
    Calls Tryz.prog 170 #[.string s] w fun e w' => e = .returned (.bool (isName s)) ∧ Below w.heap.size w w' := by
  go_enter Tryz.func170, Tryz.ntmps170
  go_wp2_with (go_at_call 47; refine (words_any s w hs).mono ?_; rintro e w1 ⟨A, n, c, rfl, hc, hn, hst, hb1⟩)
  have hWl : (wordsB 32 (byts s)).length = n := by have := hst.1; rwa [List.length_map] at this
  go_loopw [4] (fun ii wr => ∃ i : Nat, i ≤ n ∧ ii = .int .i64 i ∧ wr = w1 ∧ Hid (((wordsB 32 (byts s)).take i).all goodW = true)) (fun ii _ => n - (intOf ii).toNat)
  case atStart => exact ⟨0, by omega, rfl, rfl, by show _ = true; simp⟩
  case round =>
    obtain ⟨i, hi, rfl, rfl, hg⟩ := hrel
    by_cases hlt : i < n
    · obtain ⟨b, off, x, rfl, hx, hxs, hb0, hcx⟩ := hst.at_ hlt
      have hwx := word_at hx
      have hlt' : (i : Int) < n := by omega
      have hlx : (byts x).length = x.size := by simp [byts]
      have hbad := fun h => Lib.hid (isName_bad hwx h)
      have hiw : i < (wordsB 32 (byts s)).length := by omega
      have hwe : (wordsB 32 (byts s))[i] = byts x := by rw [List.getElem?_eq_getElem hiw] at hwx; injection hwx
      have hx6 : x.size ≤ 1000000 := by
        have := word_size _ x (List.mem_of_getElem? hx)
        have h9 : (byts s).length = s.size := by simp [byts]
        omega
      clear hx hwx
      cases h0 : ((x.size : Int) == 0)
      · have hpos : 0 < x.size := by have : ¬ (x.size : Int) = 0 := by simpa using h0
                                     omega
        go_wp2
        go_loop [5] (fun kk => ∃ k : Nat, k ≤ x.size ∧ kk = .int .i64 k ∧ Hid (((byts x).take k).all az = true)) (fun kk => x.size - (intOf kk).toNat)
        case atStart => exact ⟨0, by omega, rfl, by show _ = true; simp⟩
        case round =>
          obtain ⟨k, hk, rfl, ha⟩ := hrel
          by_cases hlk : k < x.size
          · have hlk' : (k : Int) < x.size := by omega
            have hka : k < (byts x).length := by omega
            have hbe := byts_at hlk hka
            by_cases h1 : (x[k].toNat : Int) < 97
            · have hr := (hbad (goodW_bad hka (by rw [hbe]; exact az_lo h1)))
              go_wp2
              go_ret
              exact ⟨ret_bool (by rw [hr.out]), hb1⟩
            · by_cases h2 : (122 : Int) < x[k].toNat
              · have hr := (hbad (goodW_bad hka (by rw [hbe]; exact az_hi h2)))
                go_wp2
                go_ret
                exact ⟨ret_bool (by rw [hr.out]), hb1⟩
              · have ha2 := Lib.hid (all_take ha.out hka (by rw [hbe]; exact az_in h1 h2))
                go_wp2
                go_round
                case rel => exact ⟨k + 1, by omega, by go_num, ha2⟩
                case measure => simp [intOf]; omega
          · have hlk' : ¬ (k : Int) < x.size := by omega
            have hgw : goodW (byts x) = true := by
              have h3 := ha.out
              rw [List.take_of_length_le (by omega)] at h3
              unfold goodW
              rw [h3]
              cases hbx : byts x with
              | nil => rw [hbx] at hlx; simp at hlx; omega
              | cons _ _ => rfl
            have hg2 := Lib.hid (all_take hg.out hiw (by rw [hwe]; exact hgw))
            go_wp2
            go_roundw
            case rel => exact ⟨i + 1, by omega, by go_num, by trivial, hg2⟩
            case measure => simp [intOf]; omega
      · have hxe : x.size = 0 := by have : (x.size : Int) = 0 := by simpa using h0
                                    omega
        have hr := hbad (by
          have : byts x = [] := List.eq_nil_of_length_eq_zero (by omega)
          rw [this]; rfl)
        clear hxe
        go_wp2
        go_ret
        exact ⟨ret_bool (by rw [hr.out]), hb1⟩
    · have hlt' : ¬ (i : Int) < n := by omega
      have hall : (wordsB 32 (byts s)).all goodW = true := by
        have h3 := hg.out
        rwa [List.take_of_length_le (by omega)] at h3
      have hr : Hid (isName s = (decide (n ≤ 4) && decide (s.size ≤ 24))) := by
        show _ = _
        rw [isName_eq, hall, hWl, Bool.and_true, Bool.and_comm]
      by_cases h4 : n ≤ 4
      · have h4' : (n : Int) ≤ 4 := by omega
        by_cases h24 : s.size ≤ 24
        · have h24' : (s.size : Int) ≤ 24 := by omega
          go_wp2
          go_ret
          exact ⟨ret_bool (by rw [hr.out, decide_eq_true h4, decide_eq_true h24]; rfl), hb1⟩
        · have h24' : ¬ (s.size : Int) ≤ 24 := by omega
          go_wp2
          go_ret
          exact ⟨ret_bool (by rw [hr.out, decide_eq_true h4, decide_eq_false h24]; rfl), hb1⟩
      · have h4' : ¬ (n : Int) ≤ 4 := by omega
        go_wp2
        go_ret
        exact ⟨ret_bool (by rw [hr.out, decide_eq_false h4]; rfl), hb1⟩
end Go.Proofs.YtdfnfimajhagfaaGreatDoor
/- Walks of the reference of layer 24: Possible, Find, up. -/
namespace Go.Proofs.YtdfnfimajhagfaaGreatDoor
open Go.RowKit Go.Maps Rf
/-- a term of small names -/
structure TM.small (m : TM) : Prop where
  nm : m.t.name.size ≤ 1000
  se : m.t.see.size ≤ 1000
  br : ∀ x ∈ m.t.broader, x.size ≤ 1000
theorem rname_v {s : S} {v : Bool} (h : isName s = v) (w : World) (hs : s.size ≤ 1000000) :
    Calls Tryz.prog 170 #[.string s] w fun e w' => e = .returned (.bool v) ∧ Below w.heap.size w w' := by subst h; exact rname_any s w hs
set_option maxRecDepth 20000 in
set_option maxHeartbeats 2000000 in
theorem rposs_any (m : TM) (w : World) (hok : m.ok w) (hsm : m.small) :
    Calls Tryz.prog 128 #[.agg #[.string m.t.name, .int .i64 m.t.kind, .int .i64 m.t.lang, .string m.t.see, .slice m.A m.n m.c]] w fun e w' => e = .returned (.bool (possible m.t)) ∧ Below w.heap.size w w' := by
  obtain ⟨⟨nm, ki, la, se, br⟩, Am, n, c⟩ := m
  obtain ⟨hnm, hse, hki, hla, hcap, hfew, hbr⟩ := hok
  obtain ⟨hsn, hss, hsb⟩ := hsm
  dsimp only at hnm hse hki hla hcap hfew hbr hsn hss hsb ⊢
  have hbl1 : Below w.heap.size w (w.alloc (.cells #[.string nm, .int .i64 ki, .int .i64 la, .string se, .slice Am n c] 33)) := brefl.al _
  have hlen := hbr.1
  have hs1 : nm.size ≤ 1000000 := by omega
  have hs2 : se.size ≤ 1000000 := by omega
  obtain ⟨a1, ha1⟩ : ∃ a, isName nm = a := ⟨_, rfl⟩
  have HA1 := Lib.hid ha1
  obtain ⟨r, hr0⟩ : ∃ r, possible ⟨nm, ki, la, se, br⟩ = r := ⟨_, rfl⟩
  rw [hr0]
  cases a1 with
  | false =>
    obtain rfl : false = r := by rw [← hr0, poss_name ha1]
    clear ha1 hr0
    go_enter Tryz.func128, Tryz.ntmps128
    go_wp2_with (go_at_call 170; refine (rname_any nm _ hs1).mono ?_; rintro e w2 ⟨rfl, hb2⟩; rw [HA1.out]; obtain ⟨q0, q1, q2, q3, q4⟩ := box_tm hb2)
    go_ret
    exact ⟨rfl, hbl1.tr hb2⟩
  | true =>
    by_cases hnum : 0 ≤ ki ∧ ki ≤ 2 ∧ 0 ≤ la ∧ la ≤ 3
    · have hrest : n ≤ 8 → ((se : S).data.isEmpty || (isName se && br.isEmpty)) = true → r = goodFrom none br := fun h3 h4 => by rw [← hr0]; exact poss_rest ha1 hnum (by rw [hlen]; exact h3) h4
      obtain ⟨k1, k2, k3, k4⟩ := hnum
      have k1' : decide (ki < 0) = false := decide_eq_false (by omega)
      have k2' : decide ((2 : Int) < ki) = false := decide_eq_false (by omega)
      have k3' : decide (la < 0) = false := decide_eq_false (by omega)
      have k4' : decide ((3 : Int) < la) = false := decide_eq_false (by omega)
      by_cases h8 : n ≤ 8
      · have h8' : decide ((8 : Int) < n) = false := decide_eq_false (by omega)
        cases hse0 : se.data.isEmpty
        · have h0 := not_empty hse0
          have h2 := (empty_data se).trans hse0
          obtain ⟨a2, ha2⟩ : ∃ a, isName se = a := ⟨_, rfl⟩
          have HA2 := Lib.hid ha2
          cases a2 with
          | false =>
            obtain rfl : false = r := by rw [← hr0]; exact (poss_see hse0 (by rw [ha2]; rfl)).symm
            clear ha1 hr0 hrest ha2
            go_enter Tryz.func128, Tryz.ntmps128
            go_wp2_with (first
                          | (go_at_call 170; refine (rname_any nm _ hs1).mono ?_; clear hs1; rintro e w2 ⟨rfl, hb2⟩; rw [HA1.out]; obtain ⟨q0, q1, q2, q3, q4⟩ := box_tm hb2)
                          | (go_at_call 170; refine (rname_any se _ hs2).mono ?_; rintro e w3 ⟨rfl, hb3⟩; rw [HA2.out]; obtain ⟨p0, p1, p2, p3, p4⟩ := box_tm (hb2.tr hb3)))
            go_ret
            exact ⟨rfl, (hbl1.tr hb2).tr hb3⟩
          | true =>
            by_cases hn0 : n = 0
            · subst hn0
              have hbr0 : br = [] := List.eq_nil_of_length_eq_zero hlen
              obtain rfl : r = true := by rw [hrest (by omega) (by rw [ha2, hbr0]; simp), hbr0]; rfl
              clear ha1 hr0 hrest ha2
              go_enter Tryz.func128, Tryz.ntmps128
              go_wp2_with (first
                            | (go_at_call 170; refine (rname_any nm _ hs1).mono ?_; clear hs1; rintro e w2 ⟨rfl, hb2⟩; rw [HA1.out]; obtain ⟨q0, q1, q2, q3, q4⟩ := box_tm hb2)
                            | (go_at_call 170; refine (rname_any se _ hs2).mono ?_; rintro e w3 ⟨rfl, hb3⟩; rw [HA2.out]; obtain ⟨p0, p1, p2, p3, p4⟩ := box_tm (hb2.tr hb3)))
              have hbz := (hbl1.tr hb2).tr hb3
              clear q0 q1 q2 q3 q4 p0 p1 p2 p3 
              go_loopw [3] (fun i wr => i = .int .i64 0 ∧ wr = w3) (fun _ _ => 0)
              case atStart => exact ⟨rfl, rfl⟩
              case round =>
                obtain ⟨rfl, rfl⟩ := hrel
                go_wp2
                go_ret
                exact ⟨rfl, hbz⟩
            · have hn1 : (0 : Int) < n := by omega
              have hbr0 : br.isEmpty = false := by
                cases br with
                | nil => exact absurd hlen.symm hn0
                | cons x l => rfl
              obtain rfl : false = r := by rw [← hr0]; exact (poss_see hse0 (by show (_ && br.isEmpty) = false; rw [hbr0]; simp)).symm
              clear ha1 hr0 hrest ha2
              go_enter Tryz.func128, Tryz.ntmps128
              go_wp2_with (first
                            | (go_at_call 170; refine (rname_any nm _ hs1).mono ?_; clear hs1; rintro e w2 ⟨rfl, hb2⟩; rw [HA1.out]; obtain ⟨q0, q1, q2, q3, q4⟩ := box_tm hb2)
                            | (go_at_call 170; refine (rname_any se _ hs2).mono ?_; rintro e w3 ⟨rfl, hb3⟩; rw [HA2.out]; obtain ⟨p0, p1, p2, p3, p4⟩ := box_tm (hb2.tr hb3)))
              go_ret
              exact ⟨rfl, (hbl1.tr hb2).tr hb3⟩
        · obtain rfl := is_empty hse0
          have hrest := hrest h8
          clear ha1 hr0
          go_enter Tryz.func128, Tryz.ntmps128
          go_wp2_with (go_at_call 170; refine (rname_any nm _ hs1).mono ?_; rintro e w2 ⟨rfl, hb2⟩; rw [HA1.out]; obtain ⟨q0, q1, q2, q3, q4⟩ := box_tm hb2)
          have hfin := Lib.hid (hrest rfl)
          clear hrest HA1 q0 q1 q2 q3 q4
          obtain ⟨wo, hwo⟩ : ∃ wo : World, wo = w2 := ⟨_, rfl⟩
          subst hwo
          go_loopw [3] (fun i wr => ∃ j : Nat, j ≤ n ∧ i = .int .i64 j ∧ Hid (r = goodFrom (prevVoc br j) (br.drop j)) ∧ Below (w.alloc (.cells #[.string nm, .int .i64 ki, .int .i64 la, .string ⟨#[]⟩, .slice Am n c] 33)).heap.size (w.alloc (.cells #[.string nm, .int .i64 ki, .int .i64 la, .string ⟨#[]⟩, .slice Am n c] 33)) wr) (fun i _ => n - (intOf i).toNat)
          case atStart => exact ⟨0, by omega, rfl, hfin.out, hb2⟩
          case round =>
            obtain ⟨j, hj, rfl, hg, hbw⟩ := hrel
            have hq4 := (box_tm hbw).2.2.2.2
            by_cases hlt : j < n
            · obtain ⟨b, off, x, rfl, hx, hxs, hb0, hcx⟩ := (hbr.below (hbl1.tr hbw)).at_ hlt
              have hsx : x.size ≤ 1000 := hsb x (List.mem_of_getElem? hx)
              have hd := Lib.hid (drop_get hx)
              have hbc : Below wr.heap.size wr wr.drew := brefl.drn 1
              have hlt' : (j : Int) < n := by omega
              obtain ⟨a3, ha3⟩ : ∃ a, isName x = a := ⟨_, rfl⟩
              have HA3 := Lib.hid ha3
              have hwh : w.heap.size < wr.heap.size := Nat.lt_of_lt_of_le (by simp) hbw.size
              cases a3 with
              | false =>
                have hres := Lib.hid (show r = false by rw [hg.out, hd.out, good_name ha3])
                have hcells : ∀ wz, Below wr.heap.size wr wz → wz.cell? ⟨w.heap.size, 4, none⟩ = some (.slice (some ⟨b, off, none⟩) n c) ∧ wz.cell? ⟨b, off + j, none⟩ = some (.string x) := fun wz hz => ⟨(hz.cell (p := ⟨w.heap.size, 4, none⟩) hwh).trans hq4, (hz.cell (p := ⟨b, off + j, none⟩) hb0).trans hcx⟩
                have hS := hcells _ hbc
                clear ha3 hx hcx
                go_wp2
                refine wp_region_mix [(true, 0), (true, 1), (true, 2), (true, 3), (true, 4), (false, 5), (true, 6), (true, 7), (true, 8), (true, 9), (true, 10), (true, 11), (true, 12), (true, 13), (true, 14), (true, 15), (true, 16), (true, 17), (true, 18), (true, 19), (true, 20), (true, 21), (true, 22), (true, 23), (true, 24), (true, 25)] 26 (fun wz => wz.cell? ⟨w.heap.size, 4, none⟩ = some (.slice (some ⟨b, off, none⟩) n c) ∧ wz.cell? ⟨b, off + j, none⟩ = some (.string x)) (by kernel_rfl) (by kernel_rfl) ?_
                refine wpMix_put (v := ?_) rfl rfl (Or.inl ⟨by rfl, fun wz hz => ?_⟩) hS ?_
                rotate_left
                (focus (go_simp; try (with_reducible rfl)))
                simp only [List.setIfInBounds_toArray, List.set_cons_succ, List.set_cons_zero]
                refine wpMix_put (v := ?_) rfl rfl (Or.inl ⟨by rfl, fun wz hz => ?_⟩) hS ?_
                rotate_left
                (focus (go_simp; try (with_reducible rfl)))
                simp only [List.setIfInBounds_toArray, List.set_cons_succ, List.set_cons_zero]
                refine wpMix_put (v := ?_) rfl rfl (Or.inl ⟨by rfl, fun wz hz => ?_⟩) hS ?_
                rotate_left
                (focus (go_simp; try (with_reducible rfl)))
                simp only [List.setIfInBounds_toArray, List.set_cons_succ, List.set_cons_zero]
                refine wpMix_put (v := ?_) rfl rfl (Or.inl ⟨by rfl, fun wz hz => ?_⟩) hS ?_
                rotate_left
                (focus (go_simp; try (with_reducible rfl)))
                simp only [List.setIfInBounds_toArray, List.set_cons_succ, List.set_cons_zero]
                refine wpMix_put (v := ?_) rfl rfl (Or.inl ⟨by rfl, fun wz hz => ?_⟩) hS ?_
                rotate_left
                (focus (go_simp; try (with_reducible rfl)))
                simp only [List.setIfInBounds_toArray, List.set_cons_succ, List.set_cons_zero]
                refine wpMix_step rfl (fun K hK => ?_)
                go_simp
                refine (rname_v HA3.out _ (by omega)).mono ?_
                rintro e w5 ⟨rfl, hbd⟩
                go_simp
                have hbc' := hbc.tr hbd
                clear hbc hbd
                have hbc := hbc'
                clear hbc'
                have hS7 := hcells _ hbc
                refine hK _ _ (fun _ => hS7) ?_
                clear hK K hS
                have hS := hS7
                clear hS7
                refine wpMix_put (v := ?_) rfl rfl (Or.inl ⟨by rfl, fun wz hz => ?_⟩) hS ?_
                rotate_left
                (focus (go_simp; try (with_reducible rfl)))
                simp only [List.setIfInBounds_toArray, List.set_cons_succ, List.set_cons_zero]
                refine wpMix_put (v := ?_) rfl rfl (Or.inl ⟨by rfl, fun wz hz => ?_⟩) hS ?_
                rotate_left
                (focus (go_simp; try (with_reducible rfl)))
                simp only [List.setIfInBounds_toArray, List.set_cons_succ, List.set_cons_zero]
                refine wpMix_put (v := undef) rfl rfl (Or.inr ⟨by rfl, rfl⟩) hS ?_
                simp only [List.setIfInBounds_toArray, List.set_cons_succ, List.set_cons_zero]
                refine wpMix_put (v := undef) rfl rfl (Or.inr ⟨by rfl, rfl⟩) hS ?_
                simp only [List.setIfInBounds_toArray, List.set_cons_succ, List.set_cons_zero]
                refine wpMix_put (v := undef) rfl rfl (Or.inr ⟨by rfl, rfl⟩) hS ?_
                simp only [List.setIfInBounds_toArray, List.set_cons_succ, List.set_cons_zero]
                refine wpMix_put (v := undef) rfl rfl (Or.inr ⟨by rfl, rfl⟩) hS ?_
                simp only [List.setIfInBounds_toArray, List.set_cons_succ, List.set_cons_zero]
                refine wpMix_put (v := undef) rfl rfl (Or.inr ⟨by rfl, rfl⟩) hS ?_
                simp only [List.setIfInBounds_toArray, List.set_cons_succ, List.set_cons_zero]
                refine wpMix_put (v := undef) rfl rfl (Or.inr ⟨by rfl, rfl⟩) hS ?_
                simp only [List.setIfInBounds_toArray, List.set_cons_succ, List.set_cons_zero]
                refine wpMix_put (v := undef) rfl rfl (Or.inr ⟨by rfl, rfl⟩) hS ?_
                simp only [List.setIfInBounds_toArray, List.set_cons_succ, List.set_cons_zero]
                refine wpMix_put (v := undef) rfl rfl (Or.inr ⟨by rfl, rfl⟩) hS ?_
                simp only [List.setIfInBounds_toArray, List.set_cons_succ, List.set_cons_zero]
                refine wpMix_put (v := undef) rfl rfl (Or.inr ⟨by rfl, rfl⟩) hS ?_
                simp only [List.setIfInBounds_toArray, List.set_cons_succ, List.set_cons_zero]
                refine wpMix_put (v := undef) rfl rfl (Or.inr ⟨by rfl, rfl⟩) hS ?_
                simp only [List.setIfInBounds_toArray, List.set_cons_succ, List.set_cons_zero]
                refine wpMix_put (v := undef) rfl rfl (Or.inr ⟨by rfl, rfl⟩) hS ?_
                simp only [List.setIfInBounds_toArray, List.set_cons_succ, List.set_cons_zero]
                refine wpMix_put (v := undef) rfl rfl (Or.inr ⟨by rfl, rfl⟩) hS ?_
                simp only [List.setIfInBounds_toArray, List.set_cons_succ, List.set_cons_zero]
                refine wpMix_put (v := undef) rfl rfl (Or.inr ⟨by rfl, rfl⟩) hS ?_
                simp only [List.setIfInBounds_toArray, List.set_cons_succ, List.set_cons_zero]
                refine wpMix_put (v := undef) rfl rfl (Or.inr ⟨by rfl, rfl⟩) hS ?_
                simp only [List.setIfInBounds_toArray, List.set_cons_succ, List.set_cons_zero]
                refine wpMix_put (v := undef) rfl rfl (Or.inr ⟨by rfl, rfl⟩) hS ?_
                simp only [List.setIfInBounds_toArray, List.set_cons_succ, List.set_cons_zero]
                refine wpMix_put (v := undef) rfl rfl (Or.inr ⟨by rfl, rfl⟩) hS ?_
                simp only [List.setIfInBounds_toArray, List.set_cons_succ, List.set_cons_zero]
                refine wpMix_put (v := undef) rfl rfl (Or.inr ⟨by rfl, rfl⟩) hS ?_
                simp only [List.setIfInBounds_toArray, List.set_cons_succ, List.set_cons_zero]
                refine wpMix_put (v := ?_) rfl rfl (Or.inl ⟨by rfl, fun wz hz => ?_⟩) hS ?_
                rotate_left
                (focus (go_simp; try (with_reducible rfl)))
                simp only [List.setIfInBounds_toArray, List.set_cons_succ, List.set_cons_zero]
                refine wpMix_nil ?_
                go_wp2
                go_ret
                exact ⟨ret_bool hres.out.symm, (hbl1.tr hbw).tr hbc⟩
              | true =>
                cases j with
                | zero =>
                  have hres : r = goodFrom (prevVoc br 1) (br.drop 1) := by rw [hg.out, hd.out, prevOf_zero, good_step ha3 rfl, prevOf_succ hx]
                  have HRS := Lib.hid hres
                  have hcx0 : wr.cell? ⟨b, off, none⟩ = some (.string x) := by simpa using hcx
                  have hcells : ∀ wz, Below wr.heap.size wr wz → wz.cell? ⟨w.heap.size, 4, none⟩ = some (.slice (some ⟨b, off, none⟩) n c) ∧ wz.cell? ⟨b, off, none⟩ = some (.string x) := fun wz hz => ⟨(hz.cell (p := ⟨w.heap.size, 4, none⟩) hwh).trans hq4, (hz.cell (p := ⟨b, off, none⟩) hb0).trans hcx0⟩
                  have hS := hcells _ hbc
                  have hn0 : (0 : Int) < n := by omega
                  clear ha3 hx hcx hres hcx0 hlt'
                  go_wp2
                  refine wp_region_mix [(true, 0), (true, 1), (true, 2), (true, 3), (true, 4), (false, 5), (true, 6), (true, 7), (true, 8), (true, 9), (true, 10), (true, 11), (true, 12), (true, 13), (true, 14), (true, 15), (true, 16), (true, 17), (true, 18), (true, 19), (true, 20), (true, 21), (true, 22), (true, 23), (true, 24), (true, 25)] 26 (fun wz => wz.cell? ⟨w.heap.size, 4, none⟩ = some (.slice (some ⟨b, off, none⟩) n c) ∧ wz.cell? ⟨b, off, none⟩ = some (.string x)) (by kernel_rfl) (by kernel_rfl) ?_
                  refine wpMix_put (v := ?_) rfl rfl (Or.inl ⟨by rfl, fun wz hz => ?_⟩) hS ?_
                  rotate_left
                  (focus (go_simp; try (with_reducible rfl)))
                  simp only [List.setIfInBounds_toArray, List.set_cons_succ, List.set_cons_zero]
                  refine wpMix_put (v := ?_) rfl rfl (Or.inl ⟨by rfl, fun wz hz => ?_⟩) hS ?_
                  rotate_left
                  (focus (go_simp; try (with_reducible rfl)))
                  simp only [List.setIfInBounds_toArray, List.set_cons_succ, List.set_cons_zero]
                  refine wpMix_put (v := ?_) rfl rfl (Or.inl ⟨by rfl, fun wz hz => ?_⟩) hS ?_
                  rotate_left
                  (focus (go_simp; try (with_reducible rfl)))
                  simp only [List.setIfInBounds_toArray, List.set_cons_succ, List.set_cons_zero]
                  refine wpMix_put (v := ?_) rfl rfl (Or.inl ⟨by rfl, fun wz hz => ?_⟩) hS ?_
                  rotate_left
                  (focus (go_simp; try (with_reducible rfl)))
                  simp only [List.setIfInBounds_toArray, List.set_cons_succ, List.set_cons_zero]
                  refine wpMix_put (v := ?_) rfl rfl (Or.inl ⟨by rfl, fun wz hz => ?_⟩) hS ?_
                  rotate_left
                  (focus (go_simp; try (with_reducible rfl)))
                  simp only [List.setIfInBounds_toArray, List.set_cons_succ, List.set_cons_zero]
                  refine wpMix_step rfl (fun K hK => ?_)
                  go_simp
                  refine (rname_v HA3.out _ (by omega)).mono ?_
                  rintro e w5 ⟨rfl, hbd⟩
                  go_simp
                  have hbc' := hbc.tr hbd
                  clear hbc hbd
                  have hbc := hbc'
                  clear hbc'
                  have hS7 := hcells _ hbc
                  refine hK _ _ (fun _ => hS7) ?_
                  clear hK K hS
                  have hS := hS7
                  clear hS7
                  refine wpMix_put (v := ?_) rfl rfl (Or.inl ⟨by rfl, fun wz hz => ?_⟩) hS ?_
                  rotate_left
                  (focus (go_simp; try (with_reducible rfl)))
                  simp only [List.setIfInBounds_toArray, List.set_cons_succ, List.set_cons_zero]
                  refine wpMix_put (v := ?_) rfl rfl (Or.inl ⟨by rfl, fun wz hz => ?_⟩) hS ?_
                  rotate_left
                  (focus (go_simp; try (with_reducible rfl)))
                  simp only [List.setIfInBounds_toArray, List.set_cons_succ, List.set_cons_zero]
                  refine wpMix_put (v := ?_) rfl rfl (Or.inl ⟨by rfl, fun wz hz => ?_⟩) hS ?_
                  rotate_left
                  (focus (go_simp; try (with_reducible rfl)))
                  simp only [List.setIfInBounds_toArray, List.set_cons_succ, List.set_cons_zero]
                  refine wpMix_put (v := ?_) rfl rfl (Or.inl ⟨by rfl, fun wz hz => ?_⟩) hS ?_
                  rotate_left
                  (focus (go_simp; try (with_reducible rfl)))
                  simp only [List.setIfInBounds_toArray, List.set_cons_succ, List.set_cons_zero]
                  refine wpMix_put (v := ?_) rfl rfl (Or.inl ⟨by rfl, fun wz hz => ?_⟩) hS ?_
                  rotate_left
                  (focus (go_simp; try (with_reducible rfl)))
                  simp only [List.setIfInBounds_toArray, List.set_cons_succ, List.set_cons_zero]
                  refine wpMix_put (v := undef) rfl rfl (Or.inr ⟨by rfl, rfl⟩) hS ?_
                  simp only [List.setIfInBounds_toArray, List.set_cons_succ, List.set_cons_zero]
                  refine wpMix_put (v := undef) rfl rfl (Or.inr ⟨by rfl, rfl⟩) hS ?_
                  simp only [List.setIfInBounds_toArray, List.set_cons_succ, List.set_cons_zero]
                  refine wpMix_put (v := undef) rfl rfl (Or.inr ⟨by rfl, rfl⟩) hS ?_
                  simp only [List.setIfInBounds_toArray, List.set_cons_succ, List.set_cons_zero]
                  refine wpMix_put (v := undef) rfl rfl (Or.inr ⟨by rfl, rfl⟩) hS ?_
                  simp only [List.setIfInBounds_toArray, List.set_cons_succ, List.set_cons_zero]
                  refine wpMix_put (v := undef) rfl rfl (Or.inr ⟨by rfl, rfl⟩) hS ?_
                  simp only [List.setIfInBounds_toArray, List.set_cons_succ, List.set_cons_zero]
                  refine wpMix_put (v := undef) rfl rfl (Or.inr ⟨by rfl, rfl⟩) hS ?_
                  simp only [List.setIfInBounds_toArray, List.set_cons_succ, List.set_cons_zero]
                  refine wpMix_put (v := undef) rfl rfl (Or.inr ⟨by rfl, rfl⟩) hS ?_
                  simp only [List.setIfInBounds_toArray, List.set_cons_succ, List.set_cons_zero]
                  refine wpMix_put (v := undef) rfl rfl (Or.inr ⟨by rfl, rfl⟩) hS ?_
                  simp only [List.setIfInBounds_toArray, List.set_cons_succ, List.set_cons_zero]
                  refine wpMix_put (v := undef) rfl rfl (Or.inr ⟨by rfl, rfl⟩) hS ?_
                  simp only [List.setIfInBounds_toArray, List.set_cons_succ, List.set_cons_zero]
                  refine wpMix_put (v := undef) rfl rfl (Or.inr ⟨by rfl, rfl⟩) hS ?_
                  simp only [List.setIfInBounds_toArray, List.set_cons_succ, List.set_cons_zero]
                  refine wpMix_put (v := undef) rfl rfl (Or.inr ⟨by rfl, rfl⟩) hS ?_
                  simp only [List.setIfInBounds_toArray, List.set_cons_succ, List.set_cons_zero]
                  refine wpMix_put (v := undef) rfl rfl (Or.inr ⟨by rfl, rfl⟩) hS ?_
                  simp only [List.setIfInBounds_toArray, List.set_cons_succ, List.set_cons_zero]
                  refine wpMix_put (v := undef) rfl rfl (Or.inr ⟨by rfl, rfl⟩) hS ?_
                  simp only [List.setIfInBounds_toArray, List.set_cons_succ, List.set_cons_zero]
                  refine wpMix_put (v := ?_) rfl rfl (Or.inl ⟨by rfl, fun wz hz => ?_⟩) hS ?_
                  rotate_left
                  (focus (go_simp; try (with_reducible rfl)))
                  simp only [List.setIfInBounds_toArray, List.set_cons_succ, List.set_cons_zero]
                  refine wpMix_put (v := ?_) rfl rfl (Or.inl ⟨by rfl, fun wz hz => ?_⟩) hS ?_
                  rotate_left
                  (focus (go_simp; try (with_reducible rfl)))
                  simp only [List.setIfInBounds_toArray, List.set_cons_succ, List.set_cons_zero]
                  refine wpMix_nil ?_
                  go_wp2
                  go_roundw
                  case rel => exact ⟨1, by omega, by go_num, HRS.out, hbw.tr hbc⟩
                  case measure => simp [intOf]; omega
                | succ q =>
                  obtain ⟨b', off', y, hA', hy, hys, hb0', hcy⟩ := (hbr.below (hbl1.tr hbw)).at_ (k := q) (by omega)
                  injection hA' with hA'
                  injection hA' with hA1 hA2
                  subst hA1; subst hA2
                  have hprev : prevVoc br (q + 1) = some y := hy
                  have hq0 : (0 : Int) ≤ (q : Int) := by omega
                  have hq1 : (q : Int) < n := by omega
                  have hq2 : ¬ (q : Int) < 0 := by omega
                  have hq3 : (q : Int) + 1 < n := by omega
                  have hq5 : (0 : Int) ≤ (q : Int) + 1 := by omega
                  have hq6 : (0 : Int) < (q : Int) + 1 := by omega
                  have hmax : (if (q : Int) < 0 then (0 : Int) else q) = q := if_neg hq2
                  have hres1 : ltS y x = false → r = false := fun h => by rw [hg.out, hd.out, hprev, good_late h]
                  have hres2 : ltS y x = true → r = goodFrom (prevVoc br (q + 1 + 1)) (br.drop (q + 1 + 1)) := fun h => by rw [hg.out, hd.out, hprev, good_step (p := some y) ha3 h, prevOf_succ hx]
                  have hcells : ∀ wz, Below wr.heap.size wr wz → wz.cell? ⟨w.heap.size, 4, none⟩ = some (.slice (some ⟨b, off, none⟩) n c) ∧ wz.cell? ⟨b, off + (q + 1), none⟩ = some (.string x) ∧ wz.cell? ⟨b, off + q, none⟩ = some (.string y) := fun wz hz => ⟨(hz.cell (p := ⟨w.heap.size, 4, none⟩) hwh).trans hq4, (hz.cell (p := ⟨b, off + (q + 1), none⟩) hb0).trans hcx, (hz.cell (p := ⟨b, off + q, none⟩) hb0).trans hcy⟩
                  have hS := hcells _ hbc
                  clear ha3 hx hy hprev hcx hcy
                  rw [show ((q + 1 : Nat) : Int) = (q : Int) + 1 from rfl] at *
                  rcases cmp3 x y with ⟨f1, f2, f3⟩ | ⟨f1, f2, f3⟩ | ⟨f1, f2, f3⟩
                  · have HRS := Lib.hid (hres1 f3)
                    clear hres1 hres2 f3
                    go_wp2
                    have hwrap := IntWalk.i64_in (q : Int) (by omega)
                    refine wp_region_mix [(true, 0), (true, 1), (true, 2), (true, 3), (true, 4), (false, 5), (true, 6), (true, 7), (true, 8), (true, 9), (true, 10), (true, 11), (true, 12), (true, 13), (true, 14), (true, 15), (true, 16), (true, 17), (true, 18), (true, 19), (true, 20), (true, 21), (true, 22), (true, 23), (true, 24), (true, 25)] 26 (fun wz => wz.cell? ⟨w.heap.size, 4, none⟩ = some (.slice (some ⟨b, off, none⟩) n c) ∧ wz.cell? ⟨b, off + (q + 1), none⟩ = some (.string x) ∧ wz.cell? ⟨b, off + q, none⟩ = some (.string y)) (by kernel_rfl) (by kernel_rfl) ?_
                    refine wpMix_put (v := ?_) rfl rfl (Or.inl ⟨by rfl, fun wz hz => ?_⟩) hS ?_
                    rotate_left
                    (focus (go_simp; try (with_reducible rfl)))
                    simp only [List.setIfInBounds_toArray, List.set_cons_succ, List.set_cons_zero]
                    refine wpMix_put (v := ?_) rfl rfl (Or.inl ⟨by rfl, fun wz hz => ?_⟩) hS ?_
                    rotate_left
                    (focus (go_simp; try (with_reducible rfl)))
                    simp only [List.setIfInBounds_toArray, List.set_cons_succ, List.set_cons_zero]
                    refine wpMix_put (v := ?_) rfl rfl (Or.inl ⟨by rfl, fun wz hz => ?_⟩) hS ?_
                    rotate_left
                    (focus (go_simp; try (with_reducible rfl)))
                    simp only [List.setIfInBounds_toArray, List.set_cons_succ, List.set_cons_zero]
                    refine wpMix_put (v := ?_) rfl rfl (Or.inl ⟨by rfl, fun wz hz => ?_⟩) hS ?_
                    rotate_left
                    (focus (go_simp; try (with_reducible rfl)))
                    simp only [List.setIfInBounds_toArray, List.set_cons_succ, List.set_cons_zero]
                    refine wpMix_put (v := ?_) rfl rfl (Or.inl ⟨by rfl, fun wz hz => ?_⟩) hS ?_
                    rotate_left
                    (focus (go_simp; try (with_reducible rfl)))
                    simp only [List.setIfInBounds_toArray, List.set_cons_succ, List.set_cons_zero]
                    refine wpMix_step rfl (fun K hK => ?_)
                    go_simp
                    refine (rname_v HA3.out _ (by omega)).mono ?_
                    rintro e w5 ⟨rfl, hbd⟩
                    go_simp
                    have hbc' := hbc.tr hbd
                    clear hbc hbd
                    have hbc := hbc'
                    clear hbc'
                    have hS7 := hcells _ hbc
                    refine hK _ _ (fun _ => hS7) ?_
                    clear hK K hS
                    have hS := hS7
                    clear hS7
                    refine wpMix_put (v := ?_) rfl rfl (Or.inl ⟨by rfl, fun wz hz => ?_⟩) hS ?_
                    rotate_left
                    (focus (go_simp; try (with_reducible rfl)))
                    simp only [List.setIfInBounds_toArray, List.set_cons_succ, List.set_cons_zero]
                    refine wpMix_put (v := ?_) rfl rfl (Or.inl ⟨by rfl, fun wz hz => ?_⟩) hS ?_
                    rotate_left
                    (focus (go_simp; try (with_reducible rfl)))
                    simp only [List.setIfInBounds_toArray, List.set_cons_succ, List.set_cons_zero]
                    refine wpMix_put (v := ?_) rfl rfl (Or.inl ⟨by rfl, fun wz hz => ?_⟩) hS ?_
                    rotate_left
                    (focus (go_simp; try (with_reducible rfl)))
                    simp only [List.setIfInBounds_toArray, List.set_cons_succ, List.set_cons_zero]
                    refine wpMix_put (v := ?_) rfl rfl (Or.inl ⟨by rfl, fun wz hz => ?_⟩) hS ?_
                    rotate_left
                    (focus (go_simp; try (with_reducible rfl)))
                    simp only [List.setIfInBounds_toArray, List.set_cons_succ, List.set_cons_zero]
                    refine wpMix_put (v := ?_) rfl rfl (Or.inl ⟨by rfl, fun wz hz => ?_⟩) hS ?_
                    rotate_left
                    (focus (go_simp; try (with_reducible rfl)))
                    simp only [List.setIfInBounds_toArray, List.set_cons_succ, List.set_cons_zero]
                    refine wpMix_put (v := ?_) rfl rfl (Or.inl ⟨by rfl, fun wz hz => ?_⟩) hS ?_
                    rotate_left
                    (focus (go_simp; try (with_reducible rfl)))
                    simp only [List.setIfInBounds_toArray, List.set_cons_succ, List.set_cons_zero]
                    refine wpMix_put (v := ?_) rfl rfl (Or.inl ⟨by rfl, fun wz hz => ?_⟩) hS ?_
                    rotate_left
                    (focus (go_simp; try (with_reducible rfl)))
                    simp only [List.setIfInBounds_toArray, List.set_cons_succ, List.set_cons_zero]
                    refine wpMix_put (v := ?_) rfl rfl (Or.inl ⟨by rfl, fun wz hz => ?_⟩) hS ?_
                    rotate_left
                    (focus (go_simp; try (with_reducible rfl)))
                    simp only [List.setIfInBounds_toArray, List.set_cons_succ, List.set_cons_zero]
                    refine wpMix_put (v := ?_) rfl rfl (Or.inl ⟨by rfl, fun wz hz => ?_⟩) hS ?_
                    rotate_left
                    (focus (go_simp; try (with_reducible rfl)))
                    simp only [List.setIfInBounds_toArray, List.set_cons_succ, List.set_cons_zero]
                    refine wpMix_put (v := ?_) rfl rfl (Or.inl ⟨by rfl, fun wz hz => ?_⟩) hS ?_
                    rotate_left
                    (focus (go_simp; try (with_reducible rfl)))
                    simp only [List.setIfInBounds_toArray, List.set_cons_succ, List.set_cons_zero]
                    refine wpMix_put (v := ?_) rfl rfl (Or.inl ⟨by rfl, fun wz hz => ?_⟩) hS ?_
                    rotate_left
                    (focus (go_simp; try (with_reducible rfl)))
                    simp only [List.setIfInBounds_toArray, List.set_cons_succ, List.set_cons_zero]
                    refine wpMix_put (v := ?_) rfl rfl (Or.inl ⟨by rfl, fun wz hz => ?_⟩) hS ?_
                    rotate_left
                    (focus (go_simp; try (with_reducible rfl)))
                    simp only [List.setIfInBounds_toArray, List.set_cons_succ, List.set_cons_zero]
                    refine wpMix_put (v := ?_) rfl rfl (Or.inl ⟨by rfl, fun wz hz => ?_⟩) hS ?_
                    rotate_left
                    (focus (go_simp; try (with_reducible rfl)))
                    simp only [List.setIfInBounds_toArray, List.set_cons_succ, List.set_cons_zero]
                    refine wpMix_put (v := ?_) rfl rfl (Or.inl ⟨by rfl, fun wz hz => ?_⟩) hS ?_
                    rotate_left
                    (focus (go_simp; try (with_reducible rfl)))
                    simp only [List.setIfInBounds_toArray, List.set_cons_succ, List.set_cons_zero]
                    refine wpMix_put (v := ?_) rfl rfl (Or.inl ⟨by rfl, fun wz hz => ?_⟩) hS ?_
                    rotate_left
                    (focus (go_simp; try (with_reducible rfl)))
                    simp only [List.setIfInBounds_toArray, List.set_cons_succ, List.set_cons_zero]
                    refine wpMix_put (v := ?_) rfl rfl (Or.inl ⟨by rfl, fun wz hz => ?_⟩) hS ?_
                    rotate_left
                    (focus (go_simp; try (with_reducible rfl)))
                    simp only [List.setIfInBounds_toArray, List.set_cons_succ, List.set_cons_zero]
                    refine wpMix_put (v := ?_) rfl rfl (Or.inl ⟨by rfl, fun wz hz => ?_⟩) hS ?_
                    rotate_left
                    (focus (go_simp; try (with_reducible rfl)))
                    simp only [List.setIfInBounds_toArray, List.set_cons_succ, List.set_cons_zero]
                    refine wpMix_put (v := ?_) rfl rfl (Or.inl ⟨by rfl, fun wz hz => ?_⟩) hS ?_
                    rotate_left
                    (focus (go_simp; try (with_reducible rfl)))
                    simp only [List.setIfInBounds_toArray, List.set_cons_succ, List.set_cons_zero]
                    refine wpMix_put (v := ?_) rfl rfl (Or.inl ⟨by rfl, fun wz hz => ?_⟩) hS ?_
                    rotate_left
                    (focus (go_simp; try (with_reducible rfl)))
                    simp only [List.setIfInBounds_toArray, List.set_cons_succ, List.set_cons_zero]
                    refine wpMix_put (v := ?_) rfl rfl (Or.inl ⟨by rfl, fun wz hz => ?_⟩) hS ?_
                    rotate_left
                    (focus (go_simp; try (with_reducible rfl)))
                    simp only [List.setIfInBounds_toArray, List.set_cons_succ, List.set_cons_zero]
                    refine wpMix_nil ?_
                    clear hwrap
                    go_wp2
                    go_ret
                    exact ⟨ret_bool HRS.out.symm, (hbl1.tr hbw).tr hbc⟩
                  · have HRS := Lib.hid (hres1 f3)
                    clear hres1 hres2 f3
                    go_wp2
                    have hwrap := IntWalk.i64_in (q : Int) (by omega)
                    refine wp_region_mix [(true, 0), (true, 1), (true, 2), (true, 3), (true, 4), (false, 5), (true, 6), (true, 7), (true, 8), (true, 9), (true, 10), (true, 11), (true, 12), (true, 13), (true, 14), (true, 15), (true, 16), (true, 17), (true, 18), (true, 19), (true, 20), (true, 21), (true, 22), (true, 23), (true, 24), (true, 25)] 26 (fun wz => wz.cell? ⟨w.heap.size, 4, none⟩ = some (.slice (some ⟨b, off, none⟩) n c) ∧ wz.cell? ⟨b, off + (q + 1), none⟩ = some (.string x) ∧ wz.cell? ⟨b, off + q, none⟩ = some (.string y)) (by kernel_rfl) (by kernel_rfl) ?_
                    refine wpMix_put (v := ?_) rfl rfl (Or.inl ⟨by rfl, fun wz hz => ?_⟩) hS ?_
                    rotate_left
                    (focus (go_simp; try (with_reducible rfl)))
                    simp only [List.setIfInBounds_toArray, List.set_cons_succ, List.set_cons_zero]
                    refine wpMix_put (v := ?_) rfl rfl (Or.inl ⟨by rfl, fun wz hz => ?_⟩) hS ?_
                    rotate_left
                    (focus (go_simp; try (with_reducible rfl)))
                    simp only [List.setIfInBounds_toArray, List.set_cons_succ, List.set_cons_zero]
                    refine wpMix_put (v := ?_) rfl rfl (Or.inl ⟨by rfl, fun wz hz => ?_⟩) hS ?_
                    rotate_left
                    (focus (go_simp; try (with_reducible rfl)))
                    simp only [List.setIfInBounds_toArray, List.set_cons_succ, List.set_cons_zero]
                    refine wpMix_put (v := ?_) rfl rfl (Or.inl ⟨by rfl, fun wz hz => ?_⟩) hS ?_
                    rotate_left
                    (focus (go_simp; try (with_reducible rfl)))
                    simp only [List.setIfInBounds_toArray, List.set_cons_succ, List.set_cons_zero]
                    refine wpMix_put (v := ?_) rfl rfl (Or.inl ⟨by rfl, fun wz hz => ?_⟩) hS ?_
                    rotate_left
                    (focus (go_simp; try (with_reducible rfl)))
                    simp only [List.setIfInBounds_toArray, List.set_cons_succ, List.set_cons_zero]
                    refine wpMix_step rfl (fun K hK => ?_)
                    go_simp
                    refine (rname_v HA3.out _ (by omega)).mono ?_
                    rintro e w5 ⟨rfl, hbd⟩
                    go_simp
                    have hbc' := hbc.tr hbd
                    clear hbc hbd
                    have hbc := hbc'
                    clear hbc'
                    have hS7 := hcells _ hbc
                    refine hK _ _ (fun _ => hS7) ?_
                    clear hK K hS
                    have hS := hS7
                    clear hS7
                    refine wpMix_put (v := ?_) rfl rfl (Or.inl ⟨by rfl, fun wz hz => ?_⟩) hS ?_
                    rotate_left
                    (focus (go_simp; try (with_reducible rfl)))
                    simp only [List.setIfInBounds_toArray, List.set_cons_succ, List.set_cons_zero]
                    refine wpMix_put (v := ?_) rfl rfl (Or.inl ⟨by rfl, fun wz hz => ?_⟩) hS ?_
                    rotate_left
                    (focus (go_simp; try (with_reducible rfl)))
                    simp only [List.setIfInBounds_toArray, List.set_cons_succ, List.set_cons_zero]
                    refine wpMix_put (v := ?_) rfl rfl (Or.inl ⟨by rfl, fun wz hz => ?_⟩) hS ?_
                    rotate_left
                    (focus (go_simp; try (with_reducible rfl)))
                    simp only [List.setIfInBounds_toArray, List.set_cons_succ, List.set_cons_zero]
                    refine wpMix_put (v := ?_) rfl rfl (Or.inl ⟨by rfl, fun wz hz => ?_⟩) hS ?_
                    rotate_left
                    (focus (go_simp; try (with_reducible rfl)))
                    simp only [List.setIfInBounds_toArray, List.set_cons_succ, List.set_cons_zero]
                    refine wpMix_put (v := ?_) rfl rfl (Or.inl ⟨by rfl, fun wz hz => ?_⟩) hS ?_
                    rotate_left
                    (focus (go_simp; try (with_reducible rfl)))
                    simp only [List.setIfInBounds_toArray, List.set_cons_succ, List.set_cons_zero]
                    refine wpMix_put (v := ?_) rfl rfl (Or.inl ⟨by rfl, fun wz hz => ?_⟩) hS ?_
                    rotate_left
                    (focus (go_simp; try (with_reducible rfl)))
                    simp only [List.setIfInBounds_toArray, List.set_cons_succ, List.set_cons_zero]
                    refine wpMix_put (v := ?_) rfl rfl (Or.inl ⟨by rfl, fun wz hz => ?_⟩) hS ?_
                    rotate_left
                    (focus (go_simp; try (with_reducible rfl)))
                    simp only [List.setIfInBounds_toArray, List.set_cons_succ, List.set_cons_zero]
                    refine wpMix_put (v := ?_) rfl rfl (Or.inl ⟨by rfl, fun wz hz => ?_⟩) hS ?_
                    rotate_left
                    (focus (go_simp; try (with_reducible rfl)))
                    simp only [List.setIfInBounds_toArray, List.set_cons_succ, List.set_cons_zero]
                    refine wpMix_put (v := ?_) rfl rfl (Or.inl ⟨by rfl, fun wz hz => ?_⟩) hS ?_
                    rotate_left
                    (focus (go_simp; try (with_reducible rfl)))
                    simp only [List.setIfInBounds_toArray, List.set_cons_succ, List.set_cons_zero]
                    refine wpMix_put (v := ?_) rfl rfl (Or.inl ⟨by rfl, fun wz hz => ?_⟩) hS ?_
                    rotate_left
                    (focus (go_simp; try (with_reducible rfl)))
                    simp only [List.setIfInBounds_toArray, List.set_cons_succ, List.set_cons_zero]
                    refine wpMix_put (v := ?_) rfl rfl (Or.inl ⟨by rfl, fun wz hz => ?_⟩) hS ?_
                    rotate_left
                    (focus (go_simp; try (with_reducible rfl)))
                    simp only [List.setIfInBounds_toArray, List.set_cons_succ, List.set_cons_zero]
                    refine wpMix_put (v := ?_) rfl rfl (Or.inl ⟨by rfl, fun wz hz => ?_⟩) hS ?_
                    rotate_left
                    (focus (go_simp; try (with_reducible rfl)))
                    simp only [List.setIfInBounds_toArray, List.set_cons_succ, List.set_cons_zero]
                    refine wpMix_put (v := ?_) rfl rfl (Or.inl ⟨by rfl, fun wz hz => ?_⟩) hS ?_
                    rotate_left
                    (focus (go_simp; try (with_reducible rfl)))
                    simp only [List.setIfInBounds_toArray, List.set_cons_succ, List.set_cons_zero]
                    refine wpMix_put (v := ?_) rfl rfl (Or.inl ⟨by rfl, fun wz hz => ?_⟩) hS ?_
                    rotate_left
                    (focus (go_simp; try (with_reducible rfl)))
                    simp only [List.setIfInBounds_toArray, List.set_cons_succ, List.set_cons_zero]
                    refine wpMix_put (v := ?_) rfl rfl (Or.inl ⟨by rfl, fun wz hz => ?_⟩) hS ?_
                    rotate_left
                    (focus (go_simp; try (with_reducible rfl)))
                    simp only [List.setIfInBounds_toArray, List.set_cons_succ, List.set_cons_zero]
                    refine wpMix_put (v := ?_) rfl rfl (Or.inl ⟨by rfl, fun wz hz => ?_⟩) hS ?_
                    rotate_left
                    (focus (go_simp; try (with_reducible rfl)))
                    simp only [List.setIfInBounds_toArray, List.set_cons_succ, List.set_cons_zero]
                    refine wpMix_put (v := ?_) rfl rfl (Or.inl ⟨by rfl, fun wz hz => ?_⟩) hS ?_
                    rotate_left
                    (focus (go_simp; try (with_reducible rfl)))
                    simp only [List.setIfInBounds_toArray, List.set_cons_succ, List.set_cons_zero]
                    refine wpMix_put (v := ?_) rfl rfl (Or.inl ⟨by rfl, fun wz hz => ?_⟩) hS ?_
                    rotate_left
                    (focus (go_simp; try (with_reducible rfl)))
                    simp only [List.setIfInBounds_toArray, List.set_cons_succ, List.set_cons_zero]
                    refine wpMix_put (v := ?_) rfl rfl (Or.inl ⟨by rfl, fun wz hz => ?_⟩) hS ?_
                    rotate_left
                    (focus (go_simp; try (with_reducible rfl)))
                    simp only [List.setIfInBounds_toArray, List.set_cons_succ, List.set_cons_zero]
                    refine wpMix_put (v := ?_) rfl rfl (Or.inl ⟨by rfl, fun wz hz => ?_⟩) hS ?_
                    rotate_left
                    (focus (go_simp; try (with_reducible rfl)))
                    simp only [List.setIfInBounds_toArray, List.set_cons_succ, List.set_cons_zero]
                    refine wpMix_nil ?_
                    clear hwrap
                    go_wp2
                    go_ret
                    exact ⟨ret_bool HRS.out.symm, (hbl1.tr hbw).tr hbc⟩
                  · have HRS := Lib.hid (hres2 f3)
                    clear hres1 hres2 f3
                    go_wp2
                    have hwrap := IntWalk.i64_in (q : Int) (by omega)
                    refine wp_region_mix [(true, 0), (true, 1), (true, 2), (true, 3), (true, 4), (false, 5), (true, 6), (true, 7), (true, 8), (true, 9), (true, 10), (true, 11), (true, 12), (true, 13), (true, 14), (true, 15), (true, 16), (true, 17), (true, 18), (true, 19), (true, 20), (true, 21), (true, 22), (true, 23), (true, 24), (true, 25)] 26 (fun wz => wz.cell? ⟨w.heap.size, 4, none⟩ = some (.slice (some ⟨b, off, none⟩) n c) ∧ wz.cell? ⟨b, off + (q + 1), none⟩ = some (.string x) ∧ wz.cell? ⟨b, off + q, none⟩ = some (.string y)) (by kernel_rfl) (by kernel_rfl) ?_
                    refine wpMix_put (v := ?_) rfl rfl (Or.inl ⟨by rfl, fun wz hz => ?_⟩) hS ?_
                    rotate_left
                    (focus (go_simp; try (with_reducible rfl)))
                    simp only [List.setIfInBounds_toArray, List.set_cons_succ, List.set_cons_zero]
                    refine wpMix_put (v := ?_) rfl rfl (Or.inl ⟨by rfl, fun wz hz => ?_⟩) hS ?_
                    rotate_left
                    (focus (go_simp; try (with_reducible rfl)))
                    simp only [List.setIfInBounds_toArray, List.set_cons_succ, List.set_cons_zero]
                    refine wpMix_put (v := ?_) rfl rfl (Or.inl ⟨by rfl, fun wz hz => ?_⟩) hS ?_
                    rotate_left
                    (focus (go_simp; try (with_reducible rfl)))
                    simp only [List.setIfInBounds_toArray, List.set_cons_succ, List.set_cons_zero]
                    refine wpMix_put (v := ?_) rfl rfl (Or.inl ⟨by rfl, fun wz hz => ?_⟩) hS ?_
                    rotate_left
                    (focus (go_simp; try (with_reducible rfl)))
                    simp only [List.setIfInBounds_toArray, List.set_cons_succ, List.set_cons_zero]
                    refine wpMix_put (v := ?_) rfl rfl (Or.inl ⟨by rfl, fun wz hz => ?_⟩) hS ?_
                    rotate_left
                    (focus (go_simp; try (with_reducible rfl)))
                    simp only [List.setIfInBounds_toArray, List.set_cons_succ, List.set_cons_zero]
                    refine wpMix_step rfl (fun K hK => ?_)
                    go_simp
                    refine (rname_v HA3.out _ (by omega)).mono ?_
                    rintro e w5 ⟨rfl, hbd⟩
                    go_simp
                    have hbc' := hbc.tr hbd
                    clear hbc hbd
                    have hbc := hbc'
                    clear hbc'
                    have hS7 := hcells _ hbc
                    refine hK _ _ (fun _ => hS7) ?_
                    clear hK K hS
                    have hS := hS7
                    clear hS7
                    refine wpMix_put (v := ?_) rfl rfl (Or.inl ⟨by rfl, fun wz hz => ?_⟩) hS ?_
                    rotate_left
                    (focus (go_simp; try (with_reducible rfl)))
                    simp only [List.setIfInBounds_toArray, List.set_cons_succ, List.set_cons_zero]
                    refine wpMix_put (v := ?_) rfl rfl (Or.inl ⟨by rfl, fun wz hz => ?_⟩) hS ?_
                    rotate_left
                    (focus (go_simp; try (with_reducible rfl)))
                    simp only [List.setIfInBounds_toArray, List.set_cons_succ, List.set_cons_zero]
                    refine wpMix_put (v := ?_) rfl rfl (Or.inl ⟨by rfl, fun wz hz => ?_⟩) hS ?_
                    rotate_left
                    (focus (go_simp; try (with_reducible rfl)))
                    simp only [List.setIfInBounds_toArray, List.set_cons_succ, List.set_cons_zero]
                    refine wpMix_put (v := ?_) rfl rfl (Or.inl ⟨by rfl, fun wz hz => ?_⟩) hS ?_
                    rotate_left
                    (focus (go_simp; try (with_reducible rfl)))
                    simp only [List.setIfInBounds_toArray, List.set_cons_succ, List.set_cons_zero]
                    refine wpMix_put (v := ?_) rfl rfl (Or.inl ⟨by rfl, fun wz hz => ?_⟩) hS ?_
                    rotate_left
                    (focus (go_simp; try (with_reducible rfl)))
                    simp only [List.setIfInBounds_toArray, List.set_cons_succ, List.set_cons_zero]
                    refine wpMix_put (v := ?_) rfl rfl (Or.inl ⟨by rfl, fun wz hz => ?_⟩) hS ?_
                    rotate_left
                    (focus (go_simp; try (with_reducible rfl)))
                    simp only [List.setIfInBounds_toArray, List.set_cons_succ, List.set_cons_zero]
                    refine wpMix_put (v := ?_) rfl rfl (Or.inl ⟨by rfl, fun wz hz => ?_⟩) hS ?_
                    rotate_left
                    (focus (go_simp; try (with_reducible rfl)))
                    simp only [List.setIfInBounds_toArray, List.set_cons_succ, List.set_cons_zero]
                    refine wpMix_put (v := ?_) rfl rfl (Or.inl ⟨by rfl, fun wz hz => ?_⟩) hS ?_
                    rotate_left
                    (focus (go_simp; try (with_reducible rfl)))
                    simp only [List.setIfInBounds_toArray, List.set_cons_succ, List.set_cons_zero]
                    refine wpMix_put (v := ?_) rfl rfl (Or.inl ⟨by rfl, fun wz hz => ?_⟩) hS ?_
                    rotate_left
                    (focus (go_simp; try (with_reducible rfl)))
                    simp only [List.setIfInBounds_toArray, List.set_cons_succ, List.set_cons_zero]
                    refine wpMix_put (v := ?_) rfl rfl (Or.inl ⟨by rfl, fun wz hz => ?_⟩) hS ?_
                    rotate_left
                    (focus (go_simp; try (with_reducible rfl)))
                    simp only [List.setIfInBounds_toArray, List.set_cons_succ, List.set_cons_zero]
                    refine wpMix_put (v := ?_) rfl rfl (Or.inl ⟨by rfl, fun wz hz => ?_⟩) hS ?_
                    rotate_left
                    (focus (go_simp; try (with_reducible rfl)))
                    simp only [List.setIfInBounds_toArray, List.set_cons_succ, List.set_cons_zero]
                    refine wpMix_put (v := ?_) rfl rfl (Or.inl ⟨by rfl, fun wz hz => ?_⟩) hS ?_
                    rotate_left
                    (focus (go_simp; try (with_reducible rfl)))
                    simp only [List.setIfInBounds_toArray, List.set_cons_succ, List.set_cons_zero]
                    refine wpMix_put (v := ?_) rfl rfl (Or.inl ⟨by rfl, fun wz hz => ?_⟩) hS ?_
                    rotate_left
                    (focus (go_simp; try (with_reducible rfl)))
                    simp only [List.setIfInBounds_toArray, List.set_cons_succ, List.set_cons_zero]
                    refine wpMix_put (v := ?_) rfl rfl (Or.inl ⟨by rfl, fun wz hz => ?_⟩) hS ?_
                    rotate_left
                    (focus (go_simp; try (with_reducible rfl)))
                    simp only [List.setIfInBounds_toArray, List.set_cons_succ, List.set_cons_zero]
                    refine wpMix_put (v := ?_) rfl rfl (Or.inl ⟨by rfl, fun wz hz => ?_⟩) hS ?_
                    rotate_left
                    (focus (go_simp; try (with_reducible rfl)))
                    simp only [List.setIfInBounds_toArray, List.set_cons_succ, List.set_cons_zero]
                    refine wpMix_put (v := ?_) rfl rfl (Or.inl ⟨by rfl, fun wz hz => ?_⟩) hS ?_
                    rotate_left
                    (focus (go_simp; try (with_reducible rfl)))
                    simp only [List.setIfInBounds_toArray, List.set_cons_succ, List.set_cons_zero]
                    refine wpMix_put (v := ?_) rfl rfl (Or.inl ⟨by rfl, fun wz hz => ?_⟩) hS ?_
                    rotate_left
                    (focus (go_simp; try (with_reducible rfl)))
                    simp only [List.setIfInBounds_toArray, List.set_cons_succ, List.set_cons_zero]
                    refine wpMix_put (v := ?_) rfl rfl (Or.inl ⟨by rfl, fun wz hz => ?_⟩) hS ?_
                    rotate_left
                    (focus (go_simp; try (with_reducible rfl)))
                    simp only [List.setIfInBounds_toArray, List.set_cons_succ, List.set_cons_zero]
                    refine wpMix_put (v := ?_) rfl rfl (Or.inl ⟨by rfl, fun wz hz => ?_⟩) hS ?_
                    rotate_left
                    (focus (go_simp; try (with_reducible rfl)))
                    simp only [List.setIfInBounds_toArray, List.set_cons_succ, List.set_cons_zero]
                    refine wpMix_put (v := ?_) rfl rfl (Or.inl ⟨by rfl, fun wz hz => ?_⟩) hS ?_
                    rotate_left
                    (focus (go_simp; try (with_reducible rfl)))
                    simp only [List.setIfInBounds_toArray, List.set_cons_succ, List.set_cons_zero]
                    refine wpMix_nil ?_
                    clear hwrap
                    go_wp2
                    go_roundw
                    case rel => exact ⟨q + 1 + 1, by omega, by go_num, HRS.out, hbw.tr hbc⟩
                    case measure => simp [intOf]; omega
            · have hd := Lib.hid (drop_len hlen hlt)
              go_wp2
              go_ret
              exact ⟨ret_bool (by rw [hg.out, hd.out]; rfl), hbl1.tr hbw⟩
      · have h8' : decide ((8 : Int) < n) = true := decide_eq_true (by omega)
        obtain rfl : false = r := by rw [← hr0]; exact (poss_long (by show ¬ br.length ≤ 8; omega)).symm
        clear ha1 hr0 hrest
        go_enter Tryz.func128, Tryz.ntmps128
        go_wp2_with (go_at_call 170; refine (rname_any nm _ hs1).mono ?_; rintro e w2 ⟨rfl, hb2⟩; rw [HA1.out]; obtain ⟨q0, q1, q2, q3, q4⟩ := box_tm hb2)
        go_ret
        exact ⟨rfl, hbl1.tr hb2⟩
    · obtain rfl : false = r := by rw [← hr0]; exact (poss_num hnum).symm
      have hn4 : ki < 0 ∨ (0 ≤ ki ∧ 2 < ki) ∨ (0 ≤ ki ∧ ki ≤ 2 ∧ la < 0) ∨ (0 ≤ ki ∧ ki ≤ 2 ∧ 0 ≤ la ∧ 3 < la) := by omega
      clear ha1 hr0 hnum
      rcases hn4 with k1 | ⟨k1, k2⟩ | ⟨k1, k2, k3⟩ | ⟨k1, k2, k3, k4⟩
      all_goals
        go_enter Tryz.func128, Tryz.ntmps128
        go_wp2_with (go_at_call 170; refine (rname_any nm _ hs1).mono ?_; rintro e w2 ⟨rfl, hb2⟩; rw [HA1.out]; obtain ⟨q0, q1, q2, q3, q4⟩ := box_tm hb2)
        go_ret
        exact ⟨rfl, hbl1.tr hb2⟩
end Go.Proofs.YtdfnfimajhagfaaGreatDoor
/- The search in breadth of the reference of layer 24: Find, up. -/
namespace Go.Proofs.YtdfnfimajhagfaaGreatDoor
open Go.RowKit Go.Maps Rf
theorem put_new {l : List S} {s : S} (hs : Rf.has l s = false) : (Rf.put l s).length = l.length + 1 := by
  have hk := putAt_le l s l.length
  unfold Rf.put
  simp only
  rw [if_neg]
  · simp only [List.length_append, List.length_take, List.length_cons, List.length_drop]; omega
  · rintro ⟨h0, h1⟩
    have hm : l.getD (putAt l s l.length - 1) ByteArray.empty ∈ l := by
      have hlt : putAt l s l.length - 1 < l.length := by omega
      rw [List.getD_eq_getElem?_getD, List.getElem?_eq_getElem hlt]
      exact List.getElem_mem hlt
    rw [(eqS_iff _ _).1 h1] at hm
    exact (has_false _ _).1 hs hm
/-- the search in breadth under way: the first i of nx are done -/
structure WInv (l : List Term) (a : S) (i : Nat) (nx o : List S) : Prop where
  srt : Sorted o
  mem : ∀ x, x ∈ nx ↔ x = a ∨ x ∈ o
  upp : ∀ x ∈ o, Up (brd l) a x
  don : ∀ x ∈ nx.take i, ∀ y ∈ brd l x, y ∈ o
  len : nx.length = o.length + 1
  few : o.length + unmetN l o ≤ (l.flatMap Term.broader).length
section
variable {l : List Term} {a : S} {i : Nat} {nx o : List S}
theorem WInv.start (l : List Term) (a : S) : WInv l a 0 [a] [] where
  srt := sorted_nil
  mem x := by simp
  upp x h := by cases h
  don x h := by simp at h
  len := rfl
  few := by
    have : unmetN l [] ≤ (l.flatMap Term.broader).length := List.countP_le_length
    simpa using this
theorem WInv.push (h : WInv l a i nx o) (hi : i ≤ nx.length) {x b : S} (hx : x ∈ nx) (hb : b ∈ brd l x) (hm : b ∈ l.flatMap Term.broader) (hn : Rf.has o b = false) : WInv l a i (nx ++ [b]) (Rf.put o b) where
  srt := sorted_put h.srt b
  mem y := by
    rw [List.mem_append, h.mem, mem_put, List.mem_singleton]
    constructor
    · rintro ((h | h) | h)
      · exact .inl h
      · exact .inr (.inr h)
      · exact .inr (.inl h)
    · rintro (h | h | h)
      · exact .inl (.inl h)
      · exact .inr h
      · exact .inl (.inr h)
  upp y hy := by
    rcases (mem_put _ _ _).1 hy with rfl | hy
    · rcases (h.mem x).1 hx with rfl | hx
      · exact .one hb
      · exact (h.upp x hx).snoc hb
    · exact h.upp y hy
  don y hy z hz := by
    rw [List.take_append_of_le_length hi] at hy
    exact (mem_put _ _ _).2 (.inr (h.don y hy z hz))
  len := by rw [List.length_append, put_new hn, h.len]; rfl
  few := by
    have h1 := unmet_snoc hm hn
    have h2 : unmetN l (Rf.put o b) ≤ unmetN l (o ++ [b]) := unmet_sub fun y hy => (mem_put _ _ _).2 (by
      rcases List.mem_append.1 hy with hy | hy
      · exact .inr hy
      · exact .inl (List.mem_singleton.1 hy))
    have h3 := h.few
    rw [put_new hn]; omega
theorem WInv.next (h : WInv l a i nx o) {x : S} (hx : nx[i]? = some x) (hb : ∀ y ∈ brd l x, y ∈ o) : WInv l a (i + 1) nx o :=
  { h with
    don := fun y hy => by
      rw [Rf.take_snoc hx] at hy
      rcases List.mem_append.1 hy with hy | hy
      · exact h.don y hy
      · simp at hy; subst hy; exact hb }
theorem WInv.fin (h : WInv l a i nx o) (hi : nx.length ≤ i) : ups (brd l) a = o :=
  ups_wide h.srt h.mem h.upp fun x hx y hy => h.don x (by rwa [List.take_of_length_le hi]) y hy
theorem WInv.bound (h : WInv l a i nx o) (hl : ∀ t ∈ l, t.broader.length ≤ 100) : nx.length ≤ 100 * l.length + 1 := by
  have h1 := h.few
  have h2 := h.len
  have h3 := flat_few hl
  omega
end
set_option maxRecDepth 20000 in
set_option maxHeartbeats 1000000 in
theorem rfind_any (A : Option Addr) (n c : Nat) (ms : List TM) (s : S) (w : World) (hm : n ≤ 100000) (hl : Tms w A n ms) :
    Calls Tryz.prog 35 #[.slice A n c, .string s] w fun e w' => e = .returned (.int .i64 (findAt (terms ms) s 0)) ∧ w = w' := by
  go_enter Tryz.func35, Tryz.ntmps35
  go_wp2
  go_loop [5] (fun i => ∃ k : Nat, k ≤ n ∧ i = .int .i64 k ∧ Hid (findAt (terms ms) s 0 = findAt ((terms ms).drop k) s k)) (fun i => n - (intOf i).toNat)
  case atStart => exact ⟨0, by omega, rfl, rfl⟩
  case round =>
    obtain ⟨k, hk, rfl, hr⟩ := hrel
    by_cases hlt : k < n
    · obtain ⟨b, off, m, rfl, hx, _, hb0, d1, d2, d3, d4, d5⟩ := hl.at_ hlt
      have hd := Lib.hid (drop_get (terms_get hx))
      clear hx hb0 d2 d3 d4 d5
      cases ho : eqS m.t.name s
      · have ho' : (m.t.name.toList == s.toList) = false := ho
        go_wp2
        go_round
        case rel => exact ⟨k + 1, by omega, by go_num, by show _ = _; rw [hr.out, hd.out, findAt_miss ho]⟩
        case measure => simp [intOf]; omega
      · have ho' : (m.t.name.toList == s.toList) = true := ho
        go_wp2
        go_ret
        exact ⟨ret_i64 (by rw [hr.out, hd.out, findAt_hit ho]), rfl⟩
    · have hd := Lib.hid (drop_len (terms_length hl) hlt)
      go_wp2
      go_ret
      exact ⟨ret_i64 (by rw [hr.out, hd.out]; rfl), rfl⟩
set_option maxRecDepth 20000 in
set_option maxHeartbeats 4000000 in
theorem rup_any (A : Option Addr) (n c : Nat) (ms : List TM) (s : S) (w : World) (hm : n ≤ 128) (hs : s.size ≤ maxLen) (hl : Tms w A n ms) :
    Calls Tryz.prog 94 #[.slice A n c, .string s] w fun e w' => ∃ A' k c', e = .returned (.slice A' k c') ∧ k ≤ c' ∧ k ≤ 1000000 ∧ Strs w' A' k (ups (brd (terms ms)) s) ∧ Below w.heap.size w w' := by
  have HB := Lib.hid (show ∀ (i : Nat) (nx o : List S), WInv (terms ms) s i nx o → nx.length ≤ 12801 from fun i nx o h => by
    have := h.bound hl.few
    rw [terms_length hl] at this
    omega)
  go_enter Tryz.func94, Tryz.ntmps94
  go_wp2
  go_loopw [5, 6, 7] (fun o5 n6 i7 wr => ∃ (i m5 c5 m6 c6 : Nat) (A5 A6 : Option Addr) (nx o : List S), i ≤ m6 ∧ i7 = .int .i64 i ∧ o5 = .slice A5 m5 c5 ∧ n6 = .slice A6 m6 c6 ∧ m5 ≤ c5 ∧ m6 ≤ c6 ∧ Strs wr A5 m5 o ∧
    Own wr w.heap.size 9 1 (.slice A6 m6 c6) m6 (nx.map Value.string) ∧ (∀ x ∈ nx, x.size ≤ maxLen) ∧ Sep wr A5 (.slice A6 m6 c6) ∧ Hid (WInv (terms ms) s i nx o) ∧ Below w.heap.size w wr) (fun _ _ i7 _ => 12802 - (intOf i7).toNat)
  case atStart => exact ⟨0, 0, 0, 1, 1, none, _, [s], [], by omega, rfl, rfl, rfl, by omega, by omega, Strs.nil _, Own.made w [.string s] 9 (n := 1) (Nat.le_refl _) rfl (by decide), by simpa using hs, Sep.no _ _, WInv.start _ _, brefl.al _⟩
  case round =>
    obtain ⟨i, m5, c5, m6, c6, A5, A6, nx, o, hi, rfl, rfl, rfl, hc5, hc6, hs5, ho, hsz, hsp, hW, hbl⟩ := hrel
    have hb6 := HB.out _ _ _ hW.out
    have hm6 : nx.length = m6 := by have := ho.1.1; simpa using this
    rw [hm6] at hb6
    have h5 : o.length = m5 := hs5.1
    have hle := hW.out.len
    rw [hm6, h5] at hle
    have hm5 : m5 ≤ 12801 := by omega
    have HM6 := Lib.hid hm6
    clear hm6 h5 hle
    by_cases hlt : i < m6
    · obtain ⟨b, off, x, hA6, hx, hxs, hb0, hcx⟩ := (Strs.own ho rfl hsz).at_ hlt
      have HX := Lib.hid hx
      subst hA6
      have hlt' : (i : Int) < m6 := by omega
      have hl1 := hl.below hbl
      rcases findAt_cases (terms ms) x 0 with ⟨f1, f2⟩ | ⟨k, t, f1, f2, f3⟩
      · have HN := Lib.hid (hW.out.next hx (fun y hy => by unfold brd at hy; rw [f1] at hy; cases hy))
        clear hx f1 hb0
        go_wp2_with (go_at_call 35; refine (rfind_any _ _ _ ms x _ (by omega) hl1).mono ?_; rintro e _ ⟨rfl, rfl⟩; rw [f2])
        go_roundw
        case rel => exact ⟨i + 1, m5, c5, m6, c6, A5, _, nx, o, by omega, by go_num, rfl, rfl, hc5, hc6, hs5, ho, hsz, hsp, HN, hbl⟩
        case measure => simp [intOf]; omega
      · rw [Nat.zero_add] at f2
        have hkn : k < n := by have := (List.getElem?_eq_some_iff.1 f3).1; rw [terms_length hl] at this; exact this
        obtain ⟨bt, offt, ⟨t', Am, nm, cm⟩, rfl, hxm, hok0, hbt0, ha⟩ := hl.at_ hkn
        have ht : t' = t := by have := terms_get hxm; rw [f3] at this; injection this with this; exact this.symm
        subst ht
        have HBR := Lib.hid (show brd (terms ms) x = t'.broader by unfold brd; rw [f1])
        have hmem := drop_mem f3
        have hstr := hok0.br
        have hfew := hok0.few
        dsimp only at hstr hfew
        clear hx f1 f3 hb0 hxm hok0
        go_wp2_with (go_at_call 35; refine (rfind_any _ _ _ ms x _ (by omega) hl1).mono ?_; rintro e _ ⟨rfl, rfl⟩; rw [f2])
        clear f2 hcx
        obtain ⟨wo, hwo⟩ : ∃ wo : World, wo = wr := ⟨_, rfl⟩
        subst hwo
        go_loopw [5, 6, 9] (fun o5 n6 j9 wr => ∃ (j m5 c5 m6 c6 : Nat) (A5 A6 : Option Addr) (nx o : List S), j ≤ nm ∧ j9 = .int .i64 j ∧ o5 = .slice A5 m5 c5 ∧ n6 = .slice A6 m6 c6 ∧ m5 ≤ c5 ∧ m6 ≤ c6 ∧ i < m6 ∧ Strs wr A5 m5 o ∧
          Own wr w.heap.size 9 1 (.slice A6 m6 c6) m6 (nx.map Value.string) ∧ (∀ x ∈ nx, x.size ≤ maxLen) ∧ Sep wr A5 (.slice A6 m6 c6) ∧ Hid (WInv (terms ms) s i nx o ∧ nx[i]? = some x ∧ ∀ y ∈ t'.broader.take j, y ∈ o) ∧ Below w.heap.size w wr) (fun _ _ j9 _ => nm - (intOf j9).toNat)
        case atStart => exact ⟨0, m5, c5, m6, c6, A5, _, nx, o, by omega, rfl, rfl, rfl, hc5, hc6, hlt, hs5, ho, hsz, hsp, ⟨hW.out, HX.out, by simp⟩, hbl⟩
        case round =>
          clear hs5 ho hsz hsp hW HX HM6 hb6 hm5 hc5 hc6 hl1
          obtain ⟨j, m7, c7, m8, c8, A7, A8, nx2, o2, hj, rfl, rfl, rfl, hc7, hc8, him, hs7, ho8, hsz8, hsp8, hW2, hbl2⟩ := hrel
          have hb8 := HB.out _ _ _ hW2.out.1
          have hm8 : nx2.length = m8 := by have := ho8.1.1; simpa using this
          rw [hm8] at hb8
          have h7 : o2.length = m7 := hs7.1
          have hle := hW2.out.1.len
          rw [hm8, h7] at hle
          have hm7 : m7 ≤ 12801 := by omega
          have HM8 := Lib.hid hm8
          clear hm8 h7 hle
          obtain ⟨e1, e2, e3, e4, e5⟩ := ha.below hbl2 hbt0
          dsimp only at e5
          clear e1 e2 e3 e4
          by_cases hltj : j < nm
          · obtain ⟨b9, off9, y, rfl, hy, hys, hb9, hcy⟩ := (hstr.below hbl2).at_ hltj
            have hmy : y ∈ (terms ms).flatMap Term.broader := List.mem_flatMap.2 ⟨t', hmem, drop_mem hy⟩
            have hyb := drop_mem hy
            have HT := Lib.hid (Rf.take_snoc hy)
            have hltj' : (j : Int) < nm := by omega
            clear hy hb9
            cases hh : Rf.has o2 y
            · have HH := Lib.hid hh
              have HP := Lib.hid (hW2.out.1.push (x := x) (b := y) (by rw [HM8.out]; omega) (List.mem_of_getElem? hW2.out.2.1) (by rw [HBR.out]; exact hyb) hmy hh)
              have HQ := Lib.hid (show (nx2 ++ [y])[i]? = some x ∧ ∀ z ∈ t'.broader.take (j + 1), z ∈ Rf.put o2 y from
                ⟨by rw [List.getElem?_append_left (by rw [HM8.out]; exact him)]; exact hW2.out.2.1, fun z hz => by
                  rw [HT.out] at hz
                  rw [mem_put]
                  rcases List.mem_append.1 hz with hz | hz
                  · exact .inr (hW2.out.2.2 z hz)
                  · simp at hz; exact .inl hz⟩)
              clear hh hmy hyb
              go_wp2_with (first
                | (go_at_call 50; refine (has_any _ _ _ _ _ _ (by omega) hs7).mono ?_; rintro e _ ⟨rfl, rfl⟩; rw [HH.out])
                | (go_at_call 92; refine (put_all _ _ _ _ _ _ (by omega) hc7 hys hs7).mono ?_; rintro e w7 ⟨A9, m9, c9, rfl, hc9, hs9, hb7, hA9⟩)
                | (at_builtin; refine wpList_app _ stringsT rfl (.tmp 52) (.tmp 54) rfl ((ho8.below hb7).alloc _) rfl rfl (news := [.string y]) rfl (Rds.one w7 (.string y) 9) (by simp [Value.oneCell']) ?_ ?_ ?_; (focus omega); (focus omega); intro A4 c4 w4 o4 n4 g4 q4))
              go_roundw
              case rel => exact ⟨j + 1, m9, c9, m8 + 1, c4, A9, A4, nx2 ++ [y], _, by omega, by go_num, rfl, rfl, hc9, n4, by omega, hs9.app (hsp8.put ho8 hb7 hA9 hs9 (put_pos _ _)) g4, by rw [List.map_append]; exact o4, (fun z h => by
                rcases List.mem_append.1 h with h | h
                · exact hsz8 z h
                · simp at h; subst h; exact hys), (hsp8.put ho8 hb7 hA9 hs9 (put_pos _ _)).app g4 q4, ⟨HP.out, HQ.out.1, HQ.out.2⟩, ((hbl2.tr hb7).al _).gr g4 ho8.row⟩
              case measure => simp [intOf]; omega
            · have HH := Lib.hid hh
              have HQ := Lib.hid (show ∀ z ∈ t'.broader.take (j + 1), z ∈ o2 from fun z hz => by
                rw [HT.out] at hz
                rcases List.mem_append.1 hz with hz | hz
                · exact hW2.out.2.2 z hz
                · simp at hz; subst hz; exact (has_iff _ _).1 hh)
              clear hh hmy hyb
              go_wp2_with (go_at_call 50; refine (has_any _ _ _ _ _ _ (by omega) hs7).mono ?_; rintro e _ ⟨rfl, rfl⟩; rw [HH.out])
              go_roundw
              case rel => exact ⟨j + 1, m7, c7, m8, c8, A7, A8, nx2, o2, by omega, by go_num, rfl, rfl, hc7, hc8, him, hs7, ho8, hsz8, hsp8, ⟨hW2.out.1, hW2.out.2.1, HQ.out⟩, hbl2⟩
              case measure => simp [intOf]; omega
          · have hjn : j = nm := by omega
            have HN := Lib.hid (hW2.out.1.next hW2.out.2.1 (fun y hy => hW2.out.2.2 y (by rw [HBR.out] at hy; rwa [List.take_of_length_le (by rw [hstr.1]; omega)])))
            have hltj' : ¬ (j : Int) < nm := by omega
            go_wp2
            go_roundw
            case rel => exact ⟨i + 1, m7, c7, m8, c8, A7, A8, nx2, o2, by omega, by go_num, rfl, rfl, hc7, hc8, hs7, ho8, hsz8, hsp8, HN, hbl2⟩
            case measure => simp [intOf]; omega
    · have HF := Lib.hid (hW.out.fin (by rw [HM6.out]; omega))
      have hlt' : ¬ (i : Int) < m6 := by omega
      go_wp2
      go_ret
      exact ⟨A5, m5, c5, rfl, hc5, by omega, by rw [HF.out]; exact hs5, hbl⟩
end Go.Proofs.YtdfnfimajhagfaaGreatDoor
/- The reference of layer 24: flaw, Valid, Good. -/
namespace Go.Proofs.YtdfnfimajhagfaaGreatDoor
open Go.RowKit Go.Maps Rf
theorem any_snoc {l : List S} {x : S} {p : S → Bool} : (l ++ [x]).any p = (l.any p || p x) := by simp
theorem second_of {l : List Term} {x : S} {t : Term} (h : findT l x = some t) : second l x = !t.see.data.isEmpty := by unfold second; rw [h]
theorem mem_leads {t : Term} {x : S} : x ∈ leads t ↔ (t.see.data.isEmpty = false ∧ x = t.see) ∨ x ∈ t.broader := by
  unfold leads
  rw [List.mem_append]
  cases h : t.see.data.isEmpty <;> simp
/-- what the loop over the names has seen -/
def Fnd (l : List Term) (tl : List S) (j : Nat) (bb : Bool) : Prop := (∀ x ∈ tl.take j, ∃ u, findT l x = some u) ∧ bb = !(tl.take j).any (second l)
theorem Fnd.start (l : List Term) (tl : List S) : Fnd l tl 0 true := ⟨fun x h => by simp at h, by simp⟩
theorem Fnd.next {l : List Term} {tl : List S} {j : Nat} {bb : Bool} (h : Fnd l tl j bb) {x : S} {t : Term} (hx : tl[j]? = some x) (ht : findT l x = some t) : Fnd l tl (j + 1) (bb && t.see.data.isEmpty) := by
  refine ⟨fun y hy => ?_, ?_⟩
  · rw [Rf.take_snoc hx] at hy
    rcases List.mem_append.1 hy with hy | hy
    · exact h.1 y hy
    · simp at hy; subst hy; exact ⟨t, ht⟩
  · rw [Rf.take_snoc hx, any_snoc, second_of ht, h.2]
    cases (tl.take j).any (second l) <;> cases t.see.data.isEmpty <;> rfl
set_option maxRecDepth 20000 in
set_option maxHeartbeats 8000000 in
theorem rflaw_any (A : Option Addr) (n c i : Nat) (ms : List TM) (m : TM) (w : World) (hm : n ≤ 128) (hl : Tms w A n ms) (hi : ms[i]? = some m) (hsm : m.small) :
    Calls Tryz.prog 72 #[.slice A n c, .int .i64 i] w fun e w' => e = .returned (.int .i64 (Rf.flaw (terms ms) (prevT (terms ms) i) m.t)) ∧ Below w.heap.size w w' := by
  have hin : i < n := by rw [← hl.1]; exact (List.getElem?_eq_some_iff.1 hi).1
  obtain ⟨b, off, m', rfl, hx, hok, hb0, ha⟩ := hl.at_ hin
  obtain rfl : m' = m := by rw [hi] at hx; injection hx with hx; exact hx.symm
  obtain ⟨fv, hfv⟩ : ∃ fv, Rf.flaw (terms ms) (prevT (terms ms) i) m'.t = fv := ⟨_, rfl⟩
  rw [hfv]
  obtain ⟨⟨nm, ki, la, se, br⟩, Am, n1, c1⟩ := m'
  obtain ⟨d1, d2, d3, d4, d5⟩ := ha
  have hbl1 : Below w.heap.size w (w.alloc (.cells #[.string nm, .int .i64 ki, .int .i64 la, .string se, .slice Am n1 c1] 33)) := brefl.al _
  have hpo := rposs_any ⟨⟨nm, ki, la, se, br⟩, Am, n1, c1⟩ _ (hok.below hbl1) hsm
  have hnm := hok.nm
  have hse := hok.se
  have hfew := hok.few
  have hbr := hok.br
  dsimp only at d1 d2 d3 d4 d5 hpo hnm hse hfew hbr hfv
  have hin' : (i : Int) < n := by omega
  cases hp : possible ⟨nm, ki, la, se, br⟩
  · obtain rfl : 1 = fv := by rw [← hfv, fl_arg hp]
    rw [hp] at hpo
    clear hfv hx hi hp
    go_enter Tryz.func72, Tryz.ntmps72
    go_wp2_with (go_at_call 128; refine hpo.mono ?_; rintro e w2 ⟨rfl, hb2⟩)
    go_ret
    exact ⟨rfl, hbl1.tr hb2⟩
  · rw [hp] at hpo
    have HP := Lib.hid hp
    have HFV := Lib.hid hfv
    clear hfv hp
    by_cases hi0 : i = 0
    · subst hi0
      have HLT := Lib.hid (show late (prevT (terms ms) 0) ⟨nm, ki, la, se, br⟩ = false from rfl)
      rw [Nat.zero_mul, Nat.add_zero] at d1 d2 d3 d4 d5
      clear hx hi
      go_enter Tryz.func72, Tryz.ntmps72
      go_wp2_with (go_at_call 128; refine hpo.mono ?_; clear hpo; rintro e w2 ⟨rfl, hb2⟩; have q0 := (box_tm hb2).1)
      have hlt2 : w.heap.size < w2.heap.size := Nat.lt_of_lt_of_le (by simp) hb2.size
      have hcells : ∀ wz, Below w2.heap.size w2 wz → wz.cell? ⟨w.heap.size, 0, none⟩ = some (.string nm) := fun wz hz => (hz.cell (p := ⟨w.heap.size, 0, none⟩) hlt2).trans q0
      have hS := hcells _ (brefl.drn 1)
      clear q0
      refine wp_region_mix [(true, 0), (true, 1), (true, 2), (true, 3), (true, 4), (true, 5), (true, 6), (true, 7), (true, 8), (true, 9), (true, 10), (true, 11), (true, 12), (true, 13)] 14 (fun wz => wz.cell? ⟨w.heap.size, 0, none⟩ = some (.string nm)) (by kernel_rfl) (by kernel_rfl) ?_
      refine wpMix_put (v := ?_) rfl rfl (Or.inl ⟨by rfl, fun wz hz => ?_⟩) hS ?_
      rotate_left
      (focus (go_simp; try (with_reducible rfl)))
      simp only [List.setIfInBounds_toArray, List.set_cons_succ, List.set_cons_zero]
      refine wpMix_put (v := ?_) rfl rfl (Or.inl ⟨by rfl, fun wz hz => ?_⟩) hS ?_
      rotate_left
      (focus (go_simp; try (with_reducible rfl)))
      simp only [List.setIfInBounds_toArray, List.set_cons_succ, List.set_cons_zero]
      refine wpMix_put (v := ?_) rfl rfl (Or.inl ⟨by rfl, fun wz hz => ?_⟩) hS ?_
      rotate_left
      (focus (go_simp; try (with_reducible rfl)))
      simp only [List.setIfInBounds_toArray, List.set_cons_succ, List.set_cons_zero]
      refine wpMix_put (v := undef) rfl rfl (Or.inr ⟨by rfl, rfl⟩) hS ?_
      simp only [List.setIfInBounds_toArray, List.set_cons_succ, List.set_cons_zero]
      refine wpMix_put (v := undef) rfl rfl (Or.inr ⟨by rfl, rfl⟩) hS ?_
      simp only [List.setIfInBounds_toArray, List.set_cons_succ, List.set_cons_zero]
      refine wpMix_put (v := undef) rfl rfl (Or.inr ⟨by rfl, rfl⟩) hS ?_
      simp only [List.setIfInBounds_toArray, List.set_cons_succ, List.set_cons_zero]
      refine wpMix_put (v := undef) rfl rfl (Or.inr ⟨by rfl, rfl⟩) hS ?_
      simp only [List.setIfInBounds_toArray, List.set_cons_succ, List.set_cons_zero]
      refine wpMix_put (v := undef) rfl rfl (Or.inr ⟨by rfl, rfl⟩) hS ?_
      simp only [List.setIfInBounds_toArray, List.set_cons_succ, List.set_cons_zero]
      refine wpMix_put (v := undef) rfl rfl (Or.inr ⟨by rfl, rfl⟩) hS ?_
      simp only [List.setIfInBounds_toArray, List.set_cons_succ, List.set_cons_zero]
      refine wpMix_put (v := undef) rfl rfl (Or.inr ⟨by rfl, rfl⟩) hS ?_
      simp only [List.setIfInBounds_toArray, List.set_cons_succ, List.set_cons_zero]
      refine wpMix_put (v := undef) rfl rfl (Or.inr ⟨by rfl, rfl⟩) hS ?_
      simp only [List.setIfInBounds_toArray, List.set_cons_succ, List.set_cons_zero]
      refine wpMix_put (v := undef) rfl rfl (Or.inr ⟨by rfl, rfl⟩) hS ?_
      simp only [List.setIfInBounds_toArray, List.set_cons_succ, List.set_cons_zero]
      refine wpMix_put (v := undef) rfl rfl (Or.inr ⟨by rfl, rfl⟩) hS ?_
      simp only [List.setIfInBounds_toArray, List.set_cons_succ, List.set_cons_zero]
      refine wpMix_put (v := ?_) rfl rfl (Or.inl ⟨by rfl, fun wz hz => ?_⟩) hS ?_
      rotate_left
      (focus (go_simp; try (with_reducible rfl)))
      simp only [List.setIfInBounds_toArray, List.set_cons_succ, List.set_cons_zero]
      refine wpMix_nil ?_
      clear hS hcells d1 d2 d3 d4 d5
      have hb3 := hb2.drn 1
      rw [show w2.drewN 1 = w2.drew from rfl] at hb3
      generalize w2.drew = w3 at hb3 ⊢
      clear hb2
      obtain ⟨q0, q1, q2, q3, q4⟩ := box_tm hb3
      have hw3 : w.heap.size < w3.heap.size := Nat.lt_of_lt_of_le (by simp) hb3.size
      cases hse0 : se.data.isEmpty
      · have h0 := not_empty hse0
        have h2 := (empty_data se).trans hse0
        have HM := Lib.hid (show ∀ x, x ∈ br ++ [se] ↔ x ∈ leads ⟨nm, ki, la, se, br⟩ from fun x => by
          rw [mem_leads, List.mem_append, List.mem_singleton]
          constructor
          · rintro (h | h)
            · exact .inr h
            · exact .inl ⟨hse0, h⟩
          · rintro (⟨_, h⟩ | h)
            · exact .inr h
            · exact .inl h)
        have hsz : ∀ y ∈ br ++ [se], y.size ≤ maxLen := fun y hy => by
          rcases List.mem_append.1 hy with hy | hy
          · exact hbr.2.1 y hy
          · simp at hy; subst hy; exact hse
        clear hse0
        go_wp2_with (first
          | (at_builtin; (refine wpList_app _ stringsT rfl (.tmp 31) (.tmp 33) rfl (Own.empty w3 9 1 (Nat.le_refl _)) rfl rfl (news := br.map Value.string) (by have := hbr.1; simpa using this) ((hbr.below (hbl1.tr (hb3.al (.cells #[] 9)))).2.2) (strs_one _) ?_ ?_ ?_; (focus omega); (focus omega); intro A6 c6 w6 o6 n6 g6 e6; simp only [Nat.zero_add, List.nil_append] at o6 n6 e6; have hb6 := (hb3.al (.cells #[] 9)).gr g6 (fun k e => Nat.le_trans hb3.size ((Own.empty w3 9 1 (Nat.le_refl _)).row k e)); obtain ⟨z0, z1, z2, z3, z4⟩ := box_tm hb6))
          | (at_builtin; go_must (refine wpList_app _ stringsT rfl (.tmp 38) (.tmp 41) rfl (o6.alloc _) rfl rfl (news := [.string se]) rfl (Rds.one w6 (.string se) 9) (by simp [Value.oneCell']) ?_ ?_ ?_; (focus omega); (focus omega); intro A7 c7 w7 o7 n7 g7 e7; have hbx7 := (hb6.al (.cells #[.string se] 9)).gr g7 (fun k e => Nat.le_trans hb3.size (o6.row k e)); have hbw := hbl1.tr hbx7)))
        clear q0 q1 q2 q3 q4 z0 z1 z2 z3 z4 g7 e7 e6 hb6 hb3 h0 h2
        have hl7 := hl.below hbw
        have hto := Strs.own o7 (l := br ++ [se]) (by simp) (fun y hy => hsz y hy)
        have hbw7 := hbw
        have hq7 := (box_tm hbx7).1
        have hw7 : w.heap.size < w7.heap.size := Nat.lt_of_lt_of_le (by simp) hbx7.size
        clear hl o7 hbw hbx7 g6
        go_loop [7, 8] (fun p k => ∃ (j : Nat) (bb : Bool), j ≤ (n1 + 1) ∧ k = .int .i64 j ∧ p = .bool bb ∧ Hid (Fnd (terms ms) (br ++ [se]) j bb)) (fun _ k => (n1 + 1) - (intOf k).toNat)
        case atStart => exact ⟨0, true, by omega, rfl, rfl, Fnd.start _ _⟩
        case round =>
          obtain ⟨j, bb, hj, rfl, rfl, hinv⟩ := hrel
          by_cases hlt : j < (n1 + 1)
          · obtain ⟨bx, ox, x, hAx, hx, hxs, hbx, hcx⟩ := hto.at_ hlt
            subst hAx
            have hxm := Lib.hid ((HM.out x).1 (List.mem_of_getElem? hx))
            have hlt' : (j : Int) < (n1 + 1) := by omega
            have hlt'' : (j : Int) < (((n1 + 1) : Nat) : Int) := by omega
            rcases findAt_cases (terms ms) x 0 with ⟨f1, f2⟩ | ⟨k2, t2, f1, f2, f3⟩
            · obtain rfl : 6 = fv := by rw [← HFV.out, fl_none HP.out HLT.out hxm.out f1]
              clear hx f1 hbx
              go_wp2_with (go_at_call 35; refine (rfind_any _ _ _ ms x _ (by omega) hl7).mono ?_; rintro e _ ⟨rfl, rfl⟩; rw [f2])
              go_ret
              exact ⟨rfl, hbw7⟩
            · rw [Nat.zero_add] at f2
              have HINV := Lib.hid (hinv.out.next hx f1)
              have hk2 : k2 < n := by have := (List.getElem?_eq_some_iff.1 f3).1; rw [terms_length hl7] at this; exact this
              obtain ⟨_, _, ⟨t3, Am2, n2, c2⟩, hA2, hx2, _, hb2', e1, e2, e3, e4, e5⟩ := hl7.at_ hk2
              cases hA2
              have ht : t3 = t2 := by have := terms_get hx2; rw [f3] at this; injection this with this; exact this.symm
              subst ht
              obtain ⟨nm2, ki2, la2, se2, br2⟩ := t3
              dsimp only at e4
              clear hx f1 f3 hx2 hbx hb2' e1 e2 e3 e5 hxm
              have hk2' : (k2 : Int) < n := by omega
              cases bb
              · go_wp2_with (go_at_call 35; refine (rfind_any _ _ _ ms x _ (by omega) hl7).mono ?_; rintro e _ ⟨rfl, rfl⟩; rw [f2])
                go_round
                case rel => exact ⟨j + 1, false, by omega, by go_num, rfl, HINV.out⟩
                case measure => simp [intOf]; omega
              · cases hs2 : se2.data.isEmpty
                · have h0 := not_empty hs2
                  have h2 := (empty_data se2).trans hs2
                  rw [show (true && (Term.mk nm2 ki2 la2 se2 br2).see.data.isEmpty) = false from hs2] at HINV
                  clear hs2
                  go_wp2_with (go_at_call 35; refine (rfind_any _ _ _ ms x _ (by omega) hl7).mono ?_; rintro e _ ⟨rfl, rfl⟩; rw [f2])
                  go_round
                  case rel => exact ⟨j + 1, false, by omega, by go_num, rfl, HINV.out⟩
                  case measure => simp [intOf]; omega
                · obtain rfl := is_empty hs2
                  go_wp2_with (go_at_call 35; refine (rfind_any _ _ _ ms x _ (by omega) hl7).mono ?_; rintro e _ ⟨rfl, rfl⟩; rw [f2])
                  go_round
                  case rel => exact ⟨j + 1, true, by omega, by go_num, rfl, HINV.out⟩
                  case measure => simp [intOf]; omega
          · have hlt' : ¬ (j : Int) < (n1 + 1) := by omega
            have hlt'' : ¬ (j : Int) < (((n1 + 1) : Nat) : Int) := by omega
            have hfi := hinv.out
            unfold Fnd at hfi
            rw [List.take_of_length_le (by rw [hto.1]; omega)] at hfi
            obtain ⟨g1, g2⟩ := hfi
            have G1 := Lib.hid (fun x hx => g1 x ((HM.out x).2 hx))
            clear g1 hto
            cases bb
            · have hex : ∃ x ∈ leads ⟨nm, ki, la, se, br⟩, second (terms ms) x = true := by
                have : ((br ++ [se]).any (second (terms ms))) = true := by
                  cases h : (br ++ [se]).any (second (terms ms))
                  · rw [h] at g2; cases g2
                  · rfl
                obtain ⟨x, hx, h⟩ := List.any_eq_true.1 this
                exact ⟨x, (HM.out x).1 hx, h⟩
              obtain ⟨x, hx, hsx⟩ := hex
              obtain rfl : 12 = fv := by rw [← HFV.out, fl_type HP.out HLT.out G1.out hx hsx]
              clear g2 hx hsx
              go_wp2
              go_ret
              exact ⟨rfl, hbw7⟩
            · have hall : ∀ x ∈ leads ⟨nm, ki, la, se, br⟩, second (terms ms) x = false := by
                intro x hx
                have : ((br ++ [se]).any (second (terms ms))) = false := by
                  cases h : (br ++ [se]).any (second (terms ms))
                  · rfl
                  · rw [h] at g2; cases g2
                rw [List.any_eq_false] at this
                have := this x ((HM.out x).2 hx)
                simpa using this
              have hlast := fl_last (p := prevT (terms ms) 0) HP.out HLT.out G1.out hall
              clear g2 hall
              have hcells : ∀ wz, Below w7.heap.size w7 wz → wz.cell? ⟨w.heap.size, 0, none⟩ = some (.string nm) := fun wz hz => (hz.cell (p := ⟨w.heap.size, 0, none⟩) hw7).trans hq7
              have hbc : Below w7.heap.size w7 w7.drew := brefl.drn 1
              have hS := hcells _ hbc
              obtain ⟨hu, hhu⟩ : ∃ hu, Rf.has (ups (brd (terms ms)) nm) nm = hu := ⟨_, rfl⟩
              have HU := Lib.hid hhu
              cases hu
              · obtain rfl : 0 = fv := by
                  rw [← HFV.out, hlast]; dsimp only; rw [hhu]; rfl
                clear hhu hlast hq7
                go_wp2
                refine wp_region_mix [(true, 0), (true, 1), (true, 2), (true, 4), (true, 5), (false, 3), (false, 6)] 7 (fun wz => wz.cell? ⟨w.heap.size, 0, none⟩ = some (.string nm)) (by kernel_rfl) (by kernel_rfl) ?_
                refine wpMix_put (v := ?_) rfl rfl (Or.inl ⟨by rfl, fun wz hz => ?_⟩) hS ?_
                rotate_left
                (focus (go_simp; try (with_reducible rfl)))
                simp only [List.setIfInBounds_toArray, List.set_cons_succ, List.set_cons_zero]
                refine wpMix_put (v := ?_) rfl rfl (Or.inl ⟨by rfl, fun wz hz => ?_⟩) hS ?_
                rotate_left
                (focus (go_simp; try (with_reducible rfl)))
                simp only [List.setIfInBounds_toArray, List.set_cons_succ, List.set_cons_zero]
                refine wpMix_put (v := ?_) rfl rfl (Or.inl ⟨by rfl, fun wz hz => ?_⟩) hS ?_
                rotate_left
                (focus (go_simp; try (with_reducible rfl)))
                simp only [List.setIfInBounds_toArray, List.set_cons_succ, List.set_cons_zero]
                refine wpMix_put (v := ?_) rfl rfl (Or.inl ⟨by rfl, fun wz hz => ?_⟩) hS ?_
                rotate_left
                (focus (go_simp; try (with_reducible rfl)))
                simp only [List.setIfInBounds_toArray, List.set_cons_succ, List.set_cons_zero]
                refine wpMix_put (v := ?_) rfl rfl (Or.inl ⟨by rfl, fun wz hz => ?_⟩) hS ?_
                rotate_left
                (focus (go_simp; try (with_reducible rfl)))
                simp only [List.setIfInBounds_toArray, List.set_cons_succ, List.set_cons_zero]
                refine wpMix_step rfl (fun K hK => ?_)
                go_simp
                refine (rup_any (some ⟨b, off, none⟩) n c ms nm _ hm hnm (hl7.below hbc)).mono ?_
                rintro e w10 ⟨A10, k10, c10, rfl, hc10, hk10, hs10, hbd⟩
                go_simp
                have hbc' := hbc.tr hbd
                clear hbc hbd
                have hbc := hbc'
                clear hbc'
                have hS7 := hcells _ hbc
                refine hK _ _ (fun _ => hS7) ?_
                clear hK K hS
                have hS := hS7
                clear hS7
                refine wpMix_step rfl (fun K hK => ?_)
                go_simp
                have hq := has_any A10 k10 c10 _ nm _ (by omega) hs10
                rw [HU.out] at hq
                refine hq.mono ?_
                clear hq
                rintro e _ ⟨rfl, rfl⟩
                go_simp
                refine hK _ _ (fun _ => hS) ?_
                clear hK K hs10
                refine wpMix_nil ?_
                go_wp2
                go_ret
                exact ⟨rfl, hbw7.tr hbc⟩
              · obtain rfl : 13 = fv := by
                  rw [← HFV.out, hlast]; dsimp only; rw [hhu]; rfl
                clear hhu hlast hq7
                go_wp2
                refine wp_region_mix [(true, 0), (true, 1), (true, 2), (true, 4), (true, 5), (false, 3), (false, 6)] 7 (fun wz => wz.cell? ⟨w.heap.size, 0, none⟩ = some (.string nm)) (by kernel_rfl) (by kernel_rfl) ?_
                refine wpMix_put (v := ?_) rfl rfl (Or.inl ⟨by rfl, fun wz hz => ?_⟩) hS ?_
                rotate_left
                (focus (go_simp; try (with_reducible rfl)))
                simp only [List.setIfInBounds_toArray, List.set_cons_succ, List.set_cons_zero]
                refine wpMix_put (v := ?_) rfl rfl (Or.inl ⟨by rfl, fun wz hz => ?_⟩) hS ?_
                rotate_left
                (focus (go_simp; try (with_reducible rfl)))
                simp only [List.setIfInBounds_toArray, List.set_cons_succ, List.set_cons_zero]
                refine wpMix_put (v := ?_) rfl rfl (Or.inl ⟨by rfl, fun wz hz => ?_⟩) hS ?_
                rotate_left
                (focus (go_simp; try (with_reducible rfl)))
                simp only [List.setIfInBounds_toArray, List.set_cons_succ, List.set_cons_zero]
                refine wpMix_put (v := ?_) rfl rfl (Or.inl ⟨by rfl, fun wz hz => ?_⟩) hS ?_
                rotate_left
                (focus (go_simp; try (with_reducible rfl)))
                simp only [List.setIfInBounds_toArray, List.set_cons_succ, List.set_cons_zero]
                refine wpMix_put (v := ?_) rfl rfl (Or.inl ⟨by rfl, fun wz hz => ?_⟩) hS ?_
                rotate_left
                (focus (go_simp; try (with_reducible rfl)))
                simp only [List.setIfInBounds_toArray, List.set_cons_succ, List.set_cons_zero]
                refine wpMix_step rfl (fun K hK => ?_)
                go_simp
                refine (rup_any (some ⟨b, off, none⟩) n c ms nm _ hm hnm (hl7.below hbc)).mono ?_
                rintro e w10 ⟨A10, k10, c10, rfl, hc10, hk10, hs10, hbd⟩
                go_simp
                have hbc' := hbc.tr hbd
                clear hbc hbd
                have hbc := hbc'
                clear hbc'
                have hS7 := hcells _ hbc
                refine hK _ _ (fun _ => hS7) ?_
                clear hK K hS
                have hS := hS7
                clear hS7
                refine wpMix_step rfl (fun K hK => ?_)
                go_simp
                have hq := has_any A10 k10 c10 _ nm _ (by omega) hs10
                rw [HU.out] at hq
                refine hq.mono ?_
                clear hq
                rintro e _ ⟨rfl, rfl⟩
                go_simp
                refine hK _ _ (fun _ => hS) ?_
                clear hK K hs10
                refine wpMix_nil ?_
                go_wp2
                go_ret
                exact ⟨rfl, hbw7.tr hbc⟩
      · obtain rfl := is_empty hse0
        have HM := Lib.hid (show ∀ x, x ∈ br ↔ x ∈ leads ⟨nm, ki, la, ⟨#[]⟩, br⟩ from fun x => by
          rw [mem_leads]
          constructor
          · exact .inr
          · rintro (⟨h, _⟩ | h)
            · cases h
            · exact h)
        have hsz : ∀ y ∈ br, y.size ≤ maxLen := hbr.2.1
        clear hse0
        go_wp2_with (at_builtin; (refine wpList_app _ stringsT rfl (.tmp 31) (.tmp 33) rfl (Own.empty w3 9 1 (Nat.le_refl _)) rfl rfl (news := br.map Value.string) (by have := hbr.1; simpa using this) ((hbr.below (hbl1.tr (hb3.al (.cells #[] 9)))).2.2) (strs_one _) ?_ ?_ ?_; (focus omega); (focus omega); intro A6 c6 w6 o6 n6 g6 e6; simp only [Nat.zero_add, List.nil_append] at o6 n6 e6; have hb6 := (hb3.al (.cells #[] 9)).gr g6 (fun k e => Nat.le_trans hb3.size ((Own.empty w3 9 1 (Nat.le_refl _)).row k e)); obtain ⟨z0, z1, z2, z3, z4⟩ := box_tm hb6))
        have hbx7 := hb6
        have hbw := hbl1.tr hbx7
        clear q0 q1 q2 q3 q4 z0 z1 z2 z3 z4 e6 hb6 hb3
        obtain ⟨w7, hw7⟩ : ∃ w7 : World, w7 = w6 := ⟨_, rfl⟩
        subst hw7
        have hl7 := hl.below hbw
        have hto := Strs.own o6 (l := br) (by simp) (fun y hy => hsz y hy)
        have hbw7 := hbw
        have hq7 := (box_tm hbx7).1
        have hw7 : w.heap.size < w7.heap.size := Nat.lt_of_lt_of_le (by simp) hbx7.size
        clear hl o6 hbw hbx7 g6
        go_loop [7, 8] (fun p k => ∃ (j : Nat) (bb : Bool), j ≤ n1 ∧ k = .int .i64 j ∧ p = .bool bb ∧ Hid (Fnd (terms ms) (br) j bb)) (fun _ k => n1 - (intOf k).toNat)
        case atStart => exact ⟨0, true, by omega, rfl, rfl, Fnd.start _ _⟩
        case round =>
          obtain ⟨j, bb, hj, rfl, rfl, hinv⟩ := hrel
          by_cases hlt : j < n1
          · obtain ⟨bx, ox, x, hAx, hx, hxs, hbx, hcx⟩ := hto.at_ hlt
            subst hAx
            have hxm := Lib.hid ((HM.out x).1 (List.mem_of_getElem? hx))
            have hlt' : (j : Int) < n1 := by omega
            have hlt'' : (j : Int) < ((n1 : Nat) : Int) := by omega
            rcases findAt_cases (terms ms) x 0 with ⟨f1, f2⟩ | ⟨k2, t2, f1, f2, f3⟩
            · obtain rfl : 6 = fv := by rw [← HFV.out, fl_none HP.out HLT.out hxm.out f1]
              clear hx f1 hbx
              go_wp2_with (go_at_call 35; refine (rfind_any _ _ _ ms x _ (by omega) hl7).mono ?_; rintro e _ ⟨rfl, rfl⟩; rw [f2])
              go_ret
              exact ⟨rfl, hbw7⟩
            · rw [Nat.zero_add] at f2
              have HINV := Lib.hid (hinv.out.next hx f1)
              have hk2 : k2 < n := by have := (List.getElem?_eq_some_iff.1 f3).1; rw [terms_length hl7] at this; exact this
              obtain ⟨_, _, ⟨t3, Am2, n2, c2⟩, hA2, hx2, _, hb2', e1, e2, e3, e4, e5⟩ := hl7.at_ hk2
              cases hA2
              have ht : t3 = t2 := by have := terms_get hx2; rw [f3] at this; injection this with this; exact this.symm
              subst ht
              obtain ⟨nm2, ki2, la2, se2, br2⟩ := t3
              dsimp only at e4
              clear hx f1 f3 hx2 hbx hb2' e1 e2 e3 e5 hxm
              have hk2' : (k2 : Int) < n := by omega
              cases bb
              · go_wp2_with (go_at_call 35; refine (rfind_any _ _ _ ms x _ (by omega) hl7).mono ?_; rintro e _ ⟨rfl, rfl⟩; rw [f2])
                go_round
                case rel => exact ⟨j + 1, false, by omega, by go_num, rfl, HINV.out⟩
                case measure => simp [intOf]; omega
              · cases hs2 : se2.data.isEmpty
                · have h0 := not_empty hs2
                  have h2 := (empty_data se2).trans hs2
                  rw [show (true && (Term.mk nm2 ki2 la2 se2 br2).see.data.isEmpty) = false from hs2] at HINV
                  clear hs2
                  go_wp2_with (go_at_call 35; refine (rfind_any _ _ _ ms x _ (by omega) hl7).mono ?_; rintro e _ ⟨rfl, rfl⟩; rw [f2])
                  go_round
                  case rel => exact ⟨j + 1, false, by omega, by go_num, rfl, HINV.out⟩
                  case measure => simp [intOf]; omega
                · obtain rfl := is_empty hs2
                  go_wp2_with (go_at_call 35; refine (rfind_any _ _ _ ms x _ (by omega) hl7).mono ?_; rintro e _ ⟨rfl, rfl⟩; rw [f2])
                  go_round
                  case rel => exact ⟨j + 1, true, by omega, by go_num, rfl, HINV.out⟩
                  case measure => simp [intOf]; omega
          · have hlt' : ¬ (j : Int) < n1 := by omega
            have hlt'' : ¬ (j : Int) < ((n1 : Nat) : Int) := by omega
            have hfi := hinv.out
            unfold Fnd at hfi
            rw [List.take_of_length_le (by rw [hto.1]; omega)] at hfi
            obtain ⟨g1, g2⟩ := hfi
            have G1 := Lib.hid (fun x hx => g1 x ((HM.out x).2 hx))
            clear g1 hto
            cases bb
            · have hex : ∃ x ∈ leads ⟨nm, ki, la, ⟨#[]⟩, br⟩, second (terms ms) x = true := by
                have : ((br).any (second (terms ms))) = true := by
                  cases h : (br).any (second (terms ms))
                  · rw [h] at g2; cases g2
                  · rfl
                obtain ⟨x, hx, h⟩ := List.any_eq_true.1 this
                exact ⟨x, (HM.out x).1 hx, h⟩
              obtain ⟨x, hx, hsx⟩ := hex
              obtain rfl : 12 = fv := by rw [← HFV.out, fl_type HP.out HLT.out G1.out hx hsx]
              clear g2 hx hsx
              go_wp2
              go_ret
              exact ⟨rfl, hbw7⟩
            · have hall : ∀ x ∈ leads ⟨nm, ki, la, ⟨#[]⟩, br⟩, second (terms ms) x = false := by
                intro x hx
                have : ((br).any (second (terms ms))) = false := by
                  cases h : (br).any (second (terms ms))
                  · rfl
                  · rw [h] at g2; cases g2
                rw [List.any_eq_false] at this
                have := this x ((HM.out x).2 hx)
                simpa using this
              have hlast := fl_last (p := prevT (terms ms) 0) HP.out HLT.out G1.out hall
              clear g2 hall
              have hcells : ∀ wz, Below w7.heap.size w7 wz → wz.cell? ⟨w.heap.size, 0, none⟩ = some (.string nm) := fun wz hz => (hz.cell (p := ⟨w.heap.size, 0, none⟩) hw7).trans hq7
              have hbc : Below w7.heap.size w7 w7.drew := brefl.drn 1
              have hS := hcells _ hbc
              obtain ⟨hu, hhu⟩ : ∃ hu, Rf.has (ups (brd (terms ms)) nm) nm = hu := ⟨_, rfl⟩
              have HU := Lib.hid hhu
              cases hu
              · obtain rfl : 0 = fv := by
                  rw [← HFV.out, hlast]; dsimp only; rw [hhu]; rfl
                clear hhu hlast hq7
                go_wp2
                refine wp_region_mix [(true, 0), (true, 1), (true, 2), (true, 4), (true, 5), (false, 3), (false, 6)] 7 (fun wz => wz.cell? ⟨w.heap.size, 0, none⟩ = some (.string nm)) (by kernel_rfl) (by kernel_rfl) ?_
                refine wpMix_put (v := ?_) rfl rfl (Or.inl ⟨by rfl, fun wz hz => ?_⟩) hS ?_
                rotate_left
                (focus (go_simp; try (with_reducible rfl)))
                simp only [List.setIfInBounds_toArray, List.set_cons_succ, List.set_cons_zero]
                refine wpMix_put (v := ?_) rfl rfl (Or.inl ⟨by rfl, fun wz hz => ?_⟩) hS ?_
                rotate_left
                (focus (go_simp; try (with_reducible rfl)))
                simp only [List.setIfInBounds_toArray, List.set_cons_succ, List.set_cons_zero]
                refine wpMix_put (v := ?_) rfl rfl (Or.inl ⟨by rfl, fun wz hz => ?_⟩) hS ?_
                rotate_left
                (focus (go_simp; try (with_reducible rfl)))
                simp only [List.setIfInBounds_toArray, List.set_cons_succ, List.set_cons_zero]
                refine wpMix_put (v := ?_) rfl rfl (Or.inl ⟨by rfl, fun wz hz => ?_⟩) hS ?_
                rotate_left
                (focus (go_simp; try (with_reducible rfl)))
                simp only [List.setIfInBounds_toArray, List.set_cons_succ, List.set_cons_zero]
                refine wpMix_put (v := ?_) rfl rfl (Or.inl ⟨by rfl, fun wz hz => ?_⟩) hS ?_
                rotate_left
                (focus (go_simp; try (with_reducible rfl)))
                simp only [List.setIfInBounds_toArray, List.set_cons_succ, List.set_cons_zero]
                refine wpMix_step rfl (fun K hK => ?_)
                go_simp
                refine (rup_any (some ⟨b, off, none⟩) n c ms nm _ hm hnm (hl7.below hbc)).mono ?_
                rintro e w10 ⟨A10, k10, c10, rfl, hc10, hk10, hs10, hbd⟩
                go_simp
                have hbc' := hbc.tr hbd
                clear hbc hbd
                have hbc := hbc'
                clear hbc'
                have hS7 := hcells _ hbc
                refine hK _ _ (fun _ => hS7) ?_
                clear hK K hS
                have hS := hS7
                clear hS7
                refine wpMix_step rfl (fun K hK => ?_)
                go_simp
                have hq := has_any A10 k10 c10 _ nm _ (by omega) hs10
                rw [HU.out] at hq
                refine hq.mono ?_
                clear hq
                rintro e _ ⟨rfl, rfl⟩
                go_simp
                refine hK _ _ (fun _ => hS) ?_
                clear hK K hs10
                refine wpMix_nil ?_
                go_wp2
                go_ret
                exact ⟨rfl, hbw7.tr hbc⟩
              · obtain rfl : 13 = fv := by
                  rw [← HFV.out, hlast]; dsimp only; rw [hhu]; rfl
                clear hhu hlast hq7
                go_wp2
                refine wp_region_mix [(true, 0), (true, 1), (true, 2), (true, 4), (true, 5), (false, 3), (false, 6)] 7 (fun wz => wz.cell? ⟨w.heap.size, 0, none⟩ = some (.string nm)) (by kernel_rfl) (by kernel_rfl) ?_
                refine wpMix_put (v := ?_) rfl rfl (Or.inl ⟨by rfl, fun wz hz => ?_⟩) hS ?_
                rotate_left
                (focus (go_simp; try (with_reducible rfl)))
                simp only [List.setIfInBounds_toArray, List.set_cons_succ, List.set_cons_zero]
                refine wpMix_put (v := ?_) rfl rfl (Or.inl ⟨by rfl, fun wz hz => ?_⟩) hS ?_
                rotate_left
                (focus (go_simp; try (with_reducible rfl)))
                simp only [List.setIfInBounds_toArray, List.set_cons_succ, List.set_cons_zero]
                refine wpMix_put (v := ?_) rfl rfl (Or.inl ⟨by rfl, fun wz hz => ?_⟩) hS ?_
                rotate_left
                (focus (go_simp; try (with_reducible rfl)))
                simp only [List.setIfInBounds_toArray, List.set_cons_succ, List.set_cons_zero]
                refine wpMix_put (v := ?_) rfl rfl (Or.inl ⟨by rfl, fun wz hz => ?_⟩) hS ?_
                rotate_left
                (focus (go_simp; try (with_reducible rfl)))
                simp only [List.setIfInBounds_toArray, List.set_cons_succ, List.set_cons_zero]
                refine wpMix_put (v := ?_) rfl rfl (Or.inl ⟨by rfl, fun wz hz => ?_⟩) hS ?_
                rotate_left
                (focus (go_simp; try (with_reducible rfl)))
                simp only [List.setIfInBounds_toArray, List.set_cons_succ, List.set_cons_zero]
                refine wpMix_step rfl (fun K hK => ?_)
                go_simp
                refine (rup_any (some ⟨b, off, none⟩) n c ms nm _ hm hnm (hl7.below hbc)).mono ?_
                rintro e w10 ⟨A10, k10, c10, rfl, hc10, hk10, hs10, hbd⟩
                go_simp
                have hbc' := hbc.tr hbd
                clear hbc hbd
                have hbc := hbc'
                clear hbc'
                have hS7 := hcells _ hbc
                refine hK _ _ (fun _ => hS7) ?_
                clear hK K hS
                have hS := hS7
                clear hS7
                refine wpMix_step rfl (fun K hK => ?_)
                go_simp
                have hq := has_any A10 k10 c10 _ nm _ (by omega) hs10
                rw [HU.out] at hq
                refine hq.mono ?_
                clear hq
                rintro e _ ⟨rfl, rfl⟩
                go_simp
                refine hK _ _ (fun _ => hS) ?_
                clear hK K hs10
                refine wpMix_nil ?_
                go_wp2
                go_ret
                exact ⟨rfl, hbw7.tr hbc⟩
    · obtain ⟨q, rfl⟩ : ∃ q, i = q + 1 := ⟨i - 1, by omega⟩
      obtain ⟨b', off', mq, hAq, hxq, hokq, hb0q, g1, g2, g3, g4, g5⟩ := hl.at_ (k := q) (by omega)
      injection hAq with hAq
      injection hAq with hAq1 hAq2
      subst hAq1; subst hAq2
      have hpv : prevT (terms ms) (q + 1) = some mq.t := by unfold prevT; rw [if_neg (by omega)]; exact terms_get hxq
      obtain ⟨pn, hpn⟩ : ∃ pn, mq.t.name = pn := ⟨_, rfl⟩
      rw [hpn] at g1
      have hlt3 : ∀ v, ltS pn nm = v → late (prevT (terms ms) (q + 1)) ⟨nm, ki, la, se, br⟩ = !v := fun v hv => by rw [hpv]; show (!ltS mq.t.name nm) = _; rw [hpn, hv]
      clear g2 g3 g4 g5 hx hi hxq hpv hpn hokq
      have hq0 : (0 : Int) ≤ (q : Int) := by omega
      have hq1 : (q : Int) < n := by omega
      have hq2 : ¬ (q : Int) < 0 := by omega
      have hq3 : (q : Int) + 1 < n := by omega
      have hq5 : (0 : Int) ≤ (q : Int) + 1 := by omega
      have hq6 : (0 : Int) < (q : Int) + 1 := by omega
      have hmax : (if (q : Int) < 0 then (0 : Int) else q) = q := if_neg hq2
      rw [show ((q + 1 : Nat) : Int) = (q : Int) + 1 from rfl] at *
      rcases cmp3 nm pn with ⟨f1, f2, f3⟩ | ⟨f1, f2, f3⟩ | ⟨f1, f2, f3⟩
      · obtain rfl : 7 = fv := by rw [← HFV.out, fl_twice HP.out (hlt3 _ f3)]
        clear hlt3 f3
        go_enter Tryz.func72, Tryz.ntmps72
        go_wp2_with (go_at_call 128; refine hpo.mono ?_; clear hpo; rintro e w2 ⟨rfl, hb2⟩; have q0 := (box_tm hb2).1)
        have hlt2 : w.heap.size < w2.heap.size := Nat.lt_of_lt_of_le (by simp) hb2.size
        have hcells : ∀ wz, Below w2.heap.size w2 wz → wz.cell? ⟨w.heap.size, 0, none⟩ = some (.string nm) ∧ wz.cell? ⟨b, off + q * 5, none⟩ = some (.string pn) := fun wz hz => ⟨(hz.cell (p := ⟨w.heap.size, 0, none⟩) hlt2).trans q0, ((hbl1.tr (hb2.tr hz)).cell (p := ⟨b, off + q * 5, none⟩) hb0q).trans g1⟩
        have hS := hcells _ (brefl.drn 1)
        have hwrap := IntWalk.i64_in (q : Int) (by omega)
        clear q0
        refine wp_region_mix [(true, 0), (true, 1), (true, 2), (true, 3), (true, 4), (true, 5), (true, 6), (true, 7), (true, 8), (true, 9), (true, 10), (true, 11), (true, 12), (true, 13)] 14 (fun wz => wz.cell? ⟨w.heap.size, 0, none⟩ = some (.string nm) ∧ wz.cell? ⟨b, off + q * 5, none⟩ = some (.string pn)) (by kernel_rfl) (by kernel_rfl) ?_
        refine wpMix_put (v := ?_) rfl rfl (Or.inl ⟨by rfl, fun wz hz => ?_⟩) hS ?_
        rotate_left
        (focus (go_simp; try (with_reducible rfl)))
        simp only [List.setIfInBounds_toArray, List.set_cons_succ, List.set_cons_zero]
        refine wpMix_put (v := ?_) rfl rfl (Or.inl ⟨by rfl, fun wz hz => ?_⟩) hS ?_
        rotate_left
        (focus (go_simp; try (with_reducible rfl)))
        simp only [List.setIfInBounds_toArray, List.set_cons_succ, List.set_cons_zero]
        refine wpMix_put (v := ?_) rfl rfl (Or.inl ⟨by rfl, fun wz hz => ?_⟩) hS ?_
        rotate_left
        (focus (go_simp; try (with_reducible rfl)))
        simp only [List.setIfInBounds_toArray, List.set_cons_succ, List.set_cons_zero]
        refine wpMix_put (v := ?_) rfl rfl (Or.inl ⟨by rfl, fun wz hz => ?_⟩) hS ?_
        rotate_left
        (focus (go_simp; try (with_reducible rfl)))
        simp only [List.setIfInBounds_toArray, List.set_cons_succ, List.set_cons_zero]
        refine wpMix_put (v := ?_) rfl rfl (Or.inl ⟨by rfl, fun wz hz => ?_⟩) hS ?_
        rotate_left
        (focus (go_simp; try (with_reducible rfl)))
        simp only [List.setIfInBounds_toArray, List.set_cons_succ, List.set_cons_zero]
        refine wpMix_put (v := ?_) rfl rfl (Or.inl ⟨by rfl, fun wz hz => ?_⟩) hS ?_
        rotate_left
        (focus (go_simp; try (with_reducible rfl)))
        simp only [List.setIfInBounds_toArray, List.set_cons_succ, List.set_cons_zero]
        refine wpMix_put (v := ?_) rfl rfl (Or.inl ⟨by rfl, fun wz hz => ?_⟩) hS ?_
        rotate_left
        (focus (go_simp; try (with_reducible rfl)))
        simp only [List.setIfInBounds_toArray, List.set_cons_succ, List.set_cons_zero]
        refine wpMix_put (v := ?_) rfl rfl (Or.inl ⟨by rfl, fun wz hz => ?_⟩) hS ?_
        rotate_left
        (focus (go_simp; try (with_reducible rfl)))
        simp only [List.setIfInBounds_toArray, List.set_cons_succ, List.set_cons_zero]
        refine wpMix_put (v := ?_) rfl rfl (Or.inl ⟨by rfl, fun wz hz => ?_⟩) hS ?_
        rotate_left
        (focus (go_simp; try (with_reducible rfl)))
        simp only [List.setIfInBounds_toArray, List.set_cons_succ, List.set_cons_zero]
        refine wpMix_put (v := ?_) rfl rfl (Or.inl ⟨by rfl, fun wz hz => ?_⟩) hS ?_
        rotate_left
        (focus (go_simp; try (with_reducible rfl)))
        simp only [List.setIfInBounds_toArray, List.set_cons_succ, List.set_cons_zero]
        refine wpMix_put (v := ?_) rfl rfl (Or.inl ⟨by rfl, fun wz hz => ?_⟩) hS ?_
        rotate_left
        (focus (go_simp; try (with_reducible rfl)))
        simp only [List.setIfInBounds_toArray, List.set_cons_succ, List.set_cons_zero]
        refine wpMix_put (v := ?_) rfl rfl (Or.inl ⟨by rfl, fun wz hz => ?_⟩) hS ?_
        rotate_left
        (focus (go_simp; try (with_reducible rfl)))
        simp only [List.setIfInBounds_toArray, List.set_cons_succ, List.set_cons_zero]
        refine wpMix_put (v := ?_) rfl rfl (Or.inl ⟨by rfl, fun wz hz => ?_⟩) hS ?_
        rotate_left
        (focus (go_simp; try (with_reducible rfl)))
        simp only [List.setIfInBounds_toArray, List.set_cons_succ, List.set_cons_zero]
        refine wpMix_put (v := ?_) rfl rfl (Or.inl ⟨by rfl, fun wz hz => ?_⟩) hS ?_
        rotate_left
        (focus (go_simp; try (with_reducible rfl)))
        simp only [List.setIfInBounds_toArray, List.set_cons_succ, List.set_cons_zero]
        refine wpMix_nil ?_
        clear hS hcells hwrap d1 d2 d3 d4 d5 g1 hmax
        go_wp2
        go_ret
        exact ⟨rfl, hbl1.tr (hb2.drn 1)⟩
      · obtain rfl : 7 = fv := by rw [← HFV.out, fl_twice HP.out (hlt3 _ f3)]
        clear hlt3 f3
        go_enter Tryz.func72, Tryz.ntmps72
        go_wp2_with (go_at_call 128; refine hpo.mono ?_; clear hpo; rintro e w2 ⟨rfl, hb2⟩; have q0 := (box_tm hb2).1)
        have hlt2 : w.heap.size < w2.heap.size := Nat.lt_of_lt_of_le (by simp) hb2.size
        have hcells : ∀ wz, Below w2.heap.size w2 wz → wz.cell? ⟨w.heap.size, 0, none⟩ = some (.string nm) ∧ wz.cell? ⟨b, off + q * 5, none⟩ = some (.string pn) := fun wz hz => ⟨(hz.cell (p := ⟨w.heap.size, 0, none⟩) hlt2).trans q0, ((hbl1.tr (hb2.tr hz)).cell (p := ⟨b, off + q * 5, none⟩) hb0q).trans g1⟩
        have hS := hcells _ (brefl.drn 1)
        have hwrap := IntWalk.i64_in (q : Int) (by omega)
        clear q0
        refine wp_region_mix [(true, 0), (true, 1), (true, 2), (true, 3), (true, 4), (true, 5), (true, 6), (true, 7), (true, 8), (true, 9), (true, 10), (true, 11), (true, 12), (true, 13)] 14 (fun wz => wz.cell? ⟨w.heap.size, 0, none⟩ = some (.string nm) ∧ wz.cell? ⟨b, off + q * 5, none⟩ = some (.string pn)) (by kernel_rfl) (by kernel_rfl) ?_
        refine wpMix_put (v := ?_) rfl rfl (Or.inl ⟨by rfl, fun wz hz => ?_⟩) hS ?_
        rotate_left
        (focus (go_simp; try (with_reducible rfl)))
        simp only [List.setIfInBounds_toArray, List.set_cons_succ, List.set_cons_zero]
        refine wpMix_put (v := ?_) rfl rfl (Or.inl ⟨by rfl, fun wz hz => ?_⟩) hS ?_
        rotate_left
        (focus (go_simp; try (with_reducible rfl)))
        simp only [List.setIfInBounds_toArray, List.set_cons_succ, List.set_cons_zero]
        refine wpMix_put (v := ?_) rfl rfl (Or.inl ⟨by rfl, fun wz hz => ?_⟩) hS ?_
        rotate_left
        (focus (go_simp; try (with_reducible rfl)))
        simp only [List.setIfInBounds_toArray, List.set_cons_succ, List.set_cons_zero]
        refine wpMix_put (v := ?_) rfl rfl (Or.inl ⟨by rfl, fun wz hz => ?_⟩) hS ?_
        rotate_left
        (focus (go_simp; try (with_reducible rfl)))
        simp only [List.setIfInBounds_toArray, List.set_cons_succ, List.set_cons_zero]
        refine wpMix_put (v := ?_) rfl rfl (Or.inl ⟨by rfl, fun wz hz => ?_⟩) hS ?_
        rotate_left
        (focus (go_simp; try (with_reducible rfl)))
        simp only [List.setIfInBounds_toArray, List.set_cons_succ, List.set_cons_zero]
        refine wpMix_put (v := ?_) rfl rfl (Or.inl ⟨by rfl, fun wz hz => ?_⟩) hS ?_
        rotate_left
        (focus (go_simp; try (with_reducible rfl)))
        simp only [List.setIfInBounds_toArray, List.set_cons_succ, List.set_cons_zero]
        refine wpMix_put (v := ?_) rfl rfl (Or.inl ⟨by rfl, fun wz hz => ?_⟩) hS ?_
        rotate_left
        (focus (go_simp; try (with_reducible rfl)))
        simp only [List.setIfInBounds_toArray, List.set_cons_succ, List.set_cons_zero]
        refine wpMix_put (v := ?_) rfl rfl (Or.inl ⟨by rfl, fun wz hz => ?_⟩) hS ?_
        rotate_left
        (focus (go_simp; try (with_reducible rfl)))
        simp only [List.setIfInBounds_toArray, List.set_cons_succ, List.set_cons_zero]
        refine wpMix_put (v := ?_) rfl rfl (Or.inl ⟨by rfl, fun wz hz => ?_⟩) hS ?_
        rotate_left
        (focus (go_simp; try (with_reducible rfl)))
        simp only [List.setIfInBounds_toArray, List.set_cons_succ, List.set_cons_zero]
        refine wpMix_put (v := ?_) rfl rfl (Or.inl ⟨by rfl, fun wz hz => ?_⟩) hS ?_
        rotate_left
        (focus (go_simp; try (with_reducible rfl)))
        simp only [List.setIfInBounds_toArray, List.set_cons_succ, List.set_cons_zero]
        refine wpMix_put (v := ?_) rfl rfl (Or.inl ⟨by rfl, fun wz hz => ?_⟩) hS ?_
        rotate_left
        (focus (go_simp; try (with_reducible rfl)))
        simp only [List.setIfInBounds_toArray, List.set_cons_succ, List.set_cons_zero]
        refine wpMix_put (v := ?_) rfl rfl (Or.inl ⟨by rfl, fun wz hz => ?_⟩) hS ?_
        rotate_left
        (focus (go_simp; try (with_reducible rfl)))
        simp only [List.setIfInBounds_toArray, List.set_cons_succ, List.set_cons_zero]
        refine wpMix_put (v := ?_) rfl rfl (Or.inl ⟨by rfl, fun wz hz => ?_⟩) hS ?_
        rotate_left
        (focus (go_simp; try (with_reducible rfl)))
        simp only [List.setIfInBounds_toArray, List.set_cons_succ, List.set_cons_zero]
        refine wpMix_put (v := ?_) rfl rfl (Or.inl ⟨by rfl, fun wz hz => ?_⟩) hS ?_
        rotate_left
        (focus (go_simp; try (with_reducible rfl)))
        simp only [List.setIfInBounds_toArray, List.set_cons_succ, List.set_cons_zero]
        refine wpMix_nil ?_
        clear hS hcells hwrap d1 d2 d3 d4 d5 g1 hmax
        go_wp2
        go_ret
        exact ⟨rfl, hbl1.tr (hb2.drn 1)⟩
      · have HLT := Lib.hid (hlt3 _ f3)
        clear hlt3 f3
        go_enter Tryz.func72, Tryz.ntmps72
        go_wp2_with (go_at_call 128; refine hpo.mono ?_; clear hpo; rintro e w2 ⟨rfl, hb2⟩; have q0 := (box_tm hb2).1)
        have hlt2 : w.heap.size < w2.heap.size := Nat.lt_of_lt_of_le (by simp) hb2.size
        have hcells : ∀ wz, Below w2.heap.size w2 wz → wz.cell? ⟨w.heap.size, 0, none⟩ = some (.string nm) ∧ wz.cell? ⟨b, off + q * 5, none⟩ = some (.string pn) := fun wz hz => ⟨(hz.cell (p := ⟨w.heap.size, 0, none⟩) hlt2).trans q0, ((hbl1.tr (hb2.tr hz)).cell (p := ⟨b, off + q * 5, none⟩) hb0q).trans g1⟩
        have hS := hcells _ (brefl.drn 1)
        have hwrap := IntWalk.i64_in (q : Int) (by omega)
        clear q0
        refine wp_region_mix [(true, 0), (true, 1), (true, 2), (true, 3), (true, 4), (true, 5), (true, 6), (true, 7), (true, 8), (true, 9), (true, 10), (true, 11), (true, 12), (true, 13)] 14 (fun wz => wz.cell? ⟨w.heap.size, 0, none⟩ = some (.string nm) ∧ wz.cell? ⟨b, off + q * 5, none⟩ = some (.string pn)) (by kernel_rfl) (by kernel_rfl) ?_
        refine wpMix_put (v := ?_) rfl rfl (Or.inl ⟨by rfl, fun wz hz => ?_⟩) hS ?_
        rotate_left
        (focus (go_simp; try (with_reducible rfl)))
        simp only [List.setIfInBounds_toArray, List.set_cons_succ, List.set_cons_zero]
        refine wpMix_put (v := ?_) rfl rfl (Or.inl ⟨by rfl, fun wz hz => ?_⟩) hS ?_
        rotate_left
        (focus (go_simp; try (with_reducible rfl)))
        simp only [List.setIfInBounds_toArray, List.set_cons_succ, List.set_cons_zero]
        refine wpMix_put (v := ?_) rfl rfl (Or.inl ⟨by rfl, fun wz hz => ?_⟩) hS ?_
        rotate_left
        (focus (go_simp; try (with_reducible rfl)))
        simp only [List.setIfInBounds_toArray, List.set_cons_succ, List.set_cons_zero]
        refine wpMix_put (v := ?_) rfl rfl (Or.inl ⟨by rfl, fun wz hz => ?_⟩) hS ?_
        rotate_left
        (focus (go_simp; try (with_reducible rfl)))
        simp only [List.setIfInBounds_toArray, List.set_cons_succ, List.set_cons_zero]
        refine wpMix_put (v := ?_) rfl rfl (Or.inl ⟨by rfl, fun wz hz => ?_⟩) hS ?_
        rotate_left
        (focus (go_simp; try (with_reducible rfl)))
        simp only [List.setIfInBounds_toArray, List.set_cons_succ, List.set_cons_zero]
        refine wpMix_put (v := ?_) rfl rfl (Or.inl ⟨by rfl, fun wz hz => ?_⟩) hS ?_
        rotate_left
        (focus (go_simp; try (with_reducible rfl)))
        simp only [List.setIfInBounds_toArray, List.set_cons_succ, List.set_cons_zero]
        refine wpMix_put (v := ?_) rfl rfl (Or.inl ⟨by rfl, fun wz hz => ?_⟩) hS ?_
        rotate_left
        (focus (go_simp; try (with_reducible rfl)))
        simp only [List.setIfInBounds_toArray, List.set_cons_succ, List.set_cons_zero]
        refine wpMix_put (v := ?_) rfl rfl (Or.inl ⟨by rfl, fun wz hz => ?_⟩) hS ?_
        rotate_left
        (focus (go_simp; try (with_reducible rfl)))
        simp only [List.setIfInBounds_toArray, List.set_cons_succ, List.set_cons_zero]
        refine wpMix_put (v := ?_) rfl rfl (Or.inl ⟨by rfl, fun wz hz => ?_⟩) hS ?_
        rotate_left
        (focus (go_simp; try (with_reducible rfl)))
        simp only [List.setIfInBounds_toArray, List.set_cons_succ, List.set_cons_zero]
        refine wpMix_put (v := ?_) rfl rfl (Or.inl ⟨by rfl, fun wz hz => ?_⟩) hS ?_
        rotate_left
        (focus (go_simp; try (with_reducible rfl)))
        simp only [List.setIfInBounds_toArray, List.set_cons_succ, List.set_cons_zero]
        refine wpMix_put (v := ?_) rfl rfl (Or.inl ⟨by rfl, fun wz hz => ?_⟩) hS ?_
        rotate_left
        (focus (go_simp; try (with_reducible rfl)))
        simp only [List.setIfInBounds_toArray, List.set_cons_succ, List.set_cons_zero]
        refine wpMix_put (v := ?_) rfl rfl (Or.inl ⟨by rfl, fun wz hz => ?_⟩) hS ?_
        rotate_left
        (focus (go_simp; try (with_reducible rfl)))
        simp only [List.setIfInBounds_toArray, List.set_cons_succ, List.set_cons_zero]
        refine wpMix_put (v := ?_) rfl rfl (Or.inl ⟨by rfl, fun wz hz => ?_⟩) hS ?_
        rotate_left
        (focus (go_simp; try (with_reducible rfl)))
        simp only [List.setIfInBounds_toArray, List.set_cons_succ, List.set_cons_zero]
        refine wpMix_put (v := ?_) rfl rfl (Or.inl ⟨by rfl, fun wz hz => ?_⟩) hS ?_
        rotate_left
        (focus (go_simp; try (with_reducible rfl)))
        simp only [List.setIfInBounds_toArray, List.set_cons_succ, List.set_cons_zero]
        refine wpMix_nil ?_
        clear hS hcells hwrap d1 d2 d3 d4 d5 g1 hmax
        clear f1 f2
        have hb3 := hb2.drn 1
        rw [show w2.drewN 1 = w2.drew from rfl] at hb3
        generalize w2.drew = w3 at hb3 ⊢
        clear hb2
        obtain ⟨q0, q1, q2, q3, q4⟩ := box_tm hb3
        have hw3 : w.heap.size < w3.heap.size := Nat.lt_of_lt_of_le (by simp) hb3.size
        cases hse0 : se.data.isEmpty
        · have h0 := not_empty hse0
          have h2 := (empty_data se).trans hse0
          have HM := Lib.hid (show ∀ x, x ∈ br ++ [se] ↔ x ∈ leads ⟨nm, ki, la, se, br⟩ from fun x => by
            rw [mem_leads, List.mem_append, List.mem_singleton]
            constructor
            · rintro (h | h)
              · exact .inr h
              · exact .inl ⟨hse0, h⟩
            · rintro (⟨_, h⟩ | h)
              · exact .inr h
              · exact .inl h)
          have hsz : ∀ y ∈ br ++ [se], y.size ≤ maxLen := fun y hy => by
            rcases List.mem_append.1 hy with hy | hy
            · exact hbr.2.1 y hy
            · simp at hy; subst hy; exact hse
          clear hse0
          go_wp2_with (first
            | (at_builtin; (refine wpList_app _ stringsT rfl (.tmp 31) (.tmp 33) rfl (Own.empty w3 9 1 (Nat.le_refl _)) rfl rfl (news := br.map Value.string) (by have := hbr.1; simpa using this) ((hbr.below (hbl1.tr (hb3.al (.cells #[] 9)))).2.2) (strs_one _) ?_ ?_ ?_; (focus omega); (focus omega); intro A6 c6 w6 o6 n6 g6 e6; simp only [Nat.zero_add, List.nil_append] at o6 n6 e6; have hb6 := (hb3.al (.cells #[] 9)).gr g6 (fun k e => Nat.le_trans hb3.size ((Own.empty w3 9 1 (Nat.le_refl _)).row k e)); obtain ⟨z0, z1, z2, z3, z4⟩ := box_tm hb6))
            | (at_builtin; go_must (refine wpList_app _ stringsT rfl (.tmp 38) (.tmp 41) rfl (o6.alloc _) rfl rfl (news := [.string se]) rfl (Rds.one w6 (.string se) 9) (by simp [Value.oneCell']) ?_ ?_ ?_; (focus omega); (focus omega); intro A7 c7 w7 o7 n7 g7 e7; have hbx7 := (hb6.al (.cells #[.string se] 9)).gr g7 (fun k e => Nat.le_trans hb3.size (o6.row k e)); have hbw := hbl1.tr hbx7)))
          clear q0 q1 q2 q3 q4 z0 z1 z2 z3 z4 g7 e7 e6 hb6 hb3 h0 h2
          have hl7 := hl.below hbw
          have hto := Strs.own o7 (l := br ++ [se]) (by simp) (fun y hy => hsz y hy)
          have hbw7 := hbw
          have hq7 := (box_tm hbx7).1
          have hw7 : w.heap.size < w7.heap.size := Nat.lt_of_lt_of_le (by simp) hbx7.size
          clear hl o7 hbw hbx7 g6
          go_loop [7, 8] (fun p k => ∃ (j : Nat) (bb : Bool), j ≤ (n1 + 1) ∧ k = .int .i64 j ∧ p = .bool bb ∧ Hid (Fnd (terms ms) (br ++ [se]) j bb)) (fun _ k => (n1 + 1) - (intOf k).toNat)
          case atStart => exact ⟨0, true, by omega, rfl, rfl, Fnd.start _ _⟩
          case round =>
            obtain ⟨j, bb, hj, rfl, rfl, hinv⟩ := hrel
            by_cases hlt : j < (n1 + 1)
            · obtain ⟨bx, ox, x, hAx, hx, hxs, hbx, hcx⟩ := hto.at_ hlt
              subst hAx
              have hxm := Lib.hid ((HM.out x).1 (List.mem_of_getElem? hx))
              have hlt' : (j : Int) < (n1 + 1) := by omega
              have hlt'' : (j : Int) < (((n1 + 1) : Nat) : Int) := by omega
              rcases findAt_cases (terms ms) x 0 with ⟨f1, f2⟩ | ⟨k2, t2, f1, f2, f3⟩
              · obtain rfl : 6 = fv := by rw [← HFV.out, fl_none HP.out HLT.out hxm.out f1]
                clear hx f1 hbx
                go_wp2_with (go_at_call 35; refine (rfind_any _ _ _ ms x _ (by omega) hl7).mono ?_; rintro e _ ⟨rfl, rfl⟩; rw [f2])
                go_ret
                exact ⟨rfl, hbw7⟩
              · rw [Nat.zero_add] at f2
                have HINV := Lib.hid (hinv.out.next hx f1)
                have hk2 : k2 < n := by have := (List.getElem?_eq_some_iff.1 f3).1; rw [terms_length hl7] at this; exact this
                obtain ⟨_, _, ⟨t3, Am2, n2, c2⟩, hA2, hx2, _, hb2', e1, e2, e3, e4, e5⟩ := hl7.at_ hk2
                cases hA2
                have ht : t3 = t2 := by have := terms_get hx2; rw [f3] at this; injection this with this; exact this.symm
                subst ht
                obtain ⟨nm2, ki2, la2, se2, br2⟩ := t3
                dsimp only at e4
                clear hx f1 f3 hx2 hbx hb2' e1 e2 e3 e5 hxm
                have hk2' : (k2 : Int) < n := by omega
                cases bb
                · go_wp2_with (go_at_call 35; refine (rfind_any _ _ _ ms x _ (by omega) hl7).mono ?_; rintro e _ ⟨rfl, rfl⟩; rw [f2])
                  go_round
                  case rel => exact ⟨j + 1, false, by omega, by go_num, rfl, HINV.out⟩
                  case measure => simp [intOf]; omega
                · cases hs2 : se2.data.isEmpty
                  · have h0 := not_empty hs2
                    have h2 := (empty_data se2).trans hs2
                    rw [show (true && (Term.mk nm2 ki2 la2 se2 br2).see.data.isEmpty) = false from hs2] at HINV
                    clear hs2
                    go_wp2_with (go_at_call 35; refine (rfind_any _ _ _ ms x _ (by omega) hl7).mono ?_; rintro e _ ⟨rfl, rfl⟩; rw [f2])
                    go_round
                    case rel => exact ⟨j + 1, false, by omega, by go_num, rfl, HINV.out⟩
                    case measure => simp [intOf]; omega
                  · obtain rfl := is_empty hs2
                    go_wp2_with (go_at_call 35; refine (rfind_any _ _ _ ms x _ (by omega) hl7).mono ?_; rintro e _ ⟨rfl, rfl⟩; rw [f2])
                    go_round
                    case rel => exact ⟨j + 1, true, by omega, by go_num, rfl, HINV.out⟩
                    case measure => simp [intOf]; omega
            · have hlt' : ¬ (j : Int) < (n1 + 1) := by omega
              have hlt'' : ¬ (j : Int) < (((n1 + 1) : Nat) : Int) := by omega
              have hfi := hinv.out
              unfold Fnd at hfi
              rw [List.take_of_length_le (by rw [hto.1]; omega)] at hfi
              obtain ⟨g1, g2⟩ := hfi
              have G1 := Lib.hid (fun x hx => g1 x ((HM.out x).2 hx))
              clear g1 hto
              cases bb
              · have hex : ∃ x ∈ leads ⟨nm, ki, la, se, br⟩, second (terms ms) x = true := by
                  have : ((br ++ [se]).any (second (terms ms))) = true := by
                    cases h : (br ++ [se]).any (second (terms ms))
                    · rw [h] at g2; cases g2
                    · rfl
                  obtain ⟨x, hx, h⟩ := List.any_eq_true.1 this
                  exact ⟨x, (HM.out x).1 hx, h⟩
                obtain ⟨x, hx, hsx⟩ := hex
                obtain rfl : 12 = fv := by rw [← HFV.out, fl_type HP.out HLT.out G1.out hx hsx]
                clear g2 hx hsx
                go_wp2
                go_ret
                exact ⟨rfl, hbw7⟩
              · have hall : ∀ x ∈ leads ⟨nm, ki, la, se, br⟩, second (terms ms) x = false := by
                  intro x hx
                  have : ((br ++ [se]).any (second (terms ms))) = false := by
                    cases h : (br ++ [se]).any (second (terms ms))
                    · rfl
                    · rw [h] at g2; cases g2
                  rw [List.any_eq_false] at this
                  have := this x ((HM.out x).2 hx)
                  simpa using this
                have hlast := fl_last (p := prevT (terms ms) (q + 1)) HP.out HLT.out G1.out hall
                clear g2 hall
                have hcells : ∀ wz, Below w7.heap.size w7 wz → wz.cell? ⟨w.heap.size, 0, none⟩ = some (.string nm) := fun wz hz => (hz.cell (p := ⟨w.heap.size, 0, none⟩) hw7).trans hq7
                have hbc : Below w7.heap.size w7 w7.drew := brefl.drn 1
                have hS := hcells _ hbc
                obtain ⟨hu, hhu⟩ : ∃ hu, Rf.has (ups (brd (terms ms)) nm) nm = hu := ⟨_, rfl⟩
                have HU := Lib.hid hhu
                cases hu
                · obtain rfl : 0 = fv := by
                    rw [← HFV.out, hlast]; dsimp only; rw [hhu]; rfl
                  clear hhu hlast hq7
                  go_wp2
                  refine wp_region_mix [(true, 0), (true, 1), (true, 2), (true, 4), (true, 5), (false, 3), (false, 6)] 7 (fun wz => wz.cell? ⟨w.heap.size, 0, none⟩ = some (.string nm)) (by kernel_rfl) (by kernel_rfl) ?_
                  refine wpMix_put (v := ?_) rfl rfl (Or.inl ⟨by rfl, fun wz hz => ?_⟩) hS ?_
                  rotate_left
                  (focus (go_simp; try (with_reducible rfl)))
                  simp only [List.setIfInBounds_toArray, List.set_cons_succ, List.set_cons_zero]
                  refine wpMix_put (v := ?_) rfl rfl (Or.inl ⟨by rfl, fun wz hz => ?_⟩) hS ?_
                  rotate_left
                  (focus (go_simp; try (with_reducible rfl)))
                  simp only [List.setIfInBounds_toArray, List.set_cons_succ, List.set_cons_zero]
                  refine wpMix_put (v := ?_) rfl rfl (Or.inl ⟨by rfl, fun wz hz => ?_⟩) hS ?_
                  rotate_left
                  (focus (go_simp; try (with_reducible rfl)))
                  simp only [List.setIfInBounds_toArray, List.set_cons_succ, List.set_cons_zero]
                  refine wpMix_put (v := ?_) rfl rfl (Or.inl ⟨by rfl, fun wz hz => ?_⟩) hS ?_
                  rotate_left
                  (focus (go_simp; try (with_reducible rfl)))
                  simp only [List.setIfInBounds_toArray, List.set_cons_succ, List.set_cons_zero]
                  refine wpMix_put (v := ?_) rfl rfl (Or.inl ⟨by rfl, fun wz hz => ?_⟩) hS ?_
                  rotate_left
                  (focus (go_simp; try (with_reducible rfl)))
                  simp only [List.setIfInBounds_toArray, List.set_cons_succ, List.set_cons_zero]
                  refine wpMix_step rfl (fun K hK => ?_)
                  go_simp
                  refine (rup_any (some ⟨b, off, none⟩) n c ms nm _ hm hnm (hl7.below hbc)).mono ?_
                  rintro e w10 ⟨A10, k10, c10, rfl, hc10, hk10, hs10, hbd⟩
                  go_simp
                  have hbc' := hbc.tr hbd
                  clear hbc hbd
                  have hbc := hbc'
                  clear hbc'
                  have hS7 := hcells _ hbc
                  refine hK _ _ (fun _ => hS7) ?_
                  clear hK K hS
                  have hS := hS7
                  clear hS7
                  refine wpMix_step rfl (fun K hK => ?_)
                  go_simp
                  have hq := has_any A10 k10 c10 _ nm _ (by omega) hs10
                  rw [HU.out] at hq
                  refine hq.mono ?_
                  clear hq
                  rintro e _ ⟨rfl, rfl⟩
                  go_simp
                  refine hK _ _ (fun _ => hS) ?_
                  clear hK K hs10
                  refine wpMix_nil ?_
                  go_wp2
                  go_ret
                  exact ⟨rfl, hbw7.tr hbc⟩
                · obtain rfl : 13 = fv := by
                    rw [← HFV.out, hlast]; dsimp only; rw [hhu]; rfl
                  clear hhu hlast hq7
                  go_wp2
                  refine wp_region_mix [(true, 0), (true, 1), (true, 2), (true, 4), (true, 5), (false, 3), (false, 6)] 7 (fun wz => wz.cell? ⟨w.heap.size, 0, none⟩ = some (.string nm)) (by kernel_rfl) (by kernel_rfl) ?_
                  refine wpMix_put (v := ?_) rfl rfl (Or.inl ⟨by rfl, fun wz hz => ?_⟩) hS ?_
                  rotate_left
                  (focus (go_simp; try (with_reducible rfl)))
                  simp only [List.setIfInBounds_toArray, List.set_cons_succ, List.set_cons_zero]
                  refine wpMix_put (v := ?_) rfl rfl (Or.inl ⟨by rfl, fun wz hz => ?_⟩) hS ?_
                  rotate_left
                  (focus (go_simp; try (with_reducible rfl)))
                  simp only [List.setIfInBounds_toArray, List.set_cons_succ, List.set_cons_zero]
                  refine wpMix_put (v := ?_) rfl rfl (Or.inl ⟨by rfl, fun wz hz => ?_⟩) hS ?_
                  rotate_left
                  (focus (go_simp; try (with_reducible rfl)))
                  simp only [List.setIfInBounds_toArray, List.set_cons_succ, List.set_cons_zero]
                  refine wpMix_put (v := ?_) rfl rfl (Or.inl ⟨by rfl, fun wz hz => ?_⟩) hS ?_
                  rotate_left
                  (focus (go_simp; try (with_reducible rfl)))
                  simp only [List.setIfInBounds_toArray, List.set_cons_succ, List.set_cons_zero]
                  refine wpMix_put (v := ?_) rfl rfl (Or.inl ⟨by rfl, fun wz hz => ?_⟩) hS ?_
                  rotate_left
                  (focus (go_simp; try (with_reducible rfl)))
                  simp only [List.setIfInBounds_toArray, List.set_cons_succ, List.set_cons_zero]
                  refine wpMix_step rfl (fun K hK => ?_)
                  go_simp
                  refine (rup_any (some ⟨b, off, none⟩) n c ms nm _ hm hnm (hl7.below hbc)).mono ?_
                  rintro e w10 ⟨A10, k10, c10, rfl, hc10, hk10, hs10, hbd⟩
                  go_simp
                  have hbc' := hbc.tr hbd
                  clear hbc hbd
                  have hbc := hbc'
                  clear hbc'
                  have hS7 := hcells _ hbc
                  refine hK _ _ (fun _ => hS7) ?_
                  clear hK K hS
                  have hS := hS7
                  clear hS7
                  refine wpMix_step rfl (fun K hK => ?_)
                  go_simp
                  have hq := has_any A10 k10 c10 _ nm _ (by omega) hs10
                  rw [HU.out] at hq
                  refine hq.mono ?_
                  clear hq
                  rintro e _ ⟨rfl, rfl⟩
                  go_simp
                  refine hK _ _ (fun _ => hS) ?_
                  clear hK K hs10
                  refine wpMix_nil ?_
                  go_wp2
                  go_ret
                  exact ⟨rfl, hbw7.tr hbc⟩
        · obtain rfl := is_empty hse0
          have HM := Lib.hid (show ∀ x, x ∈ br ↔ x ∈ leads ⟨nm, ki, la, ⟨#[]⟩, br⟩ from fun x => by
            rw [mem_leads]
            constructor
            · exact .inr
            · rintro (⟨h, _⟩ | h)
              · cases h
              · exact h)
          have hsz : ∀ y ∈ br, y.size ≤ maxLen := hbr.2.1
          clear hse0
          go_wp2_with (at_builtin; (refine wpList_app _ stringsT rfl (.tmp 31) (.tmp 33) rfl (Own.empty w3 9 1 (Nat.le_refl _)) rfl rfl (news := br.map Value.string) (by have := hbr.1; simpa using this) ((hbr.below (hbl1.tr (hb3.al (.cells #[] 9)))).2.2) (strs_one _) ?_ ?_ ?_; (focus omega); (focus omega); intro A6 c6 w6 o6 n6 g6 e6; simp only [Nat.zero_add, List.nil_append] at o6 n6 e6; have hb6 := (hb3.al (.cells #[] 9)).gr g6 (fun k e => Nat.le_trans hb3.size ((Own.empty w3 9 1 (Nat.le_refl _)).row k e)); obtain ⟨z0, z1, z2, z3, z4⟩ := box_tm hb6))
          have hbx7 := hb6
          have hbw := hbl1.tr hbx7
          clear q0 q1 q2 q3 q4 z0 z1 z2 z3 z4 e6 hb6 hb3
          obtain ⟨w7, hw7⟩ : ∃ w7 : World, w7 = w6 := ⟨_, rfl⟩
          subst hw7
          have hl7 := hl.below hbw
          have hto := Strs.own o6 (l := br) (by simp) (fun y hy => hsz y hy)
          have hbw7 := hbw
          have hq7 := (box_tm hbx7).1
          have hw7 : w.heap.size < w7.heap.size := Nat.lt_of_lt_of_le (by simp) hbx7.size
          clear hl o6 hbw hbx7 g6
          go_loop [7, 8] (fun p k => ∃ (j : Nat) (bb : Bool), j ≤ n1 ∧ k = .int .i64 j ∧ p = .bool bb ∧ Hid (Fnd (terms ms) (br) j bb)) (fun _ k => n1 - (intOf k).toNat)
          case atStart => exact ⟨0, true, by omega, rfl, rfl, Fnd.start _ _⟩
          case round =>
            obtain ⟨j, bb, hj, rfl, rfl, hinv⟩ := hrel
            by_cases hlt : j < n1
            · obtain ⟨bx, ox, x, hAx, hx, hxs, hbx, hcx⟩ := hto.at_ hlt
              subst hAx
              have hxm := Lib.hid ((HM.out x).1 (List.mem_of_getElem? hx))
              have hlt' : (j : Int) < n1 := by omega
              have hlt'' : (j : Int) < ((n1 : Nat) : Int) := by omega
              rcases findAt_cases (terms ms) x 0 with ⟨f1, f2⟩ | ⟨k2, t2, f1, f2, f3⟩
              · obtain rfl : 6 = fv := by rw [← HFV.out, fl_none HP.out HLT.out hxm.out f1]
                clear hx f1 hbx
                go_wp2_with (go_at_call 35; refine (rfind_any _ _ _ ms x _ (by omega) hl7).mono ?_; rintro e _ ⟨rfl, rfl⟩; rw [f2])
                go_ret
                exact ⟨rfl, hbw7⟩
              · rw [Nat.zero_add] at f2
                have HINV := Lib.hid (hinv.out.next hx f1)
                have hk2 : k2 < n := by have := (List.getElem?_eq_some_iff.1 f3).1; rw [terms_length hl7] at this; exact this
                obtain ⟨_, _, ⟨t3, Am2, n2, c2⟩, hA2, hx2, _, hb2', e1, e2, e3, e4, e5⟩ := hl7.at_ hk2
                cases hA2
                have ht : t3 = t2 := by have := terms_get hx2; rw [f3] at this; injection this with this; exact this.symm
                subst ht
                obtain ⟨nm2, ki2, la2, se2, br2⟩ := t3
                dsimp only at e4
                clear hx f1 f3 hx2 hbx hb2' e1 e2 e3 e5 hxm
                have hk2' : (k2 : Int) < n := by omega
                cases bb
                · go_wp2_with (go_at_call 35; refine (rfind_any _ _ _ ms x _ (by omega) hl7).mono ?_; rintro e _ ⟨rfl, rfl⟩; rw [f2])
                  go_round
                  case rel => exact ⟨j + 1, false, by omega, by go_num, rfl, HINV.out⟩
                  case measure => simp [intOf]; omega
                · cases hs2 : se2.data.isEmpty
                  · have h0 := not_empty hs2
                    have h2 := (empty_data se2).trans hs2
                    rw [show (true && (Term.mk nm2 ki2 la2 se2 br2).see.data.isEmpty) = false from hs2] at HINV
                    clear hs2
                    go_wp2_with (go_at_call 35; refine (rfind_any _ _ _ ms x _ (by omega) hl7).mono ?_; rintro e _ ⟨rfl, rfl⟩; rw [f2])
                    go_round
                    case rel => exact ⟨j + 1, false, by omega, by go_num, rfl, HINV.out⟩
                    case measure => simp [intOf]; omega
                  · obtain rfl := is_empty hs2
                    go_wp2_with (go_at_call 35; refine (rfind_any _ _ _ ms x _ (by omega) hl7).mono ?_; rintro e _ ⟨rfl, rfl⟩; rw [f2])
                    go_round
                    case rel => exact ⟨j + 1, true, by omega, by go_num, rfl, HINV.out⟩
                    case measure => simp [intOf]; omega
            · have hlt' : ¬ (j : Int) < n1 := by omega
              have hlt'' : ¬ (j : Int) < ((n1 : Nat) : Int) := by omega
              have hfi := hinv.out
              unfold Fnd at hfi
              rw [List.take_of_length_le (by rw [hto.1]; omega)] at hfi
              obtain ⟨g1, g2⟩ := hfi
              have G1 := Lib.hid (fun x hx => g1 x ((HM.out x).2 hx))
              clear g1 hto
              cases bb
              · have hex : ∃ x ∈ leads ⟨nm, ki, la, ⟨#[]⟩, br⟩, second (terms ms) x = true := by
                  have : ((br).any (second (terms ms))) = true := by
                    cases h : (br).any (second (terms ms))
                    · rw [h] at g2; cases g2
                    · rfl
                  obtain ⟨x, hx, h⟩ := List.any_eq_true.1 this
                  exact ⟨x, (HM.out x).1 hx, h⟩
                obtain ⟨x, hx, hsx⟩ := hex
                obtain rfl : 12 = fv := by rw [← HFV.out, fl_type HP.out HLT.out G1.out hx hsx]
                clear g2 hx hsx
                go_wp2
                go_ret
                exact ⟨rfl, hbw7⟩
              · have hall : ∀ x ∈ leads ⟨nm, ki, la, ⟨#[]⟩, br⟩, second (terms ms) x = false := by
                  intro x hx
                  have : ((br).any (second (terms ms))) = false := by
                    cases h : (br).any (second (terms ms))
                    · rfl
                    · rw [h] at g2; cases g2
                  rw [List.any_eq_false] at this
                  have := this x ((HM.out x).2 hx)
                  simpa using this
                have hlast := fl_last (p := prevT (terms ms) (q + 1)) HP.out HLT.out G1.out hall
                clear g2 hall
                have hcells : ∀ wz, Below w7.heap.size w7 wz → wz.cell? ⟨w.heap.size, 0, none⟩ = some (.string nm) := fun wz hz => (hz.cell (p := ⟨w.heap.size, 0, none⟩) hw7).trans hq7
                have hbc : Below w7.heap.size w7 w7.drew := brefl.drn 1
                have hS := hcells _ hbc
                obtain ⟨hu, hhu⟩ : ∃ hu, Rf.has (ups (brd (terms ms)) nm) nm = hu := ⟨_, rfl⟩
                have HU := Lib.hid hhu
                cases hu
                · obtain rfl : 0 = fv := by
                    rw [← HFV.out, hlast]; dsimp only; rw [hhu]; rfl
                  clear hhu hlast hq7
                  go_wp2
                  refine wp_region_mix [(true, 0), (true, 1), (true, 2), (true, 4), (true, 5), (false, 3), (false, 6)] 7 (fun wz => wz.cell? ⟨w.heap.size, 0, none⟩ = some (.string nm)) (by kernel_rfl) (by kernel_rfl) ?_
                  refine wpMix_put (v := ?_) rfl rfl (Or.inl ⟨by rfl, fun wz hz => ?_⟩) hS ?_
                  rotate_left
                  (focus (go_simp; try (with_reducible rfl)))
                  simp only [List.setIfInBounds_toArray, List.set_cons_succ, List.set_cons_zero]
                  refine wpMix_put (v := ?_) rfl rfl (Or.inl ⟨by rfl, fun wz hz => ?_⟩) hS ?_
                  rotate_left
                  (focus (go_simp; try (with_reducible rfl)))
                  simp only [List.setIfInBounds_toArray, List.set_cons_succ, List.set_cons_zero]
                  refine wpMix_put (v := ?_) rfl rfl (Or.inl ⟨by rfl, fun wz hz => ?_⟩) hS ?_
                  rotate_left
                  (focus (go_simp; try (with_reducible rfl)))
                  simp only [List.setIfInBounds_toArray, List.set_cons_succ, List.set_cons_zero]
                  refine wpMix_put (v := ?_) rfl rfl (Or.inl ⟨by rfl, fun wz hz => ?_⟩) hS ?_
                  rotate_left
                  (focus (go_simp; try (with_reducible rfl)))
                  simp only [List.setIfInBounds_toArray, List.set_cons_succ, List.set_cons_zero]
                  refine wpMix_put (v := ?_) rfl rfl (Or.inl ⟨by rfl, fun wz hz => ?_⟩) hS ?_
                  rotate_left
                  (focus (go_simp; try (with_reducible rfl)))
                  simp only [List.setIfInBounds_toArray, List.set_cons_succ, List.set_cons_zero]
                  refine wpMix_step rfl (fun K hK => ?_)
                  go_simp
                  refine (rup_any (some ⟨b, off, none⟩) n c ms nm _ hm hnm (hl7.below hbc)).mono ?_
                  rintro e w10 ⟨A10, k10, c10, rfl, hc10, hk10, hs10, hbd⟩
                  go_simp
                  have hbc' := hbc.tr hbd
                  clear hbc hbd
                  have hbc := hbc'
                  clear hbc'
                  have hS7 := hcells _ hbc
                  refine hK _ _ (fun _ => hS7) ?_
                  clear hK K hS
                  have hS := hS7
                  clear hS7
                  refine wpMix_step rfl (fun K hK => ?_)
                  go_simp
                  have hq := has_any A10 k10 c10 _ nm _ (by omega) hs10
                  rw [HU.out] at hq
                  refine hq.mono ?_
                  clear hq
                  rintro e _ ⟨rfl, rfl⟩
                  go_simp
                  refine hK _ _ (fun _ => hS) ?_
                  clear hK K hs10
                  refine wpMix_nil ?_
                  go_wp2
                  go_ret
                  exact ⟨rfl, hbw7.tr hbc⟩
                · obtain rfl : 13 = fv := by
                    rw [← HFV.out, hlast]; dsimp only; rw [hhu]; rfl
                  clear hhu hlast hq7
                  go_wp2
                  refine wp_region_mix [(true, 0), (true, 1), (true, 2), (true, 4), (true, 5), (false, 3), (false, 6)] 7 (fun wz => wz.cell? ⟨w.heap.size, 0, none⟩ = some (.string nm)) (by kernel_rfl) (by kernel_rfl) ?_
                  refine wpMix_put (v := ?_) rfl rfl (Or.inl ⟨by rfl, fun wz hz => ?_⟩) hS ?_
                  rotate_left
                  (focus (go_simp; try (with_reducible rfl)))
                  simp only [List.setIfInBounds_toArray, List.set_cons_succ, List.set_cons_zero]
                  refine wpMix_put (v := ?_) rfl rfl (Or.inl ⟨by rfl, fun wz hz => ?_⟩) hS ?_
                  rotate_left
                  (focus (go_simp; try (with_reducible rfl)))
                  simp only [List.setIfInBounds_toArray, List.set_cons_succ, List.set_cons_zero]
                  refine wpMix_put (v := ?_) rfl rfl (Or.inl ⟨by rfl, fun wz hz => ?_⟩) hS ?_
                  rotate_left
                  (focus (go_simp; try (with_reducible rfl)))
                  simp only [List.setIfInBounds_toArray, List.set_cons_succ, List.set_cons_zero]
                  refine wpMix_put (v := ?_) rfl rfl (Or.inl ⟨by rfl, fun wz hz => ?_⟩) hS ?_
                  rotate_left
                  (focus (go_simp; try (with_reducible rfl)))
                  simp only [List.setIfInBounds_toArray, List.set_cons_succ, List.set_cons_zero]
                  refine wpMix_put (v := ?_) rfl rfl (Or.inl ⟨by rfl, fun wz hz => ?_⟩) hS ?_
                  rotate_left
                  (focus (go_simp; try (with_reducible rfl)))
                  simp only [List.setIfInBounds_toArray, List.set_cons_succ, List.set_cons_zero]
                  refine wpMix_step rfl (fun K hK => ?_)
                  go_simp
                  refine (rup_any (some ⟨b, off, none⟩) n c ms nm _ hm hnm (hl7.below hbc)).mono ?_
                  rintro e w10 ⟨A10, k10, c10, rfl, hc10, hk10, hs10, hbd⟩
                  go_simp
                  have hbc' := hbc.tr hbd
                  clear hbc hbd
                  have hbc := hbc'
                  clear hbc'
                  have hS7 := hcells _ hbc
                  refine hK _ _ (fun _ => hS7) ?_
                  clear hK K hS
                  have hS := hS7
                  clear hS7
                  refine wpMix_step rfl (fun K hK => ?_)
                  go_simp
                  have hq := has_any A10 k10 c10 _ nm _ (by omega) hs10
                  rw [HU.out] at hq
                  refine hq.mono ?_
                  clear hq
                  rintro e _ ⟨rfl, rfl⟩
                  go_simp
                  refine hK _ _ (fun _ => hS) ?_
                  clear hK K hs10
                  refine wpMix_nil ?_
                  go_wp2
                  go_ret
                  exact ⟨rfl, hbw7.tr hbc⟩
set_option maxRecDepth 20000 in
set_option maxHeartbeats 2000000 in
theorem rvalid_any (A : Option Addr) (n c : Nat) (ms : List TM) (w : World) (hm : n ≤ 100000) (hl : Tms w A n ms) (hsm : ∀ m ∈ ms, m.small) :
    Calls Tryz.prog 13 #[.slice A n c] w fun e w' => e = .returned (.tuple #[.int .i64 (vvalid (terms ms)).1, .int .i64 (vvalid (terms ms)).2]) ∧ Below w.heap.size w w' := by
  have hlen := terms_length hl
  by_cases h128 : n ≤ 128
  · have hres : vvalid (terms ms) = vvalidFrom (terms ms) (terms ms) none 0 := by unfold vvalid; rw [if_neg (by rw [hlen]; omega)]
    have h128' : ¬ (128 : Int) < n := by omega
    rw [hres]
    clear hres
    go_enter Tryz.func13, Tryz.ntmps13
    go_wp2
    go_loopw [4] (fun i wr => ∃ k : Nat, k ≤ n ∧ i = .int .i64 k ∧ Hid (vvalidFrom (terms ms) (terms ms) none 0 = vvalidFrom (terms ms) ((terms ms).drop k) (prevT (terms ms) k) k) ∧ Below w.heap.size w wr) (fun i _ => n - (intOf i).toNat)
    case atStart => exact ⟨0, by omega, rfl, rfl, brefl⟩
    case round =>
      obtain ⟨k, hk, rfl, hv, hbl⟩ := hrel
      by_cases hlt : k < n
      · obtain ⟨m, hmk⟩ : ∃ m, ms[k]? = some m := ⟨_, List.getElem?_eq_getElem (by rw [hl.1]; exact hlt)⟩
        have htk := terms_get hmk
        have hd := Lib.hid (drop_get htk)
        have hpt := Lib.hid (prevT_succ htk)
        have hfl := rflaw_any A n c k ms m wr h128 (hl.below hbl) hmk (hsm m (List.mem_of_getElem? hmk))
        obtain ⟨v, hvv⟩ : ∃ v, Rf.flaw (terms ms) (prevT (terms ms) k) m.t = v := ⟨_, rfl⟩
        have HV := Lib.hid hvv
        rw [hvv] at hfl
        clear hvv htk hmk
        by_cases h0 : v = 0
        · subst h0
          go_wp2_with (go_at_call 72; refine hfl.mono ?_; rintro e w2 ⟨rfl, hb2⟩)
          go_roundw
          case rel => exact ⟨k + 1, by omega, by go_num, by show _ = _; rw [hv.out, hd.out, hpt.out, vv_good HV.out], hbl.tr hb2⟩
          case measure => simp [intOf]; omega
        · go_wp2_with (go_at_call 72; refine hfl.mono ?_; rintro e w2 ⟨rfl, hb2⟩)
          go_ret2
          refine ⟨?_, hbl.tr hb2⟩
          rw [hv.out, hd.out, vv_bad HV.out h0]; rfl
      · have hd := Lib.hid (drop_len hlen hlt)
        have hkn : k = n := by omega
        subst hkn
        go_wp2
        go_ret2
        refine ⟨?_, hbl⟩
        rw [hv.out, hd.out]; rfl
  · have hres : vvalid (terms ms) = (0, 4) := by unfold vvalid; rw [if_pos (by rw [hlen]; omega)]; rfl
    have h128' : (128 : Int) < n := by omega
    rw [hres]
    go_enter Tryz.func13, Tryz.ntmps13
    go_wp2
    go_ret2
    exact ⟨rfl, brefl⟩
set_option maxRecDepth 20000 in
set_option maxHeartbeats 1000000 in
theorem rgood_any (A : Option Addr) (n c : Nat) (ms : List TM) (w : World) (hm : n ≤ 100000) (hl : Tms w A n ms) (hsm : ∀ m ∈ ms, m.small) :
    Calls Tryz.prog 88 #[.slice A n c] w fun e w' => e = .returned (.bool (decide ((vvalid (terms ms)).2 = 0))) ∧ Below w.heap.size w w' := by
  have h := rvalid_any A n c ms w hm hl hsm
  generalize (vvalid (terms ms)).2 = v at h ⊢
  generalize ((vvalid (terms ms)).1 : Int) = u at h
  by_cases h0 : v = 0
  · subst h0
    go_enter Tryz.func88, Tryz.ntmps88
    go_wp2_with (go_at_call 13; refine h.mono ?_; rintro e w2 ⟨rfl, hb2⟩)
    go_ret
    exact ⟨ret_bool (by simp), hb2⟩
  · have h0b : (v == 0) = false := by simpa using h0
    go_enter Tryz.func88, Tryz.ntmps88
    go_wp2_with (go_at_call 13; refine h.mono ?_; rintro e w2 ⟨rfl, hb2⟩)
    go_ret
    exact ⟨ret_bool (by simp [h0]), hb2⟩
end Go.Proofs.YtdfnfimajhagfaaGreatDoor
