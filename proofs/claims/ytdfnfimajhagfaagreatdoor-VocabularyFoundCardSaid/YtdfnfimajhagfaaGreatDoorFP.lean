/- Mentions in capital letters, and what a list of mentions says of its text, in plain Lean. -/
import Derived.Test.YtdfnfimajhagfaaGreatDoorT8
namespace Rf
theorem all_u8 (p : UInt8 → Bool) (h : ∀ n, n < 256 → p (UInt8.ofNat n) = true) (b : UInt8) : p b = true := by
  have := h b.toNat b.toNat_lt
  rwa [UInt8.ofNat_toNat] at this
/-- a capital letter for a small one -/
def capB (b : UInt8) : UInt8 := if 97 ≤ b.toNat ∧ b.toNat ≤ 122 then b - 32 else b
theorem capB_kind (b : UInt8) : kindB (capB b) = kindB b := by
  have := all_u8 (fun b => decide (kindB (capB b) = kindB b)) (by decide +kernel) b
  simpa using this
theorem capB_fold (b : UInt8) : foldB (capB b) = foldB b := by
  have := all_u8 (fun b => decide (foldB (capB b) = foldB b)) (by decide +kernel) b
  simpa using this
theorem capB_blank (b : UInt8) : capB b = 32 ↔ b = 32 := by
  have := all_u8 (fun b => decide (capB b = 32 ↔ b = 32)) (by decide +kernel) b
  simpa using this
theorem capB_up {b : UInt8} (h : 97 ≤ b.toNat ∧ b.toNat ≤ 122) : (capB b).toNat = b.toNat - 32 := by
  have := all_u8 (fun b => decide (97 ≤ b.toNat ∧ b.toNat ≤ 122 → (capB b).toNat = b.toNat - 32)) (by decide +kernel) b
  exact (of_decide_eq_true this) h
theorem capB_same {b : UInt8} (h : ¬ (97 ≤ b.toNat ∧ b.toNat ≤ 122)) : capB b = b := by unfold capB; rw [if_neg h]
theorem runLen_cap (k : Nat) : ∀ l : List UInt8, runLen k (l.map capB) = runLen k l
  | [] => rfl
  | b :: l => by
    rw [List.map_cons, runLen, runLen, capB_kind, runLen_cap k l]
theorem toks_cap : ∀ (n : Nat) (l : List UInt8) (a : Nat), l.length = n → toks (l.map capB) a = toks l a := by
  intro n
  induction n using Nat.strongRecOn with
  | _ n ih =>
    intro l a hl
    cases l with
    | nil => rfl
    | cons b l =>
      have hlt : l.length < n := by rw [← hl]; simp
      rw [List.map_cons]
      by_cases hb : b = 32
      · subst hb
        rw [show capB 32 = 32 from rfl, toks_blank, toks_blank]
        exact ih l.length hlt l (a + 1) rfl
      · rw [toks_more hb, toks_more (fun h => hb ((capB_blank b).1 h)), capB_kind, runLen_cap, ← List.map_drop]
        congr 1
        exact ih _ (by rw [List.length_drop]; omega) _ _ rfl
def capS (s : S) : S := ofB ((byts s).map capB)
theorem capS_size (s : S) : (capS s).size = s.size := by
  show (((byts s).map capB).toArray).size = s.data.size
  rw [List.size_toArray, List.length_map]; rfl
theorem ext_byts (s : S) (f i : Nat) : byts (s.extract f i) = ((byts s).drop f).take (i - f) := by
  unfold byts
  rw [ByteArray.data_extract, Array.toList_extract, List.extract_eq_take_drop]
theorem fold_cap (s : S) (i j : Nat) : foldS ((capS s).extract i j) = foldS (s.extract i j) := by
  unfold foldS
  rw [ext_byts, ext_byts]
  unfold capS
  rw [byts_ofB, ← List.map_drop, ← List.map_take, List.map_map]
  congr 1
  apply List.map_congr_left
  intro b _
  exact capB_fold b
theorem wordOf_cap (s : S) (p : Bool) (t : Tok) : wordOf (capS s) p t = wordOf s p t := by unfold wordOf; rw [fold_cap]
theorem folded_cap (s : S) : ∀ (n : Nat) (l : List Tok), l.length = n → folded (capS s) l = folded s l := by
  intro n
  induction n using Nat.strongRecOn with
  | _ n ih =>
    intro l hl
    cases l with
    | nil => rw [folded_nil, folded_nil]
    | cons t l =>
      rw [folded_more (capS s) (l := t :: l) (by simp), folded_more s (l := t :: l) (by simp)]
      congr 1
      · exact List.map_congr_left fun u _ => wordOf_cap s _ u
      · exact ih _ (by rw [List.length_drop]; simp [unitLen]; simp at hl; omega) _ rfl
theorem words_cap (s : S) : folded (capS s) (toks (byts (capS s)) 0) = folded s (toks (byts s) 0) := by
  rw [show byts (capS s) = (byts s).map capB from byts_ofB _, toks_cap _ _ _ rfl, folded_cap s _ _ rfl]
/-- a folded word is the token's -/
theorem folded_get (s : S) : ∀ (n : Nat) (l : List Tok), l.length = n → ∀ (q : Nat) (x : S), (folded s l)[q]? = some x → x = eS ∨ ∃ t, l[q]? = some t ∧ x = foldS (s.extract t.lo t.hi) := by
  intro n
  induction n using Nat.strongRecOn with
  | _ n ih =>
    intro l hl q x hx
    cases l with
    | nil => rw [folded_nil] at hx; cases hx
    | cons t l =>
      have hu := unitLen_le (t :: l)
      rw [folded_more s (l := t :: l) (by simp)] at hx
      by_cases hq : q < unitLen (t :: l)
      · rw [List.getElem?_append_left (by rw [List.length_map, List.length_take]; omega), List.getElem?_map, List.getElem?_take, if_pos hq] at hx
        cases hg : (t :: l)[q]? with
        | none => rw [hg] at hx; cases hx
        | some u =>
          rw [hg] at hx
          injection hx with hx
          unfold wordOf at hx
          split at hx
          · exact .inr ⟨u, rfl, hx.symm⟩
          · exact .inl hx.symm
      · rw [List.getElem?_append_right (by rw [List.length_map, List.length_take]; omega), List.length_map, List.length_take, Nat.min_eq_left hu] at hx
        rcases ih _ (by rw [List.length_drop]; simp [unitLen]; simp at hl; omega) _ rfl _ _ hx with h | ⟨u, h1, h2⟩
        · exact .inl h
        · refine .inr ⟨u, ?_, h2⟩
          rw [List.getElem?_drop] at h1
          rwa [show unitLen (t :: l) + (q - unitLen (t :: l)) = q from by omega] at h1
/-- the best of some terms -/
theorem best_fold {lang : Int} {W : List S} {q : Nat} : ∀ (l : List Term) (b : Nat × S × S), b.1 ≤ (l.foldl (better lang W q) b).1 ∧
    (∀ t ∈ l, (t.lang = 0 ∨ t.lang = lang) → stands W q (nw t.name) = true → (nw t.name).length ≤ (l.foldl (better lang W q) b).1) ∧
    (l.foldl (better lang W q) b = b ∨ ∃ t ∈ l, stands W q (nw t.name) = true ∧ l.foldl (better lang W q) b = ((nw t.name).length, t.name, prefT t))
  | [], b => ⟨Nat.le_refl _, (fun t h => by cases h), .inl rfl⟩
  | u :: l, b => by
    obtain ⟨h1, h2, h3⟩ := best_fold l (better lang W q b u)
    rw [List.foldl_cons]
    by_cases hc : (u.lang = 0 ∨ u.lang = lang) ∧ b.1 < (nw u.name).length ∧ stands W q (nw u.name) = true
    · have hb : better lang W q b u = ((nw u.name).length, u.name, prefT u) := by unfold better; rw [if_pos hc]
      rw [hb] at h1 h2 h3 ⊢
      refine ⟨Nat.le_trans (Nat.le_of_lt hc.2.1) h1, fun t ht hl hs => ?_, ?_⟩
      · rcases List.mem_cons.1 ht with rfl | ht
        · exact h1
        · exact h2 t ht hl hs
      · rcases h3 with h3 | ⟨t, ht, h4, h5⟩
        · exact .inr ⟨u, List.mem_cons_self, hc.2.2, h3⟩
        · exact .inr ⟨t, List.mem_cons_of_mem _ ht, h4, h5⟩
    · have hb : better lang W q b u = b := by unfold better; rw [if_neg hc]
      rw [hb] at h1 h2 h3 ⊢
      refine ⟨h1, fun t ht hl hs => ?_, ?_⟩
      · rcases List.mem_cons.1 ht with rfl | ht
        · have : ¬ b.1 < (nw t.name).length := fun h => hc ⟨hl, h, hs⟩
          omega
        · exact h2 t ht hl hs
      · rcases h3 with h3 | ⟨t, ht, h4⟩
        · exact .inl h3
        · exact .inr ⟨t, List.mem_cons_of_mem _ ht, h4⟩
/-- no name has more words at a token -/
theorem best_max {lang : Int} {W : List S} {q : Nat} {l : List Term} {t : Term} (ht : t ∈ l) (hl : t.lang = 0 ∨ t.lang = lang) (hs : stands W q (nw t.name) = true) : (nw t.name).length ≤ (bestM lang W q l).1 := (best_fold l _).2.1 t ht hl hs
theorem best_is {lang : Int} {W : List S} {q : Nat} {l : List Term} (h : ¬ (bestM lang W q l).1 = 0) : ∃ t ∈ l, stands W q (nw t.name) = true ∧ bestM lang W q l = ((nw t.name).length, t.name, prefT t) := by
  rcases (best_fold (lang := lang) (W := W) (q := q) l (0, ⟨#[]⟩, ⟨#[]⟩)).2.2 with h1 | h1
  · exact absurd (by unfold bestM; rw [h1]) h
  · exact h1
/-- what mentions from a token on say -/
def MenOk (l : List Term) (lang : Int) (W : List S) : Nat → List Men → Prop
  | k, [] => ∀ q, k ≤ q → q < W.length → (bestM lang W q l).1 = 0
  | k, m :: ms => k ≤ m.lo ∧ m.lo < m.hi ∧ m.hi ≤ W.length ∧ (∀ q, k ≤ q → q < m.lo → (bestM lang W q l).1 = 0) ∧ bestM lang W m.lo l = (m.hi - m.lo, m.name, m.pref) ∧ MenOk l lang W m.hi ms
theorem menOk_one {l : List Term} {lang : Int} {W : List S} {k : Nat} (h0 : (bestM lang W k l).1 = 0) : ∀ {ms : List Men}, MenOk l lang W (k + 1) ms → MenOk l lang W k ms
  | [], h => fun q h1 h2 => by
    by_cases e : q = k
    · rw [e]; exact h0
    · exact h q (by omega) h2
  | m :: ms, ⟨h1, h2, h3, h4, h5⟩ => ⟨by omega, h2, h3, fun q g1 g2 => by
    by_cases e : q = k
    · rw [e]; exact h0
    · exact h4 q (by omega) g2, h5⟩
theorem mens_ok (l : List Term) (lang : Int) (W : List S) : ∀ (d k : Nat), W.length - k = d → MenOk l lang W k (mens l lang W k) := by
  intro d
  induction d using Nat.strongRecOn with
  | _ d ih =>
    intro k hd
    by_cases hk : k < W.length
    · by_cases h0 : (bestM lang W k l).1 = 0
      · rw [mens_none hk h0]
        exact menOk_one h0 (ih (W.length - (k + 1)) (by omega) (k + 1) rfl)
      · rw [mens_one hk h0]
        have hin := bestM_in lang W k l (Nat.le_of_lt hk)
        refine ⟨Nat.le_refl _, ?_, hin, fun q h1 h2 => ?_, ?_, ih (W.length - (k + (bestM lang W k l).1)) (by omega) _ rfl⟩
        · dsimp only; omega
        · dsimp only at h2; omega
        · dsimp only
          rw [show k + (bestM lang W k l).1 - k = (bestM lang W k l).1 from by omega]
    · rw [mens_end hk]
      exact fun q h1 h2 => absurd h2 (by omega)
theorem stands_spec {W : List S} {k : Nat} {x : List S} (h : stands W k x = true) : (W.drop k).take x.length = x := by
  unfold stands at h
  rw [Bool.and_eq_true, decide_eq_true_iff, decide_eq_true_iff] at h
  exact h.2
theorem stands_get {W : List S} {k : Nat} {x : List S} (h : stands W k x = true) {i : Nat} {y : S} (hy : x[i]? = some y) : W[k + i]? = some y := by
  rw [← stands_spec h, List.getElem?_take] at hy
  split at hy
  · rwa [List.getElem?_drop] at hy
  · cases hy
theorem nw_pos (s : S) : 1 ≤ (nw s).length := by
  have : ∀ l : List UInt8, 1 ≤ (wordsB 32 l).length := by
    intro l
    cases l with
    | nil => simp [wordsB]
    | cons b l =>
      rw [wordsB]
      split
      · simp
      · split <;> simp
  unfold nw
  rw [List.length_map]
  exact this _
/-- no term stands where the best has no words -/
theorem best_free {lang : Int} {W : List S} {q : Nat} {l : List Term} (h : (bestM lang W q l).1 = 0) {t : Term} (ht : t ∈ l) (hl : t.lang = 0 ∨ t.lang = lang) : stands W q (nw t.name) = false := by
  cases hs : stands W q (nw t.name)
  · rfl
  · have := best_max ht hl hs
    have := nw_pos t.name
    omega
/-- the words of a possible name are not empty -/
theorem nw_ne {s : S} (h : isName s = true) : ∀ x ∈ nw s, x ≠ eS := by
  intro x hx
  obtain ⟨y, hy, rfl⟩ := List.mem_map.1 hx
  unfold isName at h
  rw [Bool.and_eq_true] at h
  have := List.all_eq_true.1 h.2 y hy
  rw [Bool.and_eq_true] at this
  intro e
  have h2 : y = [] := by
    have : byts (ofB y) = byts eS := by rw [e]
    rw [byts_ofB] at this
    exact this
  rw [h2] at this
  exact absurd this.1 (by decide)
/-- a mention, in plain words -/
theorem men_at_ok {l : List Term} {lang : Int} {s : S} {k : Nat} {m : Men} {ms : List Men} (hv : VOk l) (h : MenOk l lang (folded s (toks (byts s) 0)) k (m :: ms)) :
    prefer l m.name = (m.pref, 0) ∨ (vvalid l).2 ≠ 0 := by
  by_cases hz : (vvalid l).2 = 0
  · refine .inl ?_
    obtain ⟨h1, h2, h3, h4, h5, _⟩ := h
    obtain ⟨t, ht, _, hb⟩ := best_is (l := l) (lang := lang) (W := folded s (toks (byts s) 0)) (q := m.lo) (by rw [h5]; dsimp only; omega)
    rw [h5] at hb
    injection hb with _ hb
    injection hb with hn hp
    unfold prefer
    rw [if_pos hz, hn, hv.find ht, hp]
  · exact .inr hz
theorem men_words {l : List Term} {lang : Int} {s : S} {k : Nat} {m : Men} {ms : List Men} (hv : VOk l) (h : MenOk l lang (folded s (toks (byts s) 0)) k (m :: ms)) :
    (nw m.name).length = m.hi - m.lo ∧ ∀ (i : Nat) (y : S), (nw m.name)[i]? = some y → ∃ t, (toks (byts s) 0)[m.lo + i]? = some t ∧ y = foldS (s.extract t.lo t.hi) := by
  obtain ⟨h1, h2, h3, h4, h5, _⟩ := h
  obtain ⟨t, ht, hs, hb⟩ := best_is (l := l) (lang := lang) (W := folded s (toks (byts s) 0)) (q := m.lo) (by rw [h5]; dsimp only; omega)
  rw [h5] at hb
  injection hb with hn hb
  injection hb with hnm hp
  rw [hnm]
  refine ⟨hn.symm, fun i y hy => ?_⟩
  have hg := stands_get hs hy
  obtain ⟨q, f⟩ := hv.fine t ht
  have hne := nw_ne (possible_name f.poss) y (List.mem_of_getElem? hy)
  rcases folded_get s _ _ rfl _ _ hg with e | h
  · exact absurd e hne
  · exact h
end Rf
