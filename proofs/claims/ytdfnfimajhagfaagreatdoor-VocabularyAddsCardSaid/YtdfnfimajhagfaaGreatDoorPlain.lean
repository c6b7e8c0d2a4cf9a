/- Plain laws: what package refer computes is what its reference model computes. -/
import Derived.Test.YtdfnfimajhagfaaGreatDoorRank
namespace Rf
/-! ### sees -/
theorem seeFrom_append (s : S) : ∀ (a b : List Ref) (i : Nat), seeFrom s (a ++ b) i = (seeFrom s a i).or (seeFrom s b (i + a.length))
  | [], b, i => by simp [seeFrom]
  | r :: a, b, i => by
    simp only [List.cons_append, seeFrom]
    split
    · rfl
    · rw [seeFrom_append s a b (i + 1)]; simp only [List.length_cons]; rw [show i + 1 + a.length = i + (a.length + 1) from by omega]
theorem seeFrom_ge (s : S) : ∀ (l : List Ref) (i j : Nat), seeFrom s l i = some j → i ≤ j ∧ j < i + l.length ∧ ∃ r, l[j - i]? = some r ∧ r.frm = s ∧ r.also = false
  | [], i, j, h => by simp [seeFrom] at h
  | r :: l, i, j, h => by
    simp only [seeFrom] at h
    split at h
    · rename_i hc
      injection h with h
      subst h
      simp only [Bool.and_eq_true, Bool.not_eq_true'] at hc
      exact ⟨Nat.le_refl _, by simp, r, by simp, (eqS_iff _ _).1 hc.1, hc.2⟩
    · obtain ⟨h1, h2, q, h3, h4⟩ := seeFrom_ge s l (i + 1) j h
      refine ⟨by omega, by simp only [List.length_cons]; omega, q, ?_, h4⟩
      rw [show j - i = (j - (i + 1)) + 1 from by omega, List.getElem?_cons_succ]
      exact h3
theorem see_some {l : List Ref} {s : S} {j : Nat} (h : see l s = some j) : j < l.length ∧ ∃ r, l[j]? = some r ∧ r.frm = s ∧ r.also = false := by
  obtain ⟨_, h2, r, h3, h4⟩ := seeFrom_ge s l 0 j h
  exact ⟨by omega, r, by simpa using h3, h4⟩
theorem seeFrom_none (s : S) : ∀ (l : List Ref) (i : Nat), seeFrom s l i = none ↔ ∀ q ∈ l, ¬ (q.frm = s ∧ q.also = false)
  | [], i => by simp [seeFrom]
  | r :: l, i => by
    simp only [seeFrom]
    split
    · rename_i hc
      simp only [Bool.and_eq_true, Bool.not_eq_true'] at hc
      constructor
      · intro h; cases h
      · intro h; exact absurd ⟨(eqS_iff _ _).1 hc.1, hc.2⟩ (h r (by simp))
    · rename_i hc
      rw [seeFrom_none s l (i + 1)]
      simp only [Bool.and_eq_true, Bool.not_eq_true', eqS_iff] at hc
      constructor
      · intro h q hq
        rcases List.mem_cons.1 hq with rfl | hq
        · exact hc
        · exact h q hq
      · intro h q hq; exact h q (List.mem_cons_of_mem _ hq)
theorem take_snoc {α : Type} {l : List α} {k : Nat} {r : α} (h : l[k]? = some r) : l.take (k + 1) = l.take k ++ [r] := by
  obtain ⟨hl, rfl⟩ := List.getElem?_eq_some_iff.1 h
  exact List.take_succ_eq_append_getElem hl
theorem len_take {α : Type} {l : List α} {k : Nat} {r : α} (h : l[k]? = some r) : (l.take k).length = k := by
  obtain ⟨hl, rfl⟩ := List.getElem?_eq_some_iff.1 h
  rw [List.length_take]; omega
/-- the map of sees, one reference more -/
theorem see_snoc {l : List Ref} {k : Nat} {r : Ref} (h : l[k]? = some r) (s : S) : see (l.take (k + 1)) s = (see (l.take k) s).or (if s = r.frm ∧ r.also = false then some k else none) := by
  unfold see
  rw [take_snoc h, seeFrom_append, len_take h]
  congr 1
  simp only [seeFrom, Nat.zero_add]
  by_cases hc : s = r.frm ∧ r.also = false
  · rw [if_pos hc, if_pos (by simp [hc.1, hc.2, (eqS_iff r.frm r.frm).2 rfl])]
  · rw [if_neg hc, if_neg (by simp only [Bool.and_eq_true, Bool.not_eq_true', eqS_iff]; exact fun e => hc ⟨e.1.symm, e.2⟩)]
theorem split_at {α : Type} {l : List α} {k : Nat} {r : α} (h : l[k]? = some r) : l = l.take k ++ r :: l.drop (k + 1) := by
  obtain ⟨hl, rfl⟩ := List.getElem?_eq_some_iff.1 h
  rw [← List.drop_eq_getElem_cons hl, List.take_append_drop]
theorem see_clash {l : List Ref} {i : Nat} {r : Ref} (h : l[i]? = some r) (ha : r.also = false) : ((l.take i).any fun q => !r.also && !q.also && eqS q.frm r.frm) = (see l r.frm != some i) := by
  have e : see l r.frm = (see (l.take i) r.frm).or (seeFrom r.frm (r :: l.drop (i + 1)) i) := by
    unfold see
    conv => lhs; rw [split_at h, seeFrom_append, len_take h, Nat.zero_add]
  have e2 : seeFrom r.frm (r :: l.drop (i + 1)) i = some i := by
    simp only [seeFrom]
    rw [if_pos (by simp [ha, (eqS_iff r.frm r.frm).2 rfl])]
  rw [e2] at e
  cases hs : see (l.take i) r.frm with
  | none =>
    rw [hs] at e
    rw [e]
    have := (seeFrom_none r.frm (l.take i) 0).1 hs
    simp only [Option.none_or, bne_self_eq_false]
    rw [List.any_eq_false]
    intro q hq hc
    simp only [ha, Bool.not_false, Bool.true_and, Bool.and_eq_true, Bool.not_eq_true', eqS_iff] at hc
    exact this q hq ⟨hc.2, hc.1⟩
  | some j =>
    rw [hs] at e
    obtain ⟨h1, q, h2, h3, h4⟩ := see_some hs
    rw [len_take h] at h1
    rw [e]
    simp only [Option.some_or]
    rw [show (some j != some i) = true from by simp; omega]
    rw [List.any_eq_true]
    exact ⟨q, List.mem_of_getElem? h2, by simp [ha, h4, h3, (eqS_iff r.frm r.frm).2 rfl]⟩
/-- the first error of a reference, as the program asks -/
def wrongP (l : List Ref) (heads : List S) (i : Nat) (r : Ref) : Int :=
  if (l.take i).contains r then eTwice
  else if has heads r.frm != r.also then eName
  else if !r.also && (see l r.frm != some i) then eClash
  else if !has heads r.to && (r.also || (see l r.to).isNone) then eNone
  else if r.also then (if eqS r.frm r.to then eCycle else eOK)
  else if circles l heads r.frm (l.length + 1) r.to then eCycle else eOK
theorem wrong_eq {l : List Ref} {heads : List S} {i : Nat} {r : Ref} (h : l[i]? = some r) : wrong l heads i r = wrongP l heads i r := by
  unfold wrong wrongP
  cases ha : r.also
  · have e := see_clash h ha
    rw [ha] at e
    rw [e]
    simp only [Bool.not_false, Bool.true_and]
  · have e : ((l.take i).any fun q => !true && !q.also && eqS q.frm r.frm) = false := by simp
    rw [e]
    simp
/-! ### lists of names in order -/
theorem mem_puts (s : S) : ∀ (l a : List S), s ∈ l.foldl put a ↔ s ∈ a ∨ s ∈ l
  | [], a => by simp
  | x :: l, a => by
    rw [List.foldl_cons, mem_puts s l, mem_put, List.mem_cons]
    constructor
    · rintro ((h | h) | h)
      · exact .inr (.inl h)
      · exact .inl h
      · exact .inr (.inr h)
    · rintro (h | h | h)
      · exact .inl (.inr h)
      · exact .inl (.inl h)
      · exact .inr h
theorem sorted_puts : ∀ (l : List S) {a : List S}, Sorted a → Sorted (l.foldl put a)
  | [], _, h => h
  | x :: l, _, h => sorted_puts l (sorted_put h x)
def sortS (l : List S) : List S := l.foldl put []
theorem sorted_nil : Sorted [] := List.Pairwise.nil
theorem mem_sortS {l : List S} {s : S} : s ∈ sortS l ↔ s ∈ l := by unfold sortS; rw [mem_puts]; simp
theorem sorted_sortS (l : List S) : Sorted (sortS l) := sorted_puts l sorted_nil
theorem sortS_eq {l m : List S} (hs : Sorted m) (hm : ∀ x, x ∈ m ↔ x ∈ l) : sortS l = m := Sorted.eq_of_mem (sorted_sortS l) hs fun x => by rw [mem_sortS, hm]
theorem deadFrom_eq (l : List Ref) (heads : List S) : ∀ (rest : List Ref) (d : List S), deadFrom l heads rest d = ((rest.filter fun r => !r.also && (rank l heads r.frm).isNone).map Ref.frm).foldl put d
  | [], d => rfl
  | r :: rest, d => by
    unfold deadFrom
    rw [deadFrom_eq l heads rest]
    cases hc : (!r.also && (rank l heads r.frm).isNone) <;> simp [hc]
/-! ### Reach -/
theorem reach_mem {l : List Ref} {heads : List S} {frm : S} {most : Int} {x : S} : x ∈ reach l heads frm most ↔ x ∈ heads ∧ ∃ d, dist l frm x = some d ∧ (d : Int) ≤ most := by
  unfold reach
  by_cases h0 : most < 0
  · rw [if_pos h0]
    constructor
    · intro h; cases h
    · rintro ⟨_, d, _, h⟩; omega
  · rw [if_neg h0, List.mem_filter, has_iff, mem_within]
    constructor
    · rintro ⟨h1, h2⟩
      obtain ⟨d, h3, h4⟩ := dist_of_W h1
      exact ⟨h2, d, h3, by omega⟩
    · rintro ⟨h1, d, h2, h3⟩
      exact ⟨W_mono (dist_some.1 h2).1 (by omega), h1⟩
theorem reach_sorted (l : List Ref) (heads : List S) (frm : S) (most : Int) : Sorted (reach l heads frm most) := by
  unfold reach
  split
  · exact sorted_nil
  · exact (sorted_within l frm _).sublist List.filter_sublist
theorem reach_eq {l : List Ref} {heads : List S} {frm : S} {most : Int} {m : List S} (hs : Sorted m) (hm : ∀ x, x ∈ m ↔ x ∈ heads ∧ ∃ d, dist l frm x = some d ∧ (d : Int) ≤ most) : m = reach l heads frm most :=
  Sorted.eq_of_mem hs (reach_sorted l heads frm most) fun x => by rw [hm, reach_mem]
/-! ### Way -/
/-- the names to which a step may go -/
def cand (l : List Ref) (heads : List S) (last to : S) (n : Nat) : List S := (l.filter fun r => eqS r.frm last && (steps l heads r.to to == some n)).map Ref.to
def leastOf (b : Option S) (c : List S) : Option S := c.foldl (fun b x => match b with | none => some x | some y => if ltS x y then some x else some y) b
theorem best_eq (l : List Ref) (heads : List S) (last to : S) (n : Nat) : ∀ (rest : List Ref) (b : Option S),
    best l heads last to n rest b = leastOf b ((rest.filter fun r => eqS r.frm last && (steps l heads r.to to == some n)).map Ref.to)
  | [], b => rfl
  | r :: rest, b => by
    unfold best
    rw [best_eq l heads last to n rest]
    cases h1 : eqS r.frm last <;> cases h2 : (steps l heads r.to to == some n)
    · simp [h1]
    · simp [h1]
    · simp [h1, h2]
    · cases b with
      | none => simp [h1, h2, leastOf]
      | some y => cases h3 : ltS r.to y <;> simp [h1, h2, h3, leastOf]
theorem leastOf_some : ∀ (c : List S) (y : S), ∃ m, leastOf (some y) c = some m ∧ m ∈ y :: c ∧ ∀ x ∈ y :: c, ltS x m = false
  | [], y => ⟨y, rfl, by simp, by simp [ltS_irrefl]⟩
  | z :: c, y => by
    have hstep : leastOf (some y) (z :: c) = leastOf (if ltS z y then some z else some y) c := rfl
    rw [hstep]
    cases h : ltS z y
    · obtain ⟨m, h1, h2, h3⟩ := leastOf_some c y
      refine ⟨m, by simpa using h1, by simp at h2 ⊢; rcases h2 with h | h <;> simp [h], fun x hx => ?_⟩
      simp only [List.mem_cons] at hx
      rcases hx with rfl | rfl | hx
      · exact h3 _ (by simp)
      · cases hz : ltS x m
        · rfl
        · have hy := h3 y (by simp)
          rcases ltS_total y m with hh | hh | hh
          · rw [hy] at hh; cases hh
          · subst hh; rw [h] at hz; cases hz
          · rw [ltS_trans hz hh] at h; cases h
      · exact h3 x (by simp [hx])
    · obtain ⟨m, h1, h2, h3⟩ := leastOf_some c z
      refine ⟨m, by simpa using h1, by simp at h2 ⊢; rcases h2 with h | h <;> simp [h], fun x hx => ?_⟩
      simp only [List.mem_cons] at hx
      rcases hx with rfl | rfl | hx
      · cases hz : ltS x m
        · rfl
        · have := h3 z (by simp)
          rw [ltS_trans h hz] at this; cases this
      · exact h3 _ (by simp)
      · exact h3 x (by simp [hx])
theorem leastOf_none : ∀ (c : List S) (x : S), x ∈ c → ∃ m, leastOf none c = some m ∧ m ∈ c ∧ ∀ x ∈ c, ltS x m = false
  | [], x, h => by cases h
  | z :: c, x, _ => leastOf_some c z
/-- whatever is least among the candidates is the best -/
theorem least_unique {c : List S} {m : S} (hm : m ∈ c) (hl : ∀ x ∈ c, ltS x m = false) : leastOf none c = some m := by
  obtain ⟨m', h1, h2, h3⟩ := leastOf_none c m hm
  rw [h1]
  congr 1
  rcases ltS_total m' m with h | h | h
  · rw [hl m' h2] at h; cases h
  · exact h
  · rw [h3 m hm] at h; cases h
theorem steps_head {l : List Ref} {heads : List S} {to : S} (h : has heads to = true) (frm : S) : steps l heads frm to = dist l frm to := by unfold steps; rw [if_pos h]; rfl
theorem cand_mem {l : List Ref} {heads : List S} {last to x : S} {n : Nat} (h : has heads to = true) : x ∈ cand l heads last to n ↔ ∃ r ∈ l, r.frm = last ∧ dist l r.to to = some n ∧ r.to = x := by
  unfold cand
  simp only [List.mem_map, List.mem_filter, Bool.and_eq_true, eqS_iff, steps_head h, beq_iff_eq]
  constructor
  · rintro ⟨r, ⟨h1, h2, h3⟩, h4⟩; exact ⟨r, h1, h2, h3, h4⟩
  · rintro ⟨r, h1, h2, h3, h4⟩; exact ⟨r, ⟨h1, h2, h3⟩, h4⟩
/-! ### kept -/
def kstep (l : List Ref) (heads : List S) (name : S) (i : Nat) (r : Ref) (b : Option (Nat × Nat)) : Option (Nat × Nat) :=
  if eqS r.frm name && !r.also then
    match rank l heads r.to with
    | none => b
    | some n => (match b with
      | none => some (i, n)
      | some (_, m) => if n < m then some (i, n) else b)
  else b
theorem keptFrom_snoc (l : List Ref) (heads : List S) (name : S) : ∀ (a : List Ref) (r : Ref) (i : Nat) (b : Option (Nat × Nat)),
    keptFrom l heads name (a ++ [r]) i b = kstep l heads name (i + a.length) r (keptFrom l heads name a i b)
  | [], r, i, b => rfl
  | q :: a, r, i, b => by
    rw [List.cons_append]
    unfold keptFrom
    rw [keptFrom_snoc l heads name a r (i + 1)]
    rw [show i + 1 + a.length = i + (q :: a).length from by simp only [List.length_cons]; omega]
/-- the kept see of a name among the first k references -/
def keptAt (l : List Ref) (heads : List S) (k : Nat) (name : S) : Option (Nat × Nat) := keptFrom l heads name (l.take k) 0 none
theorem keptAt_zero (l : List Ref) (heads : List S) (name : S) : keptAt l heads 0 name = none := by unfold keptAt; rw [List.take_zero]; rfl
theorem keptAt_succ {l : List Ref} {heads : List S} {k : Nat} {r : Ref} (h : l[k]? = some r) (name : S) : keptAt l heads (k + 1) name = kstep l heads name k r (keptAt l heads k name) := by
  unfold keptAt
  rw [take_snoc h, keptFrom_snoc, len_take h, Nat.zero_add]
theorem keptAt_all (l : List Ref) (heads : List S) (name : S) : (keptAt l heads l.length name).map (·.1) = kept l heads name := by
  unfold keptAt kept; rw [List.take_length]
theorem keptAt_some {l : List Ref} {heads : List S} {name : S} : ∀ {k i n : Nat}, k ≤ l.length → keptAt l heads k name = some (i, n) → i < k ∧ ∃ r, l[i]? = some r ∧ r.frm = name ∧ r.also = false ∧ rank l heads r.to = some n
  | 0, i, n, _, h => by rw [keptAt_zero] at h; cases h
  | k + 1, i, n, hk, h => by
    have hlt : k < l.length := by omega
    have hr : l[k]? = some l[k] := List.getElem?_eq_getElem hlt
    rw [keptAt_succ hr] at h
    have old : keptAt l heads k name = some (i, n) → i < k + 1 ∧ ∃ r, l[i]? = some r ∧ r.frm = name ∧ r.also = false ∧ rank l heads r.to = some n := fun h => by
      obtain ⟨h1, h2⟩ := keptAt_some (by omega) h
      exact ⟨by omega, h2⟩
    unfold kstep at h
    split at h
    · rename_i hc
      simp only [Bool.and_eq_true, Bool.not_eq_true', eqS_iff] at hc
      cases hn : rank l heads l[k].to with
      | none => rw [hn] at h; exact old h
      | some m =>
        rw [hn] at h
        have new : some (k, m) = some (i, n) → i < k + 1 ∧ ∃ r, l[i]? = some r ∧ r.frm = name ∧ r.also = false ∧ rank l heads r.to = some n := fun e => by
          cases e
          exact ⟨by omega, l[k], hr, hc.1, hc.2, hn⟩
        cases hb : keptAt l heads k name with
        | none => rw [hb] at h; exact new h
        | some p =>
          obtain ⟨j, q⟩ := p
          rw [hb] at h
          simp only at h
          split at h
          · exact new h
          · exact old (hb.trans h)
    · exact old h
end Rf
