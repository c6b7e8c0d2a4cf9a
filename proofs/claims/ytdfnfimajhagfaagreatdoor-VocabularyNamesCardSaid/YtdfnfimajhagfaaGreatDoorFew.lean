/- Plain laws: what Repair leaves is valid and accepted by Check, and no list with fewer left out is valid. -/
import Derived.Test.YtdfnfimajhagfaaGreatDoorPlain
namespace Rf
section
variable {l : List Ref} {heads : List S}
/-! ### valid lists -/
theorem validFrom_len : ∀ (rest : List Ref) (i : Nat), (validFrom l heads rest i).2 = eOK → validFrom l heads rest i = (i + rest.length, eOK)
  | [], i, _ => rfl
  | r :: rest, i, h => by
    unfold validFrom at h ⊢
    by_cases hw : wrong l heads i r = eOK
    · rw [if_neg (by rw [hw]; decide)] at h ⊢
      rw [validFrom_len rest (i + 1) h]
      simp only [List.length_cons]
      rw [show i + 1 + rest.length = i + (rest.length + 1) from by omega]
    · rw [if_pos (by simpa using hw)] at h
      exact absurd h hw
theorem validFrom_ok : ∀ (rest : List Ref) (i : Nat), (validFrom l heads rest i).2 = eOK ↔ ∀ j r, rest[j]? = some r → wrong l heads (i + j) r = eOK
  | [], i => by simp [validFrom]
  | r :: rest, i => by
    unfold validFrom
    by_cases hw : wrong l heads i r = eOK
    · rw [if_neg (by rw [hw]; decide), validFrom_ok rest (i + 1)]
      constructor
      · intro h j q hq
        cases j with
        | zero => simp at hq; subst hq; exact hw
        | succ j => rw [List.getElem?_cons_succ] at hq; rw [show i + (j + 1) = i + 1 + j from by omega]; exact h j q hq
      · intro h j q hq
        have := h (j + 1) q (by rw [List.getElem?_cons_succ]; exact hq)
        rw [show i + (j + 1) = i + 1 + j from by omega] at this; exact this
    · rw [if_pos (by simpa using hw)]
      constructor
      · intro h; exact absurd h hw
      · intro h; exact absurd (h 0 r rfl) hw
def Ok (l : List Ref) (heads : List S) : Prop := ∀ i r, l[i]? = some r → wrong l heads i r = eOK
theorem valid_ok : (valid l heads).2 = eOK ↔ Ok l heads := by
  unfold valid Ok
  rw [validFrom_ok]
  simp
theorem valid_of_ok (h : Ok l heads) : valid l heads = (l.length, eOK) := by
  have := validFrom_len l 0 ((valid_ok (l := l) (heads := heads)).2 h)
  unfold valid; rw [this]; simp
/-! ### a reference with no fault -/
structure Good (l : List Ref) (heads : List S) (i : Nat) (r : Ref) : Prop where
  once : r ∉ l.take i
  name : has heads r.frm = r.also
  first : r.also = false → see l r.frm = some i
  goes : has heads r.to = true ∨ (r.also = false ∧ ∃ k, see l r.to = some k)
  also : r.also = true → r.frm ≠ r.to
  circ : r.also = false → circles l heads r.frm (l.length + 1) r.to = false
theorem contains_iff {l : List Ref} {r : Ref} : l.contains r = true ↔ r ∈ l := by
  rw [List.contains_iff_exists_mem_beq]
  constructor
  · rintro ⟨a, h, e⟩
    have : r = a := by simpa using e
    rw [this]; exact h
  · intro h; exact ⟨r, h, by simp⟩
theorem good_iff {i : Nat} {r : Ref} (h : l[i]? = some r) : wrong l heads i r = eOK ↔ Good l heads i r := by
  rw [wrong_eq h]
  unfold wrongP
  constructor
  · intro hw
    split at hw
    · cases hw
    rename_i h1
    split at hw
    · cases hw
    rename_i h2
    split at hw
    · cases hw
    rename_i h3
    split at hw
    · cases hw
    rename_i h4
    refine ⟨fun hm => h1 (contains_iff.2 hm), by simpa using h2, fun ha => ?_, ?_, fun ha => ?_, fun ha => ?_⟩
    · simp only [ha, Bool.not_false, Bool.true_and, bne_iff_ne, ne_eq, Decidable.not_not] at h3; exact h3
    · cases ht : has heads r.to
      · right
        rw [ht] at h4
        cases ha : r.also
        · rw [ha] at h4
          cases hs : see l r.to with
          | none => rw [hs] at h4; exact absurd rfl h4
          | some k => exact ⟨rfl, k, rfl⟩
        · rw [ha] at h4; exact absurd rfl h4
      · exact .inl rfl
    · rw [ha, if_pos rfl] at hw
      intro e
      rw [if_pos ((eqS_iff _ _).2 e)] at hw
      cases hw
    · rw [ha, if_neg (by simp)] at hw
      cases hc : circles l heads r.frm (l.length + 1) r.to
      · rfl
      · rw [hc, if_pos rfl] at hw; cases hw
  · rintro ⟨h1, h2, h3, h4, h5, h6⟩
    rw [if_neg (fun e => h1 (contains_iff.1 e)), if_neg (by simp [h2])]
    rw [if_neg (by
      cases ha : r.also
      · simp [h3 ha]
      · simp)]
    rw [if_neg (by
      rcases h4 with h4 | ⟨ha, k, hk⟩
      · simp [h4]
      · simp [ha, hk])]
    cases ha : r.also
    · rw [if_neg (by simp), h6 ha]; rfl
    · rw [if_pos rfl, if_neg (by rw [eqS_iff]; exact h5 ha)]
/-! ### the walk along the sees -/
def run (l : List Ref) (heads : List S) : Nat → S → S → Prop
  | 0, x, y => x = y
  | k + 1, x, y => has heads x = false ∧ ∃ j, see l x = some j ∧ run l heads k (toOf l j) y
theorem circles_of_run {y : S} : ∀ {k n : Nat} {x : S}, run l heads k x y → k < n → circles l heads y n x = true
  | 0, n, x, h, hn => by
    obtain ⟨m, rfl⟩ : ∃ m, n = m + 1 := ⟨n - 1, by omega⟩
    unfold circles
    rw [if_pos ((eqS_iff _ _).2 h)]
  | k + 1, n, x, h, hn => by
    obtain ⟨m, rfl⟩ : ∃ m, n = m + 1 := ⟨n - 1, by omega⟩
    obtain ⟨h1, j, h2, h3⟩ := h
    unfold circles
    split
    · rfl
    · rw [h2]
      simp only
      rw [if_neg (by simp [h1])]
      exact circles_of_run h3 (by omega)
theorem run_snoc {j : Nat} : ∀ {k : Nat} {x y : S}, run l heads k x y → has heads y = false → see l y = some j → run l heads (k + 1) x (toOf l j)
  | 0, x, y, h, h1, h2 => by
    have e : x = y := h
    subst e
    exact ⟨h1, j, h2, rfl⟩
  | k + 1, x, y, h, h1, h2 => by
    obtain ⟨h3, i, h4, h5⟩ := h
    exact ⟨h3, i, h4, run_snoc h5 h1 h2⟩
theorem toOf_get {k : Nat} {r : Ref} (h : l[k]? = some r) : toOf l k = r.to := by unfold toOf; rw [h]; rfl
theorem see_get {x : S} {j : Nat} (h : see l x = some j) : ∃ r, l[j]? = some r ∧ r ∈ l ∧ r.frm = x ∧ r.also = false ∧ toOf l j = r.to := by
  obtain ⟨_, r, h1, h2, h3⟩ := see_some h
  exact ⟨r, h1, List.mem_of_getElem? h1, h2, h3, toOf_get h1⟩
theorem see_ex {r : Ref} (h : r ∈ l) (ha : r.also = false) : ∃ j, see l r.frm = some j := by
  cases hs : see l r.frm with
  | some j => exact ⟨j, rfl⟩
  | none => exact absurd ⟨rfl, ha⟩ ((seeFrom_none r.frm l 0).1 hs r h)
theorem R_head {x : S} (h : has heads x = true) : R l heads x 0 := ⟨x, (has_iff _ _).1 h, rfl⟩
theorem R_zero {x : S} (h : R l heads x 0) : has heads x = true := by
  obtain ⟨y, h1, h2⟩ := h
  have e : y = x := h2
  subst e
  exact (has_iff _ _).2 h1
theorem R_cons {r : Ref} {n : Nat} (hr : r ∈ l) (ha : r.also = false) (h : R l heads r.to n) : R l heads r.frm (n + 1) := by
  obtain ⟨y, h1, h2⟩ := h
  exact ⟨y, h1, W_cons (mem_sees.2 ⟨hr, ha⟩) h2⟩
theorem R_uncons {x : S} {n : Nat} (h : R l heads x n) : has heads x = true ∨ ∃ r ∈ l, r.also = false ∧ r.frm = x ∧ ∃ m, n = m + 1 ∧ R l heads r.to m := by
  cases n with
  | zero => exact .inl (R_zero h)
  | succ n =>
    obtain ⟨y, h1, h2⟩ := h
    rcases W_uncons h2 with e | ⟨r, hr, e, h3⟩
    · subst e; exact .inl ((has_iff _ _).2 h1)
    · obtain ⟨h4, h5⟩ := mem_sees.1 hr
      exact .inr ⟨r, h4, h5, e, n, rfl, y, h1, h3⟩
theorem ok_alive (hok : Ok l heads) : ∀ (f : Nat) (V : List S) (x : S), V.length + f = l.length + 1 → V.Nodup → (∀ v ∈ V, v ∈ l.map Ref.frm) → (∀ v ∈ V, ∃ k, 1 ≤ k ∧ k ≤ V.length ∧ run l heads k v x) →
    (has heads x = true ∨ ∃ j, see l x = some j) → ∃ n, R l heads x n := by
  intro f
  induction f with
  | zero =>
    intro V x hl hn hs _ _
    have := length_le_of_subset hn hs
    rw [List.length_map] at this
    omega
  | succ f ih =>
    intro V x hl hn hs hr hx
    cases hh : has heads x
    · rw [hh] at hx
      rcases hx with hx | ⟨j, hj⟩
      · cases hx
      obtain ⟨q, hq, hqm, hqf, hqa, hqt⟩ := see_get hj
      have hg := (good_iff hq).1 (hok j q hq)
      by_cases hin : x ∈ V
      · obtain ⟨k, hk1, hk2, hk⟩ := hr x hin
        obtain ⟨k', rfl⟩ : ∃ k', k = k' + 1 := ⟨k - 1, by omega⟩
        obtain ⟨_, j', hj', hk'⟩ := hk
        obtain rfl : j = j' := by rw [hj] at hj'; injection hj'
        have := circles_of_run (n := l.length + 1) hk' (by omega)
        rw [hqt, ← hqf, hg.circ hqa] at this
        cases this
      · have hstep : ∀ v ∈ x :: V, ∃ k, 1 ≤ k ∧ k ≤ (x :: V).length ∧ run l heads k v (toOf l j) := by
          intro v hv
          rcases List.mem_cons.1 hv with e | hv
          · subst e; exact ⟨1, Nat.le_refl _, by simp, hh, j, hj, rfl⟩
          · obtain ⟨k, hk1, hk2, hk⟩ := hr v hv
            exact ⟨k + 1, by omega, by simp only [List.length_cons]; omega, run_snoc hk hh hj⟩
        obtain ⟨n, hn'⟩ := ih (x :: V) (toOf l j) (by simp only [List.length_cons]; omega) (List.nodup_cons.2 ⟨hin, hn⟩) (fun v hv => by
            rcases List.mem_cons.1 hv with e | hv
            · subst e; rw [← hqf]; exact List.mem_map.2 ⟨q, hqm, rfl⟩
            · exact hs v hv) hstep (by
            rw [hqt]
            rcases hg.goes with h | ⟨_, h⟩
            · exact .inl h
            · exact .inr h)
        rw [hqt] at hn'
        exact ⟨n + 1, by rw [← hqf]; exact R_cons hqm hqa hn'⟩
    · exact ⟨0, R_head hh⟩
theorem ok_to (hok : Ok l heads) {i : Nat} {r : Ref} (h : l[i]? = some r) (_ha : r.also = false) : ∃ n, R l heads r.to n := by
  have hg := (good_iff h).1 (hok i r h)
  refine ok_alive hok (l.length + 1) [] r.to (by simp) List.nodup_nil (by simp) (by simp) ?_
  rcases hg.goes with h | ⟨_, h⟩
  · exact .inl h
  · exact .inr h
theorem R_sub {m : List Ref} (hs : ∀ r ∈ m, r ∈ l) {x : S} {n : Nat} (h : R m heads x n) : R l heads x n := by
  obtain ⟨y, h1, h2⟩ := h
  refine ⟨y, h1, ?_⟩
  clear h1
  induction n generalizing y with
  | zero => exact h2
  | succ n ih =>
    rcases h2 with h2 | ⟨r, hr, h2, rfl⟩
    · exact .inl (ih _ h2)
    · obtain ⟨h3, h4⟩ := mem_sees.1 hr
      exact .inr ⟨r, mem_sees.2 ⟨hs r h3, h4⟩, ih _ h2, rfl⟩
/-! ### kept -/
theorem rank_head {x : S} (h : has heads x = true) : rank l heads x = some 0 := rank_some.2 ⟨R_head h, fun m hm => by omega⟩
theorem keptAt_least {x : S} : ∀ {k : Nat}, k ≤ l.length → ∀ {i m : Nat} {q : Ref}, i < k → l[i]? = some q → q.frm = x → q.also = false → rank l heads q.to = some m → ∃ j n, keptAt l heads k x = some (j, n) ∧ n ≤ m
  | 0, _, i, m, q, hi, _, _, _, _ => by omega
  | k + 1, hk, i, m, q, hi, hq, hf, ha, hm => by
    have hlt : k < l.length := by omega
    have hr : l[k]? = some l[k] := List.getElem?_eq_getElem hlt
    rw [keptAt_succ hr]
    have old : i < k → ∃ j n, kstep l heads x k l[k] (keptAt l heads k x) = some (j, n) ∧ n ≤ m := fun hik => by
      obtain ⟨j, n, h1, h2⟩ := keptAt_least (by omega) hik hq hf ha hm
      rw [h1]
      unfold kstep
      split
      · cases hn : rank l heads l[k].to with
        | none => exact ⟨j, n, rfl, h2⟩
        | some p =>
          simp only
          split
          · exact ⟨k, p, rfl, by omega⟩
          · exact ⟨j, n, rfl, h2⟩
      · exact ⟨j, n, rfl, h2⟩
    by_cases hik : i < k
    · exact old hik
    · obtain rfl : i = k := by omega
      obtain rfl : l[i] = q := by rw [hr] at hq; injection hq
      unfold kstep
      rw [if_pos (by simp [hf, ha, (eqS_iff x x).2 rfl]), hm]
      cases hb : keptAt l heads i x with
      | none => exact ⟨i, m, rfl, Nat.le_refl _⟩
      | some p =>
        obtain ⟨j, n⟩ := p
        simp only
        split
        · exact ⟨i, m, rfl, Nat.le_refl _⟩
        · exact ⟨j, n, rfl, by omega⟩
/-- the kept see of a name -/
theorem kept_some {x : S} {i : Nat} (h : kept l heads x = some i) : ∃ r n, l[i]? = some r ∧ r ∈ l ∧ r.frm = x ∧ r.also = false ∧ rank l heads r.to = some n ∧
    ∀ q ∈ l, q.frm = x → q.also = false → ∀ m, rank l heads q.to = some m → n ≤ m := by
  rw [← keptAt_all] at h
  cases hk : keptAt l heads l.length x with
  | none => rw [hk] at h; cases h
  | some p =>
    obtain ⟨j, n⟩ := p
    rw [hk] at h
    obtain rfl : j = i := by simpa using h
    obtain ⟨_, r, h1, h2, h3, h4⟩ := keptAt_some (Nat.le_refl _) hk
    refine ⟨r, n, h1, List.mem_of_getElem? h1, h2, h3, h4, fun q hq hf ha m hm => ?_⟩
    obtain ⟨i, hi⟩ := List.getElem?_of_mem hq
    obtain ⟨j', n', h5, h6⟩ := keptAt_least (Nat.le_refl _) (List.getElem?_eq_some_iff.1 hi).1 hi hf ha hm
    rw [hk] at h5
    cases h5
    exact h6
theorem kept_ex {x : S} {q : Ref} {m : Nat} (hq : q ∈ l) (hf : q.frm = x) (ha : q.also = false) (hm : R l heads q.to m) : ∃ i, kept l heads x = some i := by
  obtain ⟨i, hi⟩ := List.getElem?_of_mem hq
  obtain ⟨d, hd, _⟩ := rank_of_R hm
  obtain ⟨j, n, h5, _⟩ := keptAt_least (Nat.le_refl _) (List.getElem?_eq_some_iff.1 hi).1 hi hf ha hd
  exact ⟨j, by rw [← keptAt_all, h5]; rfl⟩
/-- the kept see leads on -/
theorem kept_down {x : S} {i : Nat} {r : Ref} (h : kept l heads x = some i) (hr : l[i]? = some r) (hx : has heads x = false) : ∃ n, rank l heads r.to = some n ∧ rank l heads x = some (n + 1) := by
  obtain ⟨r', n, h1, h2, h3, h4, h5, h6⟩ := kept_some h
  obtain rfl : r = r' := by rw [hr] at h1; injection h1
  refine ⟨n, h5, ?_⟩
  rw [rank_some]
  refine ⟨by rw [← h3]; exact R_cons h2 h4 (rank_some.1 h5).1, fun m hm hR => ?_⟩
  rcases R_uncons hR with h | ⟨q, h7, h8, h9, m', rfl, h10⟩
  · rw [hx] at h; cases h
  · obtain ⟨d, hd, hdm⟩ := rank_of_R h10
    have := h6 q h7 h9 h8 d hd
    omega
/-! ### what is left -/
def restFrom (l : List Ref) (heads : List S) : List Ref → Nat → List Ref
  | [], _ => []
  | r :: rest, i => if isLeft l heads i r then restFrom l heads rest (i + 1) else r :: restFrom l heads rest (i + 1)
def rest (l : List Ref) (heads : List S) : List Ref := restFrom l heads l 0
theorem leftFrom_ge : ∀ {rest : List Ref} {i j : Nat}, j ∈ leftFrom l heads rest i → i ≤ j ∧ j < i + rest.length ∧ ∃ r, rest[j - i]? = some r ∧ isLeft l heads j r = true
  | [], i, j, h => by simp [leftFrom] at h
  | r :: rest, i, j, h => by
    unfold leftFrom at h
    have old : j ∈ leftFrom l heads rest (i + 1) → i ≤ j ∧ j < i + (r :: rest).length ∧ ∃ q, (r :: rest)[j - i]? = some q ∧ isLeft l heads j q = true := fun h => by
      obtain ⟨h1, h2, q, h3, h4⟩ := leftFrom_ge h
      refine ⟨by omega, by simp only [List.length_cons]; omega, q, ?_, h4⟩
      rw [show j - i = (j - (i + 1)) + 1 from by omega, List.getElem?_cons_succ]
      exact h3
    split at h
    · rename_i hl
      rcases List.mem_cons.1 h with e | h
      · subst e; exact ⟨Nat.le_refl _, by simp, r, by simp, hl⟩
      · exact old h
    · exact old h
theorem ft {b : Bool} {p : Prop} (h1 : b = false) (h2 : b = true) : p := by rw [h1] at h2; cases h2
theorem withoutFrom_cons (r : Ref) (rest : List Ref) (i : Nat) (k : Int) (ks : List Int) : withoutFrom (r :: rest) i (k :: ks) = if k = i then withoutFrom rest (i + 1) ks else r :: withoutFrom rest (i + 1) (k :: ks) := rfl
theorem withoutFrom_nil : ∀ (rest : List Ref) (i : Nat), withoutFrom rest i [] = rest
  | [], _ => rfl
  | r :: rest, i => by unfold withoutFrom; rw [withoutFrom_nil rest]
theorem without_left : ∀ (rest : List Ref) (i : Nat), withoutFrom rest i ((leftFrom l heads rest i).map fun j : Nat => (j : Int)) = restFrom l heads rest i
  | [], i => rfl
  | r :: rest, i => by
    unfold restFrom leftFrom
    split
    · rename_i hl
      rw [List.map_cons, withoutFrom_cons, if_pos rfl, without_left rest (i + 1)]
    · rename_i hl
      rw [← without_left rest (i + 1)]
      cases hk : (leftFrom l heads rest (i + 1)).map fun j : Nat => (j : Int) with
      | nil => rw [withoutFrom_nil, withoutFrom_nil]
      | cons k ks =>
        have hm : k ∈ (leftFrom l heads rest (i + 1)).map fun j : Nat => (j : Int) := by rw [hk]; simp
        obtain ⟨j, h1, h2⟩ := List.mem_map.1 hm
        have := (leftFrom_ge h1).1
        rw [withoutFrom_cons, if_neg (by omega)]
theorem rest_eq : without l ((repair l heads).1.map fun i : Nat => (i : Int)) = rest l heads := without_left l 0
theorem rest_length : ∀ (rest : List Ref) (i : Nat), (restFrom l heads rest i).length + (leftFrom l heads rest i).length = rest.length
  | [], i => rfl
  | r :: rest, i => by
    have := rest_length rest (i + 1)
    unfold restFrom leftFrom
    split
    · simp only [List.length_cons]; omega
    · simp only [List.length_cons]; omega
theorem mem_restFrom : ∀ {rest : List Ref} {i : Nat} {q : Ref}, q ∈ restFrom l heads rest i → ∃ j, i ≤ j ∧ rest[j - i]? = some q ∧ isLeft l heads j q = false
  | [], i, q, h => by simp [restFrom] at h
  | r :: rest, i, q, h => by
    unfold restFrom at h
    have old : q ∈ restFrom l heads rest (i + 1) → ∃ j, i ≤ j ∧ (r :: rest)[j - i]? = some q ∧ isLeft l heads j q = false := fun h => by
      obtain ⟨j, h1, h2, h3⟩ := mem_restFrom h
      refine ⟨j, by omega, ?_, h3⟩
      rw [show j - i = (j - (i + 1)) + 1 from by omega, List.getElem?_cons_succ]
      exact h2
    split at h
    · exact old h
    · rename_i hl
      rcases List.mem_cons.1 h with e | h
      · subst e; exact ⟨i, Nat.le_refl _, by simp, by simpa using hl⟩
      · exact old h
theorem mem_restFrom_of : ∀ {rest : List Ref} {i j : Nat} {q : Ref}, i ≤ j → rest[j - i]? = some q → isLeft l heads j q = false → q ∈ restFrom l heads rest i
  | [], i, j, q, _, h, _ => by simp at h
  | r :: rest, i, j, q, hij, h, hl => by
    unfold restFrom
    by_cases e : j = i
    · subst e
      rw [Nat.sub_self, List.getElem?_cons_zero] at h
      injection h with h
      subst h
      rw [if_neg (by rw [hl]; simp)]
      exact List.mem_cons_self
    · rw [show j - i = (j - (i + 1)) + 1 from by omega, List.getElem?_cons_succ] at h
      have := mem_restFrom_of (by omega) h hl
      split
      · exact this
      · exact List.mem_cons_of_mem _ this
theorem mem_rest {q : Ref} : q ∈ rest l heads ↔ ∃ j, l[j]? = some q ∧ isLeft l heads j q = false := by
  constructor
  · intro h
    obtain ⟨j, _, h2, h3⟩ := mem_restFrom h
    exact ⟨j, by simpa using h2, h3⟩
  · rintro ⟨j, h1, h2⟩
    exact mem_restFrom_of (Nat.zero_le _) (by simpa using h1) h2
/-- what is left out, in words -/
theorem left_also {j : Nat} {q : Ref} (ha : q.also = true) : isLeft l heads j q = false ↔ wrong l heads j q = eOK := by
  unfold isLeft; rw [ha]; simp
theorem left_see {j : Nat} {q : Ref} (ha : q.also = false) : isLeft l heads j q = false ↔ has heads q.frm = false ∧ kept l heads q.frm = some j := by
  unfold isLeft; rw [ha]; simp
def Apart (a b : Ref) : Prop := a ≠ b ∧ ¬ (a.also = false ∧ b.also = false ∧ a.frm = b.frm)
theorem apart {i j : Nat} {a b : Ref} (hij : i < j) (ha : l[i]? = some a) (hb : l[j]? = some b) (h1 : isLeft l heads i a = false) (h2 : isLeft l heads j b = false) : Apart a b := by
  have key : ¬ (a.also = false ∧ b.also = false ∧ a.frm = b.frm) := by
    rintro ⟨e1, e2, e3⟩
    have k1 := ((left_see e1).1 h1).2
    have k2 := ((left_see e2).1 h2).2
    rw [e3, k2] at k1
    injection k1 with k1
    omega
  refine ⟨fun e => ?_, key⟩
  subst e
  cases hal : a.also
  · exact key ⟨hal, hal, rfl⟩
  · have hw := (left_also hal).1 h2
    have hg := (good_iff hb).1 hw
    apply hg.once
    obtain ⟨hl, rfl⟩ := List.getElem?_eq_some_iff.1 ha
    exact List.mem_take_iff_getElem.2 ⟨i, by omega, rfl⟩
theorem restFrom_apart : ∀ (rest : List Ref) (i : Nat), (∀ j q, rest[j]? = some q → l[i + j]? = some q) → (restFrom l heads rest i).Pairwise Apart
  | [], i, _ => List.Pairwise.nil
  | r :: rest, i, h => by
    have ih := restFrom_apart rest (i + 1) fun j q hq => by
      have := h (j + 1) q (by rw [List.getElem?_cons_succ]; exact hq)
      rwa [show i + (j + 1) = i + 1 + j from by omega] at this
    unfold restFrom
    split
    · exact ih
    · rename_i hl
      refine List.Pairwise.cons (fun q hq => ?_) ih
      obtain ⟨j, h1, h2, h3⟩ := mem_restFrom hq
      refine apart (i := i) (j := j) (by omega) (h 0 r rfl) ?_ (by simpa using hl) h3
      have := h (j - i) q (by rw [show j - i = (j - (i + 1)) + 1 from by omega, List.getElem?_cons_succ]; exact h2)
      rwa [show i + (j - i) = j from by omega] at this
theorem rest_apart : (rest l heads).Pairwise Apart := restFrom_apart l 0 fun j q h => by simpa using h
theorem apart_take {m : List Ref} (hp : m.Pairwise Apart) {i : Nat} {r : Ref} (h : m[i]? = some r) : ∀ q ∈ m.take i, Apart q r := by
  have e := split_at h
  rw [e] at hp
  have := (List.pairwise_append.1 hp).2.2
  exact fun q hq => this q hq r (by simp)
theorem apart_see {m : List Ref} (hp : m.Pairwise Apart) {i : Nat} {r : Ref} (h : m[i]? = some r) (ha : r.also = false) : see m r.frm = some i := by
  have e := see_clash h ha
  have e2 : ((m.take i).any fun q => !r.also && !q.also && eqS q.frm r.frm) = false := by
    rw [List.any_eq_false]
    intro q hq hc
    simp only [ha, Bool.not_false, Bool.true_and, Bool.and_eq_true, Bool.not_eq_true', eqS_iff] at hc
    exact (apart_take hp h q hq).2 ⟨hc.1, ha, hc.2⟩
  rw [e2] at e
  simpa using e.symm
/-- a name that is kept has its see in the rest -/
theorem rest_see {x : S} {k : Nat} (h : kept l heads x = some k) (hx : has heads x = false) : ∃ q j, q ∈ rest l heads ∧ q.frm = x ∧ q.also = false ∧ l[k]? = some q ∧ see (rest l heads) x = some j := by
  obtain ⟨r, n, h1, h2, h3, h4, h5, h6⟩ := kept_some h
  have hm : r ∈ rest l heads := mem_rest.2 ⟨k, h1, (left_see h4).2 ⟨by rw [h3]; exact hx, by rw [h3]; exact h⟩⟩
  obtain ⟨j, hj⟩ := see_ex hm h4
  rw [h3] at hj
  exact ⟨r, j, hm, h3, h4, h1, hj⟩
theorem rest_no_circle {x : S} {d : Nat} (hd : rank l heads x = some d) : ∀ (n : Nat) (y : S) (m : Nat), rank l heads y = some m → m < d → circles (rest l heads) heads x n y = false
  | 0, _, _, _, _ => rfl
  | n + 1, y, m, hy, hlt => by
    unfold circles
    rw [if_neg (by
      rw [eqS_iff]
      intro e
      rw [e, hd] at hy
      injection hy with hy
      omega)]
    cases hs : see (rest l heads) y with
    | none => rfl
    | some k =>
      simp only
      cases hh : has heads y
      · rw [if_neg (by simp)]
        obtain ⟨r, h1, h2, h3, h4, h5⟩ := see_get hs
        obtain ⟨j, h6, h7⟩ := mem_rest.1 h2
        have hk := ((left_see h4).1 h7).2
        rw [h3] at hk
        obtain ⟨n', h8, h9⟩ := kept_down hk h6 hh
        rw [hy] at h9
        injection h9 with h9
        rw [h5]
        exact rest_no_circle hd n r.to n' h8 (by omega)
      · rfl
/-- (P30.8) what is left is valid -/
theorem rest_ok : Ok (rest l heads) heads := by
  intro i r hr
  rw [good_iff hr]
  have hm := List.mem_of_getElem? hr
  obtain ⟨j, h1, h2⟩ := mem_rest.1 hm
  have hp := rest_apart (l := l) (heads := heads)
  have honce : r ∉ (rest l heads).take i := fun h => (apart_take hp hr r h).1 rfl
  cases ha : r.also
  · obtain ⟨h3, h4⟩ := (left_see ha).1 h2
    obtain ⟨n, h5, h6⟩ := kept_down h4 h1 h3
    refine ⟨honce, by rw [h3, ha], fun _ => apart_see hp hr ha, ?_, (fun h => ft ha h), fun _ => rest_no_circle h6 _ _ _ h5 (by omega)⟩
    rcases R_uncons (rank_some.1 h5).1 with h | ⟨q, h7, h8, h9, m, _, h10⟩
    · exact .inl h
    · cases hh : has heads r.to
      · obtain ⟨k, hk⟩ := kept_ex h7 h9 h8 h10
        obtain ⟨_, j', _, _, _, _, h11⟩ := rest_see hk hh
        exact .inr ⟨ha, j', h11⟩
      · exact .inl rfl
  · have hg := (good_iff h1).1 ((left_also ha).1 h2)
    refine ⟨honce, hg.name, (fun h => ft h ha), ?_, hg.also, (fun h => ft h ha)⟩
    rcases hg.goes with h | ⟨h, _⟩
    · exact .inl h
    · rw [ha] at h; cases h
/-! ### a valid list needs no repair -/
theorem ok_keeps (hok : Ok l heads) {i : Nat} {r : Ref} (h : l[i]? = some r) : isLeft l heads i r = false := by
  cases ha : r.also
  · have hg := (good_iff h).1 (hok i r h)
    rw [left_see ha]
    refine ⟨by rw [hg.name, ha], ?_⟩
    obtain ⟨n, hn⟩ := ok_to hok h ha
    obtain ⟨k, hk⟩ := kept_ex (List.mem_of_getElem? h) rfl ha hn
    obtain ⟨q, m, h1, _, h3, h4, _⟩ := kept_some hk
    have hg2 := (good_iff h1).1 (hok k q h1)
    have e := hg2.first h4
    rw [h3, hg.first ha] at e
    injection e with e
    rw [hk, e]
  · rw [left_also ha]; exact hok i r h
theorem leftFrom_none (hok : Ok l heads) : ∀ (rest : List Ref) (i : Nat), (∀ j q, rest[j]? = some q → l[i + j]? = some q) → leftFrom l heads rest i = []
  | [], _, _ => rfl
  | r :: rest, i, h => by
    unfold leftFrom
    rw [if_neg (by rw [ok_keeps hok (show l[i]? = some r from h 0 r rfl)]; simp)]
    exact leftFrom_none hok rest (i + 1) fun j q hq => by
      have := h (j + 1) q (by rw [List.getElem?_cons_succ]; exact hq)
      rwa [show i + (j + 1) = i + 1 + j from by omega] at this
theorem deadFrom_none (hok : Ok l heads) : ∀ (rest : List Ref) (d : List S), (∀ q ∈ rest, q ∈ l) → deadFrom l heads rest d = d
  | [], _, _ => rfl
  | r :: rest, d, h => by
    unfold deadFrom
    rw [if_neg (by
      intro hc
      simp only [Bool.and_eq_true, Bool.not_eq_true', Option.isNone_iff_eq_none] at hc
      have hr := h r (by simp)
      obtain ⟨i, hi⟩ := List.getElem?_of_mem hr
      obtain ⟨n, hn⟩ := ok_to hok hi hc.1
      obtain ⟨d', hd', _⟩ := rank_of_R (R_cons hr hc.1 hn)
      rw [hc.2] at hd'
      cases hd')]
    exact deadFrom_none hok rest d fun q hq => h q (List.mem_cons_of_mem _ hq)
theorem repair_ok (hok : Ok l heads) : repair l heads = ([], []) := by
  unfold repair
  rw [leftFrom_none hok l 0 (fun j q h => by simpa using h), deadFrom_none hok l [] (fun q h => h)]
/-! ### no list with fewer left out is valid -/
theorem length_sub {α : Type} [DecidableEq α] : ∀ {l m : List α}, l.Nodup → (∀ x ∈ l, x ∈ m) → l.length ≤ m.length
  | [], _, _, _ => Nat.zero_le _
  | a :: l, m, h, hs => by
    obtain ⟨h1, h2⟩ := List.nodup_cons.1 h
    have ha : a ∈ m := hs a (by simp)
    have hl : l.length ≤ (m.filter fun y => decide (y ≠ a)).length := length_sub h2 fun x hx => by
      have hne : x ≠ a := fun e => h1 (e ▸ hx)
      exact List.mem_filter.2 ⟨hs x (by simp [hx]), by simpa using hne⟩
    have := (List.length_filter_lt_length_iff_exists (l := m) (p := fun y => decide (y ≠ a))).2 ⟨a, ha, by simp⟩
    simp only [List.length_cons]
    omega
theorem ok_apart {m : List Ref} (hok : Ok m heads) : m.Pairwise Apart := by
  rw [List.pairwise_iff_getElem]
  intro i j hi hj hij
  have ha : m[i]? = some m[i] := List.getElem?_eq_getElem hi
  have hb : m[j]? = some m[j] := List.getElem?_eq_getElem hj
  exact apart (l := m) (heads := heads) hij ha hb (ok_keeps hok ha) (ok_keeps hok hb)
theorem length_parts (m : List Ref) : m.length = (m.filter fun r => r.also).length + (sees m).length := by
  induction m with
  | nil => rfl
  | cons r m ih =>
    unfold sees at ih ⊢
    cases ha : r.also <;> simp only [List.filter_cons, ha, List.length_cons, Bool.not_true, Bool.not_false, if_true, Bool.false_eq_true, if_false] <;> omega
theorem ok_most {m : List Ref} (hok : Ok m heads) (hs : ∀ r ∈ m, r ∈ l) : m.length ≤ (rest l heads).length := by
  have hp := ok_apart hok
  have h1 : (m.filter fun r => r.also).length ≤ ((rest l heads).filter fun r => r.also).length := by
    refine length_sub ?_ fun r hr => ?_
    · exact (hp.imp fun h => h.1).sublist List.filter_sublist
    · obtain ⟨hr, ha⟩ := List.mem_filter.1 hr
      refine List.mem_filter.2 ⟨?_, ha⟩
      obtain ⟨i, hi⟩ := List.getElem?_of_mem hr
      have hg := (good_iff hi).1 (hok i r hi)
      -- the first place of r in l
      have hrl := hs r hr
      obtain ⟨j, hj, hfirst⟩ : ∃ j, l[j]? = some r ∧ r ∉ l.take j := by
        clear hg hi hr ha hp hok hs
        induction l with
        | nil => cases hrl
        | cons q l ih =>
          by_cases e : q = r
          · exact ⟨0, by simp [e], by simp⟩
          · rcases List.mem_cons.1 hrl with e' | h
            · exact absurd e'.symm e
            · obtain ⟨j, h1, h2⟩ := ih h
              refine ⟨j + 1, by simpa using h1, ?_⟩
              rw [List.take_succ_cons]
              intro hc
              rcases List.mem_cons.1 hc with e' | hc
              · exact e e'.symm
              · exact h2 hc
      have hto : has heads r.to = true := by
        rcases hg.goes with h | ⟨h, _⟩
        · exact h
        · rw [ha] at h; cases h
      exact mem_rest.2 ⟨j, hj, (left_also ha).2 ((good_iff hj).2 ⟨hfirst, hg.name, (fun h => ft h ha), .inl hto, hg.also, (fun h => ft h ha)⟩)⟩
  have h2 : (sees m).length ≤ (sees (rest l heads)).length := by
    have hn : ((sees m).map Ref.frm).Nodup := by
      unfold List.Nodup
      rw [List.pairwise_map]
      have hp2 : (sees m).Pairwise Apart := hp.sublist List.filter_sublist
      refine List.Pairwise.imp_of_mem (fun {a b} ha hb h e => ?_) hp2
      exact h.2 ⟨(mem_sees.1 ha).2, (mem_sees.1 hb).2, e⟩
    have := length_sub hn (m := (sees (rest l heads)).map Ref.frm) fun x hx => by
      obtain ⟨r, hr, rfl⟩ := List.mem_map.1 hx
      obtain ⟨hr, ha⟩ := mem_sees.1 hr
      obtain ⟨i, hi⟩ := List.getElem?_of_mem hr
      have hg := (good_iff hi).1 (hok i r hi)
      obtain ⟨n, hn⟩ := ok_to hok hi ha
      obtain ⟨k, hk⟩ := kept_ex (hs r hr) rfl ha (R_sub hs hn)
      obtain ⟨q, j, h3, h4, h5, _, _⟩ := rest_see hk (by rw [hg.name, ha])
      exact List.mem_map.2 ⟨q, mem_sees.2 ⟨h3, h5⟩, h4⟩
    simpa using this
  rw [length_parts m, length_parts (rest l heads)]
  omega
theorem without_sub : ∀ (rest : List Ref) (i : Nat) (ks : List Int), (∀ r ∈ withoutFrom rest i ks, r ∈ rest) ∧ rest.length ≤ (withoutFrom rest i ks).length + ks.length
  | [], i, ks => by unfold withoutFrom; simp
  | r :: rest, i, [] => by rw [withoutFrom_nil]; simp
  | r :: rest, i, k :: ks => by
    rw [withoutFrom_cons]
    split
    · obtain ⟨h1, h2⟩ := without_sub rest (i + 1) ks
      exact ⟨fun q hq => List.mem_cons_of_mem _ (h1 q hq), by simp only [List.length_cons]; omega⟩
    · obtain ⟨h1, h2⟩ := without_sub rest (i + 1) (k :: ks)
      refine ⟨fun q hq => ?_, by simp only [List.length_cons] at h2 ⊢; omega⟩
      rcases List.mem_cons.1 hq with e | hq
      · subst e; exact List.mem_cons_self
      · exact List.mem_cons_of_mem _ (h1 q hq)
/-- (P30.8) no list with fewer left out is valid -/
theorem fewest {less : List Int} (h : less.length < (repair l heads).1.length) : (valid (without l less) heads).2 ≠ eOK := by
  intro hv
  obtain ⟨h1, h2⟩ := without_sub l 0 less
  have h3 := ok_most (valid_ok.1 hv) h1
  have h4 := rest_length (l := l) (heads := heads) l 0
  have h5 : (repair l heads).1.length = (leftFrom l heads l 0).length := rfl
  unfold rest at h3
  unfold without at h3
  omega
/-! ### Check accepts them -/
theorem badLeft_from {n : Nat} : ∀ (rest : List Ref) (i : Nat) (p : Option Int), i + rest.length ≤ n → (∀ q, p = some q → q < i) → badLeft n ((leftFrom l heads rest i).map fun j : Nat => (j : Int)) p = false
  | [], i, p, _, _ => rfl
  | r :: rest, i, p, hn, hp => by
    simp only [List.length_cons] at hn
    unfold leftFrom
    split
    · rw [List.map_cons]
      unfold badLeft
      rw [badLeft_from rest (i + 1) (some (i : Int)) (by omega) (fun q hq => by injection hq with hq; omega)]
      have e1 : decide ((i : Int) < 0) = false := by simp
      have e2 : decide ((n : Int) ≤ (i : Int)) = false := by simp; omega
      rw [e1, e2]
      cases p with
      | none => rfl
      | some q => have := hp q rfl; simp; omega
    · exact badLeft_from rest (i + 1) p (by omega) fun q hq => by have := hp q hq; omega
theorem badDead_sorted : ∀ {d : List S}, Sorted d → badDead d = false
  | [], _ => rfl
  | [_], _ => rfl
  | x :: y :: d, h => by
    unfold badDead
    have h1 := List.pairwise_cons.1 h
    rw [h1.1 y (by simp), badDead_sorted h1.2]
    rfl
theorem mem_dead {x : S} : x ∈ (repair l heads).2 ↔ ∃ r ∈ l, r.also = false ∧ r.frm = x ∧ rank l heads x = none := by
  unfold repair
  rw [deadFrom_eq, mem_puts]
  simp only [List.not_mem_nil, false_or, List.mem_map, List.mem_filter, Bool.and_eq_true, Bool.not_eq_true', Option.isNone_iff_eq_none]
  constructor
  · rintro ⟨r, ⟨h1, h2, h3⟩, rfl⟩; exact ⟨r, h1, h2, rfl, h3⟩
  · rintro ⟨r, h1, h2, rfl, h3⟩; exact ⟨r, ⟨h1, h2, h3⟩, rfl⟩
theorem sorted_dead : Sorted (repair l heads).2 := by
  unfold repair
  rw [deadFrom_eq]
  exact sorted_puts _ sorted_nil
theorem check_repair : check l heads ((repair l heads).1.map fun i : Nat => (i : Int)) (repair l heads).2 = eOK := by
  unfold check
  rw [rest_eq]
  have h1 : badLeft l.length ((repair l heads).1.map fun i : Nat => (i : Int)) none = false := badLeft_from l 0 none (by simp) (fun q hq => by cases hq)
  rw [h1, badDead_sorted sorted_dead]
  rw [if_neg (by simp)]
  have h2 : (valid (rest l heads) heads).2 = eOK := valid_ok.2 rest_ok
  simp only [h2]
  rw [if_neg (by simp)]
  have h3 : (repair l heads).2.any (has heads) = false := by
    rw [List.any_eq_false]
    intro x hx hh
    obtain ⟨_, _, _, _, hr⟩ := mem_dead.1 hx
    rw [rank_head hh] at hr
    cases hr
  rw [h3, if_neg (by simp)]
  have h4 : l.any (ckRef l (rest l heads) heads (repair l heads).2) = false := by
    rw [List.any_eq_false]
    intro r hr hc
    unfold ckRef at hc
    simp only [Bool.and_eq_true, Bool.not_eq_true'] at hc
    obtain ⟨ha, hc⟩ := hc
    cases hd : has (repair l heads).2 r.frm
    · rw [hd, if_neg (by simp)] at hc
      simp only [Bool.and_eq_true, Bool.not_eq_true', Option.isNone_iff_eq_none] at hc
      obtain ⟨hh, hs⟩ := hc
      cases hk : rank l heads r.frm with
      | none => exact absurd (mem_dead.2 ⟨r, hr, ha, rfl, hk⟩) ((has_false _ _).1 hd)
      | some n =>
        rcases R_uncons (rank_some.1 hk).1 with h | ⟨q, h7, h8, h9, m, _, h10⟩
        · rw [hh] at h; cases h
        · obtain ⟨k, hk⟩ := kept_ex h7 h9 h8 h10
          obtain ⟨_, j', _, _, _, _, h11⟩ := rest_see hk hh
          rw [hs] at h11; cases h11
    · rw [hd, if_pos rfl] at hc
      obtain ⟨_, _, _, _, hk⟩ := mem_dead.1 ((has_iff _ _).1 hd)
      have hto : ∀ n, ¬ R l heads r.to n := fun n hn => by
        obtain ⟨d, hd', _⟩ := rank_of_R (R_cons hr ha hn)
        rw [hk] at hd'; cases hd'
      cases hh : has heads r.to
      · rw [hh] at hc
        simp only [Bool.false_or, Bool.and_eq_true, Bool.not_eq_true', Option.isSome_iff_exists] at hc
        obtain ⟨⟨j, hj⟩, hc⟩ := hc
        obtain ⟨q, _, h2, h3, h4, _⟩ := see_get hj
        refine (has_false _ _).1 hc (mem_dead.2 ⟨q, h2, h4, h3, ?_⟩)
        cases hr2 : rank l heads r.to with
        | none => rfl
        | some n => exact absurd (rank_some.1 hr2).1 (hto n)
      · exact hto 0 (R_head hh)
  rw [h4, if_neg (by simp)]
  have h5 : ((repair l heads).1.map fun i : Nat => (i : Int)).any (ckLeft l heads) = false := by
    rw [List.any_eq_false]
    intro k hk hc
    obtain ⟨j, h1, rfl⟩ := List.mem_map.1 hk
    obtain ⟨_, _, r, h3, h4⟩ := leftFrom_ge h1
    rw [Nat.sub_zero] at h3
    unfold ckLeft at hc
    rw [Int.toNat_natCast, h3] at hc
    simp only [Bool.and_eq_true, beq_iff_eq] at hc
    have := (left_also (heads := heads) (j := j) (l := l) hc.1).2 hc.2
    rw [h4] at this
    cases this
  rw [h5, if_neg (by simp)]
end
end Rf
