import Derived.Test.YtdfnfimajhagfaaGreatDoorGraph
namespace Rf
/-! ### the sees alone; the fewest sees to a heading -/
def sees (l : List Ref) : List Ref := l.filter fun r => !r.also
theorem mem_sees {l : List Ref} {r : Ref} : r ∈ sees l ↔ r ∈ l ∧ r.also = false := by
  unfold sees; rw [List.mem_filter]; cases r.also <;> simp
theorem sees_length (l : List Ref) : (sees l).length ≤ l.length := List.length_filter_le _ _
theorem rstep_eq (all : List S) : ∀ (l : List Ref) (nx : List S), rstep all l nx = wstep all (sees l) nx
  | [], _ => rfl
  | r :: l, nx => by
    rw [rstep, rstep_eq all l]
    cases h : r.also
    · have e : sees (r :: l) = r :: sees l := by simp [sees, h]
      rw [e, wstep]
      simp
    · have e : sees (r :: l) = sees l := by simp [sees, h]
      rw [e]
      simp
/-- in at most n sees to a heading -/
def R (l : List Ref) (heads : List S) (x : S) (n : Nat) : Prop := ∃ h ∈ heads, W (sees l) x n h
theorem R_mono {l : List Ref} {heads : List S} {x : S} {n m : Nat} (h : R l heads x n) (hm : n ≤ m) : R l heads x m := by
  obtain ⟨a, h1, h2⟩ := h; exact ⟨a, h1, W_mono h2 hm⟩
theorem R_bound {l : List Ref} {heads : List S} {x : S} {n : Nat} (h : R l heads x n) : R l heads x l.length := by
  obtain ⟨a, h1, h2⟩ := h; exact ⟨a, h1, W_mono (W_bound h2) (sees_length l)⟩
theorem rankFrom_some {l : List Ref} {heads : List S} {x : S} : ∀ {k n d : Nat}, rankFrom l heads k n (withinN (sees l) n [x]) = some d ↔ (n ≤ d ∧ d < n + k ∧ R l heads x d ∧ ∀ m, n ≤ m → m < d → ¬ R l heads x m)
  | 0, n, d => by
    simp only [rankFrom]
    constructor
    · intro h; cases h
    · rintro ⟨h1, h2, _⟩; omega
  | k + 1, n, d => by
    rw [rankFrom]
    have hany : (withinN (sees l) n [x]).any (has heads) = true ↔ R l heads x n := by
      rw [List.any_eq_true]
      constructor
      · rintro ⟨y, h1, h2⟩; exact ⟨y, (has_iff _ _).1 h2, mem_withinN.1 h1⟩
      · rintro ⟨y, h1, h2⟩; exact ⟨y, mem_withinN.2 h2, (has_iff _ _).2 h1⟩
    by_cases h : (withinN (sees l) n [x]).any (has heads) = true
    · rw [if_pos h]
      have hw := hany.1 h
      constructor
      · intro e; cases e
        exact ⟨Nat.le_refl _, by omega, hw, fun m h1 h2 => by omega⟩
      · rintro ⟨h1, _, _, h4⟩
        by_cases e : n = d
        · rw [e]
        · exact absurd hw (h4 n (Nat.le_refl _) (by omega))
    · rw [if_neg h, rstep_eq, ← withinN_succ, rankFrom_some]
      have hw : ¬ R l heads x n := fun c => h (hany.2 c)
      constructor
      · rintro ⟨h1, h2, h3, h4⟩
        refine ⟨by omega, by omega, h3, fun m hm hmd => ?_⟩
        by_cases e : m = n
        · subst e; exact hw
        · exact h4 m (by omega) hmd
      · rintro ⟨h1, h2, h3, h4⟩
        have : d ≠ n := fun e => hw (e ▸ h3)
        exact ⟨by omega, by omega, h3, fun m hm hmd => h4 m (by omega) hmd⟩
theorem rank_some {l : List Ref} {heads : List S} {x : S} {d : Nat} : rank l heads x = some d ↔ R l heads x d ∧ ∀ m, m < d → ¬ R l heads x m := by
  unfold rank
  have e : [x] = withinN (sees l) 0 [x] := rfl
  rw [e, rankFrom_some]
  constructor
  · rintro ⟨_, _, h, k⟩; exact ⟨h, fun m => k m (Nat.zero_le _)⟩
  · rintro ⟨h, k⟩
    refine ⟨Nat.zero_le _, ?_, h, fun m _ => k m⟩
    by_cases hd : d < 0 + (l.length + 1)
    · exact hd
    · exact absurd (R_bound h) (k _ (by omega))
theorem rank_of_R {l : List Ref} {heads : List S} {x : S} : ∀ {n : Nat}, R l heads x n → ∃ d, rank l heads x = some d ∧ d ≤ n
  | 0, h => ⟨0, rank_some.2 ⟨h, fun m hm => by omega⟩, Nat.le_refl _⟩
  | n + 1, h => by
    by_cases hw : R l heads x n
    · obtain ⟨d, h1, h2⟩ := rank_of_R hw
      exact ⟨d, h1, by omega⟩
    · refine ⟨n + 1, rank_some.2 ⟨h, fun m hm c => hw (R_mono c (by omega))⟩, Nat.le_refl _⟩
/-! ### the search for the ranks, round by round -/
def cnt (l : List Ref) (f : S → Option Nat) : Nat := l.countP fun r => (f r.frm).isSome
def weight (l : List Ref) (f : S → Option Nat) (r : Ref) : Nat := match f r.frm with | none => l.length + 1 | some m => m
def total (l : List Ref) (f : S → Option Nat) : List Ref → Nat
  | [] => 0
  | r :: rest => weight l f r + total l f rest
structure Ranks (l : List Ref) (heads : List S) (f : S → Option Nat) : Prop where
  zero : ∀ h ∈ heads, f h = some 0
  sound : ∀ x n, f x = some n → R l heads x n
  small : ∀ x n, f x = some n → n ≤ cnt l f
def fixedAt (f : S → Option Nat) (r : Ref) : Prop := r.also = false → ∀ n, f r.to = some n → ∃ m, f r.frm = some m ∧ m ≤ n + 1
/-- the test of the code -/
def turns (f : S → Option Nat) (r : Ref) : Bool := !r.also && (match f r.to with | none => false | some n => match f r.frm with | none => true | some m => decide (n + 1 < m))
theorem fixed_of_not {f : S → Option Nat} {r : Ref} (h : turns f r = false) : fixedAt f r := by
  intro ha n hn
  unfold turns at h
  rw [ha, hn] at h
  simp only [Bool.not_false, Bool.true_and] at h
  cases e : f r.frm with
  | none => rw [e] at h; cases h
  | some m => rw [e] at h; simp only [decide_eq_false_iff_not] at h; exact ⟨m, rfl, by omega⟩
theorem cnt_le (l : List Ref) (f : S → Option Nat) : cnt l f ≤ l.length := List.countP_le_length
theorem cnt_mono {f g : S → Option Nat} (h : ∀ x, (f x).isSome = true → (g x).isSome = true) (l : List Ref) : cnt l f ≤ cnt l g :=
  List.countP_mono_left fun _ _ hx => h _ hx
theorem cnt_new {f : S → Option Nat} {y : S} (n : Nat) (hn : f y = none) : ∀ {l : List Ref} {r : Ref}, r ∈ l → r.frm = y → cnt l f + 1 ≤ cnt l (upd f y n)
  | s :: l, r, hr, e => by
    have hmono : cnt l f ≤ cnt l (upd f y n) := cnt_mono (fun x hx => by unfold upd; split <;> simp_all) l
    unfold cnt at *
    rw [List.countP_cons, List.countP_cons]
    by_cases hs : s.frm = y
    · have h1 : (f s.frm).isSome = false := by rw [hs, hn]; rfl
      have h2 : (upd f y n s.frm).isSome = true := by simp [upd, hs]
      rw [h1, h2]; simp; omega
    · have hr' : r ∈ l := by
        rcases List.mem_cons.1 hr with h | h
        · exact absurd (by rw [← h]; exact e) hs
        · exact h
      have ih := cnt_new n hn hr' e
      unfold cnt at ih
      have h1 : upd f y n s.frm = f s.frm := by simp [upd, hs]
      rw [h1]; omega
theorem total_le {f g : S → Option Nat} (l : List Ref) (h : ∀ r, weight l g r ≤ weight l f r) : ∀ rest, total l g rest ≤ total l f rest
  | [] => Nat.le_refl _
  | r :: rest => by have := h r; have := total_le l h rest; simp only [total]; omega
theorem total_lt {f g : S → Option Nat} (l : List Ref) (h : ∀ r, weight l g r ≤ weight l f r) : ∀ {rest : List Ref} {r : Ref}, r ∈ rest → weight l g r < weight l f r → total l g rest < total l f rest
  | s :: rest, r, hr, hlt => by
    have h1 := h s
    have h2 := total_le l h rest
    simp only [total]
    rcases List.mem_cons.1 hr with e | hr
    · subst e; omega
    · have := total_lt l h hr hlt; omega
/-- one assignment -/
theorem Ranks.turn {l : List Ref} {heads : List S} {f : S → Option Nat} (h : Ranks l heads f) {r : Ref} (hr : r ∈ l) {n : Nat} (ha : r.also = false) (hn : f r.to = some n) (hf : ∀ m, f r.frm = some m → n + 1 < m) :
    Ranks l heads (upd f r.frm (n + 1)) ∧ total l (upd f r.frm (n + 1)) l < total l f l := by
  have hR : R l heads r.frm (n + 1) := by
    obtain ⟨a, h1, h2⟩ := h.sound _ _ hn
    exact ⟨a, h1, W_cons (mem_sees.2 ⟨hr, ha⟩) h2⟩
  have hcnt : cnt l f ≤ cnt l (upd f r.frm (n + 1)) := cnt_mono (fun x hx => by unfold upd; split <;> simp_all) l
  have hsmall : n + 1 ≤ cnt l (upd f r.frm (n + 1)) := by
    cases e : f r.frm with
    | none => have := cnt_new (n + 1) e hr rfl; have := h.small _ _ hn; omega
    | some m => have := hf m e; have := h.small _ _ e; omega
  have hw : ∀ s, weight l (upd f r.frm (n + 1)) s ≤ weight l f s := by
    intro s
    unfold weight
    by_cases e : s.frm = r.frm
    · have h1 : upd f r.frm (n + 1) s.frm = some (n + 1) := by simp [upd, e]
      rw [h1, e]
      cases e2 : f r.frm with
      | none => have := cnt_le l (upd f r.frm (n + 1)); simp only; omega
      | some m => have := hf m e2; simp only; omega
    · have h1 : upd f r.frm (n + 1) s.frm = f s.frm := by simp [upd, e]
      rw [h1]; exact Nat.le_refl _
  refine ⟨⟨fun a ha' => ?_, fun x m hx => ?_, fun x m hx => ?_⟩, ?_⟩
  · unfold upd
    split
    · rename_i e
      have := hf 0 (e ▸ h.zero a ha')
      omega
    · exact h.zero a ha'
  · unfold upd at hx
    split at hx
    · rename_i e; cases hx; rw [e]; exact hR
    · exact h.sound _ _ hx
  · unfold upd at hx
    split at hx
    · cases hx; exact hsmall
    · have := h.small _ _ hx; omega
  · refine total_lt l hw hr ?_
    unfold weight
    have h1 : upd f r.frm (n + 1) r.frm = some (n + 1) := by simp [upd]
    rw [h1]
    cases e2 : f r.frm with
    | none => have := cnt_le l (upd f r.frm (n + 1)); simp only; omega
    | some m => have := hf m e2; simp only; omega
theorem Ranks.complete {l : List Ref} {heads : List S} {f : S → Option Nat} (h : Ranks l heads f) (hfix : ∀ r ∈ l, fixedAt f r) : ∀ {n : Nat} {x : S}, R l heads x n → ∃ m, f x = some m ∧ m ≤ n
  | 0, x, hr => by
    obtain ⟨a, h1, h2⟩ := hr
    have e : a = x := h2
    subst e; exact ⟨0, h.zero _ h1, Nat.le_refl _⟩
  | n + 1, x, hr => by
    obtain ⟨a, h1, h2⟩ := hr
    rcases W_uncons h2 with e | ⟨r, hr, e, hw⟩
    · subst e; exact ⟨0, h.zero _ h1, Nat.zero_le _⟩
    · obtain ⟨m, k1, k2⟩ := h.complete hfix (n := n) (x := r.to) ⟨a, h1, hw⟩
      obtain ⟨hr1, hr2⟩ := mem_sees.1 hr
      obtain ⟨m', k3, k4⟩ := hfix r hr1 hr2 m k1
      rw [e] at k3
      exact ⟨m', k3, by omega⟩
theorem Ranks.eq {l : List Ref} {heads : List S} {f : S → Option Nat} (h : Ranks l heads f) (hfix : ∀ r ∈ l, fixedAt f r) (x : S) : f x = rank l heads x := by
  cases e : f x with
  | some n =>
    refine (rank_some.2 ⟨h.sound _ _ e, fun m hm c => ?_⟩).symm
    obtain ⟨k, h1, h2⟩ := h.complete hfix c
    rw [e] at h1; cases h1; omega
  | none =>
    cases k : rank l heads x with
    | none => rfl
    | some d =>
      obtain ⟨m, h1, _⟩ := h.complete hfix (rank_some.1 k).1
      rw [e] at h1; cases h1
theorem Ranks.begin (l : List Ref) (heads : List S) {f : S → Option Nat} (h : ∀ x, f x = if has heads x then some 0 else none) : Ranks l heads f where
  zero a ha := by rw [h, if_pos ((has_iff _ _).2 ha)]
  sound x n hx := by
    rw [h] at hx
    split at hx
    · cases hx; rename_i e; exact ⟨x, (has_iff _ _).1 e, rfl⟩
    · cases hx
  small x n hx := by
    rw [h] at hx
    split at hx
    · cases hx; exact Nat.zero_le _
    · cases hx
end Rf
