import Derived.Test.YtdfnfimajhagfaaGreatDoorOrder
namespace Rf
/-! ### ways of at most n steps -/
/-- x is reached from a in at most n steps -/
def W (l : List Ref) (a : S) : Nat → S → Prop
  | 0, x => x = a
  | n + 1, x => W l a n x ∨ ∃ r ∈ l, W l a n r.frm ∧ r.to = x
theorem W_succ {l : List Ref} {a x : S} {n : Nat} (h : W l a n x) : W l a (n + 1) x := .inl h
theorem W_mono {l : List Ref} {a x : S} {n m : Nat} (h : W l a n x) (hm : n ≤ m) : W l a m x := by
  induction hm with
  | refl => exact h
  | step _ ih => exact .inl ih
theorem W_edge {l : List Ref} {a : S} {n : Nat} {r : Ref} (hr : r ∈ l) (h : W l a n r.frm) : W l a (n + 1) r.to := .inr ⟨r, hr, h, rfl⟩
/-- from the head's side -/
theorem W_cons {l : List Ref} {r : Ref} (hr : r ∈ l) : ∀ {n : Nat} {x : S}, W l r.to n x → W l r.frm (n + 1) x
  | 0, x, h => by
    have e : x = r.to := h
    subst e
    exact .inr ⟨r, hr, rfl, rfl⟩
  | n + 1, x, h => by
    rcases h with h | ⟨q, hq, h, rfl⟩
    · exact .inl (W_cons hr h)
    · exact .inr ⟨q, hq, W_cons hr h, rfl⟩
theorem W_uncons {l : List Ref} {a : S} : ∀ {n : Nat} {x : S}, W l a (n + 1) x → x = a ∨ ∃ r ∈ l, r.frm = a ∧ W l r.to n x
  | 0, x, h => by
    rcases h with h | ⟨q, hq, h, rfl⟩
    · exact .inl h
    · exact .inr ⟨q, hq, h, rfl⟩
  | n + 1, x, h => by
    rcases h with h | ⟨q, hq, h, rfl⟩
    · rcases W_uncons h with e | ⟨r, hr, e, h⟩
      · exact .inl e
      · exact .inr ⟨r, hr, e, .inl h⟩
    · rcases W_uncons h with e | ⟨r, hr, e, h⟩
      · exact .inr ⟨q, hq, e, W_mono (n := 0) rfl (Nat.zero_le _)⟩
      · exact .inr ⟨r, hr, e, .inr ⟨q, hq, h, rfl⟩⟩
def back (l : List Ref) : List Ref := l.map fun r => ⟨r.to, r.frm, r.also⟩
theorem mem_back {l : List Ref} {r : Ref} : r ∈ back l ↔ (⟨r.to, r.frm, r.also⟩ : Ref) ∈ l := by
  unfold back
  rw [List.mem_map]
  constructor
  · rintro ⟨q, hq, rfl⟩; exact hq
  · intro h; exact ⟨_, h, rfl⟩
theorem W_back {l : List Ref} {x : S} : ∀ {n : Nat} {a : S}, W (back l) x n a ↔ W l a n x
  | 0, a => ⟨fun h => (show a = x from h).symm, fun h => (show x = a from h).symm⟩
  | n + 1, a => by
    constructor
    · rintro (h | ⟨r, hr, h, rfl⟩)
      · exact .inl (W_back.1 h)
      · have := mem_back.1 hr
        exact W_cons (r := ⟨r.to, r.frm, r.also⟩) this (W_back.1 h)
    · intro h
      rcases W_uncons h with e | ⟨r, hr, e, h'⟩
      · subst e; exact W_mono (n := 0) rfl (Nat.zero_le _)
      · refine .inr ⟨⟨r.to, r.frm, r.also⟩, mem_back.2 hr, ?_, e⟩
        exact (W_back (l := l) (x := x) (n := n) (a := r.to)).2 h'
/-! ### the reference's rounds -/
theorem mem_wstep (out : List S) : ∀ (l : List Ref) (nx : List S) (x : S), x ∈ wstep out l nx ↔ x ∈ nx ∨ ∃ r ∈ l, r.frm ∈ out ∧ r.to = x
  | [], nx, x => by simp [wstep]
  | r :: l, nx, x => by
    rw [wstep, mem_wstep out l]
    by_cases h : has out r.frm = true
    · rw [if_pos h, mem_put]
      have hm := (has_iff _ _).1 h
      constructor
      · rintro ((e | h1) | ⟨q, hq, h1, h2⟩)
        · exact .inr ⟨r, by simp, hm, e.symm⟩
        · exact .inl h1
        · exact .inr ⟨q, by simp [hq], h1, h2⟩
      · rintro (h1 | ⟨q, hq, h1, h2⟩)
        · exact .inl (.inr h1)
        · rcases List.mem_cons.1 hq with e | hq
          · subst e; exact .inl (.inl h2.symm)
          · exact .inr ⟨q, hq, h1, h2⟩
    · rw [if_neg h]
      have hm : r.frm ∉ out := fun e => h ((has_iff _ _).2 e)
      constructor
      · rintro (h1 | ⟨q, hq, h1, h2⟩)
        · exact .inl h1
        · exact .inr ⟨q, by simp [hq], h1, h2⟩
      · rintro (h1 | ⟨q, hq, h1, h2⟩)
        · exact .inl h1
        · rcases List.mem_cons.1 hq with e | hq
          · subst e; exact absurd h1 hm
          · exact .inr ⟨q, hq, h1, h2⟩
theorem sorted_wstep (out : List S) : ∀ (l : List Ref) (nx : List S), Sorted nx → Sorted (wstep out l nx)
  | [], _, h => h
  | r :: l, nx, h => by
    rw [wstep]
    split
    · exact sorted_wstep out l _ (sorted_put h _)
    · exact sorted_wstep out l _ h
theorem withinN_succ (l : List Ref) : ∀ (n : Nat) (out : List S), withinN l (n + 1) out = wstep (withinN l n out) l (withinN l n out)
  | 0, _ => rfl
  | n + 1, out => by
    rw [withinN, withinN_succ l n]
    rfl
theorem mem_withinN {l : List Ref} {a : S} : ∀ {n : Nat} {x : S}, x ∈ withinN l n [a] ↔ W l a n x
  | 0, x => by simp [withinN, W]
  | n + 1, x => by
    rw [withinN_succ, mem_wstep, mem_withinN]
    constructor
    · rintro (h | ⟨r, hr, h, rfl⟩)
      · exact .inl h
      · exact .inr ⟨r, hr, mem_withinN.1 h, rfl⟩
    · rintro (h | ⟨r, hr, h, rfl⟩)
      · exact .inl h
      · exact .inr ⟨r, hr, mem_withinN.2 h, rfl⟩
theorem sorted_withinN (l : List Ref) (a : S) : ∀ n, Sorted (withinN l n [a])
  | 0 => sorted_single a
  | n + 1 => by rw [withinN_succ]; exact sorted_wstep _ _ _ (sorted_withinN l a n)
/-! ### no way need be longer than the list -/
theorem length_le_of_subset : ∀ {l m : List S}, l.Nodup → (∀ x ∈ l, x ∈ m) → l.length ≤ m.length
  | [], _, _, _ => Nat.zero_le _
  | a :: l, m, h, hs => by
    obtain ⟨h1, h2⟩ := List.nodup_cons.1 h
    have ha : a ∈ m := hs a (by simp)
    have hl : l.length ≤ (m.filter fun y => decide (y ≠ a)).length := length_le_of_subset h2 fun x hx => by
      have hne : x ≠ a := fun e => h1 (e ▸ hx)
      exact List.mem_filter.2 ⟨hs x (by simp [hx]), by simpa using hne⟩
    have := (List.length_filter_lt_length_iff_exists (l := m) (p := fun y => decide (y ≠ a))).2 ⟨a, ha, by simp⟩
    simp only [List.length_cons]
    omega
theorem W_target {l : List Ref} {a : S} : ∀ {n : Nat} {x : S}, W l a n x → x ∈ a :: l.map Ref.to
  | 0, x, h => by have e : x = a := h; simp [e]
  | n + 1, x, h => by
    rcases h with h | ⟨r, hr, _, rfl⟩
    · exact W_target h
    · exact List.mem_cons_of_mem _ (List.mem_map.2 ⟨r, hr, rfl⟩)
theorem W_stable {l : List Ref} {a : S} {n : Nat} (h : ∀ x, W l a (n + 1) x → W l a n x) : ∀ {m : Nat}, n ≤ m → ∀ x, W l a m x → W l a n x := by
  intro m hm
  induction hm with
  | refl => exact fun _ h => h
  | step hm ih =>
    intro x hx
    rcases hx with hx | ⟨r, hr, hx, rfl⟩
    · exact ih x hx
    · exact h _ (.inr ⟨r, hr, ih _ hx, rfl⟩)
theorem W_grow (l : List Ref) (a : S) : ∀ n, n + 1 ≤ (withinN l n [a]).length ∨ ∃ k, k < n ∧ ∀ x, W l a (k + 1) x → W l a k x
  | 0 => .inl (by simp [withinN])
  | n + 1 => by
    rcases W_grow l a n with h | ⟨k, hk, h⟩
    · by_cases hs : ∀ x, W l a (n + 1) x → W l a n x
      · exact .inr ⟨n, by omega, hs⟩
      · refine .inl ?_
        rw [Classical.not_forall] at hs
        obtain ⟨x, hx⟩ := hs
        have h1 : W l a (n + 1) x := Classical.byContradiction fun c => hx fun d => absurd d c
        have h2 : ¬ W l a n x := fun c => hx fun _ => c
        have : (x :: withinN l n [a]).length ≤ (withinN l (n + 1) [a]).length := by
          refine length_le_of_subset (List.nodup_cons.2 ⟨fun c => h2 (mem_withinN.1 c), (sorted_withinN l a n).nodup⟩) fun y hy => ?_
          rcases List.mem_cons.1 hy with e | hy
          · subst e; exact mem_withinN.2 h1
          · exact mem_withinN.2 (.inl (mem_withinN.1 hy))
        simp only [List.length_cons] at this
        omega
    · exact .inr ⟨k, by omega, h⟩
theorem W_bound {l : List Ref} {a x : S} {n : Nat} (h : W l a n x) : W l a l.length x := by
  by_cases hn : n ≤ l.length
  · exact W_mono h hn
  · rcases W_grow l a (l.length + 1) with hg | ⟨k, hk, hs⟩
    · have := length_le_of_subset (m := a :: l.map Ref.to) (sorted_withinN l a (l.length + 1)).nodup fun y hy => W_target (mem_withinN.1 hy)
      simp only [List.length_cons, List.length_map] at this
      omega
    · exact W_mono (W_stable hs (show k ≤ n by omega) x h) (by omega)
theorem mem_within {l : List Ref} {a x : S} {n : Nat} : x ∈ within l a n ↔ W l a n x := by
  unfold within
  rw [mem_withinN]
  constructor
  · intro h; exact W_mono h (Nat.min_le_left _ _)
  · intro h
    by_cases hn : n ≤ l.length + 1
    · rwa [Nat.min_eq_left hn]
    · rw [Nat.min_eq_right (by omega)]; exact W_mono (W_bound h) (by omega)
theorem sorted_within (l : List Ref) (a : S) (n : Nat) : Sorted (within l a n) := sorted_withinN l a _
/-! ### the distance -/
def dist (l : List Ref) (frm to : S) : Option Nat := stepsFrom l frm to (l.length + 1) 0
theorem stepsFrom_some {l : List Ref} {a x : S} : ∀ {k n d : Nat}, stepsFrom l a x k n = some d ↔ (n ≤ d ∧ d < n + k ∧ W l a d x ∧ ∀ m, n ≤ m → m < d → ¬ W l a m x)
  | 0, n, d => by simp only [stepsFrom]; constructor
                  · intro h; cases h
                  · rintro ⟨h1, h2, _⟩; omega
  | k + 1, n, d => by
    rw [stepsFrom]
    by_cases h : has (within l a n) x = true
    · rw [if_pos h]
      have hw := mem_within.1 ((has_iff _ _).1 h)
      constructor
      · intro e; cases e
        exact ⟨Nat.le_refl _, by omega, hw, fun m h1 h2 => by omega⟩
      · rintro ⟨h1, _, _, h4⟩
        by_cases e : n = d
        · rw [e]
        · exact absurd hw (h4 n (Nat.le_refl _) (by omega))
    · rw [if_neg h, stepsFrom_some]
      have hw : ¬ W l a n x := fun c => h ((has_iff _ _).2 (mem_within.2 c))
      constructor
      · rintro ⟨h1, h2, h3, h4⟩
        refine ⟨by omega, by omega, h3, fun m hm hmd => ?_⟩
        by_cases e : m = n
        · subst e; exact hw
        · exact h4 m (by omega) hmd
      · rintro ⟨h1, h2, h3, h4⟩
        have : d ≠ n := fun e => hw (e ▸ h3)
        exact ⟨by omega, by omega, h3, fun m hm hmd => h4 m (by omega) hmd⟩
theorem dist_some {l : List Ref} {a x : S} {d : Nat} : dist l a x = some d ↔ W l a d x ∧ ∀ m, m < d → ¬ W l a m x := by
  unfold dist
  rw [stepsFrom_some]
  constructor
  · rintro ⟨_, _, h, k⟩; exact ⟨h, fun m => k m (Nat.zero_le _)⟩
  · rintro ⟨h, k⟩
    refine ⟨Nat.zero_le _, ?_, h, fun m _ => k m⟩
    by_cases hd : d < 0 + (l.length + 1)
    · exact hd
    · exact absurd (W_bound h) (k _ (by omega))
theorem dist_of_W {l : List Ref} {a x : S} : ∀ {n : Nat}, W l a n x → ∃ d, dist l a x = some d ∧ d ≤ n
  | 0, h => ⟨0, dist_some.2 ⟨h, fun m hm => by omega⟩, Nat.le_refl _⟩
  | n + 1, h => by
    by_cases hw : W l a n x
    · obtain ⟨d, h1, h2⟩ := dist_of_W hw
      exact ⟨d, h1, by omega⟩
    · refine ⟨n + 1, dist_some.2 ⟨h, fun m hm c => hw (W_mono c (by omega))⟩, Nat.le_refl _⟩
theorem dist_le {l : List Ref} {a x : S} {d : Nat} (h : dist l a x = some d) : d ≤ l.length := by
  have := dist_some.1 h
  by_cases hd : d ≤ l.length
  · exact hd
  · exact absurd (W_bound this.1) (this.2 _ (by omega))
theorem dist_back (l : List Ref) (a x : S) : dist (back l) x a = dist l a x := by
  cases h : dist l a x with
  | none =>
    cases k : dist (back l) x a with
    | none => rfl
    | some d =>
      obtain ⟨d', h', _⟩ := dist_of_W (W_back.1 (dist_some.1 k).1)
      rw [h] at h'; cases h'
  | some d =>
    obtain ⟨h1, h2⟩ := dist_some.1 h
    exact dist_some.2 ⟨W_back.2 h1, fun m hm c => h2 m hm (W_back.1 c)⟩
theorem dist_zero {l : List Ref} {a x : S} : dist l a x = some 0 ↔ x = a := by
  rw [dist_some]
  exact ⟨fun h => h.1, fun h => ⟨h, fun m hm => by omega⟩⟩
theorem dist_self (l : List Ref) (a : S) : dist l a a = some 0 := dist_zero.2 rfl
/-- one step on a shortest way -/
theorem dist_step {l : List Ref} {a x : S} {n : Nat} (h : dist l a x = some (n + 1)) : ∃ r ∈ l, r.frm = a ∧ dist l r.to x = some n := by
  obtain ⟨h1, h2⟩ := dist_some.1 h
  rcases W_uncons h1 with e | ⟨r, hr, e, hw⟩
  · exact absurd (show W l a 0 x from e) (h2 0 (by omega))
  · refine ⟨r, hr, e, dist_some.2 ⟨hw, fun m hm c => h2 (m + 1) (by omega) ?_⟩⟩
    rw [← e]; exact W_cons hr c
/-! ### the search in breadth -/
def upd (f : S → Option Nat) (t : S) (n : Nat) (x : S) : Option Nat := if x = t then some n else f x
structure Bfs (l : List Ref) (a : S) (f : S → Option Nat) (todo : List S) : Prop where
  start : f a = some 0
  sound : ∀ x n, f x = some n → W l a n x
  inq : ∀ x ∈ todo, ∃ n, f x = some n
  fin : ∀ r ∈ l, ∀ n, f r.frm = some n → r.frm ∉ todo → ∃ m, f r.to = some m ∧ m ≤ n + 1
  nodup : todo.Nodup
  rise : todo.Pairwise (fun x y => ∀ m n, f x = some m → f y = some n → m ≤ n)
  near : ∀ p q, todo = p :: q → ∀ d, f p = some d → ∀ x n, f x = some n → n ≤ d + 1
theorem Bfs.begin (l : List Ref) (a : S) : Bfs l a (upd (fun _ => none) a 0) [a] where
  start := by simp [upd]
  sound x n h := by
    unfold upd at h
    split at h
    · cases h; rename_i e; exact e
    · cases h
  inq x hx := by simp at hx; subst hx; exact ⟨0, by simp [upd]⟩
  fin r _ n h hn := by
    unfold upd at h
    split at h
    · rename_i e; simp [e] at hn
    · cases h
  nodup := by simp
  rise := by simp
  near p q e d h x n hx := by
    unfold upd at hx
    split at hx
    · cases hx; omega
    · cases hx
/-- a name that is not met yet, at the end of an edge from the head -/
theorem Bfs.found {l : List Ref} {a p : S} {f : S → Option Nat} {q : List S} {d : Nat} (h : Bfs l a f (p :: q)) (hp : f p = some d) {r : Ref} (hr : r ∈ l) (hf : r.frm = p) (hn : f r.to = none) :
    Bfs l a (upd f r.to (d + 1)) (p :: (q ++ [r.to])) := by
  have hu : ∀ {x n}, f x = some n → upd f r.to (d + 1) x = some n := fun {x n} e => by
    unfold upd; rw [if_neg (fun c => by rw [c, hn] at e; cases e)]; exact e
  have ho : ∀ {x n}, upd f r.to (d + 1) x = some n → (x = r.to ∧ n = d + 1) ∨ f x = some n := fun {x n} e => by
    unfold upd at e
    split at e
    · cases e; exact .inl ⟨‹_›, rfl⟩
    · exact .inr e
  have hnot : r.to ∉ p :: q := fun c => by obtain ⟨n, e⟩ := h.inq _ c; rw [hn] at e; cases e
  have happ : p :: (q ++ [r.to]) = (p :: q) ++ [r.to] := rfl
  refine ⟨hu h.start, fun x n e => ?_, fun x hx => ?_, fun s hs n e hx => ?_, ?_, ?_, fun p' q' e d' hd x n hx => ?_⟩
  · rcases ho e with ⟨e1, e2⟩ | e
    · subst e1; subst e2; exact W_edge hr (hf ▸ h.sound _ _ (hf ▸ hp))
    · exact h.sound _ _ e
  · rw [happ, List.mem_append] at hx
    rcases hx with hx | hx
    · obtain ⟨n, e⟩ := h.inq x hx; exact ⟨n, hu e⟩
    · simp at hx; subst hx; exact ⟨d + 1, by simp [upd]⟩
  · rw [happ, List.mem_append, not_or] at hx
    rcases ho e with ⟨e1, _⟩ | e
    · simp [e1] at hx
    · obtain ⟨m, h1, h2⟩ := h.fin s hs n e hx.1
      exact ⟨m, hu h1, h2⟩
  · rw [happ]
    refine List.nodup_append.2 ⟨h.nodup, by simp, fun x hx y hy e => ?_⟩
    simp at hy; subst hy; subst e; exact hnot hx
  · rw [happ]
    refine List.pairwise_append.2 ⟨?_, by simp, fun x hx y hy m n h1 h2 => ?_⟩
    · refine List.Pairwise.imp_of_mem ?_ h.rise
      intro x y hx hy hxy m n h1 h2
      rcases ho h1 with ⟨e, _⟩ | h1
      · exact absurd (e ▸ hx) hnot
      · rcases ho h2 with ⟨e, _⟩ | h2
        · exact absurd (e ▸ hy) hnot
        · exact hxy m n h1 h2
    · simp at hy; subst hy
      have : n = d + 1 := by unfold upd at h2; rw [if_pos rfl] at h2; cases h2; rfl
      subst this
      rcases ho h1 with ⟨e, _⟩ | h1
      · exact absurd (e ▸ hx) hnot
      · exact h.near p q rfl d hp x m h1
  · injection e with e1 e2
    subst e1
    have := hu hp
    rw [this] at hd
    cases hd
    rcases ho hx with ⟨_, e⟩ | e
    · omega
    · exact h.near p q rfl d hp x n e
/-- the head is done -/
theorem Bfs.pop {l : List Ref} {a p : S} {f : S → Option Nat} {q : List S} {d : Nat} (h : Bfs l a f (p :: q)) (hp : f p = some d) (hall : ∀ r ∈ l, r.frm = p → ∃ m, f r.to = some m) : Bfs l a f q := by
  refine ⟨h.start, h.sound, fun x hx => h.inq x (by simp [hx]), fun r hr n e hx => ?_, (List.nodup_cons.1 h.nodup).2, (List.pairwise_cons.1 h.rise).2, fun p' q' e d' hd x n hx => ?_⟩
  · by_cases e1 : r.frm = p
    · obtain ⟨m, hm⟩ := hall r hr e1
      rw [e1, hp] at e
      have e := Option.some.inj e
      subst e
      exact ⟨m, hm, h.near p q rfl d hp _ m hm⟩
    · exact h.fin r hr n e (by simp [e1, hx])
  · subst e
    have h1 := (List.pairwise_cons.1 h.rise).1 p' (by simp) d d' hp hd
    have h2 := h.near p _ rfl d hp x n hx
    omega
theorem Bfs.complete {l : List Ref} {a : S} {f : S → Option Nat} (h : Bfs l a f []) : ∀ {n : Nat} {x : S}, W l a n x → ∃ m, f x = some m ∧ m ≤ n
  | 0, x, hw => by have e : x = a := hw; subst e; exact ⟨0, h.start, Nat.le_refl _⟩
  | n + 1, x, hw => by
    rcases hw with hw | ⟨r, hr, hw, rfl⟩
    · obtain ⟨m, h1, h2⟩ := h.complete hw; exact ⟨m, h1, by omega⟩
    · obtain ⟨m, h1, h2⟩ := h.complete hw
      obtain ⟨k, h3, h4⟩ := h.fin r hr m h1 (by simp)
      exact ⟨k, h3, by omega⟩
theorem Bfs.eq {l : List Ref} {a : S} {f : S → Option Nat} (h : Bfs l a f []) (x : S) : f x = dist l a x := by
  cases e : f x with
  | some n =>
    refine (dist_some.2 ⟨h.sound _ _ e, fun m hm c => ?_⟩).symm
    obtain ⟨k, h1, h2⟩ := h.complete c
    rw [e] at h1; cases h1; omega
  | none =>
    cases k : dist l a x with
    | none => rfl
    | some d =>
      obtain ⟨m, h1, _⟩ := h.complete (dist_some.1 k).1
      rw [e] at h1; cases h1
/-- for the measure: the targets that are not met -/
def unmet (l : List Ref) (f : S → Option Nat) : Nat := l.countP fun r => (f r.to).isNone
theorem unmet_found {l : List Ref} {f : S → Option Nat} {r : Ref} (hr : r ∈ l) (hn : f r.to = none) (n : Nat) : unmet l (upd f r.to n) < unmet l f := by
  unfold unmet
  induction l with
  | nil => cases hr
  | cons s l ih =>
    have hle : ∀ l : List Ref, l.countP (fun r' => (upd f r.to n r'.to).isNone) ≤ l.countP fun r' => (f r'.to).isNone := fun l =>
      List.countP_mono_left fun x _ hx => by
        unfold upd at hx
        split at hx
        · cases hx
        · exact hx
    rw [List.countP_cons, List.countP_cons]
    by_cases e : s.to = r.to
    · have h1 : (upd f r.to n s.to).isNone = false := by simp [upd, e]
      have h2 : (f s.to).isNone = true := by simp [e, hn]
      rw [h1, h2]
      have := hle l
      simp
      omega
    · have hr' : r ∈ l := by
        rcases List.mem_cons.1 hr with h | h
        · exact absurd (by rw [h]) e
        · exact h
      have h1 : upd f r.to n s.to = f s.to := by simp [upd, e]
      rw [h1]
      have := ih hr'
      omega
end Rf
