/- Plain laws: the steps of a way are references; what Reach finds for so many steps; further references lose none. -/
import Derived.Test.YtdeeflbghhajiaaPlain
namespace Rf
section
variable {l : List Ref} {heads : List S}
theorem best_step {last to : S} {n : Nat} (hh : has heads to = true) (hd : dist l last to = some (n + 1)) :
    ∃ b r, best l heads last to n l none = some b ∧ r ∈ l ∧ r.frm = last ∧ r.to = b ∧ dist l b to = some n := by
  obtain ⟨r, h1, h2, h3⟩ := dist_step hd
  have hc : r.to ∈ cand l heads last to n := (cand_mem hh).2 ⟨r, h1, h2, h3, rfl⟩
  obtain ⟨m, h4, h5, _⟩ := leastOf_none _ _ hc
  obtain ⟨q, h6, h7, h8, h9⟩ := (cand_mem hh).1 h5
  refine ⟨m, q, ?_, h6, h7, h9, by rw [← h9]; exact h8⟩
  rw [best_eq]
  exact h4
/-- a way along references, from x on -/
def Along (l : List Ref) : S → List S → Prop
  | _, [] => True
  | x, y :: p => (∃ r ∈ l, r.frm = x ∧ r.to = y) ∧ Along l y p
theorem wayN_ok {to : S} (hh : has heads to = true) : ∀ {n : Nat} {last : S}, dist l last to = some n → (wayN l heads to n last).length = n ∧ Along l last (wayN l heads to n last) ∧ (last :: wayN l heads to n last).getLast? = some to
  | 0, last, h => by
    have e := dist_zero.1 h
    subst e
    exact ⟨rfl, trivial, rfl⟩
  | n + 1, last, h => by
    obtain ⟨b, r, h1, h2, h3, h4, h5⟩ := best_step hh h
    obtain ⟨h6, h7, h8⟩ := wayN_ok hh h5
    unfold wayN
    rw [h1]
    simp only [Option.getD_some]
    exact ⟨by simp [h6], ⟨⟨r, h2, h3, h4⟩, h7⟩, by rw [List.getLast?_cons_cons]; exact h8⟩
theorem along_get : ∀ {p : List S} {x : S} {k : Nat} {a b : S}, Along l x p → (x :: p)[k]? = some a → (x :: p)[k + 1]? = some b → ∃ r ∈ l, r.frm = a ∧ r.to = b
  | [], x, k, a, b, _, _, h => by simp at h
  | y :: p, x, 0, a, b, h, h1, h2 => by
    simp only [List.getElem?_cons_zero, List.getElem?_cons_succ, Nat.zero_add] at h1 h2
    injection h1 with h1
    injection h2 with h2
    subst h1; subst h2
    exact h.1
  | y :: p, x, k + 1, a, b, h, h1, h2 => along_get (k := k) h.2 (by simpa using h1) (by simpa using h2)
theorem way_none {a x : S} (h : steps l heads a x = none) : way l heads a x = ([], false) := by unfold way; rw [h]
theorem way_some {a x : S} {n : Nat} (h : steps l heads a x = some n) : way l heads a x = (a :: wayN l heads x n a, true) := by unfold way; rw [h]
theorem steps_dist {a x : S} {n : Nat} (h : steps l heads a x = some n) : has heads x = true ∧ dist l a x = some n := by
  unfold steps at h
  split at h
  · rename_i hh; exact ⟨hh, h⟩
  · cases h
theorem reach_no {a x : S} (hx : has heads x = true) (h : steps l heads a x = none) (n : Int) : has (reach l heads a n) x = false := by
  rw [has_false, reach_mem]
  rintro ⟨_, d, h1, _⟩
  rw [steps_head hx, h1] at h
  cases h
theorem reach_yes {a x : S} {n : Nat} (h : steps l heads a x = some n) : has (reach l heads a n) x = true := by
  obtain ⟨h1, h2⟩ := steps_dist h
  rw [has_iff, reach_mem]
  exact ⟨(has_iff _ _).1 h1, n, h2, by omega⟩
theorem reach_less {a x : S} {n : Nat} (h : steps l heads a x = some n) {k : Int} (hk : k < n) : has (reach l heads a k) x = false := by
  obtain ⟨h1, h2⟩ := steps_dist h
  rw [has_false, reach_mem]
  rintro ⟨_, d, h3, h4⟩
  rw [h2] at h3
  injection h3 with h3
  omega
theorem W_sub {m : List Ref} (hs : ∀ r ∈ l, r ∈ m) {a : S} : ∀ {n : Nat} {x : S}, W l a n x → W m a n x
  | 0, _, h => h
  | n + 1, x, h => by
    rcases h with h | ⟨r, hr, h, e⟩
    · exact .inl (W_sub hs h)
    · exact .inr ⟨r, hs r hr, W_sub hs h, e⟩
theorem reach_more {m : List Ref} (hs : ∀ r ∈ l, r ∈ m) {a x : S} {n : Nat} (h : steps l heads a x = some n) : has (reach m heads a n) x = true := by
  obtain ⟨h1, h2⟩ := steps_dist h
  rw [has_iff, reach_mem]
  obtain ⟨d, h3, h4⟩ := dist_of_W (W_sub hs (dist_some.1 h2).1)
  exact ⟨(has_iff _ _).1 h1, d, h3, by omega⟩
end
end Rf
