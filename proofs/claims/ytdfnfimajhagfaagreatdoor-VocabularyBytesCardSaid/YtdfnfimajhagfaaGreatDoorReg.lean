/- A region that draws its order: what yields the same in every world of a class is taken first, in an order of the prover's choosing; the others stand in a row. -/
import Derived.OrdersHeld
import Derived.StillTail
import Derived.Tactics
import Derived.KernelRfl
namespace Go.Proofs.YtdfnfimajhagfaaGreatDoor
open Go
section
variable {P : Program} {md : Region.Mode} {ops : Array Oper} {Q : Exit → Act → World → Prop} {S : World → Prop} {m : Nat}
/-- every order from here on, and S behind each operation but number m -/
def wpAnyX (P : Program) (md : Region.Mode) (ops : Array Oper) (Q : Exit → Act → World → Prop) (S : World → Prop) (m : Nat) : Nat → Array Bool → Act → World → Prop
  | 0, listed, a, w => Region.ready md ops listed = [] ∧ Q .normal a w
  | f + 1, listed, a, w => (Region.ready md ops listed = [] → Q .normal a w) ∧
    ∀ i ∈ Region.ready md ops listed, wpOp P ops Q i (fun a' w' => (i ≠ m → S w') ∧ wpAnyX P md ops Q S m f (listed.setIfInBounds i true) a' w') a w
theorem wpAny_of_x : ∀ (f : Nat) (listed : Array Bool) (a : Act) (w : World), wpAnyX P md ops Q S m f listed a w → wpAny P md ops Q f listed a w
  | 0, _, _, _, h => h
  | f + 1, _, _, _, h => ⟨h.1, fun i hi => wpOp_mono (fun a' w' h' => wpAny_of_x f _ a' w' h'.2) (h.2 i hi)⟩
theorem unlisted {listed : Array Bool} {i : Nat} (h : listed.getD i true = false) : listed.getD i false = false := by
  rcases Nat.lt_or_ge i listed.size with h' | h'
  · simp [h'] at h ⊢; exact h
  · simp [Array.getElem?_eq_none h'] at h
theorem wpAnyX_first {i : Nat} {oi : Oper} {v : Value} (hi : ops[i]? = some oi) (hsel : ∀ (j : Nat) (o : Oper) cs b, ops[j]? = some o → o.op ≠ .select cs b) (hQ : ∀ c a w, ¬ Q (.panic c) a w)
    (hm : ∀ om, ops[m]? = some om → Region.waitsFor md ops m i = true) :
    ∀ (f : Nat) (listed : Array Bool) (a : Act) (w : World),
      (∀ j oj, ops[j]? = some oj → j ≠ i → listed.getD j true = false → (∀ e ∈ oj.after, Region.binds md e = true → e.on ≠ i) → oi.apart ops oj = true) →
      i ∈ Region.ready md ops listed → YieldsIf P ops S oi v a → S w → wpAnyX P md ops Q S m f (listed.setIfInBounds i true) (a.put oi.dst v) w → wpAnyX P md ops Q S m (f + 1) listed a w := by
  intro f
  induction f with
  | zero =>
    intro listed a w _ hr hy hS H
    refine ⟨fun h => (by rw [h] at hr; cases hr), fun j hj => ?_⟩
    by_cases hji : j = i
    · subst hji; exact hy.wpOp hi hS ⟨fun _ => hS, H⟩
    · have := ready_mono hj hji
      rw [H.1] at this
      cases this
  | succ f ih =>
    intro listed a w hfree hr hy hS H
    refine ⟨fun h => (by rw [h] at hr; cases hr), fun j hj => ?_⟩
    by_cases hji : j = i
    · subst hji; exact hy.wpOp hi hS ⟨fun _ => hS, H⟩
    · obtain ⟨hjun, oj, hoj, hall⟩ := mem_ready.1 hj
      have hiun := unlisted (mem_ready.1 hr).1
      have hjm : j ≠ m := fun e => by
        subst e
        obtain ⟨om, ho, e, he, hb, hon⟩ := Region.waitsFor_spec (hm oj hoj)
        obtain rfl : oj = om := Option.some.inj (hoj.symm.trans ho)
        have := hall e he hb
        rw [hon, hiun] at this
        cases this
      have hnot : ∀ e ∈ oj.after, Region.binds md e = true → e.on ≠ i := fun e he hb heq => by
        have := hall e he hb
        rw [heq, hiun] at this
        cases this
      have h2 := wpOp_putIf hoj (hfree j oj hoj hji hjun hnot) (fun cs b => hsel i oi cs b hi) (fun cs b => hsel j oj cs b hoj) (fun c a w h => absurd h (hQ c _ w)) hy (H.2 j (ready_mono hj hji))
      have hfree' : ∀ k ok, ops[k]? = some ok → k ≠ i → (listed.setIfInBounds j true).getD k true = false → (∀ e ∈ ok.after, Region.binds md e = true → e.on ≠ i) → oi.apart ops ok = true := fun k ok hk hki hun hno => by
        refine hfree k ok hk hki ?_ hno
        by_cases hjk : j = k
        · subst hjk; exact hjun
        · rw [getD_set_ne true hjk] at hun; exact hun
      refine wpOp_mono (fun a' w' h3 => ⟨fun _ => h3.2.1 hjm, ih (listed.setIfInBounds j true) a' w' hfree' (ready_mono hr (Ne.symm hji)) h3.1 (h3.2.1 hjm) ?_⟩) h2
      rw [Array.setIfInBounds_comm _ _ hji]
      exact h3.2.2
/-- no panic -/
def Calm (Q : Exit → Act → World → Prop) : Exit → Act → World → Prop
  | .normal, a, w => Q .normal a w
  | _, _, _ => False
theorem Calm.imp : ∀ (e : Exit) (a : Act) (w : World), Calm Q e a w → Q e a w := fun e a w h => by
  cases e <;> first | exact h | exact (h : False).elim
/-! ### taken and forced operations in whatever mixture -/
def wpMix (P : Program) (ops : Array Oper) (Q : Exit → Act → World → Prop) (S : World → Prop) (m : Nat) : List (Bool × Nat) → Act → World → Prop
  | [], a, w => Q .normal a w
  | (true, i) :: T, a, w => ∃ o v, ops[i]? = some o ∧ YieldsIf P ops S o v a ∧ S w ∧ wpMix P ops Q S m T (a.put o.dst v) w
  | (false, i) :: T, a, w => ∃ o, ops[i]? = some o ∧ if Region.wanted o (yielded ops a.tmps) = true then o.wp P a w (fun a' w' => (i ≠ m → S w') ∧ wpMix P ops Q S m T a' w') Q else (i ≠ m → S w) ∧ wpMix P ops Q S m T (a.put o.dst undef) w
def mixOK (md : Region.Mode) (ops : Array Oper) (m : Nat) : List (Bool × Nat) → Array Bool → Bool
  | [], listed => (Region.ready md ops listed).isEmpty
  | (true, i) :: T, listed => (Region.ready md ops listed).contains i && Region.free md ops listed i && (decide (ops.size ≤ m) || Region.waitsFor md ops m i) && mixOK md ops m T (listed.setIfInBounds i true)
  | (false, k) :: T, listed => decide (Region.ready md ops listed = [k]) && mixOK md ops m T (listed.setIfInBounds k true)
theorem wpX_mix (hsel : Region.noSelect ops = true) (hQ : ∀ c a w, ¬ Q (.panic c) a w) : ∀ (T : List (Bool × Nat)) (listed : Array Bool) (a : Act) (w : World), mixOK md ops m T listed = true → wpMix P ops Q S m T a w → wpAnyX P md ops Q S m T.length listed a w
  | [], listed, a, w, hB, h => ⟨by simpa [mixOK] using hB, h⟩
  | (true, i) :: T, listed, a, w, hB, h => by
    simp only [mixOK, Bool.and_eq_true, Bool.or_eq_true, decide_eq_true_eq] at hB
    obtain ⟨⟨⟨hr, hf⟩, hx⟩, hB'⟩ := hB
    obtain ⟨o, v, ho, hy, hS, h⟩ := h
    exact wpAnyX_first (Q := Q) ho (Region.noSelect_spec hsel) hQ (fun om hom => by
      rcases hx with hx | hx
      · have := (Array.getElem?_eq_some_iff.1 hom).1; omega
      · exact hx) T.length listed a w (Region.free_spec ho hf) (by simpa using hr) hy hS (wpX_mix hsel hQ T _ _ w hB' h)
  | (false, k) :: T, listed, a, w, hB, h => by
    simp only [mixOK, Bool.and_eq_true, decide_eq_true_eq] at hB
    refine ⟨fun h1 => (by rw [hB.1] at h1; cases h1), fun i hi => ?_⟩
    rw [hB.1] at hi
    obtain rfl : i = k := by simpa using hi
    obtain ⟨o, ho, h⟩ := h
    have hw : wpOp P ops Q i (fun a' w' => (i ≠ m → S w') ∧ wpMix P ops Q S m T a' w') a w := by
      unfold wpOp
      simp only [ho]
      split
      · rename_i hw; rw [if_pos hw] at h; exact .inl h
      · rename_i hw; rw [if_neg hw] at h; exact h
    exact wpOp_mono (fun a' w' h' => ⟨h'.1, wpX_mix hsel hQ T _ a' w' hB.2 h'.2⟩) hw
theorem wp_region_mix {id : Nat} {a : Act} {w : World} {l : List Oper} (T : List (Bool × Nat)) (m : Nat) (S : World → Prop) (hm : P.follows .mixedOrders = true)
    (hB : (Region.noSelect l.toArray && mixOK .any l.toArray m T (Array.replicate l.toArray.size false) && decide (T.length = l.toArray.size)) = true)
    (h : wpMix P l.toArray (Calm Q) S m T a w.drew) : (Code.region id l.toArray true).wp P Q a w := by
  simp only [Bool.and_eq_true, decide_eq_true_eq] at hB
  obtain ⟨⟨h1, h2⟩, h3⟩ := hB
  refine Code.wp_mono Calm.imp (wp_region_any hm ?_)
  have := wpAny_of_x (S := S) (m := m) _ _ _ _ (wpX_mix (P := P) (Q := Calm Q) h1 (fun c a w h => h) T _ a w.drew h2 h)
  rwa [h3] at this
theorem wpMix_put {i : Nat} {T : List (Bool × Nat)} {a : Act} {w : World} {o : Oper} {v : Value} {d : Nat} (ho : ops[i]? = some o) (hd : o.dst = some d) (hy : YieldsIf P ops S o v a) (hS : S w)
    (h : wpMix P ops Q S m T { a with tmps := a.tmps.setIfInBounds d v } w) : wpMix P ops Q S m ((true, i) :: T) a w := ⟨o, v, ho, hy, hS, by rw [hd]; exact h⟩
theorem wpMix_step {i : Nat} {T : List (Bool × Nat)} {a : Act} {w : World} {o : Oper} (ho : ops[i]? = some o)
    (h : ∀ K : Act → World → Prop, (∀ a' w', (i ≠ m → S w') → wpMix P ops (Calm Q) S m T a' w' → K a' w') → if Region.wanted o (yielded ops a.tmps) = true then o.wp P a w K (Calm Q) else K (a.put o.dst undef) w) : wpMix P ops (Calm Q) S m ((false, i) :: T) a w :=
  ⟨o, ho, h _ fun _ _ h1 h2 => ⟨h1, h2⟩⟩
theorem wpMix_nil {a : Act} {w : World} (h : Q .normal a w) : wpMix P ops (Calm Q) S m [] a w := h
end
end Go.Proofs.YtdfnfimajhagfaaGreatDoor
