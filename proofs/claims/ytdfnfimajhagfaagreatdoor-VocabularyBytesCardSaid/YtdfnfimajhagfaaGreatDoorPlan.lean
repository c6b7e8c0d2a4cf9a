/- A region that draws its order, in a round of a loop over a function: as everywhere. -/
import Derived.RangeFuncCalls
import Derived.OrdersIn
import Derived.Test.YtdfnfimajhagfaaGreatDoorReg
namespace Go.Proofs.YtdfnfimajhagfaaGreatDoor
open Go.RowKit Go.Maps
section
variable {P : Program} {l n : Nat}
theorem upon_in {o : Oper} {a : Act} {next : Act → World → Prop} {Q : Exit → Act → World → Prop} {r : Result Next} (h : o.upon P a next Q r) : o.uponIn (Fence.wide.inRound l) n P a next Q r := by
  cases r with
  | ok v w' =>
    cases v with
    | value v => exact h
    | skip => exact h
    | defer d => exact h
    | enter f args =>
      rw [Oper.uponIn_enter]
      refine ⟨fun hd => by simp [Fence.wide] at hd, ?_⟩
      have h2 : Calls P f args w' fun
        | .returned v, w'' => next (a.put o.dst v) w''
        | .panicked chain, w'' => Q (.panic chain) a w''
        | .outgrown, _ => LetsOut Q := h
      refine (CallsIn.inRound l (callsIn_wide.2 h2)).mono fun e w hh => ?_
      cases e <;> exact hh
    | row row args =>
      rw [Oper.uponIn_row]
      refine ⟨fun hd => by simp [Fence.wide] at hd, fun c cs _ => ?_⟩
      have h2 : Rows P row args w' fun v w'' => next (a.put o.dst v) w'' := h
      obtain ⟨v, w2, r, s⟩ := h2 c cs
      exact ⟨v, w2, r, stepsIn_wide.2 s⟩
    | _ => exact (h : False).elim
  | halt e w' =>
    cases e <;> first | exact h | exact (h : False).elim
theorem wp_in {o : Oper} {a : Act} {w : World} {next : Act → World → Prop} {Q : Exit → Act → World → Prop} (hd : ∀ c, o.op ≠ .defer c) (h : o.wp P a w next Q) : o.wpIn (Fence.wide.inRound l) n P a w next Q := by
  refine ⟨fun _ _ => trivial, ?_⟩
  rw [Fence.inRound_round, Oper.semAt_eq _ _ _ hd]
  exact upon_in h
theorem calm_shut {Q : Exit → Act → World → Prop} (h : LetsOut (Calm Q)) : False := by
  unfold LetsOut at h
  first | exact h | exact h default default | (obtain ⟨_, _, h⟩ := h; exact h) | simp [Calm] at h
theorem anyIn_of_any {md : Region.Mode} {ops : Array Oper} {Q : Exit → Act → World → Prop} (hd : ∀ (i : Nat) (o : Oper) c, ops[i]? = some o → o.op ≠ .defer c) : ∀ (f : Nat) (listed : Array Bool) (a : Act) (w : World),
    wpAny P md ops (Calm Q) f listed a w → wpAnyIn (Fence.wide.inRound l) n P md ops (Calm Q) f listed a w
  | 0, _, _, _, h => h
  | f + 1, listed, a, w, h => ⟨h.1, fun i hi => by
    have h2 := h.2 i hi
    unfold wpOp at h2
    unfold wpOpIn
    cases ho : ops[i]? with
    | none => rw [ho] at h2; exact anyIn_of_any hd f _ _ _ h2
    | some o =>
      rw [ho] at h2
      simp only at h2 ⊢
      split at h2
      · rename_i hw
        rw [if_pos hw]
        rcases h2 with h2 | ⟨_, h2⟩
        · exact wp_in (hd i o · ho) (Oper.wp_mono (fun a w h => anyIn_of_any hd f _ a w h) h2)
        · exact (calm_shut h2).elim
      · rename_i hw
        rw [if_neg hw]
        exact ⟨fun _ _ => trivial, anyIn_of_any hd f _ _ _ h2⟩⟩
theorem wpIn_region_mix {Q : Exit → Act → World → Prop} {id : Nat} {a : Act} {w : World} {ops : List Oper} (T : List (Bool × Nat)) (m : Nat) (S : World → Prop) (hm : P.follows .mixedOrders = true)
    (hB : (Region.noSelect ops.toArray && mixOK .any ops.toArray m T (Array.replicate ops.toArray.size false) && decide (T.length = ops.toArray.size)) = true)
    (hd : (ops.all fun o => match o.op with | .defer _ => false | _ => true) = true)
    (h : wpMix P ops.toArray (Calm Q) S m T a w.drew) : (Code.region id ops.toArray true).wpIn (Fence.wide.inRound l) n P Q a w := by
  simp only [Bool.and_eq_true, decide_eq_true_eq] at hB
  obtain ⟨⟨h1, h2⟩, h3⟩ := hB
  refine wpIn_mono (Q := Calm Q) (wpIn_region_any hm ?_) Calm.imp
  have := wpAny_of_x (S := S) (m := m) _ _ _ _ (wpX_mix (P := P) (Q := Calm Q) h1 (fun c a w h => h) T _ a w.drew h2 h)
  rw [h3] at this
  refine anyIn_of_any (fun i o c ho => ?_) _ _ _ _ this
  intro e
  have hmem : o ∈ ops := by
    have : ops[i]? = some o := by simpa using ho
    exact List.mem_of_getElem? this
  have := List.all_eq_true.1 hd o hmem
  rw [e] at this
  cases this
end
end Go.Proofs.YtdfnfimajhagfaaGreatDoor
/- A region that draws its order where two operations that turn the world are ready at once: a tree of both orders. -/
namespace Go.Proofs.YtdfnfimajhagfaaGreatDoor
open Go
inductive Plan
  | done
  | take (i : Nat) (p : Plan)
  | one (k : Nat) (p : Plan)
  | two (i : Nat) (p : Plan) (k : Nat) (q : Plan)
  | three (i : Nat) (p : Plan) (k : Nat) (q : Plan) (j : Nat) (r : Plan)
  | str (p : Plan)
def Plan.len : Plan → Nat
  | .done => 0
  | .take _ p => p.len + 1
  | .one _ p => p.len + 1
  | .two _ p _ _ => p.len + 1
  | .three _ p _ _ _ _ => p.len + 1
  | .str p => p.len
section
variable {P : Program} {md : Region.Mode} {ops : Array Oper} {Q : Exit → Act → World → Prop} {S : World → Prop} {m : Nat}
/-- an operation that is carried out in the world as it is -/
def wpForced (P : Program) (ops : Array Oper) (Q : Exit → Act → World → Prop) (S : World → Prop) (m k : Nat) (next : Act → World → Prop) (a : Act) (w : World) : Prop :=
  ∃ o, ops[k]? = some o ∧ if Region.wanted o (yielded ops a.tmps) = true then o.wp P a w (fun a' w' => (k ≠ m → S w') ∧ next a' w') Q else (k ≠ m → S w) ∧ next (a.put o.dst undef) w
def wpPlan (P : Program) (ops : Array Oper) (Q : Exit → Act → World → Prop) (S : World → Prop) (m : Nat) : Plan → Act → World → Prop
  | .done, a, w => Q .normal a w
  | .take i p, a, w => ∃ o v, ops[i]? = some o ∧ YieldsIf P ops S o v a ∧ S w ∧ wpPlan P ops Q S m p (a.put o.dst v) w
  | .str p, a, w => ∃ S' : World → Prop, (∀ wz, S' wz → S wz) ∧ wpPlan P ops Q S' m p a w
  | .one k p, a, w => wpForced P ops Q S m k (wpPlan P ops Q S m p) a w
  | .two i p k q, a, w => wpForced P ops Q S m i (wpPlan P ops Q S m p) a w ∧ wpForced P ops Q S m k (wpPlan P ops Q S m q) a w
  | .three i p k q j r, a, w => wpForced P ops Q S m i (wpPlan P ops Q S m p) a w ∧ wpForced P ops Q S m k (wpPlan P ops Q S m q) a w ∧ wpForced P ops Q S m j (wpPlan P ops Q S m r) a w
def planOK (md : Region.Mode) (ops : Array Oper) (m : Nat) : Plan → Array Bool → Bool
  | .done, listed => (Region.ready md ops listed).isEmpty
  | .take i p, listed => (Region.ready md ops listed).contains i && Region.free md ops listed i && (decide (ops.size ≤ m) || Region.waitsFor md ops m i) && planOK md ops m p (listed.setIfInBounds i true)
  | .str p, listed => planOK md ops m p listed
  | .one k p, listed => decide (Region.ready md ops listed = [k]) && planOK md ops m p (listed.setIfInBounds k true)
  | .two i p k q, listed => decide (Region.ready md ops listed = [i, k]) && decide (p.len = q.len) && planOK md ops m p (listed.setIfInBounds i true) && planOK md ops m q (listed.setIfInBounds k true)
  | .three i p k q j r, listed => decide (Region.ready md ops listed = [i, k, j]) && decide (p.len = q.len) && decide (p.len = r.len) && planOK md ops m p (listed.setIfInBounds i true) && planOK md ops m q (listed.setIfInBounds k true) && planOK md ops m r (listed.setIfInBounds j true)
theorem forced_op {k : Nat} {next : Act → World → Prop} {a : Act} {w : World} (h : wpForced P ops Q S m k next a w) : wpOp P ops Q k (fun a' w' => (k ≠ m → S w') ∧ next a' w') a w := by
  obtain ⟨o, ho, h⟩ := h
  unfold wpOp
  simp only [ho]
  split
  · rename_i hw; rw [if_pos hw] at h; exact .inl h
  · rename_i hw; rw [if_neg hw] at h; exact h
theorem wpX_sub {S S' : World → Prop} (hs : ∀ w, S' w → S w) : ∀ (f : Nat) (listed : Array Bool) (a : Act) (w : World), wpAnyX P md ops Q S' m f listed a w → wpAnyX P md ops Q S m f listed a w
  | 0, _, _, _, h => h
  | f + 1, _, _, _, h => ⟨h.1, fun i hi => wpOp_mono (fun a' w' h' => ⟨fun hm => hs _ (h'.1 hm), wpX_sub hs f _ a' w' h'.2⟩) (h.2 i hi)⟩
theorem wpX_plan (hsel : Region.noSelect ops = true) (hQ : ∀ c a w, ¬ Q (.panic c) a w) : ∀ (T : Plan) (S : World → Prop) (listed : Array Bool) (a : Act) (w : World), planOK md ops m T listed = true → wpPlan P ops Q S m T a w → wpAnyX P md ops Q S m T.len listed a w
  | .done, S, listed, a, w, hB, h => ⟨by simpa [planOK] using hB, h⟩
  | .str T, S, listed, a, w, hB, h => by
    obtain ⟨S', hs, h⟩ := h
    exact wpX_sub hs _ _ _ _ (wpX_plan hsel hQ T S' listed a w (by simpa [planOK] using hB) h)
  | .take i T, S, listed, a, w, hB, h => by
    simp only [planOK, Bool.and_eq_true, Bool.or_eq_true, decide_eq_true_eq] at hB
    obtain ⟨⟨⟨hr, hf⟩, hx⟩, hB'⟩ := hB
    obtain ⟨o, v, ho, hy, hS, h⟩ := h
    exact wpAnyX_first (Q := Q) ho (Region.noSelect_spec hsel) hQ (fun om hom => by
      rcases hx with hx | hx
      · have := (Array.getElem?_eq_some_iff.1 hom).1; omega
      · exact hx) T.len listed a w (Region.free_spec ho hf) (by simpa using hr) hy hS (wpX_plan hsel hQ T S _ _ w hB' h)
  | .one k T, S, listed, a, w, hB, h => by
    simp only [planOK, Bool.and_eq_true, decide_eq_true_eq] at hB
    refine ⟨fun h1 => (by rw [hB.1] at h1; cases h1), fun i hi => ?_⟩
    rw [hB.1] at hi
    obtain rfl : i = k := by simpa using hi
    exact wpOp_mono (fun a' w' h' => ⟨h'.1, wpX_plan hsel hQ T S _ a' w' hB.2 h'.2⟩) (forced_op h)
  | .two i T k U, S, listed, a, w, hB, h => by
    simp only [planOK, Bool.and_eq_true, decide_eq_true_eq] at hB
    obtain ⟨⟨⟨h1, h2⟩, h3⟩, h4⟩ := hB
    refine ⟨fun h5 => (by rw [h1] at h5; cases h5), fun j hj => ?_⟩
    rw [h1] at hj
    rcases List.mem_cons.1 hj with e | hj
    · subst e
      exact wpOp_mono (fun a' w' h' => ⟨h'.1, wpX_plan hsel hQ T S _ a' w' h3 h'.2⟩) (forced_op h.1)
    · obtain rfl : j = k := by simpa using hj
      show wpOp P ops Q j (fun a' w' => (j ≠ m → S w') ∧ wpAnyX P md ops Q S m T.len (listed.setIfInBounds j true) a' w') a w
      rw [h2]
      exact wpOp_mono (fun a' w' h' => ⟨h'.1, wpX_plan hsel hQ U S _ a' w' h4 h'.2⟩) (forced_op h.2)
  | .three i T k U l V, S, listed, a, w, hB, h => by
    simp only [planOK, Bool.and_eq_true, decide_eq_true_eq] at hB
    obtain ⟨⟨⟨⟨⟨h1, h2⟩, h2'⟩, h3⟩, h4⟩, h6⟩ := hB
    refine ⟨fun h5 => (by rw [h1] at h5; cases h5), fun j hj => ?_⟩
    rw [h1] at hj
    rcases List.mem_cons.1 hj with e | hj
    · subst e
      exact wpOp_mono (fun a' w' h' => ⟨h'.1, wpX_plan hsel hQ T S _ a' w' h3 h'.2⟩) (forced_op h.1)
    · rcases List.mem_cons.1 hj with e | hj
      · subst e
        show wpOp P ops Q j (fun a' w' => (j ≠ m → S w') ∧ wpAnyX P md ops Q S m T.len (listed.setIfInBounds j true) a' w') a w
        rw [h2]
        exact wpOp_mono (fun a' w' h' => ⟨h'.1, wpX_plan hsel hQ U S _ a' w' h4 h'.2⟩) (forced_op h.2.1)
      · obtain rfl : j = l := by simpa using hj
        show wpOp P ops Q j (fun a' w' => (j ≠ m → S w') ∧ wpAnyX P md ops Q S m T.len (listed.setIfInBounds j true) a' w') a w
        rw [h2']
        exact wpOp_mono (fun a' w' h' => ⟨h'.1, wpX_plan hsel hQ V S _ a' w' h6 h'.2⟩) (forced_op h.2.2)
theorem wp_region_plan {id : Nat} {a : Act} {w : World} {l : List Oper} (T : Plan) (m : Nat) (S : World → Prop) (hm : P.follows .mixedOrders = true)
    (hB : (Region.noSelect l.toArray && planOK .any l.toArray m T (Array.replicate l.toArray.size false) && decide (T.len = l.toArray.size)) = true)
    (h : wpPlan P l.toArray (Calm Q) S m T a w.drew) : (Code.region id l.toArray true).wp P Q a w := by
  simp only [Bool.and_eq_true, decide_eq_true_eq] at hB
  obtain ⟨⟨h1, h2⟩, h3⟩ := hB
  refine Code.wp_mono Calm.imp (wp_region_any hm ?_)
  have := wpAny_of_x (S := S) (m := m) _ _ _ _ (wpX_plan (P := P) (Q := Calm Q) h1 (fun c a w h => h) T S _ a w.drew h2 h)
  rwa [h3] at this
theorem wpPlan_put {i : Nat} {T : Plan} {a : Act} {w : World} {o : Oper} {v : Value} {d : Nat} (ho : ops[i]? = some o) (hd : o.dst = some d) (hy : YieldsIf P ops S o v a) (hS : S w)
    (h : wpPlan P ops Q S m T { a with tmps := a.tmps.setIfInBounds d v } w) : wpPlan P ops Q S m (.take i T) a w := ⟨o, v, ho, hy, hS, by rw [hd]; exact h⟩
theorem wpForced_step {i : Nat} {next : Act → World → Prop} {a : Act} {w : World} {o : Oper} (ho : ops[i]? = some o)
    (h : ∀ K : Act → World → Prop, (∀ a' w', (i ≠ m → S w') → next a' w' → K a' w') → if Region.wanted o (yielded ops a.tmps) = true then o.wp P a w K (Calm Q) else K (a.put o.dst undef) w) : wpForced P ops (Calm Q) S m i next a w :=
  ⟨o, ho, h _ fun _ _ h1 h2 => ⟨h1, h2⟩⟩
theorem wpPlan_one {i : Nat} {T : Plan} {a : Act} {w : World} (h : wpForced P ops Q S m i (wpPlan P ops Q S m T) a w) : wpPlan P ops Q S m (.one i T) a w := h
theorem wpPlan_two {i k : Nat} {T U : Plan} {a : Act} {w : World} (h : wpForced P ops Q S m i (wpPlan P ops Q S m T) a w) (h2 : wpForced P ops Q S m k (wpPlan P ops Q S m U) a w) : wpPlan P ops Q S m (.two i T k U) a w := ⟨h, h2⟩
theorem wpPlan_three {i k j : Nat} {T U V : Plan} {a : Act} {w : World} (h : wpForced P ops Q S m i (wpPlan P ops Q S m T) a w) (h2 : wpForced P ops Q S m k (wpPlan P ops Q S m U) a w) (h3 : wpForced P ops Q S m j (wpPlan P ops Q S m V) a w) : wpPlan P ops Q S m (.three i T k U j V) a w := ⟨h, h2, h3⟩
theorem wpPlan_str {T : Plan} {a : Act} {w : World} (S' : World → Prop) (hs : ∀ wz, S' wz → S wz) (h : wpPlan P ops Q S' m T a w) : wpPlan P ops Q S m (.str T) a w := ⟨S', hs, h⟩
theorem wpPlan_nil {a : Act} {w : World} (h : Q .normal a w) : wpPlan P ops (Calm Q) S m .done a w := h
/-- the temporaries and what stands behind, as variables -/
theorem region_split {c : Code} {tmps : Array Value} {ds : List Deferred} {w : World} (h : ∀ (T : Array Value) (R : Exit → Act → World → Prop), T = tmps → R = Q → Code.wp P c R { tmps := T, defers := ds } w) : c.wp P Q { tmps := tmps, defers := ds } w := h _ _ rfl rfl
end
end Go.Proofs.YtdfnfimajhagfaaGreatDoor
