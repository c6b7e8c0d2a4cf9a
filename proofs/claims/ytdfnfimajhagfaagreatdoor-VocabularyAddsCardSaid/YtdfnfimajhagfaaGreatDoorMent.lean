/- Walks of package vocabulary: preferred, Prefer. -/
import Derived.Test.YtdfnfimajhagfaaGreatDoorV10
import Derived.Test.YtdfnfimajhagfaaGreatDoorUnit
namespace Rf
/-- the preferred name of a term -/
def prefT (t : Term) : S := if eqS t.see ⟨#[]⟩ then t.name else t.see
theorem eqS_nil (s : S) : eqS s ⟨#[]⟩ = s.toList.isEmpty := by
  have h : (⟨#[]⟩ : S).toList = [] := by rw [toList_byts]; rfl
  unfold eqS
  rw [h]
  cases s.toList <;> rfl
theorem prefT_see {t : Term} (h : t.see.toList.isEmpty = false) : prefT t = t.see := by unfold prefT; rw [eqS_nil, h]; rfl
theorem prefT_name {t : Term} (h : t.see.toList.isEmpty = true) : prefT t = t.name := by unfold prefT; rw [eqS_nil, h]; rfl
/-- Prefer: the name and the error -/
noncomputable def prefer (l : List Term) (n : S) : S × Int :=
  if (vvalid l).2 = 0 then (match findT l n with | some t => (prefT t, 0) | none => (⟨#[]⟩, 6)) else (⟨#[]⟩, (vvalid l).2)
end Rf
namespace Go.Proofs.YtdfnfimajhagfaaGreatDoor
open Go.RowKit Go.Maps Rf
set_option maxRecDepth 20000 in
set_option maxHeartbeats 1000000 in
theorem preferred_any (m : TM) (w : World) :
    Calls Tryz.prog 87 #[.agg #[.string m.t.name, .int .i64 m.t.kind, .int .i64 m.t.lang, .string m.t.see, .slice m.A m.n m.c]] w fun e w' => e = .returned (.string (prefT m.t)) ∧ Below w.heap.size w w' := by
  cases he : m.t.see.toList.isEmpty
  · rw [prefT_see he]
    go_enter Tryz.func87, Tryz.ntmps87
    go_wp2
    go_ret
    exact ⟨rfl, brefl.al _⟩
  · rw [prefT_name he]
    go_enter Tryz.func87, Tryz.ntmps87
    go_wp2
    go_ret
    exact ⟨rfl, brefl.al _⟩
set_option maxRecDepth 20000 in
set_option maxHeartbeats 1000000 in
theorem prefer_any (A : Option Addr) (n c : Nat) (ms : List TM) (s : S) (w : World) (hm : n ≤ 100000) (hr : Rdy w) (hl : Tms w A n ms) :
    Calls Tryz.prog 33 #[.slice A n c, .string s] w fun e w' => e = .returned (.tuple #[.string (prefer (terms ms) s).1, .int .i64 (prefer (terms ms) s).2]) ∧ Below w.heap.size w w' := by
  have hv := vvalid_any A n c ms w hm hr hl
  unfold prefer
  generalize hvl : vvalid (terms ms) = vl at hv ⊢
  obtain ⟨u, v⟩ := vl
  dsimp only at hv ⊢
  clear hvl
  generalize (u : Int) = u at hv
  by_cases h0 : v = 0
  · rw [if_pos h0]
    subst h0
    rcases findAt_cases (terms ms) s 0 with ⟨f1, f2⟩ | ⟨j, t, f1, f2, f3⟩
    · rw [f1]
      clear f1
      go_enter Tryz.func33, Tryz.ntmps33
      go_wp2_with (first
        | (go_at_call 12; go_loud (refine hv.mono ?_; rintro e w2 ⟨rfl, hb2⟩))
        | (go_at_call 20; go_loud (refine (vfind_any _ _ _ _ _ _ hm (hl.below hb2)).mono ?_; rintro e w3 ⟨rfl, hb3⟩; rw [f2])))
      go_ret2
      exact ⟨rfl, hb2.tr hb3⟩
    · rw [f1]
      rw [Nat.zero_add] at f2
      have hF := Lib.hid f3
      clear f1 f3
      go_enter Tryz.func33, Tryz.ntmps33
      go_wp2_with (first
        | (go_at_call 12; go_loud (refine hv.mono ?_; rintro e w2 ⟨rfl, hb2⟩))
        | (go_at_call 20; go_loud (refine (vfind_any _ _ _ _ _ _ hm (hl.below hb2)).mono ?_; rintro e w3 ⟨rfl, hb3⟩; rw [f2]; have hlt : j < n := by { have h1 := (List.getElem?_eq_some_iff.1 hF.out).1; rw [terms_length hl] at h1; exact h1 }; obtain ⟨b, off, m, rfl, hx, hok, hb0, d1, d2, d3, d4, d5⟩ := ((hl.below hb2).below hb3).at_ hlt; have htm : Hid (m.t = t) := Lib.hid (by { have h2 := terms_get hx; rw [hF.out] at h2; exact (Option.some.inj h2).symm })))
        | (go_at_call 87; go_loud (refine (preferred_any m _).mono ?_; rintro e w4 ⟨rfl, hb4⟩)))
      go_ret2
      refine ⟨?_, (hb2.tr hb3).tr hb4⟩
      rw [← htm.out]
      rfl
  · rw [if_neg h0]
    go_enter Tryz.func33, Tryz.ntmps33
    have h0b : (v == 0) = false := by simpa using h0
    go_wp2_with (go_at_call 12; go_loud (refine hv.mono ?_; rintro e w2 ⟨rfl, hb2⟩))
    go_ret2
    exact ⟨rfl, hb2⟩
end Go.Proofs.YtdfnfimajhagfaaGreatDoor
/- Mentions in plain Lean: the longest name that stands at a token, the first of these. -/
namespace Rf
/-- the words of a name -/
def nw (s : S) : List S := (wordsB 32 (byts s)).map ofB
/-- a name stands at a token -/
def stands (W : List S) (k : Nat) (x : List S) : Bool := decide (x.length ≤ W.length - k) && decide ((W.drop k).take x.length = x)
structure Men where
  lo : Nat
  hi : Nat
  name : S
  pref : S
  deriving DecidableEq
/-- how the best so far and one more term go together: its words, its name, its preferred name -/
def better (lang : Int) (W : List S) (k : Nat) (b : Nat × S × S) (t : Term) : Nat × S × S :=
  if (t.lang = 0 ∨ t.lang = lang) ∧ b.1 < (nw t.name).length ∧ stands W k (nw t.name) = true then ((nw t.name).length, t.name, prefT t) else b
def bestM (lang : Int) (W : List S) (k : Nat) (l : List Term) : Nat × S × S := l.foldl (better lang W k) (0, ⟨#[]⟩, ⟨#[]⟩)
theorem bestM_snoc (lang : Int) (W : List S) (k : Nat) {l : List Term} {i : Nat} {t : Term} (h : l[i]? = some t) : bestM lang W k (l.take (i + 1)) = better lang W k (bestM lang W k (l.take i)) t := by
  unfold bestM
  rw [take_snoc h, List.foldl_append]
  rfl
theorem bestM_in (lang : Int) (W : List S) (k : Nat) (l : List Term) (hk : k ≤ W.length) : k + (bestM lang W k l).1 ≤ W.length := by
  unfold bestM
  have : ∀ (l : List Term) (b : Nat × S × S), k + b.1 ≤ W.length → k + (l.foldl (better lang W k) b).1 ≤ W.length := by
    intro l
    induction l with
    | nil => intro b h; exact h
    | cons t l ih =>
      intro b h
      rw [List.foldl_cons]
      apply ih
      unfold better
      split
      · rename_i h2
        have h3 := h2.2.2
        unfold stands at h3
        rw [Bool.and_eq_true, decide_eq_true_iff] at h3
        have := h3.1
        dsimp only
        omega
      · exact h
  exact this l _ (by simpa using hk)
/-- the mentions from a token on -/
def mens (l : List Term) (lang : Int) (W : List S) (k : Nat) : List Men :=
  if _h : k < W.length then
    if h0 : (bestM lang W k l).1 = 0 then mens l lang W (k + 1)
    else ⟨k, k + (bestM lang W k l).1, (bestM lang W k l).2.1, (bestM lang W k l).2.2⟩ :: mens l lang W (k + (bestM lang W k l).1)
  else []
termination_by W.length - k
decreasing_by
  · omega
  · omega
theorem mens_end {l : List Term} {lang : Int} {W : List S} {k : Nat} (h : ¬ k < W.length) : mens l lang W k = [] := by rw [mens, dif_neg h]
theorem mens_none {l : List Term} {lang : Int} {W : List S} {k : Nat} (h : k < W.length) (h0 : (bestM lang W k l).1 = 0) : mens l lang W k = mens l lang W (k + 1) := by rw [mens, dif_pos h, dif_pos h0]
theorem mens_one {l : List Term} {lang : Int} {W : List S} {k : Nat} (h : k < W.length) (h0 : ¬ (bestM lang W k l).1 = 0) : mens l lang W k = ⟨k, k + (bestM lang W k l).1, (bestM lang W k l).2.1, (bestM lang W k l).2.2⟩ :: mens l lang W (k + (bestM lang W k l).1) := by rw [mens, dif_pos h, dif_neg h0]
end Rf
