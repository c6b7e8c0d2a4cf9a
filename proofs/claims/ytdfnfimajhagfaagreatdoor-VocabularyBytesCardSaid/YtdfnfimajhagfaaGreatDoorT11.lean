/- Walks of package vocabulary: own, the comparison of Add, slices.BinarySearchFunc at terms. -/
import Derived.Test.YtdfnfimajhagfaaGreatDoorT8
import Derived.Test.YtdfnfimajhagfaaGreatDoorP6
import Derived.Test.YtdfnfimajhagfaaGreatDoorSpo
import Derived.Deep.MidRow
import Derived.Lib.Overlaps
import Derived.Lib.AppendZerosOnto
import Derived.Laws.NewBlocks
namespace Go.Proofs.YtdfnfimajhagfaaGreatDoor
open Go.RowKit Go.Maps Rf
theorem results_cellN {fn : Func} {t : Tmp} {ty : TypeId} {P : Program} (h : fn.results = #[.cell t ty]) (tmps : Array Value) (w : World) {b : Nat} {cs : List Value} {d : TypeDesc} (ht : tmps.getD t undef = .pointer (some ⟨b, 0, none⟩))
    (hc : w.rangeAt b 0 cs) (hu : P.underlying ty = some d) (hd : d.isRow = true) (hi : (P.info? ty).map (·.size) = some cs.length) : (results fn tmps).run P w = .ok (.agg cs.toArray) w := by
  have ht2 : tmps[t]?.getD undef = .pointer (some ⟨b, 0, none⟩) := by simpa using ht
  simp [results, h, ht2, asAddr, run_loadVar_mid w b 0 ty cs d hc hu hd hi]
/-- the marks of a new box -/
theorem box_marks (w : World) {w' : World} (u0 u1 u2 u3 u4 : Value) (t : TypeId) (hb : Below (w.alloc (.cells #[u0, u1, u2, u3, u4] t)).heap.size (w.alloc (.cells #[u0, u1, u2, u3, u4] t)) w') :
    ∀ j, w'.frozen? ⟨w.heap.size, j, none⟩ = false := fun j => (hb.frozen (p := ⟨w.heap.size, j, none⟩) (by simp)).trans (by simp)
/-- what stands in five cells that were stored -/
theorem five_set {w : World} {b : Nat} {u0 u1 u2 u3 u4 : Value} (h0 : w.cell? ⟨b, 0, none⟩ = some u0) (h1 : w.cell? ⟨b, 1, none⟩ = some u1) (h2 : w.cell? ⟨b, 2, none⟩ = some u2) (h3 : w.cell? ⟨b, 3, none⟩ = some u3) (h4 : w.cell? ⟨b, 4, none⟩ = some u4) (v0 v1 v2 v3 v4 : Value) :
    (((((w.setCell ⟨b, 0, none⟩ v0).setCell ⟨b, 1, none⟩ v1).setCell ⟨b, 2, none⟩ v2).setCell ⟨b, 3, none⟩ v3).setCell ⟨b, 4, none⟩ v4).rangeAt b 0 [v0, v1, v2, v3, v4] := by
  have e0 := World.cell?_setCell_same w ⟨b, 0, none⟩ v0 h0
  have o1 : (w.setCell ⟨b, 0, none⟩ v0).cell? ⟨b, 1, none⟩ = some u1 := by rw [World.cell?_setCell_other _ _ _ _ (by simp)]; exact h1
  have e1 := World.cell?_setCell_same _ ⟨b, 1, none⟩ v1 o1
  have o2 : ((w.setCell ⟨b, 0, none⟩ v0).setCell ⟨b, 1, none⟩ v1).cell? ⟨b, 2, none⟩ = some u2 := by rw [World.cell?_setCell_other _ _ _ _ (by simp), World.cell?_setCell_other _ _ _ _ (by simp)]; exact h2
  have e2 := World.cell?_setCell_same _ ⟨b, 2, none⟩ v2 o2
  have o3 : (((w.setCell ⟨b, 0, none⟩ v0).setCell ⟨b, 1, none⟩ v1).setCell ⟨b, 2, none⟩ v2).cell? ⟨b, 3, none⟩ = some u3 := by
    rw [World.cell?_setCell_other _ _ _ _ (by simp), World.cell?_setCell_other _ _ _ _ (by simp), World.cell?_setCell_other _ _ _ _ (by simp)]; exact h3
  have e3 := World.cell?_setCell_same _ ⟨b, 3, none⟩ v3 o3
  have o4 : ((((w.setCell ⟨b, 0, none⟩ v0).setCell ⟨b, 1, none⟩ v1).setCell ⟨b, 2, none⟩ v2).setCell ⟨b, 3, none⟩ v3).cell? ⟨b, 4, none⟩ = some u4 := by
    rw [World.cell?_setCell_other _ _ _ _ (by simp), World.cell?_setCell_other _ _ _ _ (by simp), World.cell?_setCell_other _ _ _ _ (by simp), World.cell?_setCell_other _ _ _ _ (by simp)]; exact h4
  have e4 := World.cell?_setCell_same _ ⟨b, 4, none⟩ v4 o4
  intro j v hv
  rw [Nat.zero_add]
  match j, hv with
  | 0, hv =>
    simp at hv; subst hv
    rw [World.cell?_setCell_other _ _ _ _ (by simp), World.cell?_setCell_other _ _ _ _ (by simp), World.cell?_setCell_other _ _ _ _ (by simp), World.cell?_setCell_other _ _ _ _ (by simp)]; exact e0
  | 1, hv =>
    simp at hv; subst hv
    rw [World.cell?_setCell_other _ _ _ _ (by simp), World.cell?_setCell_other _ _ _ _ (by simp), World.cell?_setCell_other _ _ _ _ (by simp)]; exact e1
  | 2, hv =>
    simp at hv; subst hv
    rw [World.cell?_setCell_other _ _ _ _ (by simp), World.cell?_setCell_other _ _ _ _ (by simp)]; exact e2
  | 3, hv =>
    simp at hv; subst hv
    rw [World.cell?_setCell_other _ _ _ _ (by simp)]; exact e3
  | 4, hv => simp at hv; subst hv; exact e4
set_option maxRecDepth 20000 in
set_option maxHeartbeats 2000000 in
theorem vown_any (m : TM) (w : World) (hok : m.ok w) :
    Calls Tryz.prog 74 #[.agg #[.string m.t.name, .int .i64 m.t.kind, .int .i64 m.t.lang, .string m.t.see, .slice m.A m.n m.c]] w fun e w' => ∃ A' c', e = .returned (.agg #[.string m.t.name, .int .i64 m.t.kind, .int .i64 m.t.lang, .string m.t.see, .slice A' m.n c']) ∧ m.n ≤ c' ∧
      Own w' w.heap.size 9 1 (.slice A' m.n c') m.n (m.t.broader.map Value.string) ∧ Below w.heap.size w w' := by
  have hfew := hok.few
  have hbr := hok.br
  obtain ⟨⟨nm, ki, la, se, br⟩, Am, nn, cm⟩ := m
  dsimp only at hfew hbr ⊢
  go_enter Tryz.func74, Tryz.ntmps74
  go_wp2_with (go_at_call 129; go_loud (refine (clone_any Am nn cm br _ (by omega) ((hbr.below (brefl.al (.cells #[.string nm, .int .i64 ki, .int .i64 la, .string se, .slice Am nn cm] 33))).below (brefl.al _))).mono ?_; rintro e w2 ⟨A2, c2, rfl, hc2, ho2, hb2⟩; have hb12 := (brefl.al (.cells #[.string ⟨#[]⟩, .int .i64 0, .int .i64 0, .string ⟨#[]⟩, .slice none 0 0] 33) : Below (w.alloc (.cells #[.string nm, .int .i64 ki, .int .i64 la, .string se, .slice Am nn cm] 33)).heap.size (w.alloc (.cells #[.string nm, .int .i64 ki, .int .i64 la, .string se, .slice Am nn cm] 33)) _).tr hb2; obtain ⟨p0, p1, p2, p3, p4⟩ := box_five w _ _ _ _ _ _ hb12; have f4 := box_marks w _ _ _ _ _ _ hb12 4; obtain ⟨z0, z1, z2, z3, z4⟩ := box_five _ _ _ _ _ _ _ hb2; have gz := box_marks _ _ _ _ _ _ _ hb2; rw [World.size_alloc] at z0 z1 z2 z3 z4 gz; have g0 := gz 0; have g1 := gz 1; have g2 := gz 2; have g3 := gz 3; have g4 := gz 4))
  have hb02 : Below w.heap.size w w2 := (brefl.al _).tr hb12
  have q : ∀ (j : Nat) (v : Value), w2.cell? ⟨w.heap.size + 1, j, none⟩ = some v → (w2.setCell ⟨w.heap.size, 4, none⟩ (.slice A2 nn c2)).cell? ⟨w.heap.size + 1, j, none⟩ = some v := fun j v h => by rw [World.cell?_setCell_other _ _ _ _ (by simp)]; exact h
  refine bodyPost_ret (results_cellN rfl _ _ rfl (five_set (q 0 _ z0) (q 1 _ z1) (q 2 _ z2) (q 3 _ z3) (q 4 _ z4) _ _ _ _ _) Tryz.underlying33 rfl (by kernel_rfl)) rfl ?_
  have hne : ∀ k, (Value.slice A2 nn c2).ownBlock = some k → w.heap.size + 1 + 1 ≤ k := fun k hk => by
    have := ho2.row k hk
    simpa using this
  have ho0 : Own w2 w.heap.size 9 1 (.slice A2 nn c2) nn (br.map Value.string) := ho2.mono (by simp; omega)
  have hk : ∀ (W : World) (b i : Nat) (v : Value), b < w.heap.size + 1 + 1 → Own W w.heap.size 9 1 (.slice A2 nn c2) nn (br.map Value.string) → Own (W.setCell ⟨b, i, none⟩ v) w.heap.size 9 1 (.slice A2 nn c2) nn (br.map Value.string) := fun W b i v hb h =>
    h.kept (grownBy_set W b i v) (apart_of fun k hkk e => by have := hne k hkk; injection e with e; omega)
  refine ⟨A2, c2, rfl, hc2, hk _ _ _ _ (by omega) (hk _ _ _ _ (by omega) (hk _ _ _ _ (by omega) (hk _ _ _ _ (by omega) (hk _ _ _ _ (by omega) (hk _ _ _ _ (by omega) ho0))))), ?_⟩
  exact (((((hb02.st (p := ⟨w.heap.size, 4, none⟩) (Nat.le_refl _) _).st (p := ⟨w.heap.size + 1, 0, none⟩) (Nat.le_succ _) _).st (p := ⟨w.heap.size + 1, 1, none⟩) (Nat.le_succ _) _).st (p := ⟨w.heap.size + 1, 2, none⟩) (Nat.le_succ _) _).st (p := ⟨w.heap.size + 1, 3, none⟩) (Nat.le_succ _) _).st (p := ⟨w.heap.size + 1, 4, none⟩) (Nat.le_succ _) _
/-- the comparison -/
def cmpI (a b : S) : Int := Lib.compareBytes (byts a) (byts b)
theorem cmpI_lt {a b : S} : cmpI a b < 0 ↔ ltS a b = true := by
  unfold cmpI; rw [cmp_lt, ltS_iff, toList_byts, toList_byts]
theorem compareBytes_self : ∀ x : List UInt8, Lib.compareBytes x x = 0
  | [] => rfl
  | a :: r => by rw [Lib.compareBytes, if_neg (UInt8.lt_irrefl a), if_neg (UInt8.lt_irrefl a), compareBytes_self r]
theorem compareBytes_zero : ∀ x y : List UInt8, Lib.compareBytes x y = 0 → x = y
  | [], [], _ => rfl
  | [], _ :: _, h => by simp [Lib.compareBytes] at h
  | _ :: _, [], h => by simp [Lib.compareBytes] at h
  | a :: r, b :: t, h => by
    rw [Lib.compareBytes] at h
    by_cases h1 : a < b
    · rw [if_pos h1] at h; simp at h
    · rw [if_neg h1] at h
      by_cases h2 : b < a
      · rw [if_pos h2] at h; simp at h
      · rw [if_neg h2] at h
        have heq : a = b := UInt8.le_antisymm (UInt8.not_lt.1 h2) (UInt8.not_lt.1 h1)
        rw [heq, compareBytes_zero r t h]
theorem cmpI_eq {a b : S} : cmpI a b = 0 ↔ a = b := by
  unfold cmpI
  exact ⟨fun h => byts_inj (compareBytes_zero _ _ h), fun h => by rw [h]; exact compareBytes_self _⟩
set_option maxRecDepth 20000 in
set_option maxHeartbeats 1000000 in
theorem add1_any (m : TM) (s : S) (w : World) :
    Calls Tryz.prog 76 #[.agg #[.string m.t.name, .int .i64 m.t.kind, .int .i64 m.t.lang, .string m.t.see, .slice m.A m.n m.c], .string s] w fun e w' => e = .returned (.int .i64 (cmpI m.t.name s)) ∧ Below w.heap.size w w' := by
  go_enter Tryz.func76, Tryz.ntmps76
  go_wp2_with (go_at_call 77; go_loud (refine (Tryz.strings_Compare m.t.name s _).mono ?_; rintro e w2 ⟨rfl, rfl⟩))
  go_ret
  exact ⟨rfl, brefl.al _⟩
/-- the place of a name among sorted terms -/
def place : List Term → S → Nat
  | [], _ => 0
  | t :: l, s => if ltS t.name s = true then place l s + 1 else 0
theorem place_eq : ∀ {l : List Term} {s : S} {k : Nat}, k ≤ l.length → (∀ i t, i < k → l[i]? = some t → ltS t.name s = true) → (∀ t, l[k]? = some t → ltS t.name s = false) → place l s = k
  | [], s, k, hk, _, _ => by simp at hk; subst hk; rfl
  | t :: l, s, 0, _, _, h2 => by rw [place, if_neg (by rw [h2 t rfl]; simp)]
  | t :: l, s, k + 1, hk, h1, h2 => by
    rw [place, if_pos (h1 0 t (by omega) rfl), place_eq (k := k) (by simpa using hk) (fun i u hi hu => h1 (i + 1) u (by omega) (by simpa using hu)) (fun u hu => h2 u (by simpa using hu))]
def isAt (l : List Term) (s : S) : Bool := match l[place l s]? with
  | none => false
  | some t => decide (t.name = s)
theorem isAt_none {l : List Term} {s : S} (h : l[place l s]? = none) : isAt l s = false := by unfold isAt; rw [h]
theorem isAt_some {l : List Term} {s : S} {t : Term} (h : l[place l s]? = some t) : isAt l s = decide (t.name = s) := by unfold isAt; rw [h]
theorem ret_ib {a a' : Int} {b b' : Bool} (h1 : a = a') (h2 : b = b') : Ending.returned (.tuple #[.int .i64 a, .bool b]) = Ending.returned (.tuple #[.int .i64 a', .bool b']) := by rw [h1, h2]
set_option maxRecDepth 20000 in
set_option maxHeartbeats 2000000 in
theorem bsearch_any (A : Option Addr) (n c : Nat) (ms : List TM) (s : S) (w : World) (hm : n ≤ 100000) (hl : Tms w A n ms) (hs : Sorted ((terms ms).map Term.name)) :
    Calls Tryz.prog 75 #[.slice A n c, .string s, .func (.func 76) #[] #[]] w fun e w' =>
      e = .returned (.tuple #[.int .i64 (place (terms ms) s), .bool (isAt (terms ms) s)]) ∧ place (terms ms) s ≤ n ∧ Below w.heap.size w w' := by
  have hlen := terms_length hl
  have hmono : ∀ (i j : Nat) (ti tj : Term), i < j → (terms ms)[i]? = some ti → (terms ms)[j]? = some tj → ltS ti.name tj.name = true := by
    intro i j ti tj hij h1 h2
    obtain ⟨h1a, h1b⟩ := List.getElem?_eq_some_iff.1 h1
    obtain ⟨h2a, h2b⟩ := List.getElem?_eq_some_iff.1 h2
    have := List.pairwise_iff_getElem.1 hs i j (by simpa using h1a) (by simpa using h2a) hij
    simpa [h1b, h2b] using this
  have HM := Lib.hid hmono
  clear hmono hs
  go_enter Tryz.func75, Tryz.ntmps75
  go_wp2
  go_loopw [9, 10] (fun s9 s10 wr => ∃ lo hi : Nat, s9 = .int .i64 lo ∧ s10 = .int .i64 hi ∧ lo ≤ hi ∧ hi ≤ n ∧ Hid ((∀ (i : Nat) (t : Term), i < lo → (terms ms)[i]? = some t → ltS t.name s = true) ∧ (∀ (i : Nat) (t : Term), hi ≤ i → (terms ms)[i]? = some t → ltS t.name s = false)) ∧ Below w.heap.size w wr) (fun s9 s10 _ => (intOf s10).toNat - (intOf s9).toNat)
  case atStart => exact ⟨0, n, rfl, rfl, by omega, by omega, Lib.hid ⟨fun i t h => absurd h (by omega), fun i t h1 h2 => by have := (List.getElem?_eq_some_iff.1 h2).1; omega⟩, brefl⟩
  case round =>
    obtain ⟨lo, hi, rfl, rfl, hlh, hin, hI, hb⟩ := hrel
    by_cases hlt : lo < hi
    · obtain ⟨b, off, m, rfl, hx, hok, hb0, d1, d2, d3, d4, d5⟩ := (hl.below hb).at_ (k := (lo + hi) / 2) (by omega)
      have htk := Lib.hid (terms_get hx)
      clear hx hok
      by_cases hc : cmpI m.t.name s < 0
      · have hI2 := Lib.hid (show (∀ (i : Nat) (t : Term), i < (lo + hi) / 2 + 1 → (terms ms)[i]? = some t → ltS t.name s = true) ∧ (∀ (i : Nat) (t : Term), hi ≤ i → (terms ms)[i]? = some t → ltS t.name s = false) from ⟨fun i t h1 h2 => by
          rcases Nat.lt_or_ge i ((lo + hi) / 2) with h3 | h3
          · exact ltS_trans (HM.out i _ _ _ h3 h2 htk.out) (cmpI_lt.1 hc)
          · obtain rfl : i = (lo + hi) / 2 := by omega
            rw [htk.out] at h2; injection h2 with h2; subst h2
            exact cmpI_lt.1 hc, hI.out.2⟩)
        go_wp2_with (go_at_call 76; go_loud (refine (add1_any m s _).mono ?_; rintro e w2 ⟨rfl, hb2⟩))
        go_roundw
        case rel => exact ⟨(lo + hi) / 2 + 1, hi, by rw [show ((lo : Int) + (hi : Int)) / 2 + 1 = (((lo + hi) / 2 + 1 : Nat) : Int) by omega], rfl, by omega, hin, hI2, hb.tr hb2⟩
        case measure => simp [intOf]; omega
      · have hI2 := Lib.hid (show (∀ (i : Nat) (t : Term), i < lo → (terms ms)[i]? = some t → ltS t.name s = true) ∧ (∀ (i : Nat) (t : Term), (lo + hi) / 2 ≤ i → (terms ms)[i]? = some t → ltS t.name s = false) from ⟨hI.out.1, fun i t h1 h2 => by
          have hms : ltS m.t.name s = false := by rw [← Bool.not_eq_true, ← cmpI_lt]; exact hc
          rcases Nat.lt_or_ge ((lo + hi) / 2) i with h3 | h3
          · have h4 := HM.out _ i _ _ h3 htk.out h2
            rw [← Bool.not_eq_true]
            intro h5
            rw [ltS_trans h4 h5] at hms; cases hms
          · obtain rfl : i = (lo + hi) / 2 := by omega
            rw [htk.out] at h2; injection h2 with h2; subst h2
            exact hms⟩)
        go_wp2_with (go_at_call 76; go_loud (refine (add1_any m s _).mono ?_; rintro e w2 ⟨rfl, hb2⟩))
        go_roundw
        case rel => exact ⟨lo, (lo + hi) / 2, rfl, by rw [show ((lo : Int) + (hi : Int)) / 2 = (((lo + hi) / 2 : Nat) : Int) by omega], by omega, by omega, hI2, hb.tr hb2⟩
        case measure => simp [intOf]; omega
    · obtain rfl : hi = lo := by omega
      have hp := Lib.hid (place_eq (l := terms ms) (s := s) (k := hi) (by omega) (fun i t h1 h2 => hI.out.1 i t h1 h2) (fun t h2 => hI.out.2 hi t (Nat.le_refl _) h2))
      by_cases hn : hi < n
      · obtain ⟨b, off, m, rfl, hx, hok, hb0, d1, d2, d3, d4, d5⟩ := (hl.below hb).at_ hn
        have htk := Lib.hid (terms_get hx)
        have hn' : (hi : Int) < n := by omega
        clear hx hok
        have hat := Lib.hid (show isAt (terms ms) s = decide (m.t.name = s) from isAt_some (by rw [hp.out]; exact htk.out))
        by_cases hc : m.t.name = s
        · have hc0 : (cmpI m.t.name s == 0) = true := by rw [beq_iff_eq]; exact cmpI_eq.2 hc
          have HC := Lib.hid hc
          clear hc
          go_wp2_with (go_at_call 76; go_loud (refine (add1_any m s _).mono ?_; rintro e w2 ⟨rfl, hb2⟩))
          go_ret2
          exact ⟨ret_ib (by rw [hp.out]) (by rw [hat.out]; simp [HC.out]), by rw [hp.out]; exact hin, hb.tr hb2⟩
        · have hc0 : (cmpI m.t.name s == 0) = false := by rw [beq_eq_false_iff_ne]; exact fun e => hc (cmpI_eq.1 e)
          have HC := Lib.hid hc
          clear hc
          go_wp2_with (go_at_call 76; go_loud (refine (add1_any m s _).mono ?_; rintro e w2 ⟨rfl, hb2⟩))
          go_ret2
          exact ⟨ret_ib (by rw [hp.out]) (by rw [hat.out]; simp [HC.out]), by rw [hp.out]; exact hin, hb.tr hb2⟩
      · have hn' : ¬ (hi : Int) < n := by omega
        have hat := Lib.hid (show isAt (terms ms) s = false from isAt_none (by rw [hp.out]; exact List.getElem?_eq_none (by omega)))
        go_wp2
        go_ret2
        exact ⟨ret_ib (by rw [hp.out]) (by rw [hat.out]), by rw [hp.out]; exact hin, hb⟩
end Go.Proofs.YtdfnfimajhagfaaGreatDoor
/- Walk of slices.Insert at terms, one element: turned from the library's own walk of it at strings to elements of five cells, and to a row of the call's own. -/
namespace Go.Proofs.YtdfnfimajhagfaaGreatDoor
open Go.RowKit Go.Maps Rf
/-- cells of a list, stored one behind the other -/
def setsL : List Value → Nat → List Value → List Value
  | xs, _, [] => xs
  | xs, o, v :: vs => setsL (xs.set o v) (o + 1) vs
theorem setsL_eq : ∀ (vs xs : List Value) (o : Nat), o + vs.length ≤ xs.length → setsL xs o vs = xs.take o ++ vs ++ xs.drop (o + vs.length)
  | [], xs, o, _ => by simp [setsL]
  | v :: vs, xs, o, h => by
    simp only [List.length_cons] at h
    rw [setsL, setsL_eq vs (xs.set o v) (o + 1) (by rw [List.length_set]; omega)]
    rw [List.take_add_one, List.getElem?_set_self (by omega), List.take_set_of_le (Nat.le_refl _)]
    rw [List.drop_set_of_lt (by omega)]
    simp only [List.length_cons, List.append_assoc, Option.toList_some, List.cons_append, List.nil_append]
    rw [show o + 1 + vs.length = o + (vs.length + 1) from by omega]
theorem Own.sets {base : Nat} {e : TypeId} {size : Nat} {A : Option Addr} {n c b : Nat} (hA : A = some ⟨b, 0, none⟩) : ∀ (vs xs : List Value) (o : Nat) (w : World), Own w base e size (.slice A n c) n xs → Own (w.setCells b o vs) base e size (.slice A n c) n (setsL xs o vs)
  | [], _, _, _, h => h
  | v :: vs, xs, o, _, h => Own.sets hA vs (xs.set o v) (o + 1) _ (h.set hA v)
theorem grownBy_sets (b : Nat) : ∀ (vs : List Value) (o : Nat) (w : World), w.grownBy (w.setCells b o vs) (some b)
  | [], _, _ => World.grownBy.refl _ _
  | v :: vs, o, w => (grownBy_set w b o v).trans (grownBy_sets b vs (o + 1) _)
/-- more elements, where there is room -/
theorem Own.wider {w : World} {base : Nat} {e : TypeId} {size : Nat} {A : Option Addr} {n c : Nat} {xs : List Value} (h : Own w base e size (.slice A n c) n xs) {k : Nat} (hk : n + k ≤ c) : ∃ ys, ys.length = k * size ∧ Own w base e size (.slice A (n + k) c) (n + k) (xs ++ ys) := by
  obtain ⟨⟨h1, h2⟩, h3⟩ := h
  rcases h2 with ⟨hv, h0⟩ | ⟨g, cap, cur, hv, hb, hh, hn, hm, hcs, ht⟩
  · injection hv with hA hn hc
    subst hA; subst hc
    have hk0 : k = 0 := by omega
    subst hk0
    exact ⟨[], by simp, by rw [List.append_nil]; exact ⟨⟨h1, .inl ⟨by rw [h0], h0⟩⟩, h3⟩⟩
  · injection hv with hA _ hc
    subst hA; subst hc
    have hle : (n + k) * size ≤ c * size := Nat.mul_le_mul_right _ hk
    rw [Nat.add_mul] at hle
    refine ⟨(cur.toList.drop (n * size)).take (k * size), ?_, ⟨?_, .inr ⟨g, c, cur, rfl, hb, hh, hk, hm, hcs, ?_⟩⟩, h3⟩
    · rw [List.length_take, List.length_drop, Array.length_toList, hcs]; omega
    · rw [List.length_append, h1, List.length_take, List.length_drop, Array.length_toList, hcs, Nat.add_mul]; omega
    · rw [Nat.add_mul, List.take_add, ht]
/-- a new block with room behind the elements, as a row of the call's own -/
theorem Own.madeCap (w : World) (xs ys : List Value) (t : TypeId) {base n c size : Nat} (h : base ≤ w.heap.size) (hn : xs.length = n * size) (hc : xs.length + ys.length = c * size) (hnc : n ≤ c) (hm : c ≤ maxLen) :
    Own (w.alloc (.cells (xs ++ ys).toArray t)) base t size (.slice (some ⟨w.heap.size, 0, none⟩) n c) n xs :=
  ⟨⟨hn, .inr ⟨w.heap.size, c, (xs ++ ys).toArray, rfl, h, heap_alloc_new w _, hnc, hm, by simpa using hc, by simp [← hn]⟩⟩, Nat.le_trans h (by simp)⟩
/-- the built-in copy, its run known -/
theorem wp_copy_run (w : World) {o : Oper} {a : Act} {K : Act → World → Prop} {Q : Exit → Act → World → Prop} {P : Program} (d s : Operand) (t t' : TypeId)
    (ho : o.op = .call { callee := .builtin .copy, args := #[d, s], argTypes := #[t, t'] }) (v u : Value) (hd : a.eval d = v) (hs : a.eval s = u) {v' : Value} {w' : World}
    (hr : (Builtin.copy_ #[t, t'] o.type #[v, u]).run P w = .ok v' w') (h : K (a.put o.dst v') w') : o.wp P a w K Q := by
  unfold Oper.wp execOp
  simp only [ho, resolve, invoke, builtin, Sem.run_bind, Sem.run_pure, Result.andThen_ok, List.map_toArray, List.map_cons, List.map_nil, hd, hs, hr]
  exact h
theorem step_copy_run {P : Program} {ops : Array Oper} {o : Oper} {a : Act} {w : World} {K : Act → World → Prop} {Q : Exit → Act → World → Prop} {E : Prop}
    (hg : o.guard = none) (d x : Operand) (dT sT : TypeId) (hop : o.op = Op.call { callee := Callee.builtin Builtin.copy, args := #[d, x], argTypes := #[dT, sT] })
    (v u : Value) (hd : a.eval d = v) (hx : a.eval x = u) {v' : Value} {w' : World} (hr : (Builtin.copy_ #[dT, sT] o.type #[v, u]).run P w = .ok v' w') (hK : K (a.put o.dst v') w') :
    if Region.wanted o (yielded ops a.tmps) = true then Oper.wp P o a w K Q else E := by
  rw [if_pos (by simp [Region.wanted, hg])]
  exact wp_copy_run w d x dT sT hop v u hd hx hr hK
/-- copy at elements of several cells -/
theorem run_copy_many {P : Program} (w : World) (dT sT ty elem : TypeId) (K : Nat) (b o dLen dCap : Nat) (a : Addr) (sLen sCap m : Nat) (cs : List Value)
    (hu : P.underlying dT = some (.slice elem)) (hs : (P.info? elem).map (·.size) = some K) (hm : m = Nat.min sLen dLen) (hn : cs.length = m * K)
    (hsrc : ∀ j v, cs[j]? = some v → w.cell? (a.add j) = some v) (hc : ∀ j, j < cs.length → (w.cell? ⟨b, o + j, none⟩).isSome = true) (hf : ∀ j, j < cs.length → w.frozen? ⟨b, o + j, none⟩ = false) (h1 : ∀ v ∈ cs, v.oneCell' = true) :
    (Builtin.copy_ #[dT, sT] ty #[.slice (some ⟨b, o, none⟩) dLen dCap, .slice (some a) sLen sCap]).run P w = .ok (goInt m) (w.setCells b o cs) := by
  have hl := run_loadCells_list (P := P) w a cs hsrc
  have hst := run_storeCells_cells (P := P) b o cs 0 w (by simpa using hc) (by simpa using hf) h1
  cases hq : P.info? elem with
  | none => simp [hq] at hs
  | some i =>
    have hi : i.size = K := by simpa [hq] using hs
    simp [Builtin.copy_, run_underlying hu, Builtin.lenOf, Builtin.firstCells, sizeOf, typeInfo, hq, hi, ← hm, ← hn, hl, hst]
theorem isSome_sets (b : Nat) (vs : List Value) (o : Nat) (w : World) (h : ∀ j, j < vs.length → (w.cell? ⟨b, o + j, none⟩).isSome = true) (k : Nat) (hk : (w.cell? ⟨b, k, none⟩).isSome = true) : ((w.setCells b o vs).cell? ⟨b, k, none⟩).isSome = true := by
  by_cases hin : o ≤ k ∧ k < o + vs.length
  · have := World.cell?_setCells_in b vs o w h (k - o) (by omega)
    rw [show o + (k - o) = k by omega] at this
    rw [this]; rfl
  · rw [World.cell?_setCells_out b vs o w ⟨b, k, none⟩ (fun _ _ => by show k < o ∨ o + vs.length ≤ k; omega)]
    exact hk
theorem termSize : (Tryz.prog.info? 33).map (·.size) = some 5 := by kernel_rfl
theorem Own.some_ {w : World} {base : Nat} {e : TypeId} {size : Nat} {A : Option Addr} {n c b : Nat} {xs : List Value} (h : Own w base e size (.slice A n c) n xs) (hA : A = some ⟨b, 0, none⟩) {j : Nat} (hj : j < xs.length) : (w.cell? ⟨b, j, none⟩).isSome = true := by
  rw [h.cellAt hA (List.getElem?_eq_getElem hj)]; rfl
/-- the list with one more -/
def insT (ms : List TM) (i : Nat) (m : TM) : List TM := ms.take i ++ m :: ms.drop i
theorem insT_cells (ms : List TM) (i : Nat) (m : TM) : tmsCells (insT ms i m) = (tmsCells ms).take (i * 5) ++ (m.cells ++ (tmsCells ms).drop (i * 5)) := by
  rw [tmsCells_take, tmsCells_drop]; unfold insT tmsCells; rw [List.flatMap_append, List.flatMap_cons]
/-- what a call of Insert is given -/
structure InsA (w : World) (base : Nat) (A : Option Addr) (n c vb : Nat) (ms : List TM) (m : TM) : Prop where
  own : Own w base 33 5 (.slice A n c) n (tmsCells ms)
  cap : n ≤ c
  few : n ≤ 100000
  vlt : vb < w.heap.size
  vs : ∀ j v, m.cells[j]? = some v → w.cell? ⟨vb, j, none⟩ = some v
  vne : ∀ g, (Value.slice A n c).ownBlock = some g → vb ≠ g
  vsh : w.shape? vb = some (33, 5)
  vfr : ∀ j, w.frozen? ⟨vb, j, none⟩ = false
def InsQ (w : World) (base : Nat) (A : Option Addr) (n c i : Nat) (ms : List TM) (m : TM) (e : Ending) (w' : World) : Prop :=
  ∃ A' c', e = .returned (.slice A' (n + 1) c') ∧ n + 1 ≤ c' ∧ Own w' base 33 5 (.slice A' (n + 1) c') (n + 1) (tmsCells (insT ms i m)) ∧ w.grownBy w' (Value.slice A n c).ownBlock ∧
    ((Value.slice A' (n + 1) c').ownBlock = (Value.slice A n c).ownBlock ∨ (Value.slice A' (n + 1) c').ownBlock = some w.heap.size)
set_option maxHeartbeats 4000000 in
set_option maxRecDepth 100000 in
theorem insert_end {w : World} {base : Nat} {A : Option Addr} {n c vb : Nat} {ms : List TM} {m : TM} (h : InsA w base A n c vb ms m) :
    Calls Tryz.prog 78 #[.slice A n c, .int .i64 n, .slice (some ⟨vb, 0, none⟩) 1 1] w (InsQ w base A n c n ms m) := by
  have hnc := h.cap
  have hfew := h.few
  have hms : ms.length = n := by have := h.own.1.1; rw [tmsCells_length] at this; omega
  have hvr : Rds w (some ⟨vb, 0, none⟩) m.cells := fun _ => ⟨vb, 0, rfl, h.vlt, fun j u hu => by rw [Nat.zero_add]; exact h.vs j u hu⟩
  have hcl : m.cells.length = 1 * 5 := rfl
  have fin : ∀ (A8 : Option Addr) (c8 : Nat) (w8 : World), Own w8 base 33 5 (.slice A8 (n + 1) c8) (n + 1) (tmsCells ms ++ m.cells) → Own w8 base 33 5 (.slice A8 (n + 1) c8) (n + 1) (tmsCells (insT ms n m)) := fun A8 c8 w8 o8 => by
    rw [insT_cells, List.take_of_length_le (by rw [tmsCells_length]; omega), List.drop_of_length_le (by rw [tmsCells_length]; omega), List.append_nil]
    exact o8
  by_cases hcn : c = n
  · subst hcn
    go_enter Tryz.func78, Tryz.ntmps78
    go_wp2_with (at_builtin; go_loud (refine wpList_app _ termsT rfl (.tmp 23) (.tmp 24) rfl h.own rfl rfl (news := m.cells) hcl hvr (by intro u hu; simp [TM.cells] at hu; rcases hu with rfl | rfl | rfl | rfl | rfl <;> rfl) ?_ ?_ ?_; (focus omega); (focus omega); intro A8 c8 w8 o8 n8 g8 e8))
    go_ret
    exact ⟨A8, c8, rfl, n8, fin _ _ _ o8, g8, e8⟩
  · go_enter Tryz.func78, Tryz.ntmps78
    go_wp2_with (at_builtin; go_loud (refine wpList_app _ termsT rfl (.tmp 23) (.tmp 24) rfl h.own rfl rfl (news := m.cells) hcl hvr (by intro u hu; simp [TM.cells] at hu; rcases hu with rfl | rfl | rfl | rfl | rfl <;> rfl) ?_ ?_ ?_; (focus omega); (focus omega); intro A8 c8 w8 o8 n8 g8 e8))
    go_ret
    exact ⟨A8, c8, rfl, n8, fin _ _ _ o8, g8, e8⟩
set_option maxHeartbeats 4000000 in
set_option maxRecDepth 100000 in
theorem insert_room {w : World} {base : Nat} {A : Option Addr} {n c vb i : Nat} {ms : List TM} {m : TM} (h : InsA w base A n c vb ms m) (hi : i < n) (hroom : n + 1 ≤ c) :
    Calls Tryz.prog 78 #[.slice A n c, .int .i64 i, .slice (some ⟨vb, 0, none⟩) 1 1] w (InsQ w base A n c i ms m) := by
  have hnc := h.cap
  have hfew := h.few
  have hms : ms.length = n := by have := h.own.1.1; rw [tmsCells_length] at this; omega
  obtain ⟨b, rfl, hbb, hbl⟩ := h.own.addr (by omega)
  have hvb : vb ≠ b := h.vne b rfl
  obtain ⟨ys, hyl, hw⟩ := h.own.wider (k := 1) hroom
  have hcm : c ≤ maxLen := by
    rcases h.own.1.2 with ⟨hv, _⟩ | ⟨g, cap, cur, hv, _, _, _, h4, _⟩
    · cases hv
    · injection hv with _ _ hc; omega
  unfold maxLen at hcm
  have hxl : (tmsCells ms).length = n * 5 := by rw [tmsCells_length, hms]
  have hal : (tmsCells ms ++ ys).length = (n + 1) * 5 := by rw [List.length_append, hxl, hyl]; omega
  have hcap0 : ∃ kB, w.shape? b = some (33, kB) ∧ kB ≠ 0 := by
    rcases h.own.1.2 with ⟨hv, _⟩ | ⟨g, cap, cur, hv, _, hh, h4, _, h5, _⟩
    · cases hv
    · injection hv with hv _ _
      injection hv with hv
      injection hv with hv
      subst hv
      refine ⟨cur.size, by simp [World.shape?, hh], by omega⟩
  obtain ⟨kB, hsb, hkB⟩ := hcap0
  have hov : ∀ lb cb, (callFunc 131 #[.slice (some ⟨vb, 0, none⟩) 1 1, .slice (some ⟨b, (i + 1) * 5, none⟩) lb cb]).run Tryz.prog w = .ok (.value (.bool false)) w := fun lb cb => by
    rw [run_callFunc_extern Tryz.func131 (by kernel_rfl) (by kernel_rfl) (by kernel_rfl) (e := Extern.SlicesOverlaps.overlaps #[28, 28] #[4]) (by kernel_rfl),
      Lib.run_overlaps_apart w 28 4 33 Tryz.underlying28 5 Tryz.sizeOf33 ⟨vb, 0, none⟩ ⟨b, (i + 1) * 5, none⟩ 1 1 lb cb hvb _ _ _ _ h.vsh hsb hkB (h.vfr 0) (h.vfr 5)]
    rfl
  have hcp1 : ∀ ty dc sc, (Builtin.copy_ #[28, 28] ty #[.slice (some ⟨b, (i + 1) * 5, none⟩) (n - i) dc, .slice (some ⟨b, i * 5, none⟩) (n + 1 - i) sc]).run Tryz.prog w.drew = .ok (goInt ((n - i : Nat) : Int)) (w.drew.setCells b ((i + 1) * 5) ((tmsCells ms).drop (i * 5))) := fun ty dc sc =>
    run_copy_many w.drew _ _ ty 33 5 b ((i + 1) * 5) (n - i) dc ⟨b, i * 5, none⟩ (n + 1 - i) sc (n - i) ((tmsCells ms).drop (i * 5)) Tryz.underlying28 termSize (by simp only [Nat.min_def]; split <;> omega) (by rw [List.length_drop, hxl]; omega)
      (fun j v hj => by rw [addr_add]; rw [List.getElem?_drop] at hj; exact h.own.cellAt rfl hj)
      (fun j hj => by rw [List.length_drop, hxl] at hj; exact hw.some_ rfl (by rw [hal]; omega)) (fun j _ => h.own.frozenAt rfl _) (fun v hv => tms_one ms v (List.mem_of_mem_drop hv))
  obtain ⟨W1, hW1⟩ : ∃ W1, W1 = w.drew.setCells b ((i + 1) * 5) ((tmsCells ms).drop (i * 5)) := ⟨_, rfl⟩
  have o1 : Own W1 base 33 5 (.slice (some ⟨b, 0, none⟩) (n + 1) c) (n + 1) (setsL (tmsCells ms ++ ys) ((i + 1) * 5) ((tmsCells ms).drop (i * 5))) := by
    rw [hW1]; exact Own.sets rfl _ _ _ _ hw.drew
  have e1 : setsL (tmsCells ms ++ ys) ((i + 1) * 5) ((tmsCells ms).drop (i * 5)) = (tmsCells ms ++ ys).take ((i + 1) * 5) ++ (tmsCells ms).drop (i * 5) := by
    have hd : (tmsCells ms ++ ys).drop ((i + 1) * 5 + ((tmsCells ms).drop (i * 5)).length) = [] := List.drop_of_length_le (by rw [hal, List.length_drop, hxl]; omega)
    rw [setsL_eq _ _ _ (by rw [hal, List.length_drop, hxl]; omega), hd, List.append_nil]
  rw [e1] at o1
  have hl1 : ((tmsCells ms ++ ys).take ((i + 1) * 5) ++ (tmsCells ms).drop (i * 5)).length = (n + 1) * 5 := by rw [List.length_append, List.length_take, hal, List.length_drop, hxl]; omega
  have hcp2 : ∀ (W : World), (∀ x, W.cell? x = W1.cell? x) → (∀ x, W.frozen? x = W1.frozen? x) → ∀ ty dc, (Builtin.copy_ #[28, 28] ty #[.slice (some ⟨b, i * 5, none⟩) (n + 1 - i) dc, .slice (some ⟨vb, 0, none⟩) 1 1]).run Tryz.prog W = .ok (goInt 1) (W.setCells b (i * 5) m.cells) := fun W hWc hWf ty dc =>
    run_copy_many W _ _ ty 33 5 b (i * 5) (n + 1 - i) dc ⟨vb, 0, none⟩ 1 1 1 m.cells Tryz.underlying28 termSize (by simp only [Nat.min_def]; split <;> omega) rfl
      (fun j v hj => by
        rw [addr_add, hWc, hW1, World.cell?_setCells_out b _ _ _ _ (fun h _ => absurd h hvb), Nat.zero_add]
        exact h.vs j v hj)
      (fun j hj => by rw [hWc]; exact o1.some_ rfl (by rw [hl1]; change j < 5 at hj; omega)) (fun j hj => by rw [hWf]; exact o1.frozenAt rfl _) (by intro u hu; simp [TM.cells] at hu; rcases hu with rfl | rfl | rfl | rfl | rfl <;> rfl)
  have hfin : Own (W1.setCells b (i * 5) m.cells) base 33 5 (.slice (some ⟨b, 0, none⟩) (n + 1) c) (n + 1) (tmsCells (insT ms i m)) := by
    have o2 := Own.sets rfl m.cells _ (i * 5) _ o1
    rw [setsL_eq _ _ _ (by rw [hl1]; show i * 5 + 5 ≤ _; omega)] at o2
    rw [insT_cells]
    have t1 : ((tmsCells ms ++ ys).take ((i + 1) * 5) ++ (tmsCells ms).drop (i * 5)).take (i * 5) = (tmsCells ms).take (i * 5) := by
      rw [List.take_append_of_le_length (by rw [List.length_take, hal]; omega), List.take_take, Nat.min_eq_left (by omega), List.take_append_of_le_length (by rw [hxl]; omega)]
    have t2 : ((tmsCells ms ++ ys).take ((i + 1) * 5) ++ (tmsCells ms).drop (i * 5)).drop (i * 5 + m.cells.length) = (tmsCells ms).drop (i * 5) := by
      rw [show i * 5 + m.cells.length = ((tmsCells ms ++ ys).take ((i + 1) * 5)).length from by rw [List.length_take, hal]; show i * 5 + 5 = _; omega, List.drop_left]
    rw [t1, t2, List.append_assoc] at o2
    exact o2
  have hgr : w.grownBy (W1.setCells b (i * 5) m.cells) (some b) := by
    rw [hW1]
    exact ((show w.grownBy w.drew (some b) from grown_of (brefl.drn 1) _).trans (grownBy_sets b _ _ _)).trans (grownBy_sets b _ _ _)
  have HFIN := Lib.hid hfin
  have HGR := Lib.hid hgr
  subst hW1
  clear hfin hgr o1 e1 hl1 hw hyl hal hbb hvb hsb hkB hxl hms
  have hz2 : ¬ ((i : Int) = (n : Int)) := by omega
  have hz3 : ((i : Int) == (n : Int)) = false := by rw [beq_eq_false_iff_ne]; omega
  have hcr : ¬ (c : Int) < (n : Int) + 1 := by omega
  have hw1 : IntKind.i64.wrap ((i : Int) + 1) = (i : Int) + 1 := by rw [IntKind.wrap_i64]; omega
  have hb1 : (0 : Int) ≤ (i : Int) + 1 := by omega
  have htn : ((i : Int) + 1).toNat = i + 1 := by omega
  have hb2 : ¬ (c = i + 1) := by omega
  have hb3 : (i : Int) ≤ (n : Int) + 1 := by omega
  have hb4 : ¬ (c = i) := by omega
  have hin : i ≤ n := by omega
  go_enter Tryz.func78, Tryz.ntmps78
  go_wp2_with (simp only [hov])
  go_region_law (refine step_copy_run rfl _ _ 28 28 rfl _ _ (by simp [Act.eval, Act.put]) (by simp [Act.eval, Act.put]) (hcp1 _ _ _) ?_)
  go_wp2_with (at_builtin; go_loud (refine wpList_copy_run _ rfl _ _ 28 28 rfl _ _ rfl rfl (hcp2 _ (fun _ => rfl) (fun _ => rfl) _ _) ?_))
  go_ret
  exact ⟨_, c, rfl, hroom, HFIN.out, HGR.out, .inl rfl⟩
set_option maxHeartbeats 4000000 in
set_option maxRecDepth 100000 in
theorem insert_grow {w : World} {base : Nat} {A : Option Addr} {n c vb i : Nat} {ms : List TM} {m : TM} (h : InsA w base A n c vb ms m) (hi : i < n) (hroom : c < n + 1) :
    Calls Tryz.prog 78 #[.slice A n c, .int .i64 i, .slice (some ⟨vb, 0, none⟩) 1 1] w (InsQ w base A n c i ms m) := by
  have hnc := h.cap
  have hfew := h.few
  have hms : ms.length = n := by have := h.own.1.1; rw [tmsCells_length] at this; omega
  obtain ⟨b, rfl, hbb, hbl⟩ := h.own.addr (by omega)
  have hvw := h.vlt
  have hxl : (tmsCells ms).length = n * 5 := by rw [tmsCells_length, hms]
  obtain ⟨i0, z, ht, hi0, hz0, hzs, hzb, hzc, hsz⟩ := termsT
  have hkk : (n : Int) + 1 - (i : Int) = ((n + 1 - i : Nat) : Int) := by omega
  have hik : i + (n + 1 - i) = n + 1 := by omega
  have hold : (Builtin.firstCells i0.size i (.slice (some ⟨b, 0, none⟩) i c)).run Tryz.prog w.drew = .ok ((tmsCells ms).take (i * 5)).toArray w.drew := by
    rw [hzs]
    exact run_firstCells_some w.drew 5 i ⟨b, 0, none⟩ i c ((tmsCells ms).take (i * 5)) (by rw [List.length_take, hxl]; omega) (fun j v hj => by
      rw [addr_add, Nat.zero_add]
      rw [List.getElem?_take] at hj
      split at hj
      · exact h.own.cellAt rfl hj
      · cases hj)
  obtain ⟨G, hG⟩ : ∃ G, G = grownCap w (n + 1) c 33 := ⟨_, rfl⟩
  have hGn : n + 1 ≤ G := by rw [hG]; exact grownCap_ge w _ _ _
  have hGm : G ≤ maxLen := by rw [hG]; exact grownCap_le_maxLen w (n + 1) c 33 (by unfold maxLen; omega)
  have HG := Lib.hid hG
  clear hG
  obtain ⟨xs, hxs⟩ : ∃ xs, xs = (tmsCells ms).take (i * 5) ++ (Builtin.zeroCells z.cells (n + 1 - i)).toList := ⟨_, rfl⟩
  obtain ⟨ys, hys⟩ : ∃ ys, ys = (Builtin.zeroCells z.cells (G - (n + 1))).toList := ⟨_, rfl⟩
  have hxsl : xs.length = (n + 1) * 5 := by rw [hxs, List.length_append, List.length_take, hxl, Array.length_toList, size_zeroCells, hzc]; omega
  have hysl : ys.length = (G - (n + 1)) * 5 := by rw [hys, Array.length_toList, size_zeroCells, hzc]
  obtain ⟨ROW, hROW⟩ : ∃ ROW : Array Value, ROW = (xs ++ ys).toArray := ⟨_, rfl⟩
  have hrz : ∀ ty, (Builtin.append_ #[28, 3] ty #[.slice (some ⟨b, 0, none⟩) i c, .int .i64 ((n : Int) + 1 - (i : Int))]).run Tryz.prog w = .ok (.slice (some ⟨w.heap.size, 0, none⟩) (n + 1) G) (w.drew.alloc (.cells ROW 33)) := fun ty => by
    have hh := Lib.run_append_grow_zeros w 28 3 ty 33 i0 _ .i64 .i64 ht Tryz.underlying3 hi0 hz0 (some ⟨b, 0, none⟩) i c ((tmsCells ms).take (i * 5)) hold (n + 1 - i) (by omega) (by rw [hzs]; omega) (by omega) (by omega) (by rw [hzb]; omega) (by rw [hzb, hik]; exact growslice_fits hroom (by omega))
    rw [hik, ← HG.out] at hh
    rw [hkk, hh]
    congr 4
    rw [hROW, hxs, hys]
    apply Array.ext'
    simp
  have oA : Own (w.alloc (.cells ROW 33)) base 33 5 (.slice (some ⟨w.heap.size, 0, none⟩) (n + 1) G) (n + 1) xs := by
    rw [hROW]
    exact Own.madeCap w xs ys 33 h.own.2 hxsl (by rw [hxsl, hysl]; omega) hGn hGm
  obtain ⟨W1, hW1⟩ : ∃ W1, W1 = w.drew.alloc (.cells ROW 33) := ⟨_, rfl⟩
  have o1 : Own W1 base 33 5 (.slice (some ⟨w.heap.size, 0, none⟩) (n + 1) G) (n + 1) xs := by rw [hW1]; exact oA
  have hOb : ∀ j v, w.cell? ⟨b, j, none⟩ = some v → W1.cell? ⟨b, j, none⟩ = some v := fun j v h => by rw [hW1, World.cell?_alloc_past (w := w.drew) _ b j hbl]; exact h
  have hOv : ∀ j v, w.cell? ⟨vb, j, none⟩ = some v → W1.cell? ⟨vb, j, none⟩ = some v := fun j v h => by rw [hW1, World.cell?_alloc_past (w := w.drew) _ vb j hvw]; exact h
  have hcpA : ∀ (W : World), (∀ x, W.cell? x = W1.cell? x) → (∀ x, W.frozen? x = W1.frozen? x) → ∀ ty dc, (Builtin.copy_ #[28, 28] ty #[.slice (some ⟨w.heap.size, i * 5, none⟩) (n + 1 - i) dc, .slice (some ⟨vb, 0, none⟩) 1 1]).run Tryz.prog W = .ok (goInt 1) (W.setCells w.heap.size (i * 5) m.cells) := fun W hWc hWf ty dc =>
    run_copy_many W _ _ ty 33 5 w.heap.size (i * 5) (n + 1 - i) dc ⟨vb, 0, none⟩ 1 1 1 m.cells Tryz.underlying28 termSize (by simp only [Nat.min_def]; split <;> omega) rfl
      (fun j v hj => by rw [addr_add, hWc, Nat.zero_add]; exact hOv _ v (h.vs j v hj))
      (fun j hj => by rw [hWc]; exact o1.some_ rfl (by rw [hxsl]; change j < 5 at hj; omega)) (fun j _ => by rw [hWf]; exact o1.frozenAt rfl _) (by intro u hu; simp [TM.cells] at hu; rcases hu with rfl | rfl | rfl | rfl | rfl <;> rfl)
  have hbN : b ≠ w.heap.size := by omega
  have hml5 : m.cells.length = 5 := rfl
  have hcpB : ∀ (W : World), (∀ x, W.cell? x = (W1.setCells w.heap.size (i * 5) m.cells).cell? x) → (∀ x, W.frozen? x = (W1.setCells w.heap.size (i * 5) m.cells).frozen? x) → ∀ ty dc sc, (Builtin.copy_ #[28, 28] ty #[.slice (some ⟨w.heap.size, (i + 1) * 5, none⟩) (n - i) dc, .slice (some ⟨b, i * 5, none⟩) (n - i) sc]).run Tryz.prog W = .ok (goInt ((n - i : Nat) : Int)) (W.setCells w.heap.size ((i + 1) * 5) ((tmsCells ms).drop (i * 5))) := fun W hWc hWf ty dc sc =>
    run_copy_many W _ _ ty 33 5 w.heap.size ((i + 1) * 5) (n - i) dc ⟨b, i * 5, none⟩ (n - i) sc (n - i) ((tmsCells ms).drop (i * 5)) Tryz.underlying28 termSize (by simp only [Nat.min_def]; split <;> omega) (by rw [List.length_drop, hxl]; omega)
      (fun j v hj => by
        rw [addr_add, hWc, World.cell?_setCells_out _ _ _ _ _ (fun h _ => absurd h hbN)]
        rw [List.getElem?_drop] at hj
        exact hOb _ v (h.own.cellAt rfl hj))
      (fun j hj => by
        rw [List.length_drop, hxl] at hj
        rw [hWc]
        exact isSome_sets _ _ _ _ (fun t ht => o1.some_ rfl (by rw [hxsl]; rw [hml5] at ht; omega)) _ (o1.some_ rfl (by rw [hxsl]; omega)))
      (fun j _ => by rw [hWf, World.frozen?_setCells]; exact o1.frozenAt rfl _) (fun v hv => tms_one ms v (List.mem_of_mem_drop hv))
  have hfin : Own (((w.alloc (.cells ROW 33)).drew.setCells w.heap.size (i * 5) m.cells).drew.setCells w.heap.size ((i + 1) * 5) ((tmsCells ms).drop (i * 5))) base 33 5 (.slice (some ⟨w.heap.size, 0, none⟩) (n + 1) G) (n + 1) (tmsCells (insT ms i m)) := by
    have o2 := Own.sets rfl ((tmsCells ms).drop (i * 5)) _ ((i + 1) * 5) _ (Own.sets rfl m.cells _ (i * 5) _ oA.drew).drew
    have l1 : (setsL xs (i * 5) m.cells).length = (n + 1) * 5 := by rw [setsL_eq _ _ _ (by rw [hxsl, hml5]; omega)]; simp only [List.length_append, List.length_take, List.length_drop, hxsl, hml5]; omega
    have hd : (setsL xs (i * 5) m.cells).drop ((i + 1) * 5 + ((tmsCells ms).drop (i * 5)).length) = [] := List.drop_of_length_le (by rw [l1, List.length_drop, hxl]; omega)
    rw [setsL_eq _ _ _ (by rw [l1, List.length_drop, hxl]; omega), hd, List.append_nil] at o2
    have t1 : (setsL xs (i * 5) m.cells).take ((i + 1) * 5) = (tmsCells ms).take (i * 5) ++ m.cells := by
      rw [setsL_eq _ _ _ (by rw [hxsl, hml5]; omega)]
      have hx1 : xs.take (i * 5) = (tmsCells ms).take (i * 5) := by
        rw [hxs, List.take_append_of_le_length (by rw [List.length_take, hxl]; omega), List.take_take, Nat.min_self]
      rw [hx1]
      rw [List.take_append_of_le_length (by rw [List.length_append, List.length_take, hxl, hml5]; omega)]
      exact List.take_of_length_le (by rw [List.length_append, List.length_take, hxl, hml5]; omega)
    rw [t1, List.append_assoc] at o2
    rw [insT_cells]
    exact o2
  have hgr : Below w.heap.size w (((w.alloc (.cells ROW 33)).drew.setCells w.heap.size (i * 5) m.cells).drew.setCells w.heap.size ((i + 1) * 5) ((tmsCells ms).drop (i * 5))) :=
    below_cells (Nat.le_refl _) _ _ _ ((below_cells (Nat.le_refl _) _ _ _ ((brefl.al _).drn 1)).drn 1)
  have HFIN := Lib.hid hfin
  have HGR := Lib.hid hgr
  subst hW1
  have hDA : (w.alloc (.cells ROW 33)).drew = w.drew.alloc (.cells ROW 33) := rfl
  have hdc : ∀ (W : World) x, W.drew.cell? x = W.cell? x := fun _ _ => rfl
  have hdf : ∀ (W : World) x, W.drew.frozen? x = W.frozen? x := fun _ _ => rfl
  have hE1 : ∀ x, ((w.alloc (.cells ROW 33)).drew).cell? x = (w.drew.alloc (.cells ROW 33)).cell? x := fun x => by rw [hDA]
  have hE2 : ∀ x, ((w.alloc (.cells ROW 33)).drew).frozen? x = (w.drew.alloc (.cells ROW 33)).frozen? x := fun x => by rw [hDA]
  have hF1 : ∀ x, (((w.alloc (.cells ROW 33)).drew.setCells w.heap.size (i * 5) m.cells).drew).cell? x = ((w.drew.alloc (.cells ROW 33)).setCells w.heap.size (i * 5) m.cells).cell? x := fun x => by rw [hdc, hDA]
  have hF2 : ∀ x, (((w.alloc (.cells ROW 33)).drew.setCells w.heap.size (i * 5) m.cells).drew).frozen? x = ((w.drew.alloc (.cells ROW 33)).setCells w.heap.size (i * 5) m.cells).frozen? x := fun x => by rw [hdf, hDA]
  clear hDA hdc hdf
  have hG63 : G ≤ 9223372036854775807 := by unfold maxLen at hGm; omega
  clear hfin hgr o1 oA hOb hOv hold hkk hik hROW hxs hys hxsl hysl hi0 hz0 hzs hzb hzc hsz ht hGm hbb hvw hxl hms hml5
  have hz2 : ¬ ((i : Int) = (n : Int)) := by omega
  have hz3 : ((i : Int) == (n : Int)) = false := by rw [beq_eq_false_iff_ne]; omega
  have hcr : (c : Int) < (n : Int) + 1 := by omega
  have hw1 : IntKind.i64.wrap ((i : Int) + 1) = (i : Int) + 1 := by rw [IntKind.wrap_i64]; omega
  have hb1 : (0 : Int) ≤ (i : Int) + 1 := by omega
  have htn : ((i : Int) + 1).toNat = i + 1 := by omega
  have hGi : ¬ (G = i) := by omega
  have hGim : ¬ (G = i + 1) := by omega
  have hci : ¬ (c = i) := by omega
  have hb3 : (i : Int) ≤ (n : Int) := by omega
  have hb4 : (i : Int) ≤ (n : Int) + 1 := by omega
  have hin : i ≤ n := by omega
  go_enter Tryz.func78, Tryz.ntmps78
  go_wp2_with (first
    | (at_builtin; go_loud (refine Lib.wpList_append_run _ rfl _ _ _ _ rfl _ _ rfl rfl _ _ (hrz _) ?_))
    | (at_builtin; go_loud (refine wpList_copy_run _ rfl _ _ 28 28 rfl _ _ rfl rfl (hcpA _ hE1 hE2 _ _) ?_)))
  go_region_law (refine step_copy_run rfl _ _ 28 28 rfl (.slice (some ⟨w.heap.size, (i + 1) * 5, none⟩) (n - i) (G - (i + 1))) (.slice (some ⟨b, i * 5, none⟩) (n - i) (c - i)) (by simp [Act.eval, Act.put]) (by simp [Act.eval, Act.put]) (hcpB _ hF1 hF2 3 (G - (i + 1)) (c - i)) ?_)
  go_wp2
  go_ret
  exact ⟨_, G, rfl, hGn, HFIN.out, grown_of HGR.out _, .inr rfl⟩
theorem insert_any {w : World} {base : Nat} {A : Option Addr} {n c vb i : Nat} {ms : List TM} {m : TM} (h : InsA w base A n c vb ms m) (hi : i ≤ n) :
    Calls Tryz.prog 78 #[.slice A n c, .int .i64 i, .slice (some ⟨vb, 0, none⟩) 1 1] w (InsQ w base A n c i ms m) := by
  rcases Nat.lt_or_ge i n with h1 | h1
  · rcases Nat.lt_or_ge c (n + 1) with h2 | h2
    · exact insert_grow h h1 h2
    · exact insert_room h h1 h2
  · obtain rfl : i = n := by omega
    exact insert_end h
end Go.Proofs.YtdfnfimajhagfaaGreatDoor
/- Walk of package vocabulary: Add. -/
namespace Rf
/-- the terms of a vocabulary with one more, in its place -/
def addL (l : List Term) (t : Term) : List Term :=
  if Go.Proofs.YtdfnfimajhagfaaGreatDoor.isAt l t.name = true then l.set (Go.Proofs.YtdfnfimajhagfaaGreatDoor.place l t.name) t else l.take (Go.Proofs.YtdfnfimajhagfaaGreatDoor.place l t.name) ++ t :: l.drop (Go.Proofs.YtdfnfimajhagfaaGreatDoor.place l t.name)
noncomputable def addV (l : List Term) (t : Term) : List Term × Int :=
  if (vvalid l).2 = 0 then (if (vvalid (addL l t)).2 = 0 then (addL l t, 0) else ([], (vvalid (addL l t)).2)) else ([], (vvalid l).2)
end Rf
namespace Go.Proofs.YtdfnfimajhagfaaGreatDoor
open Go.RowKit Go.Maps Rf
theorem terms_add {ms : List TM} {m : TM} : terms (ms ++ [m]) = terms ms ++ [m.t] := by unfold terms; simp
theorem terms_set {ms : List TM} {m : TM} {k : Nat} : terms (ms.set k m) = (terms ms).set k m.t := by unfold terms; rw [List.map_set]
theorem terms_ins {ms : List TM} {m : TM} {k : Nat} : terms (insT ms k m) = (terms ms).take k ++ m.t :: (terms ms).drop k := by unfold insT terms; simp [List.map_take, List.map_drop]
def AddQ (w : World) (n : Nat) (l : List Term) (t : Term) (e : Ending) (w' : World) : Prop :=
  ∃ A' k c' ms', e = .returned (.tuple #[.slice A' k c', .int .i64 (addV l t).2]) ∧ k ≤ c' ∧ k ≤ n + 1 ∧ Tms w' A' k ms' ∧ terms ms' = (addV l t).1 ∧ (∀ x ∈ ms', x.small) ∧ Below w.heap.size w w'
theorem SpE.tok {base F : Nat} {w : World} {o : Option Nat} {m : TM} (e : SpE base F w o m) (hF : F ≤ 100) : m.ok w := by
  have hmx : (1000 : Nat) ≤ maxLen := by decide
  exact ⟨Nat.le_trans e.sm.nm hmx, Nat.le_trans e.sm.se hmx, e.ki, e.la, e.cap, Nat.le_trans e.few hF, Strs.own e.own rfl (fun x hx => Nat.le_trans (e.sm.br x hx) hmx)⟩
theorem InsA.new {w : World} {base : Nat} {A : Option Addr} {n c : Nat} {ms : List TM} {m : TM} (ho : Own w base 33 5 (.slice A n c) n (tmsCells ms)) (hc : n ≤ c) (hn : n ≤ 100000) :
    InsA (w.alloc (.cells #[.string m.t.name, .int .i64 m.t.kind, .int .i64 m.t.lang, .string m.t.see, .slice m.A m.n m.c] 33)) base A n c w.heap.size ms m where
  own := ho.alloc _
  cap := hc
  few := hn
  vlt := by simp
  vs := fun j v hv => by
    rw [cell_of_row _ _ j #[.string m.t.name, .int .i64 m.t.kind, .int .i64 m.t.lang, .string m.t.see, .slice m.A m.n m.c] 33 (0, 0) (heap_alloc_new w _)]
    rw [← Array.getElem?_toList]; exact hv
  vne := fun g hg e => by have := ho.lt g hg; omega
  vsh := by unfold World.shape?; rw [heap_alloc_new]; rfl
  vfr := fun j => by simp
theorem isAt_lt {l : List Term} {s : S} (h : isAt l s = true) : place l s < l.length := by
  rcases Nat.lt_or_ge (place l s) l.length with h1 | h1
  · exact h1
  · rw [isAt_none (List.getElem?_eq_none h1)] at h; cases h
set_option maxRecDepth 20000 in
set_option maxHeartbeats 8000000 in
theorem add_any (A : Option Addr) (n c : Nat) (ms : List TM) (mt : TM) (w : World) (hm : n ≤ 100000) (hr : Rdy w) (hl : Tms w A n ms) (hsm : ∀ m ∈ ms, m.small) (hok : mt.ok w) (hst : mt.small) :
    Calls Tryz.prog 17 #[.slice A n c, .agg #[.string mt.t.name, .int .i64 mt.t.kind, .int .i64 mt.t.lang, .string mt.t.see, .slice mt.A mt.n mt.c]] w (AddQ w n (terms ms) mt.t) := by
  have hlen := terms_length hl
  obtain ⟨wb, hwb⟩ : ∃ wb, w.alloc (.cells #[.string mt.t.name, .int .i64 mt.t.kind, .int .i64 mt.t.lang, .string mt.t.see, .slice mt.A mt.n mt.c] 33) = wb := ⟨_, rfl⟩
  have hb0 : Below w.heap.size w wb := by rw [← hwb]; exact brefl.al _
  have hbox : ∀ wz, Below wb.heap.size wb wz → wz.cell? ⟨w.heap.size, 0, none⟩ = some (.string mt.t.name) ∧ wz.cell? ⟨w.heap.size, 1, none⟩ = some (.int .i64 mt.t.kind) ∧ wz.cell? ⟨w.heap.size, 2, none⟩ = some (.int .i64 mt.t.lang) ∧ wz.cell? ⟨w.heap.size, 3, none⟩ = some (.string mt.t.see) ∧ wz.cell? ⟨w.heap.size, 4, none⟩ = some (.slice mt.A mt.n mt.c) := fun wz hz => by
    rw [← hwb] at hz
    exact box_five w _ _ _ _ _ _ hz
  have HBX := Lib.hid hbox
  have hv := vvalid_any A n c ms wb hm (hr.below hb0) (hl.below hb0)
  clear hbox
  by_cases h0 : (vvalid (terms ms)).2 = 0
  · have hv0 := Lib.hid h0
    have hn128 : n ≤ 128 := by
      rcases Nat.lt_or_ge 128 n with h | h
      · unfold vvalid at h0
        rw [if_pos (by rw [hlen]; exact h)] at h0; cases h0
      · exact h
    have hsrt := Lib.hid (vok (show (vvalid (terms ms)).2 = eOK from h0)).sorted
    rw [h0] at hv
    clear h0
    go_enter Tryz.func17, Tryz.ntmps17
    go_wp2_with (go_at_call 12; go_loud (refine hv.mono ?_; rintro e w2 ⟨rfl, hb2⟩))
    clear hwb
    have hbw2 := hb0.tr hb2
    go_loopw [8, 25] (fun o ii wr => ∃ (j m1 c1 : Nat) (A1 : Option Addr) (ms1 : List TM), j ≤ n ∧ ii = .int .i64 j ∧ o = .slice A1 m1 c1 ∧ m1 ≤ c1 ∧ m1 ≤ j ∧ Hid (m1 = j) ∧ SpI w2.heap.size 100 wr A1 m1 c1 ms1 ∧ Pw ms1 ∧ Hid (terms ms1 = (terms ms).take j) ∧ Below w2.heap.size w2 wr) (fun _ ii _ => n - (intOf ii).toNat)
    case atStart => exact ⟨0, 0, 0, none, [], by omega, rfl, rfl, by omega, by omega, Lib.hid rfl, ⟨Own.nil _ _ _ (Nat.le_refl _), fun m hm => by cases hm⟩, List.Pairwise.nil, Lib.hid rfl, brefl⟩
    case round =>
      obtain ⟨j, m1, c1, A1, ms1, hj, rfl, rfl, hc1, hmj, hm1, hI, hP, hT, hb⟩ := hrel
      have hbr := hbw2.tr hb
      by_cases hlt : j < n
      · obtain ⟨b, off, m, rfl, hx, hmk, hbb, d1, d2, d3, d4, d5⟩ := (hl.below hbr).at_ hlt
        have hlt' : (j : Int) < n := by omega
        have hsmm := hsm m (List.mem_of_getElem? hx)
        have htk := terms_get hx
        have HT2 := Lib.hid (show terms ms1 ++ [m.t] = (terms ms).take (j + 1) from by rw [hT.out, Rf.take_snoc htk])
        clear hx htk
        have hob := hmk.below (brefl.al (.cells #[.string m.t.name, .int .i64 m.t.kind, .int .i64 m.t.lang, .string m.t.see, .slice m.A m.n m.c] 33))
        go_wp2_with (first
          | (go_at_call 74; go_loud (refine (vown_any m _ hob).mono ?_; rintro e w3 ⟨A5, c5, rfl, hc5, ho5, hb3⟩; have hb13 := (brefl.al (.cells #[.string m.t.name, .int .i64 m.t.kind, .int .i64 m.t.lang, .string m.t.see, .slice m.A m.n m.c] 33) : Below wr.heap.size wr _).tr hb3; have hI3 := hI.below hb13))
          | (at_builtin; go_loud (refine wpList_app _ termsT rfl (.tmp 29) (.tmp 32) rfl (hI3.own.alloc _) rfl rfl (news := [.string m.t.name, .int .i64 m.t.kind, .int .i64 m.t.lang, .string m.t.see, .slice A5 m.n c5]) rfl (Rds.new5 w3 rfl _ _ _ _ _ 33) (by simp [Value.oneCell']) ?_ ?_ ?_; (focus omega); (focus omega); intro A8 c8 w8 o8 n8 g8 e8)))
        have h2 := hb.size
        have hE0 : SpE w2.heap.size 100 w3 (Value.slice A1 m1 c1).ownBlock ⟨m.t, A5, m.n, c5⟩ := ⟨⟨hsmm.nm, hsmm.se, hsmm.br⟩, hmk.ki, hmk.la, hmk.few, hc5, ho5.mono (by rw [World.size_alloc]; omega), fun q hq e => by
          have h3 := ho5.row q hq
          have h4 := hI.own.lt q e
          rw [World.size_alloc] at h3; omega⟩
        obtain ⟨hI8, hP8⟩ := hI3.push hP hE0 (fun x hx q hq e => by
          have h3 := ho5.row q (show (Value.slice A5 m.n c5).ownBlock = some q from e)
          have h4 := (hI.els x hx).own.lt q hq
          rw [World.size_alloc] at h3; omega) o8 g8 e8
        have hb8 := ((hb.tr hb13).al (.cells #[.string m.t.name, .int .i64 m.t.kind, .int .i64 m.t.lang, .string m.t.see, .slice A5 m.n c5] 33)).gr g8 hI.own.row
        go_roundw
        case rel => exact ⟨j + 1, m1 + 1, c8, A8, _, by omega, by go_num, rfl, n8, by omega, Lib.hid (by rw [hm1.out]), hI8, hP8, Lib.hid (by rw [terms_add]; exact HT2.out), hb8⟩
        case measure => simp [intOf]; omega
      · have hlt' : ¬ (j : Int) < n := by omega
        have hjn : m1 = n := by have := hm1.out; omega
        clear hm1
        subst hjn
        have HT1 := Lib.hid (show terms ms1 = terms ms from by rw [hT.out, List.take_of_length_le (by omega)])
        obtain ⟨hTm, _, _⟩ := hI.tms (Nat.le_refl _)
        obtain ⟨q0, q1, q2, q3, q4⟩ := HBX.out wr (hb2.tr hb)
        have hbs := bsearch_any A1 m1 c1 ms1 mt.t.name wr hm hTm (by rw [HT1.out]; exact hsrt.out)
        rw [HT1.out] at hbs
        have hml1 : ms1.length = m1 := hTm.1
        obtain ⟨p, hp⟩ : ∃ p, place (terms ms) mt.t.name = p := ⟨_, rfl⟩
        have HP := Lib.hid hp
        rw [hp] at hbs
        cases hat : isAt (terms ms) mt.t.name
        · have HA := Lib.hid (show addL (terms ms) mt.t = (terms ms).take p ++ mt.t :: (terms ms).drop p from by unfold addL; rw [if_neg (by rw [hat]; simp), hp])
          rw [hat] at hbs
          clear hp hat
          go_wp2_with (first
            | (go_at_call 75; go_loud (refine hbs.mono ?_; rintro e w4 ⟨rfl, hpn, hb4⟩; obtain ⟨r0, r1, r2, r3, r4⟩ := HBX.out w4 ((hb2.tr hb).tr hb4)))
            | (go_at_call 74; go_loud (refine (vown_any mt _ (hok.below (hbr.tr hb4))).mono ?_; rintro e w5 ⟨A5, c5, rfl, hc5, ho5, hb5⟩; have hI5 := hI.below (hb4.tr hb5)))
            | (go_at_call 78; go_loud (refine (insert_any (InsA.new (m := ⟨mt.t, A5, mt.n, c5⟩) hI5.own hc1 (by omega)) hpn).mono ?_; rintro e w7 ⟨A8, c8, rfl, n8, o8, g8, e8⟩)))
          have hI6 := hI5.kept (grown_of (brefl.al (.cells #[.string mt.t.name, .int .i64 mt.t.kind, .int .i64 mt.t.lang, .string mt.t.see, .slice A5 mt.n c5] 33)) none) (by simp)
          have h45 := hb4.size
          have h2w := hb.size
          have hE0 : SpE w2.heap.size 100 w5 (Value.slice A1 m1 c1).ownBlock ⟨mt.t, A5, mt.n, c5⟩ := ⟨⟨hst.nm, hst.se, hst.br⟩, hok.ki, hok.la, hok.few, hc5, ho5.mono (by omega), fun q hq e => by
            have h3 := ho5.row q hq
            have h4 := hI.own.lt q e
            omega⟩
          have hIns : ∀ x ∈ insT ms1 p ⟨mt.t, A5, mt.n, c5⟩, SpE w2.heap.size 100 w7 (Value.slice A1 m1 c1).ownBlock x := by
            intro x hx
            have h6 : SpE w2.heap.size 100 (w5.alloc (.cells #[.string mt.t.name, .int .i64 mt.t.kind, .int .i64 mt.t.lang, .string mt.t.see, .slice A5 mt.n c5] 33)) (Value.slice A1 m1 c1).ownBlock x := by
              unfold insT at hx
              rcases List.mem_append.1 hx with hx | hx
              · exact hI6.els x (List.mem_of_mem_take hx)
              · rcases List.mem_cons.1 hx with rfl | hx
                · exact hE0.kept (grown_of (brefl.al _) none) (by simp)
                · exact hI6.els x (List.mem_of_mem_drop hx)
            exact h6.kept g8 h6.ap
          have hT7 : Tms w7 A8 (m1 + 1) (insT ms1 p ⟨mt.t, A5, mt.n, c5⟩) := Tms.own o8 rfl (fun x hx => (hIns x hx).tok (Nat.le_refl _))
          have hs7 : ∀ x ∈ insT ms1 p ⟨mt.t, A5, mt.n, c5⟩, x.small := fun x hx => (hIns x hx).sm
          have HT := Lib.hid (show terms (insT ms1 p ⟨mt.t, A5, mt.n, c5⟩) = addL (terms ms) mt.t from by rw [terms_ins, HT1.out, HA.out])
          have hb7 : Below w.heap.size w w7 := ((hbr.tr (hb4.tr hb5)).al _).gr g8 (fun k e => by have := hI.own.row k e; have := hbw2.size; omega)
          clear hIns hE0 hI6 hI5 hI hP hTm o8 g8 e8 ho5
          by_cases hf : (vvalid (addL (terms ms) mt.t)).2 = 0
          · have HF := Lib.hid (show addV (terms ms) mt.t = (addL (terms ms) mt.t, 0) from by unfold addV; rw [if_pos hv0.out, if_pos hf])
            have HV := Lib.hid (show (vvalid (terms (insT ms1 p ⟨mt.t, A5, mt.n, c5⟩))).2 = 0 from by rw [HT.out]; exact hf)
            clear hf
            go_wp2_with (go_at_call 12; go_loud (refine (vvalid_any _ _ _ (insT ms1 p ⟨mt.t, A5, mt.n, c5⟩) _ (by omega) (hr.below hb7) hT7).mono ?_; rintro e w9 ⟨rfl, hb9⟩; rw [HV.out]))
            go_ret2
            refine ⟨_, _, _, (insT ms1 p ⟨mt.t, A5, mt.n, c5⟩), ?_, n8, by omega, (hT7).below hb9, by rw [HF.out]; exact HT.out, hs7, (hb7).tr hb9⟩
            rw [HF.out]
            rfl
          · have HF := Lib.hid (show addV (terms ms) mt.t = ([], (vvalid (addL (terms ms) mt.t)).2) from by unfold addV; rw [if_pos hv0.out, if_neg hf])
            obtain ⟨ve, hve⟩ : ∃ ve, (vvalid (addL (terms ms) mt.t)).2 = ve := ⟨_, rfl⟩
            rw [hve] at hf HF
            have HV := Lib.hid (show (vvalid (terms (insT ms1 p ⟨mt.t, A5, mt.n, c5⟩))).2 = ve from by rw [HT.out]; exact hve)
            have hvb : (ve == 0) = false := by simpa using hf
            clear hf hve
            go_wp2_with (go_at_call 12; go_loud (refine (vvalid_any _ _ _ (insT ms1 p ⟨mt.t, A5, mt.n, c5⟩) _ (by omega) (hr.below hb7) hT7).mono ?_; rintro e w9 ⟨rfl, hb9⟩; rw [HV.out]))
            go_ret2
            refine ⟨none, 0, 0, [], ?_, Nat.le_refl _, Nat.zero_le _, Tms.nil _, by rw [HF.out]; rfl, (fun x hx => by cases hx), (hb7).tr hb9⟩
            rw [HF.out]
            rfl
        · have hpl := isAt_lt hat
          rw [hp, hlen] at hpl
          have HA := Lib.hid (show addL (terms ms) mt.t = (terms ms).set p mt.t from by unfold addL; rw [if_pos hat, hp])
          rw [hat] at hbs
          clear hp hat
          have hpl' : (p : Int) < m1 := by omega
          obtain ⟨bo, rfl, hbo1, hbo2⟩ := hI.own.addr (by omega)
          obtain ⟨xo, hxo⟩ : ∃ xo, ms1[p]? = some xo := ⟨_, List.getElem?_eq_getElem (by omega)⟩
          go_wp2_with (first
            | (go_at_call 75; go_loud (refine hbs.mono ?_; rintro e w4 ⟨rfl, hpn, hb4⟩; obtain ⟨r0, r1, r2, r3, r4⟩ := HBX.out w4 ((hb2.tr hb).tr hb4)))
            | (go_at_call 74; go_loud (refine (vown_any mt _ (hok.below (hbr.tr hb4))).mono ?_; rintro e w5 ⟨A5, c5, rfl, hc5, ho5, hb5⟩; have hI5 := hI.below (hb4.tr hb5); obtain ⟨y0, y1, y2, y3, y4⟩ := hI5.own.tmAt rfl hxo; have f0 := hI5.own.frozenAt rfl (p * 5); have f1 := hI5.own.frozenAt rfl (p * 5 + 1); have f2 := hI5.own.frozenAt rfl (p * 5 + 2); have f3 := hI5.own.frozenAt rfl (p * 5 + 3); have f4 := hI5.own.frozenAt rfl (p * 5 + 4))))
          have h45 := hb4.size
          have h2w := hb.size
          have hE0 : SpE w2.heap.size 100 w5 (Value.slice (some ⟨bo, 0, none⟩) m1 c1).ownBlock ⟨mt.t, A5, mt.n, c5⟩ := ⟨⟨hst.nm, hst.se, hst.br⟩, hok.ki, hok.la, hok.few, hc5, ho5.mono (by omega), fun q hq e => by
            have h3 := ho5.row q hq
            have h4 := hI.own.lt q e
            omega⟩
          have hJ := hI5.setTm rfl p hE0
          obtain ⟨hT7, hs7, _⟩ := hJ.tms (Nat.le_refl _)
          have HT := Lib.hid (show terms (ms1.set p ⟨mt.t, A5, mt.n, c5⟩) = addL (terms ms) mt.t from by rw [terms_set, HT1.out, HA.out])
          have hwb : w.heap.size ≤ bo := Nat.le_trans hbw2.size hbo1
          have hb7 := ((((((hbr.tr (hb4.tr hb5)).st (p := ⟨bo, p * 5, none⟩) hwb (.string mt.t.name)).st (p := ⟨bo, p * 5 + 1, none⟩) hwb (.int .i64 mt.t.kind)).st (p := ⟨bo, p * 5 + 2, none⟩) hwb (.int .i64 mt.t.lang)).st (p := ⟨bo, p * 5 + 3, none⟩) hwb (.string mt.t.see)).st (p := ⟨bo, p * 5 + 4, none⟩) hwb (.slice A5 mt.n c5))
          dsimp only at hT7
          clear hJ hE0 hI5 hI hP hTm ho5 y0 y1 y2 y3 y4 f0 f1 f2 f3 f4
          by_cases hf : (vvalid (addL (terms ms) mt.t)).2 = 0
          · have HF := Lib.hid (show addV (terms ms) mt.t = (addL (terms ms) mt.t, 0) from by unfold addV; rw [if_pos hv0.out, if_pos hf])
            have HV := Lib.hid (show (vvalid (terms (ms1.set p ⟨mt.t, A5, mt.n, c5⟩))).2 = 0 from by rw [HT.out]; exact hf)
            clear hf
            go_wp2_with (go_at_call 12; go_loud (refine (vvalid_any _ _ _ (ms1.set p ⟨mt.t, A5, mt.n, c5⟩) _ (by omega) (hr.below hb7) hT7).mono ?_; rintro e w9 ⟨rfl, hb9⟩; rw [HV.out]))
            go_ret2
            refine ⟨_, _, _, (ms1.set p ⟨mt.t, A5, mt.n, c5⟩), ?_, hc1, by omega, (hT7).below hb9, by rw [HF.out]; exact HT.out, hs7, (hb7).tr hb9⟩
            rw [HF.out]
            rfl
          · have HF := Lib.hid (show addV (terms ms) mt.t = ([], (vvalid (addL (terms ms) mt.t)).2) from by unfold addV; rw [if_pos hv0.out, if_neg hf])
            obtain ⟨ve, hve⟩ : ∃ ve, (vvalid (addL (terms ms) mt.t)).2 = ve := ⟨_, rfl⟩
            rw [hve] at hf HF
            have HV := Lib.hid (show (vvalid (terms (ms1.set p ⟨mt.t, A5, mt.n, c5⟩))).2 = ve from by rw [HT.out]; exact hve)
            have hvb : (ve == 0) = false := by simpa using hf
            clear hf hve
            go_wp2_with (go_at_call 12; go_loud (refine (vvalid_any _ _ _ (ms1.set p ⟨mt.t, A5, mt.n, c5⟩) _ (by omega) (hr.below hb7) hT7).mono ?_; rintro e w9 ⟨rfl, hb9⟩; rw [HV.out]))
            go_ret2
            refine ⟨none, 0, 0, [], ?_, Nat.le_refl _, Nat.zero_le _, Tms.nil _, by rw [HF.out]; rfl, (fun x hx => by cases hx), (hb7).tr hb9⟩
            rw [HF.out]
            rfl
  · have HF := Lib.hid (show addV (terms ms) mt.t = ([], (vvalid (terms ms)).2) from by unfold addV; rw [if_neg h0])
    obtain ⟨ve, hve⟩ : ∃ ve, (vvalid (terms ms)).2 = ve := ⟨_, rfl⟩
    rw [hve] at hv h0 HF
    have hvb : (ve == 0) = false := by simpa using h0
    clear h0 hve
    go_enter Tryz.func17, Tryz.ntmps17
    go_wp2_with (go_at_call 12; go_loud (refine hv.mono ?_; rintro e w2 ⟨rfl, hb2⟩))
    go_ret2
    refine ⟨none, 0, 0, [], ?_, Nat.le_refl _, Nat.zero_le _, Tms.nil _, by rw [HF.out]; rfl, (fun x hx => by cases hx), hb0.tr hb2⟩
    rw [HF.out]
    rfl
end Go.Proofs.YtdfnfimajhagfaaGreatDoor
