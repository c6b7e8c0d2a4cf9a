/- Walks of package vocabulary: preferred, Prefer. -/
import Derived.Test.YtdfnfimajhagfaaGreatDoorV10
import Derived.Test.YtdfnfimajhagfaaGreatDoorUnit
import Derived.Test.YtdfnfimajhagfaaGreatDoorV19
import Derived.Laws.OwnMore
import Derived.Test.YtdfnfimajhagfaaGreatDoorShelf
import Derived.Shelf.Slices.Equal
import Derived.Shelf.Slices.Empties2
import Derived.Test.YtdfnfimajhagfaaGreatDoorMem
import Derived.Test.YtdfnfimajhagfaaGreatDoorReg
import Derived.Test.YtdfnfimajhagfaaGreatDoorP7
namespace Rf
/-- the preferred name of a term -/
def prefT (t : Term) : S := if eqS t.see ⟨#[]⟩ then t.name else t.see
theorem eqS_nil (s : S) : eqS s ⟨#[]⟩ = s.toList.isEmpty := by
  have h : (⟨#[]⟩ : S).toList = [] := by rw [toList_byts]; rfl
  unfold eqS
  rw [h]
  cases s.toList <;> rfl
theorem prefT_see {t : Term} (h : t.see.toList.isEmpty = false) : prefT t = t.see := by unfold prefT; rw [eqS_nil, h]; rfl
theorem prefT_name {t : Term} (h : t.see.toList.isEmpty = true) : prefT t = t.name := by unfold prefT; rw [eqS_nil, h]; rfl
/-- Prefer: the name and the error -/
noncomputable def prefer (l : List Term) (n : S) : S × Int :=
  if (vvalid l).2 = 0 then (match findT l n with | some t => (prefT t, 0) | none => (⟨#[]⟩, 6)) else (⟨#[]⟩, (vvalid l).2)
end Rf
namespace Go.Proofs.YtdfnfimajhagfaaGreatDoor
open Go.RowKit Go.Maps Rf
set_option maxRecDepth 20000 in
set_option maxHeartbeats 1000000 in
theorem preferred_any (m : TM) (w : World) :
    Calls Tryz.prog 87 #[.agg #[.string m.t.name, .int .i64 m.t.kind, .int .i64 m.t.lang, .string m.t.see, .slice m.A m.n m.c]] w fun e w' => e = .returned (.string (prefT m.t)) ∧ Below w.heap.size w w' := by
  cases he : m.t.see.toList.isEmpty
  · rw [prefT_see he]
    go_enter Tryz.func87, Tryz.ntmps87
    go_wp2
    go_ret
    exact ⟨rfl, brefl.al _⟩
  · rw [prefT_name he]
    go_enter Tryz.func87, Tryz.ntmps87
    go_wp2
    go_ret
    exact ⟨rfl, brefl.al _⟩
set_option maxRecDepth 20000 in
set_option maxHeartbeats 1000000 in
theorem prefer_any (A : Option Addr) (n c : Nat) (ms : List TM) (s : S) (w : World) (hm : n ≤ 100000) (hr : Rdy w) (hl : Tms w A n ms) :
    Calls Tryz.prog 33 #[.slice A n c, .string s] w fun e w' => e = .returned (.tuple #[.string (prefer (terms ms) s).1, .int .i64 (prefer (terms ms) s).2]) ∧ Below w.heap.size w w' := by
  have hv := vvalid_any A n c ms w hm hr hl
  unfold prefer
  generalize hvl : vvalid (terms ms) = vl at hv ⊢
  obtain ⟨u, v⟩ := vl
  dsimp only at hv ⊢
  clear hvl
  generalize (u : Int) = u at hv
  by_cases h0 : v = 0
  · rw [if_pos h0]
    subst h0
    rcases findAt_cases (terms ms) s 0 with ⟨f1, f2⟩ | ⟨j, t, f1, f2, f3⟩
    · rw [f1]
      clear f1
      go_enter Tryz.func33, Tryz.ntmps33
      go_wp2_with (first
        | (go_at_call 12; go_loud (refine hv.mono ?_; rintro e w2 ⟨rfl, hb2⟩))
        | (go_at_call 20; go_loud (refine (vfind_any _ _ _ _ _ _ hm (hl.below hb2)).mono ?_; rintro e w3 ⟨rfl, hb3⟩; rw [f2])))
      go_ret2
      exact ⟨rfl, hb2.tr hb3⟩
    · rw [f1]
      rw [Nat.zero_add] at f2
      have hF := Lib.hid f3
      clear f1 f3
      go_enter Tryz.func33, Tryz.ntmps33
      go_wp2_with (first
        | (go_at_call 12; go_loud (refine hv.mono ?_; rintro e w2 ⟨rfl, hb2⟩))
        | (go_at_call 20; go_loud (refine (vfind_any _ _ _ _ _ _ hm (hl.below hb2)).mono ?_; rintro e w3 ⟨rfl, hb3⟩; rw [f2]; have hlt : j < n := by { have h1 := (List.getElem?_eq_some_iff.1 hF.out).1; rw [terms_length hl] at h1; exact h1 }; obtain ⟨b, off, m, rfl, hx, hok, hb0, d1, d2, d3, d4, d5⟩ := ((hl.below hb2).below hb3).at_ hlt; have htm : Hid (m.t = t) := Lib.hid (by { have h2 := terms_get hx; rw [hF.out] at h2; exact (Option.some.inj h2).symm })))
        | (go_at_call 87; go_loud (refine (preferred_any m _).mono ?_; rintro e w4 ⟨rfl, hb4⟩)))
      go_ret2
      refine ⟨?_, (hb2.tr hb3).tr hb4⟩
      rw [← htm.out]
      rfl
  · rw [if_neg h0]
    go_enter Tryz.func33, Tryz.ntmps33
    have h0b : (v == 0) = false := by simpa using h0
    go_wp2_with (go_at_call 12; go_loud (refine hv.mono ?_; rintro e w2 ⟨rfl, hb2⟩))
    go_ret2
    exact ⟨rfl, hb2⟩
end Go.Proofs.YtdfnfimajhagfaaGreatDoor
/- Mentions in plain Lean: the longest name that stands at a token, the first of these. -/
namespace Rf
/-- the words of a name -/
def nw (s : S) : List S := (wordsB 32 (byts s)).map ofB
/-- a name stands at a token -/
def stands (W : List S) (k : Nat) (x : List S) : Bool := decide (x.length ≤ W.length - k) && decide ((W.drop k).take x.length = x)
structure Men where
  lo : Nat
  hi : Nat
  name : S
  pref : S
  deriving DecidableEq
/-- how the best so far and one more term go together: its words, its name, its preferred name -/
def better (lang : Int) (W : List S) (k : Nat) (b : Nat × S × S) (t : Term) : Nat × S × S :=
  if (t.lang = 0 ∨ t.lang = lang) ∧ b.1 < (nw t.name).length ∧ stands W k (nw t.name) = true then ((nw t.name).length, t.name, prefT t) else b
def bestM (lang : Int) (W : List S) (k : Nat) (l : List Term) : Nat × S × S := l.foldl (better lang W k) (0, ⟨#[]⟩, ⟨#[]⟩)
theorem bestM_snoc (lang : Int) (W : List S) (k : Nat) {l : List Term} {i : Nat} {t : Term} (h : l[i]? = some t) : bestM lang W k (l.take (i + 1)) = better lang W k (bestM lang W k (l.take i)) t := by
  unfold bestM
  rw [take_snoc h, List.foldl_append]
  rfl
theorem bestM_in (lang : Int) (W : List S) (k : Nat) (l : List Term) (hk : k ≤ W.length) : k + (bestM lang W k l).1 ≤ W.length := by
  unfold bestM
  have : ∀ (l : List Term) (b : Nat × S × S), k + b.1 ≤ W.length → k + (l.foldl (better lang W k) b).1 ≤ W.length := by
    intro l
    induction l with
    | nil => intro b h; exact h
    | cons t l ih =>
      intro b h
      rw [List.foldl_cons]
      apply ih
      unfold better
      split
      · rename_i h2
        have h3 := h2.2.2
        unfold stands at h3
        rw [Bool.and_eq_true, decide_eq_true_iff] at h3
        have := h3.1
        dsimp only
        omega
      · exact h
  exact this l _ (by simpa using hk)
/-- the mentions from a token on -/
def mens (l : List Term) (lang : Int) (W : List S) (k : Nat) : List Men :=
  if _h : k < W.length then
    if h0 : (bestM lang W k l).1 = 0 then mens l lang W (k + 1)
    else ⟨k, k + (bestM lang W k l).1, (bestM lang W k l).2.1, (bestM lang W k l).2.2⟩ :: mens l lang W (k + (bestM lang W k l).1)
  else []
termination_by W.length - k
decreasing_by
  · omega
  · omega
theorem mens_end {l : List Term} {lang : Int} {W : List S} {k : Nat} (h : ¬ k < W.length) : mens l lang W k = [] := by rw [mens, dif_neg h]
theorem mens_none {l : List Term} {lang : Int} {W : List S} {k : Nat} (h : k < W.length) (h0 : (bestM lang W k l).1 = 0) : mens l lang W k = mens l lang W (k + 1) := by rw [mens, dif_pos h, dif_pos h0]
theorem mens_one {l : List Term} {lang : Int} {W : List S} {k : Nat} (h : k < W.length) (h0 : ¬ (bestM lang W k l).1 = 0) : mens l lang W k = ⟨k, k + (bestM lang W k l).1, (bestM lang W k l).2.1, (bestM lang W k l).2.2⟩ :: mens l lang W (k + (bestM lang W k l).1) := by rw [mens, dif_pos h, dif_neg h0]
end Rf
/- Walk of package vocabulary: words. -/
namespace Go.Proofs.YtdfnfimajhagfaaGreatDoor
open Go.RowKit Go.Maps Rf
theorem row_set (E : List S) (m : Nat) (x : S) : ((E ++ List.replicate (m + 1) eS).map Value.string).set E.length (.string x) = ((E ++ [x]) ++ List.replicate m eS).map Value.string := by
  rw [List.replicate_succ]
  simp
theorem row_keep (E : List S) (m : Nat) : ((E ++ List.replicate (m + 1) eS).map Value.string) = ((E ++ [eS]) ++ List.replicate m eS).map Value.string := by
  rw [List.replicate_succ]
  simp
theorem row_get (E : List S) (m : Nat) : ((E ++ List.replicate (m + 1) eS).map Value.string)[E.length]? = some (.string eS) := by
  rw [List.replicate_succ]
  simp
theorem folded_size (s : S) : ∀ (n : Nat) (l : List Tok), l.length = n → ∀ x ∈ folded s l, x.size ≤ s.size := by
  intro n
  induction n using Nat.strongRecOn with
  | _ n ih =>
    intro l hl x hx
    cases l with
    | nil => rw [folded_nil] at hx; cases hx
    | cons t l =>
      rw [folded_more s (by simp)] at hx
      rcases List.mem_append.1 hx with h | h
      · obtain ⟨y, _, rfl⟩ := List.mem_map.1 h
        unfold wordOf
        split
        · rw [foldS_size]
          rw [ByteArray.size_extract]; omega
        · exact Nat.zero_le _
      · exact ih _ (by rw [List.length_drop]; simp [unitLen]; simp at hl; omega) _ rfl x h
set_option maxRecDepth 20000 in
set_option maxHeartbeats 4000000 in
theorem vwords_any (s : S) (w : World) (hs : s.size ≤ 1000000) :
    Calls Tryz.prog 84 #[.string s] w fun e w' => ∃ A n, e = .returned (.slice A n n) ∧ n ≤ s.size ∧ Strs w' A n (folded s (toks (byts s) 0)) ∧ Below w.heap.size w w' := by
  obtain ⟨ii, hi, hz, hsize, hby⟩ := info_parts (show (Tryz.prog.info? 9).map (fun i => (i.zero, i.size, i.bytes)) = some (some (.string ByteArray.empty), 1, 16) from by kernel_rfl)
  obtain ⟨L, hL⟩ : ∃ L, toks (byts s) 0 = L := ⟨_, rfl⟩
  rw [hL]
  go_enter Tryz.func84, Tryz.ntmps84
  go_wp2_with (first
    | (go_at_call 43; go_loud (refine (tsplit_any _ _ hs).mono ?_; rintro e w1 ⟨A, n, c, rfl, hn, hln, ho, hb1⟩; rw [hL] at hln ho))
    | (at_make; go_loud (refine wpList_make_full w1 rfl _ _ _ rfl w1.heap.size 9 ii (.string ByteArray.empty) 1 Tryz.underlying31 hi hz hsize _ _ _ _ n rfl rfl rfl rfl ?_ ?_ (Nat.le_refl _) ?_; (focus (rw [hby]; omega)); (focus (unfold maxLen; omega)); intro w2 o2 g2)))
  go_loopw [5] (fun t5 wr => ∃ (f : Nat) (D : List S), f ≤ n ∧ t5 = .int .i64 f ∧ D.length = f ∧ Hid (folded s L = D ++ folded s (L.drop f)) ∧
      Own wr w1.heap.size 9 1 (.slice (some ⟨w1.heap.size, 0, none⟩) n n) n ((D ++ List.replicate (n - f) eS).map Value.string) ∧ Below w1.heap.size w1 wr) (fun t5 _ => n - (intOf t5).toNat)
  case atStart =>
    refine ⟨0, [], by omega, rfl, rfl, Lib.hid rfl, ⟨?_, g2.size⟩, brefl.gr g2 (by simp)⟩
    have := o2
    rw [show n * 1 = n from by omega, show (Value.string ByteArray.empty).cells = #[.string ByteArray.empty] from rfl, toList_madeCells_one] at this
    simpa [eS] using (show w2.ownsRow w1.heap.size 9 1 (.slice (some ⟨w1.heap.size, 0, none⟩) n n) n (List.replicate n (.string ⟨#[]⟩)) from this)
  case round =>
    obtain ⟨f, D, hfn, rfl, hDl, hD, how, hbw⟩ := hrel
    by_cases hlt : f < n
    · have hlt' : (f : Int) < n := by omega
      go_wp2
      go_loopw [6, 7] (fun t6 t7 wz => ∃ (k : Nat) (pl : Bool), f ≤ k ∧ k ≤ n ∧ t6 = .int .i64 k ∧ t7 = .bool pl ∧ Hid (InUnit L f k) ∧ Hid (pl = ((L.drop f).take (k - f)).all plainT) ∧
          Own wz w1.heap.size 9 1 (.slice (some ⟨w1.heap.size, 0, none⟩) n n) n ((D ++ List.replicate (n - f) eS).map Value.string) ∧ Below w1.heap.size w1 wz) (fun t6 _ _ => n - (intOf t6).toNat)
      case atStart => exact ⟨f, true, by omega, by omega, rfl, rfl, Lib.hid (.inl rfl), Lib.hid (by rw [Nat.sub_self]; rfl), how, hbw⟩
      case round =>
        obtain ⟨k, pl, hfk, hkn, rfl, rfl, hin, hpl, hoz, hbz⟩ := hrel
        by_cases hk : k < n
        · obtain ⟨t, ht⟩ : ∃ t, L[k]? = some t := ⟨_, List.getElem?_eq_getElem (by omega)⟩
          obtain ⟨b, off, rfl, hb0, c0, c1, c2⟩ := tok_at (ho.reads.below hbz) ht
          have hkk : decide ((k : Int) < n) = true := by rw [decide_eq_true_iff]; omega
          rcases Nat.lt_or_ge f k with hfk2 | hfk2
          · obtain ⟨p, hp⟩ : ∃ p, L[k - 1]? = some p := ⟨_, List.getElem?_eq_getElem (by omega)⟩
            obtain ⟨b', off', e', hb0', d0, d1, d2⟩ := tok_at (ho.reads.below hbz) hp
            injection e' with e'
            injection e' with e1 e2
            subst e1; subst e2
            have hne : ((k : Int) == (f : Int)) = false := by rw [beq_eq_false_iff_ne]; omega
            by_cases hlo : t.lo = p.hi
            · have hlo' : ((t.lo : Int) == (p.hi : Int)) = true := by rw [beq_iff_eq]; omega
              have hin2 := Lib.hid (hin.out.next hfk2 ht hp hlo)
              have hP := Lib.hid (take_drop_snoc hfk ht)
              clear ht hp hlo
              go_wp2
              go_quiet (fail)
              cases pl
              · have hpl2 := Lib.hid (show false = ((L.drop f).take (k + 1 - f)).all plainT from by rw [hP.out, List.all_append, ← hpl.out]; rfl)
                go_wp2
                go_roundw
                case rel => exact ⟨k + 1, false, by omega, by omega, by go_num, rfl, hin2, hpl2, hoz, hbz.drn _⟩
                case measure => simp [intOf]; omega
              · by_cases k0 : t.kd = 0
                · have hpl2 := Lib.hid (show true = ((L.drop f).take (k + 1 - f)).all plainT from by rw [hP.out, List.all_append, ← hpl.out]; simp [plainT, k0])
                  rw [k0] at c2
                  go_wp2
                  go_roundw
                  case rel => exact ⟨k + 1, true, by omega, by omega, by go_num, rfl, hin2, hpl2, hoz, hbz.drn _⟩
                  case measure => simp [intOf]; omega
                · have k0' : ((t.kd : Int) == 0) = false := by rw [beq_eq_false_iff_ne]; omega
                  by_cases k2 : t.kd = 2
                  · have hpl2 := Lib.hid (show true = ((L.drop f).take (k + 1 - f)).all plainT from by rw [hP.out, List.all_append, ← hpl.out]; simp [plainT, k2])
                    rw [k2] at c2
                    go_wp2
                    go_roundw
                    case rel => exact ⟨k + 1, true, by omega, by omega, by go_num, rfl, hin2, hpl2, hoz, hbz.drn _⟩
                    case measure => simp [intOf]; omega
                  · have k2' : ((t.kd : Int) == 2) = false := by rw [beq_eq_false_iff_ne]; omega
                    have hpl2 := Lib.hid (show false = ((L.drop f).take (k + 1 - f)).all plainT from by rw [hP.out, List.all_append, ← hpl.out]; simp [plainT, k0, k2])
                    go_wp2
                    go_roundw
                    case rel => exact ⟨k + 1, false, by omega, by omega, by go_num, rfl, hin2, hpl2, hoz, hbz.drn _⟩
                    case measure => simp [intOf]; omega
            · have hlo' : ((t.lo : Int) == (p.hi : Int)) = false := by rw [beq_eq_false_iff_ne]; omega
              have hkU := Lib.hid (hin.out.stop hfk2 ht hp hlo)
              clear ht hp hlo
              go_wp2
              go_quiet (fail)
              cases pl
              · have hE := Lib.hid (show folded s L = (D ++ List.replicate (k - f) eS) ++ folded s (L.drop k) from by
                  rw [hD.out, folded_more s (by intro e; have := congrArg List.length e; rw [List.length_drop] at this; simp at this; omega), List.append_assoc]
                  have hkf : k - f = unitLen (L.drop f) := by have := hkU.out; omega
                  rw [← hkf, ← hpl.out, List.drop_drop, show f + (k - f) = k from by omega]
                  congr 2
                  rw [List.eq_replicate_iff]
                  refine ⟨by rw [List.length_map, List.length_take, List.length_drop]; omega, fun x hx => ?_⟩
                  obtain ⟨y, _, rfl⟩ := List.mem_map.1 hx
                  exact wordOf_false s y)
                go_wp2
                go_loopw [8] (fun t8 wy => t8 = .int .i64 f ∧ Own wy w1.heap.size 9 1 (.slice (some ⟨w1.heap.size, 0, none⟩) n n) n ((D ++ List.replicate (n - f) eS).map Value.string) ∧ Below w1.heap.size w1 wy) (fun _ _ => 0)
                case atStart => exact ⟨rfl, hoz, (hbz.drn _)⟩
                case round =>
                  obtain ⟨rfl, hoy, hby⟩ := hrel
                  go_wp2
                  go_roundw
                  case rel => exact ⟨k, D ++ List.replicate (k - f) eS, by omega, rfl, by rw [List.length_append, List.length_replicate]; omega, hE, by rw [List.append_assoc, List.replicate_append_replicate, show k - f + (n - k) = n - f from by omega]; exact hoy, hby⟩
                  case measure => simp [intOf]; omega
              · go_wp2
                go_loopw [8] (fun t8 wy => ∃ (i : Nat) (E : List S), f ≤ i ∧ i ≤ k ∧ t8 = .int .i64 i ∧ E.length = i ∧ Hid (E = D ++ ((L.drop f).take (i - f)).map (wordOf s true)) ∧ Own wy w1.heap.size 9 1 (.slice (some ⟨w1.heap.size, 0, none⟩) n n) n ((E ++ List.replicate (n - i) eS).map Value.string) ∧ Below w1.heap.size w1 wy) (fun t8 _ => k - (intOf t8).toNat)
                case atStart => exact ⟨f, D, by omega, by omega, rfl, hDl, Lib.hid (by rw [Nat.sub_self]; simp), hoz, (hbz.drn _)⟩
                case round =>
                  obtain ⟨i, E, hfi, hik, rfl, hEl, hE, hoy, hby⟩ := hrel
                  by_cases hlt3 : i < k
                  · obtain ⟨t, ht⟩ : ∃ t, L[i]? = some t := ⟨_, List.getElem?_eq_getElem (by omega)⟩
                    have htk := toks_ok (hL ▸ ht)
                    obtain ⟨b3, off3, e3, hb0, c0, c1, c2⟩ := tok_at (ho.reads.below hby) ht
                    first | subst e3 | (injection e3 with e3; injection e3 with e1 e2; subst e1; subst e2)
                    obtain ⟨m, hm⟩ : ∃ m, n - i = m + 1 := ⟨n - i - 1, by omega⟩
                    rw [hm] at hoy
                    have hT := Lib.hid ht
                    have hP := Lib.hid (take_drop_snoc hfi ht)
                    clear ht
                    by_cases hk0 : t.kd = 0
                    · have hE2 := Lib.hid (show E ++ [foldS (s.extract t.lo t.hi)] = D ++ ((L.drop f).take (i + 1 - f)).map (wordOf s true) from by rw [hP.out, List.map_append, ← List.append_assoc, ← hE.out]; simp [wordOf, hk0])
                      rw [hk0] at c2
                      go_wp2_with (first
                        | (go_at_call 49; go_loud (refine (part_any s i t _ hs (hL ▸ hT.out)).mono ?_; rintro e w4 ⟨rfl, hb4⟩))
                        | (go_at_call 48; go_loud (refine (fold_any _ _ ?_).mono ?_; (focus (rw [ByteArray.size_extract]; omega)); rintro e w5 ⟨rfl, hb5⟩; have ho5 := (hoy.below hb4).below hb5; have z5 := ho5.cellAt rfl (hEl ▸ row_get E m); have f5 := ho5.frozenAt rfl i)))
                      go_roundw
                      case rel => exact ⟨i + 1, _, by omega, by omega, by go_num, by rw [List.length_append, hEl]; rfl, hE2, by
                        have := ho5.set rfl (j := i) (.string (foldS (s.extract t.lo t.hi)))
                        rw [← hEl, row_set] at this
                        rw [hEl] at this
                        rw [show n - (i + 1) = m from by omega]
                        exact this, ((hby.tr hb4).tr hb5).st (p := ⟨w1.heap.size, i, none⟩) (Nat.le_refl _) _⟩
                      case measure => simp [intOf]; omega
                    · have hE2 := Lib.hid (show E ++ [eS] = D ++ ((L.drop f).take (i + 1 - f)).map (wordOf s true) from by rw [hP.out, List.map_append, ← List.append_assoc, ← hE.out]; simp [wordOf, hk0])
                      have hk0' : ((t.kd : Int) == 0) = false := by rw [beq_eq_false_iff_ne]; omega
                      go_wp2
                      go_roundw
                      case rel => exact ⟨i + 1, _, by omega, by omega, by go_num, by rw [List.length_append, hEl]; rfl, hE2, by
                        rw [row_keep] at hoy
                        rw [show n - (i + 1) = m from by omega]
                        exact hoy, hby⟩
                      case measure => simp [intOf]; omega
                  · have hik' : i = k := by omega
                    subst hik'
                    have hE3 := Lib.hid (show folded s L = E ++ folded s (L.drop i) from by
                      rw [hD.out, folded_more s (by intro e; have := congrArg List.length e; rw [List.length_drop] at this; simp at this; omega), hE.out, List.append_assoc]
                      have hkf : i - f = unitLen (L.drop f) := by have := hkU.out; omega
                      rw [← hkf, ← hpl.out, List.drop_drop, show f + (i - f) = i from by omega])
                    go_wp2
                    go_roundw
                    case rel => exact ⟨i, E, by omega, rfl, hEl, hE3, hoy, hby⟩
                    case measure => simp [intOf]; omega
          · have hfk3 : f = k := by omega
            subst hfk3
            have hin2 := Lib.hid (InUnit.first ht)
            have hP := Lib.hid (take_drop_snoc hfk ht)
            clear ht
            go_wp2
            go_quiet (fail)
            cases pl
            · have hpl2 := Lib.hid (show false = ((L.drop f).take (f + 1 - f)).all plainT from by rw [hP.out, List.all_append, ← hpl.out]; rfl)
              go_wp2
              go_roundw
              case rel => exact ⟨f + 1, false, by omega, by omega, by go_num, rfl, hin2, hpl2, hoz, hbz.drn _⟩
              case measure => simp [intOf]; omega
            · by_cases k0 : t.kd = 0
              · have hpl2 := Lib.hid (show true = ((L.drop f).take (f + 1 - f)).all plainT from by rw [hP.out, List.all_append, ← hpl.out]; simp [plainT, k0])
                rw [k0] at c2
                go_wp2
                go_roundw
                case rel => exact ⟨f + 1, true, by omega, by omega, by go_num, rfl, hin2, hpl2, hoz, hbz.drn _⟩
                case measure => simp [intOf]; omega
              · have k0' : ((t.kd : Int) == 0) = false := by rw [beq_eq_false_iff_ne]; omega
                by_cases k2 : t.kd = 2
                · have hpl2 := Lib.hid (show true = ((L.drop f).take (f + 1 - f)).all plainT from by rw [hP.out, List.all_append, ← hpl.out]; simp [plainT, k2])
                  rw [k2] at c2
                  go_wp2
                  go_roundw
                  case rel => exact ⟨f + 1, true, by omega, by omega, by go_num, rfl, hin2, hpl2, hoz, hbz.drn _⟩
                  case measure => simp [intOf]; omega
                · have k2' : ((t.kd : Int) == 2) = false := by rw [beq_eq_false_iff_ne]; omega
                  have hpl2 := Lib.hid (show false = ((L.drop f).take (f + 1 - f)).all plainT from by rw [hP.out, List.all_append, ← hpl.out]; simp [plainT, k0, k2])
                  go_wp2
                  go_roundw
                  case rel => exact ⟨f + 1, false, by omega, by omega, by go_num, rfl, hin2, hpl2, hoz, hbz.drn _⟩
                  case measure => simp [intOf]; omega
        · have hkU := Lib.hid (hin.out.last (by omega) (by omega))
          have hk' : decide ((k : Int) < n) = false := by rw [decide_eq_false_iff_not]; omega
          go_wp2
          go_quiet (fail)
          cases pl
          · have hE := Lib.hid (show folded s L = (D ++ List.replicate (k - f) eS) ++ folded s (L.drop k) from by
              rw [hD.out, folded_more s (by intro e; have := congrArg List.length e; rw [List.length_drop] at this; simp at this; omega), List.append_assoc]
              have hkf : k - f = unitLen (L.drop f) := by have := hkU.out; omega
              rw [← hkf, ← hpl.out, List.drop_drop, show f + (k - f) = k from by omega]
              congr 2
              rw [List.eq_replicate_iff]
              refine ⟨by rw [List.length_map, List.length_take, List.length_drop]; omega, fun x hx => ?_⟩
              obtain ⟨y, _, rfl⟩ := List.mem_map.1 hx
              exact wordOf_false s y)
            go_wp2
            go_loopw [8] (fun t8 wy => t8 = .int .i64 f ∧ Own wy w1.heap.size 9 1 (.slice (some ⟨w1.heap.size, 0, none⟩) n n) n ((D ++ List.replicate (n - f) eS).map Value.string) ∧ Below w1.heap.size w1 wy) (fun _ _ => 0)
            case atStart => exact ⟨rfl, hoz, (hbz.drn _)⟩
            case round =>
              obtain ⟨rfl, hoy, hby⟩ := hrel
              go_wp2
              go_roundw
              case rel => exact ⟨k, D ++ List.replicate (k - f) eS, by omega, rfl, by rw [List.length_append, List.length_replicate]; omega, hE, by rw [List.append_assoc, List.replicate_append_replicate, show k - f + (n - k) = n - f from by omega]; exact hoy, hby⟩
              case measure => simp [intOf]; omega
          · go_wp2
            go_loopw [8] (fun t8 wy => ∃ (i : Nat) (E : List S), f ≤ i ∧ i ≤ k ∧ t8 = .int .i64 i ∧ E.length = i ∧ Hid (E = D ++ ((L.drop f).take (i - f)).map (wordOf s true)) ∧ Own wy w1.heap.size 9 1 (.slice (some ⟨w1.heap.size, 0, none⟩) n n) n ((E ++ List.replicate (n - i) eS).map Value.string) ∧ Below w1.heap.size w1 wy) (fun t8 _ => k - (intOf t8).toNat)
            case atStart => exact ⟨f, D, by omega, by omega, rfl, hDl, Lib.hid (by rw [Nat.sub_self]; simp), hoz, (hbz.drn _)⟩
            case round =>
              obtain ⟨i, E, hfi, hik, rfl, hEl, hE, hoy, hby⟩ := hrel
              by_cases hlt3 : i < k
              · obtain ⟨t, ht⟩ : ∃ t, L[i]? = some t := ⟨_, List.getElem?_eq_getElem (by omega)⟩
                have htk := toks_ok (hL ▸ ht)
                obtain ⟨b3, off3, e3, hb0, c0, c1, c2⟩ := tok_at (ho.reads.below hby) ht
                first | subst e3 | (injection e3 with e3; injection e3 with e1 e2; subst e1; subst e2)
                obtain ⟨m, hm⟩ : ∃ m, n - i = m + 1 := ⟨n - i - 1, by omega⟩
                rw [hm] at hoy
                have hT := Lib.hid ht
                have hP := Lib.hid (take_drop_snoc hfi ht)
                clear ht
                by_cases hk0 : t.kd = 0
                · have hE2 := Lib.hid (show E ++ [foldS (s.extract t.lo t.hi)] = D ++ ((L.drop f).take (i + 1 - f)).map (wordOf s true) from by rw [hP.out, List.map_append, ← List.append_assoc, ← hE.out]; simp [wordOf, hk0])
                  rw [hk0] at c2
                  go_wp2_with (first
                    | (go_at_call 49; go_loud (refine (part_any s i t _ hs (hL ▸ hT.out)).mono ?_; rintro e w4 ⟨rfl, hb4⟩))
                    | (go_at_call 48; go_loud (refine (fold_any _ _ ?_).mono ?_; (focus (rw [ByteArray.size_extract]; omega)); rintro e w5 ⟨rfl, hb5⟩; have ho5 := (hoy.below hb4).below hb5; have z5 := ho5.cellAt rfl (hEl ▸ row_get E m); have f5 := ho5.frozenAt rfl i)))
                  go_roundw
                  case rel => exact ⟨i + 1, _, by omega, by omega, by go_num, by rw [List.length_append, hEl]; rfl, hE2, by
                    have := ho5.set rfl (j := i) (.string (foldS (s.extract t.lo t.hi)))
                    rw [← hEl, row_set] at this
                    rw [hEl] at this
                    rw [show n - (i + 1) = m from by omega]
                    exact this, ((hby.tr hb4).tr hb5).st (p := ⟨w1.heap.size, i, none⟩) (Nat.le_refl _) _⟩
                  case measure => simp [intOf]; omega
                · have hE2 := Lib.hid (show E ++ [eS] = D ++ ((L.drop f).take (i + 1 - f)).map (wordOf s true) from by rw [hP.out, List.map_append, ← List.append_assoc, ← hE.out]; simp [wordOf, hk0])
                  have hk0' : ((t.kd : Int) == 0) = false := by rw [beq_eq_false_iff_ne]; omega
                  go_wp2
                  go_roundw
                  case rel => exact ⟨i + 1, _, by omega, by omega, by go_num, by rw [List.length_append, hEl]; rfl, hE2, by
                    rw [row_keep] at hoy
                    rw [show n - (i + 1) = m from by omega]
                    exact hoy, hby⟩
                  case measure => simp [intOf]; omega
              · have hik' : i = k := by omega
                subst hik'
                have hE3 := Lib.hid (show folded s L = E ++ folded s (L.drop i) from by
                  rw [hD.out, folded_more s (by intro e; have := congrArg List.length e; rw [List.length_drop] at this; simp at this; omega), hE.out, List.append_assoc]
                  have hkf : i - f = unitLen (L.drop f) := by have := hkU.out; omega
                  rw [← hkf, ← hpl.out, List.drop_drop, show f + (i - f) = i from by omega])
                go_wp2
                go_roundw
                case rel => exact ⟨i, E, by omega, rfl, hEl, hE3, hoy, hby⟩
                case measure => simp [intOf]; omega
    · have hfn' : f = n := by omega
      subst hfn'
      have hlt' : ¬ (f : Int) < f := by omega
      have hend := Lib.hid (show folded s L = D from by rw [hD.out, List.drop_of_length_le (by omega), folded_nil, List.append_nil])
      go_wp2
      go_ret
      refine ⟨_, f, rfl, by omega, ?_, hb1.tr hbw⟩
      rw [hend.out]
      refine Strs.own how (by rw [Nat.sub_self]; simp) fun x hx => ?_
      rw [← hend.out] at hx
      have := folded_size s _ L rfl x hx
      unfold maxLen; omega
end Go.Proofs.YtdfnfimajhagfaaGreatDoor
/- slices.Equal at strings: the library's contract laid at this translation (numbers of the seat), and in the form of this work. -/
namespace Go.Proofs
open Go.Shelf Go.RowKit
def Tryz.lays193_ren : Go.Shelf.Ren := ⟨fun | 193 => 86 | n => n, fun | 31 => 31 | 9 => 9 | 4 => 4 | 3 => 3 | 0 => 0 | n => n, fun | n => n⟩
theorem Tryz.lays193 : Go.Proofs.Lays.n193 Tryz.prog Tryz.lays193_ren := {
  mixed := by kernel_rfl
  f193 := Tryz.func86.trans (congrArg some (by kernel_rfl))
  t0 := Tryz.underlying0
  a0 := Tryz.isAgg0
  z0 := Tryz.sizeOf0
  v0 := Tryz.zeroValue0
  t3 := Tryz.underlying3
  a3 := Tryz.isAgg3
  z3 := Tryz.sizeOf3
  v3 := Tryz.zeroValue3
  t4 := Tryz.underlying4
  a4 := Tryz.isAgg4
  z4 := Tryz.sizeOf4
  v4 := Tryz.zeroValue4
  t9 := Tryz.underlying9
  a9 := Tryz.isAgg9
  z9 := Tryz.sizeOf9
  v9 := Tryz.zeroValue9
  t31 := Tryz.underlying31
  a31 := Tryz.isAgg31
  z31 := Tryz.sizeOf31
  v31 := Tryz.zeroValue31 }
open Go.RowKit Go.Lib in
theorem Tryz.slices_Equal_string (b1 o1 n c b2 o2 m d : Nat) (xs ys : List ByteArray) (w : World) (hx : n ≤ xs.length) (hy : m ≤ ys.length) (hbig : n ≤ 9223372036854775807) (hbig2 : m ≤ 9223372036854775807) (hc1 : ∀ j, j < xs.length → w.cell? ⟨b1, o1 + j, none⟩ = some (.string (xs.getD j ByteArray.empty))) (hc2 : ∀ j, j < ys.length → w.cell? ⟨b2, o2 + j, none⟩ = some (.string (ys.getD j ByteArray.empty))) :
    Calls Tryz.prog 86 #[.slice (some ⟨b1, o1, none⟩) n c, .slice (some ⟨b2, o2, none⟩) m d] w fun e w' => e = .returned (.bool (decide (xs.take n = ys.take m))) ∧ ∃ q, w' = w.drewN q := Any.slices_Equal_string Tryz.lays193 b1 o1 n c b2 o2 m d xs ys w hx hy hbig hbig2 hc1 hc2
open Go.RowKit Go.Lib in
theorem Tryz.slices_Equal_string_empty (a1 a2 : Option Addr) (c m d : Nat) (w : World) (hbig2 : m ≤ 9223372036854775807) :
    Calls Tryz.prog 86 #[.slice a1 0 c, .slice a2 m d] w fun e w' => e = .returned (.bool (decide (m = 0))) ∧ w' = w := Any.slices_Equal_string_empty Tryz.lays193 a1 a2 c m d w hbig2
open Go.RowKit Go.Lib in
theorem Tryz.slices_Equal_string_lens (a1 a2 : Option Addr) (n c m d : Nat) (w : World) (hnm : n ≠ m) :
    Calls Tryz.prog 86 #[.slice a1 n c, .slice a2 m d] w fun e w' => e = .returned (.bool false) ∧ w' = w := Any.slices_Equal_string_lens Tryz.lays193 a1 a2 n c m d w hnm
end Go.Proofs
namespace Go.Proofs.YtdfnfimajhagfaaGreatDoor
open Go.RowKit Go.Maps Rf
theorem equal_any (A B : Option Addr) (n c m d : Nat) (xs ys : List S) (w : World) (hn : n ≤ 1000000) (hm : m ≤ 1000000) (hx : Strs w A n xs) (hy : Strs w B m ys) :
    Calls Tryz.prog 86 #[.slice A n c, .slice B m d] w fun e w' => e = .returned (.bool (decide (xs = ys))) ∧ Below w.heap.size w w' := by
  have l1 := hx.1
  have l2 := hy.1
  by_cases hnm : n = m
  · subst hnm
    by_cases h0 : n = 0
    · subst h0
      refine (Tryz.slices_Equal_string_empty A B c 0 d w (by omega)).mono ?_
      rintro e w' ⟨rfl, rfl⟩
      refine ⟨?_, brefl⟩
      rw [List.eq_nil_of_length_eq_zero l1, List.eq_nil_of_length_eq_zero l2]; rfl
    · obtain ⟨b1, o1, rfl, _, h1⟩ := hx.2.2 (by rw [List.length_map]; omega)
      obtain ⟨b2, o2, rfl, _, h2⟩ := hy.2.2 (by rw [List.length_map]; omega)
      refine (Tryz.slices_Equal_string b1 o1 n c b2 o2 n d xs ys w (by omega) (by omega) (by omega) (by omega) ?_ ?_).mono ?_
      · intro j hj
        refine h1 j _ ?_
        simp [hj]
      · intro j hj
        refine h2 j _ ?_
        simp [hj]
      · rintro e w' ⟨rfl, q, rfl⟩
        rw [List.take_of_length_le (by omega), List.take_of_length_le (by omega)]
        exact ⟨rfl, brefl.drn _⟩
  · refine (Tryz.slices_Equal_string_lens A B n c m d w hnm).mono ?_
    rintro e w' ⟨rfl, rfl⟩
    refine ⟨?_, brefl⟩
    rw [show decide (xs = ys) = false from by rw [decide_eq_false_iff_not]; rintro rfl; omega]
end Go.Proofs.YtdfnfimajhagfaaGreatDoor
/- Walk of package vocabulary: Mentions. -/
namespace Rf
theorem isName_small {s : S} (h : isName s = true) : s.size ≤ 24 := by
  unfold isName at h
  simp only [Bool.and_eq_true, decide_eq_true_iff] at h
  exact h.1.1
theorem name_small {l : List Term} (h : (vvalid l).2 = 0) {t : Term} (ht : t ∈ l) : t.name.size ≤ 24 := by
  obtain ⟨q, f⟩ := (vok (show (vvalid l).2 = eOK from h)).fine t ht
  exact isName_small (possible_name f.poss)
theorem better_hit {lang : Int} {W : List S} {k : Nat} {b : Nat × S × S} {t : Term} (h1 : t.lang = 0 ∨ t.lang = lang) (h2 : b.1 < (nw t.name).length) (h3 : (nw t.name).length ≤ W.length - k) (h4 : (W.drop k).take (nw t.name).length = nw t.name) :
    better lang W k b t = ((nw t.name).length, t.name, prefT t) := by
  unfold better stands; rw [if_pos ⟨h1, h2, by rw [decide_eq_true h3, decide_eq_true h4]; rfl⟩]
theorem better_lang {lang : Int} {W : List S} {k : Nat} {b : Nat × S × S} {t : Term} (h1 : ¬ t.lang = 0) (h2 : ¬ t.lang = lang) : better lang W k b t = b := by
  unfold better; rw [if_neg (by rintro ⟨h | h, _⟩; exact h1 h; exact h2 h)]
theorem better_short {lang : Int} {W : List S} {k : Nat} {b : Nat × S × S} {t : Term} (h1 : ¬ b.1 < (nw t.name).length) : better lang W k b t = b := by
  unfold better; rw [if_neg (fun h => h1 h.2.1)]
theorem better_out {lang : Int} {W : List S} {k : Nat} {b : Nat × S × S} {t : Term} (h1 : ¬ (nw t.name).length ≤ W.length - k) : better lang W k b t = b := by
  unfold better stands; rw [if_neg (by rintro ⟨_, _, h⟩; rw [decide_eq_false h1] at h; cases h)]
theorem better_else {lang : Int} {W : List S} {k : Nat} {b : Nat × S × S} {t : Term} (h1 : ¬ (W.drop k).take (nw t.name).length = nw t.name) : better lang W k b t = b := by
  unfold better stands; rw [if_neg (by rintro ⟨_, _, h⟩; rw [decide_eq_false h1, Bool.and_false] at h; cases h)]
end Rf
namespace Go.Proofs.YtdfnfimajhagfaaGreatDoor
open Go.RowKit Go.Maps Rf
theorem pieces_nw (s : S) : pieces s = nw s := by
  unfold nw
  have h := pieces_words s
  show _ = (wordsB 32 s.data.toList).map ofB
  rw [← h, List.map_map]
  conv => lhs; rw [← List.map_id (pieces s)]
  apply List.map_congr_left
  intro a _
  show a = ofB (byts a)
  rw [ofB_byts]
def menCell (m : Men) : List Value := [.int .i64 m.lo, .int .i64 m.hi, .string m.name, .string m.pref]
def menCells (l : List Men) : List Value := l.flatMap menCell
theorem menCells_app (a b : List Men) : menCells (a ++ b) = menCells a ++ menCells b := by simp [menCells]
theorem menCells_len : ∀ l : List Men, (menCells l).length = l.length * 4
  | [] => rfl
  | t :: l => by
    have := menCells_len l
    show (menCell t ++ menCells l).length = _
    rw [List.length_append, this]; simp [menCell]; omega
theorem mens_cell (l : List Men) : ∀ u ∈ menCells l, u.oneCell' = true := by
  intro u hu
  obtain ⟨r, _, hr⟩ := List.mem_flatMap.1 hu
  simp [menCell] at hr
  rcases hr with rfl | rfl | rfl | rfl <;> rfl
theorem mensT : AppT Tryz.prog 47 64 4 48 := AppT.mk Tryz.underlying47 (z := .agg #[.int .i64 0, .int .i64 0, .string ByteArray.empty, .string ByteArray.empty]) (by kernel_rfl) rfl (by omega)
theorem rds_four (w : World) (u1 u2 u3 u4 : Value) (t : TypeId) : Rds (w.alloc (.cells #[u1, u2, u3, u4] t)) (some ⟨w.heap.size, 0, none⟩) [u1, u2, u3, u4] := fun _ =>
  ⟨w.heap.size, 0, rfl, by simp, fun j v hv => by
    match j, hv with
    | 0, hv => simp at hv; subst hv; exact cell_of_row _ _ 0 #[u1, u2, u3, u4] t (0, 0) (heap_alloc_new w _)
    | 1, hv => simp at hv; subst hv; exact cell_of_row _ _ 1 #[u1, u2, u3, u4] t (0, 0) (heap_alloc_new w _)
    | 2, hv => simp at hv; subst hv; exact cell_of_row _ _ 2 #[u1, u2, u3, u4] t (0, 0) (heap_alloc_new w _)
    | 3, hv => simp at hv; subst hv; exact cell_of_row _ _ 3 #[u1, u2, u3, u4] t (0, 0) (heap_alloc_new w _)⟩
/-- the box of the best so far -/
structure BX (w : World) (P : Nat) (k h : Nat) (nm pf : S) : Prop where
  lt : P < w.heap.size
  c0 : w.cell? ⟨P, 0, none⟩ = some (.int .i64 k)
  c1 : w.cell? ⟨P, 1, none⟩ = some (.int .i64 h)
  c2 : w.cell? ⟨P, 2, none⟩ = some (.string nm)
  c3 : w.cell? ⟨P, 3, none⟩ = some (.string pf)
  fr : ∀ j, w.frozen? ⟨P, j, none⟩ = false
theorem BX.below {w w' : World} {P k h : Nat} {nm pf : S} (hx : BX w P k h nm pf) (hb : Below w.heap.size w w') : BX w' P k h nm pf :=
  ⟨Nat.lt_of_lt_of_le hx.lt hb.size, (hb.cell (p := ⟨P, 0, none⟩) hx.lt).trans hx.c0, (hb.cell (p := ⟨P, 1, none⟩) hx.lt).trans hx.c1, (hb.cell (p := ⟨P, 2, none⟩) hx.lt).trans hx.c2, (hb.cell (p := ⟨P, 3, none⟩) hx.lt).trans hx.c3, fun j => (hb.frozen (p := ⟨P, j, none⟩) hx.lt).trans (hx.fr j)⟩
theorem BX.new (w : World) (k : Nat) (t : TypeId) : BX (w.alloc (.cells #[.int .i64 k, .int .i64 k, .string ⟨#[]⟩, .string ⟨#[]⟩] t)) w.heap.size k k ⟨#[]⟩ ⟨#[]⟩ :=
  ⟨by simp, cell_of_row _ _ 0 #[.int .i64 k, .int .i64 k, .string ⟨#[]⟩, .string ⟨#[]⟩] t (0, 0) (heap_alloc_new w _), cell_of_row _ _ 1 #[.int .i64 k, .int .i64 k, .string ⟨#[]⟩, .string ⟨#[]⟩] t (0, 0) (heap_alloc_new w _),
    cell_of_row _ _ 2 #[.int .i64 k, .int .i64 k, .string ⟨#[]⟩, .string ⟨#[]⟩] t (0, 0) (heap_alloc_new w _), cell_of_row _ _ 3 #[.int .i64 k, .int .i64 k, .string ⟨#[]⟩, .string ⟨#[]⟩] t (0, 0) (heap_alloc_new w _), fun j => by simp⟩
theorem BX.set {w : World} {P k h : Nat} {nm pf : S} (hx : BX w P k h nm pf) (k' h' : Nat) (nm' pf' : S) :
    BX ((((w.setCell ⟨P, 0, none⟩ (.int .i64 k')).setCell ⟨P, 1, none⟩ (.int .i64 h')).setCell ⟨P, 2, none⟩ (.string nm')).setCell ⟨P, 3, none⟩ (.string pf')) P k' h' nm' pf' := by
  have e0 := World.cell?_setCell_same w ⟨P, 0, none⟩ (.int .i64 k') hx.c0
  have o1 : (w.setCell ⟨P, 0, none⟩ (.int .i64 k')).cell? ⟨P, 1, none⟩ = some (.int .i64 h) := by rw [World.cell?_setCell_other _ _ _ _ (by simp)]; exact hx.c1
  have e1 := World.cell?_setCell_same _ ⟨P, 1, none⟩ (.int .i64 h') o1
  have o2 : ((w.setCell ⟨P, 0, none⟩ (.int .i64 k')).setCell ⟨P, 1, none⟩ (.int .i64 h')).cell? ⟨P, 2, none⟩ = some (.string nm) := by rw [World.cell?_setCell_other _ _ _ _ (by simp), World.cell?_setCell_other _ _ _ _ (by simp)]; exact hx.c2
  have e2 := World.cell?_setCell_same _ ⟨P, 2, none⟩ (.string nm') o2
  have o3 : (((w.setCell ⟨P, 0, none⟩ (.int .i64 k')).setCell ⟨P, 1, none⟩ (.int .i64 h')).setCell ⟨P, 2, none⟩ (.string nm')).cell? ⟨P, 3, none⟩ = some (.string pf) := by
    rw [World.cell?_setCell_other _ _ _ _ (by simp), World.cell?_setCell_other _ _ _ _ (by simp), World.cell?_setCell_other _ _ _ _ (by simp)]; exact hx.c3
  refine ⟨by simpa [World.setCell] using hx.lt, ?_, ?_, ?_, World.cell?_setCell_same _ _ _ o3, fun j => by rw [World.frozen?_setCell, World.frozen?_setCell, World.frozen?_setCell, World.frozen?_setCell]; exact hx.fr j⟩
  · rw [World.cell?_setCell_other _ _ _ _ (by simp), World.cell?_setCell_other _ _ _ _ (by simp), World.cell?_setCell_other _ _ _ _ (by simp)]; exact e0
  · rw [World.cell?_setCell_other _ _ _ _ (by simp), World.cell?_setCell_other _ _ _ _ (by simp)]; exact e1
  · rw [World.cell?_setCell_other _ _ _ _ (by simp)]; exact e2
/-- five cells of a new box -/
theorem box_five (w : World) {w' : World} (u0 u1 u2 u3 u4 : Value) (t : TypeId) (hb : Below (w.alloc (.cells #[u0, u1, u2, u3, u4] t)).heap.size (w.alloc (.cells #[u0, u1, u2, u3, u4] t)) w') :
    w'.cell? ⟨w.heap.size, 0, none⟩ = some u0 ∧ w'.cell? ⟨w.heap.size, 1, none⟩ = some u1 ∧ w'.cell? ⟨w.heap.size, 2, none⟩ = some u2 ∧ w'.cell? ⟨w.heap.size, 3, none⟩ = some u3 ∧ w'.cell? ⟨w.heap.size, 4, none⟩ = some u4 := by
  have hlt : w.heap.size < (w.alloc (.cells #[u0, u1, u2, u3, u4] t)).heap.size := by simp
  refine ⟨(hb.cell (p := ⟨w.heap.size, 0, none⟩) hlt).trans ?_, (hb.cell (p := ⟨w.heap.size, 1, none⟩) hlt).trans ?_, (hb.cell (p := ⟨w.heap.size, 2, none⟩) hlt).trans ?_, (hb.cell (p := ⟨w.heap.size, 3, none⟩) hlt).trans ?_, (hb.cell (p := ⟨w.heap.size, 4, none⟩) hlt).trans ?_⟩
  · exact cell_of_row _ _ 0 #[u0, u1, u2, u3, u4] t (0, 0) (heap_alloc_new w _)
  · exact cell_of_row _ _ 1 #[u0, u1, u2, u3, u4] t (0, 0) (heap_alloc_new w _)
  · exact cell_of_row _ _ 2 #[u0, u1, u2, u3, u4] t (0, 0) (heap_alloc_new w _)
  · exact cell_of_row _ _ 3 #[u0, u1, u2, u3, u4] t (0, 0) (heap_alloc_new w _)
  · exact cell_of_row _ _ 4 #[u0, u1, u2, u3, u4] t (0, 0) (heap_alloc_new w _)
theorem nw_len {s : S} (h : s.size ≤ 24) : 1 ≤ (nw s).length ∧ (nw s).length ≤ 25 := by
  rw [← pieces_nw, pieces_length]
  have := Lib.countB_le blank (by decide) _ s (Nat.le_refl _)
  omega
theorem spl_any (s : S) (np : Nat) (w : World) (hr : Rdy w) (hs : s.size ≤ 24) (hnp : (nw s).length = np) :
    Calls Tryz.prog 85 #[.string s, .string ⟨#[32]⟩] w fun e w' =>
      e = .returned (.slice (some ⟨w.heap.size, 0, none⟩) np np) ∧ Strs w' (some ⟨w.heap.size, 0, none⟩) np (nw s) ∧ Below w.heap.size w w' := by
  subst hnp
  have := split_any s w hr hs
  rw [pieces_nw] at this
  exact this
theorem Strs.cut {w : World} {b off n k m : Nat} {l : List S} (h : Strs w (some ⟨b, off, none⟩) n l) (hm : k + m ≤ n) : Strs w (some ⟨b, off + k, none⟩) m ((l.drop k).take m) := by
  have hl := h.1
  refine ⟨by rw [List.length_take, List.length_drop]; omega, fun x hx => h.2.1 x (List.mem_of_mem_drop (List.mem_of_mem_take hx)), fun h0 => ?_⟩
  rw [List.length_map, List.length_take, List.length_drop] at h0
  obtain ⟨b', off', e, hlt, hc⟩ := h.2.2 (by rw [List.length_map]; omega)
  injection e with e
  injection e with e1 e2
  subst e1; subst e2
  refine ⟨b, off + k, rfl, hlt, fun j u hu => ?_⟩
  rw [Nat.add_assoc]
  refine hc (k + j) u ?_
  rw [List.getElem?_map, List.getElem?_take] at hu
  rw [List.getElem?_map]
  split at hu
  · rwa [List.getElem?_drop] at hu
  · cases hu
/-- the mentions of a text -/
noncomputable def mentions (l : List Term) (s : S) (lang : Int) : List Men := if (vvalid l).2 = 0 then mens l lang (folded s (toks (byts s) 0)) 0 else []
theorem better_pref {lang : Int} {W : List S} {k M : Nat} {b : Nat × S × S} {t : Term} (h1 : b.2.2.size ≤ M) (h2 : t.name.size ≤ M) (h3 : t.see.size ≤ M) : (Rf.better lang W k b t).2.2.size ≤ M := by
  unfold Rf.better prefT
  split
  · dsimp only
    split
    · exact h2
    · exact h3
  · exact h1
theorem bestM_pref {lang : Int} {W : List S} {k M : Nat} {l : List Term} (h : ∀ t ∈ l, t.name.size ≤ M ∧ t.see.size ≤ M) : (bestM lang W k l).2.2.size ≤ M := by
  unfold bestM
  have : ∀ (l : List Term) (b : Nat × S × S), (∀ t ∈ l, t.name.size ≤ M ∧ t.see.size ≤ M) → b.2.2.size ≤ M → (l.foldl (Rf.better lang W k) b).2.2.size ≤ M := by
    intro l
    induction l with
    | nil => intro b _ hb; exact hb
    | cons t l ih =>
      intro b h hb
      rw [List.foldl_cons]
      exact ih _ (fun u hu => h u (List.mem_cons_of_mem _ hu)) (better_pref hb (h t List.mem_cons_self).1 (h t List.mem_cons_self).2)
  exact this l _ h (by show (⟨#[]⟩ : S).size ≤ M; exact Nat.zero_le _)
theorem mens_pref {lang : Int} {W : List S} {M : Nat} {l : List Term} (h : ∀ t ∈ l, t.name.size ≤ M ∧ t.see.size ≤ M) : ∀ (d k : Nat), W.length - k = d → ∀ m ∈ mens l lang W k, m.pref.size ≤ M := by
  intro d
  induction d using Nat.strongRecOn with
  | _ d ih =>
    intro k hd m hm
    by_cases hk : k < W.length
    · by_cases h0 : (bestM lang W k l).1 = 0
      · rw [mens_none hk h0] at hm
        exact ih (W.length - (k + 1)) (by omega) (k + 1) rfl m hm
      · rw [mens_one hk h0] at hm
        rcases List.mem_cons.1 hm with rfl | hm
        · exact bestM_pref h
        · exact ih (W.length - (k + (bestM lang W k l).1)) (by omega) _ rfl m hm
    · rw [mens_end hk] at hm; cases hm
theorem mentions_pref {l : List Term} {s : S} {lang : Int} {M : Nat} (h : ∀ t ∈ l, t.name.size ≤ M ∧ t.see.size ≤ M) : ∀ m ∈ mentions l s lang, m.pref.size ≤ M := by
  intro m hm
  unfold mentions at hm
  split at hm
  · exact mens_pref h _ _ rfl m hm
  · cases hm
theorem menCells_snoc {w : World} {base : Nat} {e : TypeId} {A : Option Addr} {n c : Nat} {l : List Men} {m : Men} (o : Own w base e 4 (.slice A n c) n (menCells l ++ menCells [m])) : Own w base e 4 (.slice A n c) n (menCells (l ++ [m])) := by
  rw [menCells_app]; exact o
set_option maxRecDepth 20000 in
set_option maxHeartbeats 4000000 in
theorem mentions_any (A : Option Addr) (n c : Nat) (ms : List TM) (s : S) (lang : Int) (w : World) (hm : n ≤ 100000) (hr : Rdy w) (hl : Tms w A n ms) (hs : s.size ≤ 1000000) :
    Calls Tryz.prog 27 #[.slice A n c, .string s, .int .i64 lang] w fun e w' => ∃ A' k c', e = .returned (.slice A' k c') ∧ k ≤ c' ∧ k ≤ s.size ∧ (mentions (terms ms) s lang).length = k ∧ Own w' w.heap.size 64 4 (.slice A' k c') k (menCells (mentions (terms ms) s lang)) ∧ Below w.heap.size w w' := by
  have hv := vok_any A n c ms w hm hr hl
  have hlt := terms_length hl
  by_cases h0 : (vvalid (terms ms)).2 = 0
  · have hres := Lib.hid (show mentions (terms ms) s lang = mens (terms ms) lang (folded s (toks (byts s) 0)) 0 from if_pos h0)
    have hns : ∀ m ∈ ms, m.t.name.size ≤ 24 := fun m hm => name_small h0 (List.mem_map_of_mem hm)
    rw [decide_eq_true h0] at hv
    clear h0
    obtain ⟨W, hW⟩ : ∃ W, folded s (toks (byts s) 0) = W := ⟨_, rfl⟩
    have HW := Lib.hid hW
    rw [hW] at hres
    clear hW
    go_enter Tryz.func27, Tryz.ntmps27
    go_wp2_with (first
      | (go_at_call 83; go_loud (refine hv.mono ?_; rintro e w1 ⟨rfl, hb1⟩))
      | (go_at_call 84; go_loud (refine (vwords_any s _ hs).mono ?_; rintro e w2 ⟨Aw, nW, rfl, hnW, hsw, hb2⟩; rw [HW.out] at hsw)))
    have hb12 := hb1.tr hb2
    have hWl := Lib.hid hsw.1
    go_loopw [8, 9] (fun o at_ wr => ∃ (k m1 c1 : Nat) (A1 : Option Addr) (ol : List Men), k ≤ nW ∧ at_ = .int .i64 k ∧ o = .slice A1 m1 c1 ∧ m1 ≤ c1 ∧ m1 ≤ k ∧ ol.length = m1 ∧ Own wr w2.heap.size 64 4 (.slice A1 m1 c1) m1 (menCells ol) ∧ Hid (ol ++ mens (terms ms) lang W k = mens (terms ms) lang W 0) ∧ Below w2.heap.size w2 wr) (fun _ at_ _ => nW - (intOf at_).toNat)
    case atStart => exact ⟨0, 0, 0, none, [], by omega, rfl, rfl, by omega, by omega, rfl, Own.nil _ _ _ (Nat.le_refl _), Lib.hid rfl, brefl⟩
    case round =>
      obtain ⟨k, m1, c1, A1, ol, hk, rfl, rfl, hc1, hm1, hol, ho, hH, hbW⟩ := hrel
      by_cases hlk : k < nW
      · have hlk' : (k : Int) < nW := by omega
        obtain ⟨bW, offW, xW, rfl, _, _, _, _⟩ := hsw.at_ hlk
        obtain ⟨wo, hwo⟩ : ∃ wo : World, wo = wr := ⟨_, rfl⟩
        subst hwo
        go_wp2
        go_loopw [28] (fun ii wz => ∃ (j h : Nat) (nm pf : S), j ≤ n ∧ ii = .int .i64 j ∧ k ≤ h ∧ h ≤ nW ∧ Hid (bestM lang W k ((terms ms).take j) = (h - k, nm, pf)) ∧ BX wz wo.heap.size k h nm pf ∧ Below wo.heap.size wo wz) (fun ii _ => n - (intOf ii).toNat)
        case atStart => exact ⟨0, k, ⟨#[]⟩, ⟨#[]⟩, by omega, rfl, Nat.le_refl _, hk, Lib.hid (by rw [Nat.sub_self, List.take_zero]; rfl), BX.new wo k _, brefl.al _⟩
        case round =>
          obtain ⟨j, h, nm, pf, hj, rfl, hkh, hhn, hB, hbx, hbz⟩ := hrel
          have hbr := (hb12.tr hbW).tr hbz
          by_cases hlj : j < n
          · obtain ⟨b, off, m, rfl, hx, hok, hb0, d1, d2, d3, d4, d5⟩ := (hl.below hbr).at_ hlj
            have hlj' : (j : Int) < n := by omega
            have htk := terms_get hx
            have hsn := hns m (List.mem_of_getElem? hx)
            have HB := Lib.hid (show ∀ v, Rf.better lang W k (h - k, nm, pf) m.t = v → bestM lang W k ((terms ms).take (j + 1)) = v from fun v hv => by rw [bestM_snoc _ _ _ htk, hB.out, hv])
            have hnl := nw_len hsn
            obtain ⟨np, hnp⟩ : ∃ np, (nw m.t.name).length = np := ⟨_, rfl⟩
            rw [hnp] at hnl
            have HNP := Lib.hid hnp
            have hnpo := HNP
            have hPl : wo.heap.size ≤ wo.heap.size := Nat.le_refl _
            clear hnp hx hok htk hB
            by_cases hl0 : m.t.lang = 0
            · have hl0' : (m.t.lang == 0) = true := by rw [hl0]; rfl
              have HL0 := Lib.hid hl0
              clear hl0
              by_cases hlen : h - k < np
              · have hlen' : (h : Int) - k < np := by omega
                by_cases hfit : np ≤ nW - k
                · have hfit' : (np : Int) ≤ (nW : Int) - k := by omega
                  have hkn : k + np ≤ nW := by omega
                  obtain ⟨ev, hev⟩ : ∃ ev, decide ((W.drop k).take np = nw m.t.name) = ev := ⟨_, rfl⟩
                  have HEQ := Lib.hid hev
                  cases ev
                  · have HB2 := Lib.hid (HB.out _ (better_else (W := W) (k := k) (b := (h - k, nm, pf)) (t := m.t) (lang := lang) (by rw [hnpo.out]; simpa using hev)))
                    clear hev
                    go_wp2_with (first
                                  | (go_at_call 85; go_loud (refine (spl_any m.t.name np _ ((hr.below hbr).below (brefl.al _)) hsn HNP.out).mono ?_; rintro e w3 ⟨rfl, hs3, hb3⟩; obtain ⟨q0, q1, q2, q3, q4⟩ := box_five wr _ _ _ _ _ _ hb3; have hbz3 := (brefl.al (.cells #[.string m.t.name, .int .i64 m.t.kind, .int .i64 m.t.lang, .string m.t.see, .slice m.A m.n m.c] 33) : Below wr.heap.size wr _).tr hb3; have hbx3 := hbx.below hbz3; have hx1 := hbx3.c1; rw [World.size_alloc] at hs3))
                                  | (go_at_call 86; go_loud (refine (equal_any _ _ np (nW - k) np np ((W.drop k).take np) (nw m.t.name) _ (by omega) (by omega) ((hsw.below ((hbW.tr hbz).tr hbz3)).cut (by omega)) hs3).mono ?_; rintro e w4 ⟨rfl, hb4⟩; rw [HEQ.out]; have hbx4 := hbx3.below hb4)))
                    go_roundw
                    case rel => exact ⟨j + 1, h, nm, pf, by omega, by go_num, hkh, hhn, HB2, (hbx3.below hb4), ((hbz.tr hbz3).tr hb4)⟩
                    case measure => simp [intOf]; omega
                  · have HB2 := Lib.hid (HB.out _ (better_hit (W := W) (k := k) (b := (h - k, nm, pf)) (t := m.t) (lang := lang) (.inl HL0.out) (by rw [hnpo.out]; exact hlen) (by rw [hnpo.out, hWl.out]; exact hfit) (by rw [hnpo.out]; simpa using hev)))
                    clear hev
                    go_wp2_with (first
                                  | (go_at_call 85; go_loud (refine (spl_any m.t.name np _ ((hr.below hbr).below (brefl.al _)) hsn HNP.out).mono ?_; rintro e w3 ⟨rfl, hs3, hb3⟩; obtain ⟨q0, q1, q2, q3, q4⟩ := box_five wr _ _ _ _ _ _ hb3; have hbz3 := (brefl.al (.cells #[.string m.t.name, .int .i64 m.t.kind, .int .i64 m.t.lang, .string m.t.see, .slice m.A m.n m.c] 33) : Below wr.heap.size wr _).tr hb3; have hbx3 := hbx.below hbz3; have hx1 := hbx3.c1; rw [World.size_alloc] at hs3))
                                  | (go_at_call 86; go_loud (refine (equal_any _ _ np (nW - k) np np ((W.drop k).take np) (nw m.t.name) _ (by omega) (by omega) ((hsw.below ((hbW.tr hbz).tr hbz3)).cut (by omega)) hs3).mono ?_; rintro e w4 ⟨rfl, hb4⟩; rw [HEQ.out]; have hbx4 := hbx3.below hb4)))
                    have hcells : ∀ wz, Below w4.heap.size w4 wz → wz.cell? ⟨wr.heap.size, 0, none⟩ = some (.string m.t.name) ∧ wz.cell? ⟨wr.heap.size, 1, none⟩ = some (.int .i64 m.t.kind) ∧ wz.cell? ⟨wr.heap.size, 2, none⟩ = some (.int .i64 m.t.lang) ∧ wz.cell? ⟨wr.heap.size, 3, none⟩ = some (.string m.t.see) ∧ wz.cell? ⟨wr.heap.size, 4, none⟩ = some (.slice m.A m.n m.c) := fun wz hz => box_five wr _ _ _ _ _ _ ((hb3.tr hb4).tr hz)
                    have hdr : Below w4.heap.size w4 w4.drew := brefl.drn 1
                    have hS := hcells _ hdr
                    clear q0 q1 q2 q3 q4 hx1
                    refine wp_region_mix [(true, 0), (true, 1), (true, 2), (true, 3), (true, 4), (true, 5), (true, 6), (true, 7), (false, 8), (true, 9), (false, 10)] 10 (fun wz => wz.cell? ⟨wr.heap.size, 0, none⟩ = some (.string m.t.name) ∧ wz.cell? ⟨wr.heap.size, 1, none⟩ = some (.int .i64 m.t.kind) ∧ wz.cell? ⟨wr.heap.size, 2, none⟩ = some (.int .i64 m.t.lang) ∧ wz.cell? ⟨wr.heap.size, 3, none⟩ = some (.string m.t.see) ∧ wz.cell? ⟨wr.heap.size, 4, none⟩ = some (.slice m.A m.n m.c)) (by kernel_rfl) (by kernel_rfl) ?_
                    refine wpMix_put (v := ?_) rfl rfl (Or.inl ⟨by rfl, fun wz hz => ?_⟩) hS ?_
                    rotate_left
                    (focus (go_simp; try (with_reducible rfl)))
                    simp only [List.setIfInBounds_toArray, List.set_cons_succ, List.set_cons_zero]
                    refine wpMix_put (v := ?_) rfl rfl (Or.inl ⟨by rfl, fun wz hz => ?_⟩) hS ?_
                    rotate_left
                    (focus (go_simp; try (with_reducible rfl)))
                    simp only [List.setIfInBounds_toArray, List.set_cons_succ, List.set_cons_zero]
                    refine wpMix_put (v := ?_) rfl rfl (Or.inl ⟨by rfl, fun wz hz => ?_⟩) hS ?_
                    rotate_left
                    (focus (go_simp; try (with_reducible rfl)))
                    simp only [List.setIfInBounds_toArray, List.set_cons_succ, List.set_cons_zero]
                    refine wpMix_put (v := ?_) rfl rfl (Or.inl ⟨by rfl, fun wz hz => ?_⟩) hS ?_
                    rotate_left
                    (focus (go_simp; try (with_reducible rfl)))
                    simp only [List.setIfInBounds_toArray, List.set_cons_succ, List.set_cons_zero]
                    refine wpMix_put (v := ?_) rfl rfl (Or.inl ⟨by rfl, fun wz hz => ?_⟩) hS ?_
                    rotate_left
                    (focus (go_simp; try (with_reducible rfl)))
                    simp only [List.setIfInBounds_toArray, List.set_cons_succ, List.set_cons_zero]
                    refine wpMix_put (v := ?_) rfl rfl (Or.inl ⟨by rfl, fun wz hz => ?_⟩) hS ?_
                    rotate_left
                    (focus (go_simp; try (with_reducible rfl)))
                    simp only [List.setIfInBounds_toArray, List.set_cons_succ, List.set_cons_zero]
                    refine wpMix_put (v := ?_) rfl rfl (Or.inl ⟨by rfl, fun wz hz => ?_⟩) hS ?_
                    rotate_left
                    (focus (go_simp; try (with_reducible rfl)))
                    simp only [List.setIfInBounds_toArray, List.set_cons_succ, List.set_cons_zero]
                    refine wpMix_put (v := ?_) rfl rfl (Or.inl ⟨by rfl, fun wz hz => ?_⟩) hS ?_
                    rotate_left
                    (focus (go_simp; try (with_reducible rfl)))
                    simp only [List.setIfInBounds_toArray, List.set_cons_succ, List.set_cons_zero]
                    refine wpMix_step rfl (fun K hK => ?_)
                    go_simp
                    refine (preferred_any m _).mono ?_
                    rintro e w7 ⟨rfl, hbc⟩
                    go_simp
                    have hS7 := hcells _ (hdr.tr hbc)
                    refine hK _ _ (fun _ => hS7) ?_
                    clear hK K hS
                    have hS := hS7
                    clear hS7
                    have hb7 := hdr.tr hbc
                    have hbx7 := hbx4.below hb7
                    have x0 := hbx7.c0
                    have x1 := hbx7.c1
                    have x2 := hbx7.c2
                    have x3 := hbx7.c3
                    have xf0 := hbx7.fr 0
                    have xf1 := hbx7.fr 1
                    have xf2 := hbx7.fr 2
                    have xf3 := hbx7.fr 3
                    clear hbc
                    refine wpMix_put (v := ?_) rfl rfl (Or.inl ⟨by rfl, fun wz hz => ?_⟩) hS ?_
                    rotate_left
                    (focus (go_simp; try (with_reducible rfl)))
                    simp only [List.setIfInBounds_toArray, List.set_cons_succ, List.set_cons_zero]
                    refine wpMix_step rfl (fun K hK => ?_)
                    go_simp
                    refine hK _ _ (fun h => absurd rfl h) ?_
                    clear hK K
                    refine wpMix_nil ?_
                    have hbx9 := hbx7.set k (k + np) m.t.name (prefT m.t)
                    go_wp2
                    go_roundw
                    case rel => exact ⟨j + 1, k + np, m.t.name, prefT m.t, by omega, by go_num, by omega, by omega, Lib.hid (by rw [HB2.out, hnpo.out]; congr 1; omega), hbx9, ((((hbz.tr (hbz3.tr (hb4.tr hb7))).st (p := ⟨wo.heap.size, 0, none⟩) hPl _).st (p := ⟨wo.heap.size, 1, none⟩) hPl _).st (p := ⟨wo.heap.size, 2, none⟩) hPl _).st (p := ⟨wo.heap.size, 3, none⟩) hPl _⟩
                    case measure => simp [intOf]; omega
                · have hfit' : ¬ (np : Int) ≤ (nW : Int) - k := by omega
                  have HB2 := Lib.hid (HB.out _ (better_out (W := W) (k := k) (b := (h - k, nm, pf)) (t := m.t) (lang := lang) (by rw [hnpo.out, hWl.out]; exact hfit)))
                  go_wp2_with (first
                                | (go_at_call 85; go_loud (refine (spl_any m.t.name np _ ((hr.below hbr).below (brefl.al _)) hsn HNP.out).mono ?_; rintro e w3 ⟨rfl, hs3, hb3⟩; obtain ⟨q0, q1, q2, q3, q4⟩ := box_five wr _ _ _ _ _ _ hb3; have hbz3 := (brefl.al (.cells #[.string m.t.name, .int .i64 m.t.kind, .int .i64 m.t.lang, .string m.t.see, .slice m.A m.n m.c] 33) : Below wr.heap.size wr _).tr hb3; have hbx3 := hbx.below hbz3; have hx1 := hbx3.c1; rw [World.size_alloc] at hs3))
                                | (go_at_call 86; go_loud (refine (equal_any _ _ np (nW - k) np np ((W.drop k).take np) (nw m.t.name) _ (by omega) (by omega) ((hsw.below ((hbW.tr hbz).tr hbz3)).cut (by omega)) hs3).mono ?_; rintro e w4 ⟨rfl, hb4⟩; rw [HEQ.out]; have hbx4 := hbx3.below hb4)))
                  go_roundw
                  case rel => exact ⟨j + 1, h, nm, pf, by omega, by go_num, hkh, hhn, HB2, hbx3, (hbz.tr hbz3)⟩
                  case measure => simp [intOf]; omega
              · have hlen' : ¬ (h : Int) - k < np := by omega
                have HB2 := Lib.hid (HB.out _ (better_short (W := W) (k := k) (b := (h - k, nm, pf)) (t := m.t) (lang := lang) (by rw [hnpo.out]; exact hlen)))
                go_wp2_with (first
                              | (go_at_call 85; go_loud (refine (spl_any m.t.name np _ ((hr.below hbr).below (brefl.al _)) hsn HNP.out).mono ?_; rintro e w3 ⟨rfl, hs3, hb3⟩; obtain ⟨q0, q1, q2, q3, q4⟩ := box_five wr _ _ _ _ _ _ hb3; have hbz3 := (brefl.al (.cells #[.string m.t.name, .int .i64 m.t.kind, .int .i64 m.t.lang, .string m.t.see, .slice m.A m.n m.c] 33) : Below wr.heap.size wr _).tr hb3; have hbx3 := hbx.below hbz3; have hx1 := hbx3.c1; rw [World.size_alloc] at hs3))
                              | (go_at_call 86; go_loud (refine (equal_any _ _ np (nW - k) np np ((W.drop k).take np) (nw m.t.name) _ (by omega) (by omega) ((hsw.below ((hbW.tr hbz).tr hbz3)).cut (by omega)) hs3).mono ?_; rintro e w4 ⟨rfl, hb4⟩; rw [HEQ.out]; have hbx4 := hbx3.below hb4)))
                go_roundw
                case rel => exact ⟨j + 1, h, nm, pf, by omega, by go_num, hkh, hhn, HB2, hbx3, (hbz.tr hbz3)⟩
                case measure => simp [intOf]; omega
            · have hl0' : (m.t.lang == 0) = false := by rw [beq_eq_false_iff_ne]; exact hl0
              by_cases hl1 : m.t.lang = lang
              · have hl1' : (m.t.lang == lang) = true := by rw [hl1]; exact beq_self_eq_true _
                have HL1 := Lib.hid hl1
                clear hl1 hl0
                by_cases hlen : h - k < np
                · have hlen' : (h : Int) - k < np := by omega
                  by_cases hfit : np ≤ nW - k
                  · have hfit' : (np : Int) ≤ (nW : Int) - k := by omega
                    have hkn : k + np ≤ nW := by omega
                    obtain ⟨ev, hev⟩ : ∃ ev, decide ((W.drop k).take np = nw m.t.name) = ev := ⟨_, rfl⟩
                    have HEQ := Lib.hid hev
                    cases ev
                    · have HB2 := Lib.hid (HB.out _ (better_else (W := W) (k := k) (b := (h - k, nm, pf)) (t := m.t) (lang := lang) (by rw [hnpo.out]; simpa using hev)))
                      clear hev
                      go_wp2_with (first
                                    | (go_at_call 85; go_loud (refine (spl_any m.t.name np _ ((hr.below hbr).below (brefl.al _)) hsn HNP.out).mono ?_; rintro e w3 ⟨rfl, hs3, hb3⟩; obtain ⟨q0, q1, q2, q3, q4⟩ := box_five wr _ _ _ _ _ _ hb3; have hbz3 := (brefl.al (.cells #[.string m.t.name, .int .i64 m.t.kind, .int .i64 m.t.lang, .string m.t.see, .slice m.A m.n m.c] 33) : Below wr.heap.size wr _).tr hb3; have hbx3 := hbx.below hbz3; have hx1 := hbx3.c1; rw [World.size_alloc] at hs3))
                                    | (go_at_call 86; go_loud (refine (equal_any _ _ np (nW - k) np np ((W.drop k).take np) (nw m.t.name) _ (by omega) (by omega) ((hsw.below ((hbW.tr hbz).tr hbz3)).cut (by omega)) hs3).mono ?_; rintro e w4 ⟨rfl, hb4⟩; rw [HEQ.out]; have hbx4 := hbx3.below hb4)))
                      go_roundw
                      case rel => exact ⟨j + 1, h, nm, pf, by omega, by go_num, hkh, hhn, HB2, (hbx3.below hb4), ((hbz.tr hbz3).tr hb4)⟩
                      case measure => simp [intOf]; omega
                    · have HB2 := Lib.hid (HB.out _ (better_hit (W := W) (k := k) (b := (h - k, nm, pf)) (t := m.t) (lang := lang) (.inr HL1.out) (by rw [hnpo.out]; exact hlen) (by rw [hnpo.out, hWl.out]; exact hfit) (by rw [hnpo.out]; simpa using hev)))
                      clear hev
                      go_wp2_with (first
                                    | (go_at_call 85; go_loud (refine (spl_any m.t.name np _ ((hr.below hbr).below (brefl.al _)) hsn HNP.out).mono ?_; rintro e w3 ⟨rfl, hs3, hb3⟩; obtain ⟨q0, q1, q2, q3, q4⟩ := box_five wr _ _ _ _ _ _ hb3; have hbz3 := (brefl.al (.cells #[.string m.t.name, .int .i64 m.t.kind, .int .i64 m.t.lang, .string m.t.see, .slice m.A m.n m.c] 33) : Below wr.heap.size wr _).tr hb3; have hbx3 := hbx.below hbz3; have hx1 := hbx3.c1; rw [World.size_alloc] at hs3))
                                    | (go_at_call 86; go_loud (refine (equal_any _ _ np (nW - k) np np ((W.drop k).take np) (nw m.t.name) _ (by omega) (by omega) ((hsw.below ((hbW.tr hbz).tr hbz3)).cut (by omega)) hs3).mono ?_; rintro e w4 ⟨rfl, hb4⟩; rw [HEQ.out]; have hbx4 := hbx3.below hb4)))
                      have hcells : ∀ wz, Below w4.heap.size w4 wz → wz.cell? ⟨wr.heap.size, 0, none⟩ = some (.string m.t.name) ∧ wz.cell? ⟨wr.heap.size, 1, none⟩ = some (.int .i64 m.t.kind) ∧ wz.cell? ⟨wr.heap.size, 2, none⟩ = some (.int .i64 m.t.lang) ∧ wz.cell? ⟨wr.heap.size, 3, none⟩ = some (.string m.t.see) ∧ wz.cell? ⟨wr.heap.size, 4, none⟩ = some (.slice m.A m.n m.c) := fun wz hz => box_five wr _ _ _ _ _ _ ((hb3.tr hb4).tr hz)
                      have hdr : Below w4.heap.size w4 w4.drew := brefl.drn 1
                      have hS := hcells _ hdr
                      clear q0 q1 q2 q3 q4 hx1
                      refine wp_region_mix [(true, 0), (true, 1), (true, 2), (true, 3), (true, 4), (true, 5), (true, 6), (true, 7), (false, 8), (true, 9), (false, 10)] 10 (fun wz => wz.cell? ⟨wr.heap.size, 0, none⟩ = some (.string m.t.name) ∧ wz.cell? ⟨wr.heap.size, 1, none⟩ = some (.int .i64 m.t.kind) ∧ wz.cell? ⟨wr.heap.size, 2, none⟩ = some (.int .i64 m.t.lang) ∧ wz.cell? ⟨wr.heap.size, 3, none⟩ = some (.string m.t.see) ∧ wz.cell? ⟨wr.heap.size, 4, none⟩ = some (.slice m.A m.n m.c)) (by kernel_rfl) (by kernel_rfl) ?_
                      refine wpMix_put (v := ?_) rfl rfl (Or.inl ⟨by rfl, fun wz hz => ?_⟩) hS ?_
                      rotate_left
                      (focus (go_simp; try (with_reducible rfl)))
                      simp only [List.setIfInBounds_toArray, List.set_cons_succ, List.set_cons_zero]
                      refine wpMix_put (v := ?_) rfl rfl (Or.inl ⟨by rfl, fun wz hz => ?_⟩) hS ?_
                      rotate_left
                      (focus (go_simp; try (with_reducible rfl)))
                      simp only [List.setIfInBounds_toArray, List.set_cons_succ, List.set_cons_zero]
                      refine wpMix_put (v := ?_) rfl rfl (Or.inl ⟨by rfl, fun wz hz => ?_⟩) hS ?_
                      rotate_left
                      (focus (go_simp; try (with_reducible rfl)))
                      simp only [List.setIfInBounds_toArray, List.set_cons_succ, List.set_cons_zero]
                      refine wpMix_put (v := ?_) rfl rfl (Or.inl ⟨by rfl, fun wz hz => ?_⟩) hS ?_
                      rotate_left
                      (focus (go_simp; try (with_reducible rfl)))
                      simp only [List.setIfInBounds_toArray, List.set_cons_succ, List.set_cons_zero]
                      refine wpMix_put (v := ?_) rfl rfl (Or.inl ⟨by rfl, fun wz hz => ?_⟩) hS ?_
                      rotate_left
                      (focus (go_simp; try (with_reducible rfl)))
                      simp only [List.setIfInBounds_toArray, List.set_cons_succ, List.set_cons_zero]
                      refine wpMix_put (v := ?_) rfl rfl (Or.inl ⟨by rfl, fun wz hz => ?_⟩) hS ?_
                      rotate_left
                      (focus (go_simp; try (with_reducible rfl)))
                      simp only [List.setIfInBounds_toArray, List.set_cons_succ, List.set_cons_zero]
                      refine wpMix_put (v := ?_) rfl rfl (Or.inl ⟨by rfl, fun wz hz => ?_⟩) hS ?_
                      rotate_left
                      (focus (go_simp; try (with_reducible rfl)))
                      simp only [List.setIfInBounds_toArray, List.set_cons_succ, List.set_cons_zero]
                      refine wpMix_put (v := ?_) rfl rfl (Or.inl ⟨by rfl, fun wz hz => ?_⟩) hS ?_
                      rotate_left
                      (focus (go_simp; try (with_reducible rfl)))
                      simp only [List.setIfInBounds_toArray, List.set_cons_succ, List.set_cons_zero]
                      refine wpMix_step rfl (fun K hK => ?_)
                      go_simp
                      refine (preferred_any m _).mono ?_
                      rintro e w7 ⟨rfl, hbc⟩
                      go_simp
                      have hS7 := hcells _ (hdr.tr hbc)
                      refine hK _ _ (fun _ => hS7) ?_
                      clear hK K hS
                      have hS := hS7
                      clear hS7
                      have hb7 := hdr.tr hbc
                      have hbx7 := hbx4.below hb7
                      have x0 := hbx7.c0
                      have x1 := hbx7.c1
                      have x2 := hbx7.c2
                      have x3 := hbx7.c3
                      have xf0 := hbx7.fr 0
                      have xf1 := hbx7.fr 1
                      have xf2 := hbx7.fr 2
                      have xf3 := hbx7.fr 3
                      clear hbc
                      refine wpMix_put (v := ?_) rfl rfl (Or.inl ⟨by rfl, fun wz hz => ?_⟩) hS ?_
                      rotate_left
                      (focus (go_simp; try (with_reducible rfl)))
                      simp only [List.setIfInBounds_toArray, List.set_cons_succ, List.set_cons_zero]
                      refine wpMix_step rfl (fun K hK => ?_)
                      go_simp
                      refine hK _ _ (fun h => absurd rfl h) ?_
                      clear hK K
                      refine wpMix_nil ?_
                      have hbx9 := hbx7.set k (k + np) m.t.name (prefT m.t)
                      go_wp2
                      go_roundw
                      case rel => exact ⟨j + 1, k + np, m.t.name, prefT m.t, by omega, by go_num, by omega, by omega, Lib.hid (by rw [HB2.out, hnpo.out]; congr 1; omega), hbx9, ((((hbz.tr (hbz3.tr (hb4.tr hb7))).st (p := ⟨wo.heap.size, 0, none⟩) hPl _).st (p := ⟨wo.heap.size, 1, none⟩) hPl _).st (p := ⟨wo.heap.size, 2, none⟩) hPl _).st (p := ⟨wo.heap.size, 3, none⟩) hPl _⟩
                      case measure => simp [intOf]; omega
                  · have hfit' : ¬ (np : Int) ≤ (nW : Int) - k := by omega
                    have HB2 := Lib.hid (HB.out _ (better_out (W := W) (k := k) (b := (h - k, nm, pf)) (t := m.t) (lang := lang) (by rw [hnpo.out, hWl.out]; exact hfit)))
                    go_wp2_with (first
                                  | (go_at_call 85; go_loud (refine (spl_any m.t.name np _ ((hr.below hbr).below (brefl.al _)) hsn HNP.out).mono ?_; rintro e w3 ⟨rfl, hs3, hb3⟩; obtain ⟨q0, q1, q2, q3, q4⟩ := box_five wr _ _ _ _ _ _ hb3; have hbz3 := (brefl.al (.cells #[.string m.t.name, .int .i64 m.t.kind, .int .i64 m.t.lang, .string m.t.see, .slice m.A m.n m.c] 33) : Below wr.heap.size wr _).tr hb3; have hbx3 := hbx.below hbz3; have hx1 := hbx3.c1; rw [World.size_alloc] at hs3))
                                  | (go_at_call 86; go_loud (refine (equal_any _ _ np (nW - k) np np ((W.drop k).take np) (nw m.t.name) _ (by omega) (by omega) ((hsw.below ((hbW.tr hbz).tr hbz3)).cut (by omega)) hs3).mono ?_; rintro e w4 ⟨rfl, hb4⟩; rw [HEQ.out]; have hbx4 := hbx3.below hb4)))
                    go_roundw
                    case rel => exact ⟨j + 1, h, nm, pf, by omega, by go_num, hkh, hhn, HB2, hbx3, (hbz.tr hbz3)⟩
                    case measure => simp [intOf]; omega
                · have hlen' : ¬ (h : Int) - k < np := by omega
                  have HB2 := Lib.hid (HB.out _ (better_short (W := W) (k := k) (b := (h - k, nm, pf)) (t := m.t) (lang := lang) (by rw [hnpo.out]; exact hlen)))
                  go_wp2_with (first
                                | (go_at_call 85; go_loud (refine (spl_any m.t.name np _ ((hr.below hbr).below (brefl.al _)) hsn HNP.out).mono ?_; rintro e w3 ⟨rfl, hs3, hb3⟩; obtain ⟨q0, q1, q2, q3, q4⟩ := box_five wr _ _ _ _ _ _ hb3; have hbz3 := (brefl.al (.cells #[.string m.t.name, .int .i64 m.t.kind, .int .i64 m.t.lang, .string m.t.see, .slice m.A m.n m.c] 33) : Below wr.heap.size wr _).tr hb3; have hbx3 := hbx.below hbz3; have hx1 := hbx3.c1; rw [World.size_alloc] at hs3))
                                | (go_at_call 86; go_loud (refine (equal_any _ _ np (nW - k) np np ((W.drop k).take np) (nw m.t.name) _ (by omega) (by omega) ((hsw.below ((hbW.tr hbz).tr hbz3)).cut (by omega)) hs3).mono ?_; rintro e w4 ⟨rfl, hb4⟩; rw [HEQ.out]; have hbx4 := hbx3.below hb4)))
                  go_roundw
                  case rel => exact ⟨j + 1, h, nm, pf, by omega, by go_num, hkh, hhn, HB2, hbx3, (hbz.tr hbz3)⟩
                  case measure => simp [intOf]; omega
              · have hl1' : (m.t.lang == lang) = false := by rw [beq_eq_false_iff_ne]; exact hl1
                have HB2 := Lib.hid (HB.out _ (better_lang (W := W) (k := k) (b := (h - k, nm, pf)) (t := m.t) (lang := lang) hl0 hl1))
                clear hl0 hl1
                go_wp2_with (first
                              | (go_at_call 85; go_loud (refine (spl_any m.t.name np _ ((hr.below hbr).below (brefl.al _)) hsn HNP.out).mono ?_; rintro e w3 ⟨rfl, hs3, hb3⟩; obtain ⟨q0, q1, q2, q3, q4⟩ := box_five wr _ _ _ _ _ _ hb3; have hbz3 := (brefl.al (.cells #[.string m.t.name, .int .i64 m.t.kind, .int .i64 m.t.lang, .string m.t.see, .slice m.A m.n m.c] 33) : Below wr.heap.size wr _).tr hb3; have hbx3 := hbx.below hbz3; have hx1 := hbx3.c1; rw [World.size_alloc] at hs3))
                              | (go_at_call 86; go_loud (refine (equal_any _ _ np (nW - k) np np ((W.drop k).take np) (nw m.t.name) _ (by omega) (by omega) ((hsw.below ((hbW.tr hbz).tr hbz3)).cut (by omega)) hs3).mono ?_; rintro e w4 ⟨rfl, hb4⟩; rw [HEQ.out]; have hbx4 := hbx3.below hb4)))
                go_roundw
                case rel => exact ⟨j + 1, h, nm, pf, by omega, by go_num, hkh, hhn, HB2, hbx3, (hbz.tr hbz3)⟩
                case measure => simp [intOf]; omega
          · have hjn : ¬ (j : Int) < n := by omega
            have hBf := Lib.hid (show bestM lang W k (terms ms) = (h - k, nm, pf) from by rw [← hB.out, List.take_of_length_le (by omega)])
            have hx0 := hbx.c0
            have hx1 := hbx.c1
            have hx2 := hbx.c2
            have hx3 := hbx.c3
            by_cases hhk : h = k
            · have hhk' : ((h : Int) == (k : Int)) = true := by rw [hhk]; exact beq_self_eq_true _
              have hH2 := Lib.hid (show ol ++ mens (terms ms) lang W (k + 1) = mens (terms ms) lang W 0 from by rw [← hH.out, mens_none (k := k) (by rw [hWl.out]; exact hlk) (by rw [hBf.out]; show h - k = 0; omega)])
              clear hhk
              go_wp2
              go_roundw
              case rel => exact ⟨k + 1, m1, c1, A1, ol, by omega, by go_num, rfl, hc1, by omega, hol, ho.below hbz, hH2, hbW.tr hbz⟩
              case measure => simp [intOf]; omega
            · have hhk' : ((h : Int) == (k : Int)) = false := by rw [beq_eq_false_iff_ne]; omega
              have hH2 := Lib.hid (show (ol ++ [⟨k, h, nm, pf⟩]) ++ mens (terms ms) lang W h = mens (terms ms) lang W 0 from by
                rw [← hH.out, mens_one (k := k) (by rw [hWl.out]; exact hlk) (by rw [hBf.out]; show ¬ h - k = 0; omega), hBf.out, List.append_assoc]
                dsimp only
                rw [show k + (h - k) = h from by omega]; rfl)
              have hoz := ho.below hbz
              go_wp2_with (at_builtin; go_loud (refine wpList_app _ mensT rfl (.tmp 90) (.tmp 92) rfl (hoz.alloc _) rfl rfl (news := menCells [⟨k, h, nm, pf⟩]) rfl (rds_four wr _ _ _ _ 64) (mens_cell _) ?_ ?_ ?_; (focus omega); (focus omega); intro A5 c5 w5 o5 n5 g5 _; have hb5 := ((hbW.tr hbz).al (.cells #[.int .i64 k, .int .i64 h, .string nm, .string pf] 64)).gr g5 hoz.row; have hne : some wo.heap.size ≠ (Value.slice A1 m1 c1).ownBlock := fun e => by { have := ho.lt _ e.symm; omega }; have hx5 := g5.cell ((World.grownBy_alloc wr (.cells #[.int .i64 k, .int .i64 h, .string nm, .string pf] 64) none).cell hx1 (by simp)) hne))
              go_roundw
              case rel => exact ⟨h, m1 + 1, c5, A5, _, hhn, rfl, rfl, n5, by omega, by rw [List.length_append, hol]; rfl, menCells_snoc o5, hH2, hb5⟩
              case measure => simp [intOf]; omega
      · have hlk' : ¬ (k : Int) < nW := by omega
        have hH2 := Lib.hid (show ol = mentions (terms ms) s lang from by rw [hres.out, ← hH.out, mens_end (by rw [hWl.out]; exact hlk), List.append_nil])
        go_wp2
        go_ret
        refine ⟨A1, m1, c1, rfl, hc1, by omega, by rw [← hH2.out]; exact hol, by rw [← hH2.out]; exact own_base ho hb12.size, hb12.tr hbW⟩
  · have hres := Lib.hid (show mentions (terms ms) s lang = [] from if_neg h0)
    rw [decide_eq_false h0] at hv
    clear h0
    go_enter Tryz.func27, Tryz.ntmps27
    go_wp2_with (go_at_call 83; refine hv.mono ?_; rintro e w1 ⟨rfl, hb1⟩)
    go_ret
    exact ⟨none, 0, 0, rfl, Nat.le_refl _, Nat.zero_le _, by rw [hres.out]; rfl, by rw [hres.out]; exact Own.nil _ _ _ hb1.size, hb1⟩
end Go.Proofs.YtdfnfimajhagfaaGreatDoor
/- Walks of package vocabulary: Names, Below. -/
namespace Go.Proofs.YtdfnfimajhagfaaGreatDoor
open Go.RowKit Go.Maps Rf
theorem menCells_get : ∀ (l : List Men) (k j : Nat), j < 4 → (menCells l)[k * 4 + j]? = (l[k]?).bind fun r => (menCell r)[j]?
  | [], k, j, _ => by simp [menCells]
  | r :: l, 0, j, hj => by
    simp only [menCells, List.flatMap_cons, Nat.zero_mul, Nat.zero_add, List.getElem?_cons_zero, Option.bind_some]
    rw [List.getElem?_append_left (by simp [menCell]; exact hj)]
  | r :: l, k + 1, j, hj => by
    have := menCells_get l k j hj
    simp only [menCells, List.flatMap_cons, List.getElem?_cons_succ] at *
    rw [List.getElem?_append_right (by simp [menCell]; omega), ← this]
    congr 1
    simp [menCell]; omega
theorem men_at {w : World} {A : Option Addr} {l : List Men} (h : Rds w A (menCells l)) {k : Nat} {t : Men} (he : l[k]? = some t) :
    ∃ b off, A = some ⟨b, off, none⟩ ∧ b < w.heap.size ∧ w.cell? ⟨b, off + k * 4, none⟩ = some (.int .i64 t.lo) ∧ w.cell? ⟨b, off + k * 4 + 1, none⟩ = some (.int .i64 t.hi) ∧ w.cell? ⟨b, off + k * 4 + 2, none⟩ = some (.string t.name) ∧ w.cell? ⟨b, off + k * 4 + 3, none⟩ = some (.string t.pref) := by
  obtain ⟨b, off, hA, hb, hc⟩ := h (by rw [menCells_len]; have := (List.getElem?_eq_some_iff.1 he).1; omega)
  refine ⟨b, off, hA, hb, ?_, ?_, ?_, ?_⟩
  · have := hc (k * 4 + 0) (.int .i64 t.lo) (by rw [menCells_get l k 0 (by omega), he]; rfl)
    simpa using this
  · have := hc (k * 4 + 1) (.int .i64 t.hi) (by rw [menCells_get l k 1 (by omega), he]; rfl)
    simpa [Nat.add_assoc] using this
  · have := hc (k * 4 + 2) (.string t.name) (by rw [menCells_get l k 2 (by omega), he]; rfl)
    simpa [Nat.add_assoc] using this
  · have := hc (k * 4 + 3) (.string t.pref) (by rw [menCells_get l k 3 (by omega), he]; rfl)
    simpa [Nat.add_assoc] using this
noncomputable def namesOf (l : List Term) (s : S) (lang : Int) : List S := sortS ((mentions l s lang).map Men.pref)
set_option maxRecDepth 20000 in
set_option maxHeartbeats 2000000 in
theorem vnames_any (A : Option Addr) (n c : Nat) (ms : List TM) (s : S) (lang : Int) (w : World) (hm : n ≤ 100000) (hr : Rdy w) (hl : Tms w A n ms) (hs : s.size ≤ 100000) :
    Calls Tryz.prog 30 #[.slice A n c, .string s, .int .i64 lang] w fun e w' => ∃ A' k c', e = .returned (.slice A' k c') ∧ k ≤ c' ∧ k ≤ s.size ∧ Strs w' A' k (namesOf (terms ms) s lang) ∧ Below w.heap.size w w' := by
  have hpr := mentions_pref (l := terms ms) (s := s) (lang := lang) (M := maxLen) (fun t ht => by
    obtain ⟨m, hmm, rfl⟩ := List.mem_map.1 ht
    exact ⟨(hl.2.1 m hmm).nm, (hl.2.1 m hmm).se⟩)
  have hMen := mentions_any A n c ms s lang w hm hr hl (by omega)
  unfold namesOf
  generalize mentions (terms ms) s lang = L at hpr hMen ⊢
  go_enter Tryz.func30, Tryz.ntmps30
  go_wp2_with (go_at_call 27; go_loud (refine hMen.mono ?_; rintro e w1 ⟨A1, k1, c1, rfl, hc1, hk1, hlen, ho1, hb1⟩))
  have hrd := ho1.reads
  go_loopw [7, 15] (fun o ii wr => ∃ (j m2 c2 : Nat) (A2 : Option Addr), j ≤ k1 ∧ ii = .int .i64 j ∧ o = .slice A2 m2 c2 ∧ m2 ≤ c2 ∧ m2 ≤ j ∧ Own wr w1.heap.size 9 1 (.slice A2 m2 c2) m2 (((L.take j).map Men.pref).map Value.string) ∧ Below w1.heap.size w1 wr) (fun _ ii _ => k1 - (intOf ii).toNat)
  case atStart => exact ⟨0, 0, 0, none, by omega, rfl, rfl, by omega, by omega, Own.nil _ _ _ (Nat.le_refl _), brefl⟩
  case round =>
    obtain ⟨j, m2, c2, A2, hj, rfl, rfl, hc2, hm2, ho, hb⟩ := hrel
    by_cases hlt : j < k1
    · obtain ⟨t, ht⟩ : ∃ t, L[j]? = some t := ⟨_, List.getElem?_eq_getElem (by omega)⟩
      have hlt' : (j : Int) < k1 := by omega
      obtain ⟨b, off, rfl, hb0, d1, d2, d3, d4⟩ := men_at (hrd.below hb) ht
      have HT := Lib.hid (show ((L.take j).map Men.pref).map Value.string ++ [.string t.pref] = ((L.take (j + 1)).map Men.pref).map Value.string from by rw [Rf.take_snoc ht]; simp)
      clear ht
      go_wp2_with (at_builtin; go_loud (refine wpList_app _ stringsT rfl (.tmp 19) (.tmp 22) rfl ((ho.alloc _).alloc _) rfl rfl (news := [.string t.pref]) rfl (Rds.oneAt (wr.alloc (.cells #[.int .i64 t.lo, .int .i64 t.hi, .string t.name, .string t.pref] 64)) (by simp) (.string t.pref) 9) (by simp [Value.oneCell']) ?_ ?_ ?_; (focus omega); (focus omega); intro A5 c5 w5 o5 n5 g5 _))
      have hb5 := ((hb.al (.cells #[.int .i64 t.lo, .int .i64 t.hi, .string t.name, .string t.pref] 64)).al (.cells #[.string t.pref] 9)).gr g5 ho.row
      go_roundw
      case rel => exact ⟨j + 1, m2 + 1, c5, A5, by omega, by go_num, rfl, n5, by omega, by rw [← HT.out]; exact o5, hb5⟩
      case measure => simp [intOf]; omega
    · have hlt' : ¬ (j : Int) < k1 := by omega
      rw [List.take_of_length_le (by omega)] at ho
      have hsz : ∀ x ∈ L.map Men.pref, x.size ≤ maxLen := fun x hx => by
        obtain ⟨m, hmm, rfl⟩ := List.mem_map.1 hx
        exact hpr m hmm
      go_wp2_with (first
        | (go_at_call 90; go_loud (refine (sort_any (by omega) ho).mono ?_; rintro e w3 ⟨rfl, ho3, hg3⟩; rw [← enc_ofB] at ho3))
        | (go_at_call 91; go_loud (refine (compact_any (by omega) ho3 ?_).mono ?_; (focus (intro z hz; rw [mem_msort, List.mem_map] at hz; obtain ⟨s, hs, rfl⟩ := hz; rw [ofB_byts]; exact hsz s hs)); rintro e w4 ⟨k, rfl, hk4, hkn4, hs4, hg4⟩)))
      go_ret
      rw [compact_sort] at hs4
      exact ⟨A2, k, c2, rfl, hk4, by omega, hs4, hb1.tr ((hb.gr hg3 ho.row).gr hg4 ho.row)⟩
/-- the names below one -/
noncomputable def belowOf (l : List Term) (s : S) : List S := if (vvalid l).2 = 0 then (l.filter fun t => Rf.has (ups (brd l) t.name) s).map Term.name else []
noncomputable def blOf (l0 : List Term) (s : S) (l : List Term) : List S := (l.filter fun t => Rf.has (ups (brd l0) t.name) s).map Term.name
theorem blOf_hit {l0 : List Term} {s : S} {l : List Term} {k : Nat} {t : Term} (h : l[k]? = some t) (he : Rf.has (ups (brd l0) t.name) s = true) : (blOf l0 s (l.take (k + 1))).map Value.string = (blOf l0 s (l.take k)).map Value.string ++ [.string t.name] := by
  unfold blOf; rw [Rf.take_snoc h, List.filter_append]; simp [he]
theorem blOf_miss {l0 : List Term} {s : S} {l : List Term} {k : Nat} {t : Term} (h : l[k]? = some t) (he : Rf.has (ups (brd l0) t.name) s = false) : blOf l0 s (l.take (k + 1)) = blOf l0 s (l.take k) := by
  unfold blOf; rw [Rf.take_snoc h, List.filter_append]; simp [he]
theorem blOf_size {l0 : List Term} {s : S} {l : List Term} (h : ∀ t ∈ l, t.name.size ≤ maxLen) : ∀ x ∈ blOf l0 s l, x.size ≤ maxLen := by
  intro x hx
  obtain ⟨t, ht, rfl⟩ := List.mem_map.1 hx
  exact h t (List.mem_filter.1 ht).1
set_option maxRecDepth 20000 in
set_option maxHeartbeats 2000000 in
theorem below_any (A : Option Addr) (n c : Nat) (ms : List TM) (s : S) (w : World) (hm : n ≤ 100000) (hr : Rdy w) (hl : Tms w A n ms) :
    Calls Tryz.prog 40 #[.slice A n c, .string s] w fun e w' => ∃ A' k c', e = .returned (.slice A' k c') ∧ k ≤ c' ∧ k ≤ n ∧ Strs w' A' k (belowOf (terms ms) s) ∧ Below w.heap.size w w' := by
  have hv := vok_any A n c ms w hm hr hl
  have hlen := terms_length hl
  by_cases h0 : (vvalid (terms ms)).2 = 0
  · have h128 : n ≤ 128 := by
      rcases Nat.lt_or_ge 128 n with h | h
      · unfold vvalid at h0
        rw [if_pos (by rw [hlen]; exact h)] at h0; cases h0
      · exact h
    have hres := Lib.hid (show belowOf (terms ms) s = blOf (terms ms) s (terms ms) from if_pos h0)
    rw [decide_eq_true h0] at hv
    clear h0
    go_enter Tryz.func40, Tryz.ntmps40
    go_wp2_with (go_at_call 83; refine hv.mono ?_; rintro e w2 ⟨rfl, hb2⟩)
    obtain ⟨wo, hwo⟩ : ∃ wo : World, wo = w2 := ⟨_, rfl⟩
    subst hwo
    go_loopw [5, 13] (fun o i wr => ∃ (k m1 c1 : Nat) (A1 : Option Addr), k ≤ n ∧ i = .int .i64 k ∧ o = .slice A1 m1 c1 ∧ m1 ≤ c1 ∧ m1 ≤ k ∧ Own wr w.heap.size 9 1 (.slice A1 m1 c1) m1 ((blOf (terms ms) s ((terms ms).take k)).map Value.string) ∧ Below w.heap.size w wr) (fun _ i _ => n - (intOf i).toNat)
    case atStart => exact ⟨0, 0, 0, none, by omega, rfl, rfl, by omega, by omega, Own.nil _ _ _ hb2.size, hb2⟩
    case round =>
      obtain ⟨k, m1, c1, A1, hk, rfl, rfl, hc1, hm1, ho, hbl⟩ := hrel
      by_cases hlt : k < n
      · obtain ⟨b, off, m, rfl, hx, hok, hb0, d1, d2, d3, d4, d5⟩ := (hl.below hbl).at_ hlt
        have htk := terms_get hx
        have hnm := hok.nm
        have hlt' : (k : Int) < n := by omega
        have hbb : Below wr.heap.size wr (wr.alloc (.cells #[.string m.t.name, .int .i64 m.t.kind, .int .i64 m.t.lang, .string m.t.see, .slice m.A m.n m.c] 33)) := brefl.al _
        have hup := above_any (some ⟨b, off, none⟩) n c ms m.t.name (wr.alloc (.cells #[.string m.t.name, .int .i64 m.t.kind, .int .i64 m.t.lang, .string m.t.see, .slice m.A m.n m.c] 33)) h128 ((hl.below hbl).below hbb)
        cases he : Rf.has (ups (brd (terms ms)) m.t.name) s
        · have hms := Lib.hid (blOf_miss htk he)
          have HE := Lib.hid he
          clear hx hok htk he
          go_wp2_with (first
            | (go_at_call 93; go_loud (refine hup.mono ?_; rintro e w3 ⟨A3, k3, c3, rfl, hk3, hs3, hb3⟩))
            | (go_at_call 95; go_loud (refine (containsS_any _ _ _ _ _ _ hk3 hs3).mono ?_; rintro e _ ⟨rfl, rfl⟩; rw [HE.out])))
          have hb14 := hbb.tr hb3
          go_roundw
          case rel => exact ⟨k + 1, m1, c1, A1, by omega, by go_num, rfl, hc1, by omega, by rw [hms.out]; exact ho.below hb14, hbl.tr hb14⟩
          case measure => simp [intOf]; omega
        · have hms := Lib.hid (blOf_hit htk he)
          have HE := Lib.hid he
          clear hx hok htk he
          go_wp2_with (first
            | (go_at_call 93; go_loud (refine hup.mono ?_; rintro e w3 ⟨A3, k3, c3, rfl, hk3, hs3, hb3⟩; obtain ⟨q0, q1, q2, q3, q4⟩ := box_five wr _ _ _ _ _ _ hb3))
            | (go_at_call 95; go_loud (refine (containsS_any _ _ _ _ _ _ hk3 hs3).mono ?_; rintro e w4 ⟨rfl, rfl⟩; rw [HE.out]; have hb14 := hbb.tr hb3; have ho4 := ho.below hb14))
            | (at_builtin; go_loud (refine wpList_app _ stringsT rfl (.tmp 23) (.tmp 26) rfl (ho4.alloc _) rfl rfl (news := [.string m.t.name]) rfl (Rds.one w4 (.string m.t.name) 9) (by simp [Value.oneCell']) ?_ ?_ ?_; (focus omega); (focus omega); intro A5 c5 w5 o5 n5 g5 _)))
          have hb5 := ((hbl.tr hb14).al (.cells #[.string m.t.name] 9)).gr g5 ho.row
          go_roundw
          case rel => exact ⟨k + 1, m1 + 1, c5, A5, by omega, by go_num, rfl, n5, by omega, by rw [hms.out]; exact o5, hb5⟩
          case measure => simp [intOf]; omega
      · have hkn : k = n := by omega
        have hlt' : ¬ (k : Int) < n := by omega
        have htk := Lib.hid (take_all hlen hk hlt)
        rw [htk.out] at ho
        go_wp2
        go_ret
        exact ⟨A1, m1, c1, rfl, hc1, by omega, by rw [hres.out]; exact Strs.own ho rfl (blOf_size hl.names), hbl⟩
  · have hres := Lib.hid (show belowOf (terms ms) s = [] from if_neg h0)
    rw [decide_eq_false h0] at hv
    clear h0
    go_enter Tryz.func40, Tryz.ntmps40
    go_wp2_with (go_at_call 83; refine hv.mono ?_; rintro e w2 ⟨rfl, hb2⟩)
    go_ret
    exact ⟨none, 0, 0, rfl, Nat.le_refl _, Nat.zero_le _, by rw [hres.out]; exact Strs.nil _, hb2⟩
end Go.Proofs.YtdfnfimajhagfaaGreatDoor
