/- Walk of package vocabulary: the closure of above, a search in depth that calls itself. -/
import Derived.Test.YtdfnfimajhagfaaGreatDoorV3
import Derived.Test.YtdfnfimajhagfaaGreatDoorP4
namespace Go.Proofs.YtdfnfimajhagfaaGreatDoor
open Go.RowKit Go.Maps Rf
theorem gset (w : World) (b i : Nat) (v : Value) : w.grownBy (w.setCell ⟨b, i, none⟩ v) (some b) :=
  ⟨rfl, rfl, rfl, by simp [World.setCell], fun k _ hk => Below.heap_setCell _ _ _ _ (fun e => hk (by simp [e]))⟩
/-- how many names are not met yet, each counted as often as it stands there -/
def unmetN (l : List Term) (out : List S) : Nat := (l.flatMap Term.broader).countP fun b => !Rf.has out b
theorem countP_less {α : Type} {p q : α → Bool} {b : α} : ∀ {l : List α}, (∀ x, q x = true → p x = true) → b ∈ l → p b = true → q b = false → l.countP q < l.countP p
  | [], _, h, _, _ => by cases h
  | x :: l, hpq, h, hp, hq => by
    rw [List.countP_cons, List.countP_cons]
    have hle : l.countP q ≤ l.countP p := List.countP_mono_left fun x _ hx => hpq x hx
    by_cases e : x = b
    · subst e; rw [hp, hq]; simp; omega
    · have hb : b ∈ l := by
        rcases List.mem_cons.1 h with h | h
        · exact absurd h.symm e
        · exact h
      have ih := countP_less hpq hb hp hq
      by_cases hx : q x = true
      · rw [hx, hpq x hx]; simp; omega
      · have : q x = false := by simpa using hx
        rw [this]
        cases p x <;> simp <;> omega
theorem has_more {out : List S} {b x : S} (h : Rf.has out x = true) : Rf.has (out ++ [b]) x = true := by
  rw [has_iff] at *; exact List.mem_append_left _ h
theorem unmet_snoc {l : List Term} {out : List S} {b : S} (hb : b ∈ l.flatMap Term.broader) (hn : Rf.has out b = false) : unmetN l (out ++ [b]) < unmetN l out := by
  refine countP_less (fun x hx => ?_) hb (by rw [hn]; rfl) ?_
  · cases h : Rf.has out x
    · rfl
    · rw [has_more h] at hx; cases hx
  · have : Rf.has (out ++ [b]) b = true := (has_iff _ _).2 (by simp)
    rw [this]; rfl
theorem unmet_sub {l : List Term} {o o' : List S} (h : ∀ x ∈ o, x ∈ o') : unmetN l o' ≤ unmetN l o := by
  refine List.countP_mono_left fun x _ hx => ?_
  cases k : Rf.has o x
  · rfl
  · rw [(has_iff _ _).2 (h x ((has_iff _ _).1 k))] at hx; cases hx
def climbV (bl bm bo bc : Nat) : Value := .func (.func 137) #[] #[.pointer (some ⟨bl, 0, none⟩), .pointer (some ⟨bm, 0, none⟩), .pointer (some ⟨bo, 0, none⟩), .pointer (some ⟨bc, 0, none⟩)]
/-- what the closure reads and turns: the list, the map of what is met, what was met in order, itself -/
structure CS (w0 : World) (bl bm bo bc M B : Nat) (A : Option Addr) (n c : Nat) (l : List Term) (out : List S) (w : World) : Prop where
  cl : w.cell? ⟨bl, 0, none⟩ = some (.slice A n c)
  cm : w.cell? ⟨bm, 0, none⟩ = some (.map (some M))
  cc : w.cell? ⟨bc, 0, none⟩ = some (climbV bl bm bo bc)
  co : ∃ Ao d, w.cell? ⟨bo, 0, none⟩ = some (.slice Ao out.length d) ∧ Own w B 9 1 (.slice Ao out.length d) out.length (out.map Value.string)
  fo : w.frozen? ⟨bo, 0, none⟩ = false
  mp : MapS w M out.length (boolF out)
  sz : ∀ s ∈ out, s.size ≤ maxLen
  bel : Below w0.heap.size w0 w
  few : out.length + unmetN l out ≤ 1000000
/-- how the blocks lie -/
structure CB (w0 : World) (bl bm bo bc M B : Nat) : Prop where
  l0 : w0.heap.size ≤ bl
  m0 : w0.heap.size ≤ bm
  o0 : w0.heap.size ≤ bo
  c0 : w0.heap.size ≤ bc
  M0 : w0.heap.size ≤ M
  lB : bl < B
  mB : bm < B
  oB : bo < B
  cB : bc < B
  MB : M < B
  lo : bl ≠ bo
  mo : bm ≠ bo
  co : bc ≠ bo
  Mo : M ≠ bo
  lM : bl ≠ M
  mM : bm ≠ M
  cM : bc ≠ M
theorem CS.lo {w0 : World} {bl bm bo bc M B : Nat} {A : Option Addr} {n c : Nat} {l : List Term} {out : List S} {w : World} (h : CS w0 bl bm bo bc M B A n c l out w) : B ≤ w.heap.size := by
  obtain ⟨_, _, _, o⟩ := h.co; exact o.2
/-- the world goes on, and nothing that the closure knows is turned -/
theorem CS.below {w0 : World} {bl bm bo bc M B : Nat} (cb : CB w0 bl bm bo bc M B) {A : Option Addr} {n c : Nat} {l : List Term} {out : List S} {w w' : World} (h : CS w0 bl bm bo bc M B A n c l out w) (hb : Below w.heap.size w w') :
    CS w0 bl bm bo bc M B A n c l out w' := by
  have hB := h.lo
  have lt : ∀ {b : Nat}, b < B → b < w.heap.size := fun hb => Nat.lt_of_lt_of_le hb hB
  obtain ⟨Ao, d, h1, h2⟩ := h.co
  exact ⟨(hb.cell (p := ⟨bl, 0, none⟩) (lt cb.lB)).trans h.cl, (hb.cell (p := ⟨bm, 0, none⟩) (lt cb.mB)).trans h.cm, (hb.cell (p := ⟨bc, 0, none⟩) (lt cb.cB)).trans h.cc,
    ⟨Ao, d, (hb.cell (p := ⟨bo, 0, none⟩) (lt cb.oB)).trans h1, h2.below hb⟩, (hb.frozen (p := ⟨bo, 0, none⟩) (lt cb.oB)).trans h.fo, h.mp.below hb, h.sz, h.bel.tr hb, h.few⟩
theorem map_snoc_str (out : List S) (b : S) : out.map Value.string ++ [.string b] = (out ++ [b]).map Value.string := by simp
/-- a block below B that is not the map's, behind the store, a new block and the append -/
theorem low_block {wr w2 w4 : World} {M B : Nat} {row : Option Nat} {o : Obj} (hB : B ≤ wr.heap.size) (hg2 : wr.grownBy w2 (some M)) (g4 : (w2.alloc o).grownBy w4 row) (hrow : ∀ k, row = some k → B ≤ k) {k : Nat} (hk : k < B) (hM : k ≠ M) : w4.heap[k]? = wr.heap[k]? := by
  have h2 : k < w2.heap.size := Nat.lt_of_lt_of_le hk (Nat.le_trans hB hg2.size)
  rw [g4.block k (by simp; omega) (fun e => by have := hrow k e.symm; omega), (brefl.al o : Below w2.heap.size w2 (w2.alloc o)).block k h2, hg2.block k (by omega) (by simpa using hM)]
theorem CS.mid {w0 : World} {bl bm bo bc M B : Nat} (_cb : CB w0 bl bm bo bc M B) {A : Option Addr} {n c : Nat} {l : List Term} {out : List S} {wr w2 w4 : World} (h : CS w0 bl bm bo bc M B A n c l out wr) {row : Option Nat} {o : Obj}
    (hg2 : wr.grownBy w2 (some M)) (g4 : (w2.alloc o).grownBy w4 row) (hrow : ∀ k, row = some k → B ≤ k) {b : Nat} (hb : b < B) (hM : b ≠ M) : w4.cell? ⟨b, 0, none⟩ = wr.cell? ⟨b, 0, none⟩ ∧ w4.frozen? ⟨b, 0, none⟩ = wr.frozen? ⟨b, 0, none⟩ :=
  ⟨World.cell?_of_block (low_block h.lo hg2 g4 hrow hb hM), World.frozen?_of_block (low_block h.lo hg2 g4 hrow hb hM)⟩
theorem CS.push {w0 : World} {bl bm bo bc M B : Nat} (cb : CB w0 bl bm bo bc M B) {A : Option Addr} {n c : Nat} {l : List Term} {out : List S} {wr w2 w4 : World} (h : CS w0 bl bm bo bc M B A n c l out wr) {row : Option Nat} {o : Obj} {b : S}
    (hbs : b.size ≤ maxLen) (hmem : b ∈ l.flatMap Term.broader) (hnot : Rf.has out b = false) (hf2 : MapS w2 M (out.length + 1) (updV (boolF out) b (.bool true)))
    (hg2 : wr.grownBy w2 (some M)) (g4 : (w2.alloc o).grownBy w4 row) (hrow : ∀ k, row = some k → B ≤ k) {A4 : Option Addr} {c4 : Nat} (o4 : Own w4 B 9 1 (.slice A4 (out.length + 1) c4) (out.length + 1) (out.map Value.string ++ [.string b])) :
    CS w0 bl bm bo bc M B A n c l (out ++ [b]) (w4.setCell ⟨bo, 0, none⟩ (.slice A4 (out.length + 1) c4)) := by
  have hlen : (out ++ [b]).length = out.length + 1 := by simp
  have hU := unmet_snoc hmem hnot
  have hfew := h.few
  have ho4 := o4
  obtain ⟨Ao, d, h1, h2⟩ := h.co
  have other : ∀ {x : Nat}, x < B → x ≠ M → x ≠ bo → (w4.setCell ⟨bo, 0, none⟩ (.slice A4 (out.length + 1) c4)).cell? ⟨x, 0, none⟩ = wr.cell? ⟨x, 0, none⟩ := fun {x} hx hM hne => by
    have hq : (⟨bo, 0, none⟩ : Addr) ≠ ⟨x, 0, none⟩ := fun e => by injection e with e1; exact hne e1.symm
    rw [World.cell?_setCell_other _ _ _ _ hq]; exact (h.mid cb hg2 g4 hrow hx hM).1
  have hMB := cb.MB
  have hbel4 : Below w0.heap.size w0 w4 := ((h.bel.gr hg2 (by intro k e; cases e; exact cb.M0)).al o).gr g4 (fun k e => by have := hrow k e; have := cb.o0; have := cb.oB; omega)
  refine ⟨(other cb.lB cb.lM cb.lo).trans h.cl, (other cb.mB cb.mM cb.mo).trans h.cm, (other cb.cB cb.cM cb.co).trans h.cc, ⟨A4, c4, ?_, ?_⟩, ?_, ?_, ?_, hbel4.st cb.o0 _, by rw [hlen]; omega⟩
  · rw [hlen]; exact World.cell?_setCell_same _ _ _ ((h.mid cb hg2 g4 hrow cb.oB (Ne.symm cb.Mo)).1.trans h1)
  · rw [hlen, ← map_snoc_str]
    refine o4.kept (gset w4 bo 0 _) (.inr ?_)
    intro e
    have := o4.row bo e; have := cb.oB; omega
  · rw [World.frozen?_setCell]; exact (h.mid cb hg2 g4 hrow cb.oB (Ne.symm cb.Mo)).2.trans h.fo
  · rw [hlen]
    have hm2 : MapS w2 M (out.length + 1) (boolF (out ++ [b])) := hf2.congr fun s => boolF_snoc _ _ _
    refine ((hm2.alloc o).kept g4 ?_).setCell (a := ⟨bo, 0, none⟩) cb.Mo _
    intro e
    have := hrow M e.symm; omega
  · intro s hs
    rcases List.mem_append.1 hs with hs | hs
    · exact h.sz s hs
    · simp at hs; rw [hs]; exact hbs
theorem drop_mem {α : Type} {l : List α} {k : Nat} {x : α} (h : l[k]? = some x) : x ∈ l := List.mem_of_getElem? h
set_option maxRecDepth 20000 in
set_option maxHeartbeats 4000000 in
theorem climb_any (w0 : World) (bl bm bo bc M B : Nat) (A : Option Addr) (n c : Nat) (ms : List TM) (cb : CB w0 bl bm bo bc M B) (hm : n ≤ 128) (hl : Tms w0 A n ms) :
    ∀ (N : Nat) (out : List S) (s : S) (w : World), unmetN (terms ms) out = N → CS w0 bl bm bo bc M B A n c (terms ms) out w →
      Calls Tryz.prog 137 #[.string s, .pointer (some ⟨bl, 0, none⟩), .pointer (some ⟨bm, 0, none⟩), .pointer (some ⟨bo, 0, none⟩), .pointer (some ⟨bc, 0, none⟩)] w fun e w' =>
        e = .returned (.tuple #[]) ∧ ∃ out', Climb (brd (terms ms)) (brd (terms ms) s) out out' ∧ CS w0 bl bm bo bc M B A n c (terms ms) out' w' := by
  intro N
  induction N using Nat.strongRecOn with
  | _ N ih =>
    intro out s w hU hS
    have c1 := hS.cl
    rcases findAt_cases (terms ms) s 0 with ⟨f1, f2⟩ | ⟨k, t, f1, f2, f3⟩
    · have F1 := Lib.hid f1
      clear f1
      go_enter Tryz.func137, Tryz.ntmps137
      go_wp2_with (go_at_call 20; refine (vfind_any _ _ _ _ _ _ (by omega) (hl.below hS.bel)).mono ?_; rintro e w2 ⟨rfl, hb2⟩; rw [f2])
      refine bodyPost_ret (results_none rfl _ _ _) rfl ?_
      refine ⟨rfl, out, ?_, hS.below cb hb2⟩
      unfold brd; rw [F1.out]; exact .nil
    · rw [Nat.zero_add] at f2
      have hkn : k < n := by have := (List.getElem?_eq_some_iff.1 f3).1; rw [terms_length hl] at this; exact this
      obtain ⟨b, off, ⟨t', Am, nm, cm⟩, rfl, hx, hok0, hb0, ha⟩ := hl.at_ hkn
      have ht : t' = t := by have := terms_get hx; rw [f3] at this; injection this with this; exact this.symm
      subst ht
      have hbr : brd (terms ms) s = t'.broader := by unfold brd; rw [f1]
      have hmem := drop_mem f3
      rw [hbr]
      have hstr := hok0.br
      have hcap := hok0.cap
      have hfew := hok0.few
      dsimp only at hstr hcap hfew
      clear f1 f3 hx hok0 hbr
      go_enter Tryz.func137, Tryz.ntmps137
      go_wp2_with (go_at_call 20; refine (vfind_any _ _ _ _ _ _ (by omega) (hl.below hS.bel)).mono ?_; rintro e w2 ⟨rfl, hb2⟩; rw [f2]; have hS2 := hS.below cb hb2; have c2 := hS2.cl; obtain ⟨d1, d2, d3, d4, d5⟩ := ha.below hS2.bel hb0; dsimp only at d5)
      clear c1 c2 d1 d2 d3 d4 d5
      go_loopw [20] (fun i wr => ∃ (j : Nat) (out1 : List S), j ≤ nm ∧ i = .int .i64 j ∧ CS w0 bl bm bo bc M B (some ⟨b, off, none⟩) n c (terms ms) out1 wr ∧ (∀ o', Climb (brd (terms ms)) (t'.broader.drop j) out1 o' → Climb (brd (terms ms)) t'.broader out o') ∧ unmetN (terms ms) out1 ≤ N) (fun i _ => nm - (intOf i).toNat)
      case atStart => exact ⟨0, out, by omega, rfl, hS2, fun o' h => h, by omega⟩
      case round =>
        clear hS2 hb2 hS
        obtain ⟨j, out1, hj, rfl, hS1, hcont, hU1⟩ := hrel
        by_cases hlt : j < nm
        · obtain ⟨b9, off9, x, rfl, hx, hxs, hb9, hcx⟩ := (hstr.below hS1.bel).at_ hlt
          have hd := Lib.hid (drop_get hx)
          have hxm : x ∈ (terms ms).flatMap Term.broader := List.mem_flatMap.2 ⟨t', hmem, drop_mem hx⟩
          clear hx hb9
          have c2 := hS1.cm
          cases hh : Rf.has out1 x
          · have e1 := hS1.mp.lookB0 hxs hh
            have c4 := hS1.cc
            have c5 := hS1.fo
            obtain ⟨Ao, d, c3, ho⟩ := hS1.co
            have hle := hS1.few
            have hlo := hS1.lo
            have hHH := Lib.hid hh
            clear hh
            unfold climbV at c4
            go_wp2_with (first
              | (at_mapUpdate; refine wpList_store _ rfl _ _ _ 137 rfl keyS mapB rfl hS1.mp _ rfl _ rfl hxs (by unfold maxLen; omega) ?_; intro w2 hf2 hg2; have o2 := ho.kept hg2 (.inr (fun e => by have := ho.row M e; have := cb.MB; omega)); have k3 := hg2.cell c3 (by have := cb.Mo; simp; omega))
              | (at_builtin; refine wpList_app _ stringsT rfl (.tmp 30) (.tmp 32) rfl (o2.alloc (.cells #[.string x] 9)) rfl rfl (news := [.string x]) rfl (Rds.one w2 (.string x) 9) (by simp [Value.oneCell']) ?_ ?_ ?_; (focus omega); (focus omega); intro A4 c6 w4 o4 n4 g4 _; have hrow := ho.row; have k4 := (hS1.mid cb hg2 g4 hrow cb.oB (Ne.symm cb.Mo)).1.trans c3; have k5 := (hS1.mid cb hg2 g4 hrow cb.oB (Ne.symm cb.Mo)).2.trans c5; have hS5 := hS1.push cb hxs hxm hHH.out hf2 hg2 g4 hrow o4; have k6 := hS5.cc; unfold climbV at k6)
              | (go_at_call 137; refine (ih _ (Nat.lt_of_lt_of_le (unmet_snoc hxm hHH.out) hU1) _ x _ rfl hS5).mono ?_; rintro e w6 ⟨rfl, out6, hcl, hS6⟩))
            go_roundw
            case rel => exact ⟨j + 1, out6, by omega, by go_num, hS6, (fun o' h => hcont o' (by rw [hd.out]; exact .go (by rw [← has_false]; exact hHH.out) hcl h)), Nat.le_trans (unmet_sub fun y hy => hcl.sub y (List.mem_append_left _ hy)) hU1⟩
            case measure => simp [intOf]; omega
          · have e1 := hS1.mp.lookB0 hxs hh
            have HH := Lib.hid hh
            clear hh
            go_wp2
            go_roundw
            case rel => exact ⟨j + 1, out1, by omega, by go_num, hS1, (fun o' h => hcont o' (by rw [hd.out]; exact .skip ((has_iff _ _).1 HH.out) h)), hU1⟩
            case measure => simp [intOf]; omega
        · have hd := Lib.hid (drop_len hstr.1 hlt)
          go_wp2
          go_end0
          exact ⟨rfl, out1, hcont _ (by rw [hd.out]; exact .nil), hS1⟩
end Go.Proofs.YtdfnfimajhagfaaGreatDoor
