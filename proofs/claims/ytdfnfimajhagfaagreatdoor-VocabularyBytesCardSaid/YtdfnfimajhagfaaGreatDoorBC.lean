/- Walks: the encoding of a term, of a vocabulary. -/
import Derived.Test.YtdfnfimajhagfaaGreatDoorBB
import Derived.Test.YtdfnfimajhagfaaGreatDoorT13
import Derived.Test.YtdfnfimajhagfaaGreatDoorPlan
namespace Rf
theorem encT_len {t : Term} (h1 : i64n t.kind) (h2 : i64n t.lang) (h3 : t.name.size ≤ 1000) (h4 : t.see.size ≤ 1000) (h5 : ∀ x ∈ t.broader, x.size ≤ 1000) (h6 : t.broader.length ≤ 100) :
    (encL enc [t.kind, t.lang]).length ≤ 27 ∧ (encL encW (t.name :: t.see :: t.broader)).length ≤ 103000 := by
  have hw : ∀ x ∈ t.name :: t.see :: t.broader, (encW x).length ≤ 1009 := fun x hx => by
    have : x.size ≤ 1000 := by
      rcases List.mem_cons.1 hx with rfl | hx
      · exact h3
      · rcases List.mem_cons.1 hx with rfl | hx
        · exact h4
        · exact h5 x hx
    have := encW_len (s := x) (by omega)
    omega
  have hi : ∀ x ∈ [t.kind, t.lang], (enc x).length ≤ 9 := fun x hx => by
    simp at hx
    rcases hx with rfl | rfl
    · exact enc_len h1
    · exact enc_len h2
  have e1 := flat_len hi
  have e2 := flat_len hw
  have e3 := enc_len (n := (([t.kind, t.lang].length : Nat) : Int)) (by unfold i64n; simp)
  have e4 := enc_len (n := (((t.name :: t.see :: t.broader).length : Nat) : Int)) (by unfold i64n; simp; omega)
  unfold encL
  rw [List.length_append, List.length_append]
  simp only [List.length_cons, List.length_nil] at *
  omega
end Rf
namespace Go.Proofs.YtdfnfimajhagfaaGreatDoor
open Go.RowKit Go.Maps Rf
theorem ints_two (w : World) (a b : Int) (t : TypeId) (ha : i64ok a) (hb : i64ok b) : Ints (w.alloc (.cells #[.int .i64 a, .int .i64 b] t)) (some ⟨w.heap.size, 0, none⟩) 2 [a, b] :=
  ⟨rfl, fun x hx => by
    simp at hx
    rcases hx with rfl | rfl
    · exact ha
    · exact hb, Rds.lit w #[.int .i64 a, .int .i64 b] t⟩
theorem own_two (w : World) (a b : S) (t : TypeId) {base : Nat} (h : base ≤ w.heap.size) : Own (w.alloc (.cells #[.string a, .string b] t)) base t 1 (.slice (some ⟨w.heap.size, 0, none⟩) 2 2) 2 [.string a, .string b] :=
  ⟨⟨rfl, .inr ⟨w.heap.size, 2, #[.string a, .string b], rfl, h, heap_alloc_new w _, Nat.le_refl _, by decide, rfl, rfl⟩⟩, Nat.le_trans h (by simp)⟩
set_option maxRecDepth 20000 in
set_option maxHeartbeats 8000000 in
theorem rterm_any (m : TM) (w : World) (hok : m.ok w) (hsm : m.small) :
    Calls Tryz.prog 107 #[.agg #[.string m.t.name, .int .i64 m.t.kind, .int .i64 m.t.lang, .string m.t.see, .slice m.A m.n m.c]] w (ABy (encT m.t) w) := by
  have hmx : (1000 : Nat) ≤ maxLen := by decide
  have hki := hok.ki
  have hla := hok.la
  have hfew := hok.few
  have hbr0 := hok.br
  have hnm := hsm.nm
  have hse := hsm.se
  have hbs := hsm.br
  obtain ⟨t, Am, n1, cm⟩ := m
  dsimp only at hki hla hfew hbr0 hnm hse hbs ⊢
  have hsz : ∀ x ∈ t.name :: t.see :: t.broader, x.size ≤ 1000 := fun x hx => by
    rcases List.mem_cons.1 hx with rfl | hx
    · exact hnm
    · rcases List.mem_cons.1 hx with rfl | hx
      · exact hse
      · exact hbs x hx
  have hmaxs : ∀ x ∈ t.name :: t.see :: t.broader, x.size ≤ maxLen := fun x hx => Nat.le_trans (hsz x hx) hmx
  obtain ⟨hl1, hl2⟩ := encT_len hki hla hnm hse hbs (by rw [hbr0.1]; exact hfew)
  have hlen : (encT t).length = (encL enc [t.kind, t.lang]).length + (encL encW (t.name :: t.see :: t.broader)).length := by unfold encT; rw [List.length_append]
  go_enter Tryz.func107, Tryz.ntmps107
  go_wp2
  obtain ⟨w0, hw0⟩ : ∃ w0, w.alloc (.cells #[.string t.name, .int .i64 t.kind, .int .i64 t.lang, .string t.see, .slice Am n1 cm] 33) = w0 := ⟨_, rfl⟩
  have hb0 : Below w.heap.size w w0 := by rw [← hw0]; exact brefl.al _
  have hcells : ∀ wz, Below w0.heap.size w0 wz → wz.cell? ⟨w.heap.size, 0, none⟩ = some (.string t.name) ∧ wz.cell? ⟨w.heap.size, 1, none⟩ = some (.int .i64 t.kind) ∧ wz.cell? ⟨w.heap.size, 2, none⟩ = some (.int .i64 t.lang) ∧ wz.cell? ⟨w.heap.size, 3, none⟩ = some (.string t.see) ∧ wz.cell? ⟨w.heap.size, 4, none⟩ = some (.slice Am n1 cm) := fun wz hz => by
    rw [← hw0] at hz
    exact box_five w _ _ _ _ _ _ hz
  have hbr := hbr0.below hb0
  have hws : w.heap.size ≤ w0.heap.size := hb0.size
  rw [hw0]
  clear hw0 hbr0 hok hsm
  have hbX : Below w0.heap.size w0 w0.drew := brefl.drn 1
  refine wp_region_plan (.take 0 (.take 1 (.take 2 (.take 3 (.take 6 (.take 7 (.take 8 (.take 9 (.take 11 (.take 12 (.two 4 (.two 5 (.one 10 (.one 13 (.one 14 (.one 15 (.take 16 (.done)))))) 10 (.one 5 (.one 13 (.one 14 (.one 15 (.take 16 (.done))))))) 10 (.one 4 (.one 5 (.one 13 (.one 14 (.one 15 (.take 16 (.done)))))))))))))))))) 17 (fun wz => wz.cell? ⟨w.heap.size, 0, none⟩ = some (.string t.name) ∧ wz.cell? ⟨w.heap.size, 1, none⟩ = some (.int .i64 t.kind) ∧ wz.cell? ⟨w.heap.size, 2, none⟩ = some (.int .i64 t.lang) ∧ wz.cell? ⟨w.heap.size, 3, none⟩ = some (.string t.see) ∧ wz.cell? ⟨w.heap.size, 4, none⟩ = some (.slice Am n1 cm)) (by kernel_rfl) (by kernel_rfl) ?_
  generalize w0.drew = wc at hbX ⊢
  refine wpPlan_put (v := ?_) rfl rfl (Or.inl ⟨by rfl, fun wz hz => ?_⟩) (hcells _ hbX) ?_
  rotate_left
  (focus (go_simp; try (with_reducible rfl)))
  simp only [List.setIfInBounds_toArray, List.set_cons_succ, List.set_cons_zero]
  refine wpPlan_put (v := ?_) rfl rfl (Or.inl ⟨by rfl, fun wz hz => ?_⟩) (hcells _ hbX) ?_
  rotate_left
  (focus (go_simp; try (with_reducible rfl)))
  simp only [List.setIfInBounds_toArray, List.set_cons_succ, List.set_cons_zero]
  refine wpPlan_put (v := ?_) rfl rfl (Or.inl ⟨by rfl, fun wz hz => ?_⟩) (hcells _ hbX) ?_
  rotate_left
  (focus (go_simp; try (with_reducible rfl)))
  simp only [List.setIfInBounds_toArray, List.set_cons_succ, List.set_cons_zero]
  refine wpPlan_put (v := ?_) rfl rfl (Or.inl ⟨by rfl, fun wz hz => ?_⟩) (hcells _ hbX) ?_
  rotate_left
  (focus (go_simp; try (with_reducible rfl)))
  simp only [List.setIfInBounds_toArray, List.set_cons_succ, List.set_cons_zero]
  refine wpPlan_put (v := ?_) rfl rfl (Or.inl ⟨by rfl, fun wz hz => ?_⟩) (hcells _ hbX) ?_
  rotate_left
  (focus (go_simp; try (with_reducible rfl)))
  simp only [List.setIfInBounds_toArray, List.set_cons_succ, List.set_cons_zero]
  refine wpPlan_put (v := ?_) rfl rfl (Or.inl ⟨by rfl, fun wz hz => ?_⟩) (hcells _ hbX) ?_
  rotate_left
  (focus (go_simp; try (with_reducible rfl)))
  simp only [List.setIfInBounds_toArray, List.set_cons_succ, List.set_cons_zero]
  refine wpPlan_put (v := ?_) rfl rfl (Or.inl ⟨by rfl, fun wz hz => ?_⟩) (hcells _ hbX) ?_
  rotate_left
  (focus (go_simp; try (with_reducible rfl)))
  simp only [List.setIfInBounds_toArray, List.set_cons_succ, List.set_cons_zero]
  refine wpPlan_put (v := ?_) rfl rfl (Or.inl ⟨by rfl, fun wz hz => ?_⟩) (hcells _ hbX) ?_
  rotate_left
  (focus (go_simp; try (with_reducible rfl)))
  simp only [List.setIfInBounds_toArray, List.set_cons_succ, List.set_cons_zero]
  refine wpPlan_put (v := ?_) rfl rfl (Or.inl ⟨by rfl, fun wz hz => ?_⟩) (hcells _ hbX) ?_
  rotate_left
  (focus (go_simp; try (with_reducible rfl)))
  simp only [List.setIfInBounds_toArray, List.set_cons_succ, List.set_cons_zero]
  refine wpPlan_put (v := ?_) rfl rfl (Or.inl ⟨by rfl, fun wz hz => ?_⟩) (hcells _ hbX) ?_
  rotate_left
  (focus (go_simp; try (with_reducible rfl)))
  simp only [List.setIfInBounds_toArray, List.set_cons_succ, List.set_cons_zero]
  refine wpPlan_two ?_ ?_
  · skip
    refine wpForced_step rfl (fun K hK => ?_)
    go_simp
    have hX2 := hbX.al (.cells #[.int .i64 t.kind, .int .i64 t.lang] 3)
    have hI := ints_two wc t.kind t.lang 3 hki hla
    try (have hne : wc.heap.size ≠ sb := by have := hsl; omega)
    try replace hsl := Nat.lt_of_lt_of_le hsl (brefl.al (.cells #[.int .i64 t.kind, .int .i64 t.lang] 3) : Below wc.heap.size wc _).size
    try replace hsO := hsO.alloc (.cells #[.int .i64 t.kind, .int .i64 t.lang] 3)
    try replace hs2 := hs2.alloc (.cells #[.int .i64 t.kind, .int .i64 t.lang] 3)
    have hil : wc.heap.size < (wc.alloc (.cells #[.int .i64 t.kind, .int .i64 t.lang] 3)).heap.size := by simp
    refine hK _ _ (fun _ => hcells _ hX2) ?_
    clear hK K hbX
    have hbX := hX2
    clear hX2
    generalize wc.heap.size = ib at *
    generalize wc.alloc (.cells #[.int .i64 t.kind, .int .i64 t.lang] 3) = wc at *
    refine wpPlan_two ?_ ?_
    · skip
      refine wpForced_step rfl (fun K hK => ?_)
      go_simp
      refine (rints_any _ 2 2 [t.kind, t.lang] _ (by omega) hI).mono ?_
      rintro e wc ⟨A1, c1, rfl, hc1, ho1, hbd⟩
      go_simp
      have hX2 := hbX.tr hbd
      try (have hN1 : ∀ q, _ = some q → q ≠ sb := fun q e => by have h1 := ho1.row q e; omega)
      replace ho1 := ho1.mono (base' := w0.heap.size) hbX.size
      try replace hsl := Nat.lt_of_lt_of_le hsl hbd.size
      try replace hsO := hsO.below hbd
      try replace hs2 := hs2.below hbd
      refine hK _ _ (fun _ => hcells _ hX2) ?_
      clear hK K hbX hI hil hbd
      try clear hne
      have hbX := hX2
      clear hX2
      refine wpPlan_one ?_
      refine wpForced_step rfl (fun K hK => ?_)
      go_simp
      have hX2 := hbX.al (.cells #[.string t.name, .string t.see] 9)
      have hsO := own_two wc t.name t.see 9 (base := w0.heap.size) hbX.size
      try (have hne : ib ≠ wc.heap.size := by have := hil; omega)
      try (have hN1 : ∀ q, _ = some q → q ≠ wc.heap.size := fun q e => Nat.ne_of_lt (ho1.lt q e))
      try replace hI := hI.below (brefl.al (.cells #[.string t.name, .string t.see] 9))
      try replace hil := Nat.lt_of_lt_of_le hil (brefl.al (.cells #[.string t.name, .string t.see] 9) : Below wc.heap.size wc _).size
      try replace ho1 := ho1.alloc (.cells #[.string t.name, .string t.see] 9)
      have hsl : wc.heap.size < (wc.alloc (.cells #[.string t.name, .string t.see] 9)).heap.size := by simp
      refine hK _ _ (fun _ => hcells _ hX2) ?_
      clear hK K hbX
      have hbX := hX2
      clear hX2
      generalize wc.heap.size = sb at *
      generalize wc.alloc (.cells #[.string t.name, .string t.see] 9) = wc at *
      refine wpPlan_one ?_
      refine wpForced_step rfl (fun K hK => ?_)
      refine step_app _ stringsT rfl (.tmp 13) (.tmp 15) rfl hsO rfl rfl (news := t.broader.map Value.string) (by rw [List.length_map, hbr.1, Nat.mul_one]) (hbr.below hbX).2.2 (strs_one _) ?_ ?_ ?_
      · omega
      · omega
      intro A7 c7 wc7 o7 n7 g7 _
      go_simp
      have hX2 := hbX.gr g7 hsO.row
      try replace hI : Ints wc7 _ 2 _ := ⟨hI.1, hI.2.1, hI.2.2.grown g7 (fun b off e => by injection e with e; injection e with e1 e2; rw [← e1]; intro h; simp [Value.ownBlock] at h; exact hne h)⟩
      try replace ho1 := ho1.kept g7 (apart_of fun q hq e => by have h1 := hN1 q hq; simp [Value.ownBlock] at e; omega)
      try replace hil := Nat.lt_of_lt_of_le hil g7.size
      refine hK _ _ (fun _ => hcells _ hX2) ?_
      clear hK K hbX hsO hsl g7
      try clear hN1
      try clear hne
      have hbX := hX2
      have hs2 := o7
      clear hX2 o7
      generalize wc7 = wc at *
      refine wpPlan_one ?_
      refine wpForced_step rfl (fun K hK => ?_)
      go_simp
      refine (rstrs_any A7 (2 + n1) c7 (t.name :: t.see :: t.broader) _ (by omega) (Strs.own hs2 rfl hmaxs) hsz).mono ?_
      rintro e wc ⟨A8, c8, rfl, hc8, ho2, hbd⟩
      go_simp
      have hX2 := hbX.tr hbd
      replace ho1 := ho1.below hbd
      refine hK _ _ (fun _ => hcells _ hX2) ?_
      clear hK K hbX hs2 hbd
      have hbX := hX2
      clear hX2
      refine wpPlan_one ?_
      refine wpForced_step rfl (fun K hK => ?_)
      refine step_app _ bytesT rfl (.tmp 8) (.tmp 17) rfl ho1 rfl rfl (news := Lib.byteCells (encL encW (t.name :: t.see :: t.broader))) (by rw [Lib.byteCells_length, Nat.mul_one]) ho2.reads (byteCells_one _) ?_ ?_ ?_
      · omega
      · omega
      intro A9 c9 wc9 o9 n9 g9 _
      go_simp
      have hX2 := hbX.gr g9 ho1.row
      refine hK _ _ (fun _ => hcells _ hX2) ?_
      clear hK K hbX
      have hbX := hX2
      clear hX2
      refine wpPlan_put (v := ?_) rfl rfl (Or.inl ⟨by rfl, fun wz hz => ?_⟩) (hcells _ hbX) ?_
      rotate_left
      (focus (go_simp; try (with_reducible rfl)))
      simp only [List.setIfInBounds_toArray, List.set_cons_succ, List.set_cons_zero]
      refine wpPlan_nil ?_
      go_wp2
      go_ret
      refine ⟨A9, c9, by rw [hlen]; rfl, by rw [hlen]; exact n9, by rw [hlen]; unfold encT; rw [byteCells_app]; exact o9.mono hws, hb0.tr hbX⟩
    · skip
      refine wpForced_step rfl (fun K hK => ?_)
      go_simp
      have hX2 := hbX.al (.cells #[.string t.name, .string t.see] 9)
      have hsO := own_two wc t.name t.see 9 (base := w0.heap.size) hbX.size
      try (have hne : ib ≠ wc.heap.size := by have := hil; omega)
      try (have hN1 : ∀ q, _ = some q → q ≠ wc.heap.size := fun q e => Nat.ne_of_lt (ho1.lt q e))
      try replace hI := hI.below (brefl.al (.cells #[.string t.name, .string t.see] 9))
      try replace hil := Nat.lt_of_lt_of_le hil (brefl.al (.cells #[.string t.name, .string t.see] 9) : Below wc.heap.size wc _).size
      try replace ho1 := ho1.alloc (.cells #[.string t.name, .string t.see] 9)
      have hsl : wc.heap.size < (wc.alloc (.cells #[.string t.name, .string t.see] 9)).heap.size := by simp
      refine hK _ _ (fun _ => hcells _ hX2) ?_
      clear hK K hbX
      have hbX := hX2
      clear hX2
      generalize wc.heap.size = sb at *
      generalize wc.alloc (.cells #[.string t.name, .string t.see] 9) = wc at *
      refine wpPlan_one ?_
      refine wpForced_step rfl (fun K hK => ?_)
      go_simp
      refine (rints_any _ 2 2 [t.kind, t.lang] _ (by omega) hI).mono ?_
      rintro e wc ⟨A1, c1, rfl, hc1, ho1, hbd⟩
      go_simp
      have hX2 := hbX.tr hbd
      try (have hN1 : ∀ q, _ = some q → q ≠ sb := fun q e => by have h1 := ho1.row q e; omega)
      replace ho1 := ho1.mono (base' := w0.heap.size) hbX.size
      try replace hsl := Nat.lt_of_lt_of_le hsl hbd.size
      try replace hsO := hsO.below hbd
      try replace hs2 := hs2.below hbd
      refine hK _ _ (fun _ => hcells _ hX2) ?_
      clear hK K hbX hI hil hbd
      try clear hne
      have hbX := hX2
      clear hX2
      refine wpPlan_one ?_
      refine wpForced_step rfl (fun K hK => ?_)
      refine step_app _ stringsT rfl (.tmp 13) (.tmp 15) rfl hsO rfl rfl (news := t.broader.map Value.string) (by rw [List.length_map, hbr.1, Nat.mul_one]) (hbr.below hbX).2.2 (strs_one _) ?_ ?_ ?_
      · omega
      · omega
      intro A7 c7 wc7 o7 n7 g7 _
      go_simp
      have hX2 := hbX.gr g7 hsO.row
      try replace hI : Ints wc7 _ 2 _ := ⟨hI.1, hI.2.1, hI.2.2.grown g7 (fun b off e => by injection e with e; injection e with e1 e2; rw [← e1]; intro h; simp [Value.ownBlock] at h; exact hne h)⟩
      try replace ho1 := ho1.kept g7 (apart_of fun q hq e => by have h1 := hN1 q hq; simp [Value.ownBlock] at e; omega)
      try replace hil := Nat.lt_of_lt_of_le hil g7.size
      refine hK _ _ (fun _ => hcells _ hX2) ?_
      clear hK K hbX hsO hsl g7
      try clear hN1
      try clear hne
      have hbX := hX2
      have hs2 := o7
      clear hX2 o7
      generalize wc7 = wc at *
      refine wpPlan_one ?_
      refine wpForced_step rfl (fun K hK => ?_)
      go_simp
      refine (rstrs_any A7 (2 + n1) c7 (t.name :: t.see :: t.broader) _ (by omega) (Strs.own hs2 rfl hmaxs) hsz).mono ?_
      rintro e wc ⟨A8, c8, rfl, hc8, ho2, hbd⟩
      go_simp
      have hX2 := hbX.tr hbd
      replace ho1 := ho1.below hbd
      refine hK _ _ (fun _ => hcells _ hX2) ?_
      clear hK K hbX hs2 hbd
      have hbX := hX2
      clear hX2
      refine wpPlan_one ?_
      refine wpForced_step rfl (fun K hK => ?_)
      refine step_app _ bytesT rfl (.tmp 8) (.tmp 17) rfl ho1 rfl rfl (news := Lib.byteCells (encL encW (t.name :: t.see :: t.broader))) (by rw [Lib.byteCells_length, Nat.mul_one]) ho2.reads (byteCells_one _) ?_ ?_ ?_
      · omega
      · omega
      intro A9 c9 wc9 o9 n9 g9 _
      go_simp
      have hX2 := hbX.gr g9 ho1.row
      refine hK _ _ (fun _ => hcells _ hX2) ?_
      clear hK K hbX
      have hbX := hX2
      clear hX2
      refine wpPlan_put (v := ?_) rfl rfl (Or.inl ⟨by rfl, fun wz hz => ?_⟩) (hcells _ hbX) ?_
      rotate_left
      (focus (go_simp; try (with_reducible rfl)))
      simp only [List.setIfInBounds_toArray, List.set_cons_succ, List.set_cons_zero]
      refine wpPlan_nil ?_
      go_wp2
      go_ret
      refine ⟨A9, c9, by rw [hlen]; rfl, by rw [hlen]; exact n9, by rw [hlen]; unfold encT; rw [byteCells_app]; exact o9.mono hws, hb0.tr hbX⟩
  · skip
    refine wpForced_step rfl (fun K hK => ?_)
    go_simp
    have hX2 := hbX.al (.cells #[.string t.name, .string t.see] 9)
    have hsO := own_two wc t.name t.see 9 (base := w0.heap.size) hbX.size
    try (have hne : ib ≠ wc.heap.size := by have := hil; omega)
    try (have hN1 : ∀ q, _ = some q → q ≠ wc.heap.size := fun q e => Nat.ne_of_lt (ho1.lt q e))
    try replace hI := hI.below (brefl.al (.cells #[.string t.name, .string t.see] 9))
    try replace hil := Nat.lt_of_lt_of_le hil (brefl.al (.cells #[.string t.name, .string t.see] 9) : Below wc.heap.size wc _).size
    try replace ho1 := ho1.alloc (.cells #[.string t.name, .string t.see] 9)
    have hsl : wc.heap.size < (wc.alloc (.cells #[.string t.name, .string t.see] 9)).heap.size := by simp
    refine hK _ _ (fun _ => hcells _ hX2) ?_
    clear hK K hbX
    have hbX := hX2
    clear hX2
    generalize wc.heap.size = sb at *
    generalize wc.alloc (.cells #[.string t.name, .string t.see] 9) = wc at *
    refine wpPlan_one ?_
    refine wpForced_step rfl (fun K hK => ?_)
    go_simp
    have hX2 := hbX.al (.cells #[.int .i64 t.kind, .int .i64 t.lang] 3)
    have hI := ints_two wc t.kind t.lang 3 hki hla
    try (have hne : wc.heap.size ≠ sb := by have := hsl; omega)
    try replace hsl := Nat.lt_of_lt_of_le hsl (brefl.al (.cells #[.int .i64 t.kind, .int .i64 t.lang] 3) : Below wc.heap.size wc _).size
    try replace hsO := hsO.alloc (.cells #[.int .i64 t.kind, .int .i64 t.lang] 3)
    try replace hs2 := hs2.alloc (.cells #[.int .i64 t.kind, .int .i64 t.lang] 3)
    have hil : wc.heap.size < (wc.alloc (.cells #[.int .i64 t.kind, .int .i64 t.lang] 3)).heap.size := by simp
    refine hK _ _ (fun _ => hcells _ hX2) ?_
    clear hK K hbX
    have hbX := hX2
    clear hX2
    generalize wc.heap.size = ib at *
    generalize wc.alloc (.cells #[.int .i64 t.kind, .int .i64 t.lang] 3) = wc at *
    refine wpPlan_one ?_
    refine wpForced_step rfl (fun K hK => ?_)
    go_simp
    refine (rints_any _ 2 2 [t.kind, t.lang] _ (by omega) hI).mono ?_
    rintro e wc ⟨A1, c1, rfl, hc1, ho1, hbd⟩
    go_simp
    have hX2 := hbX.tr hbd
    try (have hN1 : ∀ q, _ = some q → q ≠ sb := fun q e => by have h1 := ho1.row q e; omega)
    replace ho1 := ho1.mono (base' := w0.heap.size) hbX.size
    try replace hsl := Nat.lt_of_lt_of_le hsl hbd.size
    try replace hsO := hsO.below hbd
    try replace hs2 := hs2.below hbd
    refine hK _ _ (fun _ => hcells _ hX2) ?_
    clear hK K hbX hI hil hbd
    try clear hne
    have hbX := hX2
    clear hX2
    refine wpPlan_one ?_
    refine wpForced_step rfl (fun K hK => ?_)
    refine step_app _ stringsT rfl (.tmp 13) (.tmp 15) rfl hsO rfl rfl (news := t.broader.map Value.string) (by rw [List.length_map, hbr.1, Nat.mul_one]) (hbr.below hbX).2.2 (strs_one _) ?_ ?_ ?_
    · omega
    · omega
    intro A7 c7 wc7 o7 n7 g7 _
    go_simp
    have hX2 := hbX.gr g7 hsO.row
    try replace hI : Ints wc7 _ 2 _ := ⟨hI.1, hI.2.1, hI.2.2.grown g7 (fun b off e => by injection e with e; injection e with e1 e2; rw [← e1]; intro h; simp [Value.ownBlock] at h; exact hne h)⟩
    try replace ho1 := ho1.kept g7 (apart_of fun q hq e => by have h1 := hN1 q hq; simp [Value.ownBlock] at e; omega)
    try replace hil := Nat.lt_of_lt_of_le hil g7.size
    refine hK _ _ (fun _ => hcells _ hX2) ?_
    clear hK K hbX hsO hsl g7
    try clear hN1
    try clear hne
    have hbX := hX2
    have hs2 := o7
    clear hX2 o7
    generalize wc7 = wc at *
    refine wpPlan_one ?_
    refine wpForced_step rfl (fun K hK => ?_)
    go_simp
    refine (rstrs_any A7 (2 + n1) c7 (t.name :: t.see :: t.broader) _ (by omega) (Strs.own hs2 rfl hmaxs) hsz).mono ?_
    rintro e wc ⟨A8, c8, rfl, hc8, ho2, hbd⟩
    go_simp
    have hX2 := hbX.tr hbd
    replace ho1 := ho1.below hbd
    refine hK _ _ (fun _ => hcells _ hX2) ?_
    clear hK K hbX hs2 hbd
    have hbX := hX2
    clear hX2
    refine wpPlan_one ?_
    refine wpForced_step rfl (fun K hK => ?_)
    refine step_app _ bytesT rfl (.tmp 8) (.tmp 17) rfl ho1 rfl rfl (news := Lib.byteCells (encL encW (t.name :: t.see :: t.broader))) (by rw [Lib.byteCells_length, Nat.mul_one]) ho2.reads (byteCells_one _) ?_ ?_ ?_
    · omega
    · omega
    intro A9 c9 wc9 o9 n9 g9 _
    go_simp
    have hX2 := hbX.gr g9 ho1.row
    refine hK _ _ (fun _ => hcells _ hX2) ?_
    clear hK K hbX
    have hbX := hX2
    clear hX2
    refine wpPlan_put (v := ?_) rfl rfl (Or.inl ⟨by rfl, fun wz hz => ?_⟩) (hcells _ hbX) ?_
    rotate_left
    (focus (go_simp; try (with_reducible rfl)))
    simp only [List.setIfInBounds_toArray, List.set_cons_succ, List.set_cons_zero]
    refine wpPlan_nil ?_
    go_wp2
    go_ret
    refine ⟨A9, c9, by rw [hlen]; rfl, by rw [hlen]; exact n9, by rw [hlen]; unfold encT; rw [byteCells_app]; exact o9.mono hws, hb0.tr hbX⟩
theorem encT_all {m : TM} {w : World} (hok : m.ok w) (hsm : m.small) : (encT m.t).length ≤ 103027 := by
  obtain ⟨h1, h2⟩ := encT_len hok.ki hok.la hsm.nm hsm.se hsm.br (by rw [hok.br.1]; exact hok.few)
  unfold encT
  rw [List.length_append]; omega
theorem encT_terms {w : World} {A : Option Addr} {n : Nat} {ms : List TM} (hl : Tms w A n ms) (hsm : ∀ m ∈ ms, m.small) : ∀ t ∈ terms ms, (encT t).length ≤ 103027 := by
  intro t ht
  obtain ⟨m, hm, rfl⟩ := List.mem_map.1 ht
  exact encT_all (hl.2.1 m hm) (hsm m hm)
set_option maxRecDepth 20000 in
set_option maxHeartbeats 2000000 in
theorem rencode_any (A : Option Addr) (n c : Nat) (ms : List TM) (w : World) (hn : n ≤ 1000) (hl : Tms w A n ms) (hsm : ∀ m ∈ ms, m.small) : Calls Tryz.prog 53 #[.slice A n c] w (ABy (encV (terms ms)) w) := by
  have hln := terms_length hl
  have hbd := encT_terms hl hsm
  go_enter Tryz.func53, Tryz.ntmps53
  go_wp2_with (go_at_call 106; go_loud (refine (rint_any (n : Int) _ (by unfold i64n; omega)).mono ?_; rintro e w1 ⟨A2, c2, rfl, hc2, ho2, hb2⟩))
  go_loopw [3, 4] (fun t3 ti wr => ∃ k : Nat, k ≤ n ∧ ti = .int .i64 k ∧ OutB wr w.heap.size t3 (encU encT (terms ms) k) ∧ Below w.heap.size w wr) (fun _ ti _ => n - (intOf ti).toNat)
  case atStart => exact ⟨0, Nat.zero_le _, rfl, ⟨c2, A2, by rw [encU_zero, hln], by rw [encU_zero, hln]; exact hc2, by rw [encU_zero, hln]; exact ho2⟩, hb2⟩
  case round =>
    obtain ⟨k, hk, rfl, ⟨c, A9, rfl, hc, ho⟩, hb⟩ := hrel
    have hel := encU_len (f := encT) (B := 103027) (l := terms ms) (k := k) hbd (by omega) (by omega)
    have hel2 : (encU encT (terms ms) k).length ≤ 103027009 := by have : k * 103027 ≤ 1000 * 103027 := Nat.mul_le_mul_right _ (by omega); omega
    clear hel
    by_cases hlt : k < n
    · have hlt' : (k : Int) < n := by omega
      obtain ⟨b, off, m, rfl, hx, hok, hb0, d1, d2, d3, d4, d5⟩ := (hl.below hb).at_ hlt
      have hms := hsm m (List.mem_of_getElem? hx)
      have hxl := encT_all hok hms
      have HN := Lib.hid (encU_snoc encT (terms_get hx))
      have hnl : (encU encT (terms ms) (k + 1)).length = (encU encT (terms ms) k).length + (encT m.t).length := by rw [HN.out, List.length_append]
      clear hx
      obtain ⟨q, hq⟩ : ∃ q, (encU encT (terms ms) k).length = q := ⟨_, rfl⟩
      rw [hq] at ho hc hel2 hnl ⊢
      go_wp2_with (first
        | (go_at_call 107; go_loud (refine (rterm_any m _ hok hms).mono ?_; rintro e w2 ⟨A3, c3, rfl, hc3, ho3, hb3⟩; have hoa := ho.below hb3))
        | (at_builtin; go_loud (refine wpList_app _ bytesT rfl (.tmp 14) (.tmp 19) rfl hoa rfl rfl (news := Lib.byteCells (encT m.t)) (by rw [Lib.byteCells_length, Nat.mul_one]) ho3.reads (byteCells_one _) ?_ ?_ ?_; (focus omega); (focus omega); intro A4 c4 w4 o4 n4 g4 _)))
      go_roundw
      case rel => exact ⟨k + 1, by omega, by go_num, ⟨c4, A4, by rw [hnl], by rw [hnl]; exact n4, by rw [hnl, HN.out, byteCells_app]; exact o4⟩, (hb.tr hb3).gr g4 ho.row⟩
      case measure => simp [intOf]; omega
    · have hlt' : ¬ (k : Int) < n := by omega
      have HE := Lib.hid (show encU encT (terms ms) k = encV (terms ms) from encU_all encT (by omega))
      go_wp2
      go_ret
      exact ⟨A9, c, by rw [← HE.out]; rfl, by rw [← HE.out]; exact hc, by rw [← HE.out]; exact ho, hb⟩
set_option maxRecDepth 20000 in
set_option maxHeartbeats 4000000 in
theorem wencode_any (A : Option Addr) (n c : Nat) (ms : List TM) (w : World) (hn : n ≤ 1000) (hl : Tms w A n ms) (hsm : ∀ m ∈ ms, m.small) : Calls Tryz.prog 51 #[.slice A n c] w (ABy (encV (terms ms)) w) := by
  have hmx : (1000 : Nat) ≤ maxLen := by decide
  have hln := terms_length hl
  have hbd := encT_terms hl hsm
  go_enter Tryz.func51, Tryz.ntmps51
  go_wp2_with (go_at_call 103; go_loud (refine (int_any (n : Int) _ (by unfold i64n; omega)).mono ?_; rintro e w1 ⟨A2, c2, rfl, hc2, ho2, hb2⟩))
  go_loopw [3, 11] (fun t3 ti wr => ∃ k : Nat, k ≤ n ∧ ti = .int .i64 k ∧ OutB wr w.heap.size t3 (encU encT (terms ms) k) ∧ Below w.heap.size w wr) (fun _ ti _ => n - (intOf ti).toNat)
  case atStart => exact ⟨0, Nat.zero_le _, rfl, ⟨c2, A2, by rw [encU_zero, hln], by rw [encU_zero, hln]; exact hc2, by rw [encU_zero, hln]; exact ho2⟩, hb2⟩
  case round =>
    obtain ⟨k, hk, rfl, ⟨c, A9, rfl, hc, ho⟩, hb⟩ := hrel
    have hel := encU_len (f := encT) (B := 103027) (l := terms ms) (k := k) hbd (by omega) (by omega)
    have hel2 : (encU encT (terms ms) k).length ≤ 103027009 := by have : k * 103027 ≤ 1000 * 103027 := Nat.mul_le_mul_right _ (by omega); omega
    clear hel
    by_cases hlt : k < n
    · have hlt' : (k : Int) < n := by omega
      obtain ⟨b, off, m, rfl, hx, hok, hb0, d1, d2, d3, d4, d5⟩ := (hl.below hb).at_ hlt
      have hms := hsm m (List.mem_of_getElem? hx)
      have hki := hok.ki
      have hla := hok.la
      have hfew := hok.few
      have hbr := (hl.2.1 m (List.mem_of_getElem? hx)).br
      obtain ⟨hl1, hl2⟩ := encT_len hki hla hms.nm hms.se hms.br (by rw [hbr.1]; exact hfew)
      have hsz : ∀ x ∈ m.t.name :: m.t.see :: m.t.broader, x.size ≤ 1000 := fun x hx => by
        rcases List.mem_cons.1 hx with rfl | hx
        · exact hms.nm
        · rcases List.mem_cons.1 hx with rfl | hx
          · exact hms.se
          · exact hms.br x hx
      have hmaxs : ∀ x ∈ m.t.name :: m.t.see :: m.t.broader, x.size ≤ maxLen := fun x hx => Nat.le_trans (hsz x hx) hmx
      have HN := Lib.hid (encU_snoc encT (terms_get hx))
      have hnl : (encU encT (terms ms) (k + 1)).length = (encU encT (terms ms) k).length + (encL enc [m.t.kind, m.t.lang]).length + (encL encW (m.t.name :: m.t.see :: m.t.broader)).length := by rw [HN.out, List.length_append]; unfold encT; rw [List.length_append]; omega
      clear hx hok
      obtain ⟨q, hq⟩ : ∃ q, (encU encT (terms ms) k).length = q := ⟨_, rfl⟩
      rw [hq] at ho hc hel2 hnl ⊢
      have hI := ints_two (wr.alloc (.cells #[.string m.t.name, .int .i64 m.t.kind, .int .i64 m.t.lang, .string m.t.see, .slice m.A m.n m.c] 33)) m.t.kind m.t.lang 3 hki hla
      rw [World.size_alloc] at hI
      have hbI : Below wr.heap.size wr ((wr.alloc (.cells #[.string m.t.name, .int .i64 m.t.kind, .int .i64 m.t.lang, .string m.t.see, .slice m.A m.n m.c] 33)).alloc (.cells #[.int .i64 m.t.kind, .int .i64 m.t.lang] 3)) := (brefl.al _).al _
      go_wp2_with (first
        | (go_at_call 104; go_loud (refine (wints_any _ 2 2 [m.t.kind, m.t.lang] _ (by omega) hI).mono ?_; rintro e w3 ⟨A3, c3, rfl, hc3, ho3, hb3⟩; have hoa := ho.below (hbI.tr hb3); obtain ⟨q0, q1, q2, q3, q4⟩ := box_five wr _ _ _ _ _ _ ((brefl.al (.cells #[.int .i64 m.t.kind, .int .i64 m.t.lang] 3)).tr hb3); have hbx : some wr.heap.size ≠ (Value.slice A9 q c).ownBlock := fun e => by { have := ho.lt _ e.symm; omega }))
        | (at_builtin; (refine wpList_app _ bytesT rfl (.tmp 15) (.tmp 21) rfl hoa rfl rfl (news := Lib.byteCells (encL enc [m.t.kind, m.t.lang])) (by rw [Lib.byteCells_length, Nat.mul_one]) ho3.reads (byteCells_one _) ?_ ?_ ?_; (focus omega); (focus omega); intro A4 c4 w4 o4 n4 g4 e4; have z0 := g4.cell q0 hbx; have z3 := g4.cell q3 hbx; have z4 := g4.cell q4 hbx; have hb4 := (hb.tr (hbI.tr hb3)).gr g4 hoa.row; have hs3 : wr.heap.size < w3.heap.size := Nat.lt_of_lt_of_le (by simp; omega) hb3.size; have hs4 := Nat.lt_of_lt_of_le hs3 g4.size))
        | (at_builtin; (refine wpList_app _ stringsT rfl (.tmp 28) (.tmp 30) rfl (own_two w4 m.t.name m.t.see 9 (Nat.le_refl _)) rfl rfl (news := m.t.broader.map Value.string) (by rw [List.length_map, hbr.1, Nat.mul_one]) ((hbr.below hb4).below (brefl.al _)).2.2 (strs_one _) ?_ ?_ ?_; (focus omega); (focus omega); intro A5 c5 w5 o5 n5 g5 e5; have hb5 := (hb4.al (.cells #[.string m.t.name, .string m.t.see] 9)).gr g5 (fun q e => by { simp [Value.ownBlock] at e; have := hb4.size; omega }); have o4a := (o4.alloc (.cells #[.string m.t.name, .string m.t.see] 9)).kept g5 (apart_of fun q hq e => by { have := o4.lt q hq; simp [Value.ownBlock] at e; omega })))
        | (go_at_call 105; go_loud (refine (wstrs_any A5 (2 + m.n) c5 (m.t.name :: m.t.see :: m.t.broader) _ (by omega) (Strs.own o5 rfl hmaxs) hsz).mono ?_; rintro e w6 ⟨A6, c6, rfl, hc6, ho6, hb6⟩; have o4b := o4a.below hb6))
        | (at_builtin; go_loud (refine wpList_app _ bytesT rfl (.tmp 23) (.tmp 32) rfl o4b rfl rfl (news := Lib.byteCells (encL encW (m.t.name :: m.t.see :: m.t.broader))) (by rw [Lib.byteCells_length, Nat.mul_one]) ho6.reads (byteCells_one _) ?_ ?_ ?_; (focus omega); (focus omega); intro A7 c7 w7 o7 n7 g7 _)))
      go_roundw
      case rel => exact ⟨k + 1, by omega, by go_num, ⟨c7, A7, by rw [hnl], by rw [hnl]; exact n7, by rw [hnl, HN.out]; unfold encT; rw [byteCells_app, byteCells_app, ← List.append_assoc]; exact o7⟩, (hb5.tr hb6).gr g7 o4b.row⟩
      case measure => simp [intOf]; omega
    · have hlt' : ¬ (k : Int) < n := by omega
      have HE := Lib.hid (show encU encT (terms ms) k = encV (terms ms) from encU_all encT (by omega))
      go_wp2
      go_ret
      exact ⟨A9, c, by rw [← HE.out]; rfl, by rw [← HE.out]; exact hc, by rw [← HE.out]; exact ho, hb⟩
end Go.Proofs.YtdfnfimajhagfaaGreatDoor
