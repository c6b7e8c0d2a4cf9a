/- A slice of the call's own that does not begin at its block's head: what 'q = q[1:]' and 'q = append(q, x)' leave; a slice of one element. -/
import Derived.Test.YtdfnfimajhagfaaGreatDoorMap
namespace Go.Proofs.YtdfnfimajhagfaaGreatDoor
open Go.RowKit Go.Maps Rf
/-- a row of the call's own from some offset on (elements of one cell) -/
def OwnT (w : World) (base : Nat) (e : TypeId) (v : Value) (n : Nat) (xs : List Value) : Prop :=
  xs.length = n ∧ base ≤ w.heap.size ∧ ∃ g off c cur, v = .slice (some ⟨g, off, none⟩) n c ∧ base ≤ g ∧ w.heap[g]? = some (.cells cur e (0, 0)) ∧ n ≤ c ∧ off + c ≤ cur.size ∧ c ≤ maxLen ∧ ∀ j u, xs[j]? = some u → cur[off + j]? = some u
section
variable {w w' : World} {base : Nat} {e : TypeId} {v : Value} {n : Nat} {xs : List Value}
theorem OwnT.form (h : OwnT w base e v n xs) : ∃ A c, v = .slice A n c ∧ n ≤ c ∧ Rds w A xs := by
  obtain ⟨h1, _, g, off, c, cur, rfl, h2, h3, h4, h5, h6, h7⟩ := h
  exact ⟨_, c, rfl, h4, fun _ => ⟨g, off, rfl, (Array.getElem?_eq_some_iff.1 h3).1, fun j u hu => by rw [cell_of_row _ g _ cur e (0, 0) h3]; exact h7 j u hu⟩⟩
theorem OwnT.row (h : OwnT w base e v n xs) : ∀ k, v.ownBlock = some k → base ≤ k ∧ k < w.heap.size := by
  obtain ⟨h1, _, g, off, c, cur, rfl, h2, h3, _⟩ := h
  intro k hk
  simp [Value.ownBlock] at hk
  subst hk
  exact ⟨h2, (Array.getElem?_eq_some_iff.1 h3).1⟩
theorem OwnT.kept {row : Option Nat} (h : OwnT w base e v n xs) (hg : w.grownBy w' row) (hne : v.ownBlock ≠ row) : OwnT w' base e v n xs := by
  obtain ⟨h1, h0, g, off, c, cur, rfl, h2, h3, h4⟩ := h
  exact ⟨h1, Nat.le_trans h0 hg.size, g, off, c, cur, rfl, h2, (hg.block g (Array.getElem?_eq_some_iff.1 h3).1 (by simpa [Value.ownBlock] using hne)).trans h3, h4⟩
theorem OwnT.alloc (h : OwnT w base e v n xs) (o : Obj) : OwnT (w.alloc o) base e v n xs := h.kept (World.grownBy_alloc w o none) (by
  obtain ⟨h1, _, g, off, c, cur, rfl, _⟩ := h
  simp [Value.ownBlock])
theorem OwnT.drew (h : OwnT w base e v n xs) : OwnT w.drew base e v n xs := h
theorem OwnT.below (h : OwnT w base e v n xs) (hb : Below w.heap.size w w') : OwnT w' base e v n xs :=
  h.kept (row := none) ⟨hb.os, hb.tape, hb.output, hb.size, fun k hk _ => hb.block k hk⟩ (by
    obtain ⟨h1, _, g, off, c, cur, rfl, _⟩ := h
    simp [Value.ownBlock])
theorem OwnT.one (w : World) {base : Nat} (e : TypeId) (u : Value) (h : base ≤ w.heap.size) : OwnT (w.alloc (.cells #[u] e)) base e (.slice (some ⟨w.heap.size, 0, none⟩) 1 1) 1 [u] :=
  ⟨rfl, by simp; omega, w.heap.size, 0, 1, #[u], rfl, h, heap_alloc_new w _, Nat.le_refl _, by simp, by decide, fun j x hx => by
    match j, hx with
    | 0, hx => simpa using hx⟩
theorem OwnT.form2 (h : OwnT w base e v n xs) : ∃ g off c, v = .slice (some ⟨g, off, none⟩) n c ∧ n ≤ c ∧ c ≤ maxLen ∧ g < w.heap.size ∧ ∀ j u, xs[j]? = some u → w.cell? ⟨g, off + j, none⟩ = some u := by
  obtain ⟨h1, _, g, off, c, cur, rfl, h2, h3, h4, h5, h6, h7⟩ := h
  exact ⟨g, off, c, rfl, h4, h6, (Array.getElem?_eq_some_iff.1 h3).1, fun j u hu => by rw [cell_of_row _ g _ cur e (0, 0) h3]; exact h7 j u hu⟩
/-- 'q = q[1:]' -/
theorem OwnT.pop {A : Option Addr} {c : Nat} {x : Value} (h : OwnT w base e (.slice A (n + 1) c) (n + 1) (x :: xs)) : OwnT w base e (.slice (if c = 1 then A else A.map (·.add 1)) n (c - 1)) n xs := by
  obtain ⟨h1, h0, g, off, c', cur, hv, h2, h3, h4, h5, h6, h7⟩ := h
  injection hv with hA _ hc
  subst hA
  subst hc
  refine ⟨by simpa using h1, h0, g, if c = 1 then off else off + 1, c - 1, cur, ?_, h2, h3, by omega, ?_, by omega, fun j u hu => ?_⟩
  · split
    · rfl
    · simp [addr_add]
  · split <;> omega
  · have := h7 (j + 1) u (by simpa using hu)
    by_cases hc : c = 1
    · have hl := (List.getElem?_eq_some_iff.1 hu).1
      simp at h1
      omega
    · rw [if_neg hc, show off + 1 + j = off + (j + 1) from by omega]; exact this
end
section
variable {P : Program} (w : World)
theorem run_appT {base : Nat} {t e : TypeId} {bytes : Nat} (T : AppT P t e 1 bytes) (ty : TypeId) {A : Option Addr} {n c : Nat} {xs : List Value} (hown : OwnT w base e (.slice A n c) n xs)
    {u : Value} {B : Option Addr} {d : Nat} (hr : Rds w B [u]) (h1 : u.oneCell' = true) (hbytes : (n + 1) * bytes ≤ 140737488355328) (h63 : n + 1 ≤ 1000000000) :
    ∃ A' c' w', (Builtin.append_ #[t, t] ty #[.slice A n c, .slice B 1 d]).run P w = .ok (.slice A' (n + 1) c') w' ∧ OwnT w' base e (.slice A' (n + 1) c') (n + 1) (xs ++ [u]) ∧ w.grownBy w' (Value.slice A n c).ownBlock ∧
      ((Value.slice A' (n + 1) c').ownBlock = (Value.slice A n c).ownBlock ∨ (Value.slice A' (n + 1) c').ownBlock = some w.heap.size) := by
  obtain ⟨i, z, ht, hi, hz, hsize, hby, hzs, hsz⟩ := T
  obtain ⟨hx, hbase, g, off, c', cur, hv, hbg, hg, hnc, hcs, hcm, hcur⟩ := hown
  injection hv with hA _ hc
  subst hA
  subst hc
  obtain ⟨b2, o2, rfl, hb2, hc2⟩ := hr (by simp)
  have hnews : ∀ j v, [u][j]? = some v → w.cell? ((⟨b2, o2, none⟩ : Addr).add j) = some v := fun j v h => by rw [addr_add]; exact hc2 j v h
  have hl : [u].length = 1 * i.size := by rw [hsize]; rfl
  have happ : ∀ (C : List Value) (a : Nat), a < C.length → (∀ j v, xs[j]? = some v → C[a - n + j]? = some v) → n ≤ a → ∀ j v, (xs ++ [u])[j]? = some v → (C.take a ++ [u] ++ C.drop (a + 1))[a - n + j]? = some v := fun C a ha hC hna j v hj => by
    rw [List.append_assoc]
    by_cases hjn : j < n
    · rw [List.getElem?_append_left (by omega)] at hj
      rw [List.getElem?_append_left (by rw [List.length_take]; omega), List.getElem?_take, if_pos (by omega)]
      exact hC j v hj
    · rw [List.getElem?_append_right (by omega)] at hj
      have hj0 : j = n := by
        rcases Nat.eq_zero_or_pos (j - xs.length) with h | h
        · omega
        · rw [List.getElem?_eq_none (by simp; omega)] at hj; cases hj
      subst hj0
      rw [hx, Nat.sub_self] at hj
      rw [List.getElem?_append_right (by rw [List.length_take]; omega), List.length_take, show a - j + j - min a C.length = 0 from by omega]
      exact hj
  by_cases hroom : n + 1 ≤ c
  · have hf := run_firstCells_some (P := P) w i.size 1 ⟨b2, o2, none⟩ 1 d [u] hl hnews
    have hst := run_storeCells_at P g (off + n) e [u] 0 cur w hg (by simp; omega) (by simpa using h1)
    simp only [Nat.add_zero] at hst
    rw [hsize] at hf
    have hrun : (Builtin.append_ #[t, t] ty #[.slice (some ⟨g, off, none⟩) n c, .slice (some ⟨b2, o2, none⟩) 1 d]).run P w = .ok (.slice (some ⟨g, off, none⟩) (n + 1) c) (w.setRow g (cur.toList.take (off + n) ++ [u] ++ cur.toList.drop (off + n + [u].length)).toArray) := by
      simp [Builtin.append_, run_underlying ht, sizeOf, typeInfo, hi, hsize, Builtin.lenOf, hroom, hf, addr_add, hst]
    refine ⟨_, _, _, hrun, ⟨by simp [hx], by simp; exact hbase, g, off, c, _, rfl, hbg, setRow_heap w g cur _ e _ hg, hroom, ?_, hcm, ?_⟩, ⟨rfl, rfl, rfl, by simp, fun k _ hk => setRow_other w g k _ (fun e => hk (by simp [Value.ownBlock, e]))⟩, .inl rfl⟩
    · simp; omega
    · intro j v hj
      have := happ cur.toList (off + n) (by simp; omega) (fun j v h => by rw [show off + n - n + j = off + j from by omega, Array.getElem?_toList]; exact hcur j v h) (by omega) j v hj
      rw [show off + n - n + j = off + j from by omega] at this
      rw [List.getElem?_toArray]
      exact this
  · have hr := run_append_grow (P := P) w t ty e i z ht hi hz ⟨g, off, none⟩ n c xs (by rw [hsize, hx]; omega) (fun j v h => by rw [addr_add, cell_of_row _ g _ cur e (0, 0) hg]; exact hcur j v h) ⟨b2, o2, none⟩ 1 d [u] hl hnews (by omega) (by omega) (growslice_fits (by omega) (by rw [hby]; exact hbytes))
    have hge := grownCap_ge w (n + 1) c e
    have hcm' : grownCap w (n + 1) c e ≤ maxLen := grownCap_le_maxLen w (n + 1) c e (by simp only [maxLen]; omega)
    refine ⟨_, _, _, hr, ⟨by simp [hx], by simp; omega, w.heap.size, 0, _, _, rfl, hbase, heap_alloc_new w.drew _, hge, ?_, hcm', ?_⟩, ⟨rfl, rfl, rfl, by simp, fun k hk _ => heap_alloc_old w.drew _ hk⟩, .inr rfl⟩
    · simp only [Array.size_append, List.size_toArray, size_zeroCells, hzs, hx]
      simp; omega
    · intro j v hj
      rw [Nat.zero_add, ← Array.getElem?_toList]
      simp only [Array.toList_append]
      rw [List.getElem?_append_left (by have := (List.getElem?_eq_some_iff.1 hj).1; simpa using this)]
      simpa using hj
/-- 'append(q, x)' -/
theorem wp_appT {o : Oper} {a : Act} {K : Act → World → Prop} {Q : Exit → Act → World → Prop} {t e : TypeId} {bytes : Nat} (T : AppT P t e 1 bytes) (s x : Operand)
    (ho : o.op = .call { callee := .builtin .append, args := #[s, x], argTypes := #[t, t] })
    {base : Nat} {A : Option Addr} {n c : Nat} {xs : List Value} (hown : OwnT w base e (.slice A n c) n xs) (hs : a.eval s = .slice A n c)
    {B : Option Addr} {d : Nat} {u : Value} (hx : a.eval x = .slice B 1 d) (hr : Rds w B [u]) (h1 : u.oneCell' = true)
    (hbytes : (n + 1) * bytes ≤ 140737488355328) (h63 : n + 1 ≤ 1000000000)
    (h : ∀ A' c' w', OwnT w' base e (.slice A' (n + 1) c') (n + 1) (xs ++ [u]) → w.grownBy w' (Value.slice A n c).ownBlock → ((Value.slice A' (n + 1) c').ownBlock = (Value.slice A n c).ownBlock ∨ (Value.slice A' (n + 1) c').ownBlock = some w.heap.size) →
      K (a.put o.dst (.slice A' (n + 1) c')) w') : o.wp P a w K Q := by
  obtain ⟨A', c', w', hrun, h2, h3, h4⟩ := run_appT w T o.type hown (d := d) hr h1 hbytes h63
  unfold Oper.wp execOp
  simp only [ho, resolve, invoke, builtin, Sem.run_bind, Sem.run_pure, Result.andThen_ok, List.map_toArray, List.map_cons, List.map_nil, hs, hx, hrun]
  exact h A' c' w' h2 h3 h4
theorem wpList_appT {ops : Array Oper} {rest : List Oper} {o : Oper} {a : Act} {Q : Exit → Act → World → Prop} {t e : TypeId} {bytes : Nat} (T : AppT P t e 1 bytes) (hgd : o.guard = none) (s x : Operand)
    (ho : o.op = .call { callee := .builtin .append, args := #[s, x], argTypes := #[t, t] })
    {base : Nat} {A : Option Addr} {n c : Nat} {xs : List Value} (hown : OwnT w base e (.slice A n c) n xs) (hs : a.eval s = .slice A n c)
    {B : Option Addr} {d : Nat} {u : Value} (hx : a.eval x = .slice B 1 d) (hr : Rds w B [u]) (h1 : u.oneCell' = true)
    (hbytes : (n + 1) * bytes ≤ 140737488355328) (h63 : n + 1 ≤ 1000000000)
    (h : ∀ A' c' w', OwnT w' base e (.slice A' (n + 1) c') (n + 1) (xs ++ [u]) → w.grownBy w' (Value.slice A n c).ownBlock → ((Value.slice A' (n + 1) c').ownBlock = (Value.slice A n c).ownBlock ∨ (Value.slice A' (n + 1) c').ownBlock = some w.heap.size) →
      wpList P ops Q rest (a.put o.dst (.slice A' (n + 1) c')) w') : wpList P ops Q (o :: rest) a w :=
  wpList_plain hgd fun _ hK => wp_appT w T s x ho hown hs hx hr h1 hbytes h63 fun A' c' w' h2 h3 h4 => hK _ _ (h A' c' w' h2 h3 h4)
/-- a literal's entry -/
theorem wpList_insert {ops : Array Oper} {rest : List Oper} {o : Oper} {a : Act} {Q : Exit → Act → World → Prop} (hg : o.guard = none) (m x v : Operand) (t : TypeId) (hop : o.op = Op.insert t m x v) {k e : TypeId} (hk : P.underlying k = some .string) (ht : P.underlying t = some (.map k e))
    {b n : Nat} {f : S → Option Value} (hm : a.eval m = .map (some b)) (hown : MapF w P k b n f) (s : S) (hx : a.eval x = .string s) (u : Value) (hv : a.eval v = u) (hs : s.size ≤ maxLen) (hn : n < maxLen)
    (hK : ∀ w', MapF w' P k b (n + 1) (updV f s u) → w.grownBy w' (some b) → wpList P ops Q rest (a.put o.dst undef) w') : wpList P ops Q (o :: rest) a w :=
  wpList_plain hg fun _ hK' => by
    obtain ⟨w', hrun, r1, r2⟩ := hown.store hk ht hn hs u
    unfold Oper.wp
    simp [execOp, hop, hm, hx, hv, hrun, Result.andThen]
    exact hK' _ _ (hK w' r1 r2)
end
end Go.Proofs.YtdfnfimajhagfaaGreatDoor
