/- Walk of package refer: ranks. -/
import Derived.Test.YtdfnfimajhagfaaGreatDoorP4
namespace Go.Proofs.YtdfnfimajhagfaaGreatDoor
open Go.RowKit Go.Maps Rf
theorem MapF.congr' {w : World} {P : Program} {k : TypeId} {b n : Nat} {f g : S → Option Value} (h : MapF w P k b n f) (hg : ∀ s : S, s.size ≤ maxLen → g s = f s) : MapF w P k b n g := by
  obtain ⟨D, h1, h2⟩ := h; exact ⟨D, h1, fun s hs => by rw [hg s hs]; exact h2 s hs⟩
theorem weight_le {l : List Ref} {heads : List S} {f : S → Option Nat} (h : Ranks l heads f) (r : Ref) : weight l f r ≤ l.length + 1 := by
  unfold weight
  cases hf : f r.frm with
  | none => exact Nat.le_refl _
  | some m => have := h.small _ _ hf; have := cnt_le l f; simp only; omega
theorem total_bound {l : List Ref} {heads : List S} {f : S → Option Nat} (h : Ranks l heads f) : ∀ rest : List Ref, total l f rest ≤ rest.length * (l.length + 1)
  | [] => by simp [total]
  | r :: rest => by
    have h1 := weight_le h r
    have h2 := total_bound h rest
    simp only [total, List.length_cons, Nat.add_mul, Nat.one_mul]
    omega
theorem total_small {l : List Ref} {heads : List S} {f : S → Option Nat} (h : Ranks l heads f) {n : Nat} (hl : l.length = n) (hn : n ≤ 100000) : total l f l ≤ 10000100000 := by
  have h1 := total_bound h l
  have h2 : l.length * (l.length + 1) ≤ 100000 * 100001 := Nat.mul_le_mul (by omega) (by omega)
  omega
/-- the headings that have come -/
def doneF (heads : List S) (left : S → Bool) (s : S) : Option Nat := if Rf.has heads s && !left s then some 0 else none
def headF (heads : List S) (s : S) : Option Nat := if Rf.has heads s then some 0 else none
theorem doneF_strike (heads : List S) (left : S → Bool) (s t : S) (h : Rf.has heads s = true) : intF (doneF heads (strike left s)) t = updV (intF (doneF heads left)) s (.int .i64 0) t := by
  unfold intF updV doneF strike
  by_cases hts : t = s
  · subst hts; simp [h]
  · simp [hts]
set_option maxRecDepth 20000 in
set_option maxHeartbeats 4000000 in
theorem ranks_any (g : Nat) (A : Option Addr) (n c hb sb : Nat) (l : List Ref) (heads : List S) (w : World) (hm : n ≤ 100000) (hmh : heads.length ≤ 100000) (hg : Gr w g A n c hb sb l heads) :
    Calls Tryz.prog 160 #[.pointer (some ⟨g, 0, none⟩)] w fun e w' => ∃ b k, e = .returned (.map (some b)) ∧ MapS w' b k (intF (rank l heads)) ∧ w.heap.size ≤ b ∧ Below w.heap.size w w' := by
  obtain ⟨hg0, hnc, hl, hfh, hfs, c0, c1, c2⟩ := hg
  have hmm := @run_makeMap Tryz.prog
  have c1' : (w.alloc (.map #[] 0)).cell? ⟨g, 1, none⟩ = some (.map (some hb)) := ((brefl.al _).cell (p := ⟨g, 1, none⟩) hg0).trans c1
  go_enter Tryz.func160, Tryz.ntmps160
  go_wp2_with (at_range; refine wpList_range _ rfl _ _ rfl keyS mapB rfl (hfh.alloc (.map #[] 0)) ?_; intro w2 cn hr2 hcn hg2 hz2)
  go_frame
  have hb2 : Below w.heap.size w w2 := (brefl.al (.map #[] 0)).no hg2
  have hos : w.heap.size < (w.alloc (.map #[] 0)).heap.size := by simp
  have hom : MapS w2 w.heap.size 0 (intF (doneF heads fun s => (boolF heads s).isSome)) := ((MapF.made w Tryz.prog 9).kept hg2 (by simp)).congr fun s => by
    unfold doneF intF; simp only [boolF_isSome]; cases Rf.has heads s <;> rfl
  have hhb := hfh.lt
  have hrn := hr2.ne
  generalize (w.alloc (.map #[] 0)).heap.size = rI at hr2 hos hrn ⊢
  clear hg2 c1'
  go_loopw [4] (fun _ wr => ∃ left cn' k, MapR wr Tryz.prog 9 hb rI heads.length (boolF heads) left cn' ∧ MapS wr w.heap.size k (intF (doneF heads left)) ∧ k + cn' ≤ heads.length ∧ Below w.heap.size w wr) (fun _ wr => wr.rangeLeft hb rI)
  case atStart => exact ⟨_, cn, 0, hr2, hom, by omega, hb2⟩
  case round =>
    obtain ⟨left, cn', k, hrg, hmo, hkc, hbl⟩ := hrel
    go_wp2_with (at_next; refine wpList_next _ rfl _ rfl keyS rfl hrg ?_ ?_)
    · intro hc0 hl0
      have hmo2 : MapS wr w.heap.size k (intF (headF heads)) := hmo.congr' fun s hs => by unfold intF headF doneF; rw [hl0 s hs]; simp
      have hrk : Ranks l heads (headF heads) := Ranks.begin l heads fun x => rfl
      have hll := hl.1
      have htot := total_small hrk hll hm
      clear hmo hrg hr2 hom hc0 hl0
      go_wp2
      obtain ⟨w6, hw6⟩ : ∃ w6 : World, w6 = wr := ⟨_, rfl⟩
      subst hw6
      go_loopg [5] (total l (headF heads) l + 1) (fun G y wr => ∃ (f : S → Option Nat) (ch : Bool) (k : Nat), y = .bool ch ∧ G = total l f l + (if ch then 1 else 0) ∧ Ranks l heads f ∧ MapS wr w.heap.size k (intF f) ∧ k + total l f l ≤ 10000300000 ∧
        (ch = false → ∀ r ∈ l, fixedAt f r) ∧ Below w.heap.size w wr)
      case atStart => exact ⟨_, true, k, rfl, rfl, hrk, hmo2, by omega, (fun h => by cases h), hbl⟩
      case round =>
        clear hmo2 hrk htot hkc hbl
        obtain ⟨f, ch, k, rfl, rfl, hrk, hmf, hkt, hfx, hbl⟩ := hrel
        cases ch with
        | false =>
          have hfin := Lib.hid (fun x => hrk.eq (hfx rfl) x)
          go_wp2
          go_ret
          exact ⟨w.heap.size, rfl, ⟨k, hmf.congr fun s => by unfold intF; rw [hfin.out s]⟩, Nat.le_refl _, hbl⟩
        | true =>
          clear hfx
          have c0' := (hbl.cell (p := ⟨g, 0, none⟩) hg0).trans c0
          go_wp2
          obtain ⟨wo, hwo⟩ : ∃ wo : World, wo = wr := ⟨_, rfl⟩
          subst hwo
          clear c0'
          go_loopw [5, 30] (fun y i wr => ∃ (j : Nat) (f' : S → Option Nat) (ch : Bool) (k : Nat), j ≤ n ∧ i = .int .i64 j ∧ y = .bool ch ∧ Ranks l heads f' ∧ MapS wr w.heap.size k (intF f') ∧ k + total l f' l ≤ 10000300000 ∧
            (ch = false → f' = f ∧ ∀ r ∈ l.take j, fixedAt f r) ∧ (ch = true → total l f' l < total l f l) ∧ Below w.heap.size w wr) (fun _ i _ => n - (intOf i).toNat)
          case atStart => exact ⟨0, f, false, k, by omega, rfl, rfl, hrk, hmf, hkt, fun _ => ⟨rfl, by simp⟩, (fun h => by cases h), hbl⟩
          case round =>
            clear hrk hmf hkt hbl
            obtain ⟨j, f', ch, k, hj, rfl, rfl, hrk, hmf, hkt, hfx, htl, hbl⟩ := hrel
            by_cases hjlt : j < n
            · obtain ⟨b, off, r, rfl, hx, hs1, hs2, hb0, hc1, hc2, hc3⟩ := (hl.below hbl).at_ hjlt
              have hmem := List.mem_of_getElem? hx
              have htk := take_snoc hx
              have hstay : turns f' r = false → (ch = false → f' = f ∧ ∀ q ∈ l.take (j + 1), fixedAt f q) := fun ht hc => by
                obtain ⟨h1, h2⟩ := hfx hc
                refine ⟨h1, fun q hq => ?_⟩
                rw [htk, List.mem_append] at hq
                rcases hq with hq | hq
                · exact h2 q hq
                · simp at hq; subst hq; rw [← h1]; exact fixed_of_not ht
              have hle : total l f' l ≤ total l f l := by
                cases ch with
                | false => rw [(hfx rfl).1]; exact Nat.le_refl _
                | true => exact Nat.le_of_lt (htl rfl)
              clear hx hb0 htk hfx
              have hma := hmf.alloc (.cells #[.string r.frm, .string r.to, .bool r.also] 136)
              have hba := hbl.al (.cells #[.string r.frm, .string r.to, .bool r.also] 136)
              cases hto : f' r.to with
              | none =>
                have e1 := (hma.lookI0 hs2 hto).1
                have e2 := (hma.lookI0 hs1 rfl).1
                have hst := hstay (by unfold turns; rw [hto]; simp)
                generalize f' r.frm = vf at e2
                clear hto hstay
                cases ha : r.also
                · rw [ha] at hc3 e1 e2 hba hma
                  clear ha
                  go_wp2
                  go_roundw
                  case rel => exact ⟨j + 1, f', ch, k, by omega, by go_num, rfl, hrk, hma, hkt, hst, htl, hba⟩
                  case measure => simp [intOf]; omega
                · rw [ha] at hc3 e1 e2 hba hma
                  clear ha
                  go_wp2
                  go_roundw
                  case rel => exact ⟨j + 1, f', ch, k, by omega, by go_num, rfl, hrk, hma, hkt, hst, htl, hba⟩
                  case measure => simp [intOf]; omega
              | some nt =>
                have hnt := hrk.small _ _ hto
                have hcl := cnt_le l f'
                have e1 := (hma.lookI0 hs2 hto).1
                cases ha : r.also
                · cases hfr : f' r.frm with
                  | none =>
                    have e2 := (hma.lookI0 hs1 hfr).1
                    obtain ⟨hrk2, htt⟩ := hrk.turn hmem ha hto (fun m hm => by rw [hfr] at hm; cases hm)
                    clear hto hstay hfr
                    rw [ha] at hc3 e1 e2 hba hma
                    clear ha
                    go_wp2_with (at_mapUpdate; refine wpList_store _ rfl _ _ _ 170 rfl keyS mapI rfl hma _ rfl _ rfl hs1 (by unfold maxLen; omega) ?_; intro w8 hf8 hg8)
                    have hb8 := hba.gr hg8 (by intro j hj; cases hj; exact Nat.le_refl _)
                    go_roundw
                    case rel => exact ⟨j + 1, _, true, k + 1, by omega, by go_num, rfl, hrk2, hf8.congr fun s => intF_upd f' r.frm (nt + 1) s, by omega, (fun h => by cases h), fun _ => by omega, hb8⟩
                    case measure => simp [intOf]; omega
                  | some mf =>
                    have hmf2 := hrk.small _ _ hfr
                    have e2 := (hma.lookI0 hs1 hfr).1
                    by_cases hlt : nt + 1 < mf
                    · obtain ⟨hrk2, htt⟩ := hrk.turn hmem ha hto (fun m hm => by rw [hfr] at hm; cases hm; exact hlt)
                      have hlt' : (nt : Int) + 1 < mf := by omega
                      clear hto hstay hfr
                      rw [ha] at hc3 e1 e2 hba hma
                      clear ha
                      go_wp2_with (at_mapUpdate; refine wpList_store _ rfl _ _ _ 170 rfl keyS mapI rfl hma _ rfl _ rfl hs1 (by unfold maxLen; omega) ?_; intro w8 hf8 hg8)
                      have hb8 := hba.gr hg8 (by intro j hj; cases hj; exact Nat.le_refl _)
                      go_roundw
                      case rel => exact ⟨j + 1, _, true, k + 1, by omega, by go_num, rfl, hrk2, hf8.congr fun s => intF_upd f' r.frm (nt + 1) s, by omega, (fun h => by cases h), fun _ => by omega, hb8⟩
                      case measure => simp [intOf]; omega
                    · have hst := hstay (by unfold turns; rw [hto, ha, hfr]; simp; omega)
                      have hlt' : ¬ (nt : Int) + 1 < mf := by omega
                      clear hto hstay hfr
                      rw [ha] at hc3 e1 e2 hba hma
                      clear ha
                      go_wp2
                      go_roundw
                      case rel => exact ⟨j + 1, f', ch, k, by omega, by go_num, rfl, hrk, hma, hkt, hst, htl, hba⟩
                      case measure => simp [intOf]; omega
                · have e2 := (hma.lookI0 hs1 rfl).1
                  have hst := hstay (by unfold turns; rw [ha]; simp)
                  generalize f' r.frm = vf at e2
                  clear hto hstay
                  rw [ha] at hc3 e1 e2 hba hma
                  clear ha
                  go_wp2
                  go_roundw
                  case rel => exact ⟨j + 1, f', ch, k, by omega, by go_num, rfl, hrk, hma, hkt, hst, htl, hba⟩
                  case measure => simp [intOf]; omega
            · have hjn : j = n := by omega
              have htk := take_all hll hj hjlt
              rw [htk] at hfx
              cases ch with
              | false =>
                obtain ⟨h1, h2⟩ := hfx rfl
                subst h1
                clear hfx htk
                go_wp2
                go_roundg (total l f' l + 0)
                case measure => simp
                case rel => exact ⟨f', false, k, rfl, rfl, hrk, hmf, hkt, fun _ => h2, hbl⟩
              | true =>
                have := htl rfl
                clear hfx htk
                go_wp2
                go_roundg (total l f' l + 1)
                case measure => simp; omega
                case rel => exact ⟨f', true, k, rfl, rfl, hrk, hmf, hkt, (fun h => by cases h), hbl⟩
    · intro s v w3 cn3 hss hls hhs hfv hrg3 hcn3 hg3 hz3 hen
      have hne : some w.heap.size ≠ some rI := by simp; omega
      have hmo3 := hmo.kept hg3 hne
      go_wp2_with (at_mapUpdate; refine wpList_store _ rfl _ _ _ 170 rfl keyS mapI rfl hmo3 _ rfl _ rfl hss (by unfold maxLen; omega) ?_; intro w4 hmo4 hg4)
      have hrg4 := hrg3.kept hg4 (by simp; omega) (by simp; omega)
      have hbl4 := (hbl.gr hg3 (by intro j hj; cases hj; omega)).gr hg4 (by intro j hj; cases hj; exact Nat.le_refl _)
      rw [boolF_isSome] at hhs
      go_roundw
      case rel => exact ⟨_, _, _, _, _, _, _, ⟨_, cn3, k + 1, hrg4, hmo4.congr fun t => doneF_strike heads left s t hhs, by omega, hbl4⟩, rfl⟩
      case measure => rw [hrg4.left_eq, hrg.left_eq]; exact hcn3
end Go.Proofs.YtdfnfimajhagfaaGreatDoor
