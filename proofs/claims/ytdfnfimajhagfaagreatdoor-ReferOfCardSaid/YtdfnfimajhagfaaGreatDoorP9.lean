/- Walk of package refer: Way and its closure. -/
import Derived.Test.YtdfnfimajhagfaaGreatDoorP6
import Derived.Test.YtdfnfimajhagfaaGreatDoorW4
import Derived.Deep.LoopGhost
namespace Go.Proofs.YtdfnfimajhagfaaGreatDoor
open Go.RowKit Go.Maps Go.Sort Rf
theorem minS_eq (x y : S) : Lib.minS x y = if ltS y x then y else x := by
  have e1 : x.data.toList < y.data.toList ↔ ltS x y = true := by rw [ltS_iff, toList_byts, toList_byts]; exact Iff.rfl
  have e2 : x.data.toList = y.data.toList ↔ x = y := ⟨byts_inj, fun e => by rw [e]⟩
  unfold Lib.minS
  simp only [e1, e2]
  rcases ltS_total x y with h | h | h
  · simp [h, ltS_asymm h]
  · subst h; simp [ltS_irrefl]
  · have h2 : x ≠ y := fun e => by rw [e, ltS_irrefl] at h; cases h
    simp [h, ltS_asymm h, h2]
theorem foldl_min : ∀ (c : List S) (y : S), (c.foldl Lib.minS y) ∈ y :: c ∧ ∀ x ∈ y :: c, ltS x (c.foldl Lib.minS y) = false
  | [], y => ⟨by simp, by simp [ltS_irrefl]⟩
  | z :: c, y => by
    obtain ⟨h1, h2⟩ := foldl_min c (Lib.minS y z)
    have hz := minS_eq y z
    rw [List.foldl_cons]
    generalize c.foldl Lib.minS (Lib.minS y z) = m at h1 h2 ⊢
    have hm : ltS (Lib.minS y z) m = false := h2 _ (by simp)
    have hle : ∀ x, x = y ∨ x = z → ltS x (Lib.minS y z) = false := fun x hx => by
      rw [hz]
      cases h : ltS z y
      · rw [if_neg (by simp)]
        rcases hx with rfl | rfl
        · exact ltS_irrefl _
        · exact h
      · rw [if_pos rfl]
        rcases hx with rfl | rfl
        · exact ltS_asymm h
        · exact ltS_irrefl _
    have hlt : ∀ x, ltS x (Lib.minS y z) = false → ltS x m = false := fun x hx => by
      cases h : ltS x m
      · rfl
      · rcases ltS_total (Lib.minS y z) m with hh | hh | hh
        · rw [hm] at hh; cases hh
        · rw [← hh] at h; rw [hx] at h; cases h
        · rw [ltS_trans h hh] at hx; cases hx
    refine ⟨?_, fun x hx => ?_⟩
    · rcases List.mem_cons.1 h1 with h | h
      · rw [h, hz]; split <;> simp
      · simp [h]
    · simp only [List.mem_cons] at hx
      rcases hx with h | h | h
      · exact hlt x (hle x (.inl h))
      · exact hlt x (hle x (.inr h))
      · exact h2 x (by simp [h])
theorem minOf_least {c : List S} (h : c ≠ []) : Rf.leastOf none c = some (Lib.minOfS c) := by
  cases c with
  | nil => exact absurd rfl h
  | cons z c =>
    have := foldl_min (z :: c) z
    refine least_unique ?_ fun x hx => this.2 x (List.mem_cons_of_mem _ hx)
    rcases List.mem_cons.1 this.1 with h | h
    · rw [show Lib.minOfS (z :: c) = (z :: c).foldl Lib.minS z from rfl, h]; simp
    · exact h
theorem minOfS_size {c : List S} (h : c ≠ []) (hs : ∀ s ∈ c, s.size ≤ maxLen) : (Lib.minOfS c).size ≤ maxLen := by
  cases c with
  | nil => exact absurd rfl h
  | cons z c =>
    have := (foldl_min (z :: c) z).1
    rcases List.mem_cons.1 this with h | h
    · rw [show Lib.minOfS (z :: c) = (z :: c).foldl Lib.minS z from rfl, h]; exact hs z (by simp)
    · exact hs _ h
theorem min_any (A : Option Addr) (n c : Nat) (l : List S) (w : World) (hn : 0 < n) (hm : n ≤ 1000000) (hl : Strs w A n l) :
    Calls Tryz.prog 158 #[.slice A n c] w fun e w' => e = .returned (.string (Lib.minOfS l)) ∧ w = w' := by
  have hll := hl.1
  obtain ⟨b, off, _, ha, _⟩ := hl.at_ hn
  subst ha
  refine (Tryz.slices_Min_string b off n c l w hn (by omega) (by omega) fun j hj => ?_).mono ?_
  · obtain ⟨b2, off2, s, h1, h2, _, _, h3⟩ := hl.at_ (k := j) (by omega)
    cases h1
    rw [h3, List.getD, h2]; rfl
  · rintro e w' ⟨rfl, rfl⟩
    rw [List.take_of_length_le (by omega)]
    exact ⟨rfl, rfl⟩
/-- the test of the closure -/
def goes (l : List Ref) (tgt last : S) (k : Nat) (r : Ref) : Bool := eqS r.frm last && (dist l r.to tgt == some k)
theorem cand_goes {l : List Ref} {heads : List S} {tgt : S} (h : Rf.has heads tgt = true) (last : S) (k : Nat) : cand l heads last tgt k = (l.filter (goes l tgt last k)).map Ref.to := by
  unfold cand goes
  congr 1
  refine List.filter_congr fun r _ => ?_
  rw [steps_head h]
theorem take_filterR {p : Ref → Bool} {l : List Ref} {k : Nat} {x : Ref} (h : l[k]? = some x) : (l.take (k + 1)).filter p = (l.take k).filter p ++ (if p x then [x] else []) := by
  rw [take_snoc h, List.filter_append]
  cases hp : p x <;> simp [hp]
set_option maxRecDepth 20000 in
set_option maxHeartbeats 4000000 in
theorem step_any (lb mb sb n c N : Nat) (A : Option Addr) (l : List Ref) (heads : List S) (last tgt : S) (k : Nat) (w : World) (hm : n ≤ 100000) (hl : Refs w A n l) (hlb : w.cell? ⟨lb, 0, none⟩ = some (.slice A n c)) (hmb : w.cell? ⟨mb, 0, none⟩ = some (.map (some sb)))
    (hf : MapS w sb N (intF fun x => dist l x tgt)) (hls : last.size ≤ maxLen) (hd : dist l last tgt = some (k + 1)) (hhd : Rf.has heads tgt = true) :
    Calls Tryz.prog 157 #[.string last, .pointer (some ⟨lb, 0, none⟩), .pointer (some ⟨mb, 0, none⟩)] w fun e w' =>
      e = .returned (.string ((best l heads last tgt k l none).getD ByteArray.empty)) ∧ ((best l heads last tgt k l none).getD ByteArray.empty).size ≤ maxLen ∧ dist l ((best l heads last tgt k l none).getD ByteArray.empty) tgt = some k ∧ Below w.heap.size w w' := by
  have hkn := dist_le hd
  have hll := hl.1
  have hlbs := World.block_lt_of_cell? _ _ hlb
  have hmbs := World.block_lt_of_cell? _ _ hmb
  have hlok : (l.filter (goes l tgt last k)).map Ref.to ≠ [] := fun h => by
    obtain ⟨r, hr, hrf, hrd⟩ := dist_step hd
    have : r ∈ l.filter (goes l tgt last k) := List.mem_filter.2 ⟨hr, by unfold goes; simp [hrf, hrd, (eqS_iff last last).2 rfl]⟩
    rw [List.map_eq_nil_iff] at h
    rw [h] at this; cases this
  have hbest : (best l heads last tgt k l none).getD ByteArray.empty = Lib.minOfS ((l.filter (goes l tgt last k)).map Ref.to) := by
    rw [best_eq]
    show (Rf.leastOf none (cand l heads last tgt k)).getD _ = _
    rw [cand_goes hhd, minOf_least hlok]; rfl
  have hsz : ∀ s ∈ (l.filter (goes l tgt last k)).map Ref.to, s.size ≤ maxLen := fun s hs => by
    obtain ⟨r, hr, rfl⟩ := List.mem_map.1 hs
    exact (hl.2.1 r (List.mem_filter.1 hr).1).2
  have hmin := minOfS_size hlok hsz
  have hdm : dist l (Lib.minOfS ((l.filter (goes l tgt last k)).map Ref.to)) tgt = some k := by
    have h1 : Lib.minOfS ((l.filter (goes l tgt last k)).map Ref.to) ∈ (l.filter (goes l tgt last k)).map Ref.to := by
      have h2 := minOf_least hlok
      obtain ⟨m, h3, h4, _⟩ := leastOf_none _ _ (List.getElem_mem (l := (l.filter (goes l tgt last k)).map Ref.to) (n := 0) (List.length_pos_iff.2 hlok))
      rw [h2] at h3
      cases h3
      exact h4
    obtain ⟨r, hr, hrt⟩ := List.mem_map.1 h1
    have := (List.mem_filter.1 hr).2
    unfold goes at this
    simp only [Bool.and_eq_true, beq_iff_eq] at this
    rw [← hrt]; exact this.2
  rw [hbest]
  clear hbest
  go_enter Tryz.func157, Tryz.ntmps157
  go_wp2
  go_loopw [5, 12] (fun y i wr => ∃ (j m1 c1 : Nat) (A1 : Option Addr), j ≤ n ∧ i = .int .i64 j ∧ y = .slice A1 m1 c1 ∧ m1 ≤ c1 ∧ m1 ≤ j ∧ Own wr w.heap.size 9 1 (.slice A1 m1 c1) m1 ((((l.take j).filter (goes l tgt last k)).map Ref.to).map Value.string) ∧ Below w.heap.size w wr) (fun _ i _ => n - (intOf i).toNat)
  case atStart => exact ⟨0, 0, 0, none, by omega, rfl, rfl, by omega, by omega, Own.nil _ _ _ (Nat.le_refl _), brefl⟩
  case round =>
    obtain ⟨j, m1, c1, A1, hj, rfl, rfl, hc1, hmj, ho, hbl⟩ := hrel
    by_cases hlt : j < n
    · obtain ⟨b, off, r, rfl, hx, hs1, hs2, hb0, hd1, hd2, hd3⟩ := (hl.below hbl).at_ hlt
      have htk := take_filterR (p := goes l tgt last k) hx
      clear hx hb0
      have hfa := (hf.below hbl).alloc (.cells #[.string r.frm, .string r.to, .bool r.also] 136)
      have hba := hbl.al (.cells #[.string r.frm, .string r.to, .bool r.also] 136)
      have hoa := ho.alloc (.cells #[.string r.frm, .string r.to, .bool r.also] 136)
      have c0 := (hba.cell (p := ⟨lb, 0, none⟩) hlbs).trans hlb
      have c1' := (hba.cell (p := ⟨mb, 0, none⟩) hmbs).trans hmb
      have e2 := (hfa.lookI0 hls hd).2
      have hk1 : (k : Int) + 1 - 1 = k := by omega
      cases heq : (r.frm.toList == last.toList)
      · have e1 := (hfa.lookI0 hs2 (rfl : (fun x => dist l x tgt) r.to = _)).1
        have hg : goes l tgt last k r = false := by unfold goes; rw [show eqS r.frm last = false from heq]; rfl
        rw [hg] at htk
        have HT := Lib.hid htk
        clear htk hg
        generalize (fun x => dist l x tgt) r.to = vt at e1
        go_wp2
        go_roundw
        case rel => exact ⟨j + 1, m1, c1, A1, by omega, by go_num, rfl, hc1, by omega, by rw [HT.out]; simpa using hoa, hba⟩
        case measure => simp [intOf]; omega
      · cases hdt : dist l r.to tgt with
        | none =>
          have e1 := (hfa.lookI0 hs2 hdt).1
          have hg : goes l tgt last k r = false := by unfold goes; rw [hdt]; simp
          rw [hg] at htk
          have HT := Lib.hid htk
          clear htk hg hdt
          go_wp2
          go_roundw
          case rel => exact ⟨j + 1, m1, c1, A1, by omega, by go_num, rfl, hc1, by omega, by rw [HT.out]; simpa using hoa, hba⟩
          case measure => simp [intOf]; omega
        | some dd =>
          have e1 := (hfa.lookI0 hs2 hdt).1
          have hdd := dist_le hdt
          by_cases hdk : dd = k
          · subst hdk
            have hg : goes l tgt last dd r = true := by unfold goes; rw [hdt, show eqS r.frm last = true from heq]; simp
            rw [hg] at htk
            have HT := Lib.hid htk
            clear htk hg hdt
            go_wp2_with (at_builtin; refine wpList_app _ stringsT rfl (.tmp 38) (.tmp 41) rfl (hoa.alloc _) rfl rfl (news := [.string r.to]) rfl (Rds.oneAt (wr.alloc (.cells #[.string r.frm, .string r.to, .bool r.also] 136)) (by simp) (.string r.to) 9) (by simp [Value.oneCell']) ?_ ?_ ?_; (focus omega); (focus omega); intro A5 c5 w5 o5 n5 g5 _)
            have hb5 := (hba.al (.cells #[.string r.to] 9)).gr g5 ho.row
            go_roundw
            case rel => exact ⟨j + 1, m1 + 1, c5, A5, by omega, by go_num, rfl, n5, by omega, by rw [HT.out]; simpa using o5, hb5⟩
            case measure => simp [intOf]; omega
          · have hdk' : ¬ (dd : Int) = k := by omega
            have hg : goes l tgt last k r = false := by unfold goes; rw [hdt]; simp [hdk]
            rw [hg] at htk
            have HT := Lib.hid htk
            clear htk hg hdt hdk
            go_wp2
            go_roundw
            case rel => exact ⟨j + 1, m1, c1, A1, by omega, by go_num, rfl, hc1, by omega, by rw [HT.out]; simpa using hoa, hba⟩
            case measure => simp [intOf]; omega
    · have ht := take_all hll hj hlt
      rw [ht] at ho
      have hm1 : 0 < m1 := by
        have h1 := ho.1.1
        have h2 := List.length_pos_iff.2 hlok
        rw [List.length_map] at h1
        omega
      have hst := Strs.own ho rfl hsz
      clear ht
      go_wp2_with (go_at_call 158; refine (min_any _ _ _ _ _ hm1 (by omega) hst).mono ?_; rintro e w' ⟨rfl, rfl⟩)
      go_ret
      exact ⟨rfl, hmin, hdm, hbl⟩
theorem wayN_succ (l : List Ref) (heads : List S) (tgt : S) (k : Nat) (last : S) : wayN l heads tgt (k + 1) last = (best l heads last tgt k l none).getD ByteArray.empty :: wayN l heads tgt k ((best l heads last tgt k l none).getD ByteArray.empty) := rfl
/-- one element, as a row of the call's own -/
theorem Own.one (w : World) {base : Nat} (e : TypeId) (u : Value) (h : base ≤ w.heap.size) : Own (w.alloc (.cells #[u] e)) base e 1 (.slice (some ⟨w.heap.size, 0, none⟩) 1 1) 1 [u] :=
  ⟨⟨by simp, .inr ⟨w.heap.size, 1, #[u], rfl, h, heap_alloc_new w _, Nat.le_refl _, by decide, rfl, by simp⟩⟩, Nat.le_trans h (by simp)⟩
set_option maxRecDepth 20000 in
set_option maxHeartbeats 4000000 in
theorem way_any (A B : Option Addr) (n m c d : Nat) (l : List Ref) (heads : List S) (frm tgt : S) (w : World) (hm : n ≤ 100000) (hmh : m ≤ 100000) (hc : n ≤ c) (hl : Refs w A n l) (hh : Strs w B m heads) (hf : frm.size ≤ maxLen) (ht : tgt.size ≤ maxLen) :
    Calls Tryz.prog 120 #[.slice A n c, .slice B m d, .string frm, .string tgt] w fun e w' =>
      ∃ A' k c', e = .returned (.tuple #[.slice A' k c', .bool (way l heads frm tgt).2]) ∧ k ≤ c' ∧ k ≤ n + 1 ∧ Strs w' A' k (way l heads frm tgt).1 ∧ Below w.heap.size w w' := by
  have hll := hl.1
  cases hhd : Rf.has heads tgt
  · have HW := Lib.hid (show way l heads frm tgt = ([], false) from by unfold way steps; rw [hhd]; rfl)
    generalize hD : dist l frm tgt = D
    have HD := Lib.hid hD
    have HH := Lib.hid hhd
    clear hD hhd
    go_enter Tryz.func120, Tryz.ntmps120
    go_wp2_with (first
      | (go_at_call 112; refine (of_any _ _ _ _ _ _ _ _ _ hm hmh hc (hl.below (brefl.al _)) (hh.below (brefl.al _))).mono ?_; rintro e w1 ⟨g, hb, sb, rfl, hg1, hg2, hg3⟩)
      | (go_at_call 155; refine (back_any _ _ _ _ _ _ _ _ _ hm hg2).mono ?_; rintro e w2 ⟨g2, A2, c2, rfl, hgl2, hb12⟩)
      | (go_at_call 156; refine (from_any _ _ _ _ _ _ _ hm hgl2 ht).mono ?_; rintro e w3 ⟨db, rfl, hf3, hdb3, hb23⟩; have hbw3 : Below w.heap.size w w3 := (((brefl.al _).tr hg3).tr hb12).tr hb23; have hf4 : MapS (w3.alloc (.cells #[.map (some db)] 170)) db (n + 1) (intF fun x => dist l x tgt) := (hf3.alloc _).congr (fun s => by unfold intF; rw [dist_back]); have e1 := (hf4.lookI0 hf HD.out).1; have hgr := hg2.below ((hb12.tr hb23).al (.cells #[.map (some db)] 170)); have e2 := hgr.2.2.2.1.lookB0 ht HH.out; have c1 := hgr.2.2.2.2.2.2.1))
    go_ret2
    exact ⟨none, 0, 0, by rw [HW.out]; rfl, Nat.le_refl _, by omega, by rw [HW.out]; exact Strs.nil _, hbw3.al _⟩
  · cases hD : dist l frm tgt with
    | none =>
      have HW := Lib.hid (show way l heads frm tgt = ([], false) from by unfold way; rw [steps_head hhd, hD])
      have HD := Lib.hid hD
      have HH := Lib.hid hhd
      clear hD hhd
      go_enter Tryz.func120, Tryz.ntmps120
      go_wp2_with (first
        | (go_at_call 112; refine (of_any _ _ _ _ _ _ _ _ _ hm hmh hc (hl.below (brefl.al _)) (hh.below (brefl.al _))).mono ?_; rintro e w1 ⟨g, hb, sb, rfl, hg1, hg2, hg3⟩)
        | (go_at_call 155; refine (back_any _ _ _ _ _ _ _ _ _ hm hg2).mono ?_; rintro e w2 ⟨g2, A2, c2, rfl, hgl2, hb12⟩)
        | (go_at_call 156; refine (from_any _ _ _ _ _ _ _ hm hgl2 ht).mono ?_; rintro e w3 ⟨db, rfl, hf3, hdb3, hb23⟩; have hbw3 : Below w.heap.size w w3 := (((brefl.al _).tr hg3).tr hb12).tr hb23; have hf4 : MapS (w3.alloc (.cells #[.map (some db)] 170)) db (n + 1) (intF fun x => dist l x tgt) := (hf3.alloc _).congr (fun s => by unfold intF; rw [dist_back]); have e1 := (hf4.lookI0 hf HD.out).1; have hgr := hg2.below ((hb12.tr hb23).al (.cells #[.map (some db)] 170)); have e2 := hgr.2.2.2.1.lookB0 ht HH.out; have c1 := hgr.2.2.2.2.2.2.1))
      go_ret2
      exact ⟨none, 0, 0, by rw [HW.out]; rfl, Nat.le_refl _, by omega, by rw [HW.out]; exact Strs.nil _, hbw3.al _⟩
    | some D =>
      have hDn := dist_le hD
      have HW := Lib.hid (show way l heads frm tgt = (frm :: wayN l heads tgt D frm, true) from by unfold way; rw [steps_head hhd, hD])
      have HD := Lib.hid hD
      have HH := Lib.hid hhd
      clear hD hhd
      go_enter Tryz.func120, Tryz.ntmps120
      go_wp2_with (first
        | (go_at_call 112; refine (of_any _ _ _ _ _ _ _ _ _ hm hmh hc (hl.below (brefl.al _)) (hh.below (brefl.al _))).mono ?_; rintro e w1 ⟨g, hb, sb, rfl, hg1, hg2, hg3⟩)
        | (go_at_call 155; refine (back_any _ _ _ _ _ _ _ _ _ hm hg2).mono ?_; rintro e w2 ⟨g2, A2, c2, rfl, hgl2, hb12⟩)
        | (go_at_call 156; refine (from_any _ _ _ _ _ _ _ hm hgl2 ht).mono ?_; rintro e w3 ⟨db, rfl, hf3, hdb3, hb23⟩; have hbw3 : Below w.heap.size w w3 := (((brefl.al _).tr hg3).tr hb12).tr hb23; have hf4 : MapS (w3.alloc (.cells #[.map (some db)] 170)) db (n + 1) (intF fun x => dist l x tgt) := (hf3.alloc _).congr (fun s => by unfold intF; rw [dist_back]); have e1 := (hf4.lookI0 hf HD.out).1; have hgr := hg2.below ((hb12.tr hb23).al (.cells #[.map (some db)] 170)); have e2 := hgr.2.2.2.1.lookB0 ht HH.out; have c1 := hgr.2.2.2.2.2.2.1))
      have hz4 : (w3.alloc (.cells #[.map (some db)] 170)).heap.size = w3.heap.size + 1 := by simp
      have hlb4 : (w3.alloc (.cells #[.map (some db)] 170)).cell? ⟨w.heap.size, 0, none⟩ = some (.slice A n c) := ((((hg3.tr hb12).tr hb23).al (.cells #[.map (some db)] 170)).cell (p := ⟨w.heap.size, 0, none⟩) (by simp)).trans (by simp)
      have hmb4 : (w3.alloc (.cells #[.map (some db)] 170)).cell? ⟨w3.heap.size, 0, none⟩ = some (.map (some db)) := by simp
      have hbw4 := hbw3.al (.cells #[.map (some db)] 170)
      have hoo := Own.one (w3.alloc (.cells #[.map (some db)] 170)) (base := w3.heap.size + 1) 9 (.string frm) (by simp)
      rw [hz4] at hoo
      clear hg1 hg2 hg3 hgl2 hb12 hb23 e1 e2 c1 hgr hf3 hdb3
      generalize (w3.alloc (.cells #[.map (some db)] 170)) = w4 at hz4 hlb4 hmb4 hbw4 hoo hf4 ⊢
      go_loopg [14, 16] D (fun G y a wr => ∃ (k : Nat) (last : S) (pre : List S) (A1 : Option Addr) (m1 c1 : Nat), G = k ∧ a = .string last ∧ y = .slice A1 m1 c1 ∧ m1 ≤ c1 ∧ last.size ≤ maxLen ∧ dist l last tgt = some k ∧ m1 + k = D + 1 ∧
        Own wr (w3.heap.size + 1) 9 1 (.slice A1 m1 c1) m1 (pre.map Value.string) ∧ (∀ s ∈ pre, s.size ≤ maxLen) ∧ Hid (frm :: wayN l heads tgt D frm = pre ++ wayN l heads tgt k last) ∧ Below w4.heap.size w4 wr)
      case atStart => exact ⟨D, frm, [frm], _, 1, 1, rfl, rfl, rfl, Nat.le_refl _, hf, HD.out, by omega, by simpa using hoo, by simpa using hf, rfl, brefl.al _⟩
      case round =>
        clear hoo
        obtain ⟨k, last, pre, A1, m1, c1, hG, rfl, rfl, hc1, hls, hdl, hmk, ho, hps, hr, hbl⟩ := hrel
        cases k with
        | zero =>
          have hlt := dist_zero.1 hdl
          subst hlt
          have HE := Lib.hid (show frm :: wayN l heads tgt D frm = pre from by rw [hr.out]; simp [wayN])
          have hst := Strs.own ho rfl hps
          have hself : (tgt.toList == tgt.toList) = true := by simp
          clear hdl
          go_wp2
          go_ret2
          exact ⟨A1, m1, c1, by rw [HW.out]; rfl, hc1, by omega, by rw [HW.out]; show Strs wr A1 m1 (frm :: wayN l heads tgt D frm); rw [HE.out]; exact hst, hbw4.tr hbl⟩
        | succ k =>
          have hne : (last.toList == tgt.toList) = false := (eqS_false _ _).2 fun e => by subst e; rw [dist_self] at hdl; cases hdl
          have hbw := hbw4.tr hbl
          have hst := step_any w.heap.size w3.heap.size db n c (n + 1) A l heads last tgt k wr hm (hl.below hbw) ((hbl.cell (p := ⟨w.heap.size, 0, none⟩) (World.block_lt_of_cell? _ _ hlb4)).trans hlb4) ((hbl.cell (p := ⟨w3.heap.size, 0, none⟩) (World.block_lt_of_cell? _ _ hmb4)).trans hmb4) (hf4.below hbl) hls hdl HH.out
          have HN := Lib.hid (wayN_succ l heads tgt k last)
          generalize (best l heads last tgt k l none).getD ByteArray.empty = nx at hst HN
          clear hdl
          go_wp2_with (first
            | (go_at_call 157; refine hst.mono ?_; rintro e w5 ⟨rfl, hns, hdn, hb5⟩)
            | (at_builtin; refine wpList_app _ stringsT rfl (.tmp 51) (.tmp 53) rfl ((ho.below hb5).alloc _) rfl rfl (news := [.string nx]) rfl (Rds.one w5 (.string nx) 9) (by simp [Value.oneCell']) ?_ ?_ ?_; (focus omega); (focus omega); intro A6 c6 w6 o6 n6 g6 _))
          have hb6 := ((hbl.tr hb5).al (.cells #[.string nx] 9)).gr g6 (fun j hj => by have := ho.row j hj; omega)
          go_roundg k
          case measure => omega
          case rel => exact ⟨k, nx, pre ++ [nx], A6, m1 + 1, c6, rfl, rfl, rfl, n6, hns, hdn, by omega, one_app o6 rfl, fun s hs => by
            rcases List.mem_append.1 hs with h | h
            · exact hps s h
            · simp at h; subst h; exact hns, by show _ = _; rw [hr.out, HN.out]; simp, hb6⟩
end Go.Proofs.YtdfnfimajhagfaaGreatDoor
