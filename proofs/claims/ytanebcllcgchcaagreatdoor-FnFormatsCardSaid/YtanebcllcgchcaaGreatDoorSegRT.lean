/- Segments come back: what is read of a file made of frames, with bytes behind, and cut; plain. -/
import Derived.Test.YtanebcllcgchcaaGreatDoorSeg5
namespace Go.Proofs.YtanebcllcgchcaaGreatDoor
set_option linter.unusedVariables false
set_option linter.unusedSimpArgs false
open Go.RowKit

theorem frame_read {t f : List UInt8} (h : frameB t = some f) (l : List UInt8) : readVar (f ++ l) = some (t.length, (varBytes t.length).length) ∧ f.length = (varBytes t.length).length + 4 + t.length ∧ 1 ≤ t.length ∧ t.length ≤ 9000 := by
  by_cases hb : 1 ≤ t.length ∧ t.length ≤ 9000
  · rw [frameB_yes hb] at h
    simp only [Option.some.injEq] at h
    have h4 := sum4_len t
    refine ⟨?_, ?_, hb⟩
    · rw [← h, List.append_assoc]
      exact readVar_varBytes _ (by omega) _
    · rw [← h]
      simp only [List.length_append, h4]
      omega
  · rw [frameB_no hb] at h
    cases h
theorem frOf_put {t f : List UInt8} (h : frameB t = some f) (l : List UInt8) : frOf (f ++ l) = some (t, f.length) := by
  obtain ⟨hrv, hlen, hb⟩ := frame_read h l
  have h4 := sum4_len t
  have hf := h
  rw [frameB_yes hb] at h
  simp only [Option.some.injEq] at h
  have hd : ((f ++ l).drop ((varBytes t.length).length + 4)).take t.length = t := by
    have e : f ++ l = (varBytes t.length ++ sum4 t) ++ (t ++ l) := by rw [← h]; simp only [List.append_assoc]
    rw [e, List.drop_left' (by rw [List.length_append, h4]), List.take_left' rfl]
  have ht : (f ++ l).take ((varBytes t.length).length + 4 + t.length) = f := by rw [← hlen, List.take_left' rfl]
  rw [frOf_yes hrv ⟨by rw [List.length_append]; omega, by rw [hd, ht, hf]⟩, hd, hlen]
theorem frOf_cut {t f : List UInt8} (h : frameB t = some f) {k : Nat} (hk : k < f.length) : frOf (f.take k) = none := by
  obtain ⟨hrv, hlen, hb⟩ := frame_read h []
  rw [List.append_nil] at hrv
  cases hr : readVar (f.take k) with
  | none => exact frOf_none hr
  | some p =>
    obtain ⟨n', k'⟩ := p
    obtain ⟨h1, h2, h3, _, _⟩ := readVar_spec hr
    have hkl : (f.take k).length = k := by rw [List.length_take]; omega
    rw [hkl] at h3
    rw [List.take_take, Nat.min_eq_left h3] at h2
    have h5 := readVar_varBytes n' h1 (f.drop k')
    rw [← h2, List.take_append_drop, hrv] at h5
    simp only [Option.some.injEq, Prod.mk.injEq] at h5
    have h6 : (f.take k').length = k' := by rw [List.length_take]; omega
    refine frOf_no hr fun hc => ?_
    have := hc.1
    rw [hkl] at this
    omega
theorem frOf_torn : frOf [116, 111, 114, 110] = none := by
  have h : readVar (varBytes 116 ++ [111, 114, 110]) = some (116, (varBytes 116).length) := readVar_varBytes 116 (by omega) _
  rw [varBytes_small (by omega)] at h
  refine frOf_no h fun hc => ?_
  have := hc.1
  simp at this

/-- A record's frame. -/
def frB (r : ByteArray) : List UInt8 := varBytes r.size ++ (sum4 (ub r) ++ ub r)
def frs (rs : List ByteArray) : List UInt8 := (rs.map frB).flatten
def Recs (rs : List ByteArray) : Prop := ∀ r ∈ rs, 1 ≤ r.size ∧ r.size ≤ 9000
theorem frB_is {r : ByteArray} (h : 1 ≤ r.size ∧ r.size ≤ 9000) : frameB (ub r) = some (frB r) := by rw [frameB_yes (by rw [ub_length]; exact h), ub_length]; rfl
theorem frameLen_frB {r : ByteArray} (h : 1 ≤ r.size ∧ r.size ≤ 9000) : frameLen r = (frB r).length := by unfold frameLen; rw [frB_is h]
theorem frs_cons (r : ByteArray) (rs : List ByteArray) : frs (r :: rs) = frB r ++ frs rs := by unfold frs; rw [List.map_cons, List.flatten_cons]
theorem frs_snoc (rs : List ByteArray) (r : ByteArray) : frs (rs ++ [r]) = frs rs ++ frB r := by unfold frs; simp
theorem frB_pos (r : ByteArray) : 1 ≤ (frB r).length := by
  have := varBytes_pos r.size
  unfold frB
  rw [List.length_append]
  omega
theorem frs_len : ∀ rs : List ByteArray, rs.length ≤ (frs rs).length
  | [] => Nat.le_refl _
  | r :: rs => by
    have := frs_len rs
    have := frB_pos r
    rw [frs_cons, List.length_append, List.length_cons]
    omega
theorem unfr_frs {j : List UInt8} (hj : frOf j = none) : ∀ (rs : List ByteArray) (f : Nat), Recs rs → rs.length ≤ f → unfr f (frs rs ++ j) = (rs, (frs rs).length)
  | [], f, _, _ => by rw [show frs [] ++ j = j from rfl, unfr_none hj]; rfl
  | r :: rs, 0, _, h => by simp at h
  | r :: rs, f + 1, hr, h => by
    have hf := frB_is (hr r (by simp))
    rw [frs_cons, List.append_assoc, unfr_some (frOf_put hf _), List.drop_left' rfl, unfr_frs hj rs f (fun x hx => hr x (by simp [hx])) (by simpa using h), bs_ub, List.length_append]
theorem frs_cut : ∀ (rs : List ByteArray) (k : Nat), Recs rs → k ≤ (frs rs).length → ∃ m j, m ≤ rs.length ∧ (frs rs).take k = frs (rs.take m) ++ j ∧ frOf j = none ∧ (frs (rs.take m)).length ≤ k
  | [], k, _, hk => ⟨0, [], Nat.le_refl _, by simp [frs], frOf_nil, by simp [frs]⟩
  | r :: rs, k, hr, hk => by
    have hf := frB_is (hr r (by simp))
    rw [frs_cons, List.length_append] at hk
    by_cases hl : k < (frB r).length
    · exact ⟨0, (frB r).take k, Nat.zero_le _, by rw [frs_cons, List.take_append_of_le_length (by omega)]; rfl, frOf_cut hf hl, by simp [frs]⟩
    · obtain ⟨m, j, h1, h2, h3, h4⟩ := frs_cut rs (k - (frB r).length) (fun x hx => hr x (by simp [hx])) (by omega)
      refine ⟨m + 1, j, by simpa using h1, ?_, h3, ?_⟩
      · rw [frs_cons, List.take_append, List.take_of_length_le (by omega), h2, List.take_succ_cons, frs_cons, List.append_assoc]
      · rw [List.take_succ_cons, frs_cons, List.length_append]
        omega
/-- Records that are batches, one behind the other, their numbers rising. -/
def BatsIn : Option Int → List ByteArray → List BatD → Prop
  | _, [], [] => True
  | last, r :: rs, d :: ds => (batText d = some (ub r) ∧ 1 ≤ r.size ∧ r.size ≤ 9000) ∧ (∀ q, last = some q → q < d.1) ∧ BatsIn (some d.1) rs ds
  | _, [], _ :: _ => False
  | _, _ :: _, [] => False
theorem BatsIn.recs : ∀ {rs : List ByteArray} {ds : List BatD} {last : Option Int}, BatsIn last rs ds → Recs rs
  | [], [], _, _ => fun x hx => by simp at hx
  | r :: rs, d :: ds, _, h => fun x hx => by
    rcases List.mem_cons.1 hx with rfl | hx
    · exact h.1.2
    · exact h.2.2.recs x hx
  | [], _ :: _, _, h => h.elim
  | _ :: _, [], _, h => h.elim
theorem BatsIn.snoc {r : ByteArray} {e : BatD} (he : batText e = some (ub r) ∧ 1 ≤ r.size ∧ r.size ≤ 9000) : ∀ {rs : List ByteArray} {ds : List BatD} {last : Option Int}, BatsIn last rs ds → (∀ d ∈ ds, d.1 < e.1) → (∀ q, last = some q → q < e.1) → BatsIn last (rs ++ [r]) (ds ++ [e])
  | [], [], _, _, _, hq => ⟨he, hq, trivial⟩
  | r' :: rs, d :: ds, _, h, hd, _ => ⟨h.1, h.2.1, h.2.2.snoc he (fun x hx => hd x (by simp [hx])) fun q e => by cases e; exact hd d (by simp)⟩
  | [], _ :: _, _, h, _, _ => h.elim
  | _ :: _, [], _, h, _, _ => h.elim
theorem BatsIn.take : ∀ {rs : List ByteArray} {ds : List BatD} {last : Option Int} (m : Nat), BatsIn last rs ds → BatsIn last (rs.take m) (ds.take m)
  | [], [], _, m, _ => by rw [List.take_nil, List.take_nil]; trivial
  | r :: rs, d :: ds, _, 0, _ => trivial
  | r :: rs, d :: ds, _, m + 1, h => ⟨h.1, h.2.1, h.2.2.take m⟩
  | [], _ :: _, _, _, h => h.elim
  | _ :: _, [], _, _, h => h.elim
theorem readBatS_of {r : ByteArray} {d : BatD} (h : batText d = some (ub r)) : readBatS r = some d := readBatS_put h
theorem endOf_cons (l : Nat) (p : PlD) (ps : List PlD) : endOf l (p :: ps) = endOf (p.2.1 + p.2.2) ps := by
  cases ps with
  | nil => rfl
  | cons q qs => unfold endOf; rw [List.getLast?_cons_cons]; cases h : (q :: qs).getLast? with
    | none => simp at h
    | some x => rfl
theorem placedGo_in : ∀ {rs : List ByteArray} {ds : List BatD} {last : Option Int} (a : Nat), BatsIn last rs ds → (placedGo last a rs).map Prod.fst = ds ∧ endOf a (placedGo last a rs) = a + (frs rs).length
  | [], [], _, a, _ => ⟨rfl, rfl⟩
  | r :: rs, d :: ds, last, a, h => by
    have hb := readBatS_of h.1.1
    obtain ⟨i1, i2⟩ := placedGo_in (a + frameLen r) h.2.2
    have hg : placedGo last a (r :: rs) = (d, a, frameLen r) :: placedGo (some d.1) (a + frameLen r) rs := by
      cases last with
      | none => exact placedGo_first hb
      | some q => exact placedGo_next hb (by have := h.2.1 q rfl; omega)
    rw [hg, List.map_cons, i1, endOf_cons, i2, frs_cons, List.length_append, ← frameLen_frB h.1.2]
    exact ⟨rfl, Nat.add_assoc _ _ _⟩
  | [], _ :: _, _, _, h => h.elim
  | _ :: _, [], _, _, h => h.elim

/-- The file of a right segment. -/
structure SegText (n : Nat) (f : Nat) (r : ByteArray) (rs : List ByteArray) (ds : List BatD) (s : ByteArray) : Prop where
  head : IsHead (n : Int) r f
  bats : BatsIn none rs ds
  text : ub s = frs (r :: rs)
  small : s.size ≤ 15000
theorem SegText.rec0 {n f : Nat} {r s : ByteArray} {rs : List ByteArray} {ds : List BatD} (h : SegText n f r rs ds s) : 1 ≤ r.size ∧ r.size ≤ 9000 := by
  have h1 := h.head
  have h2 := headBytes_len (n := n) (f := f) (by have := h1.1.2; omega) (by have := h1.1.2; have := h1.2.1; omega)
  have h3 : (ub r).length = (headBytes n f).length := by rw [h1.2.2]; rfl
  rw [ub_length] at h3
  omega
theorem SegText.recs {n f : Nat} {r s : ByteArray} {rs : List ByteArray} {ds : List BatD} (h : SegText n f r rs ds s) : Recs (r :: rs) := fun x hx => by
  rcases List.mem_cons.1 hx with rfl | hx
  · exact h.rec0
  · exact h.bats.recs x hx
theorem segPl_built {n f : Nat} {r s : ByteArray} {rs : List ByteArray} {ds : List BatD} {j : List UInt8} (hh : IsHead (n : Int) r f) (hr : Recs (r :: rs)) (hb : BatsIn none rs ds) (ht : ub s = frs (r :: rs) ++ j) (hj : frOf j = none) (hs : s.size ≤ 20000) :
    ∃ pls, segPl (n : Int) s = some (f, frameLen r, pls) ∧ pls.map Prod.fst = ds ∧ endOf (frameLen r) pls = (frs (r :: rs)).length := by
  have hl := frs_len (r :: rs)
  have hsz : (ub s).length = s.size := ub_length s
  rw [ht, List.length_append] at hsz
  have hu : unframeB s = (r :: rs, (frs (r :: rs)).length) := by
    unfold unframeB
    rw [if_pos hs, ht, unfr_frs hj _ _ hr (by omega)]
  obtain ⟨i1, i2⟩ := placedGo_in (frameLen r) hb
  refine ⟨placedGo none (frameLen r) rs, ?_, i1, by rw [i2, frs_cons, List.length_append, frameLen_frB (hr r (by simp))]⟩
  unfold segPl
  rw [hu]
  dsimp only
  rw [hdI_put hh]
theorem SegText.read {n f : Nat} {r s : ByteArray} {rs : List ByteArray} {ds : List BatD} (h : SegText n f r rs ds s) : ∃ pls, segPl (n : Int) s = some (f, frameLen r, pls) ∧ pls.map Prod.fst = ds ∧ endOf (frameLen r) pls = s.size := by
  obtain ⟨pls, h1, h2, h3⟩ := segPl_built (j := []) h.head h.recs h.bats (by rw [h.text, List.append_nil]) frOf_nil (by have := h.small; omega)
  exact ⟨pls, h1, h2, by rw [h3, ← h.text, ub_length]⟩
theorem SegText.torn {n f : Nat} {r s t : ByteArray} {rs : List ByteArray} {ds : List BatD} (h : SegText n f r rs ds s) (ht : ub t = [116, 111, 114, 110]) : ∃ pls, segPl (n : Int) (s ++ t) = some (f, frameLen r, pls) ∧ pls.map Prod.fst = ds ∧ endOf (frameLen r) pls = s.size := by
  have e : ub (s ++ t) = ub s ++ ub t := by simp [ub]
  have h4 : t.size = 4 := by rw [← ub_length, ht]; rfl
  have hsz : (s ++ t).size = s.size + 4 := by rw [ByteArray.size_append, h4]
  obtain ⟨pls, h1, h2, h3⟩ := segPl_built (s := s ++ t) (j := [116, 111, 114, 110]) h.head h.recs h.bats (by rw [e, ht, h.text]) frOf_torn (by have := h.small; omega)
  exact ⟨pls, h1, h2, by rw [h3, ← h.text, ub_length]⟩
theorem SegText.cut {n f : Nat} {r s : ByteArray} {rs : List ByteArray} {ds : List BatD} (h : SegText n f r rs ds s) {k : Nat} (hk : frameLen r ≤ k) (hk2 : k ≤ s.size) : ∃ pls m, segPl (n : Int) (s.extract 0 k) = some (f, frameLen r, pls) ∧ pls.map Prod.fst = ds.take m ∧ endOf (frameLen r) pls ≤ k := by
  have hfl := frameLen_frB h.rec0
  have hz : (ub s).length = s.size := ub_length s
  rw [h.text, frs_cons, List.length_append] at hz
  obtain ⟨m, j, h1, h2, h3, h4⟩ := frs_cut rs (k - (frB r).length) h.bats.recs (by omega)
  have hu : ub (s.extract 0 k) = frs (r :: rs.take m) ++ j := by
    rw [ub_take, h.text, frs_cons, List.take_append, List.take_of_length_le (by omega), h2, frs_cons, List.append_assoc]
  have hsz : (s.extract 0 k).size ≤ 20000 := by have := h.small; simp; omega
  obtain ⟨pls, e1, e2, e3⟩ := segPl_built h.head (fun x hx => by
    rcases List.mem_cons.1 hx with rfl | hx
    · exact h.rec0
    · exact (h.bats.take m).recs x hx) (h.bats.take m) hu h3 hsz
  refine ⟨pls, m, e1, e2, ?_⟩
  rw [e3, frs_cons, List.length_append]
  omega
theorem SegText.wrong {n f : Nat} {r s : ByteArray} {rs : List ByteArray} {ds : List BatD} (h : SegText n f r rs ds s) : segPl ((n : Int) + 1) s = none := by
  have hl := frs_len (r :: rs)
  have hsz : (ub s).length = s.size := ub_length s
  rw [h.text] at hsz
  have hu : unframeB s = (r :: rs, (frs (r :: rs)).length) := by
    unfold unframeB
    rw [if_pos (by have := h.small; omega), h.text, ← List.append_nil (frs (r :: rs)), unfr_frs frOf_nil _ _ h.recs (by omega), List.append_nil]
  unfold segPl
  rw [hu]
  dsimp only
  cases hd : hdI ((n : Int) + 1) r with
  | none => rfl
  | some f' =>
    obtain ⟨h1, h2, h3⟩ := hdI_is hd
    have h4 := h.head.2.2
    have h5 := h.head.1.2
    rw [h3] at h4
    unfold headBytes at h4
    simp only [List.cons.injEq, true_and] at h4
    have r1 := readVar_varBytes ((n : Int) + 1).toNat (by omega) (varBytes f')
    have r2 := readVar_varBytes ((n : Int)).toNat (by omega) (varBytes f)
    rw [h4, r2] at r1
    simp only [Option.some.injEq, Prod.mk.injEq] at r1
    omega
theorem SegText.headT {n f : Nat} {r s : ByteArray} {rs : List ByteArray} {ds : List BatD} (h : SegText n f r rs ds s) : headText (n : Int) (f : Int) = some (frB r) ∧ (frB r).length = frameLen r ∧ frameLen r ≤ s.size := by
  have hfl := frameLen_frB h.rec0
  have hz : (ub s).length = s.size := ub_length s
  rw [h.text, frs_cons, List.length_append] at hz
  have h1 := h.head.2.1
  have h2 := h.head.1.2
  refine ⟨?_, hfl.symm, by omega⟩
  have h3 := h.head.2.2
  rw [headText_yes (by omega) (by omega), ← frB_is h.rec0, h3]
  rfl
theorem BatsIn.length : ∀ {rs : List ByteArray} {ds : List BatD} {last : Option Int}, BatsIn last rs ds → ds.length = rs.length
  | [], [], _, _ => rfl
  | r :: rs, d :: ds, _, h => by rw [List.length_cons, List.length_cons, h.2.2.length]
  | [], _ :: _, _, h => h.elim
  | _ :: _, [], _, h => h.elim
theorem SegText.count {n f : Nat} {r s : ByteArray} {rs : List ByteArray} {ds : List BatD} (h : SegText n f r rs ds s) : ds.length ≤ 15000 := by
  have h1 := frs_len (r :: rs)
  have h2 : (ub s).length = s.size := ub_length s
  have h3 := h.bats.length
  have h4 := h.small
  rw [h.text] at h2
  rw [List.length_cons] at h1
  omega
end Go.Proofs.YtanebcllcgchcaaGreatDoor
