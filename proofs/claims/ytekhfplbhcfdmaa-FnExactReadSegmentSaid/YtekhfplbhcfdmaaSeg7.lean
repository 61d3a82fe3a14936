/- The laws' helpers for lists of batches: eqBatchS, markBatchS, heldBatchS. -/
import Derived.Test.YtekhfplbhcfdmaaSeg5
import Derived.Test.YtekhfplbhcfdmaaMarkB
namespace Go.Proofs.Ytekhfplbhcfdmaa
set_option linter.unusedVariables false
set_option linter.unusedSimpArgs false
open Go.RowKit
attribute [local go_sem] bs_size List.length_cons List.length_nil List.length_append

theorem own_set {w : World} {B : Nat} {te : TypeId} {sz g n c i : Nat} {fl : List Value} (h : w.ownsRow B te sz (.slice (some ⟨g, 0, none⟩) n c) n fl) (x : Value) : (w.setCell ⟨g, i, none⟩ x).ownsRow B te sz (.slice (some ⟨g, 0, none⟩) n c) n (fl.set i x) := by
  refine ⟨by rw [List.length_set]; exact h.1, ?_⟩
  rcases h.2 with ⟨e, _⟩ | ⟨g', cap, cur, e, hB, hg, hn, hm, hc, ht⟩
  · cases e
  · injection e with e1 e2 e3
    injection e1 with e1
    injection e1 with e1
    subst e1 e3
    refine .inr ⟨g, c, cur.setIfInBounds i x, rfl, hB, blk_set hg i x, hn, hm, by rw [Array.size_setIfInBounds]; exact hc, ?_⟩
    rw [Array.toList_setIfInBounds, List.take_set, ht]
theorem flat_set {α β : Type} {f : α → List β} {m : Nat} (hf : ∀ x, (f x).length = m) : ∀ (xs : List α) (j d : Nat) (x x' : α) (y : β), xs[j]? = some x → d < m → f x' = (f x).set d y → ((xs.map f).flatten).set (j * m + d) y = ((xs.set j x').map f).flatten
  | [], j, d, x, x', y, h, _, _ => by simp at h
  | z :: xs, 0, d, x, x', y, h, hd, e => by
    obtain rfl : z = x := by simpa using h
    rw [List.map_cons, List.flatten_cons, Nat.zero_mul, Nat.zero_add, List.set_append_left _ _ (by rw [hf]; exact hd), List.set_cons_zero, List.map_cons, List.flatten_cons, e]
  | z :: xs, j + 1, d, x, x', y, h, hd, e => by
    have e2 : (j + 1) * m + d = (f z).length + (j * m + d) := by rw [hf, Nat.add_mul]; omega
    rw [List.map_cons, List.flatten_cons, e2, List.set_append_right _ _ (Nat.le_add_right ..), Nat.add_sub_cancel_left, flat_set hf xs j d x x' y (by simpa using h) hd e]
    rfl
theorem set_same {α : Type} {l : List α} {j : Nat} {x : α} (h : l[j]? = some x) : l.set j x = l := by
  apply List.ext_getElem?
  intro i
  rw [List.getElem?_set]
  split
  · rename_i e
    subst e
    rw [h]
    simp [(List.getElem?_eq_some_iff.1 h).1]
  · rfl
/-- What stands at j in a list of batches; what setting it does. -/
theorem BatsOwn.pick {w : World} {B : Nat} {A : Option Addr} {n c j : Nat} {bs : List BatD} {q : Int} {cs : List ChD} (h : BatsOwn w B (.slice A n c) bs) (hj : bs[j]? = some (q, cs)) :
    ∃ g u, A = some ⟨g, 0, none⟩ ∧ B ≤ g ∧ g < w.heap.size ∧ (∀ i, w.frozen? ⟨g, i, none⟩ = false) ∧ w.cell? ⟨g, j * 2, none⟩ = some (.int .i64 q) ∧ w.cell? ⟨g, j * 2 + 1, none⟩ = some u ∧ ChOwn w B u cs ∧ ChSmall cs ∧
      (∀ w' ys, ChOwn w' B u ys → ChSmall ys → w.grownBy w' u.ownBlock → BatsOwn w' B (.slice A n c) (bs.set j (q, ys))) ∧
      (∀ k : Int, BatsOwn (w.setCell ⟨g, j * 2, none⟩ (.int .i64 k)) B (.slice A n c) (bs.set j (k, cs))) := by
  obtain ⟨zs, rfl, h1, h2⟩ := h
  obtain ⟨z, hz, hzz⟩ : ∃ z, zs[j]? = some z ∧ z.2 = (q, cs) := by
    rw [List.getElem?_map] at hj
    cases hz : zs[j]? with
    | none => rw [hz] at hj; cases hj
    | some z => rw [hz] at hj; exact ⟨z, rfl, Option.some.inj hj⟩
  obtain ⟨u, qc⟩ := z
  obtain rfl : qc = (q, cs) := hzz
  have hjl := (List.getElem?_eq_some_iff.1 hz).1
  have hzm := List.mem_of_getElem? hz
  obtain ⟨u', ys, e1, e2, ho, hs⟩ := h2.at_ (j := j) (by rw [List.length_map]; exact hjl)
  rw [List.getElem?_map, hz] at e1
  obtain rfl := Option.some.inj e1
  rw [List.getElem?_map, List.getElem?_map, hz] at e2
  obtain rfl := Option.some.inj e2
  have hform := h1.1
  rcases own_cells (f := batVals) (m := 2) (fun _ => rfl) h1.1 with ⟨_, e⟩ | ⟨g, cap, e, hB, hg, _, _, hc⟩
  · rw [e] at hz; simp at hz
  injection e with ea en ec
  subst ea en ec
  have hfz : ∀ i, w.frozen? ⟨g, i, none⟩ = false := by
    rcases h1.1.2 with ⟨e, _⟩ | ⟨g', cap', cur, e, _, hg', _⟩
    · cases e
    · injection e with e1
      injection e1 with e1
      injection e1 with e1
      subst e1
      exact fun i => gr_frozen hg' i
  refine ⟨g, u, rfl, hB, hg, hfz, hc j _ 0 hz (by omega), hc j _ 1 hz (by omega), ho, hs, fun w' ys hy hys hgr => ?_, fun k => ?_⟩
  · refine ⟨zs.set j (u, (q, ys)), List.map_set, ⟨?_, fun k hk z' hz' => ?_⟩, ?_⟩
    · rw [List.length_set, ← flat_set (f := batVals) (m := 2) (fun _ => rfl) zs j 0 (u, (q, cs)) (u, (q, ys)) (.int .i64 q) hz (by omega) rfl]
      have e0 : ((zs.map batVals).flatten).set (j * 2 + 0) (.int .i64 q) = (zs.map batVals).flatten := set_same (by rw [flat_get (f := batVals) (m := 2) (fun _ => rfl) zs j 0 _ hz (by omega)]; rfl)
      rw [e0]
      exact h1.1.kept hgr (.inr (by intro e2; exact h1.2 g rfl _ hzm (by rw [← e2]; rfl)))
    · rcases List.mem_or_eq_of_mem_set hz' with hm | rfl
      · exact h1.2 k hk z' hm
      · exact h1.2 k hk (u, (q, cs)) hzm
    · rw [List.map_set, List.map_set]
      have e3 : (zs.map Prod.fst).set j u = zs.map Prod.fst := set_same (by rw [List.getElem?_map, hz]; rfl)
      show RowsC w' B ((zs.map Prod.fst).set j u) _
      rw [e3]
      exact RowsC.set hys hgr hy h2 (by rw [List.getElem?_map, hz]; rfl)
  · refine ⟨zs.set j (u, (k, cs)), List.map_set, ⟨?_, fun k' hk z' hz' => ?_⟩, ?_⟩
    · rw [List.length_set, ← flat_set (f := batVals) (m := 2) (fun _ => rfl) zs j 0 (u, (q, cs)) (u, (k, cs)) (.int .i64 k) hz (by omega) rfl, Nat.add_zero]
      exact own_set h1.1 _
    · rcases List.mem_or_eq_of_mem_set hz' with hm | rfl
      · exact h1.2 k' hk z' hm
      · exact h1.2 k' hk (u, (q, cs)) hzm
    · rw [List.map_set, List.map_set]
      have e3 : (zs.map Prod.fst).set j u = zs.map Prod.fst := set_same (by rw [List.getElem?_map, hz]; rfl)
      have e4 : ((zs.map Prod.snd).map fun b : BatD => b.2).set j cs = (zs.map Prod.snd).map fun b : BatD => b.2 := set_same (by rw [List.getElem?_map, List.getElem?_map, hz]; rfl)
      show RowsC _ B ((zs.map Prod.fst).set j u) (((zs.map Prod.snd).map fun b : BatD => b.2).set j cs)
      rw [e3, e4]
      refine h2.kept (gr_set w g (j * 2) _) fun u2 hu2 k' hk' e => ?_
      obtain ⟨z2, hz2, rfl⟩ := List.mem_map.1 hu2
      cases e
      exact h1.2 g rfl z2 hz2 hk'
/-- The marks of the batches, one behind the other, from k on. -/
def marksB (k : Nat) : List BatD → List BatD
  | [] => []
  | b :: bs => ((k : Int), marksCh (k + 1) b.2.length) :: marksB (k + 1 + b.2.length * 3) bs
def cntB (bs : List BatD) (j : Nat) : Nat := ((bs.take j).map fun b => 1 + b.2.length * 3).sum
theorem cntB_step {bs : List BatD} {j : Nat} {b : BatD} (h : bs[j]? = some b) : cntB bs (j + 1) = cntB bs j + (1 + b.2.length * 3) := by
  unfold cntB
  rw [take_snoc h]
  simp
theorem cntB_le (bs : List BatD) (j : Nat) : cntB bs j ≤ cntB bs bs.length := by
  unfold cntB
  rw [List.take_length]
  have := congrArg (fun l : List BatD => (l.map fun b => 1 + b.2.length * 3).sum) (List.take_append_drop j bs)
  simp only [List.map_append, List.sum_append] at this
  omega
theorem marksB_at : ∀ (bs : List BatD) (k j : Nat) (b : BatD), bs[j]? = some b → (marksB k bs)[j]? = some (((k + cntB bs j : Nat) : Int), marksCh (k + cntB bs j + 1) b.2.length)
  | [], _, _, _, h => by simp at h
  | c :: bs, k, 0, b, h => by
    obtain rfl : c = b := by simpa using h
    rfl
  | c :: bs, k, j + 1, b, h => by
    have h' : bs[j]? = some b := by simpa using h
    have := marksB_at bs (k + 1 + c.2.length * 3) j b h'
    have e : k + 1 + c.2.length * 3 + cntB bs j = k + cntB (c :: bs) (j + 1) := by simp [cntB]; omega
    rw [marksB, List.getElem?_cons_succ, this, e]
theorem marksB_length : ∀ (bs : List BatD) (k : Nat), (marksB k bs).length = bs.length
  | [], _ => rfl
  | _ :: bs, k => by simp [marksB, marksB_length bs]
/-- The first j batches are marked. -/
def mixB (k : Nat) (bs : List BatD) (j : Nat) : List BatD := (marksB k bs).take j ++ bs.drop j
theorem mixB_step {k j : Nat} {bs : List BatD} {b : BatD} (h : bs[j]? = some b) : (mixB k bs j).set j (((k + cntB bs j : Nat) : Int), marksCh (k + cntB bs j + 1) b.2.length) = mixB k bs (j + 1) := by
  obtain ⟨hj, e⟩ := List.getElem?_eq_some_iff.1 h
  have hl : ((marksB k bs).take j).length = j := by rw [List.length_take, marksB_length]; omega
  unfold mixB
  rw [List.set_append_right _ _ (by omega), hl, Nat.sub_self, List.drop_eq_getElem_cons hj, List.set_cons_zero, take_snoc (marksB_at bs k j b h)]
  simp
theorem mixB_at {k j : Nat} {bs : List BatD} (hj : j < bs.length) : (mixB k bs j)[j]? = bs[j]? := by
  have hl : ((marksB k bs).take j).length = j := by rw [List.length_take, marksB_length]; omega
  unfold mixB
  rw [List.getElem?_append_right (by omega), hl, Nat.sub_self, List.getElem?_drop, Nat.add_zero]
theorem mixB_all (k : Nat) (bs : List BatD) : mixB k bs bs.length = marksB k bs := by
  unfold mixB
  rw [List.drop_length, List.append_nil, ← marksB_length bs k, List.take_length]
theorem keepB {w w' : World} {a0 a1 b0 b1 : Addr} {x0 x1 y0 y1 : Value} (h : (w.cell? a0 = some x0 ∧ w.cell? a1 = some x1) ∧ (w.cell? b0 = some y0 ∧ w.cell? b1 = some y1)) (hb : Below w.heap.size w w') :
    (w'.cell? a0 = some x0 ∧ w'.cell? a1 = some x1) ∧ (w'.cell? b0 = some y0 ∧ w'.cell? b1 = some y1) ∧ Hid (Below w.heap.size w w') := by
  have k : ∀ {a : Addr} {x : Value}, w.cell? a = some x → w'.cell? a = some x := fun h => (hb.cell (World.block_lt_of_cell? w _ h)).trans h
  exact ⟨⟨k h.1.1, k h.1.2⟩, ⟨k h.2.1, k h.2.2⟩, hb⟩
def MarkedB (w : World) (B : Nat) (v : Value) (k : Nat) (bs : List BatD) (e : Ending) (w' : World) : Prop := e = .returned (.int .i64 ((k + cntB bs bs.length : Nat) : Int)) ∧ BatsOwn w' B v (marksB k bs) ∧ Below B w w'
set_option maxHeartbeats 4000000 in
set_option maxRecDepth 100000 in
theorem laws_markBatchS_calls (B : Nat) (v : Value) (bs : List BatD) (k : Nat) (w : World) (h : BatsOwn w B v bs) (h0 : 1 ≤ k) (h1 : k + cntB bs bs.length ≤ 1000000000) (hn : bs.length ≤ 1000000000) (hBw : B ≤ w.heap.size) :
    Calls Try.prog 38 #[v, .int .i64 (k : Int)] w (MarkedB w B v k bs) := by
  obtain ⟨A, c, rfl⟩ := h.form
  have HMX : Hid (BatsOwn w B (.slice A bs.length c) (mixB k bs 0)) := h
  clear h
  go_enter Try.func38, Try.ntmps38
  go_wp2
  go_loopw [1, 5] (fun q iv wr => ∃ j : Nat, j ≤ bs.length ∧ iv = .int .i64 (j : Int) ∧ q = .int .i64 ((k + cntB bs j : Nat) : Int) ∧ BatsOwn wr B (.slice A bs.length c) (mixB k bs j) ∧ Below B w wr ∧ w.heap.size ≤ wr.heap.size) (fun _ iv _ => bs.length - (intOf iv).toNat)
  case atStart => exact ⟨0, Nat.zero_le _, rfl, rfl, HMX.out, Below.refl _ _, Nat.le_refl _⟩
  case round =>
    obtain ⟨j, hj, rfl, rfl, hmx, hbel, hsz⟩ := hrel
    have HM := Lib.hid hmx
    have HB := Lib.hid hbel
    have HSZ := Lib.hid hsz
    clear hmx hbel hsz
    by_cases hlt : j < bs.length
    · obtain ⟨⟨q, cs⟩, hx⟩ : ∃ x, bs[j]? = some x := ⟨_, List.getElem?_eq_getElem hlt⟩
      have HX := Lib.hid hx
      have HST := Lib.hid (mixB_step (k := k) hx)
      have hmj : (mixB k bs j)[j]? = some (q, cs) := (mixB_at hlt).trans hx
      have hle : k + cntB bs j + 1 + cs.length * 3 ≤ 1000000000 := by
        have h2 := cntB_le bs (j + 1)
        rw [cntB_step hx] at h2
        dsimp only at h2
        omega
      have HCS : Hid (cntB bs (j + 1) = cntB bs j + (1 + cs.length * 3)) := cntB_step hx
      obtain ⟨g, u, hA, hBg, hgl, hfz, hc0, _, _, _, _, hset⟩ := HM.out.pick hmj
      have hs1 := hset ((k : Int) + (cntB bs j : Int))
      have hmj2 : ((mixB k bs j).set j ((k : Int) + (cntB bs j : Int), cs))[j]? = some ((k : Int) + (cntB bs j : Int), cs) := by rw [List.getElem?_set_self]; exact (List.getElem?_eq_some_iff.1 hmj).1
      subst hA
      obtain ⟨g', u', hA', _, _, _, _, hc1, ho1, hsm1, hrow, _⟩ := BatsOwn.pick hs1 hmj2
      cases hA'
      have HRO := Lib.hid hrow
      have HO1 := Lib.hid ho1
      have HLT := Lib.hid ho1.lt
      obtain ⟨Au, cu, rfl, _⟩ := ho1.row hsm1
      have f0 := hfz (j * 2)
      have HBG : Hid (B ≤ g ∧ g < wr.heap.size) := ⟨hBg, hgl⟩
      generalize cntB bs j = m at HX HST HCS HRO HO1 HLT hc1 hle ⊢
      clear hx hmj hmj2 hset hs1 ho1 hsm1 hrow hfz
      go_wp2_with fail
      go_at_call 60
      rw [show (k : Int) + (m : Int) + 1 = ((k + m + 1 : Nat) : Int) by omega]
      refine (laws_markChangeS_calls B _ cs (k + m + 1) _ HO1.out (by omega) (by omega)).mono ?_
      rintro e w1 ⟨rfl, ho2, hg2⟩
      have HM1 : Hid (BatsOwn w1 B (.slice (some ⟨g, 0, none⟩) bs.length c) (mixB k bs (j + 1))) := by
        have h := HRO.out w1 _ ho2 (marksCh_small (by omega)) hg2
        rw [List.set_set, show (k : Int) + (m : Int) = ((k + m : Nat) : Int) by omega] at h
        rw [Hid, ← HST.out]
        exact h
      have HS1 := gr_below HB.out (gr_set wr g (j * 2) (.int .i64 ((k : Int) + (m : Int)))) (Nat.le_trans hBw HSZ.out) (fun q e => by cases e; exact HBG.out.1)
      have HB1 : Hid (Below B w w1) := gr_below HS1 hg2 (by simp; exact Nat.le_trans hBw HSZ.out) (fun q hq => (HLT.out q hq).1)
      have HSZ1 : Hid (w.heap.size ≤ w1.heap.size) := Nat.le_trans HSZ.out (by have := hg2.size; simpa using this)
      clear ho2 hg2 HS1
      go_wp2
      go_roundw
      case rel => first | exact ⟨j + 1, by omega, by go_num, congrArg (Value.int .i64) (by have := HCS.out; omega), HM1.out, HB1.out, HSZ1.out⟩ | (repeat (first | (refine ⟨?relx, rfl⟩; exact ⟨j + 1, by omega, by go_num, congrArg (Value.int .i64) (by have := HCS.out; omega), HM1.out, HB1.out, HSZ1.out⟩) | (refine ⟨?relx, ?eqs⟩; (case eqs => (and_intros <;> rfl)); exact ⟨j + 1, by omega, by go_num, congrArg (Value.int .i64) (by have := HCS.out; omega), HM1.out, HB1.out, HSZ1.out⟩) | apply Exists.intro))
      case measure => simp [intOf]; omega
    · obtain rfl : j = bs.length := by omega
      go_wp2
      go_ret
      exact ⟨rfl, by have h := HM.out; rw [mixB_all] at h; exact h, HB.out⟩
set_option maxHeartbeats 4000000 in
set_option maxRecDepth 100000 in
theorem laws_heldBatchS_calls (B : Nat) (v : Value) (bs : List BatD) (k : Nat) (w : World) (h : BatsOwn w B v (marksB k bs)) (h0 : 1 ≤ k) (h1 : k + cntB bs bs.length ≤ 1000000000) (hn : bs.length ≤ 1000000000) :
    Calls Try.prog 39 #[v, .int .i64 (k : Int)] w fun e w' => e = .returned (.int .i64 ((k + cntB bs bs.length : Nat) : Int)) ∧ Below w.heap.size w w' := by
  obtain ⟨A, c, rfl⟩ := h.form
  have HM := Lib.hid h
  rw [marksB_length] at HM ⊢
  clear h
  go_enter Try.func39, Try.ntmps39
  go_wp2
  go_loopw [1, 5] (fun q iv wr => ∃ j : Nat, j ≤ bs.length ∧ iv = .int .i64 (j : Int) ∧ q = .int .i64 ((k + cntB bs j : Nat) : Int) ∧ Below w.heap.size w wr) (fun _ iv _ => bs.length - (intOf iv).toNat)
  case atStart => exact ⟨0, Nat.zero_le _, rfl, rfl, Below.refl _ _⟩
  case round =>
    obtain ⟨j, hj, rfl, rfl, hbel⟩ := hrel
    have HB := Lib.hid hbel
    by_cases hlt : j < bs.length
    · obtain ⟨⟨q, cs⟩, hx⟩ : ∃ x, bs[j]? = some x := ⟨_, List.getElem?_eq_getElem hlt⟩
      have hle : k + cntB bs j + 1 + cs.length * 3 ≤ 1000000000 := by
        have h2 := cntB_le bs (j + 1)
        rw [cntB_step hx] at h2
        dsimp only at h2
        omega
      have HCS : Hid (cntB bs (j + 1) = cntB bs j + (1 + cs.length * 3)) := cntB_step hx
      obtain ⟨g, u, hA, _, _, _, hc0, hc1, ho1, hsm1, _, _⟩ := BatsOwn.pick (HM.out.below hbel) (marksB_at bs k j _ hx)
      subst hA
      obtain ⟨Au, cu, rfl, hr1⟩ := ho1.row hsm1
      dsimp only at hc0 hc1 hr1
      rw [marksCh_length] at hc1
      have HR1 := Lib.hid hr1
      generalize cntB bs j = m at HCS HR1 hc0 hc1 hle ⊢
      clear hx ho1 hsm1 hr1 hbel
      have hbb : (((k + m : Nat) : Int) != ((k + m : Nat) : Int)) = false := by simp
      go_wp2_with fail
      go_at_call 61
      rw [show (k : Int) + (m : Int) + 1 = ((k + m + 1 : Nat) : Int) by omega]
      refine (laws_heldChangeS_calls _ _ _ (k + m + 1) _ HR1.out (by omega) (by omega)).mono ?_
      rintro e w1 ⟨rfl, hb1⟩
      have hneg : ¬ ((k + m + 1 + cs.length * 3 : Nat) : Int) < 0 := by omega
      go_wp2
      go_roundw
      case rel => first | exact ⟨j + 1, by omega, by go_num, congrArg (Value.int .i64) (by have := HCS.out; omega), HB.out.trans (hb1.mono HB.out.size)⟩ | (repeat (first | (refine ⟨?relx, rfl⟩; exact ⟨j + 1, by omega, by go_num, congrArg (Value.int .i64) (by have := HCS.out; omega), HB.out.trans (hb1.mono HB.out.size)⟩) | (refine ⟨?relx, ?eqs⟩; (case eqs => (and_intros <;> rfl)); exact ⟨j + 1, by omega, by go_num, congrArg (Value.int .i64) (by have := HCS.out; omega), HB.out.trans (hb1.mono HB.out.size)⟩) | apply Exists.intro))
      case measure => simp [intOf]; omega
    · obtain rfl : j = bs.length := by omega
      go_wp2
      go_ret
      exact ⟨rfl, HB.out⟩
set_option maxHeartbeats 4000000 in
set_option maxRecDepth 100000 in
theorem laws_eqBatchS_calls (B B' : Nat) (v v' : Value) (bs : List BatD) (w : World) (h : BatsOwn w B v bs) (h' : BatsOwn w B' v' bs) (hn : bs.length ≤ 1000000000) :
    Calls Try.prog 37 #[v, v'] w fun e w' => e = .returned (.bool true) ∧ Below w.heap.size w w' := by
  obtain ⟨A, c, rfl⟩ := h.form
  obtain ⟨A', c', rfl⟩ := h'.form
  have HM := Lib.hid h
  have HM' := Lib.hid h'
  have hb1 : ((bs.length : Int) != (bs.length : Int)) = false := by simp
  clear h h'
  go_enter Try.func37, Try.ntmps37
  go_wp2
  go_loopw [5] (fun iv wr => ∃ j : Nat, j ≤ bs.length ∧ iv = .int .i64 (j : Int) ∧ Below w.heap.size w wr) (fun iv _ => bs.length - (intOf iv).toNat)
  case atStart => exact ⟨0, Nat.zero_le _, rfl, Below.refl _ _⟩
  case round =>
    obtain ⟨j, hj, rfl, hbel⟩ := hrel
    have HB := Lib.hid hbel
    by_cases hlt : j < bs.length
    · obtain ⟨⟨q, cs⟩, hx⟩ : ∃ x, bs[j]? = some x := ⟨_, List.getElem?_eq_getElem hlt⟩
      obtain ⟨g, u, hA, _, _, _, hc0, hc1, ho1, hsm1, _, _⟩ := BatsOwn.pick (HM.out.below hbel) hx
      obtain ⟨g', u', hA', _, _, _, hd0, hd1, ho1', _, _, _⟩ := BatsOwn.pick (HM'.out.below hbel) hx
      subst hA hA'
      obtain ⟨Au, cu, rfl, hr1⟩ := ho1.row hsm1
      obtain ⟨Au', cu', rfl, hr1'⟩ := ho1'.row hsm1
      have HR1 := Lib.hid hr1
      have HR1' := Lib.hid hr1'
      have H4 := Lib.hid (And.intro (And.intro hc0 hc1) (And.intro hd0 hd1))
      have HH0 : Hid (Below wr.heap.size wr wr.drew) := Below.drew (Below.refl _ _)
      clear hx ho1 ho1' hsm1 hr1 hr1' hbel
      go_wp2_with fail
      go_region_held3 (fun w' => (w'.cell? ⟨g, j * 2, none⟩ = some (.int .i64 q) ∧ w'.cell? ⟨g, j * 2 + 1, none⟩ = some (.slice Au cs.length cu)) ∧ (w'.cell? ⟨g', j * 2, none⟩ = some (.int .i64 q) ∧ w'.cell? ⟨g', j * 2 + 1, none⟩ = some (.slice Au' cs.length cu')) ∧ Hid (Below wr.heap.size wr w')) (first | exact keepB H4.out HH0.out | exact keepB H4.out (HH0.out.trans (hb.mono (Nat.le_refl _)))) (first | (go_at_call 16; refine (laws_eqBatch_calls q Au cu Au' cu' cs _ (HR1.out.below HH0.out) (HR1'.out.below HH0.out)).mono ?_; rintro e w' ⟨rfl, hb⟩))
      have HK := And.right (And.right ‹_ ∧ _ ∧ Hid (Below wr.heap.size wr _)›)
      go_wp2
      go_roundw
      case rel => first | exact ⟨j + 1, by omega, by go_num, HB.out.trans (HK.out.mono HB.out.size)⟩ | (repeat (first | (refine ⟨?relx, rfl⟩; exact ⟨j + 1, by omega, by go_num, HB.out.trans (HK.out.mono HB.out.size)⟩) | (refine ⟨?relx, ?eqs⟩; (case eqs => (and_intros <;> rfl)); exact ⟨j + 1, by omega, by go_num, HB.out.trans (HK.out.mono HB.out.size)⟩) | apply Exists.intro))
      case measure => simp [intOf]; omega
    · obtain rfl : j = bs.length := by omega
      clear hbel
      go_wp2
      go_ret
      exact ⟨rfl, HB.out⟩
end Go.Proofs.Ytekhfplbhcfdmaa
