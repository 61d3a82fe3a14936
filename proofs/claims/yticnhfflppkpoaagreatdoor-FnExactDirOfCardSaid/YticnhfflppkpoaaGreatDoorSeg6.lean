/- Segments: the reference's ReadSegment. -/
import Derived.Test.YticnhfflppkpoaaGreatDoorSeg5
namespace Go.Proofs.YticnhfflppkpoaaGreatDoor
set_option linter.unusedVariables false
set_option linter.unusedSimpArgs false
open Go.RowKit
attribute [local go_sem] bs_size List.length_cons List.length_nil List.length_append

theorem segPl_out {n : Int} {s : ByteArray} (h : ¬ (0 ≤ n ∧ n ≤ 99)) : segPl n s = none := by
  unfold segPl
  cases (unframeB s).1 with
  | nil => rfl
  | cons r rs => dsimp only; rw [hdI_range h r]
theorem segPl_empty {n : Int} {s : ByteArray} (h : (unframeB s).1 = []) : segPl n s = none := by unfold segPl; rw [h]
theorem segPl_nohead {n : Int} {s r : ByteArray} {rs : List ByteArray} (h : (unframeB s).1 = r :: rs) (h2 : hdI n r = none) : segPl n s = none := by unfold segPl; rw [h]; dsimp only; rw [h2]
theorem segPl_yes {n : Int} {s r : ByteArray} {rs : List ByteArray} {f : Nat} (h : (unframeB s).1 = r :: rs) (h2 : hdI n r = some f) : segPl n s = some (f, frameLen r, placedGo none (frameLen r) rs) := by unfold segPl; rw [h]; dsimp only; rw [h2]
theorem own_not_g {v : Value} {b g n c H : Nat} (hat : v.ownBlock = some b ∨ b = H) (hv : v.ownBlock ≠ some g) (hH : g < H) : (Value.slice (some ⟨b, 0, none⟩) n c).ownBlock ≠ some g := by
  simp only [Value.ownBlock, ne_eq, Option.some.injEq]
  rcases hat with h | h
  · intro e; rw [h, e] at hv; exact hv rfl
  · omega
/-- The end is where the loop stands. -/
theorem endOf_step (l : Nat) (acc : List PlD) (b : BatD) (a m : Nat) : endOf l (acc ++ [(b, a, m)]) = a + m := endOf_snoc _ _ _
set_option maxHeartbeats 8000000 in
set_option maxRecDepth 100000 in
theorem spec_ReadSegment_calls (n : Int) (s : ByteArray) (w : World) (hs : s.size ≤ 1125899906842624) : Calls Tryz.prog 27 #[.int .i64 n, .string s] w (SegPost w (segPl n s)) := by
  obtain ⟨i0, hi0, hz, hsz, hby⟩ := info_parts info_bt
  have HB0 : Hid (Below w.heap.size w (w.alloc (.cells #[] 47))) := (Below.refl _ _).alloc (Nat.le_refl _) _
  have HM0 : Hid (BatsOwn (w.alloc (.cells #[] 47)) w.heap.size (.slice (some ⟨w.heap.size, 0, none⟩) 0 0) []) := ListC.made (Nat.le_refl _)
  obtain ⟨_, hlen, hsm⟩ := unframeB_le s
  cases hr : inR n 0 99
  · have HE : Hid (segPl n s = none) := segPl_out (by unfold inR at hr; simp only [Bool.and_eq_false_iff, decide_eq_false_iff_not] at hr; omega)
    have HI := Lib.hid hr
    clear hr
    go_enter Tryz.func27, Tryz.ntmps27
    go_wp2_with fail
    go_at_call 55
    refine (spec_Unframe_calls s _ hs).mono ?_
    rintro e w1 ⟨v, rfl, ho, hb⟩
    go_wp2_with fail
    go_at_call 53
    refine (spec_l01In_calls _ _ _ _).mono ?_
    rw [HI.out]
    rintro e w' ⟨rfl, rfl⟩
    go_wp2
    refine bodyPost_ret (results_tmp4 rfl _ _ _) rfl ?_
    exact segPost_no HE.out (HM0.out.below hb) (HB0.out.trans (hb.mono HB0.out.size))
  · have hnr : 0 ≤ n ∧ n ≤ 99 := by unfold inR at hr; simp only [Bool.and_eq_true, decide_eq_true_eq] at hr; exact hr
    have HI := Lib.hid hr
    obtain ⟨n, rfl⟩ := Int.eq_ofNat_of_zero_le hnr.1
    clear hr
    cases hu : (unframeB s).1 with
    | nil =>
      have HE := Lib.hid (segPl_empty (n := (n : Int)) hu)
      have HU := Lib.hid hu
      clear hu
      go_enter Tryz.func27, Tryz.ntmps27
      go_wp2_with fail
      go_at_call 55
      refine (spec_Unframe_calls s _ hs).mono ?_
      rintro e w1 ⟨v, rfl, ho, hb⟩
      rw [HU.out] at ho
      obtain ⟨A, c, rfl⟩ := ho.form
      rw [List.length_nil]
      go_wp2_with fail
      go_at_call 53
      refine (spec_l01In_calls _ _ _ _).mono ?_
      rw [HI.out]
      rintro e w' ⟨rfl, rfl⟩
      go_wp2
      refine bodyPost_ret (results_tmp4 rfl _ _ _) rfl ?_
      exact segPost_no HE.out (HM0.out.below hb) (HB0.out.trans (hb.mono HB0.out.size))
    | cons r rs =>
      rw [hu] at hlen hsm
      rw [List.length_cons] at hlen
      have hr9 := hsm r (by simp)
      have hl9 := frameLen_le hr9.2
      have HSM := Lib.hid (fun x hx => hsm x (List.mem_cons_of_mem _ hx))
      have HU := Lib.hid hu
      have hsame := hd_same (n := (n : Int)) ⟨by omega, by omega⟩ r
      have hz0 : ((rs.length : Int) + 1 == 0) = false := beq_eq_false_iff_ne.mpr (by omega)
      have hzz : (0 : Int) < (rs.length : Int) + 1 := by omega
      cases hh : hdI (n : Int) r with
      | none =>
        have HE := Lib.hid (segPl_nohead hu hh)
        have HH : Hid (hdS (n : Int) r = none) := by rw [Hid, ← hsame, hh]
        clear hu hh hsame hsm
        go_enter Tryz.func27, Tryz.ntmps27
        go_wp2_with fail
        go_at_call 55
        refine (spec_Unframe_calls s _ hs).mono ?_
        rintro e w1 ⟨v, rfl, ho, hb⟩
        rw [HU.out] at ho
        obtain ⟨ad, c, rfl, hc0⟩ := ownS_at0 ho
        go_wp2_with fail
        go_at_call 53
        refine (spec_l01In_calls _ _ _ _).mono ?_
        rw [HI.out]
        rintro e w' ⟨rfl, rfl⟩
        go_wp2_with fail
        go_at_call 56
        refine (spec_l06Head_calls n r _ (by omega) (by omega)).mono ?_
        rw [HH.out]
        rintro e w2 ⟨rfl, hb2⟩
        simp only [hsRes]
        go_wp2
        refine bodyPost_ret (results_tmp4 rfl _ _ _) rfl ?_
        exact segPost_no HE.out ((HM0.out.below hb).below hb2) (HB0.out.trans ((hb.trans (hb2.mono hb.size)).mono HB0.out.size))
      | some f =>
        have HE := Lib.hid (segPl_yes hu hh)
        have HH : Hid (hdS (n : Int) r = some f) := by rw [Hid, ← hsame, hh]
        have hfr : frameB (ub r) = some (varBytes r.size ++ (sum4 (ub r) ++ ub r)) := by rw [frameB_yes (by rw [ub_length]; exact hr9), ub_length]
        obtain ⟨L, hL1, hL2⟩ : ∃ L, frameB (ub r) = some L ∧ frameLen r = L.length := ⟨_, hfr, by unfold frameLen; rw [hfr]⟩
        have HL1 := Lib.hid hL1
        have hLl : L.length ≤ 9020 := by rw [← hL2]; exact hl9
        rw [hL2] at HE
        have HP : Hid (PlAt (placedGo none L.length rs) rs 0 [] L.length) := ⟨rfl, rfl, by omega⟩
        clear hu hh hsame hsm hfr hL1 hL2 hl9
        generalize placedGo none L.length rs = W at HP HE
        go_enter Tryz.func27, Tryz.ntmps27
        go_wp2_with fail
        go_at_call 55
        refine (spec_Unframe_calls s _ hs).mono ?_
        rintro e w1 ⟨v, rfl, ho, hb⟩
        rw [HU.out] at ho
        rcases ownS_at ho with ⟨_, h0⟩ | ⟨g, cap, rfl, hgB, hgl, hcap, hcm, hcells⟩
        · cases h0
        have hc0 := hcells 0 r rfl
        have HC := Lib.hid (fun j x (hx : rs[j]? = some x) => hcells (j + 1) x (by simpa using hx))
        have HB1 := Lib.hid (HB0.out.trans (hb.mono HB0.out.size))
        have HM1 := Lib.hid (HM0.out.below hb)
        clear hb ho hcells
        rw [List.length_cons]
        go_wp2_with fail
        go_at_call 53
        refine (spec_l01In_calls _ _ _ _).mono ?_
        rw [HI.out]
        rintro e w' ⟨rfl, rfl⟩
        have HC0 := Lib.hid hc0
        go_wp2_with fail
        go_at_call 56
        refine (spec_l06Head_calls n r _ (by omega) (by omega)).mono ?_
        rw [HH.out]
        rintro e w2 ⟨rfl, hb2⟩
        simp only [hsRes]
        have hc0' := (hb2.cell (World.block_lt_of_cell? _ _ HC0.out)).trans HC0.out
        have HB2 := Lib.hid (HB1.out.trans (hb2.mono HB1.out.size))
        have HM2 := Lib.hid (HM1.out.below hb2)
        have HX2 := Lib.hid hb2
        clear hb2 hc0
        go_wp2_with fail
        go_at_call 57
        refine (spec_Frame_calls r _ (by omega)).mono ?_
        rw [HL1.out]
        rintro e w3 ⟨rfl, hb3⟩
        simp only [varRes]
        have HB3 := Lib.hid (HB2.out.trans (hb3.mono HB2.out.size))
        have HM3 := Lib.hid (HM2.out.below hb3)
        have HX3 := Lib.hid (HX2.out.trans (hb3.mono HX2.out.size))
        clear hb3 hc0'
        have HCX : Hid (∀ j x, rs[j]? = some x → w3.cell? ⟨g, j + 1, none⟩ = some (.string x)) := fun j x hx => (HX3.out.cell hgl).trans (HC.out j x hx)
        have hg3 : g < w3.heap.size := Nat.lt_of_lt_of_le hgl HX3.out.size
        have hgw : w.heap.size < g := by simp at hgB; omega
        go_wp2
        go_loopw [8, 15, 16] (fun ov ev iv wr => ∃ (j : Nat) (acc : List PlD) (a : Nat) (v : Value), j ≤ rs.length ∧ iv = .int .i64 ((1 + j : Nat) : Int) ∧ ev = .int .i64 (a : Int) ∧ v = ov ∧ PlAt W rs j acc a ∧ endOf L.length acc = a ∧ BatsOwn wr w.heap.size v (acc.map Prod.fst) ∧ Below w.heap.size w wr ∧ wr.heap[g]? = w3.heap[g]? ∧ v.ownBlock ≠ some g ∧ w3.heap.size ≤ wr.heap.size) (fun _ _ iv _ => rs.length + 1 - (intOf iv).toNat)
        case atStart => exact ⟨0, [], L.length, _, Nat.zero_le _, rfl, rfl, rfl, HP.out, rfl, HM3.out, HB3.out, rfl, by simp [Value.ownBlock]; omega, Nat.le_refl _⟩
        case round =>
          obtain ⟨j, acc, a, v, hj, rfl, rfl, rfl, hat, hen, hown, hbel, hgg, hvg, hsz3⟩ := hrel
          have HAT := Lib.hid hat
          have HEN := Lib.hid hen
          have HO := Lib.hid hown
          have HB := Lib.hid hbel
          have HG := Lib.hid hgg
          have HVG0 := Lib.hid hvg
          have HGL : Hid (w3.heap.size ≤ wr.heap.size ∧ g < w3.heap.size) := ⟨hsz3, hg3⟩
          have ha : a ≤ 200000000 := by have := hat.2.2; omega
          have HAL := Lib.hid hat.2.1
          obtain ⟨A, c, rfl⟩ := hown.form
          have HVG := HVG0
          rw [List.length_map, hat.2.1] at HO HVG ⊢
          clear hat hown hbel hgg hvg hen hsz3 HVG0
          by_cases hlt : j < rs.length
          · obtain ⟨x, hx⟩ : ∃ x, rs[j]? = some x := ⟨_, List.getElem?_eq_getElem hlt⟩
            have hxs := HSM.out x (List.mem_of_getElem? hx)
            have hcx : wr.cell? ⟨g, 1 + j, none⟩ = some (.string x) := (World.cell?_of_block (a := ⟨g, 1 + j, none⟩) HG.out).trans (by rw [Nat.add_comm]; exact HCX.out j x hx)
            have HX := Lib.hid hx
            have hli : 1 + (j : Int) < (rs.length : Int) + 1 := by omega
            have hti : (1 + (j : Int)).toNat = 1 + j := by omega
            clear hx
            cases hb : readBatS x with
            | none =>
              have HWE := Lib.hid (plAt_stop HAT.out (by rw [drop_get HX.out]; exact placedGo_none hb))
              have HRB := Lib.hid hb
              clear hb
              go_wp2_with fail
              go_at_call 58
              refine (spec_ReadBatch_calls x _ (by omega)).mono ?_
              rw [HRB.out]
              rintro e w4 ⟨hb4, rfl⟩
              have HO4 := Lib.hid (HO.out.below hb4)
              have HB4 := Lib.hid (HB.out.trans (hb4.mono HB.out.size))
              clear hb4
              go_wp2
              go_quiet (fail)
              go_wp2
              refine bodyPost_ret (results_tmp4 rfl _ _ _) rfl ?_
              exact segPost_of HE.out HWE.out HEN.out ((HO4.out.alloc _).below (blwN (Below.refl _ _) _)) (blwN (HB4.out.alloc HB4.out.size _) _)
            | some b =>
              obtain ⟨q, cs⟩ := b
              have HRB := Lib.hid hb
              obtain ⟨M, hM1, hM2⟩ : ∃ M, frameB (ub x) = some M ∧ frameLen x = M.length := ⟨_, frameB_yes (by rw [ub_length]; exact hxs), by unfold frameLen; rw [frameB_yes (by rw [ub_length]; exact hxs)]⟩
              have HF1 := Lib.hid hM1
              have HF2 := Lib.hid hM2
              have HBS := Lib.hid (batD_small hb)
              clear hM1 hM2
              go_wp2_with fail
              go_at_call 58
              refine (spec_ReadBatch_calls x _ (by omega)).mono ?_
              rw [HRB.out]
              rintro e w4 ⟨hb4, vb, rfl, hvb⟩
              obtain ⟨Ab, cb, rfl, hrb⟩ := hvb.row HBS.out.1
              have HO4 := Lib.hid (HO.out.below hb4)
              have HV4 := Lib.hid hvb
              have HW4 := Lib.hid hb4
              clear hb4 hvb hrb
              have HW5 : Hid (Below w4.heap.size w4 (w4.alloc (.cells #[.int .i64 q, .slice Ab cs.length cb] 47))) := (Below.refl _ _).alloc (Nat.le_refl _) _
              have HO5 := Lib.hid (HO4.out.below HW5.out)
              generalize hW5 : w4.alloc (.cells #[.int .i64 q, .slice Ab cs.length cb] 47) = WB at HW5 HO5
              have y0 : WB.cell? ⟨w4.heap.size, 0, none⟩ = some (.int .i64 q) := by rw [← hW5]; exact blk_cell (blk_new w4 _) 0
              have y1 : WB.cell? ⟨w4.heap.size, 1, none⟩ = some (.slice Ab cs.length cb) := by rw [← hW5]; exact blk_cell (blk_new w4 _) 1
              by_cases hj0 : j = 0
              · have hacc : acc = [] := List.eq_nil_of_length_eq_zero (by rw [HAL.out, hj0])
                have HST := Lib.hid (plAt_step HAT.out HX.out hxs.2 (by rw [hacc]; exact placedGo_first hb))
                have g0 : decide (0 < j) = false := decide_eq_false (by omega)
                clear hb hj0 hacc
                go_wp2
                go_quiet (fail)
                have HX5 : Hid (Below w4.heap.size w4 (WB.drewN nq)) := blwN HW5.out _
                have z0 : (WB.drewN nq).cell? ⟨w4.heap.size, 0, none⟩ = some (.int .i64 q) := y0
                have z1 : (WB.drewN nq).cell? ⟨w4.heap.size, 1, none⟩ = some (.slice Ab cs.length cb) := y1
                generalize WB.drewN nq = W5 at HX5 z0 z1 ⊢
                clear y0 y1
                have HX6 : Hid (Below wr.heap.size wr (W5.alloc (.cells (batVals (.slice Ab cs.length cb, (q, cs))).toArray 47))) := by
                  have e1 := HW4.out.trans (HX5.out.mono HW4.out.size)
                  exact e1.alloc e1.size _
                have HU6 : Hid (ChOwn (W5.alloc (.cells (batVals (.slice Ab cs.length cb, (q, cs))).toArray 47)) w.heap.size (.slice Ab cs.length cb) cs) := (HV4.out.mono HB.out.size).below (HX5.out.alloc HX5.out.size _)
                obtain ⟨fl, hfl, hpush⟩ := ListC.push HO.out (x := ((q, cs) : BatD)) HX6.out HU6.out HBS.out.1 (fun k hk => (HV4.out.lt k hk).1)
                rw [List.length_map, HAL.out] at hfl hpush
                have HFL := Lib.hid hfl
                have HPU := Lib.hid hpush
                have HBASE : Hid (w.heap.size ≤ (W5.alloc (.cells (batVals (.slice Ab cs.length cb, (q, cs))).toArray 47)).heap.size) := Nat.le_trans HB.out.size HX6.out.size
                have HNEWS : Hid (∀ j u, (batVals (.slice Ab cs.length cb, (q, cs)))[j]? = some u → (W5.alloc (.cells (batVals (.slice Ab cs.length cb, (q, cs))).toArray 47)).cell? ((⟨W5.heap.size, 0, none⟩ : Addr).add j) = some u) := World.news_of_block (heap_alloc_new W5 _)
                clear hfl hpush
                go_wp2_with (at_builtin; refine wpList_append_lies _ rfl _ _ _ rfl w.heap.size 47 i0 (.agg #[.int .i64 0, .slice none 0 0]) 2 32 Tryz.underlying43 hi0 hz hsz hby rfl (by omega) _ j fl rfl HFL.out ⟨W5.heap.size, 0, none⟩ 1 1 (batVals (.slice Ab cs.length cb, (q, cs))) rfl rfl HNEWS.out (by simp [Value.oneCell', batVals]) (by omega) (by unfold maxLen; omega) (by omega) HBASE.out _ rfl ?_; intro b7 cap7 w7 hown7 hgrow7 hat7 hlt7; have HN7 := Lib.hid (HPU.out b7 cap7 w7 hown7 hgrow7 hat7); have HB7 : Hid (Below w.heap.size w w7) := gr_below (HB.out.trans (HX6.out.mono HB.out.size)) hgrow7 HBASE.out (fun k e => (HO.out.lt k e).1); have HG7 : Hid (w7.heap[g]? = w3.heap[g]?) := (hgrow7.block g (Nat.lt_of_lt_of_le (by have := HGL.out; omega) HX6.out.size) (fun e => HVG.out e.symm)).trans ((HX6.out.block g (by have := HGL.out; omega)).trans HG.out); have HVG7 : Hid ((Value.slice (some ⟨b7, 0, none⟩) (j + 1) cap7).ownBlock ≠ some g) := own_not_g hat7 HVG.out (Nat.lt_of_lt_of_le (by have := HGL.out; omega) HX6.out.size); have HS7 : Hid (wr.heap.size ≤ w7.heap.size) := Nat.le_trans HX6.out.size hgrow7.size; have g7 : w7.cell? ⟨g, 1 + j, none⟩ = some (.string x) := (World.cell?_of_block (a := ⟨g, 1 + j, none⟩) HG7.out).trans (by rw [Nat.add_comm]; exact HCX.out j x HX.out); clear hown7 hgrow7 hat7 hlt7)
                go_wp2_with fail
                go_at_call 57
                refine (spec_Frame_calls x _ (by omega)).mono ?_
                rw [HF1.out]
                rintro e w8 ⟨rfl, hb8⟩
                simp only [varRes]
                have HN8 := Lib.hid (HN7.out.below hb8)
                have HB8 := Lib.hid (HB7.out.trans (hb8.mono HB7.out.size))
                have HG8 : Hid (w8.heap[g]? = w3.heap[g]?) := (hb8.block g (by have := HS7.out; have := HGL.out; omega)).trans HG7.out
                have hs8 : Hid (wr.heap.size ≤ w8.heap.size) := Nat.le_trans HS7.out hb8.size
                have hMl : M.length ≤ 9020 := by rw [← HF2.out]; exact frameLen_le hxs.2
                clear hb8 g7
                go_wp2
                go_roundw
                case rel => exact ⟨j + 1, acc ++ [((q, cs), a, M.length)], a + M.length, _, by omega, by go_num, by go_num, rfl, by have h := HST.out; rw [HF2.out] at h; exact h, endOf_step _ _ _ _ _, by rw [List.map_append]; exact HN8.out, HB8.out, HG8.out, HVG7.out, by have := HGL.out; have := hs8.out; omega⟩
                case measure => simp [intOf]; omega
              · obtain ⟨i, hi⟩ : ∃ i, j = i + 1 := ⟨j - 1, by omega⟩
                have hil : i < acc.length := by rw [HAL.out]; omega
                obtain ⟨p, hp⟩ : ∃ p, acc[i]? = some p := ⟨_, List.getElem?_eq_getElem hil⟩
                have hls : lastSeq acc = some p.1.1 := by
                  unfold lastSeq
                  rw [List.getLast?_eq_getElem?, HAL.out, hi, Nat.add_sub_cancel, hp]
                  rfl
                obtain ⟨b0, u0, hA, hcl, _, _⟩ := HO5.out.at_ (fun _ => rfl) (j := i) (x := p.1) (by rw [List.getElem?_map, hp]; rfl)
                subst hA
                have hlc := hcl 0 (by omega)
                rw [show (batVals (u0, p.1))[0]? = some (.int .i64 p.1.1) from rfl, Nat.add_zero] at hlc
                have ht : ((j : Int) - 1).toNat = i := by omega
                have hw : IntKind.i64.wrap ((j : Int) - 1) = (j : Int) - 1 := by rw [IntKind.wrap_i64]; omega
                have hb0 : (0 : Int) ≤ (j : Int) - 1 := by omega
                have hbx : (j : Int) - 1 < (j : Int) := by omega
                have g0 : decide (0 < j) = true := decide_eq_true (by omega)
                by_cases hq : q ≤ p.1.1
                · have HWE := Lib.hid (plAt_stop HAT.out (by rw [drop_get HX.out, hls]; exact placedGo_low hb hq))
                  have hqd : decide (q ≤ p.1.1) = true := decide_eq_true hq
                  clear hb hi hp hls hcl hil hj0 hq
                  go_wp2
                  go_quiet (fail)
                  go_wp2
                  refine bodyPost_ret (results_tmp4 rfl _ _ _) rfl ?_
                  exact segPost_of HE.out HWE.out HEN.out (HO5.out.below (blwN (Below.refl _ _) _)) (HB.out.trans ((blwN (HW4.out.trans (HW5.out.mono HW4.out.size)) _).mono HB.out.size))
                · have HST := Lib.hid (plAt_step HAT.out HX.out hxs.2 (by rw [hls]; exact placedGo_next hb hq))
                  have hqd : decide (q ≤ p.1.1) = false := decide_eq_false hq
                  clear hb hi hp hls hcl hil hj0 hq
                  go_wp2
                  go_quiet (fail)
                  have HX5 : Hid (Below w4.heap.size w4 (WB.drewN nq)) := blwN HW5.out _
                  have z0 : (WB.drewN nq).cell? ⟨w4.heap.size, 0, none⟩ = some (.int .i64 q) := y0
                  have z1 : (WB.drewN nq).cell? ⟨w4.heap.size, 1, none⟩ = some (.slice Ab cs.length cb) := y1
                  generalize WB.drewN nq = W5 at HX5 z0 z1 ⊢
                  clear y0 y1
                  have HX6 : Hid (Below wr.heap.size wr (W5.alloc (.cells (batVals (.slice Ab cs.length cb, (q, cs))).toArray 47))) := by
                    have e1 := HW4.out.trans (HX5.out.mono HW4.out.size)
                    exact e1.alloc e1.size _
                  have HU6 : Hid (ChOwn (W5.alloc (.cells (batVals (.slice Ab cs.length cb, (q, cs))).toArray 47)) w.heap.size (.slice Ab cs.length cb) cs) := (HV4.out.mono HB.out.size).below (HX5.out.alloc HX5.out.size _)
                  obtain ⟨fl, hfl, hpush⟩ := ListC.push HO.out (x := ((q, cs) : BatD)) HX6.out HU6.out HBS.out.1 (fun k hk => (HV4.out.lt k hk).1)
                  rw [List.length_map, HAL.out] at hfl hpush
                  have HFL := Lib.hid hfl
                  have HPU := Lib.hid hpush
                  have HBASE : Hid (w.heap.size ≤ (W5.alloc (.cells (batVals (.slice Ab cs.length cb, (q, cs))).toArray 47)).heap.size) := Nat.le_trans HB.out.size HX6.out.size
                  have HNEWS : Hid (∀ j u, (batVals (.slice Ab cs.length cb, (q, cs)))[j]? = some u → (W5.alloc (.cells (batVals (.slice Ab cs.length cb, (q, cs))).toArray 47)).cell? ((⟨W5.heap.size, 0, none⟩ : Addr).add j) = some u) := World.news_of_block (heap_alloc_new W5 _)
                  clear hfl hpush
                  go_wp2_with (at_builtin; refine wpList_append_lies _ rfl _ _ _ rfl w.heap.size 47 i0 (.agg #[.int .i64 0, .slice none 0 0]) 2 32 Tryz.underlying43 hi0 hz hsz hby rfl (by omega) _ j fl rfl HFL.out ⟨W5.heap.size, 0, none⟩ 1 1 (batVals (.slice Ab cs.length cb, (q, cs))) rfl rfl HNEWS.out (by simp [Value.oneCell', batVals]) (by omega) (by unfold maxLen; omega) (by omega) HBASE.out _ rfl ?_; intro b7 cap7 w7 hown7 hgrow7 hat7 hlt7; have HN7 := Lib.hid (HPU.out b7 cap7 w7 hown7 hgrow7 hat7); have HB7 : Hid (Below w.heap.size w w7) := gr_below (HB.out.trans (HX6.out.mono HB.out.size)) hgrow7 HBASE.out (fun k e => (HO.out.lt k e).1); have HG7 : Hid (w7.heap[g]? = w3.heap[g]?) := (hgrow7.block g (Nat.lt_of_lt_of_le (by have := HGL.out; omega) HX6.out.size) (fun e => HVG.out e.symm)).trans ((HX6.out.block g (by have := HGL.out; omega)).trans HG.out); have HVG7 : Hid ((Value.slice (some ⟨b7, 0, none⟩) (j + 1) cap7).ownBlock ≠ some g) := own_not_g hat7 HVG.out (Nat.lt_of_lt_of_le (by have := HGL.out; omega) HX6.out.size); have HS7 : Hid (wr.heap.size ≤ w7.heap.size) := Nat.le_trans HX6.out.size hgrow7.size; have g7 : w7.cell? ⟨g, 1 + j, none⟩ = some (.string x) := (World.cell?_of_block (a := ⟨g, 1 + j, none⟩) HG7.out).trans (by rw [Nat.add_comm]; exact HCX.out j x HX.out); clear hown7 hgrow7 hat7 hlt7)
                  go_wp2_with fail
                  go_at_call 57
                  refine (spec_Frame_calls x _ (by omega)).mono ?_
                  rw [HF1.out]
                  rintro e w8 ⟨rfl, hb8⟩
                  simp only [varRes]
                  have HN8 := Lib.hid (HN7.out.below hb8)
                  have HB8 := Lib.hid (HB7.out.trans (hb8.mono HB7.out.size))
                  have HG8 : Hid (w8.heap[g]? = w3.heap[g]?) := (hb8.block g (by have := HS7.out; have := HGL.out; omega)).trans HG7.out
                  have hs8 : Hid (wr.heap.size ≤ w8.heap.size) := Nat.le_trans HS7.out hb8.size
                  have hMl : M.length ≤ 9020 := by rw [← HF2.out]; exact frameLen_le hxs.2
                  clear hb8 g7
                  go_wp2
                  go_roundw
                  case rel => exact ⟨j + 1, acc ++ [((q, cs), a, M.length)], a + M.length, _, by omega, by go_num, by go_num, rfl, by have h := HST.out; rw [HF2.out] at h; exact h, endOf_step _ _ _ _ _, by rw [List.map_append]; exact HN8.out, HB8.out, HG8.out, HVG7.out, by have := HGL.out; have := hs8.out; omega⟩
                  case measure => simp [intOf]; omega
          · obtain rfl : j = rs.length := by omega
            have HWE := Lib.hid (plAt_end HAT.out (Nat.le_refl _))
            have hli : ¬ 1 + (rs.length : Int) < (rs.length : Int) + 1 := by omega
            go_wp2
            refine bodyPost_ret (results_tmp4 rfl _ _ _) rfl ?_
            exact segPost_of HE.out HWE.out HEN.out HO.out HB.out
end Go.Proofs.YticnhfflppkpoaaGreatDoor
