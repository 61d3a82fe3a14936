/- The reference's ReadBatch: what it reads (readBatS), and in what memory. By wip/tools/genbreads.py. -/
import Derived.Test.YtaacpdejpcbbbaaGreatDoorBReadI
import Derived.Test.YtaacpdejpcbbbaaGreatDoorBat5
namespace Go.Proofs.YtaacpdejpcbbbaaGreatDoor
set_option linter.unusedVariables false
set_option linter.unusedSimpArgs false
open Go.RowKit
attribute [local go_sem] bs_size List.length_cons List.length_nil List.length_append

theorem bcst_start (s : ByteArray) (w : World) :
    GSt 145 62 121 3 (w.heap.size + 1) (w.heap.size + 1 + 1) (w.heap.size + 1) [] s [.int .i64 0] 0 [] (.slice none 0 0) 0 false (w.alloc zBat) (((w.alloc zBat).alloc (.cells #[.string s, .int .i64 0, .bool false] 145)).alloc zBat) := by
  refine ⟨((Below.refl _ _).alloc (by simp) _).alloc (by simp) _, ?_, ?_, World.ownsRow_nil _ _ _ _, fun p hp => (by simp at hp), by simp [Value.ownBlock], by omega⟩
  · have := blk_new ((w.alloc zBat).alloc (.cells #[.string s, .int .i64 0, .bool false] 145)) zBat
    simpa using this
  · refine gr_old ?_ _
    have := blk_new (w.alloc zBat) (.cells #[.string s, .int .i64 0, .bool false] 145)
    simpa using this
theorem cShort_small (s : ByteArray) (a : Nat) (b : Bool) : (cShort s a b).1.length ≤ s.size := by
  unfold cShort cTake
  split
  · show ((tail_ s _).take _).length ≤ _
    rw [List.length_take, tail_len]
    omega
  · simp
theorem cbX_small (s : ByteArray) (hs : s.size ≤ 1099511627776) : ∀ x ∈ (cbX s).1, x.1.size ≤ 9223372036854775807 ∧ x.2.1.size ≤ 9223372036854775807 := items_all (fun a => by
  have h1 := cShort_small s a false
  have h2 := cShort_small s (csG s a false).2.1 (csG s a false).2.2
  show (bs (csK s a false).1).size ≤ _ ∧ (bs (csV s a false).1).size ≤ _
  rw [bs_size, bs_size]
  unfold csK csV
  omega) _ _ _
theorem readBatS_no {s : ByteArray} (h : ¬ ((cbX s).2.2 = false ∧ batText (cbD s) = some (ub s))) : readBatS s = none := if_neg h
theorem readBatS_yes {s : ByteArray} (h2 : (cbX s).2.2 = false) (h3 : batText (cbD s) = some (ub s)) : readBatS s = some (((cbQ s).1 : Int), (cbX s).1) := if_pos ⟨h2, h3⟩
theorem chS_le (s : ByteArray) {a : Nat} (h : a ≤ s.size) : (chS s a).2.1 ≤ s.size := (cShort_le s _ (cTake_le s _ 1 (cShort_le s false h).1).1).1
theorem eq_one (l : List UInt8) : ((bs l).toList == [1]) = decide (l = [1]) := by
  have e : (bs l).toList = l := by rw [ByteArray.toList_eq]; exact ub_bs l
  rw [e]
  by_cases h : l = [1]
  · simp [h]
  · rw [decide_eq_false h]; exact beq_eq_false_iff_ne.mpr h
set_option maxHeartbeats 8000000 in
set_option maxRecDepth 100000 in
theorem spec_ReadBatch_calls (s : ByteArray) (w : World) (hs : s.size ≤ 1099511627776) : Calls Tryz.prog 79 #[.string s] w (BatPost w (readBatS s)) := by
  obtain ⟨i0, hi, hz, hsz, hby⟩ := info_parts info_ch
  have HC0 := Lib.hid (bcst_start s w)
  have a1 : (cbL s).2.1 ≤ s.size := (cTake_le s _ _ (Nat.zero_le _)).1
  have a2 : (cbQ s).2.1 ≤ s.size := (rNum_le s _ _ a1).2.1
  have a3 : (cbN s).2.1 ≤ s.size := (rNum_le s _ _ a2).2.1
  go_enter Tryz.func79, Tryz.ntmps79
  go_wp2_with fail
  go_at_call 115
  refine (spec_Take_calls _ s 0 false 1 _ HC0.out.rd (Nat.zero_le _) (by omega) (by omega)).mono ?_
  rw [show cTake s 0 false 1 = cbL s from rfl]
  rintro e w1 ⟨rfl, hr, hg⟩
  have HC1 := Lib.hid (HC0.out.read hr hg)
  clear hr hg
  go_wp2_with fail
  go_at_call 116
  refine (spec_num_calls _ s _ _ _ HC1.out.rd a1 (by omega)).mono ?_
  rw [show rNum s (cbL s).2.1 (cbL s).2.2 = cbQ s from rfl]
  rintro e w2 ⟨rfl, hr, hg⟩
  have HC2 := Lib.hid (HC1.out.read hr hg)
  have e0 : w2.cell? ⟨w.heap.size + 1 + 1, 0, none⟩ = some (.int .i64 0) := HC2.out.cv 0
  have f0 := gr_frozen HC2.out.hv 0
  have HC3 := Lib.hid (HC2.out.setPre 0 (.int .i64 ((cbQ s).1 : Int)) (by simp))
  clear hr hg
  go_wp2_with fail
  go_at_call 116
  refine (spec_num_calls _ s _ _ _ HC3.out.rd a2 (by omega)).mono ?_
  rw [show rNum s (cbQ s).2.1 (cbQ s).2.2 = cbN s from rfl]
  rintro e w3 ⟨rfl, hr, hg⟩
  have HC4 := Lib.hid (HC3.out.read hr hg)
  clear hr hg
  have HW := Lib.hid (Reads.start (chS s) (min (cbN s).1 100) (cbN s).2.1 (cbN s).2.2)
  have hW : itemsBy (chS s) (min (cbN s).1 100) (cbN s).2.1 (cbN s).2.2 = cbX s := rfl
  rw [hW] at HW
  clear hW
  generalize (cbN s).1 = n at HW ⊢
  go_wp2
  go_loopw [7] (fun iv wr => ∃ (i : Nat) (acc : List ChD) (v : Value) (a : Nat) (bad : Bool), i ≤ min n 100 ∧ iv = .int .i64 (i : Int) ∧ acc.length = i ∧ a ≤ s.size ∧ Reads (chS s) (min n 100) (cbX s) i acc a bad ∧ GSt 145 62 121 3 (w.heap.size + 1) (w.heap.size + 1 + 1) (w.heap.size + 1) [] s [.int .i64 ((cbQ s).1 : Int)] acc.length (chFlat acc) v a bad (w.alloc zBat) wr) (fun iv _ => min n 100 - (intOf iv).toNat)
  case atStart => exact ⟨0, [], .slice none 0 0, (cbN s).2.1, (cbN s).2.2, Nat.zero_le _, rfl, rfl, a3, HW.out, HC4.out⟩
  case round =>
    obtain ⟨i, acc, v, a, bad, hi', rfl, hacc, ha, hrd, hst⟩ := hrel
    have HQ := Lib.hid hrd
    have HC5 := Lib.hid hst
    have c2 := hst.rd.c2
    have hal : acc.length ≤ 100 := by omega
    have HAC := Lib.hid hacc
    clear hrd hst hacc
    by_cases hlt : i < min n 100
    · cases bad
      · have hlt1 : i < n := by omega
        have hlt2 : i < 100 := by omega
        have b1 : (csK s a false).2.1 ≤ s.size := (cShort_le s _ ha).1
        have b2 : (csG s a false).2.1 ≤ s.size := (cTake_le s _ _ b1).1
        go_wp2_with fail
        go_at_call 117
        refine (spec_Short_calls _ s _ _ _ HC5.out.rd ha (by omega)).mono ?_
        rw [show cShort s a false = csK s a false from rfl]
        rintro e w4 ⟨rfl, hr, hg⟩
        have H1 := Lib.hid ((HC5.out.read hr hg).push (.cells #[.string (bs (csK s a false).1), .string ⟨#[]⟩, .bool false] 121))
        clear hr hg c2
        go_wp2_with fail
        go_at_call 115
        refine (spec_Take_calls _ s _ _ 1 _ H1.out.rd b1 (by omega) (by omega)).mono ?_
        rw [show cTake s (csK s a false).2.1 (csK s a false).2.2 1 = csG s a false from rfl]
        rintro e w5 ⟨rfl, hr, hg⟩
        have H2 := Lib.hid (H1.out.read hr hg)
        have hq := eq_one (csG s a false).1
        have d2 : w5.cell? ⟨w4.heap.size, 2, none⟩ = some (.bool false) := blk_cell (H2.out.at_ (List.mem_cons_self ..)) 2
        have f2 := gr_frozen (H2.out.at_ (List.mem_cons_self ..)) 2
        have H3 := Lib.hid (H2.out.setTop (fun p hp => by simp at hp) 2 (.bool (decide ((csG s a false).1 = [1]))))
        clear hr hg
        go_wp2_with fail
        go_at_call 117
        refine (spec_Short_calls _ s _ _ _ H3.out.rd b2 (by omega)).mono ?_
        rw [show cShort s (csG s a false).2.1 (csG s a false).2.2 = csV s a false from rfl]
        rintro e w6 ⟨rfl, hr, hg⟩
        have H4 := Lib.hid (H3.out.read hr hg)
        have d1 : w6.cell? ⟨w4.heap.size, 1, none⟩ = some (.string ⟨#[]⟩) := blk_cell (H4.out.at_ (List.mem_cons_self ..)) 1
        have f1 := gr_frozen (H4.out.at_ (List.mem_cons_self ..)) 1
        have H5 := Lib.hid (H4.out.setTop (fun p hp => by simp at hp) 1 (.string (bs (csV s a false).1)))
        clear hr hg
        generalize hw7 : w6.setCell ⟨w4.heap.size, 1, none⟩ (.string (bs (csV s a false).1)) = w7 at H5
        have x0 : w7.cell? ⟨w4.heap.size, 0, none⟩ = some (.string (bs (csK s a false).1)) := blk_cell (H5.out.at_ (List.mem_cons_self ..)) 0
        have x1 : w7.cell? ⟨w4.heap.size, 1, none⟩ = some (.string (bs (csV s a false).1)) := blk_cell (H5.out.at_ (List.mem_cons_self ..)) 1
        have x2 : w7.cell? ⟨w4.heap.size, 2, none⟩ = some (.bool (decide ((csG s a false).1 = [1]))) := blk_cell (H5.out.at_ (List.mem_cons_self ..)) 2
        have cv : w7.cell? ⟨w.heap.size + 1 + 1, 1, none⟩ = some v := H5.out.cv 1
        have H6 := Lib.hid (H5.out.pop.alloc (.cells (chVals (chS s a).1).toArray 121))
        have HOWN := Lib.hid H6.out.own
        have HBASE := Lib.hid H6.out.base
        have HNEWS : Hid (∀ j u, (chVals (chS s a).1)[j]? = some u → (w7.alloc (.cells (chVals (chS s a).1).toArray 121)).cell? ((⟨w7.heap.size, 0, none⟩ : Addr).add j) = some u) := World.news_of_block (heap_alloc_new w7 _)
        go_wp2_with (at_builtin; refine wpList_append_lies _ rfl _ _ _ rfl (w.heap.size + 1) 121 i0 (.agg #[.string ⟨#[]⟩, .string ⟨#[]⟩, .bool false]) 3 40 Tryz.underlying60 hi hz hsz hby rfl (by omega) v acc.length (chFlat acc) rfl HOWN.out ⟨w7.heap.size, 0, none⟩ 1 1 (chVals (chS s a).1) rfl rfl HNEWS.out (by simp [Value.oneCell', chVals]) (by omega) (by unfold maxLen; omega) (by omega) HBASE.out _ rfl ?_; intro g cap w8 hown hgrow hat hlt; have HA := Lib.hid (H6.out.app hown hgrow hat); clear hown hgrow hat hlt; have c6 : w8.cell? ⟨w.heap.size + 1 + 1, 1, none⟩ = some v := HA.out.cv 1; have f6 := gr_frozen HA.out.hv 1)
        all_goals
          have HF := HA.out.stored 1 rfl
          rw [← chFlat_snoc, show acc.length + 1 = (acc ++ [(chS s a).1]).length by simp] at HF
          have HF2 := Lib.hid HF
          clear HF
          go_roundw
          case rel => first | exact ⟨i + 1, acc ++ [(chS s a).1], _, (chS s a).2.1, (chS s a).2.2, by omega, by go_num, by rw [List.length_append, HAC.out]; rfl, chS_le s ha, HQ.out.step hlt, by have h := HF2.out; rw [show (acc ++ [(chS s a).1]).length = acc.length + 1 by simp] at h ⊢; exact h⟩ | (repeat (first | (refine ⟨?relx, rfl⟩; exact ⟨i + 1, acc ++ [(chS s a).1], _, (chS s a).2.1, (chS s a).2.2, by omega, by go_num, by rw [List.length_append, HAC.out]; rfl, chS_le s ha, HQ.out.step hlt, by have h := HF2.out; rw [show (acc ++ [(chS s a).1]).length = acc.length + 1 by simp] at h ⊢; exact h⟩) | (refine ⟨?relx, ?eqs⟩; (case eqs => (and_intros <;> rfl)); exact ⟨i + 1, acc ++ [(chS s a).1], _, (chS s a).2.1, (chS s a).2.2, by omega, by go_num, by rw [List.length_append, HAC.out]; rfl, chS_le s ha, HQ.out.step hlt, by have h := HF2.out; rw [show (acc ++ [(chS s a).1]).length = acc.length + 1 by simp] at h ⊢; exact h⟩) | apply Exists.intro))
          case measure => simp [intOf]; omega
      · have hlt1 : i < n := by omega
        have hlt2 : i < 100 := by omega
        have hW := HQ.out.stop (by simp)
        obtain ⟨A, c, rfl, hrow⟩ := ChOwn.row HC5.out.own (by have := cbX_small s hs; rw [hW] at this; exact this)
        have HRW := Lib.hid hrow
        have HWX := Lib.hid hW
        have x0 : wr.cell? ⟨w.heap.size + 1 + 1, 0, none⟩ = some (.int .i64 ((cbQ s).1 : Int)) := HC5.out.cv 0
        have x1 : wr.cell? ⟨w.heap.size + 1 + 1, 1, none⟩ = some (.slice A acc.length c) := HC5.out.cv 1
        clear hrow
        have HE := Lib.hid (readBatS_no (s := s) (fun hh => by rw [HWX.out] at hh; cases hh.1))
        clear hW
        cases ho : batText (((cbQ s).1 : Int), acc)
        all_goals
          have HO := Lib.hid ho
          clear ho
          go_wp2_with fail
          go_at_call 80
          refine (spec_BatchText_calls _ A c acc _ HRW.out).mono ?_
          rw [HO.out]
          rintro e w9 ⟨rfl, hb⟩
          have HC9 := Lib.hid (HC5.out.below hb)
          have cb := HC9.out.rd.c2
          have y0 := gr_frozen (bst_res HC9.out) 0
          have y1 := gr_frozen (bst_res HC9.out) 1
          have z0 : w9.cell? ⟨w.heap.size, 0, none⟩ = some (.int .i64 0) := blk_cell (bst_res HC9.out) 0
          have z1 : w9.cell? ⟨w.heap.size, 1, none⟩ = some (.slice none 0 0) := blk_cell (bst_res HC9.out) 1
          have q0 : w9.cell? ⟨w.heap.size + 1 + 1, 0, none⟩ = some (.int .i64 ((cbQ s).1 : Int)) := HC9.out.cv 0
          have q1 : w9.cell? ⟨w.heap.size + 1 + 1, 1, none⟩ = some (.slice A acc.length c) := HC9.out.cv 1
          clear hb x0 x1
          simp only [varRes]
          go_wp2
          exact bat_end (A := .int .i64 0) (B := .slice none 0 0) rfl HC9.out rfl rfl (fun hb _ => ⟨hb, by rw [HE.out]⟩)
    · obtain rfl : i = min n 100 := by omega
      by_cases h100 : n ≤ 100
      · have hlt1 : ¬ ((min n 100 : Nat) : Int) < (n : Int) := by omega
        cases bad
        · have hW := HQ.out.stop (by simp)
          obtain ⟨A, c, rfl, hrow⟩ := ChOwn.row HC5.out.own (by have := cbX_small s hs; rw [hW] at this; exact this)
          have HRW := Lib.hid hrow
          have HWX := Lib.hid hW
          have x0 : wr.cell? ⟨w.heap.size + 1 + 1, 0, none⟩ = some (.int .i64 ((cbQ s).1 : Int)) := HC5.out.cv 0
          have x1 : wr.cell? ⟨w.heap.size + 1 + 1, 1, none⟩ = some (.slice A acc.length c) := HC5.out.cv 1
          clear hrow
          cases ho : batText (((cbQ s).1 : Int), acc)
          · have HO := Lib.hid ho
            have HE := Lib.hid (readBatS_no (s := s) (fun hh => by have h2 := hh.2; unfold cbD at h2; rw [hW] at h2; rw [ho] at h2; cases h2))
            clear ho hW
            go_wp2_with fail
            go_at_call 80
            refine (spec_BatchText_calls _ A c acc _ HRW.out).mono ?_
            rw [HO.out]
            rintro e w9 ⟨rfl, hb⟩
            have HC9 := Lib.hid (HC5.out.below hb)
            have cb := HC9.out.rd.c2
            have y0 := gr_frozen (bst_res HC9.out) 0
            have y1 := gr_frozen (bst_res HC9.out) 1
            have z0 : w9.cell? ⟨w.heap.size, 0, none⟩ = some (.int .i64 0) := blk_cell (bst_res HC9.out) 0
            have z1 : w9.cell? ⟨w.heap.size, 1, none⟩ = some (.slice none 0 0) := blk_cell (bst_res HC9.out) 1
            have q0 : w9.cell? ⟨w.heap.size + 1 + 1, 0, none⟩ = some (.int .i64 ((cbQ s).1 : Int)) := HC9.out.cv 0
            have q1 : w9.cell? ⟨w.heap.size + 1 + 1, 1, none⟩ = some (.slice A acc.length c) := HC9.out.cv 1
            clear hb x0 x1
            simp only [varRes]
            go_wp2
            exact bat_end (A := .int .i64 0) (B := .slice none 0 0) rfl HC9.out rfl rfl (fun hb _ => ⟨hb, by rw [HE.out]⟩)
          · rename_i l
            have HO := Lib.hid ho
            by_cases hl : l = ub s
            · have HE : Hid (readBatS s = some (((cbQ s).1 : Int), acc)) := by have h := readBatS_yes (s := s) (by rw [hW]) (by unfold cbD; rw [hW]; exact ho.trans (by rw [hl])); rw [hW] at h; exact h
              have hq : ((bs l).toList == s.toList) = true := by rw [hl, bs_ub]; simp
              clear ho hW hl
              go_wp2_with fail
              go_at_call 80
              refine (spec_BatchText_calls _ A c acc _ HRW.out).mono ?_
              rw [HO.out]
              rintro e w9 ⟨rfl, hb⟩
              have HC9 := Lib.hid (HC5.out.below hb)
              have cb := HC9.out.rd.c2
              have y0 := gr_frozen (bst_res HC9.out) 0
              have y1 := gr_frozen (bst_res HC9.out) 1
              have z0 : w9.cell? ⟨w.heap.size, 0, none⟩ = some (.int .i64 0) := blk_cell (bst_res HC9.out) 0
              have z1 : w9.cell? ⟨w.heap.size, 1, none⟩ = some (.slice none 0 0) := blk_cell (bst_res HC9.out) 1
              have q0 : w9.cell? ⟨w.heap.size + 1 + 1, 0, none⟩ = some (.int .i64 ((cbQ s).1 : Int)) := HC9.out.cv 0
              have q1 : w9.cell? ⟨w.heap.size + 1 + 1, 1, none⟩ = some (.slice A acc.length c) := HC9.out.cv 1
              clear hb x0 x1
              simp only [varRes]
              go_wp2
              exact bat_end (A := .int .i64 ((cbQ s).1 : Int)) (B := .slice A acc.length c) rfl HC9.out rfl rfl (fun hb ho => ⟨hb, by rw [HE.out]; exact ⟨_, rfl, ho⟩⟩)
            · have HE := Lib.hid (readBatS_no (s := s) (fun hh => by have h2 := hh.2; unfold cbD at h2; rw [hW] at h2; rw [ho] at h2; exact hl (Option.some.inj h2)))
              have hq : ((bs l).toList == s.toList) = false := beq_eq_false_iff_ne.mpr fun z => hl (by rw [← toList_inj.mp z, ub_bs])
              clear ho hW hl
              go_wp2_with fail
              go_at_call 80
              refine (spec_BatchText_calls _ A c acc _ HRW.out).mono ?_
              rw [HO.out]
              rintro e w9 ⟨rfl, hb⟩
              have HC9 := Lib.hid (HC5.out.below hb)
              have cb := HC9.out.rd.c2
              have y0 := gr_frozen (bst_res HC9.out) 0
              have y1 := gr_frozen (bst_res HC9.out) 1
              have z0 : w9.cell? ⟨w.heap.size, 0, none⟩ = some (.int .i64 0) := blk_cell (bst_res HC9.out) 0
              have z1 : w9.cell? ⟨w.heap.size, 1, none⟩ = some (.slice none 0 0) := blk_cell (bst_res HC9.out) 1
              have q0 : w9.cell? ⟨w.heap.size + 1 + 1, 0, none⟩ = some (.int .i64 ((cbQ s).1 : Int)) := HC9.out.cv 0
              have q1 : w9.cell? ⟨w.heap.size + 1 + 1, 1, none⟩ = some (.slice A acc.length c) := HC9.out.cv 1
              clear hb x0 x1
              simp only [varRes]
              go_wp2
              exact bat_end (A := .int .i64 0) (B := .slice none 0 0) rfl HC9.out rfl rfl (fun hb _ => ⟨hb, by rw [HE.out]⟩)
        · have hW := HQ.out.stop (by simp)
          obtain ⟨A, c, rfl, hrow⟩ := ChOwn.row HC5.out.own (by have := cbX_small s hs; rw [hW] at this; exact this)
          have HRW := Lib.hid hrow
          have HWX := Lib.hid hW
          have x0 : wr.cell? ⟨w.heap.size + 1 + 1, 0, none⟩ = some (.int .i64 ((cbQ s).1 : Int)) := HC5.out.cv 0
          have x1 : wr.cell? ⟨w.heap.size + 1 + 1, 1, none⟩ = some (.slice A acc.length c) := HC5.out.cv 1
          clear hrow
          have HE := Lib.hid (readBatS_no (s := s) (fun hh => by rw [HWX.out] at hh; cases hh.1))
          clear hW
          cases ho : batText (((cbQ s).1 : Int), acc)
          all_goals
            have HO := Lib.hid ho
            clear ho
            go_wp2_with fail
            go_at_call 80
            refine (spec_BatchText_calls _ A c acc _ HRW.out).mono ?_
            rw [HO.out]
            rintro e w9 ⟨rfl, hb⟩
            have HC9 := Lib.hid (HC5.out.below hb)
            have cb := HC9.out.rd.c2
            have y0 := gr_frozen (bst_res HC9.out) 0
            have y1 := gr_frozen (bst_res HC9.out) 1
            have z0 : w9.cell? ⟨w.heap.size, 0, none⟩ = some (.int .i64 0) := blk_cell (bst_res HC9.out) 0
            have z1 : w9.cell? ⟨w.heap.size, 1, none⟩ = some (.slice none 0 0) := blk_cell (bst_res HC9.out) 1
            have q0 : w9.cell? ⟨w.heap.size + 1 + 1, 0, none⟩ = some (.int .i64 ((cbQ s).1 : Int)) := HC9.out.cv 0
            have q1 : w9.cell? ⟨w.heap.size + 1 + 1, 1, none⟩ = some (.slice A acc.length c) := HC9.out.cv 1
            clear hb x0 x1
            simp only [varRes]
            go_wp2
            exact bat_end (A := .int .i64 0) (B := .slice none 0 0) rfl HC9.out rfl rfl (fun hb _ => ⟨hb, by rw [HE.out]⟩)
      · have hlt1 : ((min n 100 : Nat) : Int) < (n : Int) := by omega
        have hlt2 : ¬ ((min n 100 : Nat) : Int) < 100 := by omega
        cases bad
        · have hW := HQ.out.stop (by simp)
          obtain ⟨A, c, rfl, hrow⟩ := ChOwn.row HC5.out.own (by have := cbX_small s hs; rw [hW] at this; exact this)
          have HRW := Lib.hid hrow
          have HWX := Lib.hid hW
          have x0 : wr.cell? ⟨w.heap.size + 1 + 1, 0, none⟩ = some (.int .i64 ((cbQ s).1 : Int)) := HC5.out.cv 0
          have x1 : wr.cell? ⟨w.heap.size + 1 + 1, 1, none⟩ = some (.slice A acc.length c) := HC5.out.cv 1
          clear hrow
          cases ho : batText (((cbQ s).1 : Int), acc)
          · have HO := Lib.hid ho
            have HE := Lib.hid (readBatS_no (s := s) (fun hh => by have h2 := hh.2; unfold cbD at h2; rw [hW] at h2; rw [ho] at h2; cases h2))
            clear ho hW
            go_wp2_with fail
            go_at_call 80
            refine (spec_BatchText_calls _ A c acc _ HRW.out).mono ?_
            rw [HO.out]
            rintro e w9 ⟨rfl, hb⟩
            have HC9 := Lib.hid (HC5.out.below hb)
            have cb := HC9.out.rd.c2
            have y0 := gr_frozen (bst_res HC9.out) 0
            have y1 := gr_frozen (bst_res HC9.out) 1
            have z0 : w9.cell? ⟨w.heap.size, 0, none⟩ = some (.int .i64 0) := blk_cell (bst_res HC9.out) 0
            have z1 : w9.cell? ⟨w.heap.size, 1, none⟩ = some (.slice none 0 0) := blk_cell (bst_res HC9.out) 1
            have q0 : w9.cell? ⟨w.heap.size + 1 + 1, 0, none⟩ = some (.int .i64 ((cbQ s).1 : Int)) := HC9.out.cv 0
            have q1 : w9.cell? ⟨w.heap.size + 1 + 1, 1, none⟩ = some (.slice A acc.length c) := HC9.out.cv 1
            clear hb x0 x1
            simp only [varRes]
            go_wp2
            exact bat_end (A := .int .i64 0) (B := .slice none 0 0) rfl HC9.out rfl rfl (fun hb _ => ⟨hb, by rw [HE.out]⟩)
          · rename_i l
            have HO := Lib.hid ho
            by_cases hl : l = ub s
            · have HE : Hid (readBatS s = some (((cbQ s).1 : Int), acc)) := by have h := readBatS_yes (s := s) (by rw [hW]) (by unfold cbD; rw [hW]; exact ho.trans (by rw [hl])); rw [hW] at h; exact h
              have hq : ((bs l).toList == s.toList) = true := by rw [hl, bs_ub]; simp
              clear ho hW hl
              go_wp2_with fail
              go_at_call 80
              refine (spec_BatchText_calls _ A c acc _ HRW.out).mono ?_
              rw [HO.out]
              rintro e w9 ⟨rfl, hb⟩
              have HC9 := Lib.hid (HC5.out.below hb)
              have cb := HC9.out.rd.c2
              have y0 := gr_frozen (bst_res HC9.out) 0
              have y1 := gr_frozen (bst_res HC9.out) 1
              have z0 : w9.cell? ⟨w.heap.size, 0, none⟩ = some (.int .i64 0) := blk_cell (bst_res HC9.out) 0
              have z1 : w9.cell? ⟨w.heap.size, 1, none⟩ = some (.slice none 0 0) := blk_cell (bst_res HC9.out) 1
              have q0 : w9.cell? ⟨w.heap.size + 1 + 1, 0, none⟩ = some (.int .i64 ((cbQ s).1 : Int)) := HC9.out.cv 0
              have q1 : w9.cell? ⟨w.heap.size + 1 + 1, 1, none⟩ = some (.slice A acc.length c) := HC9.out.cv 1
              clear hb x0 x1
              simp only [varRes]
              go_wp2
              exact bat_end (A := .int .i64 ((cbQ s).1 : Int)) (B := .slice A acc.length c) rfl HC9.out rfl rfl (fun hb ho => ⟨hb, by rw [HE.out]; exact ⟨_, rfl, ho⟩⟩)
            · have HE := Lib.hid (readBatS_no (s := s) (fun hh => by have h2 := hh.2; unfold cbD at h2; rw [hW] at h2; rw [ho] at h2; exact hl (Option.some.inj h2)))
              have hq : ((bs l).toList == s.toList) = false := beq_eq_false_iff_ne.mpr fun z => hl (by rw [← toList_inj.mp z, ub_bs])
              clear ho hW hl
              go_wp2_with fail
              go_at_call 80
              refine (spec_BatchText_calls _ A c acc _ HRW.out).mono ?_
              rw [HO.out]
              rintro e w9 ⟨rfl, hb⟩
              have HC9 := Lib.hid (HC5.out.below hb)
              have cb := HC9.out.rd.c2
              have y0 := gr_frozen (bst_res HC9.out) 0
              have y1 := gr_frozen (bst_res HC9.out) 1
              have z0 : w9.cell? ⟨w.heap.size, 0, none⟩ = some (.int .i64 0) := blk_cell (bst_res HC9.out) 0
              have z1 : w9.cell? ⟨w.heap.size, 1, none⟩ = some (.slice none 0 0) := blk_cell (bst_res HC9.out) 1
              have q0 : w9.cell? ⟨w.heap.size + 1 + 1, 0, none⟩ = some (.int .i64 ((cbQ s).1 : Int)) := HC9.out.cv 0
              have q1 : w9.cell? ⟨w.heap.size + 1 + 1, 1, none⟩ = some (.slice A acc.length c) := HC9.out.cv 1
              clear hb x0 x1
              simp only [varRes]
              go_wp2
              exact bat_end (A := .int .i64 0) (B := .slice none 0 0) rfl HC9.out rfl rfl (fun hb _ => ⟨hb, by rw [HE.out]⟩)
        · have hW := HQ.out.stop (by simp)
          obtain ⟨A, c, rfl, hrow⟩ := ChOwn.row HC5.out.own (by have := cbX_small s hs; rw [hW] at this; exact this)
          have HRW := Lib.hid hrow
          have HWX := Lib.hid hW
          have x0 : wr.cell? ⟨w.heap.size + 1 + 1, 0, none⟩ = some (.int .i64 ((cbQ s).1 : Int)) := HC5.out.cv 0
          have x1 : wr.cell? ⟨w.heap.size + 1 + 1, 1, none⟩ = some (.slice A acc.length c) := HC5.out.cv 1
          clear hrow
          have HE := Lib.hid (readBatS_no (s := s) (fun hh => by rw [HWX.out] at hh; cases hh.1))
          clear hW
          cases ho : batText (((cbQ s).1 : Int), acc)
          all_goals
            have HO := Lib.hid ho
            clear ho
            go_wp2_with fail
            go_at_call 80
            refine (spec_BatchText_calls _ A c acc _ HRW.out).mono ?_
            rw [HO.out]
            rintro e w9 ⟨rfl, hb⟩
            have HC9 := Lib.hid (HC5.out.below hb)
            have cb := HC9.out.rd.c2
            have y0 := gr_frozen (bst_res HC9.out) 0
            have y1 := gr_frozen (bst_res HC9.out) 1
            have z0 : w9.cell? ⟨w.heap.size, 0, none⟩ = some (.int .i64 0) := blk_cell (bst_res HC9.out) 0
            have z1 : w9.cell? ⟨w.heap.size, 1, none⟩ = some (.slice none 0 0) := blk_cell (bst_res HC9.out) 1
            have q0 : w9.cell? ⟨w.heap.size + 1 + 1, 0, none⟩ = some (.int .i64 ((cbQ s).1 : Int)) := HC9.out.cv 0
            have q1 : w9.cell? ⟨w.heap.size + 1 + 1, 1, none⟩ = some (.slice A acc.length c) := HC9.out.cv 1
            clear hb x0 x1
            simp only [varRes]
            go_wp2
            exact bat_end (A := .int .i64 0) (B := .slice none 0 0) rfl HC9.out rfl rfl (fun hb _ => ⟨hb, by rw [HE.out]⟩)
end Go.Proofs.YtaacpdejpcbbbaaGreatDoor
