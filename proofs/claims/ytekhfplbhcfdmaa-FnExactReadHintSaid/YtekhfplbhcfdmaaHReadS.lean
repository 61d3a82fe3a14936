/- The reference's ReadHint: what it reads (readHintS), and in what memory. By wip/tools/genhreads.py. -/
import Derived.Test.YtekhfplbhcfdmaaHint2
import Derived.Test.YtekhfplbhcfdmaaGrow2
namespace Go.Proofs.Ytekhfplbhcfdmaa
set_option linter.unusedVariables false
set_option linter.unusedSimpArgs false
open Go.RowKit
attribute [local go_sem] bs_size List.length_cons List.length_nil List.length_append

abbrev HCt (B gr : Nat) (s : ByteArray) (ds : List SpotD) (v : Value) (a : Nat) (bad : Bool) (w0 w : World) : Prop := RSt 65 61 4 B gr [] s ds.length (spFlat ds) v a bad w0 w
theorem hct_start (s : ByteArray) (bad : Bool) (w : World) : HCt w.heap.size w.heap.size s [] (.slice (some ⟨w.heap.size + 1, 0, none⟩) 0 0) 0 bad w ((w.alloc (.cells #[.string s, .int .i64 0, .bool bad] 65)).alloc (.cells #[] 61)) := by
  refine ⟨((Below.refl _ _).alloc (Nat.le_refl _) _).alloc (by simp) _, gr_old (blk_new w _) _, ?_, fun p hp => (by simp at hp), by simp [Value.ownBlock], Nat.le_refl _⟩
  have := World.ownsRow_made (w := w.alloc (.cells #[.string s, .int .i64 0, .bool bad] 65)) (base := w.heap.size) (e := 61) (size := 4) #[] 0 (by simp) (Nat.zero_le _) rfl
  simpa [spFlat] using this
theorem sShort_len (s : ByteArray) (a : Nat) (b : Bool) : (cShort s a b).1.length ≤ s.size := by
  unfold cShort cTake
  split
  · show ((tail_ s _).take _).length ≤ _
    rw [List.length_take, tail_len]
    omega
  · simp
theorem hsX_small (s : ByteArray) (hs : (hsT s).1.size ≤ 20000) : ∀ x ∈ (hsX s).1, x.1.size ≤ 9223372036854775807 := items_all (fun a => by
  have h1 := sShort_len (hsT s).1 a false
  show (bs (hsK (hsT s).1 a false).1).size ≤ _
  rw [bs_size]
  unfold hsK
  omega) _ _ _
theorem hsT_len (s : ByteArray) : (hsT s).1.size ≤ 20000 := by
  unfold hsT
  cases h : unsealed (ub s) with
  | none => exact Nat.zero_le _
  | some t => show (bs t).size ≤ _; rw [bs_size]; exact unsealed_len h
theorem hsT_res (s : ByteArray) : varRes (unsealed (ub s)) = .tuple #[.string (hsT s).1, .bool (!(hsT s).2)] := by
  unfold hsT
  cases unsealed (ub s) <;> rfl
theorem readHintS_no {s : ByteArray} (h : ¬ ((hsX s).2.2 = false ∧ hintText (hsX s).1 = some (ub s))) : readHintS s = none := if_neg h
theorem readHintS_yes {s : ByteArray} (h2 : (hsX s).2.2 = false) (h3 : hintText (hsX s).1 = some (ub s)) : readHintS s = some (hsX s).1 := if_pos ⟨h2, h3⟩
theorem spS_le (s : ByteArray) {a : Nat} (h : a ≤ s.size) : (spS s a).2.1 ≤ s.size := (rNum_le s _ _ (rNum_le s _ _ (rNum_le s _ _ (cShort_le s false h).1).2.1).2.1).2.1
/-- The end without a directory: an empty row is made. -/
theorem hpost_made {w W : World} (h : Below w.heap.size w W) {o : Option (List SpotD)} (ho : o = none) : HintPost w o (.returned (.tuple #[.slice (some ⟨W.heap.size, 0, none⟩) 0 0, .bool false])) (W.alloc (.cells #[] 61)) := by
  subst ho
  exact ⟨h.alloc h.size _, _, rfl, World.ownsRow_made (w := W) #[] 0 h.size (Nat.zero_le _) rfl⟩
set_option maxHeartbeats 8000000 in
set_option maxRecDepth 100000 in
theorem spec_ReadHint_calls (s : ByteArray) (w : World) (hs : s.size ≤ 1099511627776) : Calls Try.prog 9 #[.string s] w (HintPost w (readHintS s)) := by
  obtain ⟨i0, hi, hz, hsz, hby⟩ := info_parts info_sp
  have hts := hsT_len s
  have HSM := Lib.hid (hsX_small s hts)
  have HUR := Lib.hid (hsT_res s)
  have hW : itemsBy (spS (hsT s).1) (min (hsN s).1 300) (hsN s).2.1 (hsN s).2.2 = hsX s := rfl
  have hN : rNum (hsT s).1 0 (hsT s).2 = hsN s := rfl
  generalize (hsT s).1 = T at hts HUR hW hN
  generalize (hsT s).2 = bd at HUR hN
  have HW := Lib.hid (Reads.start (spS T) (min (hsN s).1 300) (hsN s).2.1 (hsN s).2.2)
  rw [hW] at HW
  have a1 : (hsN s).2.1 ≤ T.size := by rw [← hN]; exact (rNum_le T _ _ (Nat.zero_le _)).2.1
  have HN := Lib.hid hN
  clear hW hN
  go_enter Try.func9, Try.ntmps9
  go_wp2_with fail
  go_at_call 44
  refine (spec_Unsealed_calls s _ (by omega)).mono ?_
  rw [HUR.out]
  rintro e w1 ⟨rfl, hb⟩
  have HB1 := Lib.hid hb
  have HC0 := Lib.hid (hct_start T bd w1)
  clear hb
  go_wp2_with fail
  go_at_call 45
  refine (spec_num_calls _ T _ _ _ HC0.out.rd (Nat.zero_le _) (by omega)).mono ?_
  rw [HN.out]
  rintro e w3 ⟨rfl, hr, hg⟩
  have HC4 := Lib.hid (HC0.out.read hr hg)
  clear hr hg
  generalize (hsN s).1 = n at HW ⊢
  go_wp2
  go_loopw [7, 9] (fun vv iv wr => ∃ (i : Nat) (acc : List SpotD) (v : Value) (a : Nat) (bad : Bool), i ≤ min n 300 ∧ iv = .int .i64 (i : Int) ∧ v = vv ∧ acc.length = i ∧ a ≤ T.size ∧ Reads (spS T) (min n 300) (hsX s) i acc a bad ∧ HCt w1.heap.size w1.heap.size T acc v a bad w1 wr) (fun _ iv _ => min n 300 - (intOf iv).toNat)
  case atStart => exact ⟨0, [], _, (hsN s).2.1, (hsN s).2.2, Nat.zero_le _, rfl, rfl, rfl, a1, HW.out, HC4.out⟩
  case round =>
    obtain ⟨i, acc, v, a, bad, hi', rfl, rfl, hacc, ha, hrd, hst⟩ := hrel
    have HQ := Lib.hid hrd
    have HC5 := Lib.hid hst
    have c2 := hst.rd.c2
    have hal : acc.length ≤ 300 := by omega
    have HAC := Lib.hid hacc
    clear hrd hst hacc
    by_cases hlt : i < min n 300
    · cases bad
      · have hlt1 : i < n := by omega
        have hlt2 : i < 300 := by omega
        have b1 : (hsK T a false).2.1 ≤ T.size := (cShort_le T _ ha).1
        have b2 : (hsS T a false).2.1 ≤ T.size := (rNum_le T _ _ b1).2.1
        have b3 : (hsA T a false).2.1 ≤ T.size := (rNum_le T _ _ b2).2.1
        go_wp2_with fail
        go_at_call 46
        refine (spec_Short_calls _ T _ _ _ HC5.out.rd ha (by omega)).mono ?_
        rw [show cShort T a false = hsK T a false from rfl]
        rintro e w4 ⟨rfl, hr, hg⟩
        have H1 := Lib.hid ((HC5.out.read hr hg).push (.cells #[.string (bs (hsK T a false).1), .int .i64 0, .int .i64 0, .int .i64 0] 61))
        clear hr hg c2
        go_wp2_with fail
        go_at_call 45
        refine (spec_num_calls _ T _ _ _ H1.out.rd b1 (by omega)).mono ?_
        rw [show rNum T (hsK T a false).2.1 (hsK T a false).2.2 = hsS T a false from rfl]
        rintro e w5 ⟨rfl, hr, hg⟩
        have H2 := Lib.hid (H1.out.read hr hg)
        have d1 : w5.cell? ⟨w4.heap.size, 1, none⟩ = some (.int .i64 0) := blk_cell (H2.out.at_ (List.mem_cons_self ..)) 1
        have f1 := gr_frozen (H2.out.at_ (List.mem_cons_self ..)) 1
        have H3 := Lib.hid (H2.out.setTop (fun p hp => by simp at hp) 1 (.int .i64 ((hsS T a false).1 : Int)))
        clear hr hg
        go_wp2_with fail
        go_at_call 45
        refine (spec_num_calls _ T _ _ _ H3.out.rd b2 (by omega)).mono ?_
        rw [show rNum T (hsS T a false).2.1 (hsS T a false).2.2 = hsA T a false from rfl]
        rintro e w6 ⟨rfl, hr, hg⟩
        have H4 := Lib.hid (H3.out.read hr hg)
        have d2 : w6.cell? ⟨w4.heap.size, 2, none⟩ = some (.int .i64 0) := blk_cell (H4.out.at_ (List.mem_cons_self ..)) 2
        have f2 := gr_frozen (H4.out.at_ (List.mem_cons_self ..)) 2
        have H5 := Lib.hid (H4.out.setTop (fun p hp => by simp at hp) 2 (.int .i64 ((hsA T a false).1 : Int)))
        clear hr hg
        go_wp2_with fail
        go_at_call 45
        refine (spec_num_calls _ T _ _ _ H5.out.rd b3 (by omega)).mono ?_
        rw [show rNum T (hsA T a false).2.1 (hsA T a false).2.2 = hsQ T a false from rfl]
        rintro e w7 ⟨rfl, hr, hg⟩
        have H6 := Lib.hid (H5.out.read hr hg)
        have d3 : w7.cell? ⟨w4.heap.size, 3, none⟩ = some (.int .i64 0) := blk_cell (H6.out.at_ (List.mem_cons_self ..)) 3
        have f3 := gr_frozen (H6.out.at_ (List.mem_cons_self ..)) 3
        have H7 := Lib.hid (H6.out.setTop (fun p hp => by simp at hp) 3 (.int .i64 ((hsQ T a false).1 : Int)))
        clear hr hg
        generalize hw8 : w7.setCell ⟨w4.heap.size, 3, none⟩ (.int .i64 ((hsQ T a false).1 : Int)) = w8 at H7
        have x0 : w8.cell? ⟨w4.heap.size, 0, none⟩ = some (.string (bs (hsK T a false).1)) := blk_cell (H7.out.at_ (List.mem_cons_self ..)) 0
        have x1 : w8.cell? ⟨w4.heap.size, 1, none⟩ = some (.int .i64 ((hsS T a false).1 : Int)) := blk_cell (H7.out.at_ (List.mem_cons_self ..)) 1
        have x2 : w8.cell? ⟨w4.heap.size, 2, none⟩ = some (.int .i64 ((hsA T a false).1 : Int)) := blk_cell (H7.out.at_ (List.mem_cons_self ..)) 2
        have x3 : w8.cell? ⟨w4.heap.size, 3, none⟩ = some (.int .i64 ((hsQ T a false).1 : Int)) := blk_cell (H7.out.at_ (List.mem_cons_self ..)) 3
        have H8 := Lib.hid (H7.out.pop.alloc (.cells (spVals (spS T a).1).toArray 61))
        have HOWN := Lib.hid H8.out.own
        have HBASE := Lib.hid H8.out.base
        have HNEWS : Hid (∀ j u, (spVals (spS T a).1)[j]? = some u → (w8.alloc (.cells (spVals (spS T a).1).toArray 61)).cell? ((⟨w8.heap.size, 0, none⟩ : Addr).add j) = some u) := World.news_of_block (heap_alloc_new w8 _)
        go_wp2_with (at_builtin; refine wpList_append_lies _ rfl _ _ _ rfl w1.heap.size 61 i0 (.agg #[.string ⟨#[]⟩, .int .i64 0, .int .i64 0, .int .i64 0]) 4 40 Try.underlying22 hi hz hsz hby rfl (by omega) v acc.length (spFlat acc) rfl HOWN.out ⟨w8.heap.size, 0, none⟩ 1 1 (spVals (spS T a).1) rfl rfl HNEWS.out (by simp [Value.oneCell', spVals]) (by omega) (by unfold maxLen; omega) (by omega) HBASE.out _ rfl ?_; intro g cap w9 hown hgrow hat hlt; have HA := Lib.hid (H8.out.app hown hgrow hat); clear hown hgrow hat hlt)
        all_goals
          have HF := HA.out
          rw [← spFlat_snoc, show acc.length + 1 = (acc ++ [(spS T a).1]).length by simp] at HF
          have HF2 := Lib.hid HF
          clear HF
          go_roundw
          case rel => first | exact ⟨i + 1, acc ++ [(spS T a).1], _, (spS T a).2.1, (spS T a).2.2, by omega, by go_num, rfl, by rw [List.length_append, HAC.out]; rfl, spS_le T ha, HQ.out.step hlt, by have h := HF2.out; unfold HCt; rw [show (acc ++ [(spS T a).1]).length = acc.length + 1 by simp] at h ⊢; exact h⟩ | (repeat (first | (refine ⟨?relx, rfl⟩; exact ⟨i + 1, acc ++ [(spS T a).1], _, (spS T a).2.1, (spS T a).2.2, by omega, by go_num, rfl, by rw [List.length_append, HAC.out]; rfl, spS_le T ha, HQ.out.step hlt, by have h := HF2.out; unfold HCt; rw [show (acc ++ [(spS T a).1]).length = acc.length + 1 by simp] at h ⊢; exact h⟩) | (refine ⟨?relx, ?eqs⟩; (case eqs => (and_intros <;> rfl)); exact ⟨i + 1, acc ++ [(spS T a).1], _, (spS T a).2.1, (spS T a).2.2, by omega, by go_num, rfl, by rw [List.length_append, HAC.out]; rfl, spS_le T ha, HQ.out.step hlt, by have h := HF2.out; unfold HCt; rw [show (acc ++ [(spS T a).1]).length = acc.length + 1 by simp] at h ⊢; exact h⟩) | apply Exists.intro))
          case measure => simp [intOf]; omega
      · have hlt1 : i < n := by omega
        have hlt2 : i < 300 := by omega
        have hW := HQ.out.stop (by simp)
        obtain ⟨A, c, rfl, hrow⟩ := SpOwn.row HC5.out.own (by have := HSM.out; rw [hW] at this; exact this)
        have HRW := Lib.hid hrow
        have HWX := Lib.hid hW
        clear hrow
        have HE := Lib.hid (readHintS_no (s := s) (fun hh => by rw [HWX.out] at hh; cases hh.1))
        clear hW
        cases ho : hintText acc
        all_goals
          have HO := Lib.hid ho
          clear ho
          go_wp2_with fail
          go_at_call 42
          refine (spec_HintText_calls A c acc _ HRW.out).mono ?_
          rw [HO.out]
          rintro e w9 ⟨rfl, hb⟩
          have HC9 := Lib.hid (HC5.out.below hb)
          have cb := HC9.out.rd.c2
          clear hb
          simp only [varRes]
          go_wp2
          go_ret2
          exact hpost_made (HB1.out.trans (HC9.out.bel.mono HB1.out.size)) HE.out
    · obtain rfl : i = min n 300 := by omega
      by_cases h100 : n ≤ 300
      · have hlt1 : ¬ ((min n 300 : Nat) : Int) < (n : Int) := by omega
        cases bad
        · have hW := HQ.out.stop (by simp)
          obtain ⟨A, c, rfl, hrow⟩ := SpOwn.row HC5.out.own (by have := HSM.out; rw [hW] at this; exact this)
          have HRW := Lib.hid hrow
          have HWX := Lib.hid hW
          clear hrow
          cases ho : hintText acc
          · have HO := Lib.hid ho
            have HE := Lib.hid (readHintS_no (s := s) (fun hh => by have h2 := hh.2; rw [hW] at h2; rw [ho] at h2; cases h2))
            clear ho hW
            go_wp2_with fail
            go_at_call 42
            refine (spec_HintText_calls A c acc _ HRW.out).mono ?_
            rw [HO.out]
            rintro e w9 ⟨rfl, hb⟩
            have HC9 := Lib.hid (HC5.out.below hb)
            have cb := HC9.out.rd.c2
            clear hb
            simp only [varRes]
            go_wp2
            go_ret2
            exact hpost_made (HB1.out.trans (HC9.out.bel.mono HB1.out.size)) HE.out
          · rename_i l
            have HO := Lib.hid ho
            by_cases hl : l = ub s
            · have HE : Hid (readHintS s = some acc) := by have h := readHintS_yes (s := s) (by rw [hW]) (by rw [hW]; exact ho.trans (by rw [hl])); rw [hW] at h; exact h
              have hq : ((bs l).toList == s.toList) = true := by rw [hl, bs_ub]; simp
              clear ho hW hl
              go_wp2_with fail
              go_at_call 42
              refine (spec_HintText_calls A c acc _ HRW.out).mono ?_
              rw [HO.out]
              rintro e w9 ⟨rfl, hb⟩
              have HC9 := Lib.hid (HC5.out.below hb)
              have cb := HC9.out.rd.c2
              clear hb
              simp only [varRes]
              go_wp2
              go_ret2
              exact ⟨HB1.out.trans (HC9.out.bel.mono HB1.out.size), by rw [HE.out]; exact ⟨_, rfl, own_low HC9.out.own HB1.out.size⟩⟩
            · have HE := Lib.hid (readHintS_no (s := s) (fun hh => by have h2 := hh.2; rw [hW] at h2; rw [ho] at h2; exact hl (Option.some.inj h2)))
              have hq : ((bs l).toList == s.toList) = false := beq_eq_false_iff_ne.mpr fun z => hl (by rw [← toList_inj.mp z, ub_bs])
              clear ho hW hl
              go_wp2_with fail
              go_at_call 42
              refine (spec_HintText_calls A c acc _ HRW.out).mono ?_
              rw [HO.out]
              rintro e w9 ⟨rfl, hb⟩
              have HC9 := Lib.hid (HC5.out.below hb)
              have cb := HC9.out.rd.c2
              clear hb
              simp only [varRes]
              go_wp2
              go_ret2
              exact hpost_made (HB1.out.trans (HC9.out.bel.mono HB1.out.size)) HE.out
        · have hW := HQ.out.stop (by simp)
          obtain ⟨A, c, rfl, hrow⟩ := SpOwn.row HC5.out.own (by have := HSM.out; rw [hW] at this; exact this)
          have HRW := Lib.hid hrow
          have HWX := Lib.hid hW
          clear hrow
          have HE := Lib.hid (readHintS_no (s := s) (fun hh => by rw [HWX.out] at hh; cases hh.1))
          clear hW
          cases ho : hintText acc
          all_goals
            have HO := Lib.hid ho
            clear ho
            go_wp2_with fail
            go_at_call 42
            refine (spec_HintText_calls A c acc _ HRW.out).mono ?_
            rw [HO.out]
            rintro e w9 ⟨rfl, hb⟩
            have HC9 := Lib.hid (HC5.out.below hb)
            have cb := HC9.out.rd.c2
            clear hb
            simp only [varRes]
            go_wp2
            go_ret2
            exact hpost_made (HB1.out.trans (HC9.out.bel.mono HB1.out.size)) HE.out
      · have hlt1 : ((min n 300 : Nat) : Int) < (n : Int) := by omega
        have hlt2 : ¬ ((min n 300 : Nat) : Int) < 300 := by omega
        cases bad
        · have hW := HQ.out.stop (by simp)
          obtain ⟨A, c, rfl, hrow⟩ := SpOwn.row HC5.out.own (by have := HSM.out; rw [hW] at this; exact this)
          have HRW := Lib.hid hrow
          have HWX := Lib.hid hW
          clear hrow
          cases ho : hintText acc
          · have HO := Lib.hid ho
            have HE := Lib.hid (readHintS_no (s := s) (fun hh => by have h2 := hh.2; rw [hW] at h2; rw [ho] at h2; cases h2))
            clear ho hW
            go_wp2_with fail
            go_at_call 42
            refine (spec_HintText_calls A c acc _ HRW.out).mono ?_
            rw [HO.out]
            rintro e w9 ⟨rfl, hb⟩
            have HC9 := Lib.hid (HC5.out.below hb)
            have cb := HC9.out.rd.c2
            clear hb
            simp only [varRes]
            go_wp2
            go_ret2
            exact hpost_made (HB1.out.trans (HC9.out.bel.mono HB1.out.size)) HE.out
          · rename_i l
            have HO := Lib.hid ho
            by_cases hl : l = ub s
            · have HE : Hid (readHintS s = some acc) := by have h := readHintS_yes (s := s) (by rw [hW]) (by rw [hW]; exact ho.trans (by rw [hl])); rw [hW] at h; exact h
              have hq : ((bs l).toList == s.toList) = true := by rw [hl, bs_ub]; simp
              clear ho hW hl
              go_wp2_with fail
              go_at_call 42
              refine (spec_HintText_calls A c acc _ HRW.out).mono ?_
              rw [HO.out]
              rintro e w9 ⟨rfl, hb⟩
              have HC9 := Lib.hid (HC5.out.below hb)
              have cb := HC9.out.rd.c2
              clear hb
              simp only [varRes]
              go_wp2
              go_ret2
              exact ⟨HB1.out.trans (HC9.out.bel.mono HB1.out.size), by rw [HE.out]; exact ⟨_, rfl, own_low HC9.out.own HB1.out.size⟩⟩
            · have HE := Lib.hid (readHintS_no (s := s) (fun hh => by have h2 := hh.2; rw [hW] at h2; rw [ho] at h2; exact hl (Option.some.inj h2)))
              have hq : ((bs l).toList == s.toList) = false := beq_eq_false_iff_ne.mpr fun z => hl (by rw [← toList_inj.mp z, ub_bs])
              clear ho hW hl
              go_wp2_with fail
              go_at_call 42
              refine (spec_HintText_calls A c acc _ HRW.out).mono ?_
              rw [HO.out]
              rintro e w9 ⟨rfl, hb⟩
              have HC9 := Lib.hid (HC5.out.below hb)
              have cb := HC9.out.rd.c2
              clear hb
              simp only [varRes]
              go_wp2
              go_ret2
              exact hpost_made (HB1.out.trans (HC9.out.bel.mono HB1.out.size)) HE.out
        · have hW := HQ.out.stop (by simp)
          obtain ⟨A, c, rfl, hrow⟩ := SpOwn.row HC5.out.own (by have := HSM.out; rw [hW] at this; exact this)
          have HRW := Lib.hid hrow
          have HWX := Lib.hid hW
          clear hrow
          have HE := Lib.hid (readHintS_no (s := s) (fun hh => by rw [HWX.out] at hh; cases hh.1))
          clear hW
          cases ho : hintText acc
          all_goals
            have HO := Lib.hid ho
            clear ho
            go_wp2_with fail
            go_at_call 42
            refine (spec_HintText_calls A c acc _ HRW.out).mono ?_
            rw [HO.out]
            rintro e w9 ⟨rfl, hb⟩
            have HC9 := Lib.hid (HC5.out.below hb)
            have cb := HC9.out.rd.c2
            clear hb
            simp only [varRes]
            go_wp2
            go_ret2
            exact hpost_made (HB1.out.trans (HC9.out.bel.mono HB1.out.size)) HE.out
end Go.Proofs.Ytekhfplbhcfdmaa
