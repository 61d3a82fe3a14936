/- Replies, the reference's: l12At, ReplyAt, Replies. By wip/tools/genreps.py. -/
import Derived.Test.YtdoaemagednclaaDoorRepS
namespace Go.Proofs.YtdoaemagednclaaDoor
set_option linter.unusedVariables false
set_option linter.unusedSimpArgs false
open Go.RowKit
attribute [local go_sem] bs_size List.length_cons List.length_nil List.length_append

/-- l12At, below a depth. -/
def AtS (k : Nat) : Prop := ∀ (s : ByteArray) (a : Nat) (dp : Int) (w : World), dp = 4 - (k : Int) → a ≤ s.size → s.size ≤ 1048576 →
  Calls Tryd.prog 53 #[.string s, .int .i64 (a : Int), .int .i64 dp] w fun e w' => e = .returned (.int .i64 (atS a (repB numS k (tail_ s a)))) ∧ Below w.heap.size w w'
set_option maxHeartbeats 4000000 in
set_option maxRecDepth 100000 in
theorem atS_none (k : Nat) (s : ByteArray) (a : Nat) (dp : Int) (w : World) (hlt : ¬ a < s.size) (ha : a ≤ s.size) : Calls Tryd.prog 53 #[.string s, .int .i64 (a : Int), .int .i64 dp] w fun e w' => e = .returned (.int .i64 (atS a (repB numS k (tail_ s a)))) ∧ Below w.heap.size w w' := by
  have HR : Hid (repB numS k (tail_ s a) = none) := by
    rw [Hid, tail_empty (by omega)]
    cases k <;> rfl
  go_enter Tryd.func53, Tryd.ntmps53
  go_wp2
  go_ret
  exact ⟨ret_atS_none HR.out rfl, Below.refl _ _⟩
set_option maxHeartbeats 8000000 in
set_option maxRecDepth 100000 in
theorem atS_step (k : Nat) (hk : k ≤ 4) (hi : k = 0 ∨ ∃ j, k = j + 1 ∧ AtS j) : AtS k := by
  intro s a dp w hdp ha hs
  by_cases hlt : a < s.size
  · obtain ⟨arr, harr, hcase⟩ := repB_is numS k
    obtain ⟨d, hd, hsd, hc, hcd⟩ := tail_byte (s := s) (a := a) (i := 0) (by omega)
    have hsd' : (s[a]'hlt).toNat = d := hsd
    have hi0 : (0 : Int) ≤ (a : Int) := by omega
    have hi1 : (a : Int) < (s.size : Int) := by omega
    have htc := tail_cons hc
    have hrl := tail_len s (a + 1)
    have hgd : ∀ n, (tail_ s (a + 1)).drop n = tail_ s (a + 1 + n) := tail_drop s (a + 1)
    have HGD := Lib.hid hgd
    have hxt : ∀ i, s.extract (a + 1) (a + 1 + i) = bs ((tail_ s (a + 1)).take i) := extract_tail s (a + 1)
    have HXT := Lib.hid hxt
    have HCA : Hid (((a : Int) + 1) = ((a + 1 : Nat) : Int)) := by rw [Hid]; omega
    have HRB : Hid (repB numS k (tail_ s a) = (lnB (tail_ s (a + 1))).bind (repLine numS arr (UInt8.ofNat d) (tail_ s (a + 1)))) := by rw [Hid, harr, htc]; rfl
    have HCASE := Lib.hid hcase
    have HI := Lib.hid hi
    have HDP := Lib.hid hdp
    have hdk0 : 0 ≤ dp := by omega
    have hdk4 : dp ≤ 4 := by omega
    have HK := Lib.hid hk
    cases hln : lnB (tail_ s (a + 1)) with
    | none =>
      have HR : Hid (repB numS k (tail_ s a) = none) := by rw [Hid, HRB.out, hln]; rfl
      have HLN := Lib.hid hln
      clear hln hcd hgd htc hc hsd hcase hi harr hdp hk hxt hrl
      go_enter Tryd.func53, Tryd.ntmps53
      go_wp2_with fail
      go_at_call 70
      rw [HCA.out]
      refine (spec_l12Line_calls s (a + 1) _ (by omega) hs).mono ?_
      rw [HLN.out]
      rintro e w' ⟨rfl, hww⟩
      obtain rfl := hww.symm
      simp only [atS]
      go_wp2
      go_ret
      exact ⟨ret_atS_none HR.out rfl, Below.refl _ _⟩
    | some m =>
      have hm := lnB_spec hln
      have HR : Hid (repB numS k (tail_ s a) = repLine numS arr (UInt8.ofNat d) (tail_ s (a + 1)) m) := by rw [Hid, HRB.out, hln]; rfl
      have HLN := Lib.hid hln
      have HV : Hid (atS (a + 1) (some m) = (a : Int) + 1 + (m : Int)) := by show ((a + 1 + m : Nat) : Int) = _; omega
      have hml : m + 2 ≤ (tail_ s (a + 1)).length := hm.1
      have htl : ((tail_ s (a + 1)).take m).length = m := by rw [List.length_take]; omega
      have hsl := hxt m
      have HH : Hid (ub (bs ((tail_ s (a + 1)).take m)) = (tail_ s (a + 1)).take m) := ub_bs _
      have hfm : a + m + 3 ≤ s.size := by omega
      have ht0 : ((a : Int) + 1 + (m : Int)).toNat = a + 1 + m := by omega
      have ht9 : ((a : Int) + 1).toNat = a + 1 := by omega
      have hb0 : (0 : Int) ≤ (a : Int) + 1 := by omega
      have hb1 : (a : Int) + 1 ≤ (a : Int) + 1 + (m : Int) := by omega
      have hb2 : (a : Int) + 1 + (m : Int) ≤ (s.size : Int) := by omega
      have hw1 : IntKind.i64.wrap ((a : Int) + 1) = (a : Int) + 1 := by rw [IntKind.wrap_i64]; omega
      have hnn : ¬ (a : Int) + 1 + (m : Int) < 0 := by omega
      clear hln hm hcd hgd htc hc hsd hcase hi harr hdp hk hxt hrl
      generalize hHD : (tail_ s (a + 1)).take m = hd_ at HH htl hsl
      have HHD := Lib.hid hHD
      have hhs : (bs hd_).size ≤ 1048576 := by rw [bs_size]; omega
      clear hHD
      by_cases hd1 : d = 43 ∨ d = 45
      · have HR1 := Lib.hid (HR.out.trans (line_sign hd1))
        rcases hd1 with rfl | rfl
        all_goals
          go_enter Tryd.func53, Tryd.ntmps53
          go_wp2_with fail
          go_at_call 70
          rw [HCA.out]
          refine (spec_l12Line_calls s (a + 1) _ (by omega) hs).mono ?_
          rw [HLN.out]
          rintro e w' ⟨rfl, hww⟩
          obtain rfl := hww.symm
          rw [HV.out]
          go_wp2
          go_ret
          exact ⟨ret_atS_some HR1.out (by omega), Below.refl _ _⟩
      · by_cases hd2 : d = 58
        · subst hd2
          have HR2 := Lib.hid (HR.out.trans line_num)
          cases hnu : numS hd_
          · have HRN : Hid (repB numS k (tail_ s a) = none) := by rw [Hid, HR2.out, HHD.out, hnu]; rfl
            have HNU := Lib.hid hnu
            clear hnu
            go_enter Tryd.func53, Tryd.ntmps53
            go_wp2_with fail
            go_at_call 70
            rw [HCA.out]
            refine (spec_l12Line_calls s (a + 1) _ (by omega) hs).mono ?_
            rw [HLN.out]
            rintro e w' ⟨rfl, hww⟩
            obtain rfl := hww.symm
            rw [HV.out]
            go_wp2_with fail
            go_at_call 71
            refine (spec_l12Int_calls _ _ (by omega)).mono ?_
            rw [HH.out, HNU.out]
            rintro e w1 ⟨rfl, hb⟩
            go_wp2
            go_ret
            exact ⟨ret_atS_none HRN.out rfl, hb⟩
          · have HRN : Hid (repB numS k (tail_ s a) = some (m + 3)) := by rw [Hid, HR2.out, HHD.out, hnu]; rfl
            have HNU := Lib.hid hnu
            clear hnu
            go_enter Tryd.func53, Tryd.ntmps53
            go_wp2_with fail
            go_at_call 70
            rw [HCA.out]
            refine (spec_l12Line_calls s (a + 1) _ (by omega) hs).mono ?_
            rw [HLN.out]
            rintro e w' ⟨rfl, hww⟩
            obtain rfl := hww.symm
            rw [HV.out]
            go_wp2_with fail
            go_at_call 71
            refine (spec_l12Int_calls _ _ (by omega)).mono ?_
            rw [HH.out, HNU.out]
            rintro e w1 ⟨rfl, hb⟩
            go_wp2
            go_ret
            exact ⟨ret_atS_some HRN.out (by omega), hb⟩
        · by_cases hd3 : d = 36
          · subst hd3
            have HR3 := Lib.hid (HR.out.trans line_bulk)
            by_cases hmin : hd_ = [45, 49]
            · have HRN : Hid (repB numS k (tail_ s a) = some (m + 3)) := by rw [Hid, HR3.out, HHD.out, if_pos hmin]
              have hq : ((bs hd_).toList == [45, 49]) = true := by rw [bs_toList, hmin]; rfl
              have HDE : Hid (decOf hd_ = none) := by rw [Hid, hmin]; exact decOf_odd (i := 0) rfl (by unfold isDig; decide)
              clear hmin
              go_enter Tryd.func53, Tryd.ntmps53
              go_wp2_with fail
              go_at_call 70
              rw [HCA.out]
              refine (spec_l12Line_calls s (a + 1) _ (by omega) hs).mono ?_
              rw [HLN.out]
              rintro e w' ⟨rfl, hww⟩
              obtain rfl := hww.symm
              rw [HV.out]
              go_wp2_with fail
              go_at_call 72
              refine (spec_l12Whole_calls _ _ (by omega)).mono ?_
              rw [HH.out, HDE.out]
              rintro e w1 ⟨rfl, hb⟩
              have HB1 := Lib.hid hb
              clear hb
              simp only [whS]
              go_wp2
              go_ret
              exact ⟨ret_atS_some HRN.out (by omega), HB1.out⟩
            · have hq : ((bs hd_).toList == [45, 49]) = false := by rw [bs_toList]; exact beq_eq_false_iff_ne.mpr hmin
              have HRM : Hid (repB numS k (tail_ s a) = (decOf hd_).bind fun n => if ((tail_ s (a + 1)).drop (m + 2 + n)).take 2 = [13, 10] then some (m + 3 + n + 2) else none) := by rw [Hid, HR3.out, HHD.out, if_neg hmin]
              clear hmin
              cases hde : decOf hd_ with
              | none =>
                have HRN : Hid (repB numS k (tail_ s a) = none) := by rw [Hid, HRM.out, hde]; rfl
                have HDE := Lib.hid hde
                clear hde
                go_enter Tryd.func53, Tryd.ntmps53
                go_wp2_with fail
                go_at_call 70
                rw [HCA.out]
                refine (spec_l12Line_calls s (a + 1) _ (by omega) hs).mono ?_
                rw [HLN.out]
                rintro e w' ⟨rfl, hww⟩
                obtain rfl := hww.symm
                rw [HV.out]
                go_wp2_with fail
                go_at_call 72
                refine (spec_l12Whole_calls _ _ (by omega)).mono ?_
                rw [HH.out, HDE.out]
                rintro e w1 ⟨rfl, hb⟩
                have HB1 := Lib.hid hb
                clear hb
                simp only [whS]
                go_wp2
                go_ret
                exact ⟨ret_atS_none HRN.out rfl, HB1.out⟩
              | some n =>
                have hn9 := (decOf_spec hde).1
                have HRQ : Hid (repB numS k (tail_ s a) = if (tail_ s (a + 1 + (m + 2 + n))).take 2 = [13, 10] then some (m + 3 + n + 2) else none) := by rw [Hid, HRM.out, hde, Option.bind_some, HGD.out]
                have HDE := Lib.hid hde
                have htn := tail_len s (a + 1 + (m + 2 + n))
                have hn0 : (0 : Int) ≤ (n : Int) := by omega
                clear hde
                by_cases hfit : a + 1 + (m + 2 + n) + 2 ≤ s.size
                · have hex := extract_tail s (a + 1 + (m + 2 + n)) 2
                  have ht1 : ((a : Int) + 1 + (m : Int) + 2 + (n : Int)).toNat = a + 1 + (m + 2 + n) := by omega
                  have ht2 : ((a : Int) + 1 + (m : Int) + 4 + (n : Int)).toNat = a + 1 + (m + 2 + n) + 2 := by omega
                  have hf0 : (n : Int) ≤ (s.size : Int) := by omega
                  have hf1 : (0 : Int) ≤ (a : Int) + 1 + (m : Int) + 2 + (n : Int) := by omega
                  have hf2 : (a : Int) + 1 + (m : Int) + 2 + (n : Int) ≤ (a : Int) + 1 + (m : Int) + 4 + (n : Int) := by omega
                  have hf3 : (a : Int) + 1 + (m : Int) + 4 + (n : Int) ≤ (s.size : Int) := by omega
                  by_cases hcr : (tail_ s (a + 1 + (m + 2 + n))).take 2 = [13, 10]
                  · have HRN : Hid (repB numS k (tail_ s a) = some (m + 3 + n + 2)) := by rw [Hid, HRQ.out, if_pos hcr]
                    have hq2 : ((bs ((tail_ s (a + 1 + (m + 2 + n))).take 2)).toList == [13, 10]) = true := by rw [bs_toList, hcr]; rfl
                    clear hcr htn
                    generalize bs ((tail_ s (a + 1 + (m + 2 + n))).take 2) = Y at hex hq2
                    generalize hP : a + 1 + (m + 2 + n) = P at hex ht1 ht2
                    clear hP
                    go_enter Tryd.func53, Tryd.ntmps53
                    go_wp2_with fail
                    go_at_call 70
                    rw [HCA.out]
                    refine (spec_l12Line_calls s (a + 1) _ (by omega) hs).mono ?_
                    rw [HLN.out]
                    rintro e w' ⟨rfl, hww⟩
                    obtain rfl := hww.symm
                    rw [HV.out]
                    go_wp2_with fail
                    go_at_call 72
                    refine (spec_l12Whole_calls _ _ (by omega)).mono ?_
                    rw [HH.out, HDE.out]
                    rintro e w1 ⟨rfl, hb⟩
                    have HB1 := Lib.hid hb
                    clear hb
                    simp only [whS]
                    go_wp2
                    go_ret
                    exact ⟨ret_atS_some HRN.out (by omega), HB1.out⟩
                  · have HRN : Hid (repB numS k (tail_ s a) = none) := by rw [Hid, HRQ.out, if_neg hcr]
                    have hq2 : ((bs ((tail_ s (a + 1 + (m + 2 + n))).take 2)).toList == [13, 10]) = false := by rw [bs_toList]; exact beq_eq_false_iff_ne.mpr hcr
                    clear hcr htn
                    generalize bs ((tail_ s (a + 1 + (m + 2 + n))).take 2) = Y at hex hq2
                    generalize hP : a + 1 + (m + 2 + n) = P at hex ht1 ht2
                    clear hP
                    go_enter Tryd.func53, Tryd.ntmps53
                    go_wp2_with fail
                    go_at_call 70
                    rw [HCA.out]
                    refine (spec_l12Line_calls s (a + 1) _ (by omega) hs).mono ?_
                    rw [HLN.out]
                    rintro e w' ⟨rfl, hww⟩
                    obtain rfl := hww.symm
                    rw [HV.out]
                    go_wp2_with fail
                    go_at_call 72
                    refine (spec_l12Whole_calls _ _ (by omega)).mono ?_
                    rw [HH.out, HDE.out]
                    rintro e w1 ⟨rfl, hb⟩
                    have HB1 := Lib.hid hb
                    clear hb
                    simp only [whS]
                    go_wp2
                    go_ret
                    exact ⟨ret_atS_none HRN.out rfl, HB1.out⟩
                · have HRN : Hid (repB numS k (tail_ s a) = none) := by
                    rw [Hid, HRQ.out, if_neg]
                    intro e
                    have := congrArg List.length e
                    rw [List.length_take, htn] at this
                    simp only [List.length_cons, List.length_nil] at this
                    omega
                  have hf0 : ¬ (a : Int) + 1 + (m : Int) + 4 + (n : Int) ≤ (s.size : Int) := by omega
                  clear htn
                  by_cases hf9 : (n : Int) ≤ (s.size : Int)
                  all_goals
                    go_enter Tryd.func53, Tryd.ntmps53
                    go_wp2_with fail
                    go_at_call 70
                    rw [HCA.out]
                    refine (spec_l12Line_calls s (a + 1) _ (by omega) hs).mono ?_
                    rw [HLN.out]
                    rintro e w' ⟨rfl, hww⟩
                    obtain rfl := hww.symm
                    rw [HV.out]
                    go_wp2_with fail
                    go_at_call 72
                    refine (spec_l12Whole_calls _ _ (by omega)).mono ?_
                    rw [HH.out, HDE.out]
                    rintro e w1 ⟨rfl, hb⟩
                    have HB1 := Lib.hid hb
                    clear hb
                    simp only [whS]
                    go_wp2
                    go_ret
                    exact ⟨ret_atS_none HRN.out rfl, HB1.out⟩
          · by_cases hd4 : d = 42
            · subst hd4
              have HR3 := Lib.hid (HR.out.trans line_arr)
              cases hde : decOf hd_ with
              | none =>
                have HRN : Hid (repB numS k (tail_ s a) = none) := by rw [Hid, HR3.out, HHD.out, hde]; rfl
                have HDE := Lib.hid hde
                clear hde
                go_enter Tryd.func53, Tryd.ntmps53
                go_wp2_with fail
                go_at_call 70
                rw [HCA.out]
                refine (spec_l12Line_calls s (a + 1) _ (by omega) hs).mono ?_
                rw [HLN.out]
                rintro e w' ⟨rfl, hww⟩
                obtain rfl := hww.symm
                rw [HV.out]
                go_wp2_with fail
                go_at_call 72
                refine (spec_l12Whole_calls _ _ (by omega)).mono ?_
                rw [HH.out, HDE.out]
                rintro e w1 ⟨rfl, hb⟩
                have HB1 := Lib.hid hb
                clear hb
                simp only [whS]
                go_wp2
                go_ret
                exact ⟨ret_atS_none HRN.out rfl, HB1.out⟩
              | some n =>
                have hn9 := (decOf_spec hde).1
                have HRQ : Hid (repB numS k (tail_ s a) = (arr n (tail_ s (a + m + 3))).map (m + 3 + ·)) := by rw [Hid, HR3.out, HHD.out, hde, Option.bind_some, HGD.out, show a + 1 + (m + 2) = a + m + 3 by omega]
                have HDE := Lib.hid hde
                have hn0 : ¬ (n : Int) < 0 := by omega
                clear hde
                rcases HCASE.out with ⟨hk0, harr⟩ | ⟨j, hkj, harr⟩
                · have HRN : Hid (repB numS k (tail_ s a) = none) := by rw [Hid, HRQ.out, harr]; rfl
                  have hd4 : dp = 4 := by have := HDP.out; omega
                  clear harr hk0
                  subst hd4
                  go_enter Tryd.func53, Tryd.ntmps53
                  go_wp2_with fail
                  go_at_call 70
                  rw [HCA.out]
                  refine (spec_l12Line_calls s (a + 1) _ (by omega) hs).mono ?_
                  rw [HLN.out]
                  rintro e w' ⟨rfl, hww⟩
                  obtain rfl := hww.symm
                  rw [HV.out]
                  go_wp2_with fail
                  go_at_call 72
                  refine (spec_l12Whole_calls _ _ (by omega)).mono ?_
                  rw [HH.out, HDE.out]
                  rintro e w1 ⟨rfl, hb⟩
                  have HB1 := Lib.hid hb
                  clear hb
                  simp only [whS]
                  go_wp2
                  go_ret
                  exact ⟨ret_atS_none HRN.out rfl, HB1.out⟩
                · have HJ : Hid (AtS j) := by
                    rcases HI.out with e | ⟨j', e, h⟩
                    · omega
                    · obtain rfl : j = j' := by omega
                      exact h
                  have hdp3 : dp ≤ 3 := by have := HDP.out; omega
                  have hq4 : (dp == 4) = false := beq_eq_false_iff_ne.mpr (by omega)
                  have HDJ : Hid (dp + 1 = 4 - (j : Int)) := by (have := HDP.out; rw [Hid]; omega)
                  have HRM : Hid (repB numS k (tail_ s a) = (manyB (repB numS j) n (tail_ s (a + m + 3))).map (m + 3 + ·)) := by rw [Hid, HRQ.out, harr]
                  clear harr hkj
                  go_enter Tryd.func53, Tryd.ntmps53
                  go_wp2_with fail
                  go_at_call 70
                  rw [HCA.out]
                  refine (spec_l12Line_calls s (a + 1) _ (by omega) hs).mono ?_
                  rw [HLN.out]
                  rintro e w' ⟨rfl, hww⟩
                  obtain rfl := hww.symm
                  rw [HV.out]
                  go_wp2_with fail
                  go_at_call 72
                  refine (spec_l12Whole_calls _ _ (by omega)).mono ?_
                  rw [HH.out, HDE.out]
                  rintro e w1 ⟨rfl, hb⟩
                  have HB1 := Lib.hid hb
                  clear hb
                  simp only [whS]
                  go_wp2_with fail
                  go_loopw [1, 11] (fun ev iv wr => ∃ (i : Nat) (v : Int), i ≤ n ∧ iv = .int .i64 (i : Int) ∧ ev = .int .i64 v ∧ Hid (Below w.heap.size w wr) ∧ ((∃ u : Nat, v = (a : Int) + 1 + (m : Int) + 2 + (u : Int) ∧ a + m + 3 + u ≤ s.size ∧ Hid (MRel (repB numS j) n (tail_ s (a + m + 3)) i u)) ∨ (v = -1 ∧ Hid (manyB (repB numS j) n (tail_ s (a + m + 3)) = none)))) (fun _ iv _ => n - (intOf iv).toNat)
                  case atStart => exact ⟨0, _, Nat.zero_le _, rfl, rfl, HB1.out, .inl ⟨0, by simp, by omega, MRel.zero _ _ _⟩⟩
                  case round =>
                    obtain ⟨i, v, hin, rfl, rfl, HB, ⟨u, rfl, hu, HM⟩ | ⟨rfl, HNO⟩⟩ := hrel
                    · by_cases hlt : i < n
                      · have hli : (i : Int) < (n : Int) := by omega
                        have hge : (0 : Int) ≤ (a : Int) + 1 + (m : Int) + 2 + (u : Int) := by omega
                        have HAC := Lib.hid (HJ.out s (a + m + 3 + u) (dp + 1) wr HDJ.out (by omega) hs)
                        have HEQ : Hid ((tail_ s (a + m + 3)).drop u = tail_ s (a + m + 3 + u)) := tail_drop s _ _
                        have HTL := Lib.hid (tail_len s (a + m + 3 + u))
                        have hcast : ((a + m + 3 + u : Nat) : Int) = (a : Int) + 1 + (m : Int) + 2 + (u : Int) := by omega
                        rw [hcast] at HAC
                        cases hr : repB numS j (tail_ s (a + m + 3 + u)) with
                        | none =>
                          have HNO : Hid (manyB (repB numS j) n (tail_ s (a + m + 3)) = none) := HM.out.stop hlt (by rw [HEQ.out]; exact hr)
                          rw [hr] at HAC
                          clear hr hcast
                          go_wp2_with fail
                          go_at_call 53
                          refine HAC.out.mono ?_
                          rintro e w2 ⟨rfl, hb⟩
                          have HB2 := Lib.hid (HB.out.trans (hb.mono HB.out.size))
                          clear hb
                          simp only [atS]
                          go_wp2
                          go_roundw
                          case rel => first | exact ⟨i + 1, -1, by omega, by go_num, rfl, HB2, .inr ⟨rfl, HNO⟩⟩ | (repeat (first | (refine ⟨?relx, rfl⟩; exact ⟨i + 1, -1, by omega, by go_num, rfl, HB2, .inr ⟨rfl, HNO⟩⟩) | (refine ⟨?relx, ?eqs⟩; (case eqs => (and_intros <;> rfl)); exact ⟨i + 1, -1, by omega, by go_num, rfl, HB2, .inr ⟨rfl, HNO⟩⟩) | apply Exists.intro))
                          case measure => simp [intOf]; omega
                        | some v =>
                          have hv := (repB_reads numS j _ v hr).2.1
                          rw [HTL.out] at hv
                          have HMS := Lib.hid (HM.out.step hlt (by rw [HEQ.out]; exact hr))
                          rw [hr] at HAC
                          have hcast2 : ((a + m + 3 + u + v : Nat) : Int) = (a : Int) + 1 + (m : Int) + 2 + ((u + v : Nat) : Int) := by omega
                          clear hr hcast
                          go_wp2_with fail
                          go_at_call 53
                          refine HAC.out.mono ?_
                          rintro e w2 ⟨he, hb⟩
                          replace he : e = .returned (.int .i64 ((a + m + 3 + u + v : Nat) : Int)) := he
                          rw [hcast2] at he
                          subst he
                          have HB2 := Lib.hid (HB.out.trans (hb.mono HB.out.size))
                          clear hb hcast2
                          go_wp2
                          go_roundw
                          case rel => first | exact ⟨i + 1, _, by omega, by go_num, rfl, HB2, .inl ⟨u + v, by omega, by omega, HMS⟩⟩ | (repeat (first | (refine ⟨?relx, rfl⟩; exact ⟨i + 1, _, by omega, by go_num, rfl, HB2, .inl ⟨u + v, by omega, by omega, HMS⟩⟩) | (refine ⟨?relx, ?eqs⟩; (case eqs => (and_intros <;> rfl)); exact ⟨i + 1, _, by omega, by go_num, rfl, HB2, .inl ⟨u + v, by omega, by omega, HMS⟩⟩) | apply Exists.intro))
                          case measure => simp [intOf]; omega
                      · obtain rfl : i = n := by omega
                        have HRN : Hid (repB numS k (tail_ s a) = some (m + 3 + u)) := by rw [Hid, HRM.out, HM.out.all]; rfl
                        go_wp2
                        go_ret
                        exact ⟨ret_atS_some HRN.out (by omega), HB.out⟩
                    · have HRN : Hid (repB numS k (tail_ s a) = none) := by rw [Hid, HRM.out, HNO.out]; rfl
                      by_cases hlt : i < n
                      · have hli : (i : Int) < (n : Int) := by omega
                        go_wp2
                        go_ret
                        exact ⟨ret_atS_none HRN.out rfl, HB.out⟩
                      · have hli : ¬ (i : Int) < (n : Int) := by omega
                        go_wp2
                        go_ret
                        exact ⟨ret_atS_none HRN.out rfl, HB.out⟩
            · have HRN := Lib.hid (HR.out.trans (line_other hd ⟨fun e => hd1 (.inl e), fun e => hd1 (.inr e), hd2, hd3, hd4⟩))
              have q1 : ((d : Int) == 43) = false := beq_eq_false_iff_ne.mpr (by omega)
              have q2 : ((d : Int) == 45) = false := beq_eq_false_iff_ne.mpr (by omega)
              have q3 : ((d : Int) == 58) = false := beq_eq_false_iff_ne.mpr (by omega)
              have q4 : ((d : Int) == 36) = false := beq_eq_false_iff_ne.mpr (by omega)
              have q5 : ((d : Int) == 42) = false := beq_eq_false_iff_ne.mpr (by omega)
              clear hd1 hd2 hd3 hd4
              go_enter Tryd.func53, Tryd.ntmps53
              go_wp2_with fail
              go_at_call 70
              rw [HCA.out]
              refine (spec_l12Line_calls s (a + 1) _ (by omega) hs).mono ?_
              rw [HLN.out]
              rintro e w' ⟨rfl, hww⟩
              obtain rfl := hww.symm
              rw [HV.out]
              go_wp2
              go_ret
              exact ⟨ret_atS_none HRN.out rfl, Below.refl _ _⟩
  · exact atS_none k s a dp w hlt ha
theorem spec_l12At_all : ∀ k, k ≤ 4 → AtS k
  | 0, h => atS_step 0 h (.inl rfl)
  | k + 1, h => atS_step (k + 1) h (.inr ⟨k, rfl, spec_l12At_all k (by omega)⟩)
set_option maxRecDepth 100000 in
theorem spec_ReplyAt_calls (s : ByteArray) (a : Nat) (w : World) (ha : a ≤ s.size) (hs : s.size ≤ 1048576) :
    Calls Tryd.prog 31 #[.string s, .int .i64 (a : Int)] w fun e w' => e = .returned (atRes a (repB numS 4 (tail_ s a))) ∧ Below w.heap.size w w' := by
  have HI := Lib.hid (inR_true (n := (a : Int)) (lo := 0) (hi := (s.size : Int)) ⟨by omega, by omega⟩)
  have HAC := Lib.hid (spec_l12At_all 4 (Nat.le_refl _) s a 0 w rfl ha hs)
  cases hr : repB numS 4 (tail_ s a) with
  | none =>
    rw [hr] at HAC
    clear hr
    go_enter Tryd.func31, Tryd.ntmps31
    go_wp2_with fail
    go_at_call 52
    refine (spec_l01In_calls _ _ _ _).mono ?_
    rw [HI.out]
    rintro e w' ⟨rfl, rfl⟩
    go_wp2_with fail
    go_at_call 53
    refine HAC.out.mono ?_
    rintro e w2 ⟨rfl, hb⟩
    simp only [atS]
    go_wp2
    go_ret2
    exact ⟨atRes_none rfl, hb⟩
  | some v =>
    have hv := (repB_reads numS 4 _ v hr).2.1
    rw [tail_len] at hv
    rw [hr] at HAC
    clear hr
    go_enter Tryd.func31, Tryd.ntmps31
    go_wp2_with fail
    go_at_call 52
    refine (spec_l01In_calls _ _ _ _).mono ?_
    rw [HI.out]
    rintro e w' ⟨rfl, rfl⟩
    go_wp2_with fail
    go_at_call 53
    refine HAC.out.mono ?_
    rintro e w2 ⟨he, hb⟩
    replace he : e = .returned (.int .i64 ((a + v : Nat) : Int)) := he
    subst he
    go_wp2
    go_ret2
    exact ⟨atRes_some rfl (by omega), hb⟩
set_option maxHeartbeats 4000000 in
set_option maxRecDepth 100000 in
theorem spec_Replies_calls (s : ByteArray) (w : World) (hs : s.size ≤ 1000000) :
    Calls Tryd.prog 12 #[.string s] w (RsPost w (repsF numS (s.size + 1) (ub s))) := by
  obtain ⟨i0, hi, hz, hsz, hby⟩ := info_parts info_str
  go_enter Tryd.func12, Tryd.ntmps12
  go_wp2
  go_loopw [4, 5] (fun av kv wr => ∃ (i a : Nat) (out : List ByteArray) (v : Value), kv = .int .i64 (a : Int) ∧ v = av ∧ a ≤ s.size ∧ out.length ≤ 1000000 ∧ Hid (RsSt numS s i a out) ∧ Hid (OwnS wr w.heap.size v out) ∧ Hid (Below w.heap.size w wr)) (fun _ kv _ => s.size + 1 - (intOf kv).toNat)
  case atStart => exact ⟨0, 0, [], _, rfl, rfl, Nat.zero_le _, by simp, RsSt.start _ s, OwnS.empty _ (Nat.le_refl _), (Below.refl _ _).alloc (Nat.le_refl _) _⟩
  case round =>
    obtain ⟨i, a, out, v, rfl, rfl, ha, hol, HST, HO, HB⟩ := hrel
    by_cases hlt : a < s.size
    · have hlti : (a : Int) < (s.size : Int) := by omega
      have HAC := Lib.hid (spec_ReplyAt_calls s a wr ha (by omega))
      cases hr : repB numS 4 (tail_ s a) with
      | none =>
        have HR := Lib.hid (HST.out.stop hlt hr)
        rw [hr] at HAC
        clear hr
        go_wp2_with fail
        go_at_call 31
        refine HAC.out.mono ?_
        rintro e w2 ⟨rfl, hb⟩
        have HB2 := Lib.hid (HB.out.trans (hb.mono HB.out.size))
        clear hb
        simp only [atRes]
        go_wp2
        go_ret2
        exact rsPost_no HR.out (HB2.out.alloc HB2.out.size _)
      | some u =>
        have hu := repB_reads numS 4 _ u hr
        have hul := hu.2.1
        have hu3 := hu.1
        rw [tail_len] at hul
        have HS2 := Lib.hid (HST.out.step hlt hr)
        have hol2 : out.length + 1 ≤ 1000000 := by
          obtain ⟨q1, q2, q3, _⟩ := HS2.out
          rw [List.length_append, List.length_singleton] at q3
          omega
        rw [hr] at HAC
        clear hr hu
        have hcast : ((a + u : Nat) : Int) = (a : Int) + (u : Int) := by omega
        go_wp2_with fail
        go_at_call 31
        refine HAC.out.mono ?_
        rintro e w2 ⟨rfl, hb⟩
        have HB2 := Lib.hid (HB.out.trans (hb.mono HB.out.size))
        have HO2 := Lib.hid (HO.out.below hb)
        clear hb
        simp only [atRes]
        rw [hcast]
        have ht : ((a : Int) + (u : Int)).toNat = a + u := by omega
        have hb0 : (0 : Int) ≤ (a : Int) := by omega
        have hb1 : (a : Int) ≤ (a : Int) + (u : Int) := by omega
        have hb2 : (a : Int) + (u : Int) ≤ (s.size : Int) := by omega
        generalize hX : s.extract a (a + u) = X at HS2
        have HOWN : Hid ((w2.alloc (.cells #[.string X] 9)).ownsRow w.heap.size 9 1 v out.length (out.map Value.string)) := World.ownsRow.alloc HO2.out _
        have HNEWS : Hid (∀ j u, [Value.string X][j]? = some u → (w2.alloc (.cells #[.string X] 9)).cell? ((⟨w2.heap.size, 0, none⟩ : Addr).add j) = some u) := World.news_of_block (heap_alloc_new w2 _)
        have HBASE : Hid (w.heap.size ≤ (w2.alloc (.cells #[.string X] 9)).heap.size) := by have := HB2.out.size; rw [Hid]; simp; omega
        go_wp2_with (at_builtin; refine wpList_append_lies _ rfl _ _ _ rfl w.heap.size 9 i0 (.string ByteArray.empty) 1 16 Tryd.underlying24 hi hz hsz hby rfl (by omega) v out.length (out.map Value.string) rfl HOWN.out ⟨w2.heap.size, 0, none⟩ 1 1 [.string X] rfl rfl HNEWS.out (by simp [Value.oneCell']) (by omega) (by unfold maxLen; omega) (by omega) HBASE.out _ rfl ?_; intro g cap w4 hown hgrow hat hlt2)
        have HPU := Lib.hid (OwnS.pushed hown)
        have HBN := Lib.hid (below_push HB2.out HB2.out.size HO2.out hgrow)
        clear hown hgrow hat
        go_wp2
        go_roundw
        case rel => first | exact ⟨i + 1, a + u, out ++ [X], _, by go_num, rfl, by omega, by simp; omega, HS2, HPU, HBN⟩ | (repeat (first | (refine ⟨?relx, rfl⟩; exact ⟨i + 1, a + u, out ++ [X], _, by go_num, rfl, by omega, by simp; omega, HS2, HPU, HBN⟩) | (refine ⟨?relx, ?eqs⟩; (case eqs => (and_intros <;> rfl)); exact ⟨i + 1, a + u, out ++ [X], _, by go_num, rfl, by omega, by simp; omega, HS2, HPU, HBN⟩) | apply Exists.intro))
        case measure => simp [intOf]; omega
    · have HR := Lib.hid (HST.out.all hlt)
      go_wp2
      go_ret2
      exact rsPost_yes HR.out HB.out HO.out
end Go.Proofs.YtdoaemagednclaaDoor
