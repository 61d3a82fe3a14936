/- ParseRequest: the reference's tells reqB. By wip/tools/genreq8.py. -/
import Derived.Test.YtanpkomifhbhnaaDoorReq7
import Derived.Test.YtanpkomifhbhnaaDoorReq6
namespace Go.Proofs.YtanpkomifhbhnaaDoor
set_option linter.unusedVariables false
set_option linter.unusedSimpArgs false
open Go.RowKit
attribute [local go_sem] bs_size List.length_cons List.length_nil List.length_append

theorem below_size_le {w w' : World} {o : Obj} (h : Below (w.heap.size + 1) (w.alloc o) w') : w.heap.size + 1 ≤ w'.heap.size := by
  have := h.size
  simpa using this
set_option maxHeartbeats 8000000 in
set_option maxRecDepth 100000 in
theorem spec_ParseRequest_calls (s : ByteArray) (w : World) (hs : s.size ≤ 1048576) :
    Calls Tryd.prog 19 #[.string s] w (ReqPost w (reqB (ub s))) := by
  obtain ⟨i0, hi, hz, hsz, hby⟩ := info_parts info_str
  have HB0 : Hid (Below (w.heap.size + 1) (w.alloc (.cells #[] 9)) (w.alloc (.cells #[] 9))) := Below.refl _ _
  have HB1 : Hid (Below w.heap.size w (w.alloc (.cells #[] 9))) := (Below.refl _ _).alloc (Nat.le_refl _) _
  by_cases he : s.size = 0
  · obtain rfl : s = ⟨#[]⟩ := by rw [← bs_ub s]; exact congrArg bs (List.eq_nil_of_length_eq_zero (by rw [ub_length, he]))
    go_enter Tryd.func19, Tryd.ntmps19
    go_wp2
    go_ret3
    exact reqPost_of (r := reqB (ub ⟨#[]⟩)) (xs := []) (n := 0) (h := 0) rfl rfl rfl HB1.out (strOwn_none HB0.out)
  · have hs0 : 0 < s.size := by omega
    have hq : (s.toList == []) = false := beq_eq_false_iff_ne.mpr fun e => he (by
      rw [ByteArray.toList_eq] at e
      have := ub_length s
      unfold ub at this
      rw [e] at this
      simpa using this.symm)
    obtain ⟨d, hd, hsd, hc, hcd⟩ := tail_byte (s := s) (a := 0) (i := 0) (by omega)
    have hc' : (ub s)[0]? = some (UInt8.ofNat d) := hc
    have hsd' : (s[0]'hs0).toNat = d := by simpa using hsd
    have hsi : (0 : Int) < (s.size : Int) := by omega
    by_cases h42 : d = 42
    · have hhd : (ub s)[0]? = some 42 := by rw [hc', h42]; rfl
      have hdr : (ub s).drop 1 = tail_ s 1 := rfl
      subst h42
      clear hsd hc hc' hcd he
      cases hr : numB 8 (tail_ s 1) with
      | mk m q =>
        obtain ⟨u, h⟩ := q
        by_cases h1 : h = 1
        · subst h1
          obtain ⟨hm, hu, hul⟩ := numB_most hr
          rw [tail_len] at hul
          have hRA := reqB_args hhd (by rw [hdr]; exact hr)
          rw [show (ub s).drop (1 + u) = tail_ s (1 + u) from rfl] at hRA
          have HRA := Lib.hid hRA
          have HRR := Lib.hid hr
          have HST := Lib.hid (ArgSt.start (s := s) (m := m) (a := 1 + u) (by omega))
          have hnn : ¬ (((1 + u : Nat) : Int) < 0) := by omega
          clear hr hRA hhd hdr
          go_enter Tryd.func19, Tryd.ntmps19
          go_wp2_with fail
          go_at_call 60
          refine (spec_l11Num_calls s 1 8 _ (by omega) (by omega) (by omega)).mono ?_
          rw [HRR.out]
          rintro e w' ⟨rfl, hb⟩
          have HBW : Hid (Below (w.heap.size + 1) (w.alloc (.cells #[] 9)) w') := hb.mono (by simp)
          have hws : w.heap.size + 1 ≤ w'.heap.size := below_size_le HBW.out
          simp only [snmRes, if_true]
          have HBZ : Hid (Below (w.heap.size + 1) (w.alloc (.cells #[] 9)) (w'.alloc (.cells #[] 9))) := HBW.out.alloc hws _
          have HOZ : Hid (OwnS (w'.alloc (.cells #[] 9)) (w.heap.size + 1) (.slice (some ⟨w'.heap.size, 0, none⟩) 0 0) []) := OwnS.empty w' hws
          clear hb
          go_wp2
          go_loopw [7, 8, 9] (fun kv av iv wr => ∃ (i a : Nat) (out : List (List UInt8)) (acc : List ByteArray) (v : Value), iv = .int .i64 (i : Int) ∧ kv = .int .i64 (a : Int) ∧ v = av ∧ acc = out.map bs ∧ acc.length = i ∧ ArgSt s m (1 + u) i a out ∧ OwnS wr (w.heap.size + 1) v acc ∧ Below (w.heap.size + 1) (w.alloc (.cells #[] 9)) wr) (fun _ _ iv _ => m - (intOf iv).toNat)
          case atStart => exact ⟨0, 1 + u, [], [], _, rfl, rfl, rfl, rfl, rfl, HST.out, HOZ.out, HBZ.out⟩
          case round =>
            obtain ⟨i, a, out, acc, v, rfl, rfl, rfl, hacc, hai, hst, hown, hbel⟩ := hrel
            have HACC := Lib.hid hacc
            have HAI := Lib.hid hai
            have HSA := Lib.hid hst
            have HOW := Lib.hid hown
            have HBE := Lib.hid hbel
            have hal : acc.length ≤ 8 := by have := hst.2.2.1; omega
            have ha1 := hst.2.1
            have HWS : Hid (w.heap.size + 1 ≤ wr.heap.size) := below_size_le hbel
            obtain ⟨A, cc, hv⟩ := hown.form
            subst hv
            clear hacc hai hst hown hbel
            by_cases him : i < m
            · by_cases hae : a = s.size
              · have hke : ((a : Int) == (s.size : Int)) = true := beq_iff_eq.mpr (by omega)
                have hbn : bulkB (tail_ s a) = ([], 0, 0) := by rw [tail_empty (by omega)]; exact bulkB_nil
                have HF := Lib.hid (HSA.out.fail him (by rw [hbn]; simp))
                have HR : Hid (reqB (ub s) = ([], 0, 0)) := by rw [Hid, HRA.out, HF.out, hbn, if_pos (by simp)]
                clear hbn hae
                go_wp2
                go_ret3
                exact reqPost_of HR.out rfl rfl (HB1.out.trans (HBE.out.mono (by omega))) (strOwn_none HBE.out)
              · have hlt : a < s.size := by omega
                have hke : ((a : Int) == (s.size : Int)) = false := beq_eq_false_iff_ne.mpr (by omega)
                obtain ⟨f, hf, hsf, hcf, hcfd⟩ := tail_byte (s := s) (a := a) (i := 0) (by omega)
                have hsf' : (s[a]'hlt).toNat = f := hsf
                clear hsf hae
                by_cases h36 : f = 36
                · have hhd : (tail_ s a)[0]? = some 36 := by rw [hcf, h36]; rfl
                  have hnum : (tail_ s a).drop 1 = tail_ s (a + 1) := tail_drop s a 1
                  subst h36
                  clear hcf hcfd
                  cases hr2 : numB 60 (tail_ s (a + 1)) with
                  | mk n q =>
                    obtain ⟨u2, h2⟩ := q
                    have HRR2 := Lib.hid hr2
                    have hca : ((a : Int) + 1) = ((a + 1 : Nat) : Int) := by omega
                    have HCA := Lib.hid hca
                    have hw1 : IntKind.i64.wrap ((a : Int) + 1) = (a : Int) + 1 := by rw [IntKind.wrap_i64]; omega
                    clear hca
                    by_cases h21 : h2 = 1
                    · subst h21
                      obtain ⟨hn, hu2, hul2⟩ := numB_most hr2
                      have hBA := bulkB_at hhd (by rw [hnum]; exact hr2)
                      rw [tail_drop] at hBA
                      rw [tail_len] at hul2
                      obtain ⟨p, hp⟩ : ∃ p, p = a + 1 + u2 := ⟨_, rfl⟩
                      rw [show a + (1 + u2) = p by omega, tail_len] at hBA
                      have HP := Lib.hid hp
                      have hps : p ≤ s.size := by omega
                      have hap : a + 1 ≤ p := by omega
                      have HBA := Lib.hid hBA
                      have hwsub : IntKind.i64.wrap ((s.size : Int) - (p : Int)) = (s.size : Int) - (p : Int) := by rw [IntKind.wrap_i64]; omega
                      have hpn : ¬ (p : Int) < 0 := by omega
                      clear hBA hr2 hhd hnum hp
                      by_cases hl0 : n < s.size - p
                      · obtain ⟨x, hx, hsx, hrx, hxx⟩ := tail_byte (s := s) (a := p) (i := n) (by omega)
                        have htx : ((p : Int) + (n : Int)).toNat = p + n := by omega
                        have hg1 : (n : Int) < (s.size : Int) - (p : Int) := by omega
                        by_cases h13 : x = 13
                        · have hrx' : (tail_ s p)[n]? = some 13 := by rw [hrx, h13]; rfl
                          subst h13
                          by_cases hl1 : n + 1 < s.size - p
                          · obtain ⟨y, hy, hsy, hry, hyy⟩ := tail_byte (s := s) (a := p) (i := n + 1) (by omega)
                            have hsy' : (s[p + n + 1]'(by omega)).toNat = y := hsy
                            have hty : ((p : Int) + (n : Int) + 1).toNat = p + n + 1 := by omega
                            have hg2 : (n : Int) + 1 < (s.size : Int) - (p : Int) := by omega
                            by_cases h10 : y = 10
                            · have hry' : (tail_ s p)[n + 1]? = some 10 := by rw [hry, h10]; rfl
                              have hbn : bulkB (tail_ s a) = ((tail_ s p).take n, 1 + u2 + n + 2, 1) := by rw [HBA.out, if_neg (by rw [hrx', hry']; simp), if_neg (by omega)]
                              have hsl : s.extract p (p + n) = bs ((tail_ s p).take n) := extract_tail s p n
                              have hg3 : ¬ (s.size : Int) - (p : Int) < (n : Int) + 2 := by omega
                              have HN := Lib.hid (HSA.out.step him hbn)
                              subst h10
                              generalize (tail_ s p).take n = z at hsl HN hbn
                              have HAN : Hid (acc ++ [bs z] = (out ++ [z]).map bs) := by rw [Hid, List.map_append, HACC.out]; rfl
                              clear hbn hrx hry hrx' hry' hxx hyy hsy
                              go_wp2_with fail
                              go_at_call 60
                              rw [HCA.out]
                              refine (spec_l11Num_calls s (a + 1) 60 _ (by omega) (by omega) (by omega)).mono ?_
                              rw [HRR2.out]
                              rintro e w2 ⟨rfl, hb⟩
                              have HBN := Lib.hid (HBE.out.trans (hb.mono HWS.out))
                              have HOB := Lib.hid (HOW.out.below hb)
                              have HWB : Hid (w.heap.size + 1 ≤ w2.heap.size) := below_size_le HBN.out
                              clear hb
                              simp only [snmRes, if_true, ← HP.out]
                              have HOWN : Hid ((w2.alloc (.cells #[.string (bs z)] 9)).ownsRow (w.heap.size + 1) 9 1 (.slice A acc.length cc) acc.length (acc.map Value.string)) := World.ownsRow.alloc HOB.out _
                              have HNEWS : Hid (∀ j u, [Value.string (bs z)][j]? = some u → (w2.alloc (.cells #[.string (bs z)] 9)).cell? ((⟨w2.heap.size, 0, none⟩ : Addr).add j) = some u) := World.news_of_block (heap_alloc_new w2 _)
                              have HBASE : Hid (w.heap.size + 1 ≤ (w2.alloc (.cells #[.string (bs z)] 9)).heap.size) := by have := HWB.out; rw [Hid]; simp; omega
                              go_wp2_with (at_builtin; refine wpList_append_lies _ rfl _ _ _ rfl (w.heap.size + 1) 9 i0 (.string ByteArray.empty) 1 16 Tryd.underlying22 hi hz hsz hby rfl (by omega) (.slice A acc.length cc) acc.length (acc.map Value.string) rfl HOWN.out ⟨w2.heap.size, 0, none⟩ 1 1 [.string (bs z)] rfl rfl HNEWS.out (by simp [Value.oneCell']) (by omega) (by unfold maxLen; omega) (by omega) HBASE.out _ rfl ?_; intro g cap w5 hown hgrow hat hlt2)
                              have HPU := Lib.hid (OwnS.pushed hown)
                              have HBM := Lib.hid (below_push HBN.out HWB.out HOB.out hgrow)
                              clear hown hgrow hat
                              go_wp2
                              go_roundw
                              case rel => first | exact ⟨i + 1, a + (1 + u2 + n + 2), out ++ [z], acc ++ [bs z], _, by go_num, congrArg (Value.int .i64) (by have := HP.out; omega), rfl, HAN.out, by rw [List.length_append, HAI.out]; rfl, HN.out, HPU.out, HBM.out⟩ | (repeat (first | (refine ⟨?relx, rfl⟩; exact ⟨i + 1, a + (1 + u2 + n + 2), out ++ [z], acc ++ [bs z], _, by go_num, congrArg (Value.int .i64) (by have := HP.out; omega), rfl, HAN.out, by rw [List.length_append, HAI.out]; rfl, HN.out, HPU.out, HBM.out⟩) | (refine ⟨?relx, ?eqs⟩; (case eqs => (and_intros <;> rfl)); exact ⟨i + 1, a + (1 + u2 + n + 2), out ++ [z], acc ++ [bs z], _, by go_num, congrArg (Value.int .i64) (by have := HP.out; omega), rfl, HAN.out, by rw [List.length_append, HAI.out]; rfl, HN.out, HPU.out, HBM.out⟩) | apply Exists.intro))
                              case measure => simp [intOf]; omega
                            · have hyb : ((y : Int) != 10) = true := bne_iff_ne.mpr (by omega)
                              have hbn : bulkB (tail_ s a) = ([], 0, 2) := by rw [HBA.out, if_pos (.inr ⟨hl1, by rw [hry]; exact fun e => h10 ((ofNat_eq hyy 10 rfl).1 (Option.some.inj e))⟩)]
                              have HF := Lib.hid (HSA.out.fail him (by rw [hbn]; simp))
                              have HR : Hid (reqB (ub s) = ([], 0, 2)) := by rw [Hid, HRA.out, HF.out, hbn, if_pos (by simp)]
                              clear hbn
                              clear hrx hry hrx' hxx hyy hsy
                              go_wp2_with fail
                              go_at_call 60
                              rw [HCA.out]
                              refine (spec_l11Num_calls s (a + 1) 60 _ (by omega) (by omega) (by omega)).mono ?_
                              rw [HRR2.out]
                              rintro e w2 ⟨rfl, hb⟩
                              have HBN := Lib.hid (HBE.out.trans (hb.mono HWS.out))
                              have HOB := Lib.hid (HOW.out.below hb)
                              have HWB : Hid (w.heap.size + 1 ≤ w2.heap.size) := below_size_le HBN.out
                              clear hb
                              simp only [snmRes, if_true, ← HP.out]
                              go_wp2
                              go_ret3
                              exact reqPost_of HR.out rfl rfl (HB1.out.trans (HBN.out.mono (by omega))) (strOwn_none HBN.out)
                          · have hg2 : ¬ (n : Int) + 1 < (s.size : Int) - (p : Int) := by omega
                            have hg3 : (s.size : Int) - (p : Int) < (n : Int) + 2 := by omega
                            have hbn : bulkB (tail_ s a) = ([], 0, 0) := by rw [HBA.out, if_neg (by rw [hrx']; simp; omega), if_pos (by omega)]
                            have HF := Lib.hid (HSA.out.fail him (by rw [hbn]; simp))
                            have HR : Hid (reqB (ub s) = ([], 0, 0)) := by rw [Hid, HRA.out, HF.out, hbn, if_pos (by simp)]
                            clear hbn
                            clear hrx hrx' hxx
                            go_wp2_with fail
                            go_at_call 60
                            rw [HCA.out]
                            refine (spec_l11Num_calls s (a + 1) 60 _ (by omega) (by omega) (by omega)).mono ?_
                            rw [HRR2.out]
                            rintro e w2 ⟨rfl, hb⟩
                            have HBN := Lib.hid (HBE.out.trans (hb.mono HWS.out))
                            have HOB := Lib.hid (HOW.out.below hb)
                            have HWB : Hid (w.heap.size + 1 ≤ w2.heap.size) := below_size_le HBN.out
                            clear hb
                            simp only [snmRes, if_true, ← HP.out]
                            go_wp2
                            go_ret3
                            exact reqPost_of HR.out rfl rfl (HB1.out.trans (HBN.out.mono (by omega))) (strOwn_none HBN.out)
                        · have hxb : ((x : Int) != 13) = true := bne_iff_ne.mpr (by omega)
                          have hbn : bulkB (tail_ s a) = ([], 0, 2) := by rw [HBA.out, if_pos (.inl ⟨hl0, by rw [hrx]; exact fun e => h13 ((ofNat_eq hxx 13 rfl).1 (Option.some.inj e))⟩)]
                          have HF := Lib.hid (HSA.out.fail him (by rw [hbn]; simp))
                          have HR : Hid (reqB (ub s) = ([], 0, 2)) := by rw [Hid, HRA.out, HF.out, hbn, if_pos (by simp)]
                          clear hbn
                          clear hrx hxx
                          go_wp2_with fail
                          go_at_call 60
                          rw [HCA.out]
                          refine (spec_l11Num_calls s (a + 1) 60 _ (by omega) (by omega) (by omega)).mono ?_
                          rw [HRR2.out]
                          rintro e w2 ⟨rfl, hb⟩
                          have HBN := Lib.hid (HBE.out.trans (hb.mono HWS.out))
                          have HOB := Lib.hid (HOW.out.below hb)
                          have HWB : Hid (w.heap.size + 1 ≤ w2.heap.size) := below_size_le HBN.out
                          clear hb
                          simp only [snmRes, if_true, ← HP.out]
                          go_wp2
                          go_ret3
                          exact reqPost_of HR.out rfl rfl (HB1.out.trans (HBN.out.mono (by omega))) (strOwn_none HBN.out)
                      · have hg1 : ¬ (n : Int) < (s.size : Int) - (p : Int) := by omega
                        have hg2 : ¬ (n : Int) + 1 < (s.size : Int) - (p : Int) := by omega
                        have hg3 : (s.size : Int) - (p : Int) < (n : Int) + 2 := by omega
                        have hbn : bulkB (tail_ s a) = ([], 0, 0) := by rw [HBA.out, if_neg (by omega), if_pos (by omega)]
                        have HF := Lib.hid (HSA.out.fail him (by rw [hbn]; simp))
                        have HR : Hid (reqB (ub s) = ([], 0, 0)) := by rw [Hid, HRA.out, HF.out, hbn, if_pos (by simp)]
                        clear hbn
                        go_wp2_with fail
                        go_at_call 60
                        rw [HCA.out]
                        refine (spec_l11Num_calls s (a + 1) 60 _ (by omega) (by omega) (by omega)).mono ?_
                        rw [HRR2.out]
                        rintro e w2 ⟨rfl, hb⟩
                        have HBN := Lib.hid (HBE.out.trans (hb.mono HWS.out))
                        have HOB := Lib.hid (HOW.out.below hb)
                        have HWB : Hid (w.heap.size + 1 ≤ w2.heap.size) := below_size_le HBN.out
                        clear hb
                        simp only [snmRes, if_true, ← HP.out]
                        go_wp2
                        go_ret3
                        exact reqPost_of HR.out rfl rfl (HB1.out.trans (HBN.out.mono (by omega))) (strOwn_none HBN.out)
                    · have hle2 := (numB_how 60 (tail_ s (a + 1))).1
                      rw [hr2] at hle2
                      have hbn : bulkB (tail_ s a) = ([], 0, h2) := by rw [bulkB_num hhd (by rw [hnum, hr2]; exact h21), hnum, hr2]
                      have HF := Lib.hid (HSA.out.fail him (by rw [hbn]; exact h21))
                      have HR : Hid (reqB (ub s) = ([], 0, h2)) := by rw [Hid, HRA.out, HF.out, hbn, if_pos h21]
                      have H21 := Lib.hid h21
                      have h22 : h2 = 0 ∨ h2 = 2 := by
                        have : h2 ≤ 2 := hle2
                        omega
                      clear hbn hr2 hhd hnum hle2 h21
                      rcases h22 with rfl | rfl
                      all_goals
                        go_wp2_with fail
                        go_at_call 60
                        rw [HCA.out]
                        refine (spec_l11Num_calls s (a + 1) 60 _ (by omega) (by omega) (by omega)).mono ?_
                        rw [HRR2.out]
                        rintro e w2 ⟨rfl, hb⟩
                        have HBN := Lib.hid (HBE.out.trans (hb.mono HWS.out))
                        clear hb
                        simp only [snmRes, if_neg H21.out, if_true, show ¬ (2 : Nat) = 0 from by omega, if_false]
                        go_wp2_with fail
                        go_at_call 61
                        refine (spec_l11Code_calls _ _).mono ?_
                        rintro e w3 ⟨rfl, rfl⟩
                        go_wp2
                        go_ret3
                        exact reqPost_of HR.out rfl rfl (HB1.out.trans (HBN.out.mono (by omega))) (strOwn_none HBN.out)
                · have hfb : ((f : Int) != 36) = true := bne_iff_ne.mpr (by omega)
                  have hbn : bulkB (tail_ s a) = ([], 0, 2) := bulkB_other (l := tail_ s a) (by intro e; rw [e] at hcf; simp at hcf) (by rw [hcf]; exact fun e => h36 ((ofNat_eq hcfd 36 rfl).1 (Option.some.inj e)))
                  have HF := Lib.hid (HSA.out.fail him (by rw [hbn]; simp))
                  have HR : Hid (reqB (ub s) = ([], 0, 2)) := by rw [Hid, HRA.out, HF.out, hbn, if_pos (by simp)]
                  clear hbn hcf hcfd
                  go_wp2
                  go_ret3
                  exact reqPost_of HR.out rfl rfl (HB1.out.trans (HBE.out.mono (by omega))) (strOwn_none HBE.out)
            · obtain rfl : m = i := by have := HSA.out.2.2.1; omega
              have HF := Lib.hid HSA.out.done
              have hle := HSA.out.1
              have HR : Hid (reqB (ub s) = (out, a, 1)) := by rw [Hid, HRA.out, HF.out, if_neg (by simp), show 1 + u + (a - (1 + u)) = a by omega]
              go_wp2
              go_ret3
              exact reqPost_of HR.out rfl rfl (HB1.out.trans (HBE.out.mono (by omega))) (by rw [← HACC.out]; exact HOW.out.own (by omega))
        · have hle2 := (numB_how 8 (tail_ s 1)).1
          rw [hr] at hle2
          have HR : Hid (reqB (ub s) = ([], 0, h)) := by rw [Hid, reqB_num hhd (by rw [hdr, hr]; exact h1), hdr, hr]
          have HRR := Lib.hid hr
          have H1 := Lib.hid h1
          have h02 : h = 0 ∨ h = 2 := by
            have : h ≤ 2 := hle2
            omega
          clear hr hhd hdr h1 hle2
          rcases h02 with rfl | rfl
          all_goals
            go_enter Tryd.func19, Tryd.ntmps19
            go_wp2_with fail
            go_at_call 60
            refine (spec_l11Num_calls s 1 8 _ (by omega) (by omega) (by omega)).mono ?_
            rw [HRR.out]
            rintro e w' ⟨rfl, hb⟩
            have HBN : Hid (Below (w.heap.size + 1) (w.alloc (.cells #[] 9)) w') := hb.mono (by simp)
            clear hb
            simp only [snmRes, if_neg H1.out, if_true, show ¬ (2 : Nat) = 0 from by omega, if_false]
            go_wp2_with fail
            go_at_call 61
            refine (spec_l11Code_calls _ _).mono ?_
            rintro e w3 ⟨rfl, rfl⟩
            go_wp2
            go_ret3
            exact reqPost_of HR.out rfl rfl (HB1.out.trans (HBN.out.mono (by omega))) (strOwn_none HBN.out)
    · have hdb : ((d : Int) != 42) = true := bne_iff_ne.mpr (by omega)
      have HR : Hid (reqB (ub s) = lineB (ub s)) := reqB_line (by intro e; rw [e] at hc'; simp at hc') (by rw [hc']; exact fun e => h42 ((ofNat_eq hcd 42 rfl).1 (Option.some.inj e)))
      clear hsd hc hc' hcd he
      go_enter Tryd.func19, Tryd.ntmps19
      go_wp2_with fail
      go_at_call 59
      refine (spec_l11Line_calls s _ hs).mono ?_
      rintro e w' ⟨hb, v, rfl, ho⟩
      have HO := Lib.hid (ho.mono (B' := w.heap.size) (by simp))
      have HB := Lib.hid (HB1.out.trans (hb.mono (by simp)))
      clear ho hb
      go_wp2
      go_ret3
      exact ⟨HB.out, v, by rw [HR.out]; rfl, by rw [HR.out]; exact HO.out⟩
end Go.Proofs.YtanpkomifhbhnaaDoor
