/- Requests, the reference's. Made from Reqs.tpl's block. -/
import Derived.Test.YtanpkomifhbhnaaDoorReqs
namespace Go.Proofs.YtanpkomifhbhnaaDoor
set_option linter.unusedVariables false
set_option linter.unusedSimpArgs false
open Go.RowKit
attribute [local go_sem] bs_size List.length_cons List.length_nil List.length_append

set_option maxHeartbeats 4000000 in
set_option maxRecDepth 100000 in
theorem spec_Requests_calls (s : ByteArray) (w : World) (hs : s.size ≤ 1048576) :
    Calls Tryd.prog 25 #[.string s] w (RqPost w (reqsF (s.size + 1) (ub s))) := by
  obtain ⟨i0, hi, hz, hsz, hby⟩ := info_parts info_slc
  go_enter Tryd.func25, Tryd.ntmps25
  go_wp2
  go_loopw [5, 6] (fun av kv wr => ∃ (i a : Nat) (out : List (List (List UInt8))) (v : Value), kv = .int .i64 (a : Int) ∧ v = av ∧ RqSt s i a out ∧ OwnSS wr w.heap.size v (out.map (·.map bs)) ∧ Below w.heap.size w wr) (fun _ kv _ => s.size + 1 - (intOf kv).toNat)
  case atStart => exact ⟨0, 0, [], _, rfl, rfl, RqSt.start s, ⟨[], trivial, World.ownsRow_made w #[] 0 (Nat.le_refl _) (Nat.zero_le _) rfl, fun _ _ _ hu => by simp at hu⟩, (Below.refl _ _).alloc (Nat.le_refl _) _⟩
  case round =>
    obtain ⟨i, a, out, v, rfl, rfl, hst, ⟨vs, hr, ho⟩, hbel⟩ := hrel
    have ha := hst.1
    have hia := hst.2.1
    have hvl : vs.length = i := by rw [hr.length, List.length_map, hst.2.2.1]
    have hvn : vs.length ≤ 1048577 := by omega
    obtain ⟨A, c, hv⟩ := ho.form
    subst hv
    have HST := Lib.hid hst
    have HR := Lib.hid hr
    have HO := Lib.hid ho
    have HB := Lib.hid hbel
    have HVL := Lib.hid hvl
    by_cases hend : a = s.size
    · subst hend
      have ht0 : tail_ s s.size = [] := by rw [← List.length_eq_zero_iff, tail_len, Nat.sub_self]
      have hr0 : reqB (tail_ s s.size) = ([], 0, 0) := by rw [ht0]; rfl
      have hs1 := HST.out.stop (by rw [hr0]; simp)
      rw [hr0] at hs1
      have HS1 := Lib.hid hs1
      clear hst hr ho hbel hvl ht0 hr0 hs1
      go_wp2
      go_ret3
      exact rqPost_of HS1.out rfl rfl HB.out ⟨vs, HR.out, HO.out⟩
    · have halt : a < s.size := by omega
      have hali : (a : Int) < (s.size : Int) := by omega
      have hsl : s.extract a s.size = bs (tail_ s a) := extract_end s a
      have hub : ub (bs (tail_ s a)) = tail_ s a := ub_bs _
      have hts : (bs (tail_ s a)).size ≤ 1048576 := by rw [bs_size, tail_len]; omega
      have HP := Lib.hid (fun w => spec_ParseRequest_calls (bs (tail_ s a)) w hts)
      rw [Hid, hub] at HP
      have HP : Hid _ := HP
      have HXS := Lib.hid (reqXs_small (tail_ s a))
      have HSTEP := Lib.hid hst.step
      have HSTOP := Lib.hid hst.stop
      have HUSED := Lib.hid (fun h => reqB_used (l := tail_ s a) h)
      have hi0a : (0 : Int) ≤ (a : Int) := by omega
      have hi1a : (a : Int) ≤ (s.size : Int) := by omega
      clear hst hr ho hbel hvl hub hts
      generalize reqB (tail_ s a) = r at HP HXS HSTEP HSTOP HUSED
      obtain ⟨xs, n, h⟩ := r
      generalize tail_ s a = T at hsl HP HUSED
      by_cases h1 : h = 1
      · subst h1
        have hun := HUSED.out rfl
        have hTl : T.length ≤ s.size := by
          have h5 := congrArg ByteArray.size hsl
          rw [bs_size, ByteArray.size_extract] at h5
          omega
        have HN := Lib.hid (HSTEP.out rfl)
        have han : a + n ≤ s.size := HN.out.1
        go_wp2_with fail
        go_at_call 19
        refine (HP.out _).mono ?_
        rintro e w1 ⟨hb1, v1, rfl, ho1⟩
        obtain ⟨A1, c1, hv1⟩ := ho1.form
        subst hv1
        have HB1 := Lib.hid hb1
        have HO1 := Lib.hid ho1
        have HWS : Hid (w.heap.size ≤ w1.heap.size) := Nat.le_trans HB.out.size hb1.size
        have HOWN : Hid ((w1.alloc (.cells #[.slice A1 (xs.map bs).length c1] 22)).ownsRow w.heap.size 22 1 (.slice A vs.length c) vs.length vs) := ((HO.out.kept (row := none) ⟨hb1.os, hb1.tape, hb1.output, hb1.size, fun k hk _ => hb1.block k hk⟩ (fun _ _ e => by cases e)).1).alloc _
        have HNEWS : Hid (∀ j u, [Value.slice A1 (xs.map bs).length c1][j]? = some u → (w1.alloc (.cells #[.slice A1 (xs.map bs).length c1] 22)).cell? ((⟨w1.heap.size, 0, none⟩ : Addr).add j) = some u) := World.news_of_block (heap_alloc_new w1 _)
        have HBASE : Hid (w.heap.size ≤ (w1.alloc (.cells #[.slice A1 (xs.map bs).length c1] 22)).heap.size) := by have := HWS.out; rw [Hid]; simp; omega
        clear hb1 ho1
        generalize hxl : (xs.map bs).length = nx at HOWN HNEWS HBASE HO1 ⊢
        clear hxl
        go_wp2_with (at_builtin; refine wpList_append_lies _ rfl _ _ _ rfl w.heap.size 22 i0 (.slice none 0 0) 1 24 Tryd.underlying33 hi hz hsz hby rfl (by omega) (.slice A vs.length c) vs.length vs rfl HOWN.out ⟨w1.heap.size, 0, none⟩ 1 1 [.slice A1 nx c1] rfl rfl HNEWS.out (by simp [Value.oneCell']) (by omega) (by unfold maxLen; omega) (by omega) HBASE.out _ rfl ?_; intro g cap w2 hown hgrow hat hlt2)
        have HPU := Lib.hid (OwnSS.push HR.out HO.out HB1.out HO1.out HXS.out HB.out.size hown hgrow hat)
        have HBN : Hid (Below w.heap.size w w2) := ((HB.out.trans (HB1.out.mono HB.out.size)).alloc HWS.out _).grown hgrow (by have := HWS.out; simp; omega) fun k hk => (HO.out.1.lt k hk).1
        clear hown hgrow hat
        go_wp2
        go_roundw
        case rel => first | exact ⟨i + 1, a + n, out ++ [xs], _, by go_num, rfl, HN.out, by rw [List.map_append]; exact HPU.out, HBN.out⟩ | (repeat (first | (refine ⟨?relx, rfl⟩; exact ⟨i + 1, a + n, out ++ [xs], _, by go_num, rfl, HN.out, by rw [List.map_append]; exact HPU.out, HBN.out⟩) | (refine ⟨?relx, ?eqs⟩; (case eqs => (and_intros <;> rfl)); exact ⟨i + 1, a + n, out ++ [xs], _, by go_num, rfl, HN.out, by rw [List.map_append]; exact HPU.out, HBN.out⟩) | apply Exists.intro))
        case measure => simp [intOf]; omega
      · have HR1 := Lib.hid (HSTOP.out h1)
        have hhb : ((h : Int) != 1) = true := bne_iff_ne.mpr (by omega)
        have h2b : ((h : Int) == 2) = decide (h = 2) := by
          by_cases h2 : h = 2
          · subst h2; rfl
          · rw [decide_eq_false h2]; exact beq_eq_false_iff_ne.mpr (by omega)
        go_wp2_with fail
        go_at_call 19
        refine (HP.out _).mono ?_
        rintro e w1 ⟨hb1, v1, rfl, ho1⟩
        have HB1 := Lib.hid (HB.out.trans (hb1.mono HB.out.size))
        have HOS : Hid (OwnSS w1 w.heap.size (.slice A vs.length c) (out.map (·.map bs))) := OwnSS.below ⟨vs, HR.out, HO.out⟩ hb1
        clear hb1 ho1
        go_wp2
        go_ret3
        exact rqPost_of HR1.out rfl (by first | rfl | exact h2b) HB1.out HOS.out
end Go.Proofs.YtanpkomifhbhnaaDoor
