/- Frames: Frame and Unframe, the program's and the reference's. -/
import Derived.Test.YtaacpdejpcbbbaaGreatDoorSum
import Derived.Test.YtaacpdejpcbbbaaGreatDoorRdL
import Derived.Test.YtaacpdejpcbbbaaGreatDoorOwn
namespace Go.Proofs.YtaacpdejpcbbbaaGreatDoor
set_option linter.unusedVariables false
set_option linter.unusedSimpArgs false
open Go.RowKit
attribute [local go_sem] bs_size List.length_cons List.length_nil List.length_append

def frameB (l : List UInt8) : Option (List UInt8) := if 1 ≤ l.length ∧ l.length ≤ 9000 then some (varBytes l.length ++ (sum4 l ++ l)) else none
/-- The record whose frame these bytes begin with, and how long that frame is. -/
def frOf (l : List UInt8) : Option (List UInt8 × Nat) := match readVar l with
  | some (n, k) => if k + 4 + n ≤ l.length ∧ frameB ((l.drop (k + 4)).take n) = some (l.take (k + 4 + n)) then some ((l.drop (k + 4)).take n, k + 4 + n) else none
  | none => none
def unfr : Nat → List UInt8 → List ByteArray × Nat
  | 0, _ => ([], 0)
  | f + 1, l => match frOf l with
    | none => ([], 0)
    | some (t, m) => (bs t :: (unfr f (l.drop m)).1, m + (unfr f (l.drop m)).2)
def unframeB (s : ByteArray) : List ByteArray × Nat := if s.size ≤ 20000 then unfr (s.size + 1) (ub s) else ([], 0)
theorem frameB_no {l : List UInt8} (h : ¬ (1 ≤ l.length ∧ l.length ≤ 9000)) : frameB l = none := if_neg h
theorem frameB_yes {l : List UInt8} (h : 1 ≤ l.length ∧ l.length ≤ 9000) : frameB l = some (varBytes l.length ++ (sum4 l ++ l)) := if_pos h
theorem frOf_none {l : List UInt8} (h : readVar l = none) : frOf l = none := by unfold frOf; rw [h]
theorem frOf_no {l : List UInt8} {n k : Nat} (h : readVar l = some (n, k)) (h2 : ¬ (k + 4 + n ≤ l.length ∧ frameB ((l.drop (k + 4)).take n) = some (l.take (k + 4 + n)))) : frOf l = none := by unfold frOf; rw [h]; exact if_neg h2
theorem frOf_yes {l : List UInt8} {n k : Nat} (h : readVar l = some (n, k)) (h2 : k + 4 + n ≤ l.length ∧ frameB ((l.drop (k + 4)).take n) = some (l.take (k + 4 + n))) : frOf l = some ((l.drop (k + 4)).take n, k + 4 + n) := by unfold frOf; rw [h]; exact if_pos h2
theorem frOf_took {l t : List UInt8} {m : Nat} (h : frOf l = some (t, m)) : 6 ≤ m ∧ m ≤ l.length ∧ 1 ≤ t.length ∧ t.length ≤ 9000 ∧ frameB t = some (l.take m) := by
  unfold frOf at h
  split at h
  · rename_i n k hv
    split at h
    · rename_i hc
      simp only [Option.some.injEq, Prod.mk.injEq] at h
      obtain ⟨rfl, rfl⟩ := h
      obtain ⟨_, _, _, hk, _⟩ := readVar_spec hv
      have hf := hc.2
      by_cases hl : 1 ≤ ((l.drop (k + 4)).take n).length ∧ ((l.drop (k + 4)).take n).length ≤ 9000
      · have hn : ((l.drop (k + 4)).take n).length = n := by rw [List.length_take, List.length_drop]; omega
        exact ⟨by omega, hc.1, hl.1, hl.2, hf⟩
      · rw [frameB_no hl] at hf
        cases hf
    · cases h
  · cases h
theorem frOf_nil : frOf [] = none := frOf_none (by
  cases h : readVar [] with
  | none => rfl
  | some p =>
    obtain ⟨n, k⟩ := p
    obtain ⟨_, _, h3, h4, _⟩ := readVar_spec h
    simp at h3
    omega)
theorem unfr_none {l : List UInt8} (h : frOf l = none) (f : Nat) : unfr f l = ([], 0) := by
  cases f with
  | zero => rfl
  | succ f => unfold unfr; rw [h]
theorem unfr_some {l t : List UInt8} {m : Nat} (h : frOf l = some (t, m)) (f : Nat) : unfr (f + 1) l = (bs t :: (unfr f (l.drop m)).1, m + (unfr f (l.drop m)).2) := by
  rw [unfr, h]
theorem unfr_le : ∀ (f : Nat) (l : List UInt8), (unfr f l).2 ≤ l.length ∧ (unfr f l).1.length ≤ l.length ∧ ∀ r ∈ (unfr f l).1, 1 ≤ r.size ∧ r.size ≤ 9000
  | 0, l => ⟨Nat.zero_le _, Nat.zero_le _, fun r hr => (by simp [unfr] at hr)⟩
  | f + 1, l => by
    cases h : frOf l with
    | none => rw [unfr_none h]; exact ⟨Nat.zero_le _, Nat.zero_le _, fun r hr => (by simp at hr)⟩
    | some p =>
      obtain ⟨t, m⟩ := p
      obtain ⟨h1, h2, h3, h4, _⟩ := frOf_took h
      obtain ⟨i1, i2, i3⟩ := unfr_le f (l.drop m)
      rw [unfr_some h]
      rw [List.length_drop] at i1 i2
      refine ⟨by dsimp only; omega, by simp only [List.length_cons]; omega, fun r hr => ?_⟩
      rcases List.mem_cons.1 hr with rfl | hr
      · rw [bs_size]; exact ⟨h3, h4⟩
      · exact i3 r hr
theorem unframeB_le (s : ByteArray) : (unframeB s).2 ≤ s.size ∧ (unframeB s).1.length ≤ 20000 ∧ ∀ r ∈ (unframeB s).1, 1 ≤ r.size ∧ r.size ≤ 9000 := by
  unfold unframeB
  split
  · rename_i h
    obtain ⟨h1, h2, h3⟩ := unfr_le (s.size + 1) (ub s)
    rw [ub_length] at h1 h2
    exact ⟨h1, by omega, h3⟩
  · exact ⟨Nat.zero_le _, Nat.zero_le _, fun r hr => (by simp at hr)⟩
theorem frame_join (s : ByteArray) (h : s.size ≤ 9000) : bs (varBytes s.size) ++ bs (sum4 (ub s)) ++ s = bs (varBytes s.size ++ (sum4 (ub s) ++ ub s)) := by
  rw [bs_append, bs_app, List.append_assoc]
set_option maxRecDepth 100000 in
theorem impl_Frame_calls (s : ByteArray) (w : World) (hs : s.size ≤ 1125899906842624) : Calls Tryz.prog 92 #[.string s] w fun e w' => e = .returned (varRes (frameB (ub s))) ∧ Below w.heap.size w w' := by
  have kc := conv_four (P := Tryz.prog) 141 5 9 Tryz.underlying141 Tryz.underlying5 Tryz.underlying9
  cases hr : inR (s.size : Int) 1 9000
  · have HE : Hid (frameB (ub s) = none) := frameB_no (by unfold inR at hr; simp only [Bool.and_eq_false_iff, decide_eq_false_iff_not] at hr; rw [ub_length]; omega)
    have HI := Lib.hid hr
    clear hr
    go_enter Tryz.func92, Tryz.ntmps92
    go_wp2_with fail
    go_at_call 57
    refine (impl_within_calls _ _ _ _).mono ?_
    rw [HI.out]
    rintro e w' ⟨rfl, rfl⟩
    go_wp2
    go_ret2
    exact ⟨by rw [HE.out]; rfl, Below.refl _ _⟩
  · have hb : 1 ≤ s.size ∧ s.size ≤ 9000 := by unfold inR at hr; simp only [Bool.and_eq_true, decide_eq_true_eq] at hr; omega
    have HE : Hid (frameB (ub s) = some (varBytes s.size ++ (sum4 (ub s) ++ ub s))) := by rw [Hid, frameB_yes (by rw [ub_length]; exact hb), ub_length]
    have HI := Lib.hid hr
    have HA := Lib.hid (frame_join s hb.2)
    have HVT : Hid (varText (s.size : Int) = some (varBytes s.size)) := varText_some rfl (by omega)
    have hl := sumL_lt (ub s) (x := 4294967295) (by omega)
    have hv := var_len (n := s.size) (by omega)
    clear hr
    go_enter Tryz.func92, Tryz.ntmps92
    go_wp2_with fail
    go_at_call 57
    refine (impl_within_calls _ _ _ _).mono ?_
    rw [HI.out]
    rintro e w' ⟨rfl, rfl⟩
    go_wp2_with fail
    go_at_call 141
    refine (impl_VarText_calls _ _).mono ?_
    rw [HVT.out]
    rintro e w1 ⟨rfl, hb1⟩
    simp only [varRes]
    go_wp2_with fail
    go_at_call 142
    refine (impl_SumOf_calls s _ (by omega)).mono ?_
    rintro e w2 ⟨rfl, rfl⟩
    have HF : Hid (sum4 (ub s) = four (sumL 4294967295 (ub s))) := rfl
    generalize sumL 4294967295 (ub s) = n at hl HF ⊢
    go_wp2
    go_ret2
    exact ⟨by rw [HE.out]; show _ = Ending.returned (.tuple #[.string (bs _), .bool true]); rw [← HA.out, HF.out]; rfl, hb1.alloc hb1.size _⟩
set_option maxRecDepth 100000 in
theorem spec_Frame_calls (s : ByteArray) (w : World) (hs : s.size ≤ 1125899906842624) : Calls Tryz.prog 81 #[.string s] w fun e w' => e = .returned (varRes (frameB (ub s))) ∧ Below w.heap.size w w' := by
  cases hr : inR (s.size : Int) 1 9000
  · have HE : Hid (frameB (ub s) = none) := frameB_no (by unfold inR at hr; simp only [Bool.and_eq_false_iff, decide_eq_false_iff_not] at hr; rw [ub_length]; omega)
    have HI := Lib.hid hr
    clear hr
    go_enter Tryz.func81, Tryz.ntmps81
    go_wp2_with fail
    go_at_call 48
    refine (spec_l01In_calls _ _ _ _).mono ?_
    rw [HI.out]
    rintro e w' ⟨rfl, rfl⟩
    go_wp2
    go_ret2
    exact ⟨by rw [HE.out]; rfl, Below.refl _ _⟩
  · have hb : 1 ≤ s.size ∧ s.size ≤ 9000 := by unfold inR at hr; simp only [Bool.and_eq_true, decide_eq_true_eq] at hr; omega
    have HE : Hid (frameB (ub s) = some (varBytes s.size ++ (sum4 (ub s) ++ ub s))) := by rw [Hid, frameB_yes (by rw [ub_length]; exact hb), ub_length]
    have HI := Lib.hid hr
    have HA := Lib.hid (frame_join s hb.2)
    have hl := sumL_lt (ub s) (x := 4294967295) (by omega)
    have hv := var_len (n := s.size) (by omega)
    clear hr
    go_enter Tryz.func81, Tryz.ntmps81
    go_wp2_with fail
    go_at_call 48
    refine (spec_l01In_calls _ _ _ _).mono ?_
    rw [HI.out]
    rintro e w' ⟨rfl, rfl⟩
    go_wp2_with fail
    go_at_call 119
    refine (spec_l01Var_calls _ _ (by omega)).mono ?_
    rintro e w1 ⟨rfl, hb1⟩
    go_wp2_with fail
    go_at_call 123
    refine (spec_SumOf_calls s _ (by omega)).mono ?_
    rintro e w2 ⟨rfl, rfl⟩
    go_wp2_with fail
    go_at_call 122
    refine (spec_Four_calls _ hl _).mono ?_
    rintro e w3 ⟨rfl, hb3⟩
    have hle : (four (sumL 4294967295 (ub s))).length = 4 := rfl
    go_wp2
    go_ret2
    exact ⟨by rw [HE.out]; exact congrArg (fun z => Ending.returned (.tuple #[.string z, .bool true])) HA.out, hb1.trans (hb3.mono hb1.size)⟩
/-- What Unframe leaves. -/
def UnfPost (w : World) (s : ByteArray) (e : Ending) (w' : World) : Prop := ∃ v, e = .returned (.tuple #[v, .int .i64 ((unframeB s).2 : Int)]) ∧ OwnS w' w.heap.size v (unframeB s).1 ∧ Below w.heap.size w w'
/-- Where the loop of Unframe stands. -/
def UnfAt (s : ByteArray) (acc : List ByteArray) (a : Nat) : Prop := ∃ f, s.size - a < f ∧ unframeB s = (acc ++ (unfr f (tail_ s a)).1, a + (unfr f (tail_ s a)).2)
theorem unfAt_start {s : ByteArray} (h : s.size ≤ 20000) : UnfAt s [] 0 := ⟨s.size + 1, by omega, by unfold unframeB; rw [if_pos h, tail_zero]; simp⟩
theorem unfAt_stop {s : ByteArray} {acc : List ByteArray} {a : Nat} (h : UnfAt s acc a) (hf : frOf (tail_ s a) = none) : unframeB s = (acc, a) := by
  obtain ⟨f, _, e⟩ := h
  rw [e, unfr_none hf]
  simp
theorem unfAt_step {s : ByteArray} {acc : List ByteArray} {a m : Nat} {t : List UInt8} (h : UnfAt s acc a) (hf : frOf (tail_ s a) = some (t, m)) : UnfAt s (acc ++ [bs t]) (a + m) := by
  obtain ⟨f, hlt, e⟩ := h
  obtain ⟨g, rfl⟩ : ∃ g, f = g + 1 := ⟨f - 1, by omega⟩
  obtain ⟨h1, h2, _⟩ := frOf_took hf
  rw [tail_len] at h2
  refine ⟨g, by omega, ?_⟩
  rw [e, unfr_some hf, tail_tail, List.append_assoc, Nat.add_assoc]
  rfl
theorem unfPost_of {w w' : World} {s : ByteArray} {acc : List ByteArray} {a : Nat} {v : Value} (h : unframeB s = (acc, a)) (ho : OwnS w' w.heap.size v acc) (hb : Below w.heap.size w w') : UnfPost w s (.returned (.tuple #[v, .int .i64 (a : Int)])) w' := ⟨v, by rw [h], by rw [h]; exact ho, hb⟩
theorem unframeB_big {s : ByteArray} (h : ¬ s.size ≤ 20000) : unframeB s = ([], 0) := if_neg h
theorem cut_text (s : ByteArray) (a k n : Nat) : s.extract (a + k + 4) (a + k + 4 + n) = bs (((tail_ s a).drop (k + 4)).take n) := by
  rw [tail_tail, ← Nat.add_assoc, extract_tail]
theorem cut_frame (s : ByteArray) (a k n : Nat) : s.extract a (a + k + 4 + n) = bs ((tail_ s a).take (k + 4 + n)) := by
  have := extract_tail s a (k + 4 + n)
  rw [← this, show a + k + 4 + n = a + (k + 4 + n) by omega]
set_option maxHeartbeats 4000000 in
set_option maxRecDepth 100000 in
theorem impl_Unframe_calls (s : ByteArray) (w : World) (hs : s.size ≤ 1125899906842624) : Calls Tryz.prog 90 #[.string s] w (UnfPost w s) := by
  obtain ⟨i0, hi, hz, hsz, hby⟩ := info_parts info_str
  by_cases hbig : s.size ≤ 20000
  · have HST := Lib.hid (unfAt_start hbig)
    go_enter Tryz.func90, Tryz.ntmps90
    go_wp2
    go_loopw [4, 5] (fun ov av wr => ∃ (acc : List ByteArray) (a : Nat) (v : Value), av = .int .i64 (a : Int) ∧ v = ov ∧ a ≤ s.size ∧ acc.length ≤ a ∧ UnfAt s acc a ∧ OwnS wr w.heap.size v acc ∧ Below w.heap.size w wr) (fun _ av _ => s.size - (intOf av).toNat)
    case atStart => exact ⟨[], 0, _, rfl, rfl, Nat.zero_le _, Nat.zero_le _, HST.out, OwnS.nil _ _, Below.refl _ _⟩
    case round =>
      obtain ⟨acc, a, v, rfl, rfl, ha, hal, hat, hown, hbel⟩ := hrel
      have HAT := Lib.hid hat
      have HO := Lib.hid hown
      have HB := Lib.hid hbel
      clear hat hown hbel
      have hl := tail_len s a
      cases hv : readVar (tail_ s a) with
      | none =>
        have HV := Lib.hid hv
        have HE := Lib.hid (unfAt_stop HAT.out (frOf_none hv))
        clear hv
        go_wp2_with fail
        go_at_call 136
        refine (impl_ReadVar_calls s a _ ha hs).mono ?_
        rw [HV.out]
        rintro e w1 ⟨rfl, hb⟩
        simp only [rvRes]
        go_wp2
        go_ret2
        exact unfPost_of HE.out (HO.out.below hb) (HB.out.trans (hb.mono HB.out.size))
      | some pk =>
        obtain ⟨n, k⟩ := pk
        obtain ⟨hn, hk, hk1⟩ := readVar_bound hv
        have HV := Lib.hid hv
        by_cases hfit : k + 4 + n ≤ (tail_ s a).length
        · have hz1 : ((a : Int) + (k : Int) + 4).toNat = a + k + 4 := by omega
          have hz2 : ((a : Int) + (k : Int) + 4 + (n : Int)).toNat = a + k + 4 + n := by omega
          have hct := cut_text s a k n
          have hcf := cut_frame s a k n
          have hts : (bs (((tail_ s a).drop (k + 4)).take n)).size ≤ 1125899906842624 := by rw [bs_size, List.length_take]; omega
          cases hf : frameB ((((tail_ s a).drop (k + 4)).take n)) with
          | none =>
            have HF := Lib.hid hf
            have HE := Lib.hid (unfAt_stop HAT.out (frOf_no hv (fun hh => by rw [hf] at hh; cases hh.2)))
            clear hf hv hcf
            generalize ((tail_ s a).drop (k + 4)).take n = T at HF hct hts
            go_wp2_with fail
            go_at_call 136
            refine (impl_ReadVar_calls s a _ ha hs).mono ?_
            rw [HV.out]
            rintro e w1 ⟨rfl, hb⟩
            have HB1 := Lib.hid (HB.out.trans (hb.mono HB.out.size))
            have HO1 := Lib.hid (HO.out.below hb)
            clear hb
            simp only [rvRes]
            go_wp2_with fail
            go_at_call 92
            refine (impl_Frame_calls (bs T) _ hts).mono ?_
            rw [ub_bs, HF.out]
            rintro e w2 ⟨rfl, hb⟩
            have HB2 := Lib.hid (HB1.out.trans (hb.mono HB1.out.size))
            have HO2 := Lib.hid (HO1.out.below hb)
            clear hb
            simp only [varRes]
            go_wp2
            go_ret2
            exact unfPost_of HE.out HO2.out HB2.out
          | some l =>
            have HF := Lib.hid hf
            by_cases hq : l = (tail_ s a).take (k + 4 + n)
            · have HE := Lib.hid (unfAt_step HAT.out (frOf_yes hv ⟨hfit, by rw [hf, hq]⟩))
              have hqq : ((bs l).toList == (bs ((tail_ s a).take (k + 4 + n))).toList) = true := by rw [hq]; simp
              have hqs : ((bs ((tail_ s a).take (k + 4 + n))).toList == (bs l).toList) = true := by rw [hq]; simp
              clear hf hv hq
              generalize (tail_ s a).take (k + 4 + n) = F at hqq hqs hcf
              generalize ((tail_ s a).drop (k + 4)).take n = T at HF hct hts HE
              go_wp2_with fail
              go_at_call 136
              refine (impl_ReadVar_calls s a _ ha hs).mono ?_
              rw [HV.out]
              rintro e w1 ⟨rfl, hb⟩
              have HB1 := Lib.hid (HB.out.trans (hb.mono HB.out.size))
              have HO1 := Lib.hid (HO.out.below hb)
              clear hb
              simp only [rvRes]
              go_wp2_with fail
              go_at_call 92
              refine (impl_Frame_calls (bs T) _ hts).mono ?_
              rw [ub_bs, HF.out]
              rintro e w2 ⟨rfl, hb⟩
              have HB2 := Lib.hid (HB1.out.trans (hb.mono HB1.out.size))
              have HO2 := Lib.hid (HO1.out.below hb)
              clear hb
              simp only [varRes]
              have H6 := Lib.hid (HO2.out.below ((Below.refl _ _).alloc (Nat.le_refl _) (.cells #[.string (bs T)] 9)))
              have HBASE : Hid (w.heap.size ≤ (w2.alloc (.cells #[.string (bs T)] 9)).heap.size) := by have := HB2.out.size; simp [Hid]; omega
              have HNEWS : Hid (∀ j u, [Value.string (bs T)][j]? = some u → (w2.alloc (.cells #[.string (bs T)] 9)).cell? ((⟨w2.heap.size, 0, none⟩ : Addr).add j) = some u) := World.news_of_block (heap_alloc_new w2 _)
              go_wp2_with (at_builtin; refine wpList_append_lies _ rfl _ _ _ rfl w.heap.size 9 i0 (.string ByteArray.empty) 1 16 Tryz.underlying107 hi hz hsz hby rfl (by omega) v acc.length (acc.map Value.string) rfl H6.out ⟨w2.heap.size, 0, none⟩ 1 1 [.string (bs T)] rfl rfl HNEWS.out (by simp [Value.oneCell']) (by omega) (by unfold maxLen; omega) (by omega) HBASE.out _ rfl ?_; intro g cap w6 hown hgrow hat hlt; have HN := Lib.hid (OwnS.pushed hown); have HG := Lib.hid hgrow; clear hown hgrow hat hlt)
              all_goals
                have HBN := Lib.hid (below_push HB2.out HB2.out.size HO2.out HG.out)
                go_roundw
                case rel => first | exact ⟨acc ++ [bs T], a + (k + 4 + n), _, by go_num, rfl, by omega, by simp; omega, HE.out, HN.out, HBN.out⟩ | (repeat (first | (refine ⟨?relx, rfl⟩; exact ⟨acc ++ [bs T], a + (k + 4 + n), _, by go_num, rfl, by omega, by simp; omega, HE.out, HN.out, HBN.out⟩) | (refine ⟨?relx, ?eqs⟩; (case eqs => (and_intros <;> rfl)); exact ⟨acc ++ [bs T], a + (k + 4 + n), _, by go_num, rfl, by omega, by simp; omega, HE.out, HN.out, HBN.out⟩) | apply Exists.intro))
                case measure => simp [intOf]; omega
            · have HE := Lib.hid (unfAt_stop HAT.out (frOf_no hv (fun hh => hq (by have := hh.2; rw [hf] at this; exact Option.some.inj this))))
              have hqq : ((bs l).toList == (bs ((tail_ s a).take (k + 4 + n))).toList) = false := beq_eq_false_iff_ne.mpr fun z => hq (bs_inj (toList_inj.mp z))
              clear hf hv hq
              generalize (tail_ s a).take (k + 4 + n) = F at hqq hcf
              generalize ((tail_ s a).drop (k + 4)).take n = T at HF hct hts
              go_wp2_with fail
              go_at_call 136
              refine (impl_ReadVar_calls s a _ ha hs).mono ?_
              rw [HV.out]
              rintro e w1 ⟨rfl, hb⟩
              have HB1 := Lib.hid (HB.out.trans (hb.mono HB.out.size))
              have HO1 := Lib.hid (HO.out.below hb)
              clear hb
              simp only [rvRes]
              go_wp2_with fail
              go_at_call 92
              refine (impl_Frame_calls (bs T) _ hts).mono ?_
              rw [ub_bs, HF.out]
              rintro e w2 ⟨rfl, hb⟩
              have HB2 := Lib.hid (HB1.out.trans (hb.mono HB1.out.size))
              have HO2 := Lib.hid (HO1.out.below hb)
              clear hb
              simp only [varRes]
              go_wp2
              go_ret2
              exact unfPost_of HE.out HO2.out HB2.out
        · have HE := Lib.hid (unfAt_stop HAT.out (frOf_no hv (fun hh => hfit hh.1)))
          have hfi : (s.size : Int) - ((a : Int) + (k : Int)) - 4 < (n : Int) := by omega
          clear hv
          go_wp2_with fail
          go_at_call 136
          refine (impl_ReadVar_calls s a _ ha hs).mono ?_
          rw [HV.out]
          rintro e w1 ⟨rfl, hb⟩
          simp only [rvRes]
          go_wp2
          go_ret2
          exact unfPost_of HE.out (HO.out.below hb) (HB.out.trans (hb.mono HB.out.size))
  · have HE := Lib.hid (unframeB_big hbig)
    go_enter Tryz.func90, Tryz.ntmps90
    go_wp2
    go_ret2
    exact unfPost_of HE.out (OwnS.nil _ _) (Below.refl _ _)
set_option maxHeartbeats 4000000 in
set_option maxRecDepth 100000 in
theorem spec_Unframe_calls (s : ByteArray) (w : World) (hs : s.size ≤ 1125899906842624) : Calls Tryz.prog 78 #[.string s] w (UnfPost w s) := by
  obtain ⟨i0, hi, hz, hsz, hby⟩ := info_parts info_str
  by_cases hbig : s.size ≤ 20000
  · have HST := Lib.hid (unfAt_start hbig)
    go_enter Tryz.func78, Tryz.ntmps78
    go_wp2
    go_loopw [4, 5] (fun ov av wr => ∃ (acc : List ByteArray) (a : Nat) (v : Value), av = .int .i64 (a : Int) ∧ v = ov ∧ a ≤ s.size ∧ acc.length ≤ a ∧ UnfAt s acc a ∧ OwnS wr w.heap.size v acc ∧ Below w.heap.size w wr) (fun _ av _ => s.size - (intOf av).toNat)
    case atStart => exact ⟨[], 0, _, rfl, rfl, Nat.zero_le _, Nat.zero_le _, HST.out, OwnS.empty w (Nat.le_refl _), (Below.refl _ _).alloc (Nat.le_refl _) _⟩
    case round =>
      obtain ⟨acc, a, v, rfl, rfl, ha, hal, hat, hown, hbel⟩ := hrel
      have HAT := Lib.hid hat
      have HO := Lib.hid hown
      have HB := Lib.hid hbel
      clear hat hown hbel
      have hl := tail_len s a
      by_cases hend : a < s.size
      rotate_left
      · have HE := Lib.hid (unfAt_stop HAT.out (by rw [(tail_nil ha).2 (by omega)]; exact frOf_nil))
        go_wp2
        go_ret2
        exact unfPost_of HE.out HO.out HB.out
      cases hv : readVar (tail_ s a) with
      | none =>
        have HV := Lib.hid hv
        have HE := Lib.hid (unfAt_stop HAT.out (frOf_none hv))
        clear hv
        go_wp2_with fail
        go_at_call 114
        refine (spec_ReadVar_calls s a _ ha hs).mono ?_
        rw [HV.out]
        rintro e w1 ⟨rfl, hb⟩
        simp only [rvRes]
        go_wp2
        go_ret2
        exact unfPost_of HE.out (HO.out.below hb) (HB.out.trans (hb.mono HB.out.size))
      | some pk =>
        obtain ⟨n, k⟩ := pk
        obtain ⟨hn, hk, hk1⟩ := readVar_bound hv
        have HV := Lib.hid hv
        by_cases hfit : k + 4 + n ≤ (tail_ s a).length
        · have hz1 : ((a : Int) + (k : Int) + 4).toNat = a + k + 4 := by omega
          have hz2 : ((a : Int) + (k : Int) + 4 + (n : Int)).toNat = a + k + 4 + n := by omega
          have hct := cut_text s a k n
          have hcf := cut_frame s a k n
          have hts : (bs (((tail_ s a).drop (k + 4)).take n)).size ≤ 1125899906842624 := by rw [bs_size, List.length_take]; omega
          cases hf : frameB ((((tail_ s a).drop (k + 4)).take n)) with
          | none =>
            have HF := Lib.hid hf
            have HE := Lib.hid (unfAt_stop HAT.out (frOf_no hv (fun hh => by rw [hf] at hh; cases hh.2)))
            clear hf hv hcf
            generalize ((tail_ s a).drop (k + 4)).take n = T at HF hct hts
            go_wp2_with fail
            go_at_call 114
            refine (spec_ReadVar_calls s a _ ha hs).mono ?_
            rw [HV.out]
            rintro e w1 ⟨rfl, hb⟩
            have HB1 := Lib.hid (HB.out.trans (hb.mono HB.out.size))
            have HO1 := Lib.hid (HO.out.below hb)
            clear hb
            simp only [rvRes]
            go_wp2_with fail
            go_at_call 81
            refine (spec_Frame_calls (bs T) _ hts).mono ?_
            rw [ub_bs, HF.out]
            rintro e w2 ⟨rfl, hb⟩
            have HB2 := Lib.hid (HB1.out.trans (hb.mono HB1.out.size))
            have HO2 := Lib.hid (HO1.out.below hb)
            clear hb
            simp only [varRes]
            go_wp2
            go_ret2
            exact unfPost_of HE.out HO2.out HB2.out
          | some l =>
            have HF := Lib.hid hf
            by_cases hq : l = (tail_ s a).take (k + 4 + n)
            · have HE := Lib.hid (unfAt_step HAT.out (frOf_yes hv ⟨hfit, by rw [hf, hq]⟩))
              have hqq : ((bs l).toList == (bs ((tail_ s a).take (k + 4 + n))).toList) = true := by rw [hq]; simp
              have hqs : ((bs ((tail_ s a).take (k + 4 + n))).toList == (bs l).toList) = true := by rw [hq]; simp
              clear hf hv hq
              generalize (tail_ s a).take (k + 4 + n) = F at hqq hqs hcf
              generalize ((tail_ s a).drop (k + 4)).take n = T at HF hct hts HE
              go_wp2_with fail
              go_at_call 114
              refine (spec_ReadVar_calls s a _ ha hs).mono ?_
              rw [HV.out]
              rintro e w1 ⟨rfl, hb⟩
              have HB1 := Lib.hid (HB.out.trans (hb.mono HB.out.size))
              have HO1 := Lib.hid (HO.out.below hb)
              clear hb
              simp only [rvRes]
              go_wp2_with fail
              go_at_call 81
              refine (spec_Frame_calls (bs T) _ hts).mono ?_
              rw [ub_bs, HF.out]
              rintro e w2 ⟨rfl, hb⟩
              have HB2 := Lib.hid (HB1.out.trans (hb.mono HB1.out.size))
              have HO2 := Lib.hid (HO1.out.below hb)
              clear hb
              simp only [varRes]
              have H6 := Lib.hid (HO2.out.below ((Below.refl _ _).alloc (Nat.le_refl _) (.cells #[.string (bs T)] 9)))
              have HBASE : Hid (w.heap.size ≤ (w2.alloc (.cells #[.string (bs T)] 9)).heap.size) := by have := HB2.out.size; simp [Hid]; omega
              have HNEWS : Hid (∀ j u, [Value.string (bs T)][j]? = some u → (w2.alloc (.cells #[.string (bs T)] 9)).cell? ((⟨w2.heap.size, 0, none⟩ : Addr).add j) = some u) := World.news_of_block (heap_alloc_new w2 _)
              go_wp2_with (at_builtin; refine wpList_append_lies _ rfl _ _ _ rfl w.heap.size 9 i0 (.string ByteArray.empty) 1 16 Tryz.underlying107 hi hz hsz hby rfl (by omega) v acc.length (acc.map Value.string) rfl H6.out ⟨w2.heap.size, 0, none⟩ 1 1 [.string (bs T)] rfl rfl HNEWS.out (by simp [Value.oneCell']) (by omega) (by unfold maxLen; omega) (by omega) HBASE.out _ rfl ?_; intro g cap w6 hown hgrow hat hlt; have HN := Lib.hid (OwnS.pushed hown); have HG := Lib.hid hgrow; clear hown hgrow hat hlt)
              all_goals
                have HBN := Lib.hid (below_push HB2.out HB2.out.size HO2.out HG.out)
                go_roundw
                case rel => first | exact ⟨acc ++ [bs T], a + (k + 4 + n), _, by go_num, rfl, by omega, by simp; omega, HE.out, HN.out, HBN.out⟩ | (repeat (first | (refine ⟨?relx, rfl⟩; exact ⟨acc ++ [bs T], a + (k + 4 + n), _, by go_num, rfl, by omega, by simp; omega, HE.out, HN.out, HBN.out⟩) | (refine ⟨?relx, ?eqs⟩; (case eqs => (and_intros <;> rfl)); exact ⟨acc ++ [bs T], a + (k + 4 + n), _, by go_num, rfl, by omega, by simp; omega, HE.out, HN.out, HBN.out⟩) | apply Exists.intro))
                case measure => simp [intOf]; omega
            · have HE := Lib.hid (unfAt_stop HAT.out (frOf_no hv (fun hh => hq (by have := hh.2; rw [hf] at this; exact Option.some.inj this))))
              have hqq : ((bs l).toList == (bs ((tail_ s a).take (k + 4 + n))).toList) = false := beq_eq_false_iff_ne.mpr fun z => hq (bs_inj (toList_inj.mp z))
              clear hf hv hq
              generalize (tail_ s a).take (k + 4 + n) = F at hqq hcf
              generalize ((tail_ s a).drop (k + 4)).take n = T at HF hct hts
              go_wp2_with fail
              go_at_call 114
              refine (spec_ReadVar_calls s a _ ha hs).mono ?_
              rw [HV.out]
              rintro e w1 ⟨rfl, hb⟩
              have HB1 := Lib.hid (HB.out.trans (hb.mono HB.out.size))
              have HO1 := Lib.hid (HO.out.below hb)
              clear hb
              simp only [rvRes]
              go_wp2_with fail
              go_at_call 81
              refine (spec_Frame_calls (bs T) _ hts).mono ?_
              rw [ub_bs, HF.out]
              rintro e w2 ⟨rfl, hb⟩
              have HB2 := Lib.hid (HB1.out.trans (hb.mono HB1.out.size))
              have HO2 := Lib.hid (HO1.out.below hb)
              clear hb
              simp only [varRes]
              go_wp2
              go_ret2
              exact unfPost_of HE.out HO2.out HB2.out
        · have HE := Lib.hid (unfAt_stop HAT.out (frOf_no hv (fun hh => hfit hh.1)))
          have hfi : (s.size : Int) - ((a : Int) + (k : Int)) - 4 < (n : Int) := by omega
          clear hv
          go_wp2_with fail
          go_at_call 114
          refine (spec_ReadVar_calls s a _ ha hs).mono ?_
          rw [HV.out]
          rintro e w1 ⟨rfl, hb⟩
          simp only [rvRes]
          go_wp2
          go_ret2
          exact unfPost_of HE.out (HO.out.below hb) (HB.out.trans (hb.mono HB.out.size))
  · have HE := Lib.hid (unframeB_big hbig)
    go_enter Tryz.func78, Tryz.ntmps78
    go_wp2
    go_ret2
    exact unfPost_of HE.out (OwnS.empty w (Nat.le_refl _)) ((Below.refl _ _).alloc (Nat.le_refl _) _)
end Go.Proofs.YtaacpdejpcbbbaaGreatDoor
