/- The program's text of a value: ShortText, short, ValText. -/
import Derived.Test.YtekhfplbhcfdmaaVal4
import Derived.Deep.RegionLaw
import Derived.Deep.Cut
import Derived.Deep.CutRange
namespace Go.Proofs.Ytekhfplbhcfdmaa
set_option linter.unusedVariables false
set_option linter.unusedSimpArgs false
open Go.RowKit
attribute [local go_sem] bs_size List.length_cons List.length_nil List.length_append
theorem varText_nat {n : Nat} (h : n ≤ 1000000000) : varText (n : Int) = some (varBytes n) := by
  unfold varText
  rw [inR_true ⟨by omega, by omega⟩]
  rfl
theorem impl_ShortText_calls (s : ByteArray) (w : World) (hs : s.size ≤ 20000) : Calls Try.prog 101 #[.string s] w fun e w' => e = .returned (.tuple #[.string (bs (shortB (ub s))), .bool true]) ∧ Below w.heap.size w w' := by
  have h9 := var_len (n := s.size) (by omega)
  have HV := Lib.hid (varText_nat (n := s.size) (by omega))
  have HSB : Hid (bs (shortB (ub s)) = bs (varBytes s.size) ++ s) := by rw [Hid, shortB, ub_length, ← bs_append, bs_ub]
  go_enter Try.func101, Try.ntmps101
  go_wp2_with fail
  go_at_call 64
  refine (impl_VarText_calls s.size _).mono ?_
  rw [HV.out]
  rintro e w' ⟨rfl, hb⟩
  simp only [varRes]
  go_wp2
  go_ret2
  exact ⟨congrArg (fun z => Ending.returned (.tuple #[.string z, .bool true])) HSB.out.symm, hb⟩
theorem impl_short_calls (s : ByteArray) (w : World) (hs : s.size ≤ 20000) : Calls Try.prog 65 #[.string s] w fun e w' => e = .returned (.string (bs (shortB (ub s)))) ∧ Below w.heap.size w w' := by
  go_enter Try.func65, Try.ntmps65
  go_wp2_with fail
  go_at_call 101
  refine (impl_ShortText_calls s _ hs).mono ?_
  rintro e w' ⟨rfl, hb⟩
  go_wp2
  go_ret
  exact ⟨rfl, hb⟩
set_option maxHeartbeats 4000000 in
set_option maxRecDepth 100000 in
theorem impl_ValText_calls (k u : Int) (t : ByteArray) (A : Option Addr) (c : Nat) (xs : List ByteArray) (w : World) (h : StrRow w A c xs) (ht : t.size ≤ 9223372036854775807) :
    Calls Try.prog 21 #[vVal k u t (.slice A xs.length c)] w fun e w' => e = .returned (varRes (valTextB k u t xs)) ∧ Below w.heap.size w w' := by
  have hl := h.len
  have hrow := h.below ((Below.refl w.heap.size w).alloc (Nat.le_refl _) (.cells #[.int .i64 k, .int .i64 u, .string t, .slice A xs.length c] 39))
  have HR1 := Lib.hid hrow
  clear h hrow
  cases hv : valOkB k u t xs
  · have HE : Hid (valTextB k u t xs = none) := by rw [Hid, valTextB, hv]; rfl
    have HV := Lib.hid hv
    clear hv
    unfold vVal
    go_enter Try.func21, Try.ntmps21
    go_wp2_with fail
    go_at_call 24
    refine (impl_ValOk_calls k u t A c xs _ HR1.out ht).mono ?_
    rw [HV.out]
    rintro e w' ⟨rfl, hb⟩
    go_wp2
    go_ret2
    exact ⟨by rw [HE.out]; rfl, ((Below.refl w.heap.size w).alloc (Nat.le_refl _) _).trans (hb.mono (by simp))⟩
  · have HE : Hid (valTextB k u t xs = some (valBytes k u t xs)) := by rw [Hid, valTextB, hv]; rfl
    obtain ⟨hk, hu, ht60, hn24, hx60⟩ := valOk_bounds hv
    have HV := Lib.hid hv
    clear hv
    obtain ⟨u', rfl⟩ := Int.eq_ofNat_of_zero_le hu.1
    have hva := valAt_new w k (u' : Int) t (.slice A xs.length c)
    have HW := Lib.hid hva
    clear hva
    have HU := Lib.hid (varText_nat (n := u') (by omega))
    have HN := Lib.hid (varText_nat (n := xs.length) (by omega))
    unfold vVal
    go_enter Try.func21, Try.ntmps21
    go_wp2_with fail
    go_at_call 24
    refine (impl_ValOk_calls k u' t A c xs _ HR1.out ht).mono ?_
    rw [HV.out]
    rintro e w1 ⟨rfl, hb⟩
    have HV1 := Lib.hid (HW.out.below hb)
    have HRW1 := Lib.hid (HR1.out.below hb)
    have HB1 := Lib.hid (((Below.refl w.heap.size w).alloc (Nat.le_refl _) (.cells #[.int .i64 k, .int .i64 (u' : Int), .string t, .slice A xs.length c] 39)).trans (hb.mono (by simp)))
    clear hb
    have c1 := HV1.out.c1
    go_wp2_with fail
    go_at_call 64
    refine (impl_VarText_calls u' _).mono ?_
    rw [HU.out]
    rintro e w2 ⟨rfl, hb⟩
    have HV2 := Lib.hid (HV1.out.below hb)
    have HRW2 := Lib.hid (HRW1.out.below hb)
    have HB2 := Lib.hid (HB1.out.trans (hb.mono HB1.out.size))
    clear hb c1
    simp only [varRes]
    have c3 := HV2.out.c3
    go_wp2_with fail
    go_at_call 64
    refine (impl_VarText_calls xs.length _).mono ?_
    rw [HN.out]
    rintro e w3 ⟨rfl, hb⟩
    have HV3 := Lib.hid (HV2.out.below hb)
    have HRW3 := Lib.hid (HRW2.out.below hb)
    have HB3 := Lib.hid (HB2.out.trans (hb.mono HB2.out.size))
    clear hb c3
    simp only [varRes]
    have c0 := HV3.out.c0
    have c2 := HV3.out.c2
    have hk8 : IntKind.u8.wrap k = k := by rw [IntKind.wrap_u8]; omega
    have hz1 := var_len (n := u') (by omega)
    have hz2 := shortB_len t (by omega)
    have hz3 := var_len (n := xs.length) (by omega)
    have s1 : (9223372036854775807 < 1 + (varBytes u').length) = False := eq_false (by omega)
    have s2 : (9223372036854775807 < 1 + (varBytes u').length + (shortB (ub t)).length) = False := eq_false (by omega)
    have s3 : (9223372036854775807 < 1 + (varBytes u').length + (shortB (ub t)).length + (varBytes xs.length).length) = False := eq_false (by omega)
    have kc := conv_one (P := Try.prog) 35 5 9 Try.underlying35 Try.underlying5 Try.underlying9
    have kc2 := conv_one_drew (P := Try.prog) 35 5 9 Try.underlying35 Try.underlying5 Try.underlying9
    have c2a := (HV3.out.below ((Below.refl _ _).alloc (Nat.le_refl _) (.cells #[.int .u8 k] 5))).c2
    go_upto_region 5 with fail
    go_cut [8] from 27 to 39 (fun v wx => v = .string (bs (vHead k u' t xs.length)) ∧ Hid (Below w3.heap.size w3 wx))
    case first =>
      go_region_law (first | (go_simp; go_at_call 65; refine (impl_short_calls t _ (by omega)).mono ?_; rintro e w4 ⟨rfl, hb⟩; have HB4 : Hid (Below w3.heap.size w3 w4) := (by repeat (first | exact Below.refl _ _ | refine bl_call ?_ (by assumption) | refine bl_drew ?_ | refine bl_alloc ?_ _)); have c0x := (HV3.out.below HB4.out).c0; first | (refine conv_b0 35 5 9 Try.underlying35 Try.underlying5 Try.underlying9 (by assumption) ?_; intro kc3 hb3) | (refine conv_b1 35 5 9 Try.underlying35 Try.underlying5 Try.underlying9 (by assumption) ?_; intro kc3 hb3) | skip))
      all_goals
        go_wp2
        go_meet
        exact ⟨by simp only [bs_append, vHead, Int.toNat_natCast]; rfl, by repeat (first | exact Below.refl _ _ | refine bl_call ?_ (by assumption) | refine bl_drew ?_ | refine bl_alloc ?_ _)⟩
    case rest =>
      obtain ⟨rfl, HBX⟩ := hcut
      have hvh := vHead_len (k := k) (u := (u' : Int)) (t := t) (n := xs.length) hu ht60 hn24
      have HRX := Lib.hid (HRW3.out.below HBX.out)
      have d3 := (HV3.out.below HBX.out).c3
      go_wp2
      go_loopw [8, 43] (fun v iv wr => ∃ i : Nat, i ≤ xs.length ∧ iv = .int .i64 (i : Int) ∧ v = .string (bs (vHead k u' t xs.length ++ flatS (xs.take i))) ∧ Below wc.heap.size wc wr) (fun _ iv _ => xs.length - (intOf iv).toNat)
      case atStart => exact ⟨0, Nat.zero_le _, rfl, by simp [flatS], Below.refl _ _⟩
      case round =>
        obtain ⟨i, hi, rfl, rfl, hbel⟩ := hrel
        have HB := Lib.hid hbel
        by_cases hlt : i < xs.length
        · obtain ⟨ad, x, hA, hc, hz, HX⟩ := (HRX.out.below hbel).at_ hlt
          clear hbel
          cases hA
          have hx : x.size ≤ 60 := hx60 x (List.mem_of_getElem? HX.out)
          have hf := flatS_len (xs.take i) (fun y hy => hx60 y (List.mem_of_mem_take hy))
          rw [List.length_take, Nat.min_eq_left (by omega)] at hf
          have hsx := shortB_len x (by omega)
          have HF := Lib.hid (flatS_snoc (xs.take i) x)
          go_wp2_with (go_at_call 65; refine (impl_short_calls x _ (by omega)).mono ?_; rintro e w' ⟨rfl, hb⟩)
          go_roundw
          case rel => first | exact ⟨i + 1, by omega, by go_num, by rw [take_snoc HX.out, HF.out, bs_append, List.append_assoc], bl_call HB.out (by assumption)⟩ | (repeat (first | (refine ⟨?relx, rfl⟩; exact ⟨i + 1, by omega, by go_num, by rw [take_snoc HX.out, HF.out, bs_append, List.append_assoc], bl_call HB.out (by assumption)⟩) | (refine ⟨?relx, ?eqs⟩; (case eqs => (and_intros <;> rfl)); exact ⟨i + 1, by omega, by go_num, by rw [take_snoc HX.out, HF.out, bs_append, List.append_assoc], bl_call HB.out (by assumption)⟩) | apply Exists.intro))
          case measure => simp [intOf]; omega
        · obtain rfl : i = xs.length := by omega
          clear hbel
          go_wp2
          go_ret2
          exact ⟨by rw [HE.out, List.take_length]; rfl, bl_call (bl_call HB3.out HBX.out) HB.out⟩
end Go.Proofs.Ytekhfplbhcfdmaa
