/- Numbers in requests: the program's countAt and the reference's l11Num both tell numB. -/
import Derived.Test.YtanpkomifhbhnaaDoorReqL
import Derived.Test.YtanpkomifhbhnaaDoorDec
namespace Go.Proofs.YtanpkomifhbhnaaDoor
set_option linter.unusedVariables false
set_option linter.unusedSimpArgs false
open Go.RowKit
attribute [local go_sem] bs_size List.length_cons List.length_nil List.length_append

def cntRes (a : Nat) (r : Nat × Nat × Nat) : Value := .tuple #[.int .i64 (r.1 : Int), .int .i64 (if r.2.2 = 1 then ((a + r.2.1 : Nat) : Int) else 0), .int .i64 (r.2.2 : Int)]
theorem ret_cnt {a : Nat} {r : Nat × Nat × Nat} {n u h : Nat} (e : r = (n, u, h)) {x y z : Int} (hx : x = (n : Int)) (hy : y = if h = 1 then ((a + u : Nat) : Int) else 0) (hz : z = (h : Int)) : Ending.returned (.tuple #[.int .i64 x, .int .i64 y, .int .i64 z]) = Ending.returned (cntRes a r) := by
  subst e hx hy hz
  rfl
theorem isDig_of {d : Nat} (h : (UInt8.ofNat d).toNat = d) : isDig (UInt8.ofNat d) ↔ 48 ≤ d ∧ d ≤ 57 := by unfold isDig; rw [h]
set_option maxHeartbeats 4000000 in
set_option maxRecDepth 100000 in
theorem impl_countAt_calls (s : ByteArray) (a most : Nat) (w : World) (ha : a ≤ s.size) (hs : s.size ≤ 1125899906842624) (hm : most ≤ 999) :
    Calls Tryd.prog 63 #[.string s, .int .i64 (a : Int), .int .i64 (most : Int)] w fun e w' => e = .returned (cntRes a (numB most (tail_ s a))) ∧ w' = w := by
  have hl := tail_len s a
  go_enter Tryd.func63, Tryd.ntmps63
  go_wp2
  go_loopw [9, 10] (fun nv kv wr => ∃ i : Nat, a + i ≤ s.size ∧ kv = .int .i64 ((a + i : Nat) : Int) ∧ nv = .int .i64 (decVal 0 ((tail_ s a).take i) : Int) ∧ NumPre most (tail_ s a) i ∧ wr = w) (fun _ kv _ => s.size - (intOf kv).toNat)
  case atStart => exact ⟨0, by omega, by simp, by simp [decVal], NumPre.zero _ _, rfl⟩
  case round =>
    obtain ⟨i, hai, rfl, rfl, hpre, rfl⟩ := hrel
    have HP := Lib.hid hpre
    have hvm := hpre.2.1
    clear hpre
    by_cases hlt : a + i < s.size
    · obtain ⟨d, hd, hsd, hc, hcd⟩ := tail_byte hlt
      have HC := Lib.hid hc
      have HCD := Lib.hid hcd
      have HV := Lib.hid (decVal_take hc)
      clear hc hcd
      by_cases hdig : 48 ≤ d ∧ d ≤ 57
      · obtain ⟨h48, h57⟩ := hdig
        have HD := Lib.hid ((isDig_of HCD.out).2 ⟨h48, h57⟩)
        have hsub : IntKind.u8.wrap ((d : Int) - 48) = (d : Int) - 48 := by rw [IntKind.wrap_u8]; omega
        by_cases h0 : 0 < i
        · have hka : (a : Int) < (a : Int) + (i : Int) := by omega
          by_cases hz : decVal 0 ((tail_ s a).take i) = 0
          · have hzb : (((decVal 0 ((tail_ s a).take i) : Nat) : Int) == 0) = true := beq_iff_eq.mpr (by omega)
            have HR := Lib.hid (numB_zero (most := most) (HP.out.1.step HC.out HD.out) h0 hz)
            go_wp2
            go_ret3
            exact ⟨ret_cnt HR.out rfl (by simp) rfl, rfl⟩
          · have hzb : (((decVal 0 ((tail_ s a).take i) : Nat) : Int) == 0) = false := beq_eq_false_iff_ne.mpr (by omega)
            by_cases hov : most < 10 * decVal 0 ((tail_ s a).take i) + (d - 48)
            · have HR := Lib.hid (numB_over (most := most) (HP.out.1.step HC.out HD.out) (by rw [HV.out, HCD.out]; omega))
              go_wp2
              go_ret3
              exact ⟨ret_cnt HR.out rfl (by simp) rfl, rfl⟩
            · have HN := Lib.hid (HP.out.step HC.out HD.out (.inr hz) (by rw [HV.out, HCD.out]; omega))
              go_wp2
              go_roundw
              case rel => first | exact ⟨i + 1, by omega, by go_num, congrArg (Value.int .i64) (by rw [HV.out, HCD.out]; omega), HN.out, by first | rfl | trivial⟩ | (repeat (first | (refine ⟨?relx, rfl⟩; exact ⟨i + 1, by omega, by go_num, congrArg (Value.int .i64) (by rw [HV.out, HCD.out]; omega), HN.out, by first | rfl | trivial⟩) | (refine ⟨?relx, ?eqs⟩; (case eqs => (and_intros <;> rfl)); exact ⟨i + 1, by omega, by go_num, congrArg (Value.int .i64) (by rw [HV.out, HCD.out]; omega), HN.out, by first | rfl | trivial⟩) | apply Exists.intro))
              case measure => simp [intOf]; omega
        · have HI0 : Hid (i = 0) := Nat.eq_zero_of_not_pos h0
          have hka : ¬ (a : Int) < (a : Int) + (i : Int) := by omega
          have HZ0 : Hid (decVal 0 ((tail_ s a).take i) = 0) := by rw [Hid, HI0.out]; simp [decVal]
          clear h0
          by_cases hov : most < 10 * decVal 0 ((tail_ s a).take i) + (d - 48)
          · have HR := Lib.hid (numB_over (most := most) (HP.out.1.step HC.out HD.out) (by rw [HV.out, HCD.out]; omega))
            go_wp2
            go_ret3
            exact ⟨ret_cnt HR.out rfl (by simp) rfl, rfl⟩
          · have HN := Lib.hid (HP.out.step HC.out HD.out (.inl HI0.out) (by rw [HV.out, HCD.out]; omega))
            go_wp2
            go_roundw
            case rel => first | exact ⟨i + 1, by omega, by go_num, congrArg (Value.int .i64) (by rw [HV.out, HCD.out]; omega), HN.out, by first | rfl | trivial⟩ | (repeat (first | (refine ⟨?relx, rfl⟩; exact ⟨i + 1, by omega, by go_num, congrArg (Value.int .i64) (by rw [HV.out, HCD.out]; omega), HN.out, by first | rfl | trivial⟩) | (refine ⟨?relx, ?eqs⟩; (case eqs => (and_intros <;> rfl)); exact ⟨i + 1, by omega, by go_num, congrArg (Value.int .i64) (by rw [HV.out, HCD.out]; omega), HN.out, by first | rfl | trivial⟩) | apply Exists.intro))
            case measure => simp [intOf]; omega
      · have HE := Lib.hid (numB_of HP.out (digN_at _ _ HP.out.1 (.inr ⟨_, HC.out, fun h => hdig ((isDig_of HCD.out).1 h)⟩)))
        have hke : (((a : Int) + (i : Int)) == (s.size : Int)) = false := beq_eq_false_iff_ne.mpr (by omega)
        have hil : ¬ i = (tail_ s a).length := by omega
        have hd48 : ¬ (48 : Int) ≤ (d : Int) ∨ (48 : Int) ≤ (d : Int) ∧ ¬ (d : Int) ≤ 57 := by omega
        by_cases h0 : i = 0
        · have hka : (((a : Int) + (i : Int)) == (a : Int)) = true := beq_iff_eq.mpr (by omega)
          have HR : Hid (numB most (tail_ s a) = (0, 0, 2)) := by rw [Hid, HE.out, if_neg hil, if_pos (.inl h0)]
          clear hil h0
          rcases hd48 with hd4 | ⟨hd4, hd5⟩
          all_goals
            go_wp2
            go_ret3
            exact ⟨ret_cnt HR.out rfl (by simp) rfl, rfl⟩
        · have hka : (((a : Int) + (i : Int)) == (a : Int)) = false := beq_eq_false_iff_ne.mpr (by omega)
          by_cases h13 : d = 13
          · subst h13
            have hd4 : ¬ (48 : Int) ≤ ((13 : Nat) : Int) := by omega
            have h13' : (tail_ s a)[i]? = some 13 := by rw [HC.out]; rfl
            by_cases hend : a + i + 1 = s.size
            · have hk2 : (((a : Int) + (i : Int) + 1) == (s.size : Int)) = true := beq_iff_eq.mpr (by omega)
              have HR : Hid (numB most (tail_ s a) = (0, 0, 0)) := by rw [Hid, HE.out, if_neg hil, if_neg (by rw [h13']; simp [h0]), if_pos (by omega)]
              clear hil h13' hd48 hdig
              go_wp2
              go_ret3
              exact ⟨ret_cnt HR.out rfl (by simp) rfl, rfl⟩
            · have hk2 : (((a : Int) + (i : Int) + 1) == (s.size : Int)) = false := beq_eq_false_iff_ne.mpr (by omega)
              obtain ⟨f, hf, hsf, hcf, hcfd⟩ := tail_byte (s := s) (a := a) (i := i + 1) (by omega)
              have hsf' : (s[a + i + 1]'(by omega)).toNat = f := hsf
              have ht1 : ((a : Int) + (i : Int) + 1).toNat = a + i + 1 := by omega
              have hb0 : (0 : Int) ≤ (a : Int) + (i : Int) + 1 := by omega
              have hb1 : (a : Int) + (i : Int) + 1 < (s.size : Int) := by omega
              by_cases h10 : f = 10
              · have h10' : (tail_ s a)[i + 1]? = some 10 := by rw [hcf, h10]; rfl
                have HR : Hid (numB most (tail_ s a) = (decVal 0 ((tail_ s a).take i), i + 2, 1)) := by rw [Hid, HE.out, if_neg hil, if_neg (by rw [h13']; simp [h0]), if_neg (by omega), if_neg (by rw [h10']; simp)]
                subst h10
                clear hil h13' h10' hcf hcfd hsf hd48 hdig
                go_wp2
                go_ret3
                exact ⟨ret_cnt HR.out rfl (by simp; omega) rfl, rfl⟩
              · have hf10 : (tail_ s a)[i + 1]? ≠ some 10 := by rw [hcf]; exact fun e => h10 (by have e2 := congrArg UInt8.toNat (Option.some.inj e); rw [hcfd] at e2; exact e2)
                have HR : Hid (numB most (tail_ s a) = (0, 0, 2)) := by rw [Hid, HE.out, if_neg hil, if_neg (by rw [h13']; simp [h0]), if_neg (by omega), if_pos hf10]
                have hfb : ((f : Int) != 10) = true := bne_iff_ne.mpr (by omega)
                clear hil h13' hf10 hcf hcfd hsf hd48 hdig
                go_wp2
                go_ret3
                exact ⟨ret_cnt HR.out rfl (by simp) rfl, rfl⟩
          · have hdb : ((d : Int) != 13) = true := bne_iff_ne.mpr (by omega)
            have HR : Hid (numB most (tail_ s a) = (0, 0, 2)) := by rw [Hid, HE.out, if_neg hil, if_pos (.inr (by rw [HC.out]; exact fun e => h13 (by have e2 := congrArg UInt8.toNat (Option.some.inj e); rw [HCD.out] at e2; exact e2)))]
            clear hil
            rcases hd48 with hd4 | ⟨hd4, hd5⟩
            all_goals
              go_wp2
              go_ret3
              exact ⟨ret_cnt HR.out rfl (by simp) rfl, rfl⟩
    · have hke : (((a : Int) + (i : Int)) == (s.size : Int)) = true := beq_iff_eq.mpr (by omega)
      have HE := Lib.hid (numB_of HP.out (digN_at _ _ HP.out.1 (.inl (by omega))))
      have HR : Hid (numB most (tail_ s a) = (0, 0, 0)) := by rw [Hid, HE.out, if_pos (by omega)]
      go_wp2
      go_ret3
      exact ⟨ret_cnt HR.out rfl (by simp) rfl, rfl⟩
end Go.Proofs.YtanpkomifhbhnaaDoor
