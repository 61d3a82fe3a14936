/- The reference's Decimal: the decimal numeral (Lib.itoa) of every int. -/
import Derived.Test.YtdoaemagednclaaDoorDigs
namespace Go.Proofs.YtdoaemagednclaaDoor
set_option linter.unusedVariables false
set_option linter.unusedSimpArgs false
open Go.RowKit
attribute [local go_sem] bs_size List.length_cons List.length_nil List.length_append

/-- One figure. -/
def fig (n : Int) : Int := if n < 10 then 48 + n else 87 + n
theorem fig_lo {n : Int} (h : n < 10) : fig n = 48 + n := by unfold fig; rw [if_pos h]
theorem fig_hi {n : Int} (h : ¬ n < 10) : fig n = 87 + n := by unfold fig; rw [if_neg h]
theorem spec_Figure_calls (n : Int) (w : World) (h0 : 0 ≤ n) (h1 : n ≤ 15) :
    Calls Tryd.prog 33 #[.int .i64 n] w fun e w' => e = .returned (.int .u8 (fig n)) ∧ w = w' := by
  by_cases h : n < 10
  · go_enter Tryd.func33, Tryd.ntmps33
    go_wp2
    go_ret
    exact ⟨ret_int (by rw [fig_lo h]), rfl⟩
  · go_enter Tryd.func33, Tryd.ntmps33
    go_wp2
    go_ret
    exact ⟨ret_int (by rw [fig_hi (by omega)]; omega), rfl⟩

theorem itoa_zero : bs (Lib.itoa 0) = ⟨#[48]⟩ := by
  unfold Lib.itoa
  rw [if_neg (by omega), Lib.decDigits, dif_pos (by decide)]
  rfl
/-- The loop of the reference's Decimal: s is what was made, m what is left. -/
def DecRel (n m : Int) (s : ByteArray) : Prop := digs m.natAbs ++ ub s = digs n.natAbs ∧ (0 ≤ n → 0 ≤ m) ∧ (n < 0 → m ≤ 0)
theorem decRel_size {n m : Int} {s : ByteArray} (h : DecRel n m s) (h0 : -9223372036854775808 ≤ n) (h1 : n ≤ 9223372036854775807) : s.size ≤ 30 := by
  have := congrArg List.length h.1
  rw [List.length_append, ub_length] at this
  have := digs_length 30 n.natAbs (by omega)
  omega
theorem decStart (n : Int) : DecRel n n ⟨#[]⟩ := ⟨by rw [show ub ⟨#[]⟩ = [] from rfl, List.append_nil], fun h => h, fun h => by omega⟩
theorem decEnd_neg {n m : Int} {s : ByteArray} (hn : n < 0) (hm : m = 0) (h : DecRel n m s) : (⟨#[45]⟩ : ByteArray) ++ s = bs (Lib.itoa n) := by
  subst hm
  rw [itoa_neg hn, ← h.1]
  exact bs_app s [45]
theorem decEnd_pos {n m : Int} {s : ByteArray} (hn : 0 < n) (hm : m = 0) (h : DecRel n m s) : s = bs (Lib.itoa n) := by
  subst hm
  rw [itoa_pos hn, ← h.1]
  exact (bs_ub s).symm
theorem decStep {n m q f : Int} {s : ByteArray} (hm : m ≠ 0) (hq : q.natAbs = m.natAbs / 10) (hf : f = 48 + ((m.natAbs % 10 : Nat) : Int)) (hs : (0 ≤ m → 0 ≤ q) ∧ (m ≤ 0 → q ≤ 0)) (h : DecRel n m s) : DecRel n q (bs [UInt8.ofNat f.toNat] ++ s) := by
  refine ⟨?_, fun z => hs.1 (h.2.1 z), fun z => hs.2 (h.2.2 z)⟩
  rw [← h.1, digs_step m.natAbs (by omega), hq, bs_app, ub_bs, hf, show (48 + ((m.natAbs % 10 : Nat) : Int)).toNat = 48 + m.natAbs % 10 by omega, List.append_assoc]
theorem decStep_pos {n m : Int} {s : ByteArray} (hm : 0 < m) (h : DecRel n m s) : DecRel n (m / 10) (bs [UInt8.ofNat (fig (m % 10)).toNat] ++ s) :=
  decStep (by omega) (by omega) (by rw [fig_lo (by omega)]; omega) ⟨fun _ => by omega, fun _ => by omega⟩ h
theorem decStep_neg {n m : Int} {s : ByteArray} (hm : m < 0) (ht : m.tmod 10 = -((m.natAbs % 10 : Nat) : Int)) (h : DecRel n m s) : DecRel n (m.tdiv 10) (bs [UInt8.ofNat (fig (-m.tmod 10)).toNat] ++ s) := by
  have e := Int.tmod_add_mul_tdiv m 10
  exact decStep (by omega) (by omega) (by rw [fig_lo (by omega)]; omega) ⟨fun _ => by omega, fun _ => by omega⟩ h
theorem decStep_zero {n m : Int} {s : ByteArray} (hm : m < 0) (hz : m.tmod 10 = 0) (ht : m.tmod 10 = -((m.natAbs % 10 : Nat) : Int)) (h : DecRel n m s) : DecRel n (m.tdiv 10) (bs [UInt8.ofNat (fig (m.tmod 10)).toNat] ++ s) := by
  have e := Int.tmod_add_mul_tdiv m 10
  exact decStep (by omega) (by omega) (by rw [fig_lo (by omega)]; omega) ⟨fun _ => by omega, fun _ => by omega⟩ h
theorem tdiv_in {m : Int} (h : m ≤ 0) (h0 : -9223372036854775808 ≤ m) : -9223372036854775808 ≤ m.tdiv 10 ∧ m.tdiv 10 ≤ 9223372036854775807 := by
  have e := Int.natAbs_tdiv m 10
  have e2 : m.natAbs.div (10 : Int).natAbs = m.natAbs / 10 := rfl
  rw [e2] at e
  omega
theorem tdiv_lt {m : Int} (h : ¬ m = 0) : (m.tdiv 10).natAbs < m.natAbs := by
  rw [Int.natAbs_tdiv]
  show m.natAbs / 10 < m.natAbs
  omega
theorem tmod_bd (m : Int) (h : m ≤ 0) : -9 ≤ m.tmod 10 ∧ m.tmod 10 ≤ 0 ∧ m.tmod 10 = -((m.natAbs % 10 : Nat) : Int) := by
  have e : m.tmod 10 = -((m.natAbs % 10 : Nat) : Int) := by
    obtain ⟨k, rfl⟩ : ∃ k : Nat, m = -(k : Int) := ⟨m.natAbs, by omega⟩
    rw [Int.neg_tmod, Int.natAbs_neg, Int.natAbs_natCast]
    rfl
  omega
set_option maxRecDepth 100000 in
theorem spec_Decimal_calls (n : Int) (w : World) (h0 : -9223372036854775808 ≤ n) (h1 : n ≤ 9223372036854775807) :
    Calls Tryd.prog 19 #[.int .i64 n] w fun e w' => e = .returned (.string (bs (Lib.itoa n))) ∧ Below w.heap.size w w' := by
  by_cases hz : n = 0
  · subst hz
    go_enter Tryd.func19, Tryd.ntmps19
    go_wp2
    go_ret
    exact ⟨ret_str itoa_zero.symm, Below.refl _ _⟩
  · have hz0 : (n == 0) = false := beq_eq_false_iff_ne.mpr hz
    have kc := conv_one (P := Tryd.prog) 22 5 9 Tryd.underlying22 Tryd.underlying5 Tryd.underlying9
    go_enter Tryd.func19, Tryd.ntmps19
    go_wp2
    go_loopw [0, 4] (fun v s wr => ∃ (m : Int) (S : ByteArray), v = .int .i64 m ∧ s = .string S ∧ DecRel n m S ∧ -9223372036854775808 ≤ m ∧ m ≤ 9223372036854775807 ∧ Below w.heap.size w wr) (fun v _ _ => (intOf v).natAbs)
    case atStart => exact ⟨n, _, rfl, rfl, decStart n, h0, h1, Below.refl _ _⟩
    case round =>
      obtain ⟨m, S, rfl, rfl, hrel, hm0, hm1, hbel⟩ := hrel
      have HR := Lib.hid hrel
      have HB := Lib.hid hbel
      have hS := decRel_size hrel h0 h1
      clear hrel hbel
      by_cases hm : m = 0
      · by_cases hn : n < 0
        · go_wp2
          go_ret
          exact ⟨ret_str (decEnd_neg hn hm HR.out), HB.out⟩
        · go_wp2
          go_ret
          exact ⟨ret_str (decEnd_pos (by omega) hm HR.out), HB.out⟩
      · by_cases hp : 0 < m
        · go_wp2_with (go_at_call 33; refine (spec_Figure_calls _ _ (by omega) (by omega)).mono ?_; rintro e w' ⟨rfl, rfl⟩)
          go_roundw
          case rel => exact ⟨m / 10, _, rfl, rfl, decStep_pos hp HR.out, by omega, by omega, HB.out.alloc HB.out.size _⟩
          case measure => simp [intOf]; omega
        · have ht := tmod_bd m (by omega)
          have HT := Lib.hid ht.2.2
          have ht1 := ht.1
          have ht2 := ht.2.1
          clear ht
          by_cases hs : m.tmod 10 < 0
          · go_wp2_with (go_at_call 33; refine (spec_Figure_calls _ _ (by omega) (by omega)).mono ?_; rintro e w' ⟨rfl, rfl⟩)
            go_roundw
            case rel => exact ⟨m.tdiv 10, _, rfl, rfl, decStep_neg (by omega) HT.out HR.out, (tdiv_in (by omega) hm0).1, (tdiv_in (by omega) hm0).2, HB.out.alloc HB.out.size _⟩
            case measure => exact tdiv_lt hm
          · go_wp2_with (go_at_call 33; refine (spec_Figure_calls _ _ (by omega) (by omega)).mono ?_; rintro e w' ⟨rfl, rfl⟩)
            go_roundw
            case rel => exact ⟨m.tdiv 10, _, rfl, rfl, decStep_zero (by omega) (by omega) HT.out HR.out, (tdiv_in (by omega) hm0).1, (tdiv_in (by omega) hm0).2, HB.out.alloc HB.out.size _⟩
            case measure => exact tdiv_lt hm
theorem itoa_len (n : Int) (h0 : -9223372036854775808 ≤ n) (h1 : n ≤ 9223372036854775807) : (Lib.itoa n).length ≤ 31 := by
  by_cases hz : n = 0
  · subst hz
    have := congrArg ByteArray.size itoa_zero
    rw [bs_size] at this
    rw [this]
    decide
  · have := digs_length 30 n.natAbs (by omega)
    by_cases hn : n < 0
    · rw [itoa_neg hn, List.length_cons]; omega
    · rw [itoa_pos (by omega)]; omega
end Go.Proofs.YtdoaemagednclaaDoor
