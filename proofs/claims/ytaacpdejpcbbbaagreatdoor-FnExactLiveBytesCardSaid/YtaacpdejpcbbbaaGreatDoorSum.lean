/- Checksums: SumMore, SumOf, the program's and the reference's; four bytes of a sum. -/
import Derived.Test.YtaacpdejpcbbbaaGreatDoorBytes
import Derived.Test.YtaacpdejpcbbbaaGreatDoorRd3
import Derived.Laws.BitsAllLaws
namespace Go.Proofs.YtaacpdejpcbbbaaGreatDoor
set_option linter.unusedVariables false
set_option linter.unusedSimpArgs false
open Go.RowKit
attribute [local go_sem] bs_size List.length_cons List.length_nil List.length_append

def sum1 (x : Nat) : Nat := if x % 2 = 1 then (x / 2) ^^^ 3558460437 else x / 2
def sumK : Nat → Nat → Nat
  | 0, x => x
  | k + 1, x => sum1 (sumK k x)
def sumB (x : Nat) (b : UInt8) : Nat := sumK 8 (x ^^^ b.toNat)
def sumL (x : Nat) (l : List UInt8) : Nat := l.foldl sumB x
theorem xor_lt {a b : Nat} (ha : a < 4294967296) (hb : b < 4294967296) : a ^^^ b < 4294967296 := Nat.xor_lt_two_pow (n := 32) ha hb
theorem sum1_lt {x : Nat} (h : x < 4294967296) : sum1 x < 4294967296 := by
  unfold sum1
  split
  · exact xor_lt (by omega) (by omega)
  · omega
theorem sumK_lt {x : Nat} (h : x < 4294967296) : ∀ k, sumK k x < 4294967296
  | 0 => h
  | k + 1 => sum1_lt (sumK_lt h k)
theorem sumB_lt {x : Nat} (h : x < 4294967296) (b : UInt8) : sumB x b < 4294967296 := sumK_lt (xor_lt h (by have := UInt8.toNat_lt b; omega)) 8
theorem sumL_lt : ∀ (l : List UInt8) {x : Nat}, x < 4294967296 → sumL x l < 4294967296
  | [], _, h => h
  | b :: l, _, h => sumL_lt l (sumB_lt h b)
theorem sumL_snoc (x : Nat) (l : List UInt8) (b : UInt8) : sumL x (l ++ [b]) = sumB (sumL x l) b := by
  unfold sumL
  rw [List.foldl_append]
  rfl
theorem xor_fact {a b : Nat} (ha : a < 4294967296) (hb : b < 4294967296) : bits .xor .u32 (a : Int) (b : Int) = ((a ^^^ b : Nat) : Int) := u32_xor_nat a b ha hb
set_option maxRecDepth 100000 in
theorem impl_SumMore_calls (x : Nat) (hx : x < 4294967296) (s : ByteArray) (w : World) (hs : s.size ≤ 9223372036854775807) :
    Calls Tryz.prog 176 #[.int .u32 (x : Int), .string s] w fun e w' => e = .returned (.int .u32 (sumL x (ub s) : Int)) ∧ w' = w := by
  go_enter Tryz.func176, Tryz.ntmps176
  go_wp2
  go_loop [0, 5] (fun v iv => ∃ i : Nat, i ≤ s.size ∧ iv = .int .i64 (i : Int) ∧ v = .int .u32 (sumL x ((ub s).take i) : Int)) (fun _ iv => s.size - (intOf iv).toNat)
  case atStart => exact ⟨0, Nat.zero_le _, rfl, rfl⟩
  case round =>
    obtain ⟨i, hi, rfl, rfl⟩ := hrel
    by_cases hlt : i < s.size
    · obtain ⟨d, hd, hsd, hc, hcd⟩ := ub_byte' hlt
      have HY : Hid (sumL x ((ub s).take (i + 1)) = sumK 8 (sumL x ((ub s).take i) ^^^ d)) := by rw [Hid, take_snoc hc, sumL_snoc]; unfold sumB; rw [hcd]
      have hY := sumL_lt ((ub s).take i) hx
      generalize sumL x ((ub s).take i) = y at HY hY ⊢
      have hx1 := xor_fact hY (show d < 4294967296 by omega)
      have HZ := Lib.hid (xor_lt hY (show d < 4294967296 by omega))
      clear hc hcd
      go_wp2
      generalize hq : y ^^^ d = q at HY HZ ⊢
      clear hq hx1
      go_loop [0, 6] (fun v kv => ∃ k : Nat, k ≤ 8 ∧ kv = .int .i64 (k : Int) ∧ v = .int .u32 (sumK k q : Int)) (fun _ kv => 8 - (intOf kv).toNat)
      case atStart => exact ⟨0, by omega, rfl, rfl⟩
      case round =>
        obtain ⟨k, hk, rfl, rfl⟩ := hrel
        by_cases hk8 : k < 8
        · have hz := sumK_lt HZ.out k
          have HN : Hid (sumK (k + 1) q = sum1 (sumK k q)) := rfl
          generalize sumK k q = z at HN hz ⊢
          by_cases ho : z % 2 = 1
          · have HE : Hid (sum1 z = (z / 2) ^^^ 3558460437) := if_pos ho
            have hx2 : bits .xor .u32 ((z : Int) / 2) 3558460437 = (((z / 2) ^^^ 3558460437 : Nat) : Int) := xor_fact (a := z / 2) (b := 3558460437) (by omega) (by omega)
            have hm : ((z : Int) % 2 == 1) = true := beq_iff_eq.mpr (by omega)
            clear ho
            go_wp2
            go_round
            case rel => exact ⟨k + 1, by omega, by go_num, by rw [HN.out, HE.out]⟩
            case measure => simp [intOf]; omega
          · have HE : Hid (sum1 z = z / 2) := if_neg ho
            have hm : ((z : Int) % 2 == 1) = false := beq_eq_false_iff_ne.mpr (by omega)
            clear ho
            go_wp2
            go_round
            case rel => exact ⟨k + 1, by omega, by go_num, by rw [HN.out, HE.out]; rfl⟩
            case measure => simp [intOf]; omega
        · obtain rfl : k = 8 := by omega
          go_wp2
          go_round
          case rel => exact ⟨i + 1, by omega, by go_num, by rw [HY.out]⟩
          case measure => simp [intOf]; omega
    · obtain rfl : i = s.size := by omega
      have HE : Hid (sumL x ((ub s).take s.size) = sumL x (ub s)) := by rw [Hid, ← ub_length, List.take_length]
      go_wp2
      go_ret
      exact ⟨ret_int (by rw [HE.out]), rfl⟩
set_option maxRecDepth 100000 in
theorem spec_SumMore_calls (x : Nat) (hx : x < 4294967296) (s : ByteArray) (w : World) (hs : s.size ≤ 9223372036854775807) :
    Calls Tryz.prog 156 #[.int .u32 (x : Int), .string s] w fun e w' => e = .returned (.int .u32 (sumL x (ub s) : Int)) ∧ w' = w := by
  go_enter Tryz.func156, Tryz.ntmps156
  go_wp2
  go_loop [0, 5] (fun v iv => ∃ i : Nat, i ≤ s.size ∧ iv = .int .i64 (i : Int) ∧ v = .int .u32 (sumL x ((ub s).take i) : Int)) (fun _ iv => s.size - (intOf iv).toNat)
  case atStart => exact ⟨0, Nat.zero_le _, rfl, rfl⟩
  case round =>
    obtain ⟨i, hi, rfl, rfl⟩ := hrel
    by_cases hlt : i < s.size
    · obtain ⟨d, hd, hsd, hc, hcd⟩ := ub_byte' hlt
      have HY : Hid (sumL x ((ub s).take (i + 1)) = sumK 8 (sumL x ((ub s).take i) ^^^ d)) := by rw [Hid, take_snoc hc, sumL_snoc]; unfold sumB; rw [hcd]
      have hY := sumL_lt ((ub s).take i) hx
      generalize sumL x ((ub s).take i) = y at HY hY ⊢
      have hx1 := xor_fact hY (show d < 4294967296 by omega)
      have HZ := Lib.hid (xor_lt hY (show d < 4294967296 by omega))
      clear hc hcd
      go_wp2
      generalize hq : y ^^^ d = q at HY HZ ⊢
      clear hq hx1
      go_loop [0, 6] (fun v kv => ∃ k : Nat, k ≤ 8 ∧ kv = .int .i64 (k : Int) ∧ v = .int .u32 (sumK k q : Int)) (fun _ kv => 8 - (intOf kv).toNat)
      case atStart => exact ⟨0, by omega, rfl, rfl⟩
      case round =>
        obtain ⟨k, hk, rfl, rfl⟩ := hrel
        by_cases hk8 : k < 8
        · have hz := sumK_lt HZ.out k
          have HN : Hid (sumK (k + 1) q = sum1 (sumK k q)) := rfl
          generalize sumK k q = z at HN hz ⊢
          by_cases ho : z % 2 = 1
          · have HE : Hid (sum1 z = (z / 2) ^^^ 3558460437) := if_pos ho
            have hx2 : bits .xor .u32 ((z : Int) / 2) 3558460437 = (((z / 2) ^^^ 3558460437 : Nat) : Int) := xor_fact (a := z / 2) (b := 3558460437) (by omega) (by omega)
            have hm : ((z : Int) % 2 == 1) = true := beq_iff_eq.mpr (by omega)
            clear ho
            go_wp2
            go_round
            case rel => exact ⟨k + 1, by omega, by go_num, by rw [HN.out, HE.out]⟩
            case measure => simp [intOf]; omega
          · have HE : Hid (sum1 z = z / 2) := if_neg ho
            have hm : ((z : Int) % 2 == 1) = false := beq_eq_false_iff_ne.mpr (by omega)
            clear ho
            go_wp2
            go_round
            case rel => exact ⟨k + 1, by omega, by go_num, by rw [HN.out, HE.out]; rfl⟩
            case measure => simp [intOf]; omega
        · obtain rfl : k = 8 := by omega
          go_wp2
          go_round
          case rel => exact ⟨i + 1, by omega, by go_num, by rw [HY.out]⟩
          case measure => simp [intOf]; omega
    · obtain rfl : i = s.size := by omega
      have HE : Hid (sumL x ((ub s).take s.size) = sumL x (ub s)) := by rw [Hid, ← ub_length, List.take_length]
      go_wp2
      go_ret
      exact ⟨ret_int (by rw [HE.out]), rfl⟩
theorem impl_SumOf_calls (s : ByteArray) (w : World) (hs : s.size ≤ 9223372036854775807) : Calls Tryz.prog 142 #[.string s] w fun e w' => e = .returned (.int .u32 (sumL 4294967295 (ub s) : Int)) ∧ w' = w := by
  go_enter Tryz.func142, Tryz.ntmps142
  go_wp2_with fail
  go_at_call 176
  refine (impl_SumMore_calls 4294967295 (by omega) s _ hs).mono ?_
  rintro e w' ⟨rfl, rfl⟩
  go_wp2
  go_ret
  exact ⟨rfl, rfl⟩
theorem spec_SumOf_calls (s : ByteArray) (w : World) (hs : s.size ≤ 9223372036854775807) : Calls Tryz.prog 123 #[.string s] w fun e w' => e = .returned (.int .u32 (sumL 4294967295 (ub s) : Int)) ∧ w' = w := by
  go_enter Tryz.func123, Tryz.ntmps123
  go_wp2_with fail
  go_at_call 156
  refine (spec_SumMore_calls 4294967295 (by omega) s _ hs).mono ?_
  rintro e w' ⟨rfl, rfl⟩
  go_wp2
  go_ret
  exact ⟨rfl, rfl⟩
/-- The four bytes of a sum. -/
def four (n : Nat) : List UInt8 := [UInt8.ofNat (n / 16777216), UInt8.ofNat (n / 65536 % 256), UInt8.ofNat (n / 256 % 256), UInt8.ofNat (n % 256)]
def sum4 (l : List UInt8) : List UInt8 := four (sumL 4294967295 l)
theorem sum4_len (l : List UInt8) : (sum4 l).length = 4 := rfl
def sealedB (l : List UInt8) : Option (List UInt8) := if l.length ≤ 20000 then some (l ++ sum4 l) else none
def unsealed (l : List UInt8) : Option (List UInt8) := if 4 ≤ l.length ∧ l.length ≤ 20004 ∧ l.drop (l.length - 4) = sum4 (l.take (l.length - 4)) then some (l.take (l.length - 4)) else none
/-- 'string([]byte{x, y, z, u})'. -/
theorem conv_four {P : Program} (src e dst : TypeId) (hs : P.underlying src = some (.slice e)) (he : P.underlying e = some (.int .u8)) (hd : P.underlying dst = some .string) (w : World) (x y z u : Int) (c : Nat) :
    (convert src dst (.slice (some ⟨w.heap.size, 0, none⟩) 4 c)).run P (w.alloc (.cells #[.int .u8 x, .int .u8 y, .int .u8 z, .int .u8 u] e)) = .ok (.string (bs [UInt8.ofNat x.toNat, UInt8.ofNat y.toNat, UInt8.ofNat z.toNat, UInt8.ofNat u.toNat])) (w.alloc (.cells #[.int .u8 x, .int .u8 y, .int .u8 z, .int .u8 u] e)) :=
  run_convert_bytes_arg (w.alloc (.cells #[.int .u8 x, .int .u8 y, .int .u8 z, .int .u8 u] e)) src e hs he w.heap.size 0 4 c [x, y, z, u] rfl (fun i hi => by
    have h : i = 0 ∨ i = 1 ∨ i = 2 ∨ i = 3 := by omega
    rcases h with rfl | rfl | rfl | rfl <;> simp) dst hd
set_option maxRecDepth 100000 in
theorem spec_Four_calls (n : Nat) (hn : n < 4294967296) (w : World) : Calls Tryz.prog 122 #[.int .u32 (n : Int)] w fun e w' => e = .returned (.string (bs (four n))) ∧ Below w.heap.size w w' := by
  have kc := conv_four (P := Tryz.prog) 141 5 9 Tryz.underlying141 Tryz.underlying5 Tryz.underlying9
  go_enter Tryz.func122, Tryz.ntmps122
  go_wp2
  go_ret
  exact ⟨rfl, (Below.refl _ _).alloc (Nat.le_refl _) _⟩
theorem sealedB_no {l : List UInt8} (h : 20000 < l.length) : sealedB l = none := if_neg (by omega)
theorem sealedB_yes {l : List UInt8} (h : l.length ≤ 20000) : sealedB l = some (l ++ sum4 l) := if_pos h
theorem app_sum4 (s : ByteArray) : s ++ bs (sum4 (ub s)) = bs (ub s ++ sum4 (ub s)) := app_bs s _
theorem unsealed_short {l : List UInt8} (h : l.length < 4) : unsealed l = none := if_neg (by omega)
theorem unsealed_no {l : List UInt8} (h : ¬ (4 ≤ l.length ∧ l.length ≤ 20004 ∧ l.drop (l.length - 4) = sum4 (l.take (l.length - 4)))) : unsealed l = none := if_neg h
theorem ub_extract (s : ByteArray) (a b : Nat) : ub (s.extract a b) = ((ub s).drop a).take (b - a) := by
  unfold ub
  rw [ByteArray.data_extract, Array.toList_extract]
theorem ub_take (s : ByteArray) (n : Nat) : ub (s.extract 0 n) = (ub s).take n := by rw [ub_extract]; simp
theorem bs_take (s : ByteArray) (n : Nat) : bs ((ub s).take n) = s.extract 0 n := by rw [← ub_take, bs_ub]
theorem unsealed_a {s : ByteArray} (h : 4 ≤ s.size) (hq : sealedB (ub (s.extract 0 (s.size - 4))) = none) : unsealed (ub s) = none := by
  refine unsealed_no ?_
  rintro ⟨_, h2, _⟩
  rw [ub_length] at h2
  rw [sealedB_yes (by rw [ub_take, List.length_take, ub_length]; omega)] at hq
  cases hq
theorem sealed_iff {s : ByteArray} (h : 4 ≤ s.size) {l : List UInt8} (hq : sealedB (ub (s.extract 0 (s.size - 4))) = some l) : s.size ≤ 20004 ∧ (l = ub s ↔ (ub s).drop ((ub s).length - 4) = sum4 ((ub s).take ((ub s).length - 4))) := by
  unfold sealedB at hq
  split at hq
  · rename_i hc
    rw [ub_take, List.length_take, ub_length] at hc
    refine ⟨by omega, ?_⟩
    rw [← Option.some.inj hq, ub_take, ub_length]
    constructor
    · intro e
      have := congrArg (List.drop (s.size - 4)) e
      rw [List.drop_left' (by rw [List.length_take, ub_length]; omega)] at this
      exact this.symm
    · intro e
      rw [← e, List.take_append_drop]
  · cases hq
theorem unsealed_b {s : ByteArray} (h : 4 ≤ s.size) (hq : sealedB (ub (s.extract 0 (s.size - 4))) = some (ub s)) : unsealed (ub s) = some (ub (s.extract 0 (s.size - 4))) := by
  obtain ⟨h1, h2⟩ := sealed_iff h hq
  unfold unsealed
  rw [if_pos ⟨by rw [ub_length]; exact h, by rw [ub_length]; exact h1, h2.1 rfl⟩, ub_take, ub_length]
theorem unsealed_c {s : ByteArray} (h : 4 ≤ s.size) {l : List UInt8} (hq : sealedB (ub (s.extract 0 (s.size - 4))) = some l) (hl : l ≠ ub s) : unsealed (ub s) = none := by
  obtain ⟨_, h2⟩ := sealed_iff h hq
  exact unsealed_no fun hh => hl (h2.2 hh.2.2)
theorem unsealed_iff {s : ByteArray} {m : Nat} (hm : s.size = m + 4) : unsealed (ub s) = if s.size ≤ 20004 ∧ s.extract m s.size = bs (four (sumL 4294967295 (ub (s.extract 0 m)))) then some (ub (s.extract 0 m)) else none := by
  have e1 : (ub s).length - 4 = m := by rw [ub_length]; omega
  have e2 : ub (s.extract m s.size) = (ub s).drop m := by rw [ub_extract, List.take_of_length_le (by rw [List.length_drop, ub_length]; omega)]
  have e3 : (s.extract m s.size = bs (four (sumL 4294967295 (ub (s.extract 0 m))))) ↔ (ub s).drop m = sum4 ((ub s).take m) := by
    rw [← e2, ← ub_take]
    exact ⟨fun h => by rw [h, ub_bs]; rfl, fun h => by rw [← bs_ub (s.extract m s.size), h]; rfl⟩
  unfold unsealed
  rw [e1, ub_length, ← ub_take]
  rw [← ub_take] at e3
  by_cases h : s.size ≤ 20004 ∧ s.extract m s.size = bs (four (sumL 4294967295 (ub (s.extract 0 m))))
  · rw [if_pos h, if_pos ⟨by omega, h.1, e3.1 h.2⟩]
  · rw [if_neg h, if_neg (fun hh => h ⟨hh.2.1, e3.2 hh.2.2⟩)]
end Go.Proofs.YtaacpdejpcbbbaaGreatDoor
