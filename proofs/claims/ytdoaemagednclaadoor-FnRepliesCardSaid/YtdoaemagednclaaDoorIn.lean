/- Shared small things: within and l01In (inR), the bytes of a text from a place on (tail_), cuts of a text. -/
import Derived.Test.YtdoaemagednclaaDoorBase
namespace Go.Proofs.YtdoaemagednclaaDoor
set_option linter.unusedVariables false
set_option linter.unusedSimpArgs false
open Go.RowKit
def inR (n lo hi : Int) : Bool := decide (lo ≤ n) && decide (n ≤ hi)
theorem inR_true {n lo hi : Int} (h : lo ≤ n ∧ n ≤ hi) : inR n lo hi = true := by simp [inR, h.1, h.2]
theorem inR_low {n lo hi : Int} (h : ¬ lo ≤ n) : inR n lo hi = false := by simp [inR]; omega
theorem inR_high {n lo hi : Int} (h : ¬ n ≤ hi) : inR n lo hi = false := by simp [inR]; omega
theorem inR_false {n lo hi : Int} (h : ¬ (lo ≤ n ∧ n ≤ hi)) : inR n lo hi = false := by simp [inR]; omega
theorem impl_within_calls (n lo hi : Int) (w : World) : Calls Tryd.prog 28 #[.int .i64 n, .int .i64 lo, .int .i64 hi] w fun e w' => e = .returned (.bool (inR n lo hi)) ∧ w = w' := by
  by_cases h1 : lo ≤ n
  · by_cases h2 : n ≤ hi
    · have HE := Lib.hid (inR_true ⟨h1, h2⟩)
      go_enter Tryd.func28, Tryd.ntmps28
      go_wp2
      go_ret
      exact ⟨ret_bool HE.out.symm, rfl⟩
    · have HE := Lib.hid (inR_high (lo := lo) h2)
      go_enter Tryd.func28, Tryd.ntmps28
      go_wp2
      go_ret
      exact ⟨ret_bool HE.out.symm, rfl⟩
  · have HE := Lib.hid (inR_low (hi := hi) h1)
    go_enter Tryd.func28, Tryd.ntmps28
    go_wp2
    go_ret
    exact ⟨ret_bool HE.out.symm, rfl⟩
theorem spec_l01In_calls (n lo hi : Int) (w : World) : Calls Tryd.prog 52 #[.int .i64 n, .int .i64 lo, .int .i64 hi] w fun e w' => e = .returned (.bool (inR n lo hi)) ∧ w = w' := by
  by_cases h1 : lo ≤ n
  · by_cases h2 : n ≤ hi
    · have HE := Lib.hid (inR_true ⟨h1, h2⟩)
      go_enter Tryd.func52, Tryd.ntmps52
      go_wp2
      go_ret
      exact ⟨ret_bool HE.out.symm, rfl⟩
    · have HE := Lib.hid (inR_high (lo := lo) h2)
      go_enter Tryd.func52, Tryd.ntmps52
      go_wp2
      go_ret
      exact ⟨ret_bool HE.out.symm, rfl⟩
  · have HE := Lib.hid (inR_low (hi := hi) h1)
    go_enter Tryd.func52, Tryd.ntmps52
    go_wp2
    go_ret
    exact ⟨ret_bool HE.out.symm, rfl⟩
/-- The bytes of a text from a place on. -/
def tail_ (s : ByteArray) (at_ : Nat) : List UInt8 := (ub s).drop at_
theorem tail_get {s : ByteArray} {a i : Nat} (h : a + i < s.size) : ∃ c : UInt8, (tail_ s a)[i]? = some c := by
  unfold tail_
  rw [List.getElem?_drop]
  exact ⟨_, List.getElem?_eq_getElem (by rw [ub_length]; exact h)⟩
theorem tail_len (s : ByteArray) (a : Nat) : (tail_ s a).length = s.size - a := by rw [tail_, List.length_drop, ub_length]
theorem tail_byte {s : ByteArray} {a i : Nat} (h : a + i < s.size) : ∃ d : Nat, d < 256 ∧ s[a + i].toNat = d ∧ (tail_ s a)[i]? = some (UInt8.ofNat d) ∧ (UInt8.ofNat d).toNat = d := by
  refine ⟨s[a + i].toNat, s[a + i].toNat_lt, rfl, ?_, by simp⟩
  unfold tail_ ub
  rw [List.getElem?_drop, List.getElem?_eq_getElem (by rw [Array.length_toList]; exact h)]
  simp
  rfl
theorem bs_extract (s : ByteArray) (a b : Nat) : s.extract a b = bs (((ub s).take b).drop a) := by
  apply ByteArray.ext
  rw [ByteArray.data_extract]
  apply Array.ext'
  show (s.data.extract a b).toList = ((s.data.toList.take b).drop a).toArray.toList
  simp [Array.toList_extract, List.extract_eq_take_drop, List.drop_take]
theorem extract_tail (s : ByteArray) (a i : Nat) : s.extract a (a + i) = bs ((tail_ s a).take i) := by
  rw [bs_extract, tail_, List.drop_take]
  congr 2
  omega
theorem run_slice_piece (W : World) (s : ByteArray) (a i : Nat) (x y : Int) (hx : x = (a : Int)) (hy : y = ((a + i : Nat) : Int)) (h : a + i ≤ s.size) :
    (Instr.slice 9 (.string s) (some (.int .i64 x)) (some (.int .i64 y)) none).run Tryd.prog W = .ok (.string (bs ((tail_ s a).take i))) W := by
  subst hx hy
  rw [run_slice_string (P := Tryd.prog) W 9 s .i64 .i64 (a : Int) ((a + i : Nat) : Int) Tryd.underlying9 (by omega) (by omega) (by omega), Int.toNat_natCast, Int.toNat_natCast, extract_tail]
end Go.Proofs.YtdoaemagednclaaDoor
