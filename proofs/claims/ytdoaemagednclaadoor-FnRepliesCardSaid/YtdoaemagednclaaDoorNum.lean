/- Decimal, Number and Bulk: the program's and the reference's both write the decimal numeral (Lib.itoa) of every int; the contracts ask that the library's table of powers of ten reads as it does (the row's own list). -/
import Derived.Test.YtdoaemagednclaaDoorDigs
import Derived.Test.YtdoaemagednclaaDoorDecS
import Derived.Test.YtdoaemagednclaaDoorShelf
namespace Go.Proofs.YtdoaemagednclaaDoor
set_option linter.unusedVariables false
set_option linter.unusedSimpArgs false
open Go.RowKit
attribute [local go_sem] bs_size List.length_cons List.length_nil List.length_append

/-- The table of powers of ten reads as Go's library lays it, and lies below the heap's end. -/
structure Pow (w : World) : Prop where
  tab : Lib.TabIs Tryd.prog w "internal/strconv.uint64pow10" .u64 Lib.pow10Tab
  big : 5 < w.heap.size
theorem gPow : Tryd.prog.globalNamed "internal/strconv.uint64pow10" = some 5 := by kernel_rfl
theorem Pow.below {w w' : World} (h : Pow w) (hb : Below w.heap.size w w') : Pow w' :=
  ⟨var?_below hb gPow h.big h.tab, Nat.lt_of_lt_of_le h.big hb.size⟩

theorem impl_Decimal_calls (n : Int) (w : World) (h0 : -9223372036854775808 ≤ n) (h1 : n ≤ 9223372036854775807) (hP : Pow w) :
    Calls Tryd.prog 27 #[.int .i64 n] w fun e w' => e = .returned (.string (bs (Lib.itoa n))) ∧ Below w.heap.size w w' := by
  have ht := Lib.hid hP.tab
  clear hP
  go_enter Tryd.func27, Tryd.ntmps27
  go_wp2_with (go_at_call 47; refine (Tryd.strconv_Itoa n h0 h1 _ ht.out).mono ?_; rintro e w' ⟨rfl, k, os, rfl⟩)
  go_ret
  exact ⟨rfl, Lib.below_grow _ _ (Nat.le_refl _) _ _⟩

def numText (n : Int) : List UInt8 := 58 :: Lib.itoa n ++ [13, 10]
def bulkText (l : List UInt8) : List UInt8 := 36 :: Lib.itoa l.length ++ [13, 10] ++ l ++ [13, 10]
theorem numText_eq (n : Int) : ((⟨#[58]⟩ : ByteArray) ++ bs (Lib.itoa n)) ++ (⟨#[13, 10]⟩ : ByteArray) = bs (numText n) := by
  show bs [58] ++ bs (Lib.itoa n) ++ bs [13, 10] = _
  rw [bs_append, bs_append]; rfl
theorem bulkText_eq (s : ByteArray) (l : List UInt8) (h : l = Lib.itoa (s.size : Int)) : (((((⟨#[36]⟩ : ByteArray) ++ bs l) ++ (⟨#[13, 10]⟩ : ByteArray)) ++ s) ++ (⟨#[13, 10]⟩ : ByteArray)) = bs (bulkText (ub s)) := by
  show bs [36] ++ bs l ++ bs [13, 10] ++ s ++ bs [13, 10] = _
  rw [bs_append, bs_append, bs_app, bs_append, h, ← ub_length]; rfl
theorem spec_Number_calls (n : Int) (w : World) (h0 : -9223372036854775808 ≤ n) (h1 : n ≤ 9223372036854775807) :
    Calls Tryd.prog 22 #[.int .i64 n] w fun e w' => e = .returned (.string (bs (numText n))) ∧ Below w.heap.size w w' := by
  have hl := itoa_len n h0 h1
  go_enter Tryd.func22, Tryd.ntmps22
  go_wp2_with (go_at_call 19; refine (spec_Decimal_calls n _ h0 h1).mono ?_; rintro e w' ⟨rfl, hb⟩)
  go_ret
  exact ⟨ret_str (numText_eq n), hb⟩
theorem impl_Number_calls (n : Int) (w : World) (h0 : -9223372036854775808 ≤ n) (h1 : n ≤ 9223372036854775807) (hP : Pow w) :
    Calls Tryd.prog 17 #[.int .i64 n] w fun e w' => e = .returned (.string (bs (numText n))) ∧ Below w.heap.size w w' := by
  have hl := itoa_len n h0 h1
  go_enter Tryd.func17, Tryd.ntmps17
  go_wp2_with (go_at_call 27; refine (impl_Decimal_calls n _ h0 h1 hP).mono ?_; rintro e w' ⟨rfl, hb⟩)
  go_ret
  exact ⟨ret_str (numText_eq n), hb⟩
theorem spec_Bulk_calls (s : ByteArray) (w : World) (hs : s.size ≤ 140737488351232) :
    Calls Tryd.prog 45 #[.string s] w fun e w' => e = .returned (.string (bs (bulkText (ub s)))) ∧ Below w.heap.size w w' := by
  have hl := itoa_len s.size (by omega) (by omega)
  go_enter Tryd.func45, Tryd.ntmps45
  go_wp2_with (go_at_call 19; refine (spec_Decimal_calls _ _ (by omega) (by omega)).mono ?_; rintro e w' ⟨rfl, hb⟩)
  go_ret
  exact ⟨ret_str (bulkText_eq s _ rfl), hb⟩
theorem impl_Bulk_calls (s : ByteArray) (w : World) (hs : s.size ≤ 140737488351232) (hP : Pow w) :
    Calls Tryd.prog 13 #[.string s] w fun e w' => e = .returned (.string (bs (bulkText (ub s)))) ∧ Below w.heap.size w w' := by
  have hl := itoa_len s.size (by omega) (by omega)
  go_enter Tryd.func13, Tryd.ntmps13
  go_wp2_with (go_at_call 27; refine (impl_Decimal_calls _ _ (by omega) (by omega) hP).mono ?_; rintro e w' ⟨rfl, hb⟩)
  go_ret
  exact ⟨ret_str (bulkText_eq s _ rfl), hb⟩
end Go.Proofs.YtdoaemagednclaaDoor
