/- Decimal, Number and Bulk: the program's and the reference's both write the decimal numeral (Lib.itoa) of every int; the contracts ask that the library's table of powers of ten reads as it does (the row's own list). -/
import Derived.Test.YtaacpdejpcbbbaaGreatDoorDigs
import Derived.Test.YtaacpdejpcbbbaaGreatDoorDecS
import Derived.Test.YtaacpdejpcbbbaaGreatDoorShelf
namespace Go.Proofs.YtaacpdejpcbbbaaGreatDoor
set_option linter.unusedVariables false
set_option linter.unusedSimpArgs false
open Go.RowKit
attribute [local go_sem] bs_size List.length_cons List.length_nil List.length_append

/-- The table of powers of ten reads as Go's library lays it, and lies below the heap's end. -/
structure Pow (w : World) : Prop where
  tab : Lib.TabIs Tryz.prog w "internal/strconv.uint64pow10" .u64 Lib.pow10Tab
  big : 2 < w.heap.size
theorem gPow : Tryz.prog.globalNamed "internal/strconv.uint64pow10" = some 2 := by kernel_rfl
theorem Pow.below {w w' : World} (h : Pow w) (hb : Below w.heap.size w w') : Pow w' :=
  ⟨var?_below hb gPow h.big h.tab, Nat.lt_of_lt_of_le h.big hb.size⟩

theorem impl_Decimal_calls (n : Int) (w : World) (h0 : -9223372036854775808 ≤ n) (h1 : n ≤ 9223372036854775807) (hP : Pow w) :
    Calls Tryz.prog 89 #[.int .i64 n] w fun e w' => e = .returned (.string (bs (Lib.itoa n))) ∧ Below w.heap.size w w' := by
  have ht := Lib.hid hP.tab
  clear hP
  go_enter Tryz.func89, Tryz.ntmps89
  go_wp2_with (go_at_call 135; refine (Tryz.strconv_Itoa n h0 h1 _ ht.out).mono ?_; rintro e w' ⟨rfl, k, os, rfl⟩)
  go_ret
  exact ⟨rfl, Lib.below_grow _ _ (Nat.le_refl _) _ _⟩

def numText (n : Int) : List UInt8 := 58 :: Lib.itoa n ++ [13, 10]
def bulkText (l : List UInt8) : List UInt8 := 36 :: Lib.itoa l.length ++ [13, 10] ++ l ++ [13, 10]
theorem numText_eq (n : Int) : ((⟨#[58]⟩ : ByteArray) ++ bs (Lib.itoa n)) ++ (⟨#[13, 10]⟩ : ByteArray) = bs (numText n) := by
  show bs [58] ++ bs (Lib.itoa n) ++ bs [13, 10] = _
  rw [bs_append, bs_append]; rfl
theorem bulkText_eq (s : ByteArray) (l : List UInt8) (h : l = Lib.itoa (s.size : Int)) : (((((⟨#[36]⟩ : ByteArray) ++ bs l) ++ (⟨#[13, 10]⟩ : ByteArray)) ++ s) ++ (⟨#[13, 10]⟩ : ByteArray)) = bs (bulkText (ub s)) := by
  show bs [36] ++ bs l ++ bs [13, 10] ++ s ++ bs [13, 10] = _
  rw [bs_append, bs_append, bs_app, bs_append, h, ← ub_length]; rfl
end Go.Proofs.YtaacpdejpcbbbaaGreatDoor
