/- The walk of the law FnExactArityOk. -/
import Derived.Test.YtanpkomifhbhnaaDoorArity
import Derived.Test.YtanpkomifhbhnaaDoorCmdLaws
namespace Go.Proofs.YtanpkomifhbhnaaDoor
set_option linter.unusedVariables false
set_option linter.unusedSimpArgs false
open Go.RowKit
theorem flat_nonneg (xs : List ByteArray) : 0 ≤ szs xs := by
  unfold szs
  induction xs with
  | nil => simp
  | cons x xs ih => simp only [List.map_cons, List.sum_cons]; omega
theorem sp_of_laid_FnExactArityOk {W : World} (h : laidMetH Tryd.prog Rows.fnExactArityOkRow.laid W) : Sp W := by
  rw [MakeChecks.laidMetH_plain _ _ _ (by kernel_rfl)] at h
  exact sp_of_laid (laidMet.tail h)
set_option maxRecDepth 100000 in
theorem walk_FnExactArityOk (A : Option Addr) (c : Nat) (xs : List ByteArray) (w : World) (h : StrRow w A c xs) (hP : Sp w) :
    Calls Tryd.prog 3 #[.slice A xs.length c] w fun e w' => e = .returned (.bool true) ∧ Below w.heap.size w w' := by
  have HR := Lib.hid h
  have HP := Lib.hid hP
  have HG := Lib.hid hP.big
  have hl := h.len
  have HZ := Lib.hid h.2.2.1
  clear h hP
  go_enter Tryd.func3, Tryd.ntmps3
  go_wp2_with fail
  go_at_call 12
  refine (laws_szStringS_calls A c xs _ _ HR.out (by omega) (by omega)).mono ?_
  rintro e w' ⟨⟨r, rfl, hr⟩, rfl⟩
  by_cases hn : r < 0
  · clear hr
    go_wp2
    go_ret
    exact ⟨rfl, Below.refl _ _⟩
  · have hx : xs.length ≤ 1048576 := by have := flat_nonneg xs; omega
    clear hr
    go_wp2_with fail
    go_at_call 14
    refine (laws_toStringS_calls A c xs _ HR.out hx).mono ?_
    rintro e w1 ⟨b1, rfl, hlt1, hblk1, hb1⟩
    have HK1 := Lib.hid hblk1
    have HB1 := Lib.hid hb1
    clear hblk1 hb1
    go_wp2_with fail
    go_at_call 13
    refine (spec_ArityOk_calls _ _ xs _ (HK1.out.row HZ.out)).mono ?_
    rintro e w2 ⟨rfl, hb2⟩
    have HB2 := Lib.hid (HB1.out.trans (hb2.mono HB1.out.size))
    clear hb2
    go_wp2_with fail
    go_at_call 14
    refine (laws_toStringS_calls A c xs _ (HR.out.below HB2.out) hx).mono ?_
    rintro e w3 ⟨b3, rfl, hlt3, hblk3, hb3⟩
    have HK3 := Lib.hid hblk3
    have HB3 := Lib.hid (HB2.out.trans (hb3.mono HB2.out.size))
    clear hblk3 hb3
    go_wp2_with fail
    go_at_call 15
    refine (impl_ArityOk_calls _ _ xs _ (HK3.out.row HZ.out) (HP.out.below HB3.out HG.out)).mono ?_
    rintro e w4 ⟨rfl, hb4⟩
    have HK4 := Lib.hid (HK3.out.below hb4)
    have HB4 := Lib.hid (HB3.out.trans (hb4.mono HB3.out.size))
    clear hb4
    go_wp2_with fail
    go_at_call 14
    refine (laws_toStringS_calls A c xs _ (HR.out.below HB4.out) hx).mono ?_
    rintro e w5 ⟨b5, rfl, hlt5, hblk5, hb5⟩
    have HK5 := Lib.hid (HK4.out.below hb5)
    have HK6 := Lib.hid hblk5
    have HB5 := Lib.hid (HB4.out.trans (hb5.mono HB4.out.size))
    clear hblk5 hb5
    have he := eqS_self xs
    go_wp2_with fail
    go_at_call 16
    refine (laws_eqStringS_calls _ _ xs _ _ xs _ (HK5.out.row HZ.out) (HK6.out.row HZ.out)).mono ?_
    rintro e w6 ⟨rfl, hb6⟩
    have HB6 := Lib.hid (HB5.out.trans (hb6.mono HB5.out.size))
    clear hb6
    go_wp2
    go_ret
    exact ⟨by simp, HB6.out⟩
end Go.Proofs.YtanpkomifhbhnaaDoor
