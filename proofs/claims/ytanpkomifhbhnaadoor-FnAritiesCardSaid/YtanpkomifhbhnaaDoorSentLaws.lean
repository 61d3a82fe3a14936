/- What the laid facts of a row give the walks: strconv's powers of ten (Pow) and sentinels (Sent). -/
import Derived.Test.YtanpkomifhbhnaaDoorDec
import Derived.Test.YtanpkomifhbhnaaDoorNumLaws
namespace Go.Proofs.YtanpkomifhbhnaaDoor
set_option linter.unusedVariables false
set_option linter.unusedSimpArgs false
open Go.RowKit
theorem sentCells : Tryd.prog.cellsOf 172 = 1 := by kernel_rfl
theorem strCells : Tryd.prog.cellsOf 9 = 1 := by kernel_rfl
theorem gSyn : Tryd.prog.globalNamed "strconv.ErrSyntax" = some 2 := by kernel_rfl
theorem gRan : Tryd.prog.globalNamed "strconv.ErrRange" = some 3 := by kernel_rfl
theorem gSynType : (Tryd.prog.globals[2]?).map (·.type) = some 72 := by kernel_rfl
theorem gRanType : (Tryd.prog.globals[3]?).map (·.type) = some 72 := by kernel_rfl
theorem errStar : "*" ++ "errors.errorString" = "*errors.errorString" := by decide
theorem errRow (u : TypeId) (h : Tryd.prog.typeName? 3 u = some "*errors.errorString") : u = 170 :=
  typeName_ptr_named (nm := "errors.errorString") (by rw [errStar]; kernel_rfl) (by kernel_rfl) (by decide) u (by rw [errStar]; exact h)
theorem sent_of_laid {W : World} {rest : List (String × DataW Unit)} (h : laidMet Tryd.prog (("strconv.ErrRange", Rows.laid_strconv_ErrRange) :: ("strconv.ErrSyntax", Rows.laid_strconv_ErrSyntax) :: rest) W) : Sent W := by
  obtain ⟨a, s, hv, _⟩ := laid_sentinel h gRan gRanType Tryd.underlying72 errRow Tryd.underlying170 Tryd.underlying172 rfl rfl Tryd.underlying9 sentCells strCells
  obtain ⟨a2, s2, hv2, _⟩ := laid_sentinel h.tail gSyn gSynType Tryd.underlying72 errRow Tryd.underlying170 Tryd.underlying172 rfl rfl Tryd.underlying9 sentCells strCells
  have c1 := World.var?_cell gRan hv 0
  have c2 := World.var?_cell gSyn hv2 0
  exact ⟨⟨_, by simpa using c2, .inr ⟨_, _, rfl⟩⟩, ⟨_, by simpa using c1, .inr ⟨_, _, rfl⟩⟩, World.block_lt_of_cell? W ⟨2, 0, none⟩ (by simpa using c2), World.block_lt_of_cell? W ⟨3, 0, none⟩ (by simpa using c1)⟩
theorem laid_FnExactReadInt {W : World} (h : laidMetH Tryd.prog Rows.fnExactReadIntRow.laid W) : Pow W ∧ Sent W := by
  rw [MakeChecks.laidMetH_plain _ _ _ (by kernel_rfl)] at h
  exact ⟨pow_of_laid h.tail.tail, sent_of_laid h.tail.tail.tail⟩
theorem riRes_some (v : Int) : riRes (some v) = .tuple #[.int .i64 v, .bool true] := rfl
theorem riRes_none : riRes none = .tuple #[.int .i64 0, .bool false] := rfl
set_option maxRecDepth 100000 in
theorem walk_FnExactReadInt (s : ByteArray) (w : World) (hs : s.size ≤ 140737488351232) (hP : Pow w ∧ Sent w) :
    Calls Tryd.prog 6 #[.string s] w fun e w' => e = .returned (.bool true) ∧ Below w.heap.size w w' := by
  by_cases h : 1048576 < s.size
  · go_enter Tryd.func6, Tryd.ntmps6
    go_wp2
    go_ret
    exact ⟨rfl, Below.refl _ _⟩
  · have HP := Lib.hid hP
    clear hP
    cases hr : riOf (ub s)
    all_goals
      have HR := Lib.hid hr
      clear hr
      go_enter Tryd.func6, Tryd.ntmps6
      go_wp2_with fail
      go_at_call 23
      refine (spec_ReadInt_calls s _ hs).mono ?_
      rw [HR.out]
      rintro e w1 ⟨rfl, hb⟩
      have HB := Lib.hid hb
      clear hb
      simp only [riRes_some, riRes_none]
      go_wp2_with fail
      go_at_call 24
      refine (impl_ReadInt_calls s _ hs (HP.out.1.below HB.out) (HP.out.2.below HB.out HP.out.2.big)).mono ?_
      rw [HR.out]
      rintro e w2 ⟨rfl, hb⟩
      have HB2 := Lib.hid (HB.out.trans (hb.mono HB.out.size))
      clear hb
      simp only [riRes_some, riRes_none]
      go_wp2
      go_ret
      exact ⟨by simp, HB2.out⟩
end Go.Proofs.YtanpkomifhbhnaaDoor
