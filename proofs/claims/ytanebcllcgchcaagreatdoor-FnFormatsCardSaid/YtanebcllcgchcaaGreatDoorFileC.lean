/- Files of a disk: FileAt of the reference; SegName, the program's and the reference's. -/
import Derived.Test.YtanebcllcgchcaaGreatDoorFileB
import Derived.Test.YtanebcllcgchcaaGreatDoorDecS
import Derived.Test.YtanebcllcgchcaaGreatDoorNum
namespace Go.Proofs.YtanebcllcgchcaaGreatDoor
set_option linter.unusedVariables false
set_option linter.unusedSimpArgs false
open Go.RowKit
attribute [local go_sem] bs_size List.length_cons List.length_nil List.length_append

theorem fileB_small {fs : List FiD} {n t : ByteArray} (hd : diskOkB fs = true) (h : fileB fs n = some t) : t.size ≤ 20000 := by
  obtain ⟨x, hx, rfl⟩ := fileB_mem h
  exact (diskOk_small hd hx).1
/-- The name of a segment's file. -/
def segNm (n : Int) : ByteArray := if inR n 0 99 = true then (⟨#[98]⟩ : ByteArray) ++ bs (Lib.itoa n) else ⟨#[]⟩
theorem segNm_size (n : Int) : (segNm n).size ≤ 40 := by
  unfold segNm
  split
  · rename_i h
    unfold inR at h
    simp only [Bool.and_eq_true, decide_eq_true_eq] at h
    have := itoa_len n (by omega) (by omega)
    rw [ByteArray.size_append, bs_size]
    show 1 + _ ≤ 40
    omega
  · decide
theorem impl_SegNm_calls (n : Int) (w : World) (hP : Pow w) :
    Calls Tryz.prog 18 #[.int .i64 n] w fun e w' => e = .returned (.string (segNm n)) ∧ Below w.heap.size w w' := by
  have HPW := Lib.hid hP
  clear hP
  cases hr : inR n 0 99
  · have HI := Lib.hid hr
    have HE : Hid (segNm n = ⟨#[]⟩) := by rw [Hid]; unfold segNm; rw [hr]; rfl
    clear hr
    go_enter Tryz.func18, Tryz.ntmps18
    go_wp2_with fail
    go_at_call 16
    refine (impl_within_calls _ _ _ _).mono ?_
    rw [HI.out]
    rintro e w' ⟨rfl, rfl⟩
    go_wp2
    go_ret
    exact ⟨by rw [HE.out]; rfl, Below.refl _ _⟩
  · have HI := Lib.hid hr
    have HE : Hid (segNm n = (⟨#[98]⟩ : ByteArray) ++ bs (Lib.itoa n)) := by rw [Hid]; unfold segNm; rw [if_pos hr]
    have hb : 0 ≤ n ∧ n ≤ 99 := by unfold inR at hr; simp only [Bool.and_eq_true, decide_eq_true_eq] at hr; omega
    have hl := itoa_len n (by omega) (by omega)
    clear hr
    go_enter Tryz.func18, Tryz.ntmps18
    go_wp2_with fail
    go_at_call 16
    refine (impl_within_calls _ _ _ _).mono ?_
    rw [HI.out]
    rintro e w' ⟨rfl, rfl⟩
    go_wp2_with fail
    go_at_call 31
    refine (impl_Decimal_calls n _ (by omega) (by omega) HPW.out).mono ?_
    rintro e w1 ⟨rfl, hb⟩
    go_wp2
    go_ret
    exact ⟨by rw [HE.out]; rfl, hb⟩
theorem spec_SegNm_calls (n : Int) (w : World) :
    Calls Tryz.prog 21 #[.int .i64 n] w fun e w' => e = .returned (.string (segNm n)) ∧ Below w.heap.size w w' := by
  cases hr : inR n 0 99
  · have HI := Lib.hid hr
    have HE : Hid (segNm n = ⟨#[]⟩) := by rw [Hid]; unfold segNm; rw [hr]; rfl
    clear hr
    go_enter Tryz.func21, Tryz.ntmps21
    go_wp2_with fail
    go_at_call 19
    refine (spec_l01In_calls _ _ _ _).mono ?_
    rw [HI.out]
    rintro e w' ⟨rfl, rfl⟩
    go_wp2
    go_ret
    exact ⟨by rw [HE.out]; rfl, Below.refl _ _⟩
  · have HI := Lib.hid hr
    have HE : Hid (segNm n = (⟨#[98]⟩ : ByteArray) ++ bs (Lib.itoa n)) := by rw [Hid]; unfold segNm; rw [if_pos hr]
    have hb : 0 ≤ n ∧ n ≤ 99 := by unfold inR at hr; simp only [Bool.and_eq_true, decide_eq_true_eq] at hr; omega
    have hl := itoa_len n (by omega) (by omega)
    clear hr
    go_enter Tryz.func21, Tryz.ntmps21
    go_wp2_with fail
    go_at_call 19
    refine (spec_l01In_calls _ _ _ _).mono ?_
    rw [HI.out]
    rintro e w' ⟨rfl, rfl⟩
    go_wp2_with fail
    go_at_call 34
    refine (spec_Decimal_calls n _ (by omega) (by omega)).mono ?_
    rintro e w1 ⟨rfl, hb⟩
    go_wp2
    go_ret
    exact ⟨by rw [HE.out]; rfl, by first | exact hb | (subst hb; exact Below.refl _ _)⟩
end Go.Proofs.YtanebcllcgchcaaGreatDoor
