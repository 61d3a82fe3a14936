/- Files of a disk: FileAt of the reference; SegName, the program's and the reference's. -/
import Derived.Test.YtaacpdejpcbbbaaGreatDoorFileB
import Derived.Test.YtaacpdejpcbbbaaGreatDoorDecS
import Derived.Test.YtaacpdejpcbbbaaGreatDoorNum
namespace Go.Proofs.YtaacpdejpcbbbaaGreatDoor
set_option linter.unusedVariables false
set_option linter.unusedSimpArgs false
open Go.RowKit
attribute [local go_sem] bs_size List.length_cons List.length_nil List.length_append

set_option maxRecDepth 100000 in
theorem spec_l03At_calls (m : ByteArray) (A : Option Addr) (c : Nat) (fs : List FiD) (w : World) (h : FiRow w A c fs) :
    Calls Tryz.prog 97 #[.agg #[.slice A fs.length c], .string m] w fun e w' => ∃ r : Int, e = .returned (.int .i64 r) ∧ IxPost fs m r ∧ Below w.heap.size w w' := by
  have HAL : Hid (Below w.heap.size w (w.alloc (.cells #[.slice A fs.length c] 32))) := (Below.refl _ _).alloc (Nat.le_refl _) _
  have HR := Lib.hid (h.below HAL.out)
  have hl := h.len
  have HC0 : Hid ((w.alloc (.cells #[.slice A fs.length c] 32)).cell? ⟨w.heap.size, 0, none⟩ = some (.slice A fs.length c)) := blk_cell (blk_new w _) 0
  clear h
  go_enter Tryz.func97, Tryz.ntmps97
  go_wp2
  go_loopw [5] (fun iv wr => ∃ i : Nat, i ≤ fs.length ∧ iv = .int .i64 (i : Int) ∧ Hid (∀ j y, j < i → fs[j]? = some y → y.1 ≠ m) ∧ Hid (Below (w.alloc (.cells #[.slice A fs.length c] 32)).heap.size (w.alloc (.cells #[.slice A fs.length c] 32)) wr)) (fun iv _ => fs.length - (intOf iv).toNat)
  case atStart => exact ⟨0, Nat.zero_le _, rfl, fun j y hj => by omega, Below.refl _ _⟩
  case round =>
    obtain ⟨i, hi, rfl, HT, HB⟩ := hrel
    have hc1 : wr.cell? ⟨w.heap.size, 0, none⟩ = some (.slice A fs.length c) := (HB.out.cell (by simp)).trans HC0.out
    have HBW := Lib.hid (HAL.out.trans (HB.out.mono (by simp)))
    by_cases hlt : i < fs.length
    · obtain ⟨ad, x, hA, HX, hz1, hz2, hd0, hd1, hd2⟩ := (HR.out.below HB.out).at_ hlt
      cases hA
      obtain ⟨n, t, k⟩ := x
      dsimp only at hz1 hz2 hd0 hd1 hd2
      have hli : (i : Int) < (fs.length : Int) := by omega
      by_cases hn : n = m
      · have HE := Lib.hid (ix_at HX.out hn HT.out)
        have hq : (n.toList == m.toList) = true := by rw [hn]; exact list_eq_yes m
        clear hn
        go_wp2
        go_ret
        exact ⟨_, rfl, HE.out, HBW.out⟩
      · have HE := Lib.hid (ix_step HX.out hn HT.out)
        have hq := list_eq_no hn
        clear hn
        go_wp2
        go_roundw
        case rel => first | exact ⟨i + 1, by omega, by go_num, HE, HB⟩ | (repeat (first | (refine ⟨?relx, rfl⟩; exact ⟨i + 1, by omega, by go_num, HE, HB⟩) | (refine ⟨?relx, ?eqs⟩; (case eqs => (and_intros <;> rfl)); exact ⟨i + 1, by omega, by go_num, HE, HB⟩) | apply Exists.intro))
        case measure => simp [intOf]; omega
    · obtain rfl : i = fs.length := by omega
      have HE := Lib.hid (ix_neg HT.out)
      go_wp2
      go_ret
      exact ⟨_, rfl, HE.out, HBW.out⟩
set_option maxRecDepth 100000 in
theorem spec_FileAt_calls (m : ByteArray) (A : Option Addr) (c : Nat) (fs : List FiD) (w : World) (h : FiRow w A c fs) :
    Calls Tryz.prog 76 #[.agg #[.slice A fs.length c], .string m] w fun e w' => e = .returned (fiRes (fileB fs m)) ∧ Below w.heap.size w w' := by
  have HAL : Hid (Below w.heap.size w (w.alloc (.cells #[.slice A fs.length c] 32))) := (Below.refl _ _).alloc (Nat.le_refl _) _
  have HR := Lib.hid (h.below HAL.out)
  have hl := h.len
  have hc0 : (w.alloc (.cells #[.slice A fs.length c] 32)).cell? ⟨w.heap.size, 0, none⟩ = some (.slice A fs.length c) := blk_cell (blk_new w _) 0
  clear h
  go_enter Tryz.func76, Tryz.ntmps76
  go_wp2_with fail
  go_at_call 97
  refine (spec_l03At_calls m A c fs _ HR.out).mono ?_
  rintro e w' ⟨r, rfl, hr, hb⟩
  have HB := Lib.hid (HAL.out.trans (hb.mono HAL.out.size))
  have HR2 := Lib.hid (HR.out.below hb)
  have hc1 : w'.cell? ⟨w.heap.size, 0, none⟩ = some (.slice A fs.length c) := (hb.cell (by simp)).trans hc0
  clear hb hc0
  rcases hr with ⟨j, x, rfl, hj, hx, hf⟩ | ⟨rfl, hf⟩
  · have hjl := (List.getElem?_eq_some_iff.1 hj).1
    obtain ⟨ad, y, hA, HY, _, _, _, hd1, _⟩ := HR2.out.at_ hjl
    obtain rfl : x = y := Option.some.inj (hj.symm.trans HY.out)
    cases hA
    have HF := Lib.hid hf
    clear hf hj hx
    go_wp2
    go_ret2
    exact ⟨by rw [HF.out]; rfl, HB.out⟩
  · have HF := Lib.hid hf
    clear hf
    go_wp2
    go_ret2
    exact ⟨by rw [HF.out]; rfl, HB.out⟩
theorem fileB_small {fs : List FiD} {n t : ByteArray} (hd : diskOkB fs = true) (h : fileB fs n = some t) : t.size ≤ 20000 := by
  obtain ⟨x, hx, rfl⟩ := fileB_mem h
  exact (diskOk_small hd hx).1
/-- The name of a segment's file. -/
def segNm (n : Int) : ByteArray := if inR n 0 99 = true then (⟨#[98]⟩ : ByteArray) ++ bs (Lib.itoa n) else ⟨#[]⟩
theorem segNm_size (n : Int) : (segNm n).size ≤ 40 := by
  unfold segNm
  split
  · rename_i h
    unfold inR at h
    simp only [Bool.and_eq_true, decide_eq_true_eq] at h
    have := itoa_len n (by omega) (by omega)
    rw [ByteArray.size_append, bs_size]
    show 1 + _ ≤ 40
    omega
  · decide
theorem impl_SegNm_calls (n : Int) (w : World) (hP : Pow w) :
    Calls Tryz.prog 40 #[.int .i64 n] w fun e w' => e = .returned (.string (segNm n)) ∧ Below w.heap.size w w' := by
  have HPW := Lib.hid hP
  clear hP
  cases hr : inR n 0 99
  · have HI := Lib.hid hr
    have HE : Hid (segNm n = ⟨#[]⟩) := by rw [Hid]; unfold segNm; rw [hr]; rfl
    clear hr
    go_enter Tryz.func40, Tryz.ntmps40
    go_wp2_with fail
    go_at_call 57
    refine (impl_within_calls _ _ _ _).mono ?_
    rw [HI.out]
    rintro e w' ⟨rfl, rfl⟩
    go_wp2
    go_ret
    exact ⟨by rw [HE.out]; rfl, Below.refl _ _⟩
  · have HI := Lib.hid hr
    have HE : Hid (segNm n = (⟨#[98]⟩ : ByteArray) ++ bs (Lib.itoa n)) := by rw [Hid]; unfold segNm; rw [if_pos hr]
    have hb : 0 ≤ n ∧ n ≤ 99 := by unfold inR at hr; simp only [Bool.and_eq_true, decide_eq_true_eq] at hr; omega
    have hl := itoa_len n (by omega) (by omega)
    clear hr
    go_enter Tryz.func40, Tryz.ntmps40
    go_wp2_with fail
    go_at_call 57
    refine (impl_within_calls _ _ _ _).mono ?_
    rw [HI.out]
    rintro e w' ⟨rfl, rfl⟩
    go_wp2_with fail
    go_at_call 89
    refine (impl_Decimal_calls n _ (by omega) (by omega) HPW.out).mono ?_
    rintro e w1 ⟨rfl, hb⟩
    go_wp2
    go_ret
    exact ⟨by rw [HE.out]; rfl, hb⟩
theorem spec_SegNm_calls (n : Int) (w : World) :
    Calls Tryz.prog 77 #[.int .i64 n] w fun e w' => e = .returned (.string (segNm n)) ∧ Below w.heap.size w w' := by
  cases hr : inR n 0 99
  · have HI := Lib.hid hr
    have HE : Hid (segNm n = ⟨#[]⟩) := by rw [Hid]; unfold segNm; rw [hr]; rfl
    clear hr
    go_enter Tryz.func77, Tryz.ntmps77
    go_wp2_with fail
    go_at_call 48
    refine (spec_l01In_calls _ _ _ _).mono ?_
    rw [HI.out]
    rintro e w' ⟨rfl, rfl⟩
    go_wp2
    go_ret
    exact ⟨by rw [HE.out]; rfl, Below.refl _ _⟩
  · have HI := Lib.hid hr
    have HE : Hid (segNm n = (⟨#[98]⟩ : ByteArray) ++ bs (Lib.itoa n)) := by rw [Hid]; unfold segNm; rw [if_pos hr]
    have hb : 0 ≤ n ∧ n ≤ 99 := by unfold inR at hr; simp only [Bool.and_eq_true, decide_eq_true_eq] at hr; omega
    have hl := itoa_len n (by omega) (by omega)
    clear hr
    go_enter Tryz.func77, Tryz.ntmps77
    go_wp2_with fail
    go_at_call 48
    refine (spec_l01In_calls _ _ _ _).mono ?_
    rw [HI.out]
    rintro e w' ⟨rfl, rfl⟩
    go_wp2_with fail
    go_at_call 113
    refine (spec_Decimal_calls n _ (by omega) (by omega)).mono ?_
    rintro e w1 ⟨rfl, hb⟩
    go_wp2
    go_ret
    exact ⟨by rw [HE.out]; rfl, by first | exact hb | (subst hb; exact Below.refl _ _)⟩
end Go.Proofs.YtaacpdejpcbbbaaGreatDoor
