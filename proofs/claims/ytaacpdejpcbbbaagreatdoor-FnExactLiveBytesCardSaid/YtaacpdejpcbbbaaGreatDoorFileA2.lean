/- Files of a disk: DiskOk of the reference. -/
import Derived.Test.YtaacpdejpcbbbaaGreatDoorFileA
namespace Go.Proofs.YtaacpdejpcbbbaaGreatDoor
set_option linter.unusedVariables false
set_option linter.unusedSimpArgs false
open Go.RowKit
attribute [local go_sem] bs_size List.length_cons List.length_nil List.length_append

theorem l03Name_at (s : ByteArray) (w : World) {b : Bool} (h : inR (s.size : Int) 1 8 = b) (hs : s.size ≤ 9223372036854775807) : Calls Tryz.prog 144 #[.string s] w fun e w' => e = .returned (.bool b) ∧ w' = w := by
  have HK := Lib.hid h
  clear h
  go_enter Tryz.func144, Tryz.ntmps144
  go_wp2_with fail
  go_at_call 48
  refine (l01In_at _ _ _ _ HK.out).mono ?_
  rintro e w' ⟨rfl, rfl⟩
  go_wp2
  go_ret
  exact ⟨rfl, rfl⟩
set_option maxHeartbeats 4000000 in
set_option maxRecDepth 100000 in
theorem spec_DiskOk_calls (A : Option Addr) (c : Nat) (fs : List FiD) (w : World) (h : FiRow w A c fs) :
    Calls Tryz.prog 94 #[.agg #[.slice A fs.length c]] w fun e w' => e = .returned (.bool (diskOkB fs)) ∧ Below w.heap.size w w' := by
  have hl := h.len
  have hal : Below w.heap.size w (w.alloc (.cells #[.slice A fs.length c] 32)) := (Below.refl _ _).alloc (Nat.le_refl _) _
  have HR := Lib.hid (h.below hal)
  have HB := Lib.hid hal
  clear h hal
  by_cases hmany : 30 < fs.length
  · have HE := Lib.hid (diskOk_many hmany)
    go_enter Tryz.func94, Tryz.ntmps94
    go_wp2
    go_ret
    exact ⟨ret_bool HE.out.symm, HB.out⟩
  · go_enter Tryz.func94, Tryz.ntmps94
    go_wp2_with fail
    go_loopw [3] (fun iv wr => ∃ i : Nat, i ≤ fs.length ∧ iv = .int .i64 (i : Int) ∧ Hid (∀ j, j < i → fiAt fs j = true) ∧ Below (w.alloc (.cells #[.slice A fs.length c] 32)).heap.size (w.alloc (.cells #[.slice A fs.length c] 32)) wr) (fun iv _ => fs.length - (intOf iv).toNat)
    case atStart => exact ⟨0, Nat.zero_le _, rfl, fun j hj => by omega, Below.refl _ _⟩
    case round =>
      obtain ⟨i, hi, rfl, HT, hbel⟩ := hrel
      have HBE := Lib.hid hbel
      have hbx : wr.cell? ⟨w.heap.size, 0, none⟩ = some (.slice A fs.length c) := (HBE.out.cell (by simp)).trans (blk_cell (blk_new w _) 0)
      by_cases hlt : i < fs.length
      · obtain ⟨ad, x, hA, HX, hz1, hz2, hc0, hc1, hc2⟩ := (HR.out.below hbel).at_ hlt
        clear hbel
        cases hA
        obtain ⟨k, v, g⟩ := x
        dsimp only at hz1 hz2 hc0 hc1 hc2
        have hS0 : (wr.alloc (.cells #[.string k, .string v, .int .i64 g] 105)).cell? ⟨wr.heap.size, 0, none⟩ = some (.string k) ∧ (wr.alloc (.cells #[.string k, .string v, .int .i64 g] 105)).cell? ⟨wr.heap.size, 1, none⟩ = some (.string v) ∧ (wr.alloc (.cells #[.string k, .string v, .int .i64 g] 105)).cell? ⟨wr.heap.size, 2, none⟩ = some (.int .i64 g) ∧ (wr.alloc (.cells #[.string k, .string v, .int .i64 g] 105)).cell? ⟨w.heap.size, 0, none⟩ = some (.slice (some ad) fs.length c) := ⟨blk_cell (blk_new wr _) 0, blk_cell (blk_new wr _) 1, blk_cell (blk_new wr _) 2, cell_new hbx _⟩
        obtain ⟨f0, f1, f2, f3⟩ := hS0
        have HBW : Hid (Below w.heap.size w (wr.alloc (.cells #[.string k, .string v, .int .i64 g] 105))) := by
          have h1 := HB.out.trans (HBE.out.mono (by simp))
          exact h1.alloc h1.size _
        have HBV : Hid (Below (w.alloc (.cells #[.slice (some ad) fs.length c] 32)).heap.size (w.alloc (.cells #[.slice (some ad) fs.length c] 32)) (wr.alloc (.cells #[.string k, .string v, .int .i64 g] 105))) := HBE.out.alloc HBE.out.size _
        cases hk : inR (k.size : Int) 1 8
        · have HK := Lib.hid hk
          have HX0 := Lib.hid (diskOk_bad hlt (fiAt_bad HX.out (fiOk_name hk)))
          clear hk
          go_wp2
          go_quiet ((go_at_call 144; exact Calls.quiet_of_same (l03Name_at k _ HK.out hz1)))
          go_wp2
          go_ret
          exact ⟨ret_bool HX0.out.symm, blwN HBW.out _⟩
        · have HK := Lib.hid hk
          by_cases hv : 20000 < v.size
          · have HX0 := Lib.hid (diskOk_bad hlt (fiAt_bad HX.out (fiOk_text hv)))
            have hvi : decide ((20000 : Int) < (v.size : Int)) = true := by simp; omega
            clear hk
            go_wp2
            go_quiet ((go_at_call 144; exact Calls.quiet_of_same (l03Name_at k _ HK.out hz1)))
            go_wp2
            go_ret
            exact ⟨ret_bool HX0.out.symm, blwN HBW.out _⟩
          · have hvi : decide ((20000 : Int) < (v.size : Int)) = false := by simp; omega
            cases hg : inR g 0 (v.size : Int)
            · have HG := Lib.hid hg
              have HX0 := Lib.hid (diskOk_bad hlt (fiAt_bad HX.out (fiOk_kept (n := k) hg)))
              clear hk hg
              go_wp2
              go_quiet (first | (go_at_call 144; exact Calls.quiet_of_same (l03Name_at k _ HK.out hz1)) | (go_at_call 48; exact Calls.quiet_of_same (l01In_at _ _ _ _ HG.out)))
              go_wp2
              go_ret
              exact ⟨ret_bool HX0.out.symm, blwN HBW.out _⟩
            · have hok := fiOk_ok hk (by omega) hg
              have HG := Lib.hid hg
              by_cases h0 : i = 0
              · have HNX := Lib.hid (fi_step HT.out (by rw [h0]; exact fiAt_zero (by have := HX.out; rw [h0] at this; exact this) hok))
                have g0 : decide (0 < i) = false := decide_eq_false (by omega)
                clear hk hok h0 hg
                go_wp2
                go_quiet (first | (go_at_call 144; exact Calls.quiet_of_same (l03Name_at k _ HK.out hz1)) | (go_at_call 48; exact Calls.quiet_of_same (l01In_at _ _ _ _ HG.out)))
                go_wp2
                go_roundw
                case rel => first | exact ⟨i + 1, by omega, by go_num, HNX.out, blwN HBV.out _⟩ | (repeat (first | (refine ⟨?relx, rfl⟩; exact ⟨i + 1, by omega, by go_num, HNX.out, blwN HBV.out _⟩) | (refine ⟨?relx, ?eqs⟩; (case eqs => (and_intros <;> rfl)); exact ⟨i + 1, by omega, by go_num, HNX.out, blwN HBV.out _⟩) | apply Exists.intro))
                case measure => simp [intOf]; omega
              · obtain ⟨j, hj⟩ : ∃ j, i = j + 1 := ⟨i - 1, by omega⟩
                obtain ⟨ad2, p, hA2, HY, hy1, _, hd0, _, _⟩ := (HR.out.below HBE.out).at_ (k := j) (by omega)
                cases hA2
                have hd0' : (wr.alloc (.cells #[.string k, .string v, .int .i64 g] 105)).cell? (ad.add (j * 3)) = some (.string p.1) := cell_new hd0 _
                have HQ : Hid (fiAt fs i = Op.bytesLess p.1.toList k.toList) := by (have HX1 := HX.out; rw [hj] at HX1 ⊢; exact fiAt_succ HX1 HY.out hok)
                have ht : ((i : Int) - 1).toNat = j := by omega
                have hw : IntKind.i64.wrap ((i : Int) - 1) = (i : Int) - 1 := by rw [IntKind.wrap_i64]; omega
                have hb0 : (0 : Int) ≤ (i : Int) - 1 := by omega
                have hb1 : (i : Int) - 1 < (fs.length : Int) := by omega
                have g0 : decide (0 < i) = true := decide_eq_true (by omega)
                clear hj hd0 hk hok h0 hg
                cases hs : Op.bytesLess p.1.toList k.toList
                · have HX0 := Lib.hid (diskOk_bad hlt (HQ.out.trans hs))
                  go_wp2
                  go_quiet (first | (go_at_call 144; exact Calls.quiet_of_same (l03Name_at k _ HK.out hz1)) | (go_at_call 48; exact Calls.quiet_of_same (l01In_at _ _ _ _ HG.out)))
                  go_wp2
                  go_ret
                  exact ⟨ret_bool HX0.out.symm, blwN HBW.out _⟩
                · have HNX := Lib.hid (fi_step HT.out (HQ.out.trans hs))
                  go_wp2
                  go_quiet (first | (go_at_call 144; exact Calls.quiet_of_same (l03Name_at k _ HK.out hz1)) | (go_at_call 48; exact Calls.quiet_of_same (l01In_at _ _ _ _ HG.out)))
                  go_wp2
                  go_roundw
                  case rel => first | exact ⟨i + 1, by omega, by go_num, HNX.out, blwN HBV.out _⟩ | (repeat (first | (refine ⟨?relx, rfl⟩; exact ⟨i + 1, by omega, by go_num, HNX.out, blwN HBV.out _⟩) | (refine ⟨?relx, ?eqs⟩; (case eqs => (and_intros <;> rfl)); exact ⟨i + 1, by omega, by go_num, HNX.out, blwN HBV.out _⟩) | apply Exists.intro))
                  case measure => simp [intOf]; omega
      · obtain rfl : i = fs.length := by omega
        have HE := Lib.hid (diskOk_all HT.out)
        have HBF := Lib.hid (HB.out.trans (HBE.out.mono (by simp)))
        clear hbel
        go_wp2
        go_ret
        exact ⟨ret_bool (by rw [HE.out]; exact (decide_eq_true (by omega)).symm), HBF.out⟩
end Go.Proofs.YtaacpdejpcbbbaaGreatDoor
