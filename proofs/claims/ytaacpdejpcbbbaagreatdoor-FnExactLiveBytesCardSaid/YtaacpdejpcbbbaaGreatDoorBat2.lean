/- Batches: the reference's BatchOk. -/
import Derived.Test.YtaacpdejpcbbbaaGreatDoorBat
import Derived.BigQuiet
namespace Go.Proofs.YtaacpdejpcbbbaaGreatDoor
set_option linter.unusedVariables false
set_option linter.unusedSimpArgs false
open Go.RowKit
attribute [local go_sem] bs_size List.length_cons List.length_nil List.length_append

theorem batOk_seq {q : Int} {cs : List ChD} (h : inR q 0 1000000000 = false) : batOkB (q, cs) = false := by
  rw [Bool.eq_false_iff]
  intro e
  have h1 := (batOk_parts e).1
  unfold inR at h
  simp only [Bool.and_eq_false_iff, decide_eq_false_iff_not] at h
  dsimp only at h1
  omega
theorem batOk_len {q : Int} {cs : List ChD} (h : inR (cs.length : Int) 1 40 = false) : batOkB (q, cs) = false := by
  rw [Bool.eq_false_iff]
  intro e
  unfold batOkB at e
  simp only [Bool.and_eq_true, decide_eq_true_eq] at e
  unfold inR at h
  simp only [Bool.and_eq_false_iff, decide_eq_false_iff_not] at h
  omega
theorem chAt_prev {cs : List ChD} {j : Nat} {x p : ChD} (h : cs[j + 1]? = some x) (hp : cs[j]? = some p) (hl : Op.bytesLess p.1.toList x.1.toList = false) : chAt cs (j + 1) = false := by
  unfold chAt
  rw [h]
  simp [hp, hl]
theorem l01In_at (n lo hi : Int) (w : World) {b : Bool} (h : inR n lo hi = b) : Calls Tryz.prog 48 #[.int .i64 n, .int .i64 lo, .int .i64 hi] w fun e w' => e = .returned (.bool b) ∧ w' = w := by
  subst h
  exact (spec_l01In_calls n lo hi w).mono fun e w' ⟨he, hw⟩ => ⟨he, hw.symm⟩
set_option maxHeartbeats 4000000 in
set_option maxRecDepth 100000 in
theorem spec_BatchOk_calls (q : Int) (A : Option Addr) (c : Nat) (cs : List ChD) (w : World) (h : ChRow w A c cs) :
    Calls Tryz.prog 118 #[.agg #[.int .i64 q, .slice A cs.length c]] w fun e w' => e = .returned (.bool (batOkB (q, cs))) ∧ Below w.heap.size w w' := by
  have hl := h.len
  have hal : Below w.heap.size w (w.alloc (.cells #[.int .i64 q, .slice A cs.length c] 62)) := (Below.refl _ _).alloc (Nat.le_refl _) _
  have HR := Lib.hid (h.below hal)
  have HB := Lib.hid hal
  clear h hal
  cases hq0 : inR q 0 1000000000
  · have HE := Lib.hid (batOk_seq (cs := cs) hq0)
    have HQ0 := Lib.hid hq0
    clear hq0
    go_enter Tryz.func118, Tryz.ntmps118
    go_wp2_with fail
    go_at_call 48
    refine (spec_l01In_calls _ _ _ _).mono ?_
    rw [HQ0.out]
    rintro e w' ⟨rfl, rfl⟩
    go_wp2
    go_ret
    exact ⟨ret_bool HE.out.symm, HB.out⟩
  · have HQ0 := Lib.hid hq0
    clear hq0
    cases hl0 : inR (cs.length : Int) 1 40
    · have HE := Lib.hid (batOk_len (q := q) hl0)
      have HL0 := Lib.hid hl0
      clear hl0
      go_enter Tryz.func118, Tryz.ntmps118
      go_wp2_with fail
      go_at_call 48
      refine (spec_l01In_calls _ _ _ _).mono ?_
      rw [HQ0.out]
      rintro e w' ⟨rfl, rfl⟩
      go_wp2_with fail
      go_at_call 48
      refine (spec_l01In_calls _ _ _ _).mono ?_
      rw [HL0.out]
      rintro e w' ⟨rfl, rfl⟩
      go_wp2
      go_ret
      exact ⟨ret_bool HE.out.symm, HB.out⟩
    · have HL0 := Lib.hid hl0
      clear hl0
      go_enter Tryz.func118, Tryz.ntmps118
      go_wp2_with fail
      go_at_call 48
      refine (spec_l01In_calls _ _ _ _).mono ?_
      rw [HQ0.out]
      rintro e w' ⟨rfl, rfl⟩
      go_wp2_with fail
      go_at_call 48
      refine (spec_l01In_calls _ _ _ _).mono ?_
      rw [HL0.out]
      rintro e w' ⟨rfl, rfl⟩
      go_wp2
      have HTR := Lib.hid (batOk_all (q := q) (cs := cs))
      go_loopw [3] (fun iv wr => ∃ i : Nat, i ≤ cs.length ∧ iv = .int .i64 (i : Int) ∧ Hid (∀ j, j < i → chAt cs j = true) ∧ Below (w.alloc (.cells #[.int .i64 q, .slice A cs.length c] 62)).heap.size (w.alloc (.cells #[.int .i64 q, .slice A cs.length c] 62)) wr) (fun iv _ => cs.length - (intOf iv).toNat)
      case atStart => exact ⟨0, Nat.zero_le _, rfl, fun j hj => by omega, Below.refl _ _⟩
      case round =>
        obtain ⟨i, hi, rfl, HT, hbel⟩ := hrel
        have HBE := Lib.hid hbel
        have hb1 : wr.cell? ⟨w.heap.size, 1, none⟩ = some (.slice A cs.length c) := (HBE.out.cell (by simp)).trans (blk_cell (blk_new w _) 1)
        by_cases hlt : i < cs.length
        · obtain ⟨ad, x, hA, HX, hz1, hz2, hc0, hc1, hc2⟩ := (HR.out.below hbel).at_ hlt
          clear hbel
          cases hA
          obtain ⟨k, v, g⟩ := x
          dsimp only at hz1 hz2 hc0 hc1 hc2
          have hli : (i : Int) < (cs.length : Int) := by omega
          have hS0 : (wr.alloc (.cells #[.string k, .string v, .bool g] 121)).cell? ⟨wr.heap.size, 0, none⟩ = some (.string k) ∧ (wr.alloc (.cells #[.string k, .string v, .bool g] 121)).cell? ⟨wr.heap.size, 1, none⟩ = some (.string v) ∧ (wr.alloc (.cells #[.string k, .string v, .bool g] 121)).cell? ⟨wr.heap.size, 2, none⟩ = some (.bool g) ∧ (wr.alloc (.cells #[.string k, .string v, .bool g] 121)).cell? ⟨w.heap.size, 1, none⟩ = some (.slice (some ad) cs.length c) := ⟨blk_cell (blk_new wr _) 0, blk_cell (blk_new wr _) 1, blk_cell (blk_new wr _) 2, cell_new hb1 _⟩
          obtain ⟨f0, f1, f2, f3⟩ := hS0
          have HBW : Hid (Below w.heap.size w (wr.alloc (.cells #[.string k, .string v, .bool g] 121))) := by
            have h1 := HB.out.trans (HBE.out.mono (by simp))
            exact h1.alloc h1.size _
          have HBV : Hid (Below (w.alloc (.cells #[.int .i64 q, .slice (some ad) cs.length c] 62)).heap.size (w.alloc (.cells #[.int .i64 q, .slice (some ad) cs.length c] 62)) (wr.alloc (.cells #[.string k, .string v, .bool g] 121))) := HBE.out.alloc HBE.out.size _
          cases hk : inR (k.size : Int) 1 20
          · have HK := Lib.hid hk
            have HX0 := Lib.hid (batOk_bad (q := q) hlt (chAt_bad HX.out (chOk_key hk)))
            clear hk
            go_wp2
            go_quiet ((go_at_call 48; exact Calls.quiet_of_same (l01In_at _ _ _ _ HK.out)))
            go_wp2
            go_ret
            exact ⟨ret_bool HX0.out.symm, blwN HBW.out _⟩
          · have HK := Lib.hid hk
            by_cases h0 : i = 0
            · have HGO : Hid (chOkB (k, v, g) = true → chAt cs i = true) := fun hok => by rw [h0]; exact chAt_zero (by have := HX.out; rw [h0] at this; exact this) hok
              have g0 : decide (0 < i) = false := decide_eq_false (by omega)
              clear h0
              by_cases hv : 2000 < v.size
              · have HX0 := Lib.hid (batOk_bad (q := q) hlt (chAt_bad HX.out (chOk_val hv)))
                have hvi : decide ((2000 : Int) < (v.size : Int)) = true := by simp; omega
                clear hk
                go_wp2
                go_quiet ((go_at_call 48; exact Calls.quiet_of_same (l01In_at _ _ _ _ HK.out)))
                go_wp2
                go_ret
                exact ⟨ret_bool HX0.out.symm, blwN HBW.out _⟩
              · have hvi : decide ((2000 : Int) < (v.size : Int)) = false := by simp; omega
                by_cases hg : g = true ∧ v.size ≠ 0
                · obtain ⟨rfl, hv0⟩ := hg
                  have HX0 := Lib.hid (batOk_bad (q := q) hlt (chAt_bad HX.out (chOk_gone hv0)))
                  have hq := empty_list hv0
                  clear hk hv0
                  go_wp2
                  go_quiet ((go_at_call 48; exact Calls.quiet_of_same (l01In_at _ _ _ _ HK.out)))
                  go_wp2
                  go_ret
                  exact ⟨ret_bool HX0.out.symm, blwN HBW.out _⟩
                · have HNX := Lib.hid (ch_step HT.out (HGO.out (chOk_ok (g := g) hk (by omega) (fun e => Decidable.byContradiction fun h0 => hg ⟨e, h0⟩))))
                  clear hk
                  cases g
                  · clear hg
                    go_wp2
                    go_quiet ((go_at_call 48; exact Calls.quiet_of_same (l01In_at _ _ _ _ HK.out)))
                    go_wp2
                    go_roundw
                    case rel => first | exact ⟨i + 1, by omega, by go_num, HNX.out, blwN HBV.out _⟩ | (repeat (first | (refine ⟨?relx, rfl⟩; exact ⟨i + 1, by omega, by go_num, HNX.out, blwN HBV.out _⟩) | (refine ⟨?relx, ?eqs⟩; (case eqs => (and_intros <;> rfl)); exact ⟨i + 1, by omega, by go_num, HNX.out, blwN HBV.out _⟩) | apply Exists.intro))
                    case measure => simp [intOf]; omega
                  · obtain rfl := size0.1 (show v.size = 0 from Decidable.byContradiction fun e => hg ⟨rfl, e⟩)
                    clear hg
                    go_wp2
                    go_quiet ((go_at_call 48; exact Calls.quiet_of_same (l01In_at _ _ _ _ HK.out)))
                    go_wp2
                    go_roundw
                    case rel => first | exact ⟨i + 1, by omega, by go_num, HNX.out, blwN HBV.out _⟩ | (repeat (first | (refine ⟨?relx, rfl⟩; exact ⟨i + 1, by omega, by go_num, HNX.out, blwN HBV.out _⟩) | (refine ⟨?relx, ?eqs⟩; (case eqs => (and_intros <;> rfl)); exact ⟨i + 1, by omega, by go_num, HNX.out, blwN HBV.out _⟩) | apply Exists.intro))
                    case measure => simp [intOf]; omega
            · obtain ⟨j, hj⟩ : ∃ j, i = j + 1 := ⟨i - 1, by omega⟩
              obtain ⟨ad2, p, hA2, HY, hy1, _, hd0, _, _⟩ := (HR.out.below HBE.out).at_ (k := j) (by omega)
              cases hA2
              have hd0' : (wr.alloc (.cells #[.string k, .string v, .bool g] 121)).cell? (ad.add (j * 3)) = some (.string p.1) := cell_new hd0 _
              have ht : ((i : Int) - 1).toNat = j := by omega
              have hw : IntKind.i64.wrap ((i : Int) - 1) = (i : Int) - 1 := by rw [IntKind.wrap_i64]; omega
              have hb0 : (0 : Int) ≤ (i : Int) - 1 := by omega
              have hbx : (i : Int) - 1 < (cs.length : Int) := by omega
              have g0 : decide (0 < i) = true := decide_eq_true (by omega)
              cases hs : Op.bytesLess p.1.toList k.toList
              · have HX0 := Lib.hid (batOk_bad (q := q) hlt (by have HX1 := HX.out; rw [hj] at HX1 ⊢; exact chAt_prev HX1 HY.out hs))
                clear hj hd0 hk h0
                go_wp2
                go_quiet ((go_at_call 48; exact Calls.quiet_of_same (l01In_at _ _ _ _ HK.out)))
                go_wp2
                go_ret
                exact ⟨ret_bool HX0.out.symm, blwN HBW.out _⟩
              · have HGO : Hid (chOkB (k, v, g) = true → chAt cs i = true) := fun hok => by (have HX1 := HX.out; rw [hj] at HX1 ⊢; exact (chAt_succ HX1 HY.out hok).trans hs)
                clear hj hd0 h0
                by_cases hv : 2000 < v.size
                · have HX0 := Lib.hid (batOk_bad (q := q) hlt (chAt_bad HX.out (chOk_val hv)))
                  have hvi : decide ((2000 : Int) < (v.size : Int)) = true := by simp; omega
                  clear hk
                  go_wp2
                  go_quiet ((go_at_call 48; exact Calls.quiet_of_same (l01In_at _ _ _ _ HK.out)))
                  go_wp2
                  go_ret
                  exact ⟨ret_bool HX0.out.symm, blwN HBW.out _⟩
                · have hvi : decide ((2000 : Int) < (v.size : Int)) = false := by simp; omega
                  by_cases hg : g = true ∧ v.size ≠ 0
                  · obtain ⟨rfl, hv0⟩ := hg
                    have HX0 := Lib.hid (batOk_bad (q := q) hlt (chAt_bad HX.out (chOk_gone hv0)))
                    have hq := empty_list hv0
                    clear hk hv0
                    go_wp2
                    go_quiet ((go_at_call 48; exact Calls.quiet_of_same (l01In_at _ _ _ _ HK.out)))
                    go_wp2
                    go_ret
                    exact ⟨ret_bool HX0.out.symm, blwN HBW.out _⟩
                  · have HNX := Lib.hid (ch_step HT.out (HGO.out (chOk_ok (g := g) hk (by omega) (fun e => Decidable.byContradiction fun h0 => hg ⟨e, h0⟩))))
                    clear hk
                    cases g
                    · clear hg
                      go_wp2
                      go_quiet ((go_at_call 48; exact Calls.quiet_of_same (l01In_at _ _ _ _ HK.out)))
                      go_wp2
                      go_roundw
                      case rel => first | exact ⟨i + 1, by omega, by go_num, HNX.out, blwN HBV.out _⟩ | (repeat (first | (refine ⟨?relx, rfl⟩; exact ⟨i + 1, by omega, by go_num, HNX.out, blwN HBV.out _⟩) | (refine ⟨?relx, ?eqs⟩; (case eqs => (and_intros <;> rfl)); exact ⟨i + 1, by omega, by go_num, HNX.out, blwN HBV.out _⟩) | apply Exists.intro))
                      case measure => simp [intOf]; omega
                    · obtain rfl := size0.1 (show v.size = 0 from Decidable.byContradiction fun e => hg ⟨rfl, e⟩)
                      clear hg
                      go_wp2
                      go_quiet ((go_at_call 48; exact Calls.quiet_of_same (l01In_at _ _ _ _ HK.out)))
                      go_wp2
                      go_roundw
                      case rel => first | exact ⟨i + 1, by omega, by go_num, HNX.out, blwN HBV.out _⟩ | (repeat (first | (refine ⟨?relx, rfl⟩; exact ⟨i + 1, by omega, by go_num, HNX.out, blwN HBV.out _⟩) | (refine ⟨?relx, ?eqs⟩; (case eqs => (and_intros <;> rfl)); exact ⟨i + 1, by omega, by go_num, HNX.out, blwN HBV.out _⟩) | apply Exists.intro))
                      case measure => simp [intOf]; omega
        · obtain rfl : i = cs.length := by omega
          have HE := Lib.hid (HTR.out HT.out)
          have HBW : Hid (Below w.heap.size w wr) := HB.out.trans (HBE.out.mono (by simp))
          clear hbel
          go_wp2
          go_ret
          exact ⟨ret_bool (by rw [HE.out, HQ0.out, HL0.out]; rfl), HBW.out⟩
end Go.Proofs.YtaacpdejpcbbbaaGreatDoor
