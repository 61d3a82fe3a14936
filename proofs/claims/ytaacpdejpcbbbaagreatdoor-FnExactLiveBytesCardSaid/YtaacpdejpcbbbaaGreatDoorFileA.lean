/- Files of a disk: rows of files, DiskOk of the program and of the reference. -/
import Derived.Test.YtaacpdejpcbbbaaGreatDoorBat2
namespace Go.Proofs.YtaacpdejpcbbbaaGreatDoor
set_option linter.unusedVariables false
set_option linter.unusedSimpArgs false
open Go.RowKit
attribute [local go_sem] bs_size List.length_cons List.length_nil List.length_append

/-- A file: its name, its text, how much of it is kept. -/
abbrev FiD := ByteArray × ByteArray × Int
def FiRow (w : World) (A : Option Addr) (c : Nat) (fs : List FiD) : Prop :=
  fs.length ≤ c ∧ c ≤ 9223372036854775807 ∧ (∀ x ∈ fs, x.1.size ≤ 9223372036854775807 ∧ x.2.1.size ≤ 9223372036854775807) ∧
  (0 < fs.length → ∃ ad : Addr, A = some ad ∧ ad.block < w.heap.size ∧ ∀ j x, fs[j]? = some x → w.cell? (ad.add (j * 3)) = some (.string x.1) ∧ w.cell? ⟨(ad.add (j * 3)).block, (ad.add (j * 3)).off + 1, none⟩ = some (.string x.2.1) ∧ w.cell? ⟨(ad.add (j * 3)).block, (ad.add (j * 3)).off + 2, none⟩ = some (.int .i64 x.2.2))
theorem FiRow.below {w w' : World} {A : Option Addr} {c : Nat} {fs : List FiD} (h : FiRow w A c fs) (hb : Below w.heap.size w w') : FiRow w' A c fs :=
  ⟨h.1, h.2.1, h.2.2.1, fun hp => by
    obtain ⟨ad, e, hl, hc⟩ := h.2.2.2 hp
    refine ⟨ad, e, Nat.lt_of_lt_of_le hl hb.size, fun j x hx => ?_⟩
    obtain ⟨h0, h1, h2⟩ := hc j x hx
    exact ⟨(hb.cell (by rw [add_block]; exact hl)).trans h0, (hb.cell (by show (ad.add (j * 3)).block < _; rw [add_block]; exact hl)).trans h1, (hb.cell (by show (ad.add (j * 3)).block < _; rw [add_block]; exact hl)).trans h2⟩⟩
theorem FiRow.len {w : World} {A : Option Addr} {c : Nat} {fs : List FiD} (h : FiRow w A c fs) : fs.length ≤ 9223372036854775807 := Nat.le_trans h.1 h.2.1
theorem FiRow.at_ {w : World} {A : Option Addr} {c : Nat} {fs : List FiD} (h : FiRow w A c fs) {k : Nat} (hk : k < fs.length) :
    ∃ (ad : Addr) (x : FiD), A = some ad ∧ Hid (fs[k]? = some x) ∧ x.1.size ≤ 9223372036854775807 ∧ x.2.1.size ≤ 9223372036854775807 ∧ w.cell? (ad.add (k * 3)) = some (.string x.1) ∧ w.cell? ⟨(ad.add (k * 3)).block, (ad.add (k * 3)).off + 1, none⟩ = some (.string x.2.1) ∧ w.cell? ⟨(ad.add (k * 3)).block, (ad.add (k * 3)).off + 2, none⟩ = some (.int .i64 x.2.2) := by
  obtain ⟨ad, e, _, hc⟩ := h.2.2.2 (by omega)
  have hx : fs[k]? = some fs[k] := List.getElem?_eq_getElem hk
  have hs := h.2.2.1 _ (List.mem_of_getElem? hx)
  exact ⟨ad, _, e, hx, hs.1, hs.2, hc k _ hx⟩
def fiOkB (x : FiD) : Bool := inR (x.1.size : Int) 1 8 && decide (x.2.1.size ≤ 20000) && inR x.2.2 0 (x.2.1.size : Int)
/-- The file at i, and its name against the one ahead of it. -/
def fiAt (fs : List FiD) (i : Nat) : Bool := match fs[i]? with
  | none => true
  | some c => fiOkB c && (match i with
    | 0 => true
    | j + 1 => match fs[j]? with
      | none => true
      | some p => Op.bytesLess p.1.toList c.1.toList)
def diskOkB (fs : List FiD) : Bool := ((List.range fs.length).all fun i => fiAt fs i) && decide (fs.length ≤ 30)
theorem fiAt_bad {fs : List FiD} {i : Nat} {x : FiD} (h : fs[i]? = some x) (hx : fiOkB x = false) : fiAt fs i = false := by
  unfold fiAt
  rw [h]
  simp [hx]
theorem fiAt_zero {fs : List FiD} {x : FiD} (h : fs[0]? = some x) (hx : fiOkB x = true) : fiAt fs 0 = true := by
  unfold fiAt
  rw [h]
  simp [hx]
theorem fiAt_succ {fs : List FiD} {j : Nat} {x p : FiD} (h : fs[j + 1]? = some x) (hp : fs[j]? = some p) (hx : fiOkB x = true) : fiAt fs (j + 1) = Op.bytesLess p.1.toList x.1.toList := by
  unfold fiAt
  rw [h]
  simp [hx, hp]
theorem diskOk_bad {fs : List FiD} {i : Nat} (hi : i < fs.length) (h : fiAt fs i = false) : diskOkB fs = false := by
  unfold diskOkB
  have : ((List.range fs.length).all fun i => fiAt fs i) = false := List.all_eq_false.2 ⟨i, List.mem_range.2 hi, by rw [h]; exact Bool.false_ne_true⟩
  rw [this, Bool.false_and]
theorem diskOk_all {fs : List FiD} (h : ∀ j, j < fs.length → fiAt fs j = true) : diskOkB fs = decide (fs.length ≤ 30) := by
  unfold diskOkB
  have : ((List.range fs.length).all fun i => fiAt fs i) = true := List.all_eq_true.2 fun i hi => h i (List.mem_range.1 hi)
  rw [this, Bool.true_and]
theorem diskOk_many {fs : List FiD} (h : 30 < fs.length) : diskOkB fs = false := by
  unfold diskOkB
  rw [decide_eq_false (by omega), Bool.and_false]
theorem fiOk_name {n t : ByteArray} {k : Int} (h : inR (n.size : Int) 1 8 = false) : fiOkB (n, t, k) = false := by simp [fiOkB, h]
theorem fiOk_text {n t : ByteArray} {k : Int} (h : 20000 < t.size) : fiOkB (n, t, k) = false := by
  unfold fiOkB
  rw [decide_eq_false (by show ¬ t.size ≤ 20000; omega)]
  simp
theorem fiOk_kept {n t : ByteArray} {k : Int} (h : inR k 0 (t.size : Int) = false) : fiOkB (n, t, k) = false := by simp [fiOkB, h]
theorem fiOk_ok {n t : ByteArray} {k : Int} (h : inR (n.size : Int) 1 8 = true) (h1 : t.size ≤ 20000) (h2 : inR k 0 (t.size : Int) = true) : fiOkB (n, t, k) = true := by simp [fiOkB, h, h1, h2]
theorem fi_step {fs : List FiD} {i : Nat} (h : ∀ j, j < i → fiAt fs j = true) (hi : fiAt fs i = true) : ∀ j, j < i + 1 → fiAt fs j = true := by
  intro j hj
  by_cases e : j = i
  · rw [e]; exact hi
  · exact h j (by omega)
/-- In a right disk every text is small. -/
theorem diskOk_small {fs : List FiD} (h : diskOkB fs = true) {x : FiD} (hx : x ∈ fs) : x.2.1.size ≤ 20000 ∧ x.1.size ≤ 8 := by
  obtain ⟨i, hi⟩ := List.getElem?_of_mem hx
  have hil := (List.getElem?_eq_some_iff.1 hi).1
  unfold diskOkB at h
  rw [Bool.and_eq_true, List.all_eq_true] at h
  have h2 := h.1 i (List.mem_range.2 hil)
  unfold fiAt at h2
  rw [hi] at h2
  dsimp only at h2
  rw [Bool.and_eq_true] at h2
  have h3 := h2.1
  unfold fiOkB inR at h3
  simp only [Bool.and_eq_true, decide_eq_true_eq] at h3
  omega
theorem within_at (n lo hi : Int) (w : World) {b : Bool} (h : inR n lo hi = b) : Calls Tryz.prog 57 #[.int .i64 n, .int .i64 lo, .int .i64 hi] w fun e w' => e = .returned (.bool b) ∧ w' = w := by
  subst h
  exact (impl_within_calls n lo hi w).mono fun e w' ⟨he, hw⟩ => ⟨he, hw.symm⟩
set_option maxHeartbeats 4000000 in
set_option maxRecDepth 100000 in
theorem impl_DiskOk_calls (A : Option Addr) (c : Nat) (fs : List FiD) (w : World) (h : FiRow w A c fs) :
    Calls Tryz.prog 82 #[.agg #[.slice A fs.length c]] w fun e w' => e = .returned (.bool (diskOkB fs)) ∧ Below w.heap.size w w' := by
  have hl := h.len
  have hal : Below w.heap.size w (w.alloc (.cells #[.slice A fs.length c] 32)) := (Below.refl _ _).alloc (Nat.le_refl _) _
  have HR := Lib.hid (h.below hal)
  have HB := Lib.hid hal
  clear h hal
  go_enter Tryz.func82, Tryz.ntmps82
  go_wp2_with fail
  go_outline
  go_loopw [8] (fun iv wr => ∃ i : Nat, i ≤ fs.length ∧ iv = .int .i64 (i : Int) ∧ Hid (∀ j, j < i → fiAt fs j = true) ∧ Below (w.alloc (.cells #[.slice A fs.length c] 32)).heap.size (w.alloc (.cells #[.slice A fs.length c] 32)) wr) (fun iv _ => fs.length - (intOf iv).toNat)
  case atStart => exact ⟨0, Nat.zero_le _, rfl, fun j hj => by omega, Below.refl _ _⟩
  case round =>
    obtain ⟨i, hi, rfl, HT, hbel⟩ := hrel
    have HBE := Lib.hid hbel
    have hbx : wr.cell? ⟨w.heap.size, 0, none⟩ = some (.slice A fs.length c) := (HBE.out.cell (by simp)).trans (blk_cell (blk_new w _) 0)
    by_cases hlt : i < fs.length
    · obtain ⟨ad, x, hA, HX, hz1, hz2, hc0, hc1, hc2⟩ := (HR.out.below hbel).at_ hlt
      clear hbel
      cases hA
      obtain ⟨k, v, g⟩ := x
      dsimp only at hz1 hz2 hc0 hc1 hc2
      have hS0 : (wr.alloc (.cells #[.string k, .string v, .int .i64 g] 105)).cell? ⟨wr.heap.size, 0, none⟩ = some (.string k) ∧ (wr.alloc (.cells #[.string k, .string v, .int .i64 g] 105)).cell? ⟨wr.heap.size, 1, none⟩ = some (.string v) ∧ (wr.alloc (.cells #[.string k, .string v, .int .i64 g] 105)).cell? ⟨wr.heap.size, 2, none⟩ = some (.int .i64 g) ∧ (wr.alloc (.cells #[.string k, .string v, .int .i64 g] 105)).cell? ⟨w.heap.size, 0, none⟩ = some (.slice (some ad) fs.length c) := ⟨blk_cell (blk_new wr _) 0, blk_cell (blk_new wr _) 1, blk_cell (blk_new wr _) 2, cell_new hbx _⟩
      obtain ⟨f0, f1, f2, f3⟩ := hS0
      have HBW : Hid (Below w.heap.size w (wr.alloc (.cells #[.string k, .string v, .int .i64 g] 105))) := by
        have h1 := HB.out.trans (HBE.out.mono (by simp))
        exact h1.alloc h1.size _
      have HBV : Hid (Below (w.alloc (.cells #[.slice (some ad) fs.length c] 32)).heap.size (w.alloc (.cells #[.slice (some ad) fs.length c] 32)) (wr.alloc (.cells #[.string k, .string v, .int .i64 g] 105))) := HBE.out.alloc HBE.out.size _
      cases hk : inR (k.size : Int) 1 8
      · have HK := Lib.hid hk
        have HX0 := Lib.hid (diskOk_bad hlt (fiAt_bad HX.out (fiOk_name hk)))
        clear hk
        go_wp2
        go_quiet ((go_at_call 57; exact Calls.quiet_of_same (within_at _ _ _ _ HK.out)))
        go_wp2
        go_ret
        exact ⟨ret_bool HX0.out.symm, blwN HBW.out _⟩
      · have HK := Lib.hid hk
        by_cases hv : 20000 < v.size
        · have HX0 := Lib.hid (diskOk_bad hlt (fiAt_bad HX.out (fiOk_text hv)))
          have hvi : decide ((20000 : Int) < (v.size : Int)) = true := by simp; omega
          clear hk
          go_wp2
          go_quiet ((go_at_call 57; exact Calls.quiet_of_same (within_at _ _ _ _ HK.out)))
          go_wp2
          go_ret
          exact ⟨ret_bool HX0.out.symm, blwN HBW.out _⟩
        · have hvi : decide ((20000 : Int) < (v.size : Int)) = false := by simp; omega
          cases hg : inR g 0 (v.size : Int)
          · have HG := Lib.hid hg
            have HX0 := Lib.hid (diskOk_bad hlt (fiAt_bad HX.out (fiOk_kept (n := k) hg)))
            clear hk hg
            go_wp2
            go_quiet ((go_at_call 57; first | exact Calls.quiet_of_same (within_at _ _ _ _ HK.out) | exact Calls.quiet_of_same (within_at _ _ _ _ HG.out)))
            go_wp2
            go_ret
            exact ⟨ret_bool HX0.out.symm, blwN HBW.out _⟩
          · have hok := fiOk_ok hk (by omega) hg
            have HG := Lib.hid hg
            by_cases h0 : i = 0
            · have HNX := Lib.hid (fi_step HT.out (by rw [h0]; exact fiAt_zero (by have := HX.out; rw [h0] at this; exact this) hok))
              have g0 : decide (0 < i) = false := decide_eq_false (by omega)
              clear hk hok h0 hg
              go_wp2
              go_quiet ((go_at_call 57; first | exact Calls.quiet_of_same (within_at _ _ _ _ HK.out) | exact Calls.quiet_of_same (within_at _ _ _ _ HG.out)))
              go_wp2
              go_roundw
              case rel => first | exact ⟨i + 1, by omega, by go_num, HNX.out, blwN HBV.out _⟩ | (repeat (first | (refine ⟨?relx, rfl⟩; exact ⟨i + 1, by omega, by go_num, HNX.out, blwN HBV.out _⟩) | (refine ⟨?relx, ?eqs⟩; (case eqs => (and_intros <;> rfl)); exact ⟨i + 1, by omega, by go_num, HNX.out, blwN HBV.out _⟩) | apply Exists.intro))
              case measure => simp [intOf]; omega
            · obtain ⟨j, hj⟩ : ∃ j, i = j + 1 := ⟨i - 1, by omega⟩
              obtain ⟨ad2, p, hA2, HY, hy1, _, hd0, _, _⟩ := (HR.out.below HBE.out).at_ (k := j) (by omega)
              cases hA2
              have hd0' : (wr.alloc (.cells #[.string k, .string v, .int .i64 g] 105)).cell? (ad.add (j * 3)) = some (.string p.1) := cell_new hd0 _
              have HQ : Hid (fiAt fs i = Op.bytesLess p.1.toList k.toList) := by (have HX1 := HX.out; rw [hj] at HX1 ⊢; exact fiAt_succ HX1 HY.out hok)
              have ht : ((i : Int) - 1).toNat = j := by omega
              have hw : IntKind.i64.wrap ((i : Int) - 1) = (i : Int) - 1 := by rw [IntKind.wrap_i64]; omega
              have hb0 : (0 : Int) ≤ (i : Int) - 1 := by omega
              have hb1 : (i : Int) - 1 < (fs.length : Int) := by omega
              have g0 : decide (0 < i) = true := decide_eq_true (by omega)
              clear hj hd0 hk hok h0 hg
              cases hs : Op.bytesLess p.1.toList k.toList
              · have HX0 := Lib.hid (diskOk_bad hlt (HQ.out.trans hs))
                go_wp2
                go_quiet ((go_at_call 57; first | exact Calls.quiet_of_same (within_at _ _ _ _ HK.out) | exact Calls.quiet_of_same (within_at _ _ _ _ HG.out)))
                go_wp2
                go_ret
                exact ⟨ret_bool HX0.out.symm, blwN HBW.out _⟩
              · have HNX := Lib.hid (fi_step HT.out (HQ.out.trans hs))
                go_wp2
                go_quiet ((go_at_call 57; first | exact Calls.quiet_of_same (within_at _ _ _ _ HK.out) | exact Calls.quiet_of_same (within_at _ _ _ _ HG.out)))
                go_wp2
                go_roundw
                case rel => first | exact ⟨i + 1, by omega, by go_num, HNX.out, blwN HBV.out _⟩ | (repeat (first | (refine ⟨?relx, rfl⟩; exact ⟨i + 1, by omega, by go_num, HNX.out, blwN HBV.out _⟩) | (refine ⟨?relx, ?eqs⟩; (case eqs => (and_intros <;> rfl)); exact ⟨i + 1, by omega, by go_num, HNX.out, blwN HBV.out _⟩) | apply Exists.intro))
                case measure => simp [intOf]; omega
    · obtain rfl : i = fs.length := by omega
      have HE := Lib.hid (diskOk_all HT.out)
      have HBF := Lib.hid (HB.out.trans (HBE.out.mono (by simp)))
      clear hbel
      go_wp2
      go_ret
      exact ⟨ret_bool (by rw [HE.out]; first | rfl | exact decide_eq_decide.2 (by omega)), HBF.out⟩
end Go.Proofs.YtaacpdejpcbbbaaGreatDoor
