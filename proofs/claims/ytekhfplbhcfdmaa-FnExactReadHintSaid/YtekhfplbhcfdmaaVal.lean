/- Values: ValOk, the program's and the reference's, tell valOkB. -/
import Derived.Test.YtekhfplbhcfdmaaIn
import Derived.Test.YtekhfplbhcfdmaaStrs
import Derived.Laws.Cover1
namespace Go.Proofs.Ytekhfplbhcfdmaa
set_option linter.unusedVariables false
set_option linter.unusedSimpArgs false
open Go.RowKit
attribute [local go_sem] bs_size List.length_cons List.length_nil List.length_append

def sless (a b : ByteArray) : Bool := Op.bytesLess a.toList b.toList
/-- The item at i is wrong, in a value of kind k. -/
def badAt (k : Int) (xs : List ByteArray) (i : Nat) : Bool := match xs[i]? with
  | none => false
  | some x => decide (60 < x.size) || (if k = 4 then decide (0 < i) && !(sless (xs.getD (i - 1) ByteArray.empty) x) else if k = 3 then decide (1 < i) && decide (i % 2 = 0) && !(sless (xs.getD (i - 2) ByteArray.empty) x) else false)
def itemsB (k : Int) (xs : List ByteArray) : Bool := !(decide (k = 3) && decide (xs.length % 2 = 1)) && ((List.range xs.length).all fun i => !badAt k xs i) && inR (xs.length : Int) 1 24
theorem itemsB_bad {k : Int} {xs : List ByteArray} {i : Nat} (hi : i < xs.length) (h : badAt k xs i = true) : itemsB k xs = false := by
  unfold itemsB
  rw [List.all_eq_false.2 ⟨i, List.mem_range.2 hi, by simp [h]⟩]
  simp
theorem itemsB_odd {xs : List ByteArray} (h : xs.length % 2 = 1) : itemsB 3 xs = false := by simp [itemsB, h]
theorem itemsB_all {k : Int} {xs : List ByteArray} (h1 : ¬ (k = 3 ∧ xs.length % 2 = 1)) (h : ∀ j, j < xs.length → badAt k xs j = false) : itemsB k xs = inR (xs.length : Int) 1 24 := by
  unfold itemsB
  rw [List.all_eq_true.2 fun i hi => by rw [h i (List.mem_range.1 hi)]; rfl]
  have : (decide (k = 3) && decide (xs.length % 2 = 1)) = false := by simp; omega
  rw [this]
  rfl
theorem itemsB_many {k : Int} {xs : List ByteArray} (h : inR (xs.length : Int) 1 24 = false) : itemsB k xs = false := by unfold itemsB; rw [h]; simp
theorem badAt_long {k : Int} {xs : List ByteArray} {i : Nat} {x : ByteArray} (hx : xs[i]? = some x) (h : 60 < x.size) : badAt k xs i = true := by unfold badAt; rw [hx]; simp [h]
theorem badAt_list {xs : List ByteArray} {i : Nat} {x : ByteArray} (hx : xs[i]? = some x) (h : ¬ 60 < x.size) : badAt 2 xs i = false := by unfold badAt; rw [hx]; simp; omega
theorem badAt_set0 {xs : List ByteArray} {x : ByteArray} (hx : xs[0]? = some x) (h : ¬ 60 < x.size) : badAt 4 xs 0 = false := by unfold badAt; rw [hx]; simp; omega
theorem badAt_set {xs : List ByteArray} {j : Nat} {x y : ByteArray} (hx : xs[j + 1]? = some x) (hy : xs[j]? = some y) (h : ¬ 60 < x.size) : badAt 4 xs (j + 1) = !sless y x := by
  unfold badAt; rw [hx]; simp [h, hy]
theorem badAt_fld {xs : List ByteArray} {i : Nat} {x : ByteArray} (hx : xs[i]? = some x) (h : ¬ 60 < x.size) (h1 : ¬ (1 < i ∧ i % 2 = 0)) : badAt 3 xs i = false := by
  have : (decide (1 < i) && decide (i % 2 = 0)) = false := by simp; omega
  unfold badAt; rw [hx]; simp [h, this]
theorem badAt_fld2 {xs : List ByteArray} {j : Nat} {x y : ByteArray} (hx : xs[j + 2]? = some x) (hy : xs[j]? = some y) (h : ¬ 60 < x.size) (h1 : j % 2 = 0) : badAt 3 xs (j + 2) = !sless y x := by
  unfold badAt; rw [hx]; simp [h, hy, h1]
theorem all_step {k : Int} {xs : List ByteArray} {i : Nat} (h : ∀ j, j < i → badAt k xs j = false) (hi : badAt k xs i = false) : ∀ j, j < i + 1 → badAt k xs j = false := by
  intro j hj
  by_cases e : j = i
  · subst e; exact hi
  · exact h j (by omega)
def ItRel (k : Int) (xs : List ByteArray) (i : Nat) : Prop := ∀ j, j < i → badAt k xs j = false
set_option maxHeartbeats 4000000 in
set_option maxRecDepth 100000 in
theorem impl_itemsOk_calls (k : Int) (A : Option Addr) (c : Nat) (xs : List ByteArray) (w : World) (h : StrRow w A c xs) (hk : k = 2 ∨ k = 3 ∨ k = 4) :
    Calls Try.prog 69 #[.int .i64 k, .slice A xs.length c] w fun e w' => e = .returned (.bool (itemsB k xs)) ∧ Below w.heap.size w w' := by
  have hl := h.len
  have HR := Lib.hid h
  clear h
  rcases hk with rfl | rfl | rfl
  · go_enter Try.func69, Try.ntmps69
    go_wp2
    go_loopw [19] (fun iv wr => ∃ i : Nat, i ≤ xs.length ∧ iv = .int .i64 (i : Int) ∧ ItRel 2 xs i ∧ Below w.heap.size w wr) (fun iv _ => xs.length - (intOf iv).toNat)
    case atStart => exact ⟨0, Nat.zero_le _, rfl, fun j hj => by omega, Below.refl _ _⟩
    case round =>
      obtain ⟨i, hi, rfl, hrel, hbel⟩ := hrel
      have HT := Lib.hid hrel
      have HB := Lib.hid hbel
      clear hrel
      by_cases hlt : i < xs.length
      · obtain ⟨ad, x, hA, hc, hz, HX⟩ := (HR.out.below hbel).at_ hlt
        clear hbel
        cases hA
        by_cases h60 : 60 < x.size
        · have HE := Lib.hid (itemsB_bad hlt (badAt_long (k := 2) HX.out h60))
          go_wp2
          go_ret
          exact ⟨ret_bool HE.out.symm, HB.out⟩
        · go_wp2
          go_roundw
          case rel => first | exact ⟨i + 1, by omega, by go_num, all_step HT.out (badAt_list HX.out h60), HB.out⟩ | (repeat (first | (refine ⟨?relx, rfl⟩; exact ⟨i + 1, by omega, by go_num, all_step HT.out (badAt_list HX.out h60), HB.out⟩) | (refine ⟨?relx, ?eqs⟩; (case eqs => (and_intros <;> rfl)); exact ⟨i + 1, by omega, by go_num, all_step HT.out (badAt_list HX.out h60), HB.out⟩) | apply Exists.intro))
          case measure => simp [intOf]; omega
      · obtain rfl : i = xs.length := by omega
        have HE := Lib.hid (itemsB_all (k := 2) (by omega) HT.out)
        clear hbel
        go_wp2_with (go_at_call 68; refine (impl_within_calls _ _ _ _).mono ?_; rintro e w' ⟨rfl, rfl⟩)
        go_ret
        exact ⟨ret_bool HE.out.symm, HB.out⟩
  · by_cases hodd : xs.length % 2 = 1
    · have HE := Lib.hid (itemsB_odd hodd)
      go_enter Try.func69, Try.ntmps69
      go_wp2
      go_ret
      exact ⟨ret_bool HE.out.symm, Below.refl _ _⟩
    · have hev : ((xs.length : Int) % 2 != 0) = false := by rw [bne_eq_false_iff_eq]; omega
      go_enter Try.func69, Try.ntmps69
      go_wp2
      go_loopw [19] (fun iv wr => ∃ i : Nat, i ≤ xs.length ∧ iv = .int .i64 (i : Int) ∧ ItRel 3 xs i ∧ Below w.heap.size w wr) (fun iv _ => xs.length - (intOf iv).toNat)
      case atStart => exact ⟨0, Nat.zero_le _, rfl, fun j hj => by omega, Below.refl _ _⟩
      case round =>
        obtain ⟨i, hi, rfl, hrel, hbel⟩ := hrel
        have HT := Lib.hid hrel
        have HB := Lib.hid hbel
        clear hrel
        by_cases hlt : i < xs.length
        · obtain ⟨ad, x, hA, hc, hz, HX⟩ := (HR.out.below hbel).at_ hlt
          by_cases h60 : 60 < x.size
          · have HE := Lib.hid (itemsB_bad hlt (badAt_long (k := 3) HX.out h60))
            clear hbel
            cases hA
            go_wp2
            go_ret
            exact ⟨ret_bool HE.out.symm, HB.out⟩
          · by_cases h2 : 1 < i ∧ i % 2 = 0
            · obtain ⟨j, hj⟩ : ∃ j, i = j + 2 := ⟨i - 2, by omega⟩
              obtain ⟨ad2, y, hA2, hc2, hz2, HY⟩ := (HR.out.below hbel).at_ (k := j) (by omega)
              clear hbel
              cases hA
              cases hA2
              have HQ : Hid (badAt 3 xs i = !sless y x) := by (have HX1 := HX.out; rw [hj] at HX1 ⊢; exact badAt_fld2 HX1 HY.out h60 (by omega))
              have ht : ((i : Int) - 2).toNat = j := by omega
              have hb0 : (0 : Int) ≤ (i : Int) - 2 := by omega
              have hb1 : (i : Int) - 2 < (xs.length : Int) := by omega
              clear hj
              cases hs : sless y x
              · have HE := Lib.hid (itemsB_bad hlt (by rw [HQ.out, hs]; rfl))
                unfold sless at hs
                go_wp2
                go_ret
                exact ⟨ret_bool HE.out.symm, HB.out⟩
              · have HE : Hid (badAt 3 xs i = false) := by rw [Hid, HQ.out, hs]; rfl
                unfold sless at hs
                go_wp2
                go_roundw
                case rel => first | exact ⟨i + 1, by omega, by go_num, all_step HT.out HE.out, HB.out⟩ | (repeat (first | (refine ⟨?relx, rfl⟩; exact ⟨i + 1, by omega, by go_num, all_step HT.out HE.out, HB.out⟩) | (refine ⟨?relx, ?eqs⟩; (case eqs => (and_intros <;> rfl)); exact ⟨i + 1, by omega, by go_num, all_step HT.out HE.out, HB.out⟩) | apply Exists.intro))
                case measure => simp [intOf]; omega
            · have HE := Lib.hid (badAt_fld HX.out h60 h2)
              clear hbel
              cases hA
              by_cases hp : i % 2 = 0
              · go_wp2
                go_roundw
                case rel => first | exact ⟨i + 1, by omega, by go_num, all_step HT.out HE.out, HB.out⟩ | (repeat (first | (refine ⟨?relx, rfl⟩; exact ⟨i + 1, by omega, by go_num, all_step HT.out HE.out, HB.out⟩) | (refine ⟨?relx, ?eqs⟩; (case eqs => (and_intros <;> rfl)); exact ⟨i + 1, by omega, by go_num, all_step HT.out HE.out, HB.out⟩) | apply Exists.intro))
                case measure => simp [intOf]; omega
              · go_wp2
                go_roundw
                case rel => first | exact ⟨i + 1, by omega, by go_num, all_step HT.out HE.out, HB.out⟩ | (repeat (first | (refine ⟨?relx, rfl⟩; exact ⟨i + 1, by omega, by go_num, all_step HT.out HE.out, HB.out⟩) | (refine ⟨?relx, ?eqs⟩; (case eqs => (and_intros <;> rfl)); exact ⟨i + 1, by omega, by go_num, all_step HT.out HE.out, HB.out⟩) | apply Exists.intro))
                case measure => simp [intOf]; omega
        · obtain rfl : i = xs.length := by omega
          have HE := Lib.hid (itemsB_all (k := 3) (by omega) HT.out)
          clear hbel
          go_wp2_with (go_at_call 68; refine (impl_within_calls _ _ _ _).mono ?_; rintro e w' ⟨rfl, rfl⟩)
          go_ret
          exact ⟨ret_bool HE.out.symm, HB.out⟩
  · go_enter Try.func69, Try.ntmps69
    go_wp2
    go_loopw [19] (fun iv wr => ∃ i : Nat, i ≤ xs.length ∧ iv = .int .i64 (i : Int) ∧ ItRel 4 xs i ∧ Below w.heap.size w wr) (fun iv _ => xs.length - (intOf iv).toNat)
    case atStart => exact ⟨0, Nat.zero_le _, rfl, fun j hj => by omega, Below.refl _ _⟩
    case round =>
      obtain ⟨i, hi, rfl, hrel, hbel⟩ := hrel
      have HT := Lib.hid hrel
      have HB := Lib.hid hbel
      clear hrel
      by_cases hlt : i < xs.length
      · obtain ⟨ad, x, hA, hc, hz, HX⟩ := (HR.out.below hbel).at_ hlt
        by_cases h60 : 60 < x.size
        · have HE := Lib.hid (itemsB_bad hlt (badAt_long (k := 4) HX.out h60))
          clear hbel
          cases hA
          go_wp2
          go_ret
          exact ⟨ret_bool HE.out.symm, HB.out⟩
        · by_cases h2 : 0 < i
          · obtain ⟨j, hj⟩ : ∃ j, i = j + 1 := ⟨i - 1, by omega⟩
            obtain ⟨ad2, y, hA2, hc2, hz2, HY⟩ := (HR.out.below hbel).at_ (k := j) (by omega)
            clear hbel
            cases hA
            cases hA2
            have HQ : Hid (badAt 4 xs i = !sless y x) := by (have HX1 := HX.out; rw [hj] at HX1 ⊢; exact badAt_set HX1 HY.out h60)
            have ht : ((i : Int) - 1).toNat = j := by omega
            have hb0 : (0 : Int) ≤ (i : Int) - 1 := by omega
            have hb1 : (i : Int) - 1 < (xs.length : Int) := by omega
            clear hj
            cases hs : sless y x
            · have HE := Lib.hid (itemsB_bad hlt (by rw [HQ.out, hs]; rfl))
              unfold sless at hs
              go_wp2
              go_ret
              exact ⟨ret_bool HE.out.symm, HB.out⟩
            · have HE : Hid (badAt 4 xs i = false) := by rw [Hid, HQ.out, hs]; rfl
              unfold sless at hs
              go_wp2
              go_roundw
              case rel => first | exact ⟨i + 1, by omega, by go_num, all_step HT.out HE.out, HB.out⟩ | (repeat (first | (refine ⟨?relx, rfl⟩; exact ⟨i + 1, by omega, by go_num, all_step HT.out HE.out, HB.out⟩) | (refine ⟨?relx, ?eqs⟩; (case eqs => (and_intros <;> rfl)); exact ⟨i + 1, by omega, by go_num, all_step HT.out HE.out, HB.out⟩) | apply Exists.intro))
              case measure => simp [intOf]; omega
          · obtain rfl : i = 0 := by omega
            have HE := Lib.hid (badAt_set0 HX.out h60)
            clear hbel
            cases hA
            have hc0 : wr.cell? ad = some (.string x) := hc
            go_wp2
            go_roundw
            case rel => first | exact ⟨1, by omega, by go_num, all_step HT.out HE.out, HB.out⟩ | (repeat (first | (refine ⟨?relx, rfl⟩; exact ⟨1, by omega, by go_num, all_step HT.out HE.out, HB.out⟩) | (refine ⟨?relx, ?eqs⟩; (case eqs => (and_intros <;> rfl)); exact ⟨1, by omega, by go_num, all_step HT.out HE.out, HB.out⟩) | apply Exists.intro))
            case measure => simp [intOf]; omega
      · obtain rfl : i = xs.length := by omega
        have HE := Lib.hid (itemsB_all (k := 4) (by omega) HT.out)
        clear hbel
        go_wp2_with (go_at_call 68; refine (impl_within_calls _ _ _ _).mono ?_; rintro e w' ⟨rfl, rfl⟩)
        go_ret
        exact ⟨ret_bool HE.out.symm, HB.out⟩
end Go.Proofs.Ytekhfplbhcfdmaa
