/- ValOk: the program's and the reference's tell valOkB of every value. -/
import Derived.Test.YtekhfplbhcfdmaaVal
namespace Go.Proofs.Ytekhfplbhcfdmaa
set_option linter.unusedVariables false
set_option linter.unusedSimpArgs false
open Go.RowKit
attribute [local go_sem] bs_size List.length_cons List.length_nil List.length_append

/-- A value as it is handed over. -/
def vVal (k u : Int) (t : ByteArray) (v : Value) : Value := .agg #[.int .i64 k, .int .i64 u, .string t, v]
def valOkB (k u : Int) (t : ByteArray) (xs : List ByteArray) : Bool := inR u 0 100000 && (if k = 1 then decide (t.size ≤ 60) && decide (xs.length = 0) else if k = 2 ∨ k = 3 ∨ k = 4 then decide (t.size = 0) && itemsB k xs else false)
theorem size0 {t : ByteArray} : t.size = 0 ↔ t = ⟨#[]⟩ := by
  constructor
  · intro h
    apply ByteArray.ext
    exact Array.eq_empty_of_size_eq_zero h
  · rintro rfl; rfl
theorem valOk_late {k u : Int} {t : ByteArray} {xs : List ByteArray} (h : ¬ (0 ≤ u ∧ u ≤ 100000)) : valOkB k u t xs = false := by unfold valOkB; rw [inR_false h]; rfl
theorem valOk_text {u : Int} {t : ByteArray} {xs : List ByteArray} (h : 0 ≤ u ∧ u ≤ 100000) : valOkB 1 u t xs = (decide (t.size ≤ 60) && decide (xs.length = 0)) := by unfold valOkB; rw [inR_true h]; rfl
theorem valOk_kind {k u : Int} {t : ByteArray} {xs : List ByteArray} (h : ¬ (1 ≤ k ∧ k ≤ 4)) : valOkB k u t xs = false := by
  unfold valOkB
  rw [if_neg (by omega), if_neg (by omega)]
  simp
theorem valOk_items {k u : Int} {t : ByteArray} {xs : List ByteArray} (h : 0 ≤ u ∧ u ≤ 100000) (hk : k = 2 ∨ k = 3 ∨ k = 4) : valOkB k u t xs = (decide (t.size = 0) && itemsB k xs) := by
  unfold valOkB
  rw [inR_true h, if_neg (by omega), if_pos hk]
  rfl
theorem len0 (n : Nat) : ((n : Int) == 0) = decide (n = 0) := by
  by_cases h : n = 0
  · simp [h]
  · rw [decide_eq_false h]
    exact beq_eq_false_iff_ne.mpr (by omega)
set_option maxHeartbeats 4000000 in
set_option maxRecDepth 100000 in
theorem impl_ValOk_calls (k u : Int) (t : ByteArray) (A : Option Addr) (c : Nat) (xs : List ByteArray) (w : World) (h : StrRow w A c xs) (ht : t.size ≤ 9223372036854775807) :
    Calls Try.prog 24 #[vVal k u t (.slice A xs.length c)] w fun e w' => e = .returned (.bool (valOkB k u t xs)) ∧ Below w.heap.size w w' := by
  have hl := h.len
  have HR := Lib.hid h
  clear h
  unfold vVal
  by_cases hu : 0 ≤ u ∧ u ≤ 100000
  · have HU := Lib.hid (inR_true hu)
    by_cases h1 : k = 1
    · subst h1
      have HE := Lib.hid (valOk_text (t := t) (xs := xs) hu)
      by_cases h60 : t.size ≤ 60
      · by_cases h00 : xs.length = 0
        · have hz : ((xs.length : Int) == 0) = true := by rw [len0]; simp [h00]
          go_enter Try.func24, Try.ntmps24
          go_wp2_with (go_at_call 68; refine (impl_within_calls _ _ _ _).mono ?_; rw [HU.out]; rintro e w' ⟨rfl, rfl⟩)
          go_ret
          exact ⟨ret_bool (by rw [HE.out]; simp [h60, h00]), (Below.refl _ _).alloc (Nat.le_refl _) _⟩
        · have hz : ((xs.length : Int) == 0) = false := by rw [len0]; simp [h00]
          go_enter Try.func24, Try.ntmps24
          go_wp2_with (go_at_call 68; refine (impl_within_calls _ _ _ _).mono ?_; rw [HU.out]; rintro e w' ⟨rfl, rfl⟩)
          go_ret
          exact ⟨ret_bool (by rw [HE.out]; simp [h00]), (Below.refl _ _).alloc (Nat.le_refl _) _⟩
      · go_enter Try.func24, Try.ntmps24
        go_wp2_with (go_at_call 68; refine (impl_within_calls _ _ _ _).mono ?_; rw [HU.out]; rintro e w' ⟨rfl, rfl⟩)
        go_ret
        exact ⟨ret_bool (by rw [HE.out]; simp [h60]), (Below.refl _ _).alloc (Nat.le_refl _) _⟩
    · by_cases hk : k = 2 ∨ k = 3 ∨ k = 4
      · have HE := Lib.hid (valOk_items (t := t) (xs := xs) hu hk)
        by_cases h0 : t.size = 0
        · obtain rfl := size0.1 h0
          have hrow := HR.out.below ((Below.refl w.heap.size w).alloc (Nat.le_refl _) (.cells #[.int .i64 k, .int .i64 u, .string ⟨#[]⟩, .slice A xs.length c] 39))
          have HR2 := Lib.hid hrow
          clear hrow
          rcases hk with rfl | rfl | rfl
          all_goals
            go_enter Try.func24, Try.ntmps24
            go_wp2_with (go_at_call 68; refine (impl_within_calls _ _ _ _).mono ?_; rw [HU.out]; rintro e w' ⟨rfl, rfl⟩)
            go_at_call 69
            refine (impl_itemsOk_calls _ _ _ xs _ HR2.out (by first | exact .inl rfl | exact .inr (.inl rfl) | exact .inr (.inr rfl))).mono ?_
            rintro e w' ⟨rfl, hb⟩
            go_wp2
            go_ret
            exact ⟨ret_bool (by rw [HE.out]; rfl), ((Below.refl w.heap.size w).alloc (Nat.le_refl _) _).trans (hb.mono (by simp))⟩
        · have hq : (t.toList == []) = false := beq_eq_false_iff_ne.mpr fun z => h0 (by
            rw [ByteArray.toList_eq] at z
            rw [← ub_length]
            exact congrArg List.length z)
          rcases hk with rfl | rfl | rfl
          all_goals
            go_enter Try.func24, Try.ntmps24
            go_wp2_with (go_at_call 68; refine (impl_within_calls _ _ _ _).mono ?_; rw [HU.out]; rintro e w' ⟨rfl, rfl⟩)
            go_ret
            exact ⟨ret_bool (by rw [HE.out]; simp [h0]), (Below.refl _ _).alloc (Nat.le_refl _) _⟩
      · have HE := Lib.hid (valOk_kind (k := k) (u := u) (t := t) (xs := xs) (by omega))
        have g1 : (k == 1) = false := beq_eq_false_iff_ne.mpr h1
        have g2 : (k == 2) = false := beq_eq_false_iff_ne.mpr (by omega)
        have g3 : (k == 3) = false := beq_eq_false_iff_ne.mpr (by omega)
        have g4 : (k == 4) = false := beq_eq_false_iff_ne.mpr (by omega)
        clear h1 hk
        go_enter Try.func24, Try.ntmps24
        go_wp2_with (go_at_call 68; refine (impl_within_calls _ _ _ _).mono ?_; rw [HU.out]; rintro e w' ⟨rfl, rfl⟩)
        go_ret
        exact ⟨ret_bool HE.out.symm, (Below.refl _ _).alloc (Nat.le_refl _) _⟩
  · have HU := Lib.hid (inR_false hu)
    have HE := Lib.hid (valOk_late (k := k) (t := t) (xs := xs) hu)
    go_enter Try.func24, Try.ntmps24
    go_wp2_with (go_at_call 68; refine (impl_within_calls _ _ _ _).mono ?_; rw [HU.out]; rintro e w' ⟨rfl, rfl⟩)
    go_ret
    exact ⟨ret_bool HE.out.symm, (Below.refl _ _).alloc (Nat.le_refl _) _⟩
/-- Block g holds a value. -/
def ValAt (w : World) (g : Nat) (k u : Int) (t : ByteArray) (v : Value) : Prop := w.heap[g]? = some (.cells #[.int .i64 k, .int .i64 u, .string t, v] 39 (0, 0))
theorem ValAt.c0 {w : World} {g : Nat} {k u : Int} {t : ByteArray} {v : Value} (h : ValAt w g k u t v) : w.cell? ⟨g, 0, none⟩ = some (.int .i64 k) := by rw [cell_of_row w g 0 _ _ (0, 0) h]; rfl
theorem ValAt.c1 {w : World} {g : Nat} {k u : Int} {t : ByteArray} {v : Value} (h : ValAt w g k u t v) : w.cell? ⟨g, 1, none⟩ = some (.int .i64 u) := by rw [cell_of_row w g 1 _ _ (0, 0) h]; rfl
theorem ValAt.c2 {w : World} {g : Nat} {k u : Int} {t : ByteArray} {v : Value} (h : ValAt w g k u t v) : w.cell? ⟨g, 2, none⟩ = some (.string t) := by rw [cell_of_row w g 2 _ _ (0, 0) h]; rfl
theorem ValAt.c3 {w : World} {g : Nat} {k u : Int} {t : ByteArray} {v : Value} (h : ValAt w g k u t v) : w.cell? ⟨g, 3, none⟩ = some v := by rw [cell_of_row w g 3 _ _ (0, 0) h]; rfl
theorem ValAt.fz {w : World} {g : Nat} {k u : Int} {t : ByteArray} {v : Value} (h : ValAt w g k u t v) (j : Nat) : w.frozen? ⟨g, j, none⟩ = false := by
  simp only [World.frozen?, show w.heap[g]? = _ from h]; simp
theorem ValAt.lt {w : World} {g : Nat} {k u : Int} {t : ByteArray} {v : Value} (h : ValAt w g k u t v) : g < w.heap.size := (Array.getElem?_eq_some_iff.1 h).1
theorem ValAt.below {w w' : World} {g : Nat} {k u : Int} {t : ByteArray} {v : Value} (h : ValAt w g k u t v) (hb : Below w.heap.size w w') : ValAt w' g k u t v := (hb.block g h.lt).trans h
theorem valAt_new (w : World) (k u : Int) (t : ByteArray) (v : Value) : ValAt (w.alloc (.cells #[.int .i64 k, .int .i64 u, .string t, v] 39)) w.heap.size k u t v := heap_alloc_new w _
theorem valOk_bad {k u : Int} {t : ByteArray} {xs : List ByteArray} (hk : k = 2 ∨ k = 3 ∨ k = 4) (h : 0 ≤ u ∧ u ≤ 100000) (hb : (decide (t.size = 0) && itemsB k xs) = false) : valOkB k u t xs = false := by rw [valOk_items h hk]; exact hb
def SvRel (w : World) (k u : Int) (t : ByteArray) (v : Value) (xs : List ByteArray) (i : Nat) (wr : World) : Prop := (∀ j, j < i → badAt k xs j = false) ∧ ValAt wr w.heap.size k u t v ∧ Below w.heap.size w wr
theorem itemsB_cases {k : Int} {xs : List ByteArray} (h1 : ¬ (k = 3 ∧ xs.length % 2 = 1)) (h2 : inR (xs.length : Int) 1 24 = true) : itemsB k xs = true ∨ ∃ i, i < xs.length ∧ badAt k xs i = true := by
  by_cases h : ∃ i, i < xs.length ∧ badAt k xs i = true
  · exact .inr h
  · exact .inl ((itemsB_all h1 fun j hj => Bool.eq_false_iff.2 fun e => h ⟨j, hj, e⟩).trans h2)
set_option maxHeartbeats 4000000 in
set_option maxRecDepth 100000 in
theorem spec_ValOk_calls (k u : Int) (t : ByteArray) (A : Option Addr) (c : Nat) (xs : List ByteArray) (w : World) (h : StrRow w A c xs) (ht : t.size ≤ 9223372036854775807) :
    Calls Try.prog 23 #[vVal k u t (.slice A xs.length c)] w fun e w' => e = .returned (.bool (valOkB k u t xs)) ∧ Below w.heap.size w w' := by
  have hl := h.len
  have HR := Lib.hid h
  clear h
  unfold vVal
  by_cases hk14 : 1 ≤ k ∧ k ≤ 4
  · have HK := Lib.hid (inR_true hk14)
    by_cases hu : 0 ≤ u ∧ u ≤ 100000
    · have HU := Lib.hid (inR_true hu)
      by_cases h1 : k = 1
      · subst h1
        have HE := Lib.hid (valOk_text (t := t) (xs := xs) hu)
        by_cases h60 : t.size ≤ 60
        · by_cases h00 : xs.length = 0
          · have hz : ((xs.length : Int) == 0) = true := by rw [len0]; simp [h00]
            go_enter Try.func23, Try.ntmps23
            go_wp2_with fail
            go_at_call 67
            refine (spec_l01In_calls _ _ _ _).mono ?_
            rw [HK.out]
            rintro e w' ⟨rfl, rfl⟩
            go_wp2_with fail
            go_at_call 67
            refine (spec_l01In_calls _ _ _ _).mono ?_
            rw [HU.out]
            rintro e w' ⟨rfl, rfl⟩
            go_wp2
            go_ret
            exact ⟨ret_bool (by rw [HE.out]; simp [h60, h00]), (Below.refl _ _).alloc (Nat.le_refl _) _⟩
          · have hz : ((xs.length : Int) == 0) = false := by rw [len0]; simp [h00]
            go_enter Try.func23, Try.ntmps23
            go_wp2_with fail
            go_at_call 67
            refine (spec_l01In_calls _ _ _ _).mono ?_
            rw [HK.out]
            rintro e w' ⟨rfl, rfl⟩
            go_wp2_with fail
            go_at_call 67
            refine (spec_l01In_calls _ _ _ _).mono ?_
            rw [HU.out]
            rintro e w' ⟨rfl, rfl⟩
            go_wp2
            go_ret
            exact ⟨ret_bool (by rw [HE.out]; simp [h00]), (Below.refl _ _).alloc (Nat.le_refl _) _⟩
        · go_enter Try.func23, Try.ntmps23
          go_wp2_with fail
          go_at_call 67
          refine (spec_l01In_calls _ _ _ _).mono ?_
          rw [HK.out]
          rintro e w' ⟨rfl, rfl⟩
          go_wp2_with fail
          go_at_call 67
          refine (spec_l01In_calls _ _ _ _).mono ?_
          rw [HU.out]
          rintro e w' ⟨rfl, rfl⟩
          go_wp2
          go_ret
          exact ⟨ret_bool (by rw [HE.out]; simp [h60]), (Below.refl _ _).alloc (Nat.le_refl _) _⟩
      · have hk : k = 2 ∨ k = 3 ∨ k = 4 := by omega
        have HE := Lib.hid (valOk_items (t := t) (xs := xs) hu hk)
        clear h1 hk14
        by_cases h0 : t.size = 0
        · obtain rfl := size0.1 h0
          by_cases hm : 1 ≤ (xs.length : Int) ∧ (xs.length : Int) ≤ 24
          · have HM := Lib.hid (inR_true hm)
            by_cases hodd : k = 3 ∧ xs.length % 2 = 1
            · obtain ⟨rfl, ho⟩ := hodd
              have ho' : ((xs.length : Int) % 2 == 1) = true := beq_iff_eq.mpr (by omega)
              have HF := Lib.hid (itemsB_odd ho)
              clear hk ho
              go_enter Try.func23, Try.ntmps23
              go_wp2_with fail
              go_at_call 67
              refine (spec_l01In_calls _ _ _ _).mono ?_
              rw [HK.out]
              rintro e w' ⟨rfl, rfl⟩
              go_wp2_with fail
              go_at_call 67
              refine (spec_l01In_calls _ _ _ _).mono ?_
              rw [HU.out]
              rintro e w' ⟨rfl, rfl⟩
              go_wp2_with (go_at_call 67; refine (spec_l01In_calls _ _ _ _).mono ?_; rw [HM.out]; rintro e w' ⟨rfl, rfl⟩)
              go_ret
              exact ⟨ret_bool (by rw [HE.out, HF.out]; simp), (Below.refl _ _).alloc (Nat.le_refl _) _⟩
            · have HA : Hid (itemsB k xs = true ∨ ∃ i, i < xs.length ∧ badAt k xs i = true) := itemsB_cases hodd HM.out
              have hodd3 : ¬ k = 3 ∨ ((xs.length : Int) % 2 == 1) = false := by
                by_cases h3 : k = 3
                · exact .inr (beq_eq_false_iff_ne.mpr (by omega))
                · exact .inl h3
              have HO := Lib.hid hodd
              clear hodd
              have hkk : ∃ k' : Int, k' = k := ⟨k, rfl⟩
              rcases hk with rfl | rfl | rfl
              · clear hodd3 hkk
                go_enter Try.func23, Try.ntmps23
                go_wp2_with fail
                go_at_call 67
                refine (spec_l01In_calls _ _ _ _).mono ?_
                rw [HK.out]
                rintro e w' ⟨rfl, rfl⟩
                go_wp2_with fail
                go_at_call 67
                refine (spec_l01In_calls _ _ _ _).mono ?_
                rw [HU.out]
                rintro e w' ⟨rfl, rfl⟩
                go_wp2_with (go_at_call 67; refine (spec_l01In_calls _ _ _ _).mono ?_; rw [HM.out]; rintro e w' ⟨rfl, rfl⟩)
                go_loopw [3] (fun iv wr => ∃ i : Nat, i ≤ xs.length ∧ iv = .int .i64 (i : Int) ∧ SvRel w 2 u ⟨#[]⟩ (.slice A xs.length c) xs i wr) (fun iv _ => xs.length - (intOf iv).toNat)
                case atStart => exact ⟨0, Nat.zero_le _, rfl, fun j hj => by omega, valAt_new _ _ _ _ _, (Below.refl _ _).alloc (Nat.le_refl _) _⟩
                case round =>
                  obtain ⟨i, hi, rfl, hrel, hva, hbel⟩ := hrel
                  have c0 := hva.c0
                  have c3 := hva.c3
                  have HT := Lib.hid hrel
                  have HV := Lib.hid hva
                  have HB := Lib.hid hbel
                  clear hrel hva
                  by_cases hlt : i < xs.length
                  · obtain ⟨ad, x, hA, hc, hz, HX⟩ := (HR.out.below hbel).at_ hlt
                    by_cases h60 : 60 < x.size
                    · have HF := Lib.hid (itemsB_bad hlt (badAt_long (k := 2) HX.out h60))
                      clear hbel
                      cases hA
                      go_wp2
                      go_ret
                      exact ⟨ret_bool (by rw [HE.out, HF.out]; simp), HB.out⟩
                    · have HF := Lib.hid (badAt_list HX.out h60)
                      clear hbel
                      cases hA
                      go_wp2
                      go_quiet (fail)
                      go_wp2
                      go_roundw
                      case rel => exact ⟨i + 1, by omega, by go_num, all_step HT.out HF.out, HV.out.below (blwN (Below.refl _ _) _), blwN HB.out _⟩
                      case measure => simp [intOf]; omega
                  · obtain rfl : i = xs.length := by omega
                    have HF := Lib.hid ((itemsB_all (k := 2) (by first | omega | simpa using HO.out) HT.out).trans HM.out)
                    clear hbel
                    go_wp2
                    go_ret
                    exact ⟨ret_bool (by rw [HE.out, HF.out]; rfl), HB.out⟩
              · have hev : ((xs.length : Int) % 2 == 1) = false := by (rcases hodd3 with e | e; exact (e rfl).elim; exact e)
                clear hodd3 hkk
                go_enter Try.func23, Try.ntmps23
                go_wp2_with fail
                go_at_call 67
                refine (spec_l01In_calls _ _ _ _).mono ?_
                rw [HK.out]
                rintro e w' ⟨rfl, rfl⟩
                go_wp2_with fail
                go_at_call 67
                refine (spec_l01In_calls _ _ _ _).mono ?_
                rw [HU.out]
                rintro e w' ⟨rfl, rfl⟩
                go_wp2_with (go_at_call 67; refine (spec_l01In_calls _ _ _ _).mono ?_; rw [HM.out]; rintro e w' ⟨rfl, rfl⟩)
                go_loopw [3] (fun iv wr => ∃ i : Nat, i ≤ xs.length ∧ iv = .int .i64 (i : Int) ∧ SvRel w 3 u ⟨#[]⟩ (.slice A xs.length c) xs i wr) (fun iv _ => xs.length - (intOf iv).toNat)
                case atStart => exact ⟨0, Nat.zero_le _, rfl, fun j hj => by omega, valAt_new _ _ _ _ _, (Below.refl _ _).alloc (Nat.le_refl _) _⟩
                case round =>
                  obtain ⟨i, hi, rfl, hrel, hva, hbel⟩ := hrel
                  have c0 := hva.c0
                  have c3 := hva.c3
                  have HT := Lib.hid hrel
                  have HV := Lib.hid hva
                  have HB := Lib.hid hbel
                  clear hrel hva
                  by_cases hlt : i < xs.length
                  · obtain ⟨ad, x, hA, hc, hz, HX⟩ := (HR.out.below hbel).at_ hlt
                    by_cases h60 : 60 < x.size
                    · have HF := Lib.hid (itemsB_bad hlt (badAt_long (k := 3) HX.out h60))
                      clear hbel
                      cases hA
                      go_wp2
                      go_ret
                      exact ⟨ret_bool (by rw [HE.out, HF.out]; simp), HB.out⟩
                    · by_cases h2 : 1 < i ∧ i % 2 = 0
                      · obtain ⟨j, hj⟩ : ∃ j, i = j + 2 := ⟨i - 2, by omega⟩
                        obtain ⟨ad2, y, hA2, hc2, hz2, HY⟩ := (HR.out.below hbel).at_ (k := j) (by omega)
                        clear hbel
                        cases hA
                        cases hA2
                        have HQ : Hid (badAt 3 xs i = !sless y x) := by (have HX1 := HX.out; rw [hj] at HX1 ⊢; exact badAt_fld2 HX1 HY.out h60 (by omega))
                        have ht : ((i : Int) - 2).toNat = j := by omega
                        have hw : IntKind.i64.wrap ((i : Int) - 2) = (i : Int) - 2 := by rw [IntKind.wrap_i64]; omega
                        have hb0 : (0 : Int) ≤ (i : Int) - 2 := by omega
                        have hb1 : (i : Int) - 2 < (xs.length : Int) := by omega
                        have hb2 : (0 : Int) ≤ (i : Int) := by omega
                        have hb3 : (i : Int) < (xs.length : Int) := by omega
                        have g0 : decide ((1 : Int) < (i : Int)) = true := decide_eq_true (by omega)
                        have g1 : ((i : Int) % 2 == 0) = true := beq_iff_eq.mpr (by omega)
                        clear hj
                        cases hs : sless y x
                        · have HF := Lib.hid (itemsB_bad hlt (by rw [HQ.out, hs]; rfl))
                          unfold sless at hs
                          go_wp2
                          go_quiet (fail)
                          go_wp2
                          go_ret
                          exact ⟨ret_bool (by rw [HE.out, HF.out]; simp), blwN HB.out _⟩
                        · have HF : Hid (badAt 3 xs i = false) := by rw [Hid, HQ.out, hs]; rfl
                          unfold sless at hs
                          go_wp2
                          go_quiet (fail)
                          go_wp2
                          go_roundw
                          case rel => exact ⟨i + 1, by omega, by go_num, all_step HT.out HF.out, HV.out.below (blwN (Below.refl _ _) _), blwN HB.out _⟩
                          case measure => simp [intOf]; omega
                      · have HF := Lib.hid (badAt_fld HX.out h60 h2)
                        clear hbel
                        cases hA
                        by_cases hp : 1 < i
                        · have g0 : decide ((1 : Int) < (i : Int)) = true := decide_eq_true (by omega)
                          have g1 : ((i : Int) % 2 == 0) = false := beq_eq_false_iff_ne.mpr (by omega)
                          go_wp2
                          go_quiet (fail)
                          go_wp2
                          go_roundw
                          case rel => exact ⟨i + 1, by omega, by go_num, all_step HT.out HF.out, HV.out.below (blwN (Below.refl _ _) _), blwN HB.out _⟩
                          case measure => simp [intOf]; omega
                        · have g0 : decide ((1 : Int) < (i : Int)) = false := decide_eq_false (by omega)
                          go_wp2
                          go_quiet (fail)
                          go_wp2
                          go_roundw
                          case rel => exact ⟨i + 1, by omega, by go_num, all_step HT.out HF.out, HV.out.below (blwN (Below.refl _ _) _), blwN HB.out _⟩
                          case measure => simp [intOf]; omega
                  · obtain rfl : i = xs.length := by omega
                    have HF := Lib.hid ((itemsB_all (k := 3) (by first | omega | simpa using HO.out) HT.out).trans HM.out)
                    clear hbel
                    go_wp2
                    go_ret
                    exact ⟨ret_bool (by rw [HE.out, HF.out]; rfl), HB.out⟩
              · clear hodd3 hkk
                go_enter Try.func23, Try.ntmps23
                go_wp2_with fail
                go_at_call 67
                refine (spec_l01In_calls _ _ _ _).mono ?_
                rw [HK.out]
                rintro e w' ⟨rfl, rfl⟩
                go_wp2_with fail
                go_at_call 67
                refine (spec_l01In_calls _ _ _ _).mono ?_
                rw [HU.out]
                rintro e w' ⟨rfl, rfl⟩
                go_wp2_with (go_at_call 67; refine (spec_l01In_calls _ _ _ _).mono ?_; rw [HM.out]; rintro e w' ⟨rfl, rfl⟩)
                go_loopw [3] (fun iv wr => ∃ i : Nat, i ≤ xs.length ∧ iv = .int .i64 (i : Int) ∧ SvRel w 4 u ⟨#[]⟩ (.slice A xs.length c) xs i wr) (fun iv _ => xs.length - (intOf iv).toNat)
                case atStart => exact ⟨0, Nat.zero_le _, rfl, fun j hj => by omega, valAt_new _ _ _ _ _, (Below.refl _ _).alloc (Nat.le_refl _) _⟩
                case round =>
                  obtain ⟨i, hi, rfl, hrel, hva, hbel⟩ := hrel
                  have c0 := hva.c0
                  have c3 := hva.c3
                  have HT := Lib.hid hrel
                  have HV := Lib.hid hva
                  have HB := Lib.hid hbel
                  clear hrel hva
                  by_cases hlt : i < xs.length
                  · obtain ⟨ad, x, hA, hc, hz, HX⟩ := (HR.out.below hbel).at_ hlt
                    by_cases h60 : 60 < x.size
                    · have HF := Lib.hid (itemsB_bad hlt (badAt_long (k := 4) HX.out h60))
                      clear hbel
                      cases hA
                      go_wp2
                      go_ret
                      exact ⟨ret_bool (by rw [HE.out, HF.out]; simp), HB.out⟩
                    · by_cases h2 : 0 < i
                      · obtain ⟨j, hj⟩ : ∃ j, i = j + 1 := ⟨i - 1, by omega⟩
                        obtain ⟨ad2, y, hA2, hc2, hz2, HY⟩ := (HR.out.below hbel).at_ (k := j) (by omega)
                        clear hbel
                        cases hA
                        cases hA2
                        have HQ : Hid (badAt 4 xs i = !sless y x) := by (have HX1 := HX.out; rw [hj] at HX1 ⊢; exact badAt_set HX1 HY.out h60)
                        have ht : ((i : Int) - 1).toNat = j := by omega
                        have hw : IntKind.i64.wrap ((i : Int) - 1) = (i : Int) - 1 := by rw [IntKind.wrap_i64]; omega
                        have hb0 : (0 : Int) ≤ (i : Int) - 1 := by omega
                        have hb1 : (i : Int) - 1 < (xs.length : Int) := by omega
                        have hb2 : (0 : Int) ≤ (i : Int) := by omega
                        have hb3 : (i : Int) < (xs.length : Int) := by omega
                        have g0 : decide ((0 : Int) < (i : Int)) = true := decide_eq_true (by omega)
                        clear hj
                        cases hs : sless y x
                        · have HF := Lib.hid (itemsB_bad hlt (by rw [HQ.out, hs]; rfl))
                          unfold sless at hs
                          go_wp2
                          go_quiet (fail)
                          go_wp2
                          go_ret
                          exact ⟨ret_bool (by rw [HE.out, HF.out]; simp), blwN HB.out _⟩
                        · have HF : Hid (badAt 4 xs i = false) := by rw [Hid, HQ.out, hs]; rfl
                          unfold sless at hs
                          go_wp2
                          go_quiet (fail)
                          go_wp2
                          go_roundw
                          case rel => exact ⟨i + 1, by omega, by go_num, all_step HT.out HF.out, HV.out.below (blwN (Below.refl _ _) _), blwN HB.out _⟩
                          case measure => simp [intOf]; omega
                      · obtain rfl : i = 0 := by omega
                        have HF := Lib.hid (badAt_set0 HX.out h60)
                        clear hbel
                        cases hA
                        have hc0 : wr.cell? ad = some (.string x) := hc
                        go_wp2
                        go_quiet (fail)
                        go_wp2
                        go_roundw
                        case rel => exact ⟨1, by omega, by go_num, all_step HT.out HF.out, HV.out.below (blwN (Below.refl _ _) _), blwN HB.out _⟩
                        case measure => simp [intOf]; omega
                  · obtain rfl : i = xs.length := by omega
                    have HF := Lib.hid ((itemsB_all (k := 4) (by first | omega | simpa using HO.out) HT.out).trans HM.out)
                    clear hbel
                    go_wp2
                    go_ret
                    exact ⟨ret_bool (by rw [HE.out, HF.out]; rfl), HB.out⟩
          · have HM := Lib.hid (inR_false hm)
            have HF := Lib.hid (itemsB_many (k := k) HM.out)
            rcases hk with rfl | rfl | rfl
            all_goals
              go_enter Try.func23, Try.ntmps23
              go_wp2_with fail
              go_at_call 67
              refine (spec_l01In_calls _ _ _ _).mono ?_
              rw [HK.out]
              rintro e w' ⟨rfl, rfl⟩
              go_wp2_with fail
              go_at_call 67
              refine (spec_l01In_calls _ _ _ _).mono ?_
              rw [HU.out]
              rintro e w' ⟨rfl, rfl⟩
              go_wp2_with (go_at_call 67; refine (spec_l01In_calls _ _ _ _).mono ?_; rw [HM.out]; rintro e w' ⟨rfl, rfl⟩)
              go_ret
              exact ⟨ret_bool (by rw [HE.out, HF.out]; simp), (Below.refl _ _).alloc (Nat.le_refl _) _⟩
        · have hq : (t.toList == []) = false := beq_eq_false_iff_ne.mpr fun z => h0 (by
            rw [ByteArray.toList_eq] at z
            rw [← ub_length]
            exact congrArg List.length z)
          rcases hk with rfl | rfl | rfl
          all_goals
            go_enter Try.func23, Try.ntmps23
            go_wp2_with fail
            go_at_call 67
            refine (spec_l01In_calls _ _ _ _).mono ?_
            rw [HK.out]
            rintro e w' ⟨rfl, rfl⟩
            go_wp2_with fail
            go_at_call 67
            refine (spec_l01In_calls _ _ _ _).mono ?_
            rw [HU.out]
            rintro e w' ⟨rfl, rfl⟩
            go_wp2
            go_ret
            exact ⟨ret_bool (by rw [HE.out]; simp [h0]), (Below.refl _ _).alloc (Nat.le_refl _) _⟩
    · have HU := Lib.hid (inR_false hu)
      have HE := Lib.hid (valOk_late (k := k) (t := t) (xs := xs) hu)
      go_enter Try.func23, Try.ntmps23
      go_wp2_with fail
      go_at_call 67
      refine (spec_l01In_calls _ _ _ _).mono ?_
      rw [HK.out]
      rintro e w' ⟨rfl, rfl⟩
      go_wp2_with fail
      go_at_call 67
      refine (spec_l01In_calls _ _ _ _).mono ?_
      rw [HU.out]
      rintro e w' ⟨rfl, rfl⟩
      go_wp2
      go_ret
      exact ⟨ret_bool HE.out.symm, (Below.refl _ _).alloc (Nat.le_refl _) _⟩
  · have HK := Lib.hid (inR_false hk14)
    have HE := Lib.hid (valOk_kind (k := k) (u := u) (t := t) (xs := xs) hk14)
    go_enter Try.func23, Try.ntmps23
    go_wp2_with fail
    go_at_call 67
    refine (spec_l01In_calls _ _ _ _).mono ?_
    rw [HK.out]
    rintro e w' ⟨rfl, rfl⟩
    go_wp2
    go_ret
    exact ⟨ret_bool HE.out.symm, (Below.refl _ _).alloc (Nat.le_refl _) _⟩
end Go.Proofs.Ytekhfplbhcfdmaa
