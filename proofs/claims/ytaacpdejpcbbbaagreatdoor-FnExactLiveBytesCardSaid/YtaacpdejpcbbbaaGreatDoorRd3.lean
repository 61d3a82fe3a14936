/- The reader's text, byte and done; the cursor's Take and ReadShort. By wip/tools/genrd3.py. -/
import Derived.Test.YtaacpdejpcbbbaaGreatDoorRd2
namespace Go.Proofs.YtaacpdejpcbbbaaGreatDoor
set_option linter.unusedVariables false
set_option linter.unusedSimpArgs false
open Go.RowKit
attribute [local go_sem] bs_size List.length_cons List.length_nil List.length_append
/-- What a method that hands back a text leaves. -/
def TxtPost (ty : TypeId) (w : World) (g : Nat) (s : ByteArray) (r : List UInt8 × Nat × Bool) (e : Ending) (w' : World) : Prop := e = .returned (.string (bs r.1)) ∧ RdAt ty w' g s r.2.1 r.2.2 ∧ w.grownBy w' (some g)
theorem txtPost_of {ty : TypeId} {w w' : World} {g : Nat} {s : ByteArray} {r r' : List UInt8 × Nat × Bool} (hr : r = r') {e : Ending} (he : e = .returned (.string (bs r'.1))) (h1 : RdAt ty w' g s r'.2.1 r'.2.2) (h2 : w.grownBy w' (some g)) : TxtPost ty w g s r e w' := by
  subst hr
  exact ⟨he, h1, h2⟩
theorem grown_below {w wr w' : World} {row : Option Nat} (h : w.grownBy wr row) (hb : Below wr.heap.size wr w') : w.grownBy w' row :=
  ⟨hb.os.trans h.os, hb.tape.trans h.tape, hb.output.trans h.output, Nat.le_trans h.size hb.size, fun i hi hne => (hb.block i (Nat.lt_of_lt_of_le hi h.size)).trans (h.block i hi hne)⟩
def rText (s : ByteArray) (a : Nat) (bad : Bool) : List UInt8 × Nat × Bool := match bad, readShort (tail_ s a) with
  | false, some (t, m) => (t, a + m, false)
  | _, _ => ([], a, true)
theorem rText_no (s : ByteArray) (a : Nat) {bad : Bool} (h : bad = true ∨ readShort (tail_ s a) = none) : rText s a bad = ([], a, true) := by
  unfold rText
  rcases h with h | h
  · rw [h]
  · rw [h]; cases bad <;> rfl
theorem rText_yes {s : ByteArray} {a m : Nat} {x : List UInt8} (h : readShort (tail_ s a) = some (x, m)) : rText s a false = (x, a + m, false) := by
  unfold rText
  rw [h]
set_option maxRecDepth 100000 in
theorem impl_text_calls (g : Nat) (s : ByteArray) (a : Nat) (bad : Bool) (w : World) (h : RdAt 160 w g s a bad) (ha : a ≤ s.size) (hs : s.size ≤ 1125899906842624) :
    Calls Tryz.prog 139 #[.pointer (some ⟨g, 0, none⟩)] w (TxtPost 160 w g s (rText s a bad)) := by
  have HR := Lib.hid h
  have c0 := h.c0
  have c1 := h.c1
  have HB0 : Hid (Below w.heap.size w w.drew) := Below.drew (Below.refl _ _)
  clear h
  cases bad <;> cases hv : readShort (tail_ s a)
  rotate_left
  · rename_i pk
    obtain ⟨n, k⟩ := pk
    have HV := Lib.hid hv
    clear hv
    go_enter Tryz.func139, Tryz.ntmps139
    go_wp2
    go_region_held3 (fun w' => w'.cell? ⟨g, 0, none⟩ = some (.string s) ∧ w'.cell? ⟨g, 1, none⟩ = some (.int .i64 (a : Int)) ∧ Hid (Below w.heap.size w w')) (first | exact held_impl HR.out HB0.out | exact held_impl HR.out (HB0.out.trans (hb.mono HB0.out.size))) (first | (go_at_call 172; refine (impl_ReadShort_calls s a _ ha hs).mono ?_; rw [HV.out]; rintro e w' ⟨rfl, hb⟩; simp only [rsRes]))
    have HK := And.right (And.right ‹_ ∧ _ ∧ Hid (Below w.heap.size w _)›)
    have HW := Lib.hid (HR.out.below HK.out)
    have d2 := HW.out.c2
    have f2 := HW.out.fz 2
    have f1 := HW.out.fz 1
    go_wp2
    go_ret
    exact txtPost_of (rText_yes HV.out) rfl (HW.out.set1 _ (a + k) (by omega)) (grown_set (grown_of_below HK.out) 1 _)
  all_goals
    have HV := Lib.hid hv
    clear hv
    go_enter Tryz.func139, Tryz.ntmps139
    go_wp2
    go_region_held3 (fun w' => w'.cell? ⟨g, 0, none⟩ = some (.string s) ∧ w'.cell? ⟨g, 1, none⟩ = some (.int .i64 (a : Int)) ∧ Hid (Below w.heap.size w w')) (first | exact held_impl HR.out HB0.out | exact held_impl HR.out (HB0.out.trans (hb.mono HB0.out.size))) (first | (go_at_call 172; refine (impl_ReadShort_calls s a _ ha hs).mono ?_; rw [HV.out]; rintro e w' ⟨rfl, hb⟩; simp only [rsRes]))
    have HK := And.right (And.right ‹_ ∧ _ ∧ Hid (Below w.heap.size w _)›)
    have HW := Lib.hid (HR.out.below HK.out)
    have d2 := HW.out.c2
    have f2 := HW.out.fz 2
    have f1 := HW.out.fz 1
    go_wp2
    go_ret
    exact txtPost_of (rText_no _ _ (by first | exact .inl rfl | exact .inr HV.out)) rfl (HW.out.set2 true) (grown_set (grown_of_below HK.out) 2 _)
def rByte (s : ByteArray) (a : Nat) (bad : Bool) : Nat × Nat × Bool := if bad = false ∧ a < s.size then (((ub s).getD a 0).toNat, a + 1, false) else (0, a, true)
theorem rByte_no {s : ByteArray} {a : Nat} {bad : Bool} (h : ¬ (bad = false ∧ a < s.size)) : rByte s a bad = (0, a, true) := if_neg h
theorem rByte_yes {s : ByteArray} {a d : Nat} (h : a < s.size) (hc : (ub s)[a]? = some (UInt8.ofNat d)) (hd : (UInt8.ofNat d).toNat = d) : rByte s a false = (d, a + 1, false) := by
  have e : ((ub s).getD a 0).toNat = d := by rw [List.getD_eq_getElem?_getD, hc]; exact hd
  unfold rByte
  rw [if_pos ⟨rfl, h⟩, e]
theorem ub_byte' {s : ByteArray} {i : Nat} (h : i < s.size) : ∃ d : Nat, d < 256 ∧ s[i].toNat = d ∧ (ub s)[i]? = some (UInt8.ofNat d) ∧ (UInt8.ofNat d).toNat = d := by
  obtain ⟨d, h1, h2, h3, h4⟩ := tail_byte (s := s) (a := 0) (i := i) (by omega)
  refine ⟨d, h1, ?_, by simpa [tail_] using h3, h4⟩
  simpa using h2
set_option maxRecDepth 100000 in
theorem impl_byte_calls (g : Nat) (s : ByteArray) (a : Nat) (bad : Bool) (w : World) (h : RdAt 160 w g s a bad) (ha : a ≤ s.size) (hs : s.size ≤ 1125899906842624) :
    Calls Tryz.prog 126 #[.pointer (some ⟨g, 0, none⟩)] w (RdPost 160 w g s (.int .i64 ((rByte s a bad).1 : Int)) (rByte s a bad).2.1 (rByte s a bad).2.2) := by
  have HR := Lib.hid h
  have c0 := h.c0
  have c1 := h.c1
  have c2 := h.c2
  have f2 := h.fz 2
  have f1 := h.fz 1
  have HB0 : Hid (Below w.heap.size w w) := Below.refl _ _
  clear h
  cases bad
  · by_cases hlt : a < s.size
    · have hg : decide ((s.size : Int) ≤ (a : Int)) = false := decide_eq_false (by omega)
      obtain ⟨d, hd, hsd, hc, hcd⟩ := ub_byte' hlt
      have HY := Lib.hid (rByte_yes hlt hc hcd)
      clear hc hcd
      go_enter Tryz.func126, Tryz.ntmps126
      go_wp2
      go_quiet (fail)
      go_wp2
      have hw1 : IntKind.i64.wrap ((a : Int) + 1 - 1) = (a : Int) := by rw [IntKind.wrap_i64]; omega
      have hi0 : (0 : Int) ≤ (a : Int) := by omega
      have hi1 : (a : Int) < (s.size : Int) := by omega
      go_quiet (fail)
      go_wp2
      go_ret
      exact rdPost_of HY.out rfl (((HR.out.below (blwN HB0.out _)).set1 _ (a + 1) (by omega)).below (blwN (Below.refl _ _) _)) (grown_below (grown_set (grown_of_below (blwN HB0.out _)) 1 _) (blwN (Below.refl _ _) _))
    · have hg : decide ((s.size : Int) ≤ (a : Int)) = true := decide_eq_true (by omega)
      go_enter Tryz.func126, Tryz.ntmps126
      go_wp2
      go_quiet (fail)
      go_wp2
      go_ret
      exact rdPost_of (rByte_no (by omega)) rfl ((HR.out.below (blwN HB0.out _)).set2 true) (grown_set (grown_of_below (blwN HB0.out _)) 2 _)
  · go_enter Tryz.func126, Tryz.ntmps126
    go_wp2
    go_quiet (fail)
    go_wp2
    go_ret
    exact rdPost_of (rByte_no (by simp)) rfl ((HR.out.below (blwN HB0.out _)).set2 true) (grown_set (grown_of_below (blwN HB0.out _)) 2 _)
def rDone (s : ByteArray) (a : Nat) (bad : Bool) : Bool := !bad && decide (a = s.size)
set_option maxRecDepth 100000 in
theorem impl_done_calls (g : Nat) (s : ByteArray) (a : Nat) (bad : Bool) (w : World) (h : RdAt 160 w g s a bad) (ha : a ≤ s.size) (hs : s.size ≤ 1125899906842624) :
    Calls Tryz.prog 129 #[.pointer (some ⟨g, 0, none⟩)] w fun e w' => e = .returned (.bool (rDone s a bad)) ∧ Below w.heap.size w w' := by
  have c0 := h.c0
  have c1 := h.c1
  have c2 := h.c2
  have HB0 : Hid (Below w.heap.size w w) := Below.refl _ _
  clear h
  cases bad
  · by_cases he : a = s.size
    · have hg : ((a : Int) == (s.size : Int)) = true := beq_iff_eq.mpr (by omega)
      have HE : Hid (rDone s a false = true) := by simp [Hid, rDone, he]
      clear he
      go_enter Tryz.func129, Tryz.ntmps129
      go_wp2
      go_quiet (fail)
      go_wp2
      go_ret
      exact ⟨ret_bool HE.out.symm, blwN HB0.out _⟩
    · have hg : ((a : Int) == (s.size : Int)) = false := beq_eq_false_iff_ne.mpr (by omega)
      have HE : Hid (rDone s a false = false) := by simp [Hid, rDone, he]
      clear he
      go_enter Tryz.func129, Tryz.ntmps129
      go_wp2
      go_quiet (fail)
      go_wp2
      go_ret
      exact ⟨ret_bool HE.out.symm, blwN HB0.out _⟩
  · go_enter Tryz.func129, Tryz.ntmps129
    go_wp2
    go_quiet (fail)
    go_wp2
    go_ret
    exact ⟨rfl, blwN HB0.out _⟩
def cTake (s : ByteArray) (a : Nat) (bad : Bool) (n : Nat) : List UInt8 × Nat × Bool := if bad = false ∧ n ≤ s.size - a then ((tail_ s a).take n, a + n, false) else ([], a, true)
set_option maxRecDepth 100000 in
theorem spec_Take_calls (g : Nat) (s : ByteArray) (a : Nat) (bad : Bool) (n : Nat) (w : World) (h : RdAt 145 w g s a bad) (ha : a ≤ s.size) (hs : s.size ≤ 1125899906842624) (hn : n ≤ 1125899906842624) :
    Calls Tryz.prog 115 #[.pointer (some ⟨g, 0, none⟩), .int .i64 (n : Int)] w (TxtPost 145 w g s (cTake s a bad n)) := by
  have HR := Lib.hid h
  have c0 := h.c0
  have c1 := h.c1
  have c2 := h.c2
  have f2 := h.fz 2
  have f1 := h.fz 1
  have HB0 : Hid (Below w.heap.size w w) := Below.refl _ _
  have hw0 : IntKind.i64.wrap ((s.size : Int) - (a : Int)) = (s.size : Int) - (a : Int) := by rw [IntKind.wrap_i64]; omega
  clear h
  cases bad
  · by_cases hlt : n ≤ s.size - a
    · have hg : decide ((s.size : Int) - (a : Int) < (n : Int)) = false := decide_eq_false (by omega)
      have HY : Hid (cTake s a false n = ((tail_ s a).take n, a + n, false)) := if_pos ⟨rfl, hlt⟩
      have hw1 : IntKind.i64.wrap ((a : Int) + (n : Int) - (n : Int)) = (a : Int) := by rw [IntKind.wrap_i64]; omega
      have hsl : s.extract a ((a : Int) + (n : Int)).toNat = bs ((tail_ s a).take n) := by rw [show ((a : Int) + (n : Int)).toNat = a + n by omega, extract_tail]
      have hi0 : (0 : Int) ≤ (a : Int) := by omega
      have hi1 : (a : Int) ≤ (a : Int) + (n : Int) := by omega
      have hi2 : (a : Int) + (n : Int) ≤ (s.size : Int) := by omega
      have hi3 : (0 : Int) ≤ (a : Int) + (n : Int) := by omega
      go_enter Tryz.func115, Tryz.ntmps115
      go_wp2
      go_quiet (fail)
      go_wp2
      go_quiet (fail)
      go_wp2
      go_ret
      exact txtPost_of HY.out rfl (((HR.out.below (blwN HB0.out _)).set1 _ (a + n) (by omega)).below (blwN (Below.refl _ _) _)) (grown_below (grown_set (grown_of_below (blwN HB0.out _)) 1 _) (blwN (Below.refl _ _) _))
    · have hg : decide ((s.size : Int) - (a : Int) < (n : Int)) = true := decide_eq_true (by omega)
      have HY : Hid (cTake s a false n = ([], a, true)) := if_neg (by omega)
      go_enter Tryz.func115, Tryz.ntmps115
      go_wp2
      go_quiet (fail)
      go_wp2
      go_ret
      exact txtPost_of HY.out rfl ((HR.out.below (blwN HB0.out _)).set2 true) (grown_set (grown_of_below (blwN HB0.out _)) 2 _)
  · have HY : Hid (cTake s a true n = ([], a, true)) := if_neg (by simp)
    go_enter Tryz.func115, Tryz.ntmps115
    go_wp2
    go_quiet (fail)
    go_wp2
    go_ret
    exact txtPost_of HY.out rfl ((HR.out.below (blwN HB0.out _)).set2 true) (grown_set (grown_of_below (blwN HB0.out _)) 2 _)
def cShort (s : ByteArray) (a : Nat) (bad : Bool) : List UInt8 × Nat × Bool := cTake s (rNum s a bad).2.1 (rNum s a bad).2.2 (rNum s a bad).1
theorem rNum_le (s : ByteArray) (a : Nat) (bad : Bool) (ha : a ≤ s.size) : (rNum s a bad).1 ≤ 1000000000 ∧ (rNum s a bad).2.1 ≤ s.size ∧ a ≤ (rNum s a bad).2.1 := by
  by_cases h : bad = true ∨ readVar (tail_ s a) = none
  · rw [rNum_no s a h]
    exact ⟨by omega, ha, Nat.le_refl _⟩
  · have hb : bad = false := by cases bad <;> simp_all
    subst hb
    cases hv : readVar (tail_ s a) with
    | none => exact (h (.inr hv)).elim
    | some pk =>
      obtain ⟨n, k⟩ := pk
      obtain ⟨h1, h2, h3⟩ := readVar_bound hv
      rw [rNum_yes hv]
      show n ≤ 1000000000 ∧ a + k ≤ s.size ∧ a ≤ a + k
      exact ⟨h1, by omega, by omega⟩
set_option maxRecDepth 100000 in
theorem spec_Short_calls (g : Nat) (s : ByteArray) (a : Nat) (bad : Bool) (w : World) (h : RdAt 145 w g s a bad) (ha : a ≤ s.size) (hs : s.size ≤ 1125899906842624) :
    Calls Tryz.prog 117 #[.pointer (some ⟨g, 0, none⟩)] w (TxtPost 145 w g s (cShort s a bad)) := by
  obtain ⟨hn, ha1, _⟩ := rNum_le s a bad ha
  have HR := Lib.hid h
  clear h
  go_enter Tryz.func117, Tryz.ntmps117
  go_wp2_with fail
  go_at_call 116
  refine (spec_num_calls g s a bad _ HR.out ha hs).mono ?_
  rintro e w1 ⟨rfl, hr, hg⟩
  have H1 := Lib.hid hr
  have HG := Lib.hid hg
  clear hr hg
  go_wp2_with fail
  go_at_call 115
  refine (spec_Take_calls g s _ _ _ _ H1.out ha1 hs (by omega)).mono ?_
  rintro e w2 ⟨rfl, hr, hg⟩
  have H2 := Lib.hid hr
  have HG2 := Lib.hid hg
  clear hr hg
  go_wp2
  go_ret
  exact ⟨rfl, H2.out, HG.out.trans HG2.out⟩
end Go.Proofs.YtaacpdejpcbbbaaGreatDoor
