/- The program's reader (impl.reader) and the reference's cursor (spec.l05Cur): what each method does to the reader's block and hands back. -/
import Derived.Test.YtaacpdejpcbbbaaGreatDoorVar
import Derived.Test.YtaacpdejpcbbbaaGreatDoorStrs
import Derived.Deep.RegionHeld3
namespace Go.Proofs.YtaacpdejpcbbbaaGreatDoor
set_option linter.unusedVariables false
set_option linter.unusedSimpArgs false
open Go.RowKit
attribute [local go_sem] bs_size List.length_cons List.length_nil List.length_append

/-- Block g holds a reader (or cursor, by the type): its text, its place, its mark. -/
def RdAt (ty : TypeId) (w : World) (g : Nat) (s : ByteArray) (a : Nat) (bad : Bool) : Prop := w.heap[g]? = some (.cells #[.string s, .int .i64 (a : Int), .bool bad] ty (0, 0))
theorem RdAt.c0 {ty : TypeId} {w : World} {g : Nat} {s : ByteArray} {a : Nat} {bad : Bool} (h : RdAt ty w g s a bad) : w.cell? ⟨g, 0, none⟩ = some (.string s) := by
  rw [cell_of_row w g 0 _ ty (0, 0) h]; rfl
theorem RdAt.c1 {ty : TypeId} {w : World} {g : Nat} {s : ByteArray} {a : Nat} {bad : Bool} (h : RdAt ty w g s a bad) : w.cell? ⟨g, 1, none⟩ = some (.int .i64 (a : Int)) := by
  rw [cell_of_row w g 1 _ ty (0, 0) h]; rfl
theorem RdAt.c2 {ty : TypeId} {w : World} {g : Nat} {s : ByteArray} {a : Nat} {bad : Bool} (h : RdAt ty w g s a bad) : w.cell? ⟨g, 2, none⟩ = some (.bool bad) := by
  rw [cell_of_row w g 2 _ ty (0, 0) h]; rfl
theorem RdAt.fz {ty : TypeId} {w : World} {g : Nat} {s : ByteArray} {a : Nat} {bad : Bool} (h : RdAt ty w g s a bad) (j : Nat) : w.frozen? ⟨g, j, none⟩ = false := by
  simp only [World.frozen?, show w.heap[g]? = _ from h]; simp
theorem RdAt.lt {ty : TypeId} {w : World} {g : Nat} {s : ByteArray} {a : Nat} {bad : Bool} (h : RdAt ty w g s a bad) : g < w.heap.size := (Array.getElem?_eq_some_iff.1 h).1
theorem RdAt.below {ty : TypeId} {w w' : World} {g : Nat} {s : ByteArray} {a : Nat} {bad : Bool} (h : RdAt ty w g s a bad) (hb : Below w.heap.size w w') : RdAt ty w' g s a bad := (hb.block g h.lt).trans h
theorem RdAt.set2 {ty : TypeId} {w : World} {g : Nat} {s : ByteArray} {a : Nat} {bad : Bool} (h : RdAt ty w g s a bad) (v : Bool) : RdAt ty (w.setCell ⟨g, 2, none⟩ (.bool v)) g s a v := by
  unfold RdAt at h ⊢
  rw [blk_set h]; rfl
theorem RdAt.set1 {ty : TypeId} {w : World} {g : Nat} {s : ByteArray} {a : Nat} {bad : Bool} (h : RdAt ty w g s a bad) (v : Int) (n : Nat) (hv : v = (n : Int)) : RdAt ty (w.setCell ⟨g, 1, none⟩ (.int .i64 v)) g s n bad := by
  subst hv
  unfold RdAt at h ⊢
  rw [blk_set h]; rfl
theorem grown_of_below {w w' : World} {r : Option Nat} (hb : Below w.heap.size w w') : w.grownBy w' r := ⟨hb.os, hb.tape, hb.output, hb.size, fun k hk _ => hb.block k hk⟩
theorem grown_set {w wr : World} {b : Nat} (h : w.grownBy wr (some b)) (j : Nat) (v : Value) : w.grownBy (wr.setCell ⟨b, j, none⟩ v) (some b) :=
  ⟨h.os, h.tape, h.output, by simpa using h.size, fun i hi hne => (Below.heap_setCell wr ⟨b, j, none⟩ v i (fun e => hne (by rw [e]))).trans (h.block i hi hne)⟩

/-! ### What the methods do -/
def rNum (s : ByteArray) (a : Nat) (bad : Bool) : Nat × Nat × Bool := match bad, readVar (tail_ s a) with
  | false, some (n, k) => (n, a + k, false)
  | _, _ => (0, a, true)
/-- What a method leaves: the result, and the reader's block as told; nothing else is another. -/
def RdPost (ty : TypeId) (w : World) (g : Nat) (s : ByteArray) (v : Value) (a : Nat) (bad : Bool) (e : Ending) (w' : World) : Prop := e = .returned v ∧ RdAt ty w' g s a bad ∧ w.grownBy w' (some g)
theorem rNum_no (s : ByteArray) (a : Nat) {bad : Bool} (h : bad = true ∨ readVar (tail_ s a) = none) : rNum s a bad = (0, a, true) := by
  unfold rNum
  rcases h with h | h
  · rw [h]
  · rw [h]; cases bad <;> rfl
theorem rNum_yes {s : ByteArray} {a n k : Nat} (h : readVar (tail_ s a) = some (n, k)) : rNum s a false = (n, a + k, false) := by
  unfold rNum
  rw [h]
theorem rdPost_of {ty : TypeId} {w w' : World} {g : Nat} {s : ByteArray} {r r' : Nat × Nat × Bool} (hr : r = r') {e : Ending} (he : e = .returned (.int .i64 (r'.1 : Int))) (h1 : RdAt ty w' g s r'.2.1 r'.2.2) (h2 : w.grownBy w' (some g)) :
    RdPost ty w g s (.int .i64 (r.1 : Int)) r.2.1 r.2.2 e w' := by
  subst hr
  exact ⟨he, h1, h2⟩
theorem held_impl {w w' : World} {g : Nat} {s : ByteArray} {a : Nat} {bad : Bool} (h : RdAt 160 w g s a bad) (hb : Below w.heap.size w w') :
    w'.cell? ⟨g, 0, none⟩ = some (.string s) ∧ w'.cell? ⟨g, 1, none⟩ = some (.int .i64 (a : Int)) ∧ Hid (Below w.heap.size w w') := ⟨(h.below hb).c0, (h.below hb).c1, hb⟩
set_option maxRecDepth 100000 in
theorem impl_num_calls (g : Nat) (s : ByteArray) (a : Nat) (bad : Bool) (w : World) (h : RdAt 160 w g s a bad) (ha : a ≤ s.size) (hs : s.size ≤ 1125899906842624) :
    Calls Tryz.prog 127 #[.pointer (some ⟨g, 0, none⟩)] w (RdPost 160 w g s (.int .i64 ((rNum s a bad).1 : Int)) (rNum s a bad).2.1 (rNum s a bad).2.2) := by
  have HR := Lib.hid h
  have c0 := h.c0
  have c1 := h.c1
  have HB0 : Hid (Below w.heap.size w w.drew) := Below.drew (Below.refl _ _)
  clear h
  cases bad <;> cases hv : readVar (tail_ s a)
  rotate_left
  · rename_i pk
    obtain ⟨n, k⟩ := pk
    have HV := Lib.hid hv
    clear hv
    go_enter Tryz.func127, Tryz.ntmps127
    go_wp2
    go_region_held3 (fun w' => w'.cell? ⟨g, 0, none⟩ = some (.string s) ∧ w'.cell? ⟨g, 1, none⟩ = some (.int .i64 (a : Int)) ∧ Hid (Below w.heap.size w w')) (first | exact held_impl HR.out HB0.out | exact held_impl HR.out (HB0.out.trans (hb.mono HB0.out.size))) (first | (go_at_call 136; refine (impl_ReadVar_calls s a _ ha hs).mono ?_; rw [HV.out]; rintro e w' ⟨rfl, hb⟩; simp only [rvRes]))
    have HK := And.right (And.right ‹_ ∧ _ ∧ Hid (Below w.heap.size w _)›)
    have HW := Lib.hid (HR.out.below HK.out)
    have d2 := HW.out.c2
    have f2 := HW.out.fz 2
    have f1 := HW.out.fz 1
    go_wp2
    go_ret
    exact rdPost_of (rNum_yes HV.out) rfl (HW.out.set1 _ (a + k) (by omega)) (grown_set (grown_of_below HK.out) 1 _)
  all_goals
    have HV := Lib.hid hv
    clear hv
    go_enter Tryz.func127, Tryz.ntmps127
    go_wp2
    go_region_held3 (fun w' => w'.cell? ⟨g, 0, none⟩ = some (.string s) ∧ w'.cell? ⟨g, 1, none⟩ = some (.int .i64 (a : Int)) ∧ Hid (Below w.heap.size w w')) (first | exact held_impl HR.out HB0.out | exact held_impl HR.out (HB0.out.trans (hb.mono HB0.out.size))) (first | (go_at_call 136; refine (impl_ReadVar_calls s a _ ha hs).mono ?_; rw [HV.out]; rintro e w' ⟨rfl, hb⟩; simp only [rvRes]))
    have HK := And.right (And.right ‹_ ∧ _ ∧ Hid (Below w.heap.size w _)›)
    have HW := Lib.hid (HR.out.below HK.out)
    have d2 := HW.out.c2
    have f2 := HW.out.fz 2
    have f1 := HW.out.fz 1
    go_wp2
    go_ret
    exact rdPost_of (rNum_no _ _ (by first | exact .inl rfl | exact .inr HV.out)) rfl (HW.out.set2 true) (grown_set (grown_of_below HK.out) 2 _)
theorem held_spec {w w' : World} {g : Nat} {s : ByteArray} {a : Nat} {bad : Bool} (h : RdAt 145 w g s a bad) (hb : Below w.heap.size w w') :
    w'.cell? ⟨g, 0, none⟩ = some (.string s) ∧ w'.cell? ⟨g, 1, none⟩ = some (.int .i64 (a : Int)) ∧ Hid (Below w.heap.size w w') := ⟨(h.below hb).c0, (h.below hb).c1, hb⟩
set_option maxRecDepth 100000 in
theorem spec_num_calls (g : Nat) (s : ByteArray) (a : Nat) (bad : Bool) (w : World) (h : RdAt 145 w g s a bad) (ha : a ≤ s.size) (hs : s.size ≤ 1125899906842624) :
    Calls Tryz.prog 116 #[.pointer (some ⟨g, 0, none⟩)] w (RdPost 145 w g s (.int .i64 ((rNum s a bad).1 : Int)) (rNum s a bad).2.1 (rNum s a bad).2.2) := by
  have HR := Lib.hid h
  have c0 := h.c0
  have c1 := h.c1
  have HB0 : Hid (Below w.heap.size w w.drew) := Below.drew (Below.refl _ _)
  clear h
  cases bad <;> cases hv : readVar (tail_ s a)
  rotate_left
  · rename_i pk
    obtain ⟨n, k⟩ := pk
    have HV := Lib.hid hv
    clear hv
    go_enter Tryz.func116, Tryz.ntmps116
    go_wp2
    go_region_held3 (fun w' => w'.cell? ⟨g, 0, none⟩ = some (.string s) ∧ w'.cell? ⟨g, 1, none⟩ = some (.int .i64 (a : Int)) ∧ Hid (Below w.heap.size w w')) (first | exact held_spec HR.out HB0.out | exact held_spec HR.out (HB0.out.trans (hb.mono HB0.out.size))) (first | (go_at_call 114; refine (spec_ReadVar_calls s a _ ha hs).mono ?_; rw [HV.out]; rintro e w' ⟨rfl, hb⟩; simp only [rvRes]))
    have HK := And.right (And.right ‹_ ∧ _ ∧ Hid (Below w.heap.size w _)›)
    have HW := Lib.hid (HR.out.below HK.out)
    have d2 := HW.out.c2
    have f2 := HW.out.fz 2
    have f1 := HW.out.fz 1
    go_wp2
    go_ret
    exact rdPost_of (rNum_yes HV.out) rfl (HW.out.set1 _ (a + k) (by omega)) (grown_set (grown_of_below HK.out) 1 _)
  all_goals
    have HV := Lib.hid hv
    clear hv
    go_enter Tryz.func116, Tryz.ntmps116
    go_wp2
    go_region_held3 (fun w' => w'.cell? ⟨g, 0, none⟩ = some (.string s) ∧ w'.cell? ⟨g, 1, none⟩ = some (.int .i64 (a : Int)) ∧ Hid (Below w.heap.size w w')) (first | exact held_spec HR.out HB0.out | exact held_spec HR.out (HB0.out.trans (hb.mono HB0.out.size))) (first | (go_at_call 114; refine (spec_ReadVar_calls s a _ ha hs).mono ?_; rw [HV.out]; rintro e w' ⟨rfl, hb⟩; simp only [rvRes]))
    have HK := And.right (And.right ‹_ ∧ _ ∧ Hid (Below w.heap.size w _)›)
    have HW := Lib.hid (HR.out.below HK.out)
    have d2 := HW.out.c2
    have f2 := HW.out.fz 2
    have f1 := HW.out.fz 1
    go_wp2
    go_ret
    exact rdPost_of (rNum_no _ _ (by first | exact .inl rfl | exact .inr HV.out)) rfl (HW.out.set2 true) (grown_set (grown_of_below HK.out) 2 _)
end Go.Proofs.YtaacpdejpcbbbaaGreatDoor
