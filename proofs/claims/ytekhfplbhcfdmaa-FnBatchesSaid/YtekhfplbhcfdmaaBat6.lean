/- Batches: the laws' helpers eqChange, eqChangeS, eqBatch. -/
import Derived.Test.YtekhfplbhcfdmaaBat5
namespace Go.Proofs.Ytekhfplbhcfdmaa
set_option linter.unusedVariables false
set_option linter.unusedSimpArgs false
open Go.RowKit
attribute [local go_sem] bs_size List.length_cons List.length_nil List.length_append

theorem laws_eqChange_calls (k v : ByteArray) (g : Bool) (w : World) :
    Calls Try.prog 95 #[.agg #[.string k, .string v, .bool g], .agg #[.string k, .string v, .bool g]] w fun e w' => e = .returned (.bool true) ∧ Below w.heap.size w w' := by
  have hg : (g != g) = false := by cases g <;> rfl
  have hg2 : (g == g) = true := by cases g <;> rfl
  go_enter Try.func95, Try.ntmps95
  go_wp2
  go_ret
  exact ⟨rfl, ((Below.refl _ _).alloc (Nat.le_refl _) _).alloc (by simp) _⟩
theorem keep6 {w w' : World} {a0 a1 a2 b0 b1 b2 : Addr} {x0 x1 x2 y0 y1 y2 : Value} (h : (w.cell? a0 = some x0 ∧ w.cell? a1 = some x1 ∧ w.cell? a2 = some x2) ∧ (w.cell? b0 = some y0 ∧ w.cell? b1 = some y1 ∧ w.cell? b2 = some y2)) (hb : Below w.heap.size w w') :
    (w'.cell? a0 = some x0 ∧ w'.cell? a1 = some x1 ∧ w'.cell? a2 = some x2) ∧ (w'.cell? b0 = some y0 ∧ w'.cell? b1 = some y1 ∧ w'.cell? b2 = some y2) ∧ Hid (Below w.heap.size w w') := by
  have k : ∀ {a : Addr} {x : Value}, w.cell? a = some x → w'.cell? a = some x := fun h => (hb.cell (World.block_lt_of_cell? w _ h)).trans h
  exact ⟨⟨k h.1.1, k h.1.2.1, k h.1.2.2⟩, ⟨k h.2.1, k h.2.2.1, k h.2.2.2⟩, hb⟩
set_option maxHeartbeats 4000000 in
set_option maxRecDepth 100000 in
theorem laws_eqChangeS_calls (A : Option Addr) (c : Nat) (A' : Option Addr) (c' : Nat) (cs : List ChD) (w : World) (h : ChRow w A c cs) (h' : ChRow w A' c' cs) :
    Calls Try.prog 59 #[.slice A cs.length c, .slice A' cs.length c'] w fun e w' => e = .returned (.bool true) ∧ Below w.heap.size w w' := by
  have hl := h.len
  have HR := Lib.hid h
  have HR' := Lib.hid h'
  have hb2 : ((cs.length : Int) != (cs.length : Int)) = false := by simp
  clear h h'
  go_enter Try.func59, Try.ntmps59
  go_wp2
  go_loopw [5] (fun iv wr => ∃ i : Nat, i ≤ cs.length ∧ iv = .int .i64 (i : Int) ∧ Below w.heap.size w wr) (fun iv _ => cs.length - (intOf iv).toNat)
  case atStart => exact ⟨0, Nat.zero_le _, rfl, Below.refl _ _⟩
  case round =>
    obtain ⟨i, hi, rfl, hbel⟩ := hrel
    have HB := Lib.hid hbel
    by_cases hlt : i < cs.length
    · obtain ⟨ad, x, hA, HX, hz1, hz2, hc0, hc1, hc2⟩ := (HR.out.below hbel).at_ hlt
      obtain ⟨ad', y, hA', HY, _, _, hd0, hd1, hd2⟩ := (HR'.out.below hbel).at_ hlt
      obtain rfl : x = y := Option.some.inj (HX.out.symm.trans HY.out)
      clear hbel
      cases hA
      cases hA'
      obtain ⟨k, v, g⟩ := x
      dsimp only at hz1 hz2 hc0 hc1 hc2 hd0 hd1 hd2
      have hli : (i : Int) < (cs.length : Int) := by omega
      have HH0 : Hid (Below wr.heap.size wr wr.drew) := Below.drew (Below.refl _ _)
      have H6 := Lib.hid (And.intro (And.intro hc0 (And.intro hc1 hc2)) (And.intro hd0 (And.intro hd1 hd2)))
      go_wp2_with fail
      go_region_held3 (fun w' => (w'.cell? (ad.add (i * 3)) = some (.string k) ∧ w'.cell? ⟨(ad.add (i * 3)).block, (ad.add (i * 3)).off + 1, none⟩ = some (.string v) ∧ w'.cell? ⟨(ad.add (i * 3)).block, (ad.add (i * 3)).off + 2, none⟩ = some (.bool g)) ∧ (w'.cell? (ad'.add (i * 3)) = some (.string k) ∧ w'.cell? ⟨(ad'.add (i * 3)).block, (ad'.add (i * 3)).off + 1, none⟩ = some (.string v) ∧ w'.cell? ⟨(ad'.add (i * 3)).block, (ad'.add (i * 3)).off + 2, none⟩ = some (.bool g)) ∧ Hid (Below wr.heap.size wr w')) (first | exact keep6 H6.out HH0.out | exact keep6 H6.out (HH0.out.trans (hb.mono (Nat.le_refl _)))) (first | (go_at_call 95; refine (laws_eqChange_calls k v g _).mono ?_; rintro e w' ⟨rfl, hb⟩))
      have HKB := And.right (And.right ‹_ ∧ _ ∧ Hid (Below wr.heap.size wr _)›)
      go_wp2
      go_roundw
      case rel => first | exact ⟨i + 1, by omega, by go_num, HB.out.trans (HKB.out.mono HB.out.size)⟩ | (repeat (first | (refine ⟨?relx, rfl⟩; exact ⟨i + 1, by omega, by go_num, HB.out.trans (HKB.out.mono HB.out.size)⟩) | (refine ⟨?relx, ?eqs⟩; (case eqs => (and_intros <;> rfl)); exact ⟨i + 1, by omega, by go_num, HB.out.trans (HKB.out.mono HB.out.size)⟩) | apply Exists.intro))
      case measure => simp [intOf]; omega
    · obtain rfl : i = cs.length := by omega
      clear hbel
      go_wp2
      go_ret
      exact ⟨rfl, HB.out⟩
set_option maxRecDepth 100000 in
theorem laws_eqBatch_calls (q : Int) (A : Option Addr) (c : Nat) (A' : Option Addr) (c' : Nat) (cs : List ChD) (w : World) (h : ChRow w A c cs) (h' : ChRow w A' c' cs) :
    Calls Try.prog 16 #[.agg #[.int .i64 q, .slice A cs.length c], .agg #[.int .i64 q, .slice A' cs.length c']] w fun e w' => e = .returned (.bool true) ∧ Below w.heap.size w w' := by
  have hb : Below w.heap.size w ((w.alloc (.cells #[.int .i64 q, .slice A cs.length c] 30)).alloc (.cells #[.int .i64 q, .slice A' cs.length c'] 30)) := ((Below.refl _ _).alloc (Nat.le_refl _) _).alloc (by simp) _
  have HR := Lib.hid (h.below hb)
  have HR' := Lib.hid (h'.below hb)
  have HB := Lib.hid hb
  clear h h' hb
  have hqq : (q != q) = false := by simp
  go_enter Try.func16, Try.ntmps16
  go_wp2_with fail
  go_at_call 59
  refine (laws_eqChangeS_calls A c A' c' cs _ HR.out HR'.out).mono ?_
  rintro e w3 ⟨rfl, hb3⟩
  go_wp2
  go_ret
  exact ⟨rfl, bl_call HB.out hb3⟩
end Go.Proofs.Ytekhfplbhcfdmaa
