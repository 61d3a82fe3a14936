/- The laws' sameChanges, and bytes that came in, kept. -/
import Derived.Test.YtdkdlgioabjldaaDoorDrawB
import Derived.Test.YtdkdlgioabjldaaDoorBat5
import Derived.Test.YtdkdlgioabjldaaDoorHelp
namespace Go.Proofs.YtdkdlgioabjldaaDoor
set_option linter.unusedVariables false
set_option linter.unusedSimpArgs false
open Go.RowKit
attribute [local go_sem] bs_size List.length_cons List.length_nil List.length_append

theorem byRow_below2 {w w' : World} {A : Option Addr} {n : Nat} (h : ByRow w A n) (hb : Below w.heap.size w w') : ByRow w' A n := by
  refine ⟨h.1, fun h0 => ?_⟩
  obtain ⟨ad, e, hl, hc⟩ := h.2 h0
  refine ⟨ad, e, Nat.lt_of_lt_of_le hl hb.size, fun j hj => ?_⟩
  obtain ⟨z, h0, h1, h2⟩ := hc j hj
  exact ⟨z, h0, h1, (hb.cell (by rw [add_block]; exact hl)).trans h2⟩
theorem Few.small {n m : Nat} {cs : List ChD} (h : Few n m cs) (h1 : n ≤ 100000) (h2 : m ≤ 100000) : ∀ x ∈ cs, x.1.size ≤ 9223372036854775807 ∧ x.2.1.size ≤ 9223372036854775807 := fun x hx => by have := h x hx; omega
set_option maxHeartbeats 4000000 in
set_option maxRecDepth 100000 in
theorem laws_sameChanges_calls (A : Option Addr) (c : Nat) (A' : Option Addr) (c' : Nat) (cs : List ChD) (w : World) (h : ChRow w A c cs) (h' : ChRow w A' c' cs) :
    Calls Tryd.prog 11 #[.slice A cs.length c, .slice A' cs.length c'] w fun e w' => e = .returned (.bool true) ∧ Below w.heap.size w w' := by
  have hl := h.len
  have HR := Lib.hid h
  have HR' := Lib.hid h'
  have hb2 : ((cs.length : Int) != (cs.length : Int)) = false := by simp
  clear h h'
  go_enter Tryd.func11, Tryd.ntmps11
  go_wp2
  go_loopw [5] (fun iv wr => ∃ i : Nat, i ≤ cs.length ∧ iv = .int .i64 (i : Int) ∧ Below w.heap.size w wr) (fun iv _ => cs.length - (intOf iv).toNat)
  case atStart => exact ⟨0, Nat.zero_le _, rfl, Below.refl _ _⟩
  case round =>
    obtain ⟨i, hi, rfl, hbel⟩ := hrel
    have HB := Lib.hid hbel
    by_cases hlt : i < cs.length
    · obtain ⟨ad, x, hA, HX, hz1, hz2, hc0, hc1, hc2⟩ := (HR.out.below hbel).at_ hlt
      obtain ⟨ad', y, hA', HY, _, _, hd0, hd1, hd2⟩ := (HR'.out.below hbel).at_ hlt
      obtain rfl : x = y := Option.some.inj (HX.out.symm.trans HY.out)
      clear hbel
      cases hA
      cases hA'
      obtain ⟨k, v, g⟩ := x
      dsimp only at hz1 hz2 hc0 hc1 hc2 hd0 hd1 hd2
      have hli : (i : Int) < (cs.length : Int) := by omega
      have hgg : (g == g) = true := by simp
      go_wp2
      go_quiet (fail)
      go_wp2
      go_roundw
      case rel => first | exact ⟨i + 1, by omega, by go_num, blwN HB.out _⟩ | (repeat (first | (refine ⟨?relx, rfl⟩; exact ⟨i + 1, by omega, by go_num, blwN HB.out _⟩) | (refine ⟨?relx, ?eqs⟩; (case eqs => (and_intros <;> rfl)); exact ⟨i + 1, by omega, by go_num, blwN HB.out _⟩) | apply Exists.intro))
      case measure => simp [intOf]; omega
    · obtain rfl : i = cs.length := by omega
      clear hbel
      go_wp2
      go_ret
      exact ⟨rfl, HB.out⟩
end Go.Proofs.YtdkdlgioabjldaaDoor
