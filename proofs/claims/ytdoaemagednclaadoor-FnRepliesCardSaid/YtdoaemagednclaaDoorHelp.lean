/- The laws' helpers big and sameTexts; bytes that came in. -/
import Derived.Test.YtdoaemagednclaaDoorDraw1
import Derived.ChangeSlices
namespace Go.Proofs.YtdoaemagednclaaDoor
set_option linter.unusedVariables false
set_option linter.unusedSimpArgs false
open Go.RowKit
attribute [local go_sem] bs_size List.length_cons List.length_nil List.length_append

theorem byRow_of_trod {H : Type} {enc : TypeId × Value → H} {P : Program} {w : World} {base : Nat} {held : Bool} {t e : TypeId} {A : Option Addr} {len cap : Nat} {d : DataW H} {p : List MemPlace}
    (ht : P.underlying t = some (.slice e)) (he : P.underlying e = some (.int .u8)) (hc : P.cellsOf e = 1) (h : DataW.Trod enc P w base (fun _ => true) held t (.slice A len cap) d p) :
    ByRow w A len := by
  obtain ⟨fuel, hf⟩ := h
  rcases ChangeShapes.open_ints ht he hc hf with ⟨hcs, _⟩ | ⟨ad, l, c, zs, hcs, _, hl, hm, hz, hx, hcell, hws⟩
  · simp [Value.cells] at hcs
    obtain ⟨rfl, rfl, rfl⟩ := hcs
    exact ⟨by omega, fun h0 => by omega⟩
  · simp [Value.cells] at hcs
    obtain ⟨rfl, rfl, rfl⟩ := hcs
    rw [if_pos rfl] at hz
    refine ⟨by unfold maxLen at hm; omega, fun h0 => ⟨ad, rfl, ?_, fun j hj => ?_⟩⟩
    · have := hcell 0 (by omega)
      have := World.block_lt_of_cell? w _ this
      rwa [add_block] at this
    · have hjz : j < zs.length := by omega
      have hv := hws (zs.getD j 0) (by rw [List.getD_eq_getElem?_getD, List.getElem?_eq_getElem hjz]; exact List.getElem_mem _)
      have hb : 0 ≤ zs.getD j 0 ∧ zs.getD j 0 ≤ 255 := by simpa [Lit.wf, IntKind.min, IntKind.max, IntKind.signed, IntKind.bits] using hv
      exact ⟨_, hb.1, hb.2, hcell j hjz⟩
theorem laws_big_calls (A : Option Addr) (c n : Nat) (w : World) (hn : n ≤ 9223372036854775807) :
    Calls Tryd.prog 5 #[.slice A n c] w fun e w' => e = .returned (.bool (decide (1048576 < n))) ∧ w = w' := by
  by_cases h : 1048576 < n
  · have hi : (1048576 : Int) < (n : Int) := by omega
    go_enter Tryd.func5, Tryd.ntmps5
    go_wp2
    go_ret
    exact ⟨ret_bool (by simp [h]), rfl⟩
  · have hi : ¬ (1048576 : Int) < (n : Int) := by omega
    go_enter Tryd.func5, Tryd.ntmps5
    go_wp2
    go_ret
    exact ⟨ret_bool (by simp [h]), rfl⟩
set_option maxRecDepth 100000 in
theorem laws_sameTexts_calls (A : Option Addr) (c : Nat) (xs : List ByteArray) (A' : Option Addr) (c' : Nat) (w : World) (h : StrRow w A c xs) (h' : StrRow w A' c' xs) :
    Calls Tryd.prog 10 #[.slice A xs.length c, .slice A' xs.length c'] w fun e w' => e = .returned (.bool true) ∧ Below w.heap.size w w' := by
  have hl := h.len
  have HR := Lib.hid h
  have HR' := Lib.hid h'
  clear h h'
  have hb2 : ((xs.length : Int) != (xs.length : Int)) = false := by simp
  go_enter Tryd.func10, Tryd.ntmps10
  go_wp2
  go_loopw [5] (fun i wr => ∃ k : Nat, k ≤ xs.length ∧ i = .int .i64 k ∧ Below w.heap.size w wr) (fun i _ => xs.length - (intOf i).toNat)
  case atStart => exact ⟨0, Nat.zero_le _, rfl, Below.refl _ _⟩
  case round =>
    obtain ⟨k, hk, rfl, hbel⟩ := hrel
    have HB := Lib.hid hbel
    by_cases hlt : k < xs.length
    · have hli : (k : Int) < (xs.length : Int) := by omega
      obtain ⟨ad, x, hA, hc, hz, HX⟩ := (HR.out.below hbel).at_ hlt
      obtain ⟨ad', y, hA', hc', hz', HY⟩ := (HR'.out.below hbel).at_ hlt
      obtain rfl : x = y := Option.some.inj (HX.out.symm.trans HY.out)
      clear hbel
      cases hA
      cases hA'
      go_wp2
      go_quiet (fail)
      go_wp2
      go_roundw
      case rel => first | exact ⟨k + 1, by omega, by go_num, blwN HB.out _⟩ | (repeat (first | (refine ⟨?relx, rfl⟩; exact ⟨k + 1, by omega, by go_num, blwN HB.out _⟩) | (refine ⟨?relx, ?eqs⟩; (case eqs => (and_intros <;> rfl)); exact ⟨k + 1, by omega, by go_num, blwN HB.out _⟩) | apply Exists.intro))
      case measure => simp [intOf]; omega
    · obtain rfl : k = xs.length := by omega
      clear hbel
      go_wp2
      go_ret
      exact ⟨rfl, HB.out⟩
end Go.Proofs.YtdoaemagednclaaDoor
