/- The reference's ReadBatch: what it reads (readBatS), and in what memory. By wip/tools/genbreads.py. -/
import Derived.Test.YtanebcllcgchcaaGreatDoorBReadI
import Derived.Test.YtanebcllcgchcaaGreatDoorBat5
namespace Go.Proofs.YtanebcllcgchcaaGreatDoor
set_option linter.unusedVariables false
set_option linter.unusedSimpArgs false
open Go.RowKit
attribute [local go_sem] bs_size List.length_cons List.length_nil List.length_append

theorem cShort_small (s : ByteArray) (a : Nat) (b : Bool) : (cShort s a b).1.length ≤ s.size := by
  unfold cShort cTake
  split
  · show ((tail_ s _).take _).length ≤ _
    rw [List.length_take, tail_len]
    omega
  · simp
theorem cbX_small (s : ByteArray) (hs : s.size ≤ 1099511627776) : ∀ x ∈ (cbX s).1, x.1.size ≤ 9223372036854775807 ∧ x.2.1.size ≤ 9223372036854775807 := items_all (fun a => by
  have h1 := cShort_small s a false
  have h2 := cShort_small s (csG s a false).2.1 (csG s a false).2.2
  show (bs (csK s a false).1).size ≤ _ ∧ (bs (csV s a false).1).size ≤ _
  rw [bs_size, bs_size]
  unfold csK csV
  omega) _ _ _
theorem readBatS_no {s : ByteArray} (h : ¬ ((cbX s).2.2 = false ∧ batText (cbD s) = some (ub s))) : readBatS s = none := if_neg h
theorem readBatS_yes {s : ByteArray} (h2 : (cbX s).2.2 = false) (h3 : batText (cbD s) = some (ub s)) : readBatS s = some (((cbQ s).1 : Int), (cbX s).1) := if_pos ⟨h2, h3⟩
theorem chS_le (s : ByteArray) {a : Nat} (h : a ≤ s.size) : (chS s a).2.1 ≤ s.size := (cShort_le s _ (cTake_le s _ 1 (cShort_le s false h).1).1).1
theorem eq_one (l : List UInt8) : ((bs l).toList == [1]) = decide (l = [1]) := by
  have e : (bs l).toList = l := by rw [ByteArray.toList_eq]; exact ub_bs l
  rw [e]
  by_cases h : l = [1]
  · simp [h]
  · rw [decide_eq_false h]; exact beq_eq_false_iff_ne.mpr h
end Go.Proofs.YtanebcllcgchcaaGreatDoor
