/- Batches: the reference's BatchOk. -/
import Derived.Test.YtanebcllcgchcaaGreatDoorBat
import Derived.BigQuiet
namespace Go.Proofs.YtanebcllcgchcaaGreatDoor
set_option linter.unusedVariables false
set_option linter.unusedSimpArgs false
open Go.RowKit
attribute [local go_sem] bs_size List.length_cons List.length_nil List.length_append

theorem batOk_seq {q : Int} {cs : List ChD} (h : inR q 0 1000000000 = false) : batOkB (q, cs) = false := by
  rw [Bool.eq_false_iff]
  intro e
  have h1 := (batOk_parts e).1
  unfold inR at h
  simp only [Bool.and_eq_false_iff, decide_eq_false_iff_not] at h
  dsimp only at h1
  omega
theorem batOk_len {q : Int} {cs : List ChD} (h : inR (cs.length : Int) 1 40 = false) : batOkB (q, cs) = false := by
  rw [Bool.eq_false_iff]
  intro e
  unfold batOkB at e
  simp only [Bool.and_eq_true, decide_eq_true_eq] at e
  unfold inR at h
  simp only [Bool.and_eq_false_iff, decide_eq_false_iff_not] at h
  omega
theorem chAt_prev {cs : List ChD} {j : Nat} {x p : ChD} (h : cs[j + 1]? = some x) (hp : cs[j]? = some p) (hl : Op.bytesLess p.1.toList x.1.toList = false) : chAt cs (j + 1) = false := by
  unfold chAt
  rw [h]
  simp [hp, hl]
end Go.Proofs.YtanebcllcgchcaaGreatDoor
