/- A block under marking, cell by cell. -/
import Derived.Test.YtekhfplbhcfdmaaMark
namespace Go.Proofs.Ytekhfplbhcfdmaa
set_option linter.unusedVariables false
set_option linter.unusedSimpArgs false
open Go.RowKit

/-- A block under marking: the cells ahead, those of the element in hand, those behind. -/
def MkAt (w wr : World) (b : Nat) (ty : TypeId) (P M R : List Value) : Prop := wr.heap[b]? = some (.cells (P ++ (M ++ R)).toArray ty (0, 0)) ∧ w.grownBy wr (some b)
theorem MkAt.cell {w wr : World} {b : Nat} {ty : TypeId} {P M R : List Value} (h : MkAt w wr b ty P M R) (d i : Nat) (hi : i = P.length + d) (hd : d < M.length) : wr.cell? ⟨b, i, none⟩ = M[d]? := by
  subst hi
  rw [blk_cell h.1, List.getElem?_toArray, List.getElem?_append_right (Nat.le_add_right ..), Nat.add_sub_cancel_left, List.getElem?_append_left hd]
theorem MkAt.set {w wr : World} {b : Nat} {ty : TypeId} {P M R : List Value} (h : MkAt w wr b ty P M R) (d i : Nat) (hi : i = P.length + d) (hd : d < M.length) (x : Value) : MkAt w (wr.setCell ⟨b, i, none⟩ x) b ty P (M.set d x) R := by
  subst hi
  refine ⟨?_, grownBy_set h.2 _ _⟩
  rw [blk_set h.1]
  congr 2
  apply Array.ext'
  rw [Array.toList_setIfInBounds]
  show (P ++ (M ++ R)).set (P.length + d) x = P ++ (M.set d x ++ R)
  rw [List.set_append_right _ _ (Nat.le_add_right ..), Nat.add_sub_cancel_left, List.set_append_left _ _ hd]
theorem MkAt.below {w wr w' : World} {b : Nat} {ty : TypeId} {P M R : List Value} (h : MkAt w wr b ty P M R) (hb : Below wr.heap.size wr w') : MkAt w w' b ty P M R := ⟨blk_below h.1 hb, grownBy_below h.2 hb⟩
theorem MkAt.fz {w wr : World} {b : Nat} {ty : TypeId} {P M R : List Value} (h : MkAt w wr b ty P M R) (i : Nat) : wr.frozen? ⟨b, i, none⟩ = false := blk_frozen h.1 i
theorem MkAt.next {w wr : World} {b : Nat} {ty : TypeId} {P M R M' R' : List Value} (h : MkAt w wr b ty P M R) (e : R = M' ++ R') : MkAt w wr b ty (P ++ M) M' R' := by
  subst e
  unfold MkAt at h ⊢
  rw [List.append_assoc]
  exact h
end Go.Proofs.Ytekhfplbhcfdmaa
