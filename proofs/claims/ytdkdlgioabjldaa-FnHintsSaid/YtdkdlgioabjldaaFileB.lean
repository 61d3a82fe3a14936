/- Files of a disk: FileAt and SegName, the program's and the reference's. -/
import Derived.Test.YtdkdlgioabjldaaFileA2
namespace Go.Proofs.Ytdkdlgioabjldaa
set_option linter.unusedVariables false
set_option linter.unusedSimpArgs false
open Go.RowKit
attribute [local go_sem] bs_size List.length_cons List.length_nil List.length_append

/-- The text of the first file of a name. -/
def fileB : List FiD → ByteArray → Option ByteArray
  | [], _ => none
  | x :: xs, n => if x.1 = n then some x.2.1 else fileB xs n
theorem fileB_at {n : ByteArray} : ∀ {fs : List FiD} {j : Nat} {x : FiD}, fs[j]? = some x → x.1 = n → (∀ i y, i < j → fs[i]? = some y → y.1 ≠ n) → fileB fs n = some x.2.1
  | [], j, x, h, _, _ => by simp at h
  | y :: ys, 0, x, h, hx, _ => by
    obtain rfl : y = x := by simpa using h
    unfold fileB
    rw [if_pos hx]
  | y :: ys, j + 1, x, h, hx, hn => by
    unfold fileB
    rw [if_neg (hn 0 y (by omega) rfl)]
    exact fileB_at (j := j) (by simpa using h) hx fun i z hi hz => hn (i + 1) z (by omega) (by simpa using hz)
theorem fileB_none {n : ByteArray} : ∀ {fs : List FiD}, (∀ (i : Nat) (y : FiD), fs[i]? = some y → y.1 ≠ n) → fileB fs n = none
  | [], _ => rfl
  | y :: ys, h => by
    unfold fileB
    rw [if_neg (h 0 y rfl)]
    exact fileB_none fun i z hz => h (i + 1) z (by simpa using hz)
theorem fileB_mem {n s : ByteArray} : ∀ {fs : List FiD}, fileB fs n = some s → ∃ x ∈ fs, x.2.1 = s
  | [], h => by cases h
  | y :: ys, h => by
    unfold fileB at h
    split at h
    · exact ⟨y, by simp, Option.some.inj h⟩
    · obtain ⟨x, hx, e⟩ := fileB_mem h
      exact ⟨x, by simp [hx], e⟩
def fiRes (o : Option ByteArray) : Value := match o with
  | none => .tuple #[.string ⟨#[]⟩, .bool false]
  | some s => .tuple #[.string s, .bool true]
/-- What the search for a file of a name gives. -/
def IxPost (fs : List FiD) (n : ByteArray) (r : Int) : Prop := (∃ j x, r = ((j : Nat) : Int) ∧ fs[j]? = some x ∧ x.1 = n ∧ fileB fs n = some x.2.1) ∨ (r = -1 ∧ fileB fs n = none)
theorem ix_neg {fs : List FiD} {n : ByteArray} (h : ∀ i y, i < fs.length → fs[i]? = some y → y.1 ≠ n) : IxPost fs n (-1) := .inr ⟨rfl, fileB_none fun i y hy => h i y (List.getElem?_eq_some_iff.1 hy).1 hy⟩
theorem ix_at {fs : List FiD} {n : ByteArray} {j : Nat} {x : FiD} (hj : fs[j]? = some x) (hx : x.1 = n) (h : ∀ i y, i < j → fs[i]? = some y → y.1 ≠ n) : IxPost fs n (j : Int) := .inl ⟨j, x, rfl, hj, hx, fileB_at hj hx h⟩
theorem ix_step {fs : List FiD} {n : ByteArray} {j : Nat} {x : FiD} (hj : fs[j]? = some x) (hx : x.1 ≠ n) (h : ∀ i y, i < j → fs[i]? = some y → y.1 ≠ n) : ∀ i y, i < j + 1 → fs[i]? = some y → y.1 ≠ n := fun i y hi hy => by
  by_cases e : i = j
  · subst e
    rw [hj] at hy
    cases hy
    exact hx
  · exact h i y (by omega) hy
theorem list_eq_no {a b : ByteArray} (h : a ≠ b) : (a.toList == b.toList) = false := beq_eq_false_iff_ne.mpr fun e => h (toList_inj.1 e)
theorem list_eq_yes (a : ByteArray) : (a.toList == a.toList) = true := by simp
end Go.Proofs.Ytdkdlgioabjldaa
