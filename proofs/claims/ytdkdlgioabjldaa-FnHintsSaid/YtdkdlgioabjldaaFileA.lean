/- Files of a disk: rows of files, DiskOk of the program and of the reference. -/
import Derived.Test.YtdkdlgioabjldaaBat2
namespace Go.Proofs.Ytdkdlgioabjldaa
set_option linter.unusedVariables false
set_option linter.unusedSimpArgs false
open Go.RowKit
attribute [local go_sem] bs_size List.length_cons List.length_nil List.length_append

/-- A file: its name, its text, how much of it is kept. -/
abbrev FiD := ByteArray × ByteArray × Int
def FiRow (w : World) (A : Option Addr) (c : Nat) (fs : List FiD) : Prop :=
  fs.length ≤ c ∧ c ≤ 9223372036854775807 ∧ (∀ x ∈ fs, x.1.size ≤ 9223372036854775807 ∧ x.2.1.size ≤ 9223372036854775807) ∧
  (0 < fs.length → ∃ ad : Addr, A = some ad ∧ ad.block < w.heap.size ∧ ∀ j x, fs[j]? = some x → w.cell? (ad.add (j * 3)) = some (.string x.1) ∧ w.cell? ⟨(ad.add (j * 3)).block, (ad.add (j * 3)).off + 1, none⟩ = some (.string x.2.1) ∧ w.cell? ⟨(ad.add (j * 3)).block, (ad.add (j * 3)).off + 2, none⟩ = some (.int .i64 x.2.2))
theorem FiRow.below {w w' : World} {A : Option Addr} {c : Nat} {fs : List FiD} (h : FiRow w A c fs) (hb : Below w.heap.size w w') : FiRow w' A c fs :=
  ⟨h.1, h.2.1, h.2.2.1, fun hp => by
    obtain ⟨ad, e, hl, hc⟩ := h.2.2.2 hp
    refine ⟨ad, e, Nat.lt_of_lt_of_le hl hb.size, fun j x hx => ?_⟩
    obtain ⟨h0, h1, h2⟩ := hc j x hx
    exact ⟨(hb.cell (by rw [add_block]; exact hl)).trans h0, (hb.cell (by show (ad.add (j * 3)).block < _; rw [add_block]; exact hl)).trans h1, (hb.cell (by show (ad.add (j * 3)).block < _; rw [add_block]; exact hl)).trans h2⟩⟩
theorem FiRow.len {w : World} {A : Option Addr} {c : Nat} {fs : List FiD} (h : FiRow w A c fs) : fs.length ≤ 9223372036854775807 := Nat.le_trans h.1 h.2.1
theorem FiRow.at_ {w : World} {A : Option Addr} {c : Nat} {fs : List FiD} (h : FiRow w A c fs) {k : Nat} (hk : k < fs.length) :
    ∃ (ad : Addr) (x : FiD), A = some ad ∧ Hid (fs[k]? = some x) ∧ x.1.size ≤ 9223372036854775807 ∧ x.2.1.size ≤ 9223372036854775807 ∧ w.cell? (ad.add (k * 3)) = some (.string x.1) ∧ w.cell? ⟨(ad.add (k * 3)).block, (ad.add (k * 3)).off + 1, none⟩ = some (.string x.2.1) ∧ w.cell? ⟨(ad.add (k * 3)).block, (ad.add (k * 3)).off + 2, none⟩ = some (.int .i64 x.2.2) := by
  obtain ⟨ad, e, _, hc⟩ := h.2.2.2 (by omega)
  have hx : fs[k]? = some fs[k] := List.getElem?_eq_getElem hk
  have hs := h.2.2.1 _ (List.mem_of_getElem? hx)
  exact ⟨ad, _, e, hx, hs.1, hs.2, hc k _ hx⟩
def fiOkB (x : FiD) : Bool := inR (x.1.size : Int) 1 8 && decide (x.2.1.size ≤ 20000) && inR x.2.2 0 (x.2.1.size : Int)
/-- The file at i, and its name against the one ahead of it. -/
def fiAt (fs : List FiD) (i : Nat) : Bool := match fs[i]? with
  | none => true
  | some c => fiOkB c && (match i with
    | 0 => true
    | j + 1 => match fs[j]? with
      | none => true
      | some p => Op.bytesLess p.1.toList c.1.toList)
def diskOkB (fs : List FiD) : Bool := ((List.range fs.length).all fun i => fiAt fs i) && decide (fs.length ≤ 30)
theorem fiAt_bad {fs : List FiD} {i : Nat} {x : FiD} (h : fs[i]? = some x) (hx : fiOkB x = false) : fiAt fs i = false := by
  unfold fiAt
  rw [h]
  simp [hx]
theorem fiAt_zero {fs : List FiD} {x : FiD} (h : fs[0]? = some x) (hx : fiOkB x = true) : fiAt fs 0 = true := by
  unfold fiAt
  rw [h]
  simp [hx]
theorem fiAt_succ {fs : List FiD} {j : Nat} {x p : FiD} (h : fs[j + 1]? = some x) (hp : fs[j]? = some p) (hx : fiOkB x = true) : fiAt fs (j + 1) = Op.bytesLess p.1.toList x.1.toList := by
  unfold fiAt
  rw [h]
  simp [hx, hp]
theorem diskOk_bad {fs : List FiD} {i : Nat} (hi : i < fs.length) (h : fiAt fs i = false) : diskOkB fs = false := by
  unfold diskOkB
  have : ((List.range fs.length).all fun i => fiAt fs i) = false := List.all_eq_false.2 ⟨i, List.mem_range.2 hi, by rw [h]; exact Bool.false_ne_true⟩
  rw [this, Bool.false_and]
theorem diskOk_all {fs : List FiD} (h : ∀ j, j < fs.length → fiAt fs j = true) : diskOkB fs = decide (fs.length ≤ 30) := by
  unfold diskOkB
  have : ((List.range fs.length).all fun i => fiAt fs i) = true := List.all_eq_true.2 fun i hi => h i (List.mem_range.1 hi)
  rw [this, Bool.true_and]
theorem diskOk_many {fs : List FiD} (h : 30 < fs.length) : diskOkB fs = false := by
  unfold diskOkB
  rw [decide_eq_false (by omega), Bool.and_false]
theorem fiOk_name {n t : ByteArray} {k : Int} (h : inR (n.size : Int) 1 8 = false) : fiOkB (n, t, k) = false := by simp [fiOkB, h]
theorem fiOk_text {n t : ByteArray} {k : Int} (h : 20000 < t.size) : fiOkB (n, t, k) = false := by
  unfold fiOkB
  rw [decide_eq_false (by show ¬ t.size ≤ 20000; omega)]
  simp
theorem fiOk_kept {n t : ByteArray} {k : Int} (h : inR k 0 (t.size : Int) = false) : fiOkB (n, t, k) = false := by simp [fiOkB, h]
theorem fiOk_ok {n t : ByteArray} {k : Int} (h : inR (n.size : Int) 1 8 = true) (h1 : t.size ≤ 20000) (h2 : inR k 0 (t.size : Int) = true) : fiOkB (n, t, k) = true := by simp [fiOkB, h, h1, h2]
theorem fi_step {fs : List FiD} {i : Nat} (h : ∀ j, j < i → fiAt fs j = true) (hi : fiAt fs i = true) : ∀ j, j < i + 1 → fiAt fs j = true := by
  intro j hj
  by_cases e : j = i
  · rw [e]; exact hi
  · exact h j (by omega)
/-- In a right disk every text is small. -/
theorem diskOk_small {fs : List FiD} (h : diskOkB fs = true) {x : FiD} (hx : x ∈ fs) : x.2.1.size ≤ 20000 ∧ x.1.size ≤ 8 := by
  obtain ⟨i, hi⟩ := List.getElem?_of_mem hx
  have hil := (List.getElem?_eq_some_iff.1 hi).1
  unfold diskOkB at h
  rw [Bool.and_eq_true, List.all_eq_true] at h
  have h2 := h.1 i (List.mem_range.2 hil)
  unfold fiAt at h2
  rw [hi] at h2
  dsimp only at h2
  rw [Bool.and_eq_true] at h2
  have h3 := h2.1
  unfold fiOkB inR at h3
  simp only [Bool.and_eq_true, decide_eq_true_eq] at h3
  omega
theorem within_at (n lo hi : Int) (w : World) {b : Bool} (h : inR n lo hi = b) : Calls Try.prog 40 #[.int .i64 n, .int .i64 lo, .int .i64 hi] w fun e w' => e = .returned (.bool b) ∧ w' = w := by
  subst h
  exact (impl_within_calls n lo hi w).mono fun e w' ⟨he, hw⟩ => ⟨he, hw.symm⟩
end Go.Proofs.Ytdkdlgioabjldaa
