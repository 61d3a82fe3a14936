/- Batches: BatchOk, the program's and the reference's. -/
import Derived.Test.YtdkdlgioabjldaaBatL
import Derived.Test.YtdkdlgioabjldaaIn
import Derived.Test.YtdkdlgioabjldaaBl
import Derived.Laws.Cover1
import Derived.Outline
import Derived.BigQuiet
namespace Go.Proofs.Ytdkdlgioabjldaa
set_option linter.unusedVariables false
set_option linter.unusedSimpArgs false
open Go.RowKit
attribute [local go_sem] bs_size List.length_cons List.length_nil List.length_append

/-- A slice's value reads as these changes. -/
def ChRow (w : World) (A : Option Addr) (c : Nat) (cs : List ChD) : Prop :=
  cs.length ≤ c ∧ c ≤ 9223372036854775807 ∧ (∀ x ∈ cs, x.1.size ≤ 9223372036854775807 ∧ x.2.1.size ≤ 9223372036854775807) ∧
  (0 < cs.length → ∃ ad : Addr, A = some ad ∧ ad.block < w.heap.size ∧ ∀ j x, cs[j]? = some x → w.cell? (ad.add (j * 3)) = some (.string x.1) ∧ w.cell? ⟨(ad.add (j * 3)).block, (ad.add (j * 3)).off + 1, none⟩ = some (.string x.2.1) ∧ w.cell? ⟨(ad.add (j * 3)).block, (ad.add (j * 3)).off + 2, none⟩ = some (.bool x.2.2))
theorem ChRow.below {w w' : World} {A : Option Addr} {c : Nat} {cs : List ChD} (h : ChRow w A c cs) (hb : Below w.heap.size w w') : ChRow w' A c cs :=
  ⟨h.1, h.2.1, h.2.2.1, fun hp => by
    obtain ⟨ad, e, hl, hc⟩ := h.2.2.2 hp
    refine ⟨ad, e, Nat.lt_of_lt_of_le hl hb.size, fun j x hx => ?_⟩
    obtain ⟨h0, h1, h2⟩ := hc j x hx
    exact ⟨(hb.cell (by rw [add_block]; exact hl)).trans h0, (hb.cell (by show (ad.add (j * 3)).block < _; rw [add_block]; exact hl)).trans h1, (hb.cell (by show (ad.add (j * 3)).block < _; rw [add_block]; exact hl)).trans h2⟩⟩
theorem ChRow.len {w : World} {A : Option Addr} {c : Nat} {cs : List ChD} (h : ChRow w A c cs) : cs.length ≤ 9223372036854775807 := Nat.le_trans h.1 h.2.1
theorem ChRow.at_ {w : World} {A : Option Addr} {c : Nat} {cs : List ChD} (h : ChRow w A c cs) {k : Nat} (hk : k < cs.length) :
    ∃ (ad : Addr) (x : ChD), A = some ad ∧ Hid (cs[k]? = some x) ∧ x.1.size ≤ 9223372036854775807 ∧ x.2.1.size ≤ 9223372036854775807 ∧ w.cell? (ad.add (k * 3)) = some (.string x.1) ∧ w.cell? ⟨(ad.add (k * 3)).block, (ad.add (k * 3)).off + 1, none⟩ = some (.string x.2.1) ∧ w.cell? ⟨(ad.add (k * 3)).block, (ad.add (k * 3)).off + 2, none⟩ = some (.bool x.2.2) := by
  obtain ⟨ad, e, _, hc⟩ := h.2.2.2 (by omega)
  have hx : cs[k]? = some cs[k] := List.getElem?_eq_getElem hk
  have hs := h.2.2.1 _ (List.mem_of_getElem? hx)
  exact ⟨ad, _, e, hx, hs.1, hs.2, hc k _ hx⟩
theorem chAt_bad {cs : List ChD} {i : Nat} {x : ChD} (h : cs[i]? = some x) (hx : chOkB x = false) : chAt cs i = false := by
  unfold chAt
  rw [h]
  simp [hx]
theorem chAt_zero {cs : List ChD} {x : ChD} (h : cs[0]? = some x) (hx : chOkB x = true) : chAt cs 0 = true := by
  unfold chAt
  rw [h]
  simp [hx]
theorem chAt_succ {cs : List ChD} {j : Nat} {x p : ChD} (h : cs[j + 1]? = some x) (hp : cs[j]? = some p) (hx : chOkB x = true) : chAt cs (j + 1) = Op.bytesLess p.1.toList x.1.toList := by
  unfold chAt
  rw [h]
  simp [hx, hp]
theorem batOk_bad {q : Int} {cs : List ChD} {i : Nat} (hi : i < cs.length) (h : chAt cs i = false) : batOkB (q, cs) = false := by
  unfold batOkB
  rw [List.all_eq_false.2 ⟨i, List.mem_range.2 hi, by simp [h]⟩]
  rfl
theorem batOk_all {q : Int} {cs : List ChD} (h : ∀ j, j < cs.length → chAt cs j = true) : batOkB (q, cs) = (inR q 0 1000000000 && inR (cs.length : Int) 1 40) := by
  unfold batOkB
  rw [List.all_eq_true.2 fun i hi => h i (List.mem_range.1 hi)]
  unfold inR
  rw [Bool.true_and]
  congr 1
  · rw [Bool.decide_and]
  · rw [← Bool.decide_and]
    refine decide_eq_decide.2 ?_
    dsimp only
    omega
theorem chOk_key {k v : ByteArray} {g : Bool} (h : inR (k.size : Int) 1 20 = false) : chOkB (k, v, g) = false := by
  unfold inR at h
  unfold chOkB
  rw [Bool.eq_false_iff]
  intro e
  simp only [Bool.and_eq_true, decide_eq_true_eq] at e
  simp only [Bool.and_eq_false_iff, decide_eq_false_iff_not] at h
  omega
theorem chOk_val {k v : ByteArray} {g : Bool} (h : 2000 < v.size) : chOkB (k, v, g) = false := by
  have : ¬ v.size ≤ 2000 := by omega
  simp [chOkB, this]
theorem chOk_gone {k v : ByteArray} (h : v.size ≠ 0) : chOkB (k, v, true) = false := by simp [chOkB, h]
theorem chOk_ok {k v : ByteArray} {g : Bool} (h : inR (k.size : Int) 1 20 = true) (h1 : v.size ≤ 2000) (h2 : g = true → v.size = 0) : chOkB (k, v, g) = true := by
  unfold inR at h
  simp only [Bool.and_eq_true, decide_eq_true_eq] at h
  have h3 : 1 ≤ k.size := by omega
  have h4 : k.size ≤ 20 := by omega
  cases g
  · simp [chOkB, h3, h4, h1]
  · simp [chOkB, h3, h4, h1, h2 rfl]
theorem ch_step {cs : List ChD} {i : Nat} (h : ∀ j, j < i → chAt cs j = true) (hi : chAt cs i = true) : ∀ j, j < i + 1 → chAt cs j = true := by
  intro j hj
  by_cases e : j = i
  · subst e; exact hi
  · exact h j (by omega)
theorem empty_list {v : ByteArray} (h : v.size ≠ 0) : (v.toList == []) = false := beq_eq_false_iff_ne.mpr fun e => h (by rw [← ub_length]; rw [ByteArray.toList_eq] at e; show v.data.toList.length = 0; rw [e]; rfl)
theorem impl_keyOk_calls (s : ByteArray) (w : World) (hs : s.size ≤ 9223372036854775807) : Calls Try.prog 39 #[.string s] w fun e w' => e = .returned (.bool (inR (s.size : Int) 1 20)) ∧ w = w' := by
  go_enter Try.func39, Try.ntmps39
  go_wp2_with (go_at_call 40; refine (impl_within_calls _ _ _ _).mono ?_; rintro e w' ⟨rfl, rfl⟩)
  go_ret
  exact ⟨rfl, rfl⟩
theorem keyOk_at (s : ByteArray) (w : World) (hs : s.size ≤ 9223372036854775807) {b : Bool} (h : inR (s.size : Int) 1 20 = b) : Calls Try.prog 39 #[.string s] w fun e w' => e = .returned (.bool b) ∧ w' = w := by
  subst h
  exact (impl_keyOk_calls s w hs).mono fun e w' ⟨he, hw⟩ => ⟨he, hw.symm⟩
end Go.Proofs.Ytdkdlgioabjldaa
