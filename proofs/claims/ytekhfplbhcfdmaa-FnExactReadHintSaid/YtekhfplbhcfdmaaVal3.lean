/- The reference's texts of values: l05Short, ValText. -/
import Derived.Test.YtekhfplbhcfdmaaVal2
import Derived.Test.YtekhfplbhcfdmaaVar
namespace Go.Proofs.Ytekhfplbhcfdmaa
set_option linter.unusedVariables false
set_option linter.unusedSimpArgs false
open Go.RowKit
attribute [local go_sem] bs_size List.length_cons List.length_nil List.length_append

def shortB (s : List UInt8) : List UInt8 := varBytes s.length ++ s
theorem shortB_len (s : ByteArray) (h : s.size ≤ 1125899906842624) : (shortB (ub s)).length ≤ s.size + 9 := by
  have := var_len (n := s.size) (by omega)
  unfold shortB
  rw [List.length_append, ub_length]
  omega
theorem spec_l05Short_calls (s : ByteArray) (w : World) (hs : s.size ≤ 1125899906842624) : Calls Try.prog 77 #[.string s] w fun e w' => e = .returned (.string (bs (shortB (ub s)))) ∧ Below w.heap.size w w' := by
  have h9 := var_len (n := s.size) (by omega)
  go_enter Try.func77, Try.ntmps77
  go_wp2_with fail
  go_at_call 76
  refine (spec_l01Var_calls s.size _ (by omega)).mono ?_
  rintro e w' ⟨rfl, hb⟩
  go_wp2
  go_ret
  exact ⟨ret_str (by rw [shortB, ub_length, ← bs_append, bs_ub]), hb⟩
theorem valOk_bounds {k u : Int} {t : ByteArray} {xs : List ByteArray} (h : valOkB k u t xs = true) : (1 ≤ k ∧ k ≤ 4) ∧ (0 ≤ u ∧ u ≤ 100000) ∧ t.size ≤ 60 ∧ xs.length ≤ 24 ∧ ∀ x ∈ xs, x.size ≤ 60 := by
  have hu : 0 ≤ u ∧ u ≤ 100000 := Decidable.byContradiction fun c => by rw [valOk_late c] at h; cases h
  have hk : 1 ≤ k ∧ k ≤ 4 := Decidable.byContradiction fun c => by rw [valOk_kind c] at h; cases h
  by_cases h1 : k = 1
  · subst h1
    rw [valOk_text hu] at h
    simp only [Bool.and_eq_true, decide_eq_true_eq] at h
    have hx : xs = [] := List.eq_nil_of_length_eq_zero h.2
    exact ⟨hk, hu, h.1, by omega, by rw [hx]; simp⟩
  · rw [valOk_items hu (by omega)] at h
    simp only [Bool.and_eq_true, decide_eq_true_eq] at h
    obtain ⟨h0, hi⟩ := h
    have hm : inR (xs.length : Int) 1 24 = true := by
      cases hc : inR (xs.length : Int) 1 24
      · rw [itemsB_many hc] at hi; cases hi
      · rfl
    have hl : xs.length ≤ 24 := by
      unfold inR at hm
      simp only [Bool.and_eq_true, decide_eq_true_eq] at hm
      omega
    refine ⟨hk, hu, by omega, hl, fun x hx => ?_⟩
    obtain ⟨j, hj, rfl⟩ := List.mem_iff_getElem.1 hx
    refine Nat.le_of_not_lt fun c => ?_
    rw [itemsB_bad hj (badAt_long (List.getElem?_eq_getElem hj) c)] at hi
    cases hi
def flatS (xs : List ByteArray) : List UInt8 := (xs.map fun x => shortB (ub x)).flatten
theorem flatS_snoc (xs : List ByteArray) (x : ByteArray) : flatS (xs ++ [x]) = flatS xs ++ shortB (ub x) := by simp [flatS]
theorem flatS_len (xs : List ByteArray) (h : ∀ x ∈ xs, x.size ≤ 60) : (flatS xs).length ≤ 69 * xs.length := by
  induction xs with
  | nil => simp [flatS]
  | cons x xs ih =>
    have e : flatS (x :: xs) = shortB (ub x) ++ flatS xs := by simp [flatS]
    have h1 := shortB_len x (by have := h x (by simp); omega)
    have h2 := ih fun y hy => h y (by simp [hy])
    have h3 := h x (by simp)
    rw [e, List.length_append, List.length_cons]
    omega
def vHead (k u : Int) (t : ByteArray) (n : Nat) : List UInt8 := UInt8.ofNat k.toNat :: varBytes u.toNat ++ shortB (ub t) ++ varBytes n
def valBytes (k u : Int) (t : ByteArray) (xs : List ByteArray) : List UInt8 := vHead k u t xs.length ++ flatS xs
def valTextB (k u : Int) (t : ByteArray) (xs : List ByteArray) : Option (List UInt8) := if valOkB k u t xs = true then some (valBytes k u t xs) else none
theorem vHead_len {k u : Int} {t : ByteArray} {n : Nat} (hu : 0 ≤ u ∧ u ≤ 100000) (ht : t.size ≤ 60) (hn : n ≤ 24) : (vHead k u t n).length ≤ 100 := by
  have h1 := var_len (n := u.toNat) (by omega)
  have h2 := shortB_len t (by omega)
  have h3 := var_len (n := n) (by omega)
  simp only [vHead, List.length_append, List.length_cons]
  omega
end Go.Proofs.Ytekhfplbhcfdmaa
