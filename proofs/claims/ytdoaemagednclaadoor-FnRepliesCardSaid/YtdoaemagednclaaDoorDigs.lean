/- Decimal digits: what stands ahead of the digits that are still to come. -/
import Derived.Test.YtdoaemagednclaaDoorBase
namespace Go.Proofs.YtdoaemagednclaaDoor
set_option linter.unusedVariables false
set_option linter.unusedSimpArgs false
open Go.RowKit

/-- What stands ahead of the digits that are still to come: the digits of u, none for 0. -/
def digs (u : Nat) : List UInt8 := if u = 0 then [] else Lib.decDigits u
theorem digs_step (u : Nat) (h : u ≠ 0) : digs u = digs (u / 10) ++ [UInt8.ofNat (48 + u % 10)] := by
  unfold digs
  rw [if_neg h, Lib.decDigits]
  by_cases h9 : u < 10
  · rw [dif_pos h9, if_pos (by omega), show u % 10 = u by omega]; rfl
  · rw [dif_neg h9, if_neg (by omega)]
theorem itoa_pos {n : Int} (h : 0 < n) : Lib.itoa n = digs n.natAbs := by
  unfold Lib.itoa digs
  rw [if_neg (by omega), if_neg (by omega), show n.toNat = n.natAbs by omega]
theorem itoa_neg {n : Int} (h : n < 0) : Lib.itoa n = 45 :: digs n.natAbs := by
  unfold Lib.itoa digs
  rw [if_pos h, if_neg (by omega)]
theorem digs_length (k : Nat) : ∀ u : Nat, u < 10 ^ k → (digs u).length ≤ k := by
  induction k with
  | zero => intro u h; rw [show u = 0 by simpa using h]; simp [digs]
  | succ k ih =>
    intro u h
    by_cases h0 : u = 0
    · subst h0; simp [digs]
    · rw [digs_step u h0, List.length_append]
      have := ih (u / 10) (by rw [Nat.pow_succ] at h; omega)
      simp only [List.length_cons, List.length_nil]
      omega
end Go.Proofs.YtdoaemagednclaaDoor
