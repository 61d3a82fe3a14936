/- Decimal numbers as texts, read back (the plain law): riOf tells the number of at most 10^9 either side that a text is the numeral of; decOf, of those from 0 on. -/
import Derived.Test.YtdoaemagednclaaDoorDigs
import Derived.Lib.AtoiAll
import Derived.Lib.ItoaMem
namespace Go.Proofs.YtdoaemagednclaaDoor
set_option linter.unusedVariables false
set_option linter.unusedSimpArgs false
open Go.RowKit

def isDig (c : UInt8) : Prop := 48 ≤ c.toNat ∧ c.toNat ≤ 57
def decVal (acc : Nat) (l : List UInt8) : Nat := l.foldl (fun a c => a * 10 + (c.toNat - 48)) acc
theorem decVal_snoc (acc : Nat) (l : List UInt8) (c : UInt8) : decVal acc (l ++ [c]) = decVal acc l * 10 + (c.toNat - 48) := by simp [decVal]
theorem decVal_ge : ∀ (l : List UInt8) (acc : Nat), acc ≤ decVal acc l
  | [], _ => Nat.le_refl _
  | c :: l, acc => Nat.le_trans (by omega) (decVal_ge l (acc * 10 + (c.toNat - 48)))
theorem parse_digs : ∀ (l : List UInt8) (acc : Nat), (∀ c ∈ l, isDig c) → decVal acc l ≤ 1000000000000000000 → Lib.parseUint10 acc l = .ok (decVal acc l)
  | [], _, _, _ => rfl
  | c :: l, acc, h, hb => by
    have hc : isDig c := h c (by simp)
    have e : decVal acc (c :: l) = decVal (acc * 10 + (c.toNat - 48)) l := rfl
    have := decVal_ge l (acc * 10 + (c.toNat - 48))
    rw [e] at hb ⊢
    rw [Lib.parseUint10, if_pos ⟨hc.1, hc.2⟩, if_neg (by omega), if_neg (by omega)]
    exact parse_digs l _ (fun d hd => h d (by simp [hd])) hb
theorem decDigits_digs (u : Nat) : (∀ c ∈ Lib.decDigits u, isDig c) ∧ decVal 0 (Lib.decDigits u) = u ∧ Lib.decDigits u ≠ [] := by
  induction u using Nat.strongRecOn with
  | _ u ih =>
    rw [Lib.decDigits]
    by_cases h : u < 10
    · rw [dif_pos h]
      refine ⟨fun c hc => ?_, ?_, by simp⟩
      · obtain rfl := List.mem_singleton.1 hc
        unfold isDig
        rw [UInt8.toNat_ofNat']
        omega
      · simp only [decVal, List.foldl_cons, List.foldl_nil, UInt8.toNat_ofNat']
        omega
    · rw [dif_neg h]
      obtain ⟨h1, h2, _⟩ := ih (u / 10) (by omega)
      refine ⟨fun c hc => ?_, ?_, by simp⟩
      · rcases List.mem_append.1 hc with hc | hc
        · exact h1 c hc
        · obtain rfl := List.mem_singleton.1 hc
          unfold isDig
          rw [UInt8.toNat_ofNat']
          omega
      · rw [decVal_snoc, h2, UInt8.toNat_ofNat']
        omega
theorem itoa_nat (u : Nat) : Lib.itoa (u : Int) = Lib.decDigits u := Lib.itoa_nonneg u
theorem atoi_itoa_nat (u : Nat) (h : u ≤ 1000000000000000000) : Lib.atoiAll (Lib.itoa (u : Int)) = .ok (u : Int) := by
  rw [itoa_nat]
  obtain ⟨h1, h2, h3⟩ := decDigits_digs u
  match hl : Lib.decDigits u with
  | [] => exact (h3 hl).elim
  | c :: r =>
    rw [hl] at h1 h2
    have hc : isDig c := h1 c (by simp)
    have n1 : ¬ (c.toNat = 43 ∨ c.toNat = 45) := by have := hc.1; omega
    have n2 : ¬ c.toNat = 45 := by have := hc.1; omega
    have hp : Lib.parseMag (c :: r) = .ok u := by rw [Lib.parseMag, if_neg (by simp), parse_digs _ 0 h1 (by rw [h2]; exact h), h2]
    have e : (if c.toNat = 43 ∨ c.toNat = 45 then r else c :: r) = c :: r := if_neg n1
    unfold Lib.atoiAll
    dsimp only
    rw [e, hp]
    dsimp only
    rw [if_neg (by omega), if_neg (by omega), if_neg n2]
theorem atoi_itoa_neg (u : Nat) (h0 : 1 ≤ u) (h : u ≤ 1000000000000000000) : Lib.atoiAll (Lib.itoa (-(u : Int))) = .ok (-(u : Int)) := by
  rw [Lib.itoa_neg u h0]
  obtain ⟨h1, h2, h3⟩ := decDigits_digs u
  have hp : Lib.parseMag (Lib.decDigits u) = .ok u := by rw [Lib.parseMag, if_neg h3, parse_digs _ 0 h1 (by rw [h2]; exact h), h2]
  have n1 : (45 : UInt8).toNat = 45 := rfl
  unfold Lib.atoiAll
  dsimp only
  rw [if_pos (show (45 : UInt8).toNat = 43 ∨ (45 : UInt8).toNat = 45 from .inr rfl), hp]
  dsimp only
  rw [if_neg (by omega), if_neg (by omega), if_pos n1]
theorem atoi_itoa (n : Int) (h : -1000000000000000000 ≤ n ∧ n ≤ 1000000000000000000) : Lib.atoiAll (Lib.itoa n) = .ok n := by
  by_cases h0 : 0 ≤ n
  · obtain ⟨u, rfl⟩ := Int.eq_ofNat_of_zero_le h0
    exact atoi_itoa_nat u (by omega)
  · obtain ⟨u, rfl⟩ : ∃ u : Nat, n = -(u : Int) := ⟨n.natAbs, by omega⟩
    exact atoi_itoa_neg u (by omega) (by omega)
/-- The number that the text is the numeral of, at most 10^9 either side. -/
def riOf (l : List UInt8) : Option Int := match Lib.atoiAll l with
  | .ok v => if (-1000000000 ≤ v ∧ v ≤ 1000000000) ∧ Lib.itoa v = l then some v else none
  | _ => none
theorem riOf_some {l : List UInt8} {n : Int} (hb : -1000000000 ≤ n ∧ n ≤ 1000000000) (h : Lib.itoa n = l) : riOf l = some n := by
  unfold riOf
  rw [← h, atoi_itoa n ⟨by omega, by omega⟩]
  dsimp only
  rw [if_pos ⟨hb, rfl⟩]
theorem riOf_spec {l : List UInt8} {n : Int} (h : riOf l = some n) : (-1000000000 ≤ n ∧ n ≤ 1000000000) ∧ Lib.itoa n = l := by
  unfold riOf at h
  split at h
  · split at h
    · obtain rfl := Option.some.inj h
      assumption
    · cases h
  · cases h
theorem riOf_none {l : List UInt8} (h : ∀ n : Int, (-1000000000 ≤ n ∧ n ≤ 1000000000) → Lib.itoa n = l → False) : riOf l = none := by
  match hr : riOf l with
  | none => rfl
  | some n => exact (h n (riOf_spec hr).1 (riOf_spec hr).2).elim
theorem riOf_itoa (n : Int) (hb : -1000000000 ≤ n ∧ n ≤ 1000000000) : riOf (Lib.itoa n) = some n := riOf_some hb rfl
/-- .. from 0 on. -/
def decOf (l : List UInt8) : Option Nat := match riOf l with
  | some n => if 0 ≤ n then some n.toNat else none
  | none => none
theorem decOf_some {l : List UInt8} {n : Nat} (hb : n ≤ 1000000000) (h : Lib.itoa (n : Int) = l) : decOf l = some n := by
  unfold decOf
  rw [riOf_some ⟨by omega, by omega⟩ h]
  dsimp only
  rw [if_pos (by omega)]
  simp
theorem decOf_spec {l : List UInt8} {n : Nat} (h : decOf l = some n) : n ≤ 1000000000 ∧ Lib.itoa (n : Int) = l := by
  unfold decOf at h
  split at h
  · rename_i v hv
    have hs := riOf_spec hv
    split at h
    · obtain rfl := Option.some.inj h
      rw [Int.toNat_of_nonneg (by assumption)]
      exact ⟨by omega, hs.2⟩
    · cases h
  · cases h
theorem decOf_none {l : List UInt8} (h : ∀ n : Nat, n ≤ 1000000000 → Lib.itoa (n : Int) = l → False) : decOf l = none := by
  match hr : decOf l with
  | none => rfl
  | some n => exact (h n (decOf_spec hr).1 (decOf_spec hr).2).elim
theorem decOf_long {l : List UInt8} (h : 10 < l.length) : decOf l = none := decOf_none fun n hb e => by
  have h1 := digs_length 10 n (by omega)
  unfold digs at h1
  rw [itoa_nat] at e
  rw [← e] at h
  by_cases h0 : n = 0
  · subst h0
    rw [Lib.decDigits, dif_pos (by omega)] at h
    simp at h
  · rw [if_neg h0] at h1
    omega
theorem decOf_odd {l : List UInt8} {i : Nat} {c : UInt8} (hc : l[i]? = some c) (h : ¬ isDig c) : decOf l = none := decOf_none fun n hb e => by
  rw [itoa_nat] at e
  exact h ((decDigits_digs n).1 c (by rw [e]; exact List.mem_of_getElem? hc))
theorem decVal_itoa {l : List UInt8} {n : Nat} (e : Lib.itoa (n : Int) = l) : decVal 0 l = n := by
  rw [itoa_nat] at e
  rw [← e]
  exact (decDigits_digs n).2.1
theorem decOf_big {l : List UInt8} (h : 1000000000 < decVal 0 l) : decOf l = none := decOf_none fun n hb e => by
  have := decVal_itoa e
  omega
theorem decOf_ne {l : List UInt8} (h : Lib.itoa ((decVal 0 l : Nat) : Int) ≠ l) : decOf l = none := decOf_none fun n hb e => by
  apply h
  rw [decVal_itoa e]
  exact e
theorem riOf_head {l : List UInt8} (h : l[0]? ≠ some 45) : riOf l = (decOf l).map fun n => (n : Int) := by
  match hr : riOf l with
  | none => simp [decOf, hr]
  | some n =>
    obtain ⟨hb, he⟩ := riOf_spec hr
    by_cases h0 : 0 ≤ n
    · obtain ⟨u, rfl⟩ := Int.eq_ofNat_of_zero_le h0
      rw [decOf_some (by omega) he]
      rfl
    · obtain ⟨u, rfl⟩ : ∃ u : Nat, n = -(u : Int) := ⟨n.natAbs, by omega⟩
      rw [Lib.itoa_neg u (by omega)] at he
      exact (h (by rw [← he]; rfl)).elim
theorem riOf_minus (r : List UInt8) : riOf (45 :: r) = match decOf r with | some n => if n = 0 then none else some (-(n : Int)) | none => none := by
  match hr : decOf r with
  | some n =>
    obtain ⟨hb, he⟩ := decOf_spec hr
    dsimp only
    by_cases h0 : n = 0
    · rw [if_pos h0]
      refine riOf_none fun m hm e => ?_
      by_cases h1 : 0 ≤ m
      · obtain ⟨u, rfl⟩ := Int.eq_ofNat_of_zero_le h1
        rw [itoa_nat] at e
        have := (decDigits_digs u).1 45 (by rw [e]; simp)
        have := this.1
        simp at this
      · obtain ⟨u, rfl⟩ : ∃ u : Nat, m = -(u : Int) := ⟨m.natAbs, by omega⟩
        rw [Lib.itoa_neg u (by omega)] at e
        have e2 : Lib.itoa (u : Int) = r := by rw [itoa_nat]; exact (List.cons.inj e).2
        have h2 := decVal_itoa e2
        have h3 := decVal_itoa he
        omega
    · rw [if_neg h0]
      refine riOf_some ⟨by omega, by omega⟩ ?_
      rw [Lib.itoa_neg n (by omega), ← itoa_nat, he]
  | none =>
    refine riOf_none fun m hm e => ?_
    by_cases h1 : 0 ≤ m
    · obtain ⟨u, rfl⟩ := Int.eq_ofNat_of_zero_le h1
      rw [itoa_nat] at e
      have := (decDigits_digs u).1 45 (by rw [e]; simp)
      have := this.1
      simp at this
    · obtain ⟨u, rfl⟩ : ∃ u : Nat, m = -(u : Int) := ⟨m.natAbs, by omega⟩
      rw [Lib.itoa_neg u (by omega)] at e
      have e2 : Lib.itoa (u : Int) = r := by rw [itoa_nat]; exact (List.cons.inj e).2
      rw [decOf_some (by omega) e2] at hr
      cases hr
end Go.Proofs.YtdoaemagednclaaDoor
