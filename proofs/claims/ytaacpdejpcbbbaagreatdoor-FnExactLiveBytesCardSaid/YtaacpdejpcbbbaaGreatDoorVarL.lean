/- Numbers as bytes of seven bits each, the last one below 128 (the plain law): varBytes writes them, readVar reads them. -/
import Derived.Test.YtaacpdejpcbbbaaGreatDoorBase
namespace Go.Proofs.YtaacpdejpcbbbaaGreatDoor
set_option linter.unusedVariables false
set_option linter.unusedSimpArgs false
open Go.RowKit

def varBytes (n : Nat) : List UInt8 := if h : 127 < n then UInt8.ofNat (n % 128 + 128) :: varBytes (n / 128) else [UInt8.ofNat n]
termination_by n
decreasing_by omega
theorem varBytes_big {n : Nat} (h : 127 < n) : varBytes n = UInt8.ofNat (n % 128 + 128) :: varBytes (n / 128) := by rw [varBytes, dif_pos h]
theorem varBytes_small {n : Nat} (h : n ≤ 127) : varBytes n = [UInt8.ofNat n] := by rw [varBytes, dif_neg (by omega)]
theorem varBytes_pos (n : Nat) : 1 ≤ (varBytes n).length := by
  by_cases h : 127 < n
  · rw [varBytes_big h, List.length_cons]; omega
  · rw [varBytes_small (by omega)]; simp
theorem varBytes_length : ∀ (k n : Nat), n < 128 ^ (k + 1) → (varBytes n).length ≤ k + 1
  | 0, n, h => by rw [varBytes_small (by omega)]; simp
  | k + 1, n, h => by
    by_cases h1 : 127 < n
    · rw [varBytes_big h1, List.length_cons]
      have := varBytes_length k (n / 128) (by rw [Nat.pow_succ] at h; omega)
      omega
    · rw [varBytes_small (by omega)]; simp
/-- The number that these bytes tell. -/
def valOf : List UInt8 → Nat
  | [] => 0
  | c :: l => c.toNat % 128 + 128 * valOf l
theorem valOf_snoc (l : List UInt8) (c : UInt8) : valOf (l ++ [c]) = valOf l + 128 ^ l.length * (c.toNat % 128) := by
  induction l with
  | nil => simp [valOf]
  | cons d l ih =>
    rw [List.cons_append, valOf, ih, valOf, List.length_cons, Nat.pow_succ, Nat.mul_add, ← Nat.mul_assoc, Nat.mul_comm 128 (128 ^ l.length)]
    omega
theorem valOf_lt (l : List UInt8) : valOf l < 128 ^ l.length := by
  induction l with
  | nil => simp [valOf]
  | cons c l ih =>
    rw [valOf, List.length_cons, Nat.pow_succ]
    have : c.toNat % 128 < 128 := Nat.mod_lt _ (by omega)
    omega
/-- Bytes from 128 on, and one below. -/
def VarForm : List UInt8 → Prop
  | [] => False
  | [c] => c.toNat < 128
  | c :: d :: l => 128 ≤ c.toNat ∧ VarForm (d :: l)
theorem varBytes_form (n : Nat) : VarForm (varBytes n) := by
  induction n using Nat.strongRecOn with
  | _ n ih =>
    by_cases h : 127 < n
    · rw [varBytes_big h]
      have h1 := ih (n / 128) (by omega)
      have hp := varBytes_pos (n / 128)
      match hv : varBytes (n / 128) with
      | [] => rw [hv] at hp; simp at hp
      | d :: l =>
        rw [hv] at h1
        exact ⟨by rw [UInt8.toNat_ofNat']; omega, h1⟩
    · rw [varBytes_small (by omega)]
      show (UInt8.ofNat n).toNat < 128
      rw [UInt8.toNat_ofNat']; omega
theorem valOf_varBytes (n : Nat) : valOf (varBytes n) = n := by
  induction n using Nat.strongRecOn with
  | _ n ih =>
    by_cases h : 127 < n
    · rw [varBytes_big h, valOf, ih (n / 128) (by omega), UInt8.toNat_ofNat']
      omega
    · rw [varBytes_small (by omega), valOf, valOf, UInt8.toNat_ofNat']
      omega
theorem form_eq_of_length : ∀ (p : List UInt8), VarForm p → (varBytes (valOf p)).length = p.length → varBytes (valOf p) = p
  | [], h, _ => h.elim
  | [c], h, _ => by
    have hc : c.toNat < 128 := h
    have : valOf [c] = c.toNat := by simp only [valOf]; omega
    rw [this, varBytes_small (by omega)]
    simp
  | c :: d :: l, h, hl => by
    have ih := form_eq_of_length (d :: l) h.2
    have hv : valOf (c :: d :: l) = c.toNat % 128 + 128 * valOf (d :: l) := rfl
    have hb : 127 < valOf (c :: d :: l) := by
      refine Nat.lt_of_not_le fun h1 => ?_
      rw [varBytes_small h1] at hl
      simp at hl
    rw [varBytes_big hb] at hl ⊢
    have e1 : valOf (c :: d :: l) / 128 = valOf (d :: l) := by rw [hv]; omega
    have e2 : UInt8.ofNat (valOf (c :: d :: l) % 128 + 128) = c := by
      have := h.1
      have := c.toNat_lt
      rw [hv, show (c.toNat % 128 + 128 * valOf (d :: l)) % 128 + 128 = c.toNat by omega]
      simp
    rw [e1] at hl ⊢
    rw [e2, ih (by simpa using hl)]
theorem form_len_iff {p : List UInt8} (h : VarForm p) : (varBytes (valOf p)).length = p.length ↔ varBytes (valOf p) = p := ⟨form_eq_of_length p h, fun e => by rw [e]⟩
/-- How many of the next f bytes are from 128 on ahead of one below; none, when there is no such one. -/
def scanVar : Nat → List UInt8 → Option Nat
  | 0, _ => none
  | _ + 1, [] => none
  | f + 1, c :: l => if c.toNat < 128 then some 0 else (scanVar f l).map (· + 1)
theorem scan_form : ∀ (f : Nat) (l : List UInt8) (k : Nat), scanVar f l = some k → k < l.length ∧ k < f ∧ VarForm (l.take (k + 1))
  | 0, _, _, h => by simp [scanVar] at h
  | _ + 1, [], _, h => by simp [scanVar] at h
  | f + 1, c :: l, k, h => by
    rw [scanVar] at h
    split at h
    · obtain rfl := Option.some.inj h
      exact ⟨by simp, by omega, by assumption⟩
    · obtain ⟨j, hj, rfl⟩ := Option.map_eq_some_iff.1 h
      obtain ⟨h1, h2, h3⟩ := scan_form f l j hj
      refine ⟨by simpa using h1, by omega, ?_⟩
      match l with
      | [] => simp at h1
      | d :: l => exact ⟨by omega, h3⟩
theorem scan_of_form : ∀ (f : Nat) (p l : List UInt8), VarForm p → p.length ≤ f → scanVar f (p ++ l) = some (p.length - 1)
  | _, [], _, h, _ => h.elim
  | 0, c :: p, _, _, h => by simp at h
  | f + 1, [c], l, h, _ => by
    have hc : c.toNat < 128 := h
    simp [scanVar, hc]
  | f + 1, c :: d :: p, l, h, hf => by
    have ih := scan_of_form f (d :: p) l h.2 (by simpa using hf)
    have : ¬ c.toNat < 128 := by have := h.1; omega
    rw [List.cons_append, scanVar, if_neg this, ih]
    simp
/-- All of the first i bytes are from 128 on. -/
def VarHi (l : List UInt8) (i : Nat) : Prop := ∀ j, j < i → ∃ c, l[j]? = some c ∧ 128 ≤ c.toNat
theorem VarHi.step {l : List UInt8} {i : Nat} (h : VarHi l i) {c : UInt8} (hc : l[i]? = some c) (h1 : 128 ≤ c.toNat) : VarHi l (i + 1) := by
  intro j hj
  by_cases he : j = i
  · subst he; exact ⟨c, hc, h1⟩
  · exact h j (by omega)
theorem scan_hi : ∀ (f i : Nat) (l : List UInt8), VarHi l i → (i = f ∨ i = l.length) → scanVar f l = none
  | 0, _, _, _, _ => rfl
  | _ + 1, _, [], _, _ => rfl
  | f + 1, i, c :: l, h, he => by
    obtain ⟨j, rfl⟩ : ∃ j, i = j + 1 := ⟨i - 1, by rw [List.length_cons] at he; omega⟩
    obtain ⟨d, hd, h1⟩ := h 0 (by omega)
    obtain rfl : c = d := by simpa using hd
    have ih := scan_hi f j l (fun k hk => by simpa using h (k + 1) (by omega)) (by rw [List.length_cons] at he; omega)
    rw [scanVar, if_neg (by omega), ih]
    rfl
theorem scan_at : ∀ (f i : Nat) (l : List UInt8) (c : UInt8), VarHi l i → i < f → l[i]? = some c → c.toNat < 128 → scanVar f l = some i
  | 0, _, _, _, _, h, _, _ => by omega
  | _ + 1, _, [], _, _, _, h, _ => by simp at h
  | f + 1, 0, d :: l, c, _, _, hc, h1 => by
    obtain rfl : d = c := by simpa using hc
    rw [scanVar, if_pos h1]
  | f + 1, i + 1, d :: l, c, h, hf, hc, h1 => by
    obtain ⟨x, hx, h2⟩ := h 0 (by omega)
    obtain rfl : d = x := by simpa using hx
    have ih := scan_at f i l c (fun k hk => by simpa using h (k + 1) (by omega)) (by omega) (by simpa using hc) h1
    rw [scanVar, if_neg (by omega), ih]
    rfl
/-- The number at the head of these bytes, and how many bytes it takes. -/
def readVar (l : List UInt8) : Option (Nat × Nat) := match scanVar 5 l with
  | some k => if valOf (l.take (k + 1)) ≤ 1000000000 ∧ (varBytes (valOf (l.take (k + 1)))).length = k + 1 then some (valOf (l.take (k + 1)), k + 1) else none
  | none => none
theorem readVar_spec {l : List UInt8} {n k : Nat} (h : readVar l = some (n, k)) : n ≤ 1000000000 ∧ l.take k = varBytes n ∧ k ≤ l.length ∧ 1 ≤ k ∧ k ≤ 5 := by
  unfold readVar at h
  split at h
  · rename_i j hj
    obtain ⟨h1, h2, h3⟩ := scan_form 5 l j hj
    split at h
    · rename_i hc
      simp only [Option.some.injEq, Prod.mk.injEq] at h
      obtain ⟨rfl, rfl⟩ := h
      refine ⟨hc.1, ?_, by omega, by omega, by omega⟩
      exact ((form_len_iff h3).1 (by rw [hc.2, List.length_take]; omega)).symm
    · cases h
  · cases h
theorem readVar_varBytes (n : Nat) (h : n ≤ 1000000000) (l : List UInt8) : readVar (varBytes n ++ l) = some (n, (varBytes n).length) := by
  have hl := varBytes_length 4 n (by omega)
  have hp := varBytes_pos n
  unfold readVar
  rw [scan_of_form 5 _ l (varBytes_form n) hl]
  dsimp only
  rw [show (varBytes n).length - 1 + 1 = (varBytes n).length by omega, List.take_left, valOf_varBytes, if_pos ⟨h, rfl⟩]
theorem readVar_none_hi {l : List UInt8} {i : Nat} (h : VarHi l i) (he : i = 5 ∨ i = l.length) : readVar l = none := by
  unfold readVar
  rw [scan_hi 5 i l h he]
theorem readVar_at {l : List UInt8} {i : Nat} {c : UInt8} (h : VarHi l i) (hi : i < 5) (hc : l[i]? = some c) (h1 : c.toNat < 128) :
    readVar l = if valOf (l.take (i + 1)) ≤ 1000000000 ∧ (varBytes (valOf (l.take (i + 1)))).length = i + 1 then some (valOf (l.take (i + 1)), i + 1) else none := by
  unfold readVar
  rw [scan_at 5 i l c h hi hc h1]
theorem varForm_at {l : List UInt8} {i : Nat} {c : UInt8} (h : VarHi l i) (hi : i < 5) (hc : l[i]? = some c) (h1 : c.toNat < 128) : VarForm (l.take (i + 1)) := (scan_form 5 l i (scan_at 5 i l c h hi hc h1)).2.2
theorem take_len {l : List UInt8} {i : Nat} {c : UInt8} (hc : l[i]? = some c) : (l.take (i + 1)).length = i + 1 := by
  have := (List.getElem?_eq_some_iff.1 hc).1
  rw [List.length_take]; omega
theorem valOf_take {l : List UInt8} {i : Nat} {c : UInt8} (hc : l[i]? = some c) : valOf (l.take (i + 1)) = valOf (l.take i) + 128 ^ i * (c.toNat % 128) := by
  have hi := (List.getElem?_eq_some_iff.1 hc).1
  have e : l.take (i + 1) = l.take i ++ [c] := by
    obtain ⟨hk, rfl⟩ := List.getElem?_eq_some_iff.1 hc
    exact List.take_succ_eq_append_getElem hk
  rw [e, valOf_snoc, List.length_take, Nat.min_eq_left (by omega)]
end Go.Proofs.YtaacpdejpcbbbaaGreatDoor
