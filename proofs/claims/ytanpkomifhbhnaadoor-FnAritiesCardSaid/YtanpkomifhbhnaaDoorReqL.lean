/- The plain law of requests: a number with CR and LF behind it, an argument, a request in its two forms. -/
import Derived.Test.YtanpkomifhbhnaaDoorDecL
import Derived.Test.YtanpkomifhbhnaaDoorIn
import Derived.Lib.SplitLaws
namespace Go.Proofs.YtanpkomifhbhnaaDoor
set_option linter.unusedVariables false
set_option linter.unusedSimpArgs false
open Go.RowKit

def digB (c : UInt8) : Bool := decide (48 ≤ c.toNat) && decide (c.toNat ≤ 57)
theorem digB_iff (c : UInt8) : digB c = true ↔ isDig c := by simp [digB, isDig]
/-- All of the first i bytes are figures. -/
def DigPre (l : List UInt8) (i : Nat) : Prop := ∀ j, j < i → ∃ c, l[j]? = some c ∧ isDig c
def digN (l : List UInt8) : Nat := (l.takeWhile digB).length
theorem DigPre.step {l : List UInt8} {i : Nat} (h : DigPre l i) {c : UInt8} (hc : l[i]? = some c) (h1 : isDig c) : DigPre l (i + 1) := by
  intro j hj
  by_cases he : j = i
  · subst he; exact ⟨c, hc, h1⟩
  · exact h j (by omega)
theorem DigPre.zero (l : List UInt8) : DigPre l 0 := fun j hj => by omega
theorem digPre_tail {c : UInt8} {l : List UInt8} {i : Nat} (h : DigPre (c :: l) (i + 1)) : isDig c ∧ DigPre l i := by
  obtain ⟨d, hd, h1⟩ := h 0 (by omega)
  obtain rfl : c = d := by simpa using hd
  exact ⟨h1, fun j hj => by simpa using h (j + 1) (by omega)⟩
theorem digN_ge : ∀ (l : List UInt8) (i : Nat), DigPre l i → i ≤ digN l
  | _, 0, _ => Nat.zero_le _
  | [], i + 1, h => by obtain ⟨c, hc, _⟩ := h 0 (by omega); simp at hc
  | c :: l, i + 1, h => by
    obtain ⟨h1, h2⟩ := digPre_tail h
    have := digN_ge l i h2
    unfold digN at this ⊢
    rw [List.takeWhile_cons, if_pos ((digB_iff c).2 h1), List.length_cons]
    omega
theorem digN_at : ∀ (l : List UInt8) (i : Nat), DigPre l i → (i = l.length ∨ ∃ c, l[i]? = some c ∧ ¬ isDig c) → digN l = i
  | [], 0, _, _ => rfl
  | c :: l, 0, _, h => by
    rcases h with h | ⟨d, hd, h1⟩
    · simp at h
    · obtain rfl : c = d := by simpa using hd
      have : digB c = false := by
        cases hb : digB c
        · rfl
        · exact (h1 ((digB_iff c).1 hb)).elim
      simp [digN, this]
  | [], i + 1, h, _ => by obtain ⟨c, hc, _⟩ := h 0 (by omega); simp at hc
  | c :: l, i + 1, h, he => by
    obtain ⟨h1, h2⟩ := digPre_tail h
    have := digN_at l i h2 (by simpa using he)
    unfold digN at this ⊢
    rw [List.takeWhile_cons, if_pos ((digB_iff c).2 h1), List.length_cons, this]
theorem digN_pre : ∀ (l : List UInt8), DigPre l (digN l) ∧ digN l ≤ l.length
  | [] => ⟨fun j hj => by simp [digN] at hj, by simp [digN]⟩
  | c :: l => by
    obtain ⟨h1, h2⟩ := digN_pre l
    by_cases hb : digB c = true
    · have e : digN (c :: l) = digN l + 1 := by simp [digN, hb]
      rw [e]
      refine ⟨fun j hj => ?_, by rw [List.length_cons]; omega⟩
      cases j with
      | zero => exact ⟨c, rfl, (digB_iff c).1 hb⟩
      | succ j => simpa using h1 j (by omega)
    · have e : digN (c :: l) = 0 := by simp [digN, hb]
      rw [e]
      exact ⟨DigPre.zero _, Nat.zero_le _⟩
theorem decVal_app (acc : Nat) (p q : List UInt8) : decVal acc (p ++ q) = decVal (decVal acc p) q := by simp [decVal]
theorem decVal_mono {l : List UInt8} {i j : Nat} (h : i ≤ j) : decVal 0 (l.take i) ≤ decVal 0 (l.take j) := by
  have e : l.take j = l.take i ++ (l.take j).drop i := by
    have := (List.take_append_drop i (l.take j)).symm
    rwa [List.take_take, Nat.min_eq_left h] at this
  rw [e, decVal_app]
  exact decVal_ge _ _
theorem decVal_take {l : List UInt8} {i : Nat} {c : UInt8} (hc : l[i]? = some c) : decVal 0 (l.take (i + 1)) = decVal 0 (l.take i) * 10 + (c.toNat - 48) := by
  obtain ⟨hk, rfl⟩ := List.getElem?_eq_some_iff.1 hc
  rw [List.take_succ_eq_append_getElem hk, decVal_snoc]
theorem decVal_head {l : List UInt8} {i : Nat} {c : UInt8} (hi : 0 < i) (hc : l[0]? = some c) : c.toNat - 48 ≤ decVal 0 (l.take i) := by
  have h1 : decVal 0 (l.take 1) = decVal 0 (l.take 0) * 10 + (c.toNat - 48) := decVal_take hc
  have h2 := decVal_mono (l := l) (i := 1) (j := i) hi
  have e00 : decVal 0 (l.take 0) = 0 := by simp [decVal]
  omega
/-- A number of at most 'most', CR and LF behind it: the number, how many bytes, 1; 0: more bytes could make it one; 2: none could. -/
def numB (most : Nat) (l : List UInt8) : Nat × Nat × Nat :=
  if (1 < digN l ∧ l[0]? = some 48) ∨ most < decVal 0 (l.take (digN l)) then (0, 0, 2)
  else if digN l = l.length then (0, 0, 0)
  else if digN l = 0 ∨ l[digN l]? ≠ some 13 then (0, 0, 2)
  else if digN l + 1 = l.length then (0, 0, 0)
  else if l[digN l + 1]? ≠ some 10 then (0, 0, 2)
  else (decVal 0 (l.take (digN l)), digN l + 2, 1)
theorem numB_zero {most : Nat} {l : List UInt8} {i : Nat} (h : DigPre l (i + 1)) (hi : 0 < i) (h0 : decVal 0 (l.take i) = 0) : numB most l = (0, 0, 2) := by
  have h1 := digN_ge l (i + 1) h
  obtain ⟨c, hc, hd⟩ := h 0 (by omega)
  have h2 := decVal_head hi hc
  unfold isDig at hd
  have hc48 : c = 48 := UInt8.toNat_inj.1 (by show c.toNat = 48; omega)
  unfold numB
  rw [if_pos (.inl ⟨by omega, by rw [hc, hc48]⟩)]
theorem numB_lead {most : Nat} {l : List UInt8} (h : 1 < digN l) (h0 : l[0]? = some 48) : numB most l = (0, 0, 2) := by
  unfold numB
  rw [if_pos (.inl ⟨h, h0⟩)]
theorem numB_over {most : Nat} {l : List UInt8} {i : Nat} (h : DigPre l i) (h0 : most < decVal 0 (l.take i)) : numB most l = (0, 0, 2) := by
  have h1 := decVal_mono (l := l) (digN_ge l i h)
  unfold numB
  rw [if_pos (.inr (by omega))]
/-- The first i bytes are a number's figures, so far. -/
def NumPre (most : Nat) (l : List UInt8) (i : Nat) : Prop := DigPre l i ∧ decVal 0 (l.take i) ≤ most ∧ (i ≤ 1 ∨ l[0]? ≠ some 48)
theorem NumPre.zero (most : Nat) (l : List UInt8) : NumPre most l 0 := ⟨DigPre.zero l, by simp [decVal], .inl (by omega)⟩
theorem NumPre.step {most : Nat} {l : List UInt8} {i : Nat} (h : NumPre most l i) {c : UInt8} (hc : l[i]? = some c) (hd : isDig c) (hz : i = 0 ∨ decVal 0 (l.take i) ≠ 0) (hv : decVal 0 (l.take (i + 1)) ≤ most) : NumPre most l (i + 1) := by
  obtain ⟨h1, _, h3⟩ := h
  refine ⟨h1.step hc hd, hv, ?_⟩
  rcases hz with rfl | hz
  · exact .inl (by omega)
  · rcases h3 with h3 | h3
    · by_cases h0 : i = 0
      · exact .inl (by omega)
      · obtain rfl : i = 1 := by omega
        refine .inr fun e => hz ?_
        rw [decVal_take e]
        simp [decVal]
    · exact .inr h3
theorem numB_of {most : Nat} {l : List UInt8} {i : Nat} (h : NumPre most l i) (he : digN l = i) :
    numB most l = if i = l.length then (0, 0, 0) else if i = 0 ∨ l[i]? ≠ some 13 then (0, 0, 2) else if i + 1 = l.length then (0, 0, 0) else if l[i + 1]? ≠ some 10 then (0, 0, 2) else (decVal 0 (l.take i), i + 2, 1) := by
  obtain ⟨_, h2, h3⟩ := h
  unfold numB
  rw [he, if_neg]
  rintro (⟨h4, h5⟩ | h4)
  · rcases h3 with h3 | h3
    · omega
    · exact h3 h5
  · omega
theorem numB_most {most n u : Nat} {l : List UInt8} (h : numB most l = (n, u, 1)) : n ≤ most ∧ 3 ≤ u ∧ u ≤ l.length := by
  unfold numB at h
  split at h
  · simp at h
  · rename_i h0
    split at h
    · simp at h
    · split at h
      · simp at h
      · split at h
        · simp at h
        · split at h
          · simp at h
          · simp only [Prod.mk.injEq, and_true] at h
            obtain ⟨rfl, rfl⟩ := h
            have := (digN_pre l).2
            omega
theorem numB_how (most : Nat) (l : List UInt8) : (numB most l).2.2 ≤ 2 ∧ ((numB most l).2.2 ≠ 1 → numB most l = (0, 0, (numB most l).2.2)) := by
  unfold numB
  repeat' split
  all_goals simp
/-- Figures, no needless nought ahead: the number whose numeral they are. -/
theorem decOf_figs : ∀ (k : Nat) (l : List UInt8), l.length = k → 0 < k → (∀ c ∈ l, isDig c) → (k = 1 ∨ l[0]? ≠ some 48) → Lib.decDigits (decVal 0 l) = l := by
  intro k
  induction k with
  | zero => intro l _ h; omega
  | succ k ih =>
    intro l hl _ hd h0
    rcases List.eq_nil_or_concat l with rfl | ⟨p, c, rfl⟩
    · simp at hl
    · rw [List.concat_eq_append] at hl hd h0 ⊢
      have hc : isDig c := hd c (by simp)
      have hp : p.length = k := by simpa using hl
      unfold isDig at hc
      by_cases hk : k = 0
      · obtain rfl : p = [] := List.eq_nil_of_length_eq_zero (by omega)
        simp only [List.nil_append, decVal, List.foldl_cons, List.foldl_nil]
        rw [Lib.decDigits, dif_pos (by omega)]
        congr 1
        apply UInt8.toNat_inj.1
        rw [UInt8.toNat_ofNat']
        omega
      · have h48 : p[0]? ≠ some 48 := by
          rcases h0 with h0 | h0
          · omega
          · rwa [List.getElem?_append_left (by omega)] at h0
        have hi := ih p hp (by omega) (fun d hm => hd d (by simp [hm])) (.inr h48)
        have hpos : 1 ≤ decVal 0 p := by
          match hq : p with
          | [] => simp at hp; omega
          | d :: r =>
            have h1 := decVal_head (l := d :: r) (i := (d :: r).length) (by simp) rfl
            rw [List.take_length] at h1
            have h2 : isDig d := hd d (by simp)
            unfold isDig at h2
            have h3 : d.toNat ≠ 48 := fun e => h48 (by
              have : d = 48 := UInt8.toNat_inj.1 (by show d.toNat = 48; exact e)
              rw [this]; rfl)
            omega
        rw [decVal_snoc, Lib.decDigits, dif_neg (by omega)]
        rw [show (decVal 0 p * 10 + (c.toNat - 48)) / 10 = decVal 0 p by omega, hi]
        congr 2
        apply UInt8.toNat_inj.1
        rw [UInt8.toNat_ofNat']
        omega
theorem decOf_pre {l : List UInt8} {i : Nat} (h : DigPre l i) (hi : 0 < i) (hl : i ≤ l.length) (h0 : i = 1 ∨ l[0]? ≠ some 48) (hb : decVal 0 (l.take i) ≤ 1000000000) : decOf (l.take i) = some (decVal 0 (l.take i)) := by
  refine decOf_some hb ?_
  rw [itoa_nat]
  refine decOf_figs i _ (by rw [List.length_take]; omega) hi (fun c hc => ?_) ?_
  · obtain ⟨j, hj, rfl⟩ := List.mem_iff_getElem.1 hc
    rw [List.length_take] at hj
    obtain ⟨d, hd, h1⟩ := h j (by omega)
    obtain ⟨_, rfl⟩ := List.getElem?_eq_some_iff.1 hd
    simpa using h1
  · rcases h0 with h0 | h0
    · exact .inl h0
    · exact .inr (by rwa [List.getElem?_take_of_lt hi])
theorem decOf_empty : decOf [] = none := decOf_none fun n _ e => by
  rw [itoa_nat] at e
  exact (decDigits_digs n).2.2 e
theorem decVal_three {l : List UInt8} {i : Nat} (h : DigPre l i) (hi : 3 < i) (h0 : l[0]? ≠ some 48) : 999 < decVal 0 (l.take i) := by
  obtain ⟨c, hc, hd⟩ := h 0 (by omega)
  obtain ⟨c1, hc1, _⟩ := h 1 (by omega)
  obtain ⟨c2, hc2, _⟩ := h 2 (by omega)
  obtain ⟨c3, hc3, _⟩ := h 3 (by omega)
  have e0 : decVal 0 (l.take 1) = decVal 0 (l.take 0) * 10 + (c.toNat - 48) := decVal_take hc
  have e1 : decVal 0 (l.take 2) = decVal 0 (l.take 1) * 10 + (c1.toNat - 48) := decVal_take hc1
  have e2 : decVal 0 (l.take 3) = decVal 0 (l.take 2) * 10 + (c2.toNat - 48) := decVal_take hc2
  have e3 : decVal 0 (l.take 4) = decVal 0 (l.take 3) * 10 + (c3.toNat - 48) := decVal_take hc3
  have hm := decVal_mono (l := l) (i := 4) (j := i) (by omega)
  unfold isDig at hd
  have h3 : c.toNat ≠ 48 := fun e => h0 (by
    have : c = 48 := UInt8.toNat_inj.1 (by show c.toNat = 48; exact e)
    rw [hc, this])
  have e00 : decVal 0 (l.take 0) = 0 := by simp [decVal]
  omega

/-- An argument: its bytes, how many bytes it takes, and how (1 as above). -/
def bulkB (l : List UInt8) : List UInt8 × Nat × Nat :=
  if l = [] then ([], 0, 0)
  else if l[0]? ≠ some 36 then ([], 0, 2)
  else if (numB 60 (l.drop 1)).2.2 ≠ 1 then ([], 0, (numB 60 (l.drop 1)).2.2)
  else if ((numB 60 (l.drop 1)).1 < (l.drop (1 + (numB 60 (l.drop 1)).2.1)).length ∧ (l.drop (1 + (numB 60 (l.drop 1)).2.1))[(numB 60 (l.drop 1)).1]? ≠ some 13) ∨ ((numB 60 (l.drop 1)).1 + 1 < (l.drop (1 + (numB 60 (l.drop 1)).2.1)).length ∧ (l.drop (1 + (numB 60 (l.drop 1)).2.1))[(numB 60 (l.drop 1)).1 + 1]? ≠ some 10) then ([], 0, 2)
  else if (l.drop (1 + (numB 60 (l.drop 1)).2.1)).length < (numB 60 (l.drop 1)).1 + 2 then ([], 0, 0)
  else ((l.drop (1 + (numB 60 (l.drop 1)).2.1)).take (numB 60 (l.drop 1)).1, 1 + (numB 60 (l.drop 1)).2.1 + (numB 60 (l.drop 1)).1 + 2, 1)
def argsB : Nat → List UInt8 → List (List UInt8) × Nat × Nat
  | 0, _ => ([], 0, 1)
  | m + 1, l =>
    if (bulkB l).2.2 ≠ 1 then ([], 0, (bulkB l).2.2)
    else if (argsB m (l.drop (bulkB l).2.1)).2.2 ≠ 1 then ([], 0, (argsB m (l.drop (bulkB l).2.1)).2.2)
    else ((bulkB l).1 :: (argsB m (l.drop (bulkB l).2.1)).1, (bulkB l).2.1 + (argsB m (l.drop (bulkB l).2.1)).2.1, 1)
end Go.Proofs.YtanpkomifhbhnaaDoor
