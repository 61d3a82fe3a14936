/- The plain law of replies: where a reply ends, how replies come back, where the two readings of a number agree. -/
import Derived.Test.YtdoaemagednclaaDoorDecL
import Derived.Test.YtdoaemagednclaaDoorIn
import Derived.Lib.SplitLaws
namespace Go.Proofs.YtdoaemagednclaaDoor
set_option linter.unusedVariables false
set_option linter.unusedSimpArgs false
open Go.RowKit

/-- How many bytes stand ahead of the first CR LF. -/
def lnB : List UInt8 → Option Nat
  | [] => none
  | c :: r => if c = 13 ∧ r.head? = some 10 then some 0 else (lnB r).map (· + 1)
theorem lnB_spec : ∀ {l : List UInt8} {m : Nat}, lnB l = some m → m + 2 ≤ l.length ∧ l[m]? = some 13 ∧ l[m + 1]? = some 10
  | [], m, h => by simp [lnB] at h
  | c :: r, m, h => by
    unfold lnB at h
    split at h
    · rename_i h1
      obtain rfl := Option.some.inj h
      obtain ⟨rfl, h2⟩ := h1
      cases r with
      | nil => simp at h2
      | cons d r => simp at h2; subst h2; simp
    · cases hr : lnB r with
      | none => rw [hr] at h; simp at h
      | some m' =>
        rw [hr] at h
        obtain rfl : m' + 1 = m := by simpa using h
        obtain ⟨h1, h2, h3⟩ := lnB_spec hr
        exact ⟨by rw [List.length_cons]; omega, by simpa using h2, by simpa using h3⟩
theorem lnB_app : ∀ {l : List UInt8} {m : Nat}, lnB l = some m → ∀ x, lnB (l ++ x) = some m
  | [], m, h, x => by simp [lnB] at h
  | c :: r, m, h, x => by
    have hne : r ≠ [] := by
      rintro rfl
      simp [lnB] at h
    have hh : (r ++ x).head? = r.head? := by cases r with
      | nil => exact (hne rfl).elim
      | cons d r => rfl
    rw [List.cons_append]
    unfold lnB at h ⊢
    rw [hh]
    split at h
    · rename_i h1
      rw [if_pos h1]; exact h
    · rename_i h1
      rw [if_neg h1]
      cases hr : lnB r with
      | none => rw [hr] at h; simp at h
      | some m' =>
        rw [hr] at h
        rw [lnB_app hr x]
        exact h
theorem lnB_head : ∀ (h : List UInt8) (x : List UInt8), (∀ c ∈ h, c ≠ 13) → lnB (h ++ 13 :: 10 :: x) = some h.length
  | [], x, _ => by simp [lnB]
  | c :: h, x, hn => by
    have h1 := lnB_head h x fun d hd => hn d (by simp [hd])
    rw [List.cons_append]
    unfold lnB
    rw [if_neg (fun e => hn c (by simp) e.1), h1]
    rfl
theorem index_crlf : ∀ (l : List UInt8), Lib.index l [13, 10] = match lnB l with | some m => (m : Int) | none => -1
  | [] => by simp [Lib.index, lnB]
  | c :: r => by
    have ih := index_crlf r
    have hp : ([13, 10] : List UInt8).isPrefixOf (c :: r) = (decide (c = 13) && decide (r.head? = some 10)) := by
      cases r with
      | nil => simp [List.isPrefixOf]
      | cons d r =>
        rw [Bool.eq_iff_iff]
        simp [List.isPrefixOf]
        constructor
        · rintro ⟨rfl, rfl⟩; exact ⟨rfl, rfl⟩
        · rintro ⟨rfl, rfl⟩; exact ⟨rfl, rfl⟩
    rw [Lib.index, hp]
    unfold lnB
    by_cases h1 : c = 13 ∧ r.head? = some 10
    · rw [if_pos h1]
      simp [h1.1, h1.2]
    · rw [if_neg h1]
      have : (decide (c = 13) && decide (r.head? = some 10)) = false := by simpa using h1
      rw [this, ih]
      cases lnB r with
      | none => simp
      | some m =>
        have : ¬ ((m : Int) = -1) := by omega
        simp [this]
theorem cut_crlf (l : List UInt8) : Lib.cut l [13, 10] = match lnB l with | some m => (l.take m, l.drop (m + 2), true) | none => (l, [], false) := by
  unfold Lib.cut
  rw [index_crlf]
  cases lnB l with
  | none => simp
  | some m => simp
/-- n things one behind the other. -/
def manyB (f : List UInt8 → Option Nat) : Nat → List UInt8 → Option Nat
  | 0, _ => some 0
  | n + 1, l => match f l with
    | none => none
    | some u => (manyB f n (l.drop u)).map (u + ·)
def repLine (num : List UInt8 → Bool) (arr : Nat → List UInt8 → Option Nat) (c : UInt8) (r : List UInt8) (m : Nat) : Option Nat :=
  if c = 43 ∨ c = 45 then some (m + 3)
  else if c = 58 then (if num (r.take m) = true then some (m + 3) else none)
  else if c = 36 then (if r.take m = [45, 49] then some (m + 3) else (decOf (r.take m)).bind fun n => if (r.drop (m + 2 + n)).take 2 = [13, 10] then some (m + 3 + n + 2) else none)
  else if c = 42 then (decOf (r.take m)).bind fun n => (arr n (r.drop (m + 2))).map (m + 3 + ·)
  else none
def repStep (num : List UInt8 → Bool) (arr : Nat → List UInt8 → Option Nat) : List UInt8 → Option Nat
  | [] => none
  | c :: r => (lnB r).bind (repLine num arr c r)
/-- How many bytes the reply at the head takes; arrays stand at most k deep. -/
def repB (num : List UInt8 → Bool) : Nat → List UInt8 → Option Nat
  | 0 => repStep num fun _ _ => none
  | k + 1 => repStep num (manyB (repB num k))
theorem repB_is (num : List UInt8 → Bool) (k : Nat) : ∃ arr, repB num k = repStep num arr ∧ ((k = 0 ∧ arr = fun _ _ => none) ∨ ∃ j, k = j + 1 ∧ arr = manyB (repB num j)) := by
  cases k with
  | zero => exact ⟨_, rfl, .inl ⟨rfl, rfl⟩⟩
  | succ j => exact ⟨_, rfl, .inr ⟨j, rfl, rfl⟩⟩
theorem manyB_ind {f : List UInt8 → Option Nat} {P : Nat → List UInt8 → Nat → Prop} (h0 : ∀ l, P 0 l 0) (h1 : ∀ n l u v, f l = some u → manyB f n (l.drop u) = some v → P n (l.drop u) v → P (n + 1) l (u + v)) : ∀ n l v, manyB f n l = some v → P n l v
  | 0, l, v, h => by
    obtain rfl : 0 = v := by simpa [manyB] using h
    exact h0 l
  | n + 1, l, v, h => by
    rw [manyB] at h
    cases hf : f l with
    | none => rw [hf] at h; simp at h
    | some u =>
      rw [hf] at h
      cases hm : manyB f n (l.drop u) with
      | none => simp [hm] at h
      | some y =>
        obtain rfl : u + y = v := by simpa [hm] using h
        exact h1 n l u y hf hm (manyB_ind h0 h1 n _ _ hm)
/-- What a reading needs: it ends within the bytes, and more bytes behind change nothing. -/
def Reads (f : List UInt8 → Option Nat) : Prop := ∀ l u, f l = some u → u ≤ l.length ∧ ∀ x, f (l ++ x) = some u
theorem manyB_reads {f : List UInt8 → Option Nat} (hf : Reads f) (n : Nat) : Reads (manyB f n) := by
  intro l u h
  refine manyB_ind (P := fun n l u => u ≤ l.length ∧ ∀ x, manyB f n (l ++ x) = some u) (fun l => ⟨Nat.zero_le _, fun x => rfl⟩) ?_ n l u h
  intro n l u v h1 h2 ⟨h3, h4⟩
  obtain ⟨h5, h6⟩ := hf l u h1
  rw [List.length_drop] at h3
  refine ⟨by omega, fun x => ?_⟩
  rw [manyB, h6 x]
  dsimp only
  rw [List.drop_append_of_le_length h5, h4 x]
  rfl
theorem repLine_reads {num : List UInt8 → Bool} {arr : Nat → List UInt8 → Option Nat} (ha : ∀ n, Reads (arr n)) {c : UInt8} {r : List UInt8} {m u : Nat} (hl : m + 2 ≤ r.length) (h : repLine num arr c r m = some u) : 3 ≤ u ∧ u ≤ r.length + 1 ∧ ∀ x, repLine num arr c (r ++ x) m = some u := by
  have ht : ∀ x, (r ++ x).take m = r.take m := fun x => List.take_append_of_le_length (by omega)
  unfold repLine at h ⊢
  simp only [ht]
  split at h
  · rename_i h1
    obtain rfl := Option.some.inj h
    exact ⟨by omega, by omega, fun x => by rw [if_pos h1]⟩
  · rename_i h1
    split at h
    · rename_i h2
      split at h
      · rename_i h3
        obtain rfl := Option.some.inj h
        exact ⟨by omega, by omega, fun x => by rw [if_neg h1, if_pos h2, if_pos h3]⟩
      · simp at h
    · rename_i h2
      split at h
      · rename_i h3
        split at h
        · rename_i h4
          obtain rfl := Option.some.inj h
          exact ⟨by omega, by omega, fun x => by rw [if_neg h1, if_neg h2, if_pos h3, if_pos h4]⟩
        · rename_i h4
          cases hd : decOf (r.take m) with
          | none => rw [hd] at h; simp at h
          | some n =>
            rw [hd, Option.bind_some] at h
            split at h
            · rename_i h5
              obtain rfl := Option.some.inj h
              have hlen := congrArg List.length h5
              rw [List.length_take, List.length_drop] at hlen
              simp only [List.length_cons, List.length_nil] at hlen
              refine ⟨by omega, by omega, fun x => ?_⟩
              rw [if_neg h1, if_neg h2, if_pos h3, if_neg h4, Option.bind_some, List.drop_append_of_le_length (by omega), List.take_append_of_le_length (by rw [List.length_drop]; omega), if_pos h5]
            · simp at h
      · rename_i h3
        split at h
        · rename_i h4
          cases hd : decOf (r.take m) with
          | none => rw [hd] at h; simp at h
          | some n =>
            rw [hd, Option.bind_some] at h
            cases hm : arr n (r.drop (m + 2)) with
            | none => rw [hm] at h; simp at h
            | some v =>
              rw [hm] at h
              obtain rfl : m + 3 + v = u := by simpa using h
              obtain ⟨h5, h6⟩ := ha n _ _ hm
              rw [List.length_drop] at h5
              refine ⟨by omega, by omega, fun x => ?_⟩
              rw [if_neg h1, if_neg h2, if_neg h3, if_pos h4, Option.bind_some, List.drop_append_of_le_length (by omega), h6 x]
              rfl
        · simp at h
theorem repStep_reads {num : List UInt8 → Bool} {arr : Nat → List UInt8 → Option Nat} (ha : ∀ n, Reads (arr n)) : ∀ l u, repStep num arr l = some u → 3 ≤ u ∧ u ≤ l.length ∧ ∀ x, repStep num arr (l ++ x) = some u
  | [], u, h => by simp [repStep] at h
  | c :: r, u, h => by
    rw [repStep] at h
    cases hl : lnB r with
    | none => rw [hl] at h; simp at h
    | some m =>
      rw [hl, Option.bind_some] at h
      obtain ⟨h1, h2, h3⟩ := repLine_reads ha (lnB_spec hl).1 h
      refine ⟨h1, by rw [List.length_cons]; exact h2, fun x => ?_⟩
      show (lnB (r ++ x)).bind _ = _
      rw [lnB_app hl x, Option.bind_some]
      exact h3 x
theorem repB_reads (num : List UInt8 → Bool) : ∀ (k : Nat) (l : List UInt8) (u : Nat), repB num k l = some u → 3 ≤ u ∧ u ≤ l.length ∧ ∀ x, repB num k (l ++ x) = some u
  | 0 => repStep_reads fun _ _ _ h => by simp at h
  | k + 1 => repStep_reads fun n => manyB_reads (fun l u h => (repB_reads num k l u h).2) n
/-! ### Where two readings agree -/
def Agree (n1 n2 : List UInt8 → Bool) (l : List UInt8) : Prop := ∀ i m, n1 ((l.drop i).take m) = n2 ((l.drop i).take m)
theorem Agree.drop {n1 n2 : List UInt8 → Bool} {l : List UInt8} (h : Agree n1 n2 l) (j : Nat) : Agree n1 n2 (l.drop j) := fun i m => by rw [List.drop_drop]; exact h _ _
theorem manyB_agree {f g : List UInt8 → Option Nat} : ∀ (n : Nat) (l : List UInt8), (∀ j, f (l.drop j) = g (l.drop j)) → manyB f n l = manyB g n l
  | 0, _, _ => rfl
  | n + 1, l, h => by
    have h0 := h 0
    rw [List.drop_zero] at h0
    rw [manyB, manyB, h0]
    cases g l with
    | none => rfl
    | some u =>
      dsimp only
      rw [manyB_agree (f := f) (g := g) n (l.drop u) (fun j => (by rw [List.drop_drop]; exact h (u + j)))]
theorem repStep_agree {n1 n2 : List UInt8 → Bool} {a1 a2 : Nat → List UInt8 → Option Nat} : ∀ (l : List UInt8), Agree n1 n2 l → (∀ n j, a1 n (l.drop j) = a2 n (l.drop j)) → repStep n1 a1 l = repStep n2 a2 l
  | [], _, _ => rfl
  | c :: r, h, ha => by
    show (lnB r).bind _ = (lnB r).bind _
    cases hl : lnB r with
    | none => rfl
    | some m =>
      have h1 : n1 (r.take m) = n2 (r.take m) := by simpa using h 1 m
      have h2 : ∀ n, a1 n (r.drop (m + 2)) = a2 n (r.drop (m + 2)) := fun n => by simpa using ha n (m + 3)
      rw [Option.bind_some, Option.bind_some]
      unfold repLine
      rw [h1]
      simp only [h2]
theorem repB_agree {n1 n2 : List UInt8 → Bool} : ∀ (k : Nat) (l : List UInt8), Agree n1 n2 l → repB n1 k l = repB n2 k l
  | 0, l, h => repStep_agree l h fun _ _ => rfl
  | k + 1, l, h => repStep_agree l h fun n j => manyB_agree n _ fun i => by rw [List.drop_drop]; exact repB_agree k _ (h.drop _)
/-! ### All replies of a text -/
def repsF (num : List UInt8 → Bool) : Nat → List UInt8 → List (List UInt8) × Bool
  | 0, _ => ([], true)
  | f + 1, l => if l = [] then ([], true) else match repB num 4 l with
    | none => ([], false)
    | some u => (l.take u :: (repsF num f (l.drop u)).1, (repsF num f (l.drop u)).2)
theorem repsF_agree {n1 n2 : List UInt8 → Bool} : ∀ (f : Nat) (l : List UInt8), Agree n1 n2 l → repsF n1 f l = repsF n2 f l
  | 0, _, _ => rfl
  | f + 1, l, h => by
    rw [repsF, repsF, repB_agree 4 l h]
    split
    · rfl
    · cases repB n2 4 l with
      | none => rfl
      | some u =>
        dsimp only
        rw [repsF_agree f _ (h.drop u)]
/-- The two numbers: any int that is a numeral; one of at most 10^9 either side. -/
def numI (l : List UInt8) : Bool := match Lib.atoiAll l with
  | .ok v => decide (Lib.itoa v = l)
  | _ => false
def numS (l : List UInt8) : Bool := (riOf l).isSome
end Go.Proofs.YtdoaemagednclaaDoor
