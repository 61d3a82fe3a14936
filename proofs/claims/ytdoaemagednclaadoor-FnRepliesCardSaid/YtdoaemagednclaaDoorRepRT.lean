/- Drawn replies come back; what is cut short is none; both readings of a number agree on a drawn text. -/
import Derived.Test.YtdoaemagednclaaDoorRepL
import Derived.Test.YtdoaemagednclaaDoorArr
namespace Go.Proofs.YtdoaemagednclaaDoor
set_option linter.unusedVariables false
set_option linter.unusedSimpArgs false
open Go.RowKit

theorem digs_lt : ∀ (l : List UInt8) (acc : Nat), (∀ c ∈ l, isDig c) → decVal acc l < (acc + 1) * 10 ^ l.length
  | [], acc, _ => by simp [decVal]
  | c :: l, acc, hd => by
    have h1 := digs_lt l (acc * 10 + (c.toNat - 48)) fun x hx => hd x (by simp [hx])
    have h2 := hd c (by simp)
    have h3 : acc * 10 + (c.toNat - 48) + 1 ≤ (acc + 1) * 10 := by have := h2.1; have := h2.2; omega
    have h4 := Nat.mul_le_mul_right (10 ^ l.length) h3
    rw [List.length_cons, Nat.pow_succ, Nat.mul_comm (10 ^ l.length) 10, ← Nat.mul_assoc]
    exact Nat.lt_of_lt_of_le h1 h4
theorem itoa_digs (n : Nat) : ∀ c ∈ Lib.itoa (n : Int), isDig c := by
  rw [itoa_nat]
  exact (decDigits_digs n).1
/-- The bytes of a numeral: figures, a '-' ahead of them where the number is below nought. -/
theorem itoa_parts (v : Int) : ∃ n : Nat, (v = (n : Int) ∧ Lib.itoa v = Lib.itoa (n : Int)) ∨ (v = -(n : Int) ∧ 0 < n ∧ Lib.itoa v = 45 :: Lib.itoa (n : Int)) := by
  by_cases h : 0 ≤ v
  · obtain ⟨n, rfl⟩ := Int.eq_ofNat_of_zero_le h
    exact ⟨n, .inl ⟨rfl, rfl⟩⟩
  · obtain ⟨n, rfl⟩ : ∃ n : Nat, v = -(n : Int) := ⟨v.natAbs, by omega⟩
    exact ⟨n, .inr ⟨rfl, by omega, by rw [Lib.itoa_neg n (by omega), itoa_nat]⟩⟩
theorem dig_ne {c : UInt8} (h : isDig c) : c ≠ 13 ∧ c ≠ 10 ∧ c ≠ 45 := by
  unfold isDig at h
  refine ⟨?_, ?_, ?_⟩ <;> rintro rfl <;> revert h <;> decide
theorem itoa_noCR (v : Int) : ∀ c ∈ Lib.itoa v, c ≠ 13 := by
  obtain ⟨n, ⟨_, h⟩ | ⟨_, _, h⟩⟩ := itoa_parts v
  · rw [h]
    exact fun c hc => (dig_ne (itoa_digs n c hc)).1
  · rw [h]
    intro c hc
    rcases List.mem_cons.1 hc with rfl | hc
    · decide
    · exact (dig_ne (itoa_digs n c hc)).1
theorem itoa_long {n : Nat} (h : 1000000000 < n) : 10 ≤ (Lib.itoa (n : Int)).length := by
  have h1 := digs_lt (Lib.itoa (n : Int)) 0 (itoa_digs n)
  rw [decVal_itoa rfl] at h1
  by_cases h2 : 10 ≤ (Lib.itoa (n : Int)).length
  · exact h2
  · have h3 := Nat.pow_le_pow_right (n := 10) (by omega) (show (Lib.itoa (n : Int)).length ≤ 9 by omega)
    omega
/-! ### A drawn reply -/
def RepOne (l : List UInt8) : Prop :=
  (∃ c s, (c = 43 ∨ c = 45) ∧ s.length ≤ 5 ∧ (∀ b ∈ s, b ≠ 13) ∧ l = c :: s ++ [13, 10]) ∨ (∃ n : Int, -1000 ≤ n ∧ n < 1000 ∧ l = numText n) ∨ l = [36, 45, 49, 13, 10] ∨ ∃ b, b.length ≤ 8 ∧ l = bulkText b
def Rep : Nat → List UInt8 → Prop
  | 0, l => RepOne l
  | d + 1, l => RepOne l ∨ ∃ xs : List ByteArray, xs.length ≤ 4 ∧ (∀ x ∈ xs, Rep d (ub x)) ∧ l = arrText xs
theorem Rep.one {d : Nat} {l : List UInt8} (h : RepOne l) : Rep d l := by
  cases d with
  | zero => exact h
  | succ d => exact .inl h
theorem repStep_at {num : List UInt8 → Bool} {arr : Nat → List UInt8 → Option Nat} (c : UInt8) (h y : List UInt8) (hn : ∀ b ∈ h, b ≠ 13) : repStep num arr (c :: (h ++ 13 :: 10 :: y)) =
    if c = 43 ∨ c = 45 then some (h.length + 3)
    else if c = 58 then (if num h = true then some (h.length + 3) else none)
    else if c = 36 then (if h = [45, 49] then some (h.length + 3) else (decOf h).bind fun n => if (y.drop n).take 2 = [13, 10] then some (h.length + 3 + n + 2) else none)
    else if c = 42 then (decOf h).bind fun n => (arr n y).map (h.length + 3 + ·)
    else none := by
  show (lnB _).bind _ = _
  rw [lnB_head h y hn, Option.bind_some]
  have e1 : (h ++ 13 :: 10 :: y).take h.length = h := by rw [List.take_append_of_le_length (Nat.le_refl _), List.take_length]
  have e2 : ∀ j, (h ++ 13 :: 10 :: y).drop (h.length + 2 + j) = y.drop j := fun j => by
    rw [show h ++ 13 :: 10 :: y = (h ++ [13, 10]) ++ y by simp, show h.length + 2 + j = (h ++ [13, 10]).length + j by simp, ← List.drop_drop, List.drop_left]
  have e3 := e2 0
  rw [List.drop_zero, Nat.add_zero] at e3
  unfold repLine
  simp only [e1, e2, e3]
theorem decOf_itoa {n : Nat} (h : n ≤ 1000000000) : decOf (Lib.itoa (n : Int)) = some n := decOf_some h rfl
theorem itoa_ne_min (n : Nat) : Lib.itoa (n : Int) ≠ [45, 49] := fun e => (dig_ne (itoa_digs n 45 (by rw [e]; simp))).2.2 rfl
theorem repOne_back {num : List UInt8 → Bool} (hnum : ∀ n : Int, -1000 ≤ n → n < 1000 → num (Lib.itoa n) = true) {l : List UInt8} (h : RepOne l) (arr : Nat → List UInt8 → Option Nat) (rest : List UInt8) : repStep num arr (l ++ rest) = some l.length := by
  rcases h with ⟨c, s, hc, _, hs, rfl⟩ | ⟨n, h1, h2, rfl⟩ | rfl | ⟨b, hb, rfl⟩
  · rw [show c :: s ++ [13, 10] ++ rest = c :: (s ++ 13 :: 10 :: rest) by simp, repStep_at c s rest hs, if_pos hc]
    simp
  · rw [show numText n ++ rest = 58 :: (Lib.itoa n ++ 13 :: 10 :: rest) by simp [numText], repStep_at _ _ _ (itoa_noCR n), if_neg (by decide), if_pos rfl, if_pos (hnum n h1 h2)]
    simp [numText]
  · rw [show [36, 45, 49, 13, 10] ++ rest = 36 :: ([45, 49] ++ 13 :: 10 :: rest) by simp, repStep_at _ _ _ (by decide), if_neg (by decide), if_neg (by decide), if_pos rfl, if_pos rfl]
    rfl
  · rw [show bulkText b ++ rest = 36 :: (Lib.itoa b.length ++ 13 :: 10 :: (b ++ [13, 10] ++ rest)) by simp [bulkText], repStep_at _ _ _ (itoa_noCR _), if_neg (by decide), if_neg (by decide), if_pos rfl, if_neg (itoa_ne_min _), decOf_itoa (by omega), Option.bind_some]
    rw [List.append_assoc, List.drop_left, if_pos (by simp)]
    simp [bulkText]
    omega
theorem many_flat {f : List UInt8 → Option Nat} : ∀ (xs : List ByteArray) (rest : List UInt8), (∀ x ∈ xs, ∀ r, f (ub x ++ r) = some (ub x).length) → manyB f xs.length (flat xs ++ rest) = some (flat xs).length
  | [], _, _ => rfl
  | x :: xs, rest, h => by
    have e : flat (x :: xs) = ub x ++ flat xs := by simp [flat]
    rw [e, List.length_cons, manyB, List.append_assoc, h x (by simp)]
    dsimp only
    rw [List.drop_left, many_flat xs rest fun y hy => h y (by simp [hy])]
    simp
theorem arr_back {num : List UInt8 → Bool} {k : Nat} {xs : List ByteArray} (hl : xs.length ≤ 1000000) (h : ∀ x ∈ xs, ∀ r, repB num k (ub x ++ r) = some (ub x).length) (rest : List UInt8) : repB num (k + 1) (arrText xs ++ rest) = some (arrText xs).length := by
  rw [repB, show arrText xs ++ rest = 42 :: (Lib.itoa (xs.length : Int) ++ 13 :: 10 :: (flat xs ++ rest)) by simp [arrText, headText], repStep_at _ _ _ (itoa_noCR _), if_neg (by decide), if_neg (by decide), if_neg (by decide), if_pos rfl, decOf_itoa (by omega), Option.bind_some]
  rw [many_flat xs rest h]
  simp [arrText, headText]
  omega
theorem rep_back {num : List UInt8 → Bool} (hnum : ∀ n : Int, -1000 ≤ n → n < 1000 → num (Lib.itoa n) = true) : ∀ (d k : Nat) (l : List UInt8), d ≤ k → Rep d l → ∀ rest, repB num k (l ++ rest) = some l.length
  | 0, k, l, _, h, rest => by
    obtain ⟨arr, e, _⟩ := repB_is num k
    rw [e]
    exact repOne_back hnum h arr rest
  | d + 1, k, l, hk, h, rest => by
    rcases h with h | ⟨xs, h1, h2, rfl⟩
    · obtain ⟨arr, e, _⟩ := repB_is num k
      rw [e]
      exact repOne_back hnum h arr rest
    · obtain ⟨j, rfl⟩ : ∃ j, k = j + 1 := ⟨k - 1, by omega⟩
      exact arr_back (by omega) (fun x hx r => rep_back hnum d j _ (by omega) (h2 x hx) r) rest
theorem repsF_flat {num : List UInt8 → Bool} : ∀ (xs : List ByteArray) (f : Nat), xs.length ≤ f → (∀ x ∈ xs, 0 < x.size ∧ ∀ r, repB num 4 (ub x ++ r) = some (ub x).length) → repsF num (f + 1) (flat xs) = (xs.map ub, true)
  | [], f, _, _ => by simp [repsF, flat]
  | x :: xs, f, hf, h => by
    have e : flat (x :: xs) = ub x ++ flat xs := by simp [flat]
    obtain ⟨h1, h2⟩ := h x (by simp)
    obtain ⟨g, rfl⟩ : ∃ g, f = g + 1 := ⟨f - 1, by simp at hf; omega⟩
    have hne : ub x ++ flat xs ≠ [] := fun e2 => by
      have h3 := congrArg List.length e2
      rw [List.length_append, ub_length, List.length_nil] at h3
      omega
    rw [e, repsF, if_neg hne, h2]
    dsimp only
    rw [List.drop_left, List.take_left, repsF_flat xs g (by simpa using hf) fun y hy => h y (by simp [hy])]
    rfl
/-- What is cut short is none. -/
theorem cut_none {num : List UInt8 → Bool} {k : Nat} {l : List UInt8} (h : repB num k l = some l.length) {m : Nat} (hm : m < l.length) : repB num k (l.take m) = none := by
  cases hr : repB num k (l.take m) with
  | none => rfl
  | some u =>
    obtain ⟨_, h2, h3⟩ := repB_reads num k _ u hr
    have h4 := h3 (l.drop m)
    rw [List.take_append_drop, h] at h4
    have := Option.some.inj h4
    rw [List.length_take] at h2
    omega
theorem repOne_len {l : List UInt8} (h : RepOne l) : 0 < l.length ∧ l.length ≤ 50 := by
  rcases h with ⟨c, s, hc, hs, _, rfl⟩ | ⟨n, h1, h2, rfl⟩ | rfl | ⟨b, hb, rfl⟩
  · simp; omega
  · have := itoa_len n (by omega) (by omega)
    simp [numText]; omega
  · simp
  · have := itoa_len b.length (by omega) (by omega)
    simp [bulkText]; omega
theorem flat_bound : ∀ (xs : List ByteArray) (m : Nat), (∀ x ∈ xs, (ub x).length ≤ m) → (flat xs).length ≤ xs.length * m
  | [], m, _ => by simp [flat]
  | x :: xs, m, h => by
    have e : flat (x :: xs) = ub x ++ flat xs := by simp [flat]
    have h1 := flat_bound xs m fun y hy => h y (by simp [hy])
    have h2 := h x (by simp)
    rw [e, List.length_append, List.length_cons, Nat.add_mul]
    omega
theorem arrText_len {xs : List ByteArray} {m : Nat} (hl : xs.length ≤ 4) (h : ∀ x ∈ xs, (ub x).length ≤ m) : 0 < (arrText xs).length ∧ (arrText xs).length ≤ 40 + 4 * m := by
  have h1 := flat_bound xs m h
  have h2 := itoa_len xs.length (by omega) (by omega)
  have h3 : xs.length * m ≤ 4 * m := Nat.mul_le_mul_right m hl
  simp [arrText, headText]
  omega
/-- The most bytes that a reply of that depth has. -/
def repMax : Nat → Nat
  | 0 => 50
  | d + 1 => 40 + 4 * repMax d
theorem rep_len : ∀ {d : Nat} {l : List UInt8}, Rep d l → 0 < l.length ∧ l.length ≤ repMax d
  | 0, l, h => repOne_len h
  | d + 1, l, h => by
    rcases h with h | ⟨xs, h1, h2, rfl⟩
    · have := repOne_len h
      have : 50 ≤ repMax d := by
        clear h
        induction d with
        | zero => exact Nat.le_refl _
        | succ d ih => unfold repMax; omega
      unfold repMax
      omega
    · exact arrText_len h1 fun x hx => (rep_len (h2 x hx)).2
/-! ### Chunks: at most eight bytes, CR, LF -/
inductive Chunks : List UInt8 → Prop
  | nil : Chunks []
  | cons (b l : List UInt8) : b.length ≤ 8 → Chunks l → Chunks (b ++ 13 :: 10 :: l)
theorem Chunks.app {a b : List UInt8} (h : Chunks a) (h' : Chunks b) : Chunks (a ++ b) := by
  induction h with
  | nil => exact h'
  | cons x l hx _ ih => rw [List.append_assoc, List.cons_append, List.cons_append]; exact .cons x _ hx ih
theorem chunk_one {b : List UInt8} (h : b.length ≤ 8) : Chunks (b ++ [13, 10]) := .cons b [] h .nil
theorem itoa_five {n : Int} (h1 : -1000 ≤ n) (h2 : n < 1000) : (Lib.itoa n).length ≤ 5 := by
  have key : ∀ m : Nat, m ≤ 1000 → (Lib.itoa (m : Int)).length ≤ 4 := fun m hm => by
    have h3 := digs_length 4 m (by omega)
    unfold digs at h3
    rw [itoa_nat]
    by_cases h0 : m = 0
    · subst h0
      rw [Lib.decDigits, dif_pos (by omega)]
      simp
    · rwa [if_neg h0] at h3
  obtain ⟨m, ⟨e, h⟩ | ⟨e, _, h⟩⟩ := itoa_parts n
  · rw [h]
    have := key m (by omega)
    omega
  · rw [h, List.length_cons]
    have := key m (by omega)
    omega
theorem repOne_chunks {l : List UInt8} (h : RepOne l) : Chunks l := by
  rcases h with ⟨c, s, hc, hs, _, rfl⟩ | ⟨n, h1, h2, rfl⟩ | rfl | ⟨b, hb, rfl⟩
  · exact chunk_one (b := c :: s) (by simp; omega)
  · have := itoa_five h1 h2
    exact chunk_one (b := 58 :: Lib.itoa n) (by simp; omega)
  · exact chunk_one (b := [36, 45, 49]) (by simp)
  · have := itoa_five (n := (b.length : Int)) (by omega) (by omega)
    rw [show bulkText b = (36 :: Lib.itoa (b.length : Int)) ++ 13 :: 10 :: (b ++ [13, 10]) by simp [bulkText]]
    exact .cons _ _ (by simp; omega) (chunk_one hb)
theorem flat_chunks : ∀ (xs : List ByteArray), (∀ x ∈ xs, Chunks (ub x)) → Chunks (flat xs)
  | [], _ => .nil
  | x :: xs, h => by
    have e : flat (x :: xs) = ub x ++ flat xs := by simp [flat]
    rw [e]
    exact (h x (by simp)).app (flat_chunks xs fun y hy => h y (by simp [hy]))
theorem rep_chunks : ∀ {d : Nat} {l : List UInt8}, Rep d l → Chunks l
  | 0, l, h => repOne_chunks h
  | d + 1, l, h => by
    rcases h with h | ⟨xs, h1, h2, rfl⟩
    · exact repOne_chunks h
    · have := itoa_five (n := (xs.length : Int)) (by omega) (by omega)
      rw [show arrText xs = (42 :: Lib.itoa (xs.length : Int)) ++ 13 :: 10 :: flat xs by simp [arrText, headText]]
      exact .cons _ _ (by simp; omega) (flat_chunks xs fun x hx => rep_chunks (h2 x hx))
/-- Of any ten bytes two are CR or LF. -/
theorem chunks_marks {c : List UInt8} (h : Chunks c) : ∀ i, i + 10 ≤ c.length → ∃ p q, i ≤ p ∧ p < q ∧ q < i + 10 ∧ (c[p]? = some 13 ∨ c[p]? = some 10) ∧ (c[q]? = some 13 ∨ c[q]? = some 10) := by
  induction h with
  | nil => intro i hi; simp at hi
  | cons b l hb hl ih =>
    intro i hi
    rw [List.length_append, List.length_cons, List.length_cons] at hi
    have e0 : (b ++ 13 :: 10 :: l)[b.length]? = some 13 := by rw [List.getElem?_append_right (Nat.le_refl _)]; simp
    have e1 : (b ++ 13 :: 10 :: l)[b.length + 1]? = some 10 := by rw [List.getElem?_append_right (by omega), show b.length + 1 - b.length = 1 by omega]; rfl
    have e2 : ∀ j, (b ++ 13 :: 10 :: l)[b.length + 2 + j]? = l[j]? := fun j => by
      rw [List.getElem?_append_right (by omega), show b.length + 2 + j - b.length = j + 1 + 1 by omega]
      rfl
    by_cases h1 : i ≤ b.length
    · exact ⟨b.length, b.length + 1, h1, by omega, by omega, .inl e0, .inr e1⟩
    · by_cases h2 : i = b.length + 1
      · subst h2
        cases hl with
        | nil => simp at hi; omega
        | cons b' l' hb' hl' =>
          refine ⟨b.length + 1, b.length + 2 + b'.length, by omega, by omega, by omega, .inr e1, .inl ?_⟩
          rw [e2, List.getElem?_append_right (Nat.le_refl _)]
          simp
      · obtain ⟨j, rfl⟩ : ∃ j, i = b.length + 2 + j := ⟨i - (b.length + 2), by omega⟩
        obtain ⟨p, q, h3, h4, h5, h6, h7⟩ := ih j (by omega)
        exact ⟨b.length + 2 + p, b.length + 2 + q, by omega, by omega, by omega, by rw [e2]; exact h6, by rw [e2]; exact h7⟩
/-- A text that is the head of chunks, apart from one byte. -/
def Nearly (t : List UInt8) : Prop := ∃ (c : List UInt8) (x : Nat), Chunks c ∧ t.length ≤ c.length ∧ ∀ j, j < t.length → j ≠ x → t[j]? = c[j]?
theorem nearly_run {t : List UInt8} (h : Nearly t) (i : Nat) (hi : i + 10 ≤ t.length) : ∃ p, i ≤ p ∧ p < i + 10 ∧ (t[p]? = some 13 ∨ t[p]? = some 10) := by
  obtain ⟨c, x, hc, hl, he⟩ := h
  obtain ⟨p, q, h1, h2, h3, h4, h5⟩ := chunks_marks hc i (by omega)
  by_cases hp : p = x
  · exact ⟨q, by omega, h3, by rw [he q (by omega) (by omega)]; exact h5⟩
  · exact ⟨p, h1, by omega, by rw [he p (by omega) hp]; exact h4⟩
theorem Chunks.nearly {c : List UInt8} (h : Chunks c) : Nearly c := ⟨c, c.length, h, Nat.le_refl _, fun _ _ _ => rfl⟩
theorem Nearly.take {t : List UInt8} (h : Nearly t) (m : Nat) : Nearly (t.take m) := by
  obtain ⟨c, x, hc, hl, he⟩ := h
  refine ⟨c, x, hc, by rw [List.length_take]; omega, fun j hj hx => ?_⟩
  rw [List.length_take] at hj
  rw [List.getElem?_take_of_lt (by omega)]
  exact he j (by omega) hx
theorem Chunks.push {c : List UInt8} (h : Chunks c) (b : UInt8) : Nearly (c ++ [b]) := by
  have h1 := (h.app (chunk_one (b := [b]) (by simp))).nearly.take (c.length + 1)
  rw [show c ++ ([b] ++ [13, 10]) = (c ++ [b]) ++ [13, 10] by simp, List.take_append_of_le_length (by simp), List.take_of_length_le (by simp)] at h1
  exact h1
theorem Chunks.put {c : List UInt8} (h : Chunks c) {i : Nat} (hi : i < c.length) (b : UInt8) : Nearly (c.take i ++ [b] ++ c.drop (i + 1)) := by
  refine ⟨c, i, h, by simp; omega, fun j hj hx => ?_⟩
  have hl : (c.take i).length = i := by rw [List.length_take]; omega
  by_cases h1 : j < i
  · rw [List.append_assoc, List.getElem?_append_left (by omega), List.getElem?_take_of_lt h1]
  · rw [List.getElem?_append_right (by simp; omega), List.getElem?_drop]
    congr 1
    simp
    omega
theorem numI_of {l : List UInt8} {v : Int} (h : -1000000000000000000 ≤ v ∧ v ≤ 1000000000000000000) (e : Lib.itoa v = l) : numI l = true := by
  unfold numI
  rw [← e, atoi_itoa v h]
  simp
theorem numI_some {l : List UInt8} (h : numI l = true) : ∃ v : Int, Lib.itoa v = l := by
  unfold numI at h
  split at h
  · rename_i v _
    exact ⟨v, by simpa using h⟩
  · simp at h
theorem numS_of {n : Int} (h1 : -1000 ≤ n) (h2 : n < 1000) : numS (Lib.itoa n) = true := by
  unfold numS
  rw [riOf_itoa n ⟨by omega, by omega⟩]
  rfl
theorem nearly_agree {t : List UInt8} (h : Nearly t) : Agree numI numS t := by
  intro i m
  by_cases hI : numI ((t.drop i).take m) = true
  · rw [hI]
    obtain ⟨v, hv⟩ := numI_some hI
    by_cases hb : -1000000000 ≤ v ∧ v ≤ 1000000000
    · unfold numS
      rw [riOf_some hb hv]
      rfl
    · exfalso
      have key : ∀ (n s : Nat), 1000000000 < n → (∀ j, j < (Lib.itoa (n : Int)).length → t[i + s + j]? = (Lib.itoa (n : Int))[j]?) → False := by
        intro n s hn hj
        have hlen := itoa_long hn
        have hin : i + s + 10 ≤ t.length := by
          have h8 : 9 < (Lib.itoa (n : Int)).length := by omega
          have h9 := (hj 9 h8).trans (List.getElem?_eq_getElem h8)
          have := (List.getElem?_eq_some_iff.1 h9).1
          omega
        obtain ⟨p, hp1, hp2, hp3⟩ := nearly_run h (i + s) hin
        obtain ⟨q, rfl⟩ : ∃ q, p = i + s + q := ⟨p - (i + s), by omega⟩
        have hq : q < (Lib.itoa (n : Int)).length := by omega
        rw [hj q hq, List.getElem?_eq_getElem hq] at hp3
        have hd := itoa_digs n _ (List.getElem_mem hq)
        have hne := dig_ne hd
        rcases hp3 with e | e
        · exact hne.1 (Option.some.inj e)
        · exact hne.2.1 (Option.some.inj e)
      have hget : ∀ j, j < (Lib.itoa v).length → t[i + j]? = (Lib.itoa v)[j]? := fun j hj => by
        rw [hv] at hj ⊢
        rw [List.length_take] at hj
        rw [List.getElem?_take_of_lt (by omega), List.getElem?_drop]
      obtain ⟨n, ⟨e, he⟩ | ⟨e, _, he⟩⟩ := itoa_parts v
      · rw [he] at hget
        exact key n 0 (by omega) fun j hj => by rw [Nat.add_zero]; exact hget j hj
      · rw [he] at hget
        refine key n 1 (by omega) fun j hj => ?_
        have := hget (j + 1) (by rw [List.length_cons]; omega)
        rw [show i + 1 + j = i + (j + 1) by omega, this]
        rfl
  · have hI' : numI ((t.drop i).take m) = false := by simpa using hI
    rw [hI']
    unfold numS
    match hr : riOf ((t.drop i).take m) with
    | none => rfl
    | some n =>
      obtain ⟨hb, he⟩ := riOf_spec hr
      exact (hI (numI_of ⟨by omega, by omega⟩ he)).elim
end Go.Proofs.YtdoaemagednclaaDoor
