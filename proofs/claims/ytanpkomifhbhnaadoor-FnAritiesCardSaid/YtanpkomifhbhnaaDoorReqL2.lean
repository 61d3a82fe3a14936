/- The plain law of requests on a line: where the line ends, its words; and the whole of a request. -/
import Derived.Test.YtanpkomifhbhnaaDoorReqL
namespace Go.Proofs.YtanpkomifhbhnaaDoor
set_option linter.unusedVariables false
set_option linter.unusedSimpArgs false
open Go.RowKit

theorem index_one (b c : UInt8) (l : List UInt8) : Lib.index (b :: l) [c] = if b = c then 0 else if Lib.index l [c] = -1 then -1 else Lib.index l [c] + 1 := by
  have h : ([c] : List UInt8).isPrefixOf (b :: l) = (c == b) := by simp [List.isPrefixOf]
  rw [Lib.index, h]
  by_cases hb : b = c
  · simp [hb]
  · have : (c == b) = false := beq_eq_false_iff_ne.mpr (fun e => hb e.symm)
    simp [this, hb]
/-- How many bytes stand ahead of the first LF. -/
def lineN (l : List UInt8) : Nat := (l.takeWhile (fun c => c != 10)).length
theorem lineN_cons (c : UInt8) (l : List UInt8) : lineN (c :: l) = if c = 10 then 0 else lineN l + 1 := by
  unfold lineN
  rw [List.takeWhile_cons]
  by_cases h : c = 10 <;> simp [h]
theorem lineN_le (l : List UInt8) : lineN l ≤ l.length := by
  induction l with
  | nil => simp [lineN]
  | cons c l ih =>
    rw [lineN_cons, List.length_cons]
    split <;> omega
theorem index_lf (l : List UInt8) : Lib.index l [10] = if lineN l = l.length then -1 else (lineN l : Int) := by
  induction l with
  | nil => simp [Lib.index, lineN]
  | cons c l ih =>
    rw [index_one, lineN_cons, ih, List.length_cons]
    by_cases h : c = 10
    · simp [h]
    · simp only [h, if_false]
      by_cases h1 : lineN l = l.length
      · simp [h1]
      · rw [if_neg h1, if_neg (by omega), if_neg (by omega)]
        omega
theorem cut_lf (l : List UInt8) : Lib.cut l [10] = if lineN l = l.length then (l, [], false) else (l.take (lineN l), l.drop (lineN l + 1), true) := by
  unfold Lib.cut
  rw [index_lf]
  by_cases h : lineN l = l.length
  · rw [if_pos h, if_pos h, if_neg (by omega)]
  · rw [if_neg h, if_neg h, if_pos (by omega)]
    simp
/-- All of the first i bytes are others than c. -/
def NoB (c : UInt8) (l : List UInt8) (i : Nat) : Prop := ∀ j, j < i → ∃ d, l[j]? = some d ∧ d ≠ c
theorem NoB.zero (c : UInt8) (l : List UInt8) : NoB c l 0 := fun j hj => by omega
theorem NoB.step {c : UInt8} {l : List UInt8} {i : Nat} (h : NoB c l i) {d : UInt8} (hd : l[i]? = some d) (h1 : d ≠ c) : NoB c l (i + 1) := by
  intro j hj
  by_cases he : j = i
  · subst he; exact ⟨d, hd, h1⟩
  · exact h j (by omega)
theorem noB_tail {c d : UInt8} {l : List UInt8} {i : Nat} (h : NoB c (d :: l) (i + 1)) : d ≠ c ∧ NoB c l i := by
  obtain ⟨e, he, h1⟩ := h 0 (by omega)
  obtain rfl : d = e := by simpa using he
  exact ⟨h1, fun j hj => by simpa using h (j + 1) (by omega)⟩
theorem lineN_at : ∀ (l : List UInt8) (i : Nat), NoB 10 l i → (i = l.length ∨ l[i]? = some 10) → lineN l = i
  | [], 0, _, _ => rfl
  | c :: l, 0, _, h => by
    rcases h with h | h
    · simp at h
    · obtain rfl : c = 10 := by simpa using h
      simp [lineN_cons]
  | [], i + 1, h, _ => by obtain ⟨c, hc, _⟩ := h 0 (by omega); simp at hc
  | c :: l, i + 1, h, he => by
    obtain ⟨h1, h2⟩ := noB_tail h
    rw [lineN_cons, if_neg h1, lineN_at l i h2 (by simpa using he)]
/-- The texts between blanks. -/
def pieces : List UInt8 → List (List UInt8)
  | [] => [[]]
  | c :: l => if c = 32 then [] :: pieces l else match pieces l with
    | p :: ps => (c :: p) :: ps
    | [] => [[c]]
theorem pieces_ne (l : List UInt8) : pieces l ≠ [] := by
  cases l with
  | nil => simp [pieces]
  | cons c l =>
    rw [pieces]
    split
    · simp
    · split <;> simp
theorem splitK_pieces : ∀ (l : List UInt8), Lib.splitK [32] 0 (Lib.count l [32]) l = pieces l
  | [] => rfl
  | c :: l => by
    have ih := splitK_pieces l
    rw [pieces]
    by_cases h : c = 32
    · subst h
      rw [if_pos rfl, Lib.count_cons_eq, Nat.add_comm, Lib.splitK]
      have hi : Lib.index (32 :: l) [32] = 0 := by rw [index_one, if_pos rfl]
      rw [hi]
      simp [ih]
    · rw [if_neg h, Lib.count_cons_ne _ _ _ h]
      cases hk : Lib.count l [32] with
      | zero =>
        rw [hk] at ih
        rw [Lib.splitK] at ih ⊢
        rw [← ih]
      | succ k =>
        rw [hk] at ih
        have hne : Lib.index l [32] ≠ -1 := fun e => by rw [Lib.count_miss e] at hk; cases hk
        have hge := Lib.index_ge l [32]
        obtain ⟨i, hi⟩ : ∃ i : Nat, Lib.index l [32] = i := ⟨(Lib.index l [32]).toNat, by omega⟩
        have hi2 : Lib.index (c :: l) [32] = ((i + 1 : Nat) : Int) := by rw [index_one, if_neg h, if_neg hne, hi]; omega
        rw [Lib.splitK] at ih ⊢
        rw [hi2]
        rw [hi] at ih
        have e1 : (((i : Nat) : Int) == -1) = false := beq_eq_false_iff_ne.mpr (by omega)
        have e2 : ((((i + 1 : Nat)) : Int) == -1) = false := beq_eq_false_iff_ne.mpr (by omega)
        rw [e1] at ih
        rw [e2]
        simp only [Bool.false_eq_true, if_false, Int.toNat_natCast, Nat.add_zero, List.length_singleton] at ih ⊢
        rw [← ih]
        simp
def words (l : List UInt8) : List (List UInt8) := (pieces l).filter fun p => !p.isEmpty
theorem words_blank (l : List UInt8) : words (32 :: l) = words l := by simp [words, pieces]
theorem words_nil : words [] = [] := rfl
def wordN (l : List UInt8) : Nat := (l.takeWhile (fun c => c != 32)).length
theorem wordN_cons (c : UInt8) (l : List UInt8) : wordN (c :: l) = if c = 32 then 0 else wordN l + 1 := by
  unfold wordN
  rw [List.takeWhile_cons]
  by_cases h : c = 32 <;> simp [h]
theorem wordN_le (l : List UInt8) : wordN l ≤ l.length := by
  induction l with
  | nil => simp [wordN]
  | cons c l ih =>
    rw [wordN_cons, List.length_cons]
    split <;> omega
theorem wordN_at : ∀ (l : List UInt8) (i : Nat), NoB 32 l i → (i = l.length ∨ l[i]? = some 32) → wordN l = i
  | [], 0, _, _ => rfl
  | c :: l, 0, _, h => by
    rcases h with h | h
    · simp at h
    · obtain rfl : c = 32 := by simpa using h
      simp [wordN_cons]
  | [], i + 1, h, _ => by obtain ⟨c, hc, _⟩ := h 0 (by omega); simp at hc
  | c :: l, i + 1, h, he => by
    obtain ⟨h1, h2⟩ := noB_tail h
    rw [wordN_cons, if_neg h1, wordN_at l i h2 (by simpa using he)]
/-- The first piece, and the others. -/
theorem pieces_head : ∀ (l : List UInt8), pieces l = l.take (wordN l) :: (if wordN l = l.length then [] else pieces (l.drop (wordN l + 1)))
  | [] => rfl
  | c :: l => by
    rw [pieces, wordN_cons]
    by_cases h : c = 32
    · simp [h]
    · rw [if_neg h, if_neg h, pieces_head l]
      simp
theorem words_head {c : UInt8} {l : List UInt8} (h : c ≠ 32) : words (c :: l) = (c :: l).take (wordN (c :: l)) :: words ((c :: l).drop (wordN (c :: l))) := by
  have hp := pieces_head (c :: l)
  have hw : wordN (c :: l) = wordN l + 1 := by rw [wordN_cons, if_neg h]
  have hne : ((c :: l).take (wordN (c :: l))).isEmpty = false := by rw [hw]; rfl
  unfold words
  rw [hp, List.filter_cons, hne]
  simp only [Bool.not_false, if_true]
  congr 1
  by_cases he : wordN (c :: l) = (c :: l).length
  · rw [if_pos he, he, List.drop_length]
    rfl
  · rw [if_neg he]
    -- behind the word stands a blank
    have hlt : wordN (c :: l) < (c :: l).length := by have := wordN_le (c :: l); omega
    have hd : (c :: l).drop (wordN (c :: l)) = 32 :: (c :: l).drop (wordN (c :: l) + 1) := by
      rw [List.drop_eq_getElem_cons hlt]
      congr 1
      have : ∀ (m : List UInt8) (hm : wordN m < m.length), m[wordN m] = 32 := by
        intro m
        induction m with
        | nil => intro hm; simp at hm
        | cons b m ih =>
          intro hm
          by_cases hb : b = 32
          · subst hb
            have e : wordN (32 :: m) = 0 := by rw [wordN_cons, if_pos rfl]
            simp only [e, List.getElem_cons_zero]
          · have e : wordN (b :: m) = wordN m + 1 := by rw [wordN_cons, if_neg hb]
            simp only [e, List.getElem_cons_succ]
            exact ih (by rw [e, List.length_cons] at hm; omega)
      exact this _ hlt
    rw [hd]
    show (pieces _).filter _ = words (32 :: _)
    rw [words_blank]
    rfl
/-- Without one CR at the end. -/
def trimB (l : List UInt8) : List UInt8 := if l.getLast? = some 13 then l.dropLast else l
theorem trim_cr (l : List UInt8) : Lib.trimSuffix l [13] = trimB l := by
  unfold Lib.trimSuffix Lib.hasSuffix trimB
  rcases List.eq_nil_or_concat l with rfl | ⟨p, c, rfl⟩
  · rfl
  · rw [List.concat_eq_append]
    have h : ([13] : List UInt8).isSuffixOf (p ++ [c]) = decide (c = 13) := by
      rw [Bool.eq_iff_iff, List.isSuffixOf_iff_suffix, decide_eq_true_eq]
      constructor
      · rintro ⟨q, hq⟩
        have := List.append_inj_right' hq rfl
        simpa using this.symm
      · rintro rfl
        exact ⟨p, rfl⟩
    rw [h]
    by_cases hc : c = 13 <;> simp [hc]
theorem trimB_le (l : List UInt8) : (trimB l).length ≤ l.length := by
  unfold trimB
  split
  · rw [List.length_dropLast]; omega
  · exact Nat.le_refl _
def wordsBad (W : List (List UInt8)) : Bool := W.any (fun x => decide (60 < x.length)) || decide (8 < W.length)
/-- A request that is a line. -/
def lineB (l : List UInt8) : List (List UInt8) × Nat × Nat :=
  if 80 < lineN l then ([], 0, 2)
  else if lineN l = l.length then ([], 0, 0)
  else if wordsBad (words (trimB (l.take (lineN l)))) = true then ([], 0, 2)
  else (words (trimB (l.take (lineN l))), lineN l + 1, 1)
/-- A request: its arguments, how many bytes it takes, how. -/
def reqB (l : List UInt8) : List (List UInt8) × Nat × Nat :=
  if l = [] then ([], 0, 0)
  else if l[0]? ≠ some 42 then lineB l
  else if (numB 8 (l.drop 1)).2.2 ≠ 1 then ([], 0, (numB 8 (l.drop 1)).2.2)
  else if (argsB (numB 8 (l.drop 1)).1 (l.drop (1 + (numB 8 (l.drop 1)).2.1))).2.2 ≠ 1 then ([], 0, (argsB (numB 8 (l.drop 1)).1 (l.drop (1 + (numB 8 (l.drop 1)).2.1))).2.2)
  else ((argsB (numB 8 (l.drop 1)).1 (l.drop (1 + (numB 8 (l.drop 1)).2.1))).1, 1 + (numB 8 (l.drop 1)).2.1 + (argsB (numB 8 (l.drop 1)).1 (l.drop (1 + (numB 8 (l.drop 1)).2.1))).2.1, 1)
end Go.Proofs.YtanpkomifhbhnaaDoor
