/- The plain law of requests: with more bytes behind, what is a request is the same one, and what can be none can be none. -/
import Derived.Test.YtanpkomifhbhnaaDoorReqL2
import Derived.Test.YtanpkomifhbhnaaDoorReq7
namespace Go.Proofs.YtanpkomifhbhnaaDoor
set_option linter.unusedVariables false
set_option linter.unusedSimpArgs false
open Go.RowKit

theorem digN_app (l e : List UInt8) : digN l ≤ digN (l ++ e) ∧ (digN l < l.length → digN (l ++ e) = digN l) := by
  induction l with
  | nil => simp [digN]
  | cons c l ih =>
    by_cases hb : digB c = true
    · have e1 : digN (c :: l) = digN l + 1 := by simp [digN, hb]
      have e2 : digN (c :: l ++ e) = digN (l ++ e) + 1 := by simp [digN, hb]
      rw [e1, e2, List.length_cons]
      exact ⟨by omega, fun h => by rw [ih.2 (by omega)]⟩
    · have e1 : digN (c :: l) = 0 := by simp [digN, hb]
      have e2 : digN (c :: l ++ e) = 0 := by simp [digN, hb]
      rw [e1, e2]
      exact ⟨Nat.le_refl _, fun _ => rfl⟩
theorem digPre_app {l e : List UInt8} {i : Nat} (h : DigPre l i) : DigPre (l ++ e) i := fun j hj => by
  obtain ⟨c, hc, hd⟩ := h j hj
  exact ⟨c, by rw [List.getElem?_append_left (List.getElem?_eq_some_iff.1 hc).1]; exact hc, hd⟩
theorem numB_app {most : Nat} {l : List UInt8} (e : List UInt8) (h : (numB most l).2.2 ≠ 0) : numB most (l ++ e) = numB most l := by
  have hp := digN_pre l
  have ha := digN_app l e
  by_cases h1 : 1 < digN l ∧ l[0]? = some 48
  · have h0 : (l ++ e)[0]? = some 48 := by rw [List.getElem?_append_left (by omega)]; exact h1.2
    rw [numB_lead h1.1 h1.2, numB_lead (by omega) h0]
  · by_cases h2 : most < decVal 0 (l.take (digN l))
    · rw [numB_over hp.1 h2, numB_over (digPre_app hp.1) (by rw [List.take_append_of_le_length hp.2]; exact h2)]
    · by_cases h3 : digN l = l.length
      · unfold numB at h
        rw [if_neg (by simp only [not_or]; exact ⟨h1, h2⟩), if_pos h3] at h
        exact (h rfl).elim
      · have hlt : digN l < l.length := by omega
        have hd := ha.2 hlt
        have e0 : (l ++ e)[digN l]? = l[digN l]? := List.getElem?_append_left hlt
        have e00 : (l ++ e)[0]? = l[0]? := List.getElem?_append_left (by omega)
        have et : (l ++ e).take (digN l) = l.take (digN l) := List.take_append_of_le_length hp.2
        have hA : ¬ ((1 < digN l ∧ l[0]? = some 48) ∨ most < decVal 0 (l.take (digN l))) := by simp only [not_or]; exact ⟨h1, h2⟩
        have hB : ¬ digN l = (l ++ e).length := by rw [List.length_append]; omega
        unfold numB at h ⊢
        rw [hd, e0, e00, et]
        rw [if_neg hA, if_neg h3] at h
        rw [if_neg hA, if_neg hA, if_neg hB, if_neg h3]
        by_cases h4 : digN l = 0 ∨ l[digN l]? ≠ some 13
        · rw [if_pos h4, if_pos h4]
        · rw [if_neg h4] at h
          rw [if_neg h4, if_neg h4]
          by_cases h5 : digN l + 1 = l.length
          · rw [if_pos h5] at h
            exact (h rfl).elim
          · have hC : ¬ digN l + 1 = (l ++ e).length := by rw [List.length_append]; omega
            rw [if_neg h5, if_neg hC, List.getElem?_append_left (by omega)]
theorem drop_app {l : List UInt8} (e : List UInt8) {n : Nat} (h : n ≤ l.length) : (l ++ e).drop n = l.drop n ++ e := List.drop_append_of_le_length h
theorem bulkB_used {l : List UInt8} (h : (bulkB l).2.2 = 1) : (bulkB l).2.1 ≤ l.length := (bulkB_ok (x := (bulkB l).1) (u := (bulkB l).2.1) (Prod.ext rfl (Prod.ext rfl h))).1
theorem bulkB_app {l : List UInt8} (e : List UInt8) (h : (bulkB l).2.2 ≠ 0) : bulkB (l ++ e) = bulkB l := by
  by_cases h0 : l = []
  · subst h0; exact (h rfl).elim
  · have hp : 0 < l.length := List.length_pos_iff.2 h0
    have h0' : l ++ e ≠ [] := by simp [h0]
    have e0 : (l ++ e)[0]? = l[0]? := List.getElem?_append_left hp
    unfold bulkB at h ⊢
    rw [if_neg h0] at h
    rw [if_neg h0, if_neg h0', e0]
    by_cases h1 : l[0]? ≠ some 36
    · rw [if_pos h1, if_pos h1]
    · rw [if_neg h1] at h ⊢
      rw [if_neg h1, drop_app e (n := 1) (by omega)]
      have hn : (numB 60 (l.drop 1)).2.2 ≠ 0 := fun hc => by
        rw [if_pos (by rw [hc]; decide)] at h
        exact h hc
      rw [numB_app e hn]
      by_cases h2 : (numB 60 (l.drop 1)).2.2 ≠ 1
      · rw [if_pos h2, if_pos h2]
      · rw [if_neg h2] at h ⊢
        rw [if_neg h2]
        have hm := (numB_most (most := 60) (l := l.drop 1) (n := (numB 60 (l.drop 1)).1) (u := (numB 60 (l.drop 1)).2.1) (Prod.ext rfl (Prod.ext rfl (Decidable.not_not.1 h2)))).2.2
        rw [List.length_drop] at hm
        rw [drop_app e (n := 1 + (numB 60 (l.drop 1)).2.1) (by omega)]
        generalize (numB 60 (l.drop 1)).1 = n at h ⊢
        generalize l.drop (1 + (numB 60 (l.drop 1)).2.1) = r at h ⊢
        have a0 : n < r.length → (r ++ e)[n]? = r[n]? := fun hlt => List.getElem?_append_left hlt
        have a1 : n + 1 < r.length → (r ++ e)[n + 1]? = r[n + 1]? := fun hlt => List.getElem?_append_left hlt
        by_cases h3 : (n < r.length ∧ r[n]? ≠ some 13) ∨ (n + 1 < r.length ∧ r[n + 1]? ≠ some 10)
        · have h3' : (n < (r ++ e).length ∧ (r ++ e)[n]? ≠ some 13) ∨ (n + 1 < (r ++ e).length ∧ (r ++ e)[n + 1]? ≠ some 10) := by
            rw [List.length_append]
            rcases h3 with ⟨h4, h5⟩ | ⟨h4, h5⟩
            · exact .inl ⟨by omega, by rw [a0 h4]; exact h5⟩
            · exact .inr ⟨by omega, by rw [a1 h4]; exact h5⟩
          rw [if_pos h3, if_pos h3']
        · rw [if_neg h3] at h
          by_cases h6 : r.length < n + 2
          · rw [if_pos h6] at h
            exact (h rfl).elim
          · have h3' : ¬ ((n < (r ++ e).length ∧ (r ++ e)[n]? ≠ some 13) ∨ (n + 1 < (r ++ e).length ∧ (r ++ e)[n + 1]? ≠ some 10)) := by
              rw [a0 (by omega), a1 (by omega)]
              rintro (⟨_, h5⟩ | ⟨_, h5⟩)
              · exact h3 (.inl ⟨by omega, h5⟩)
              · exact h3 (.inr ⟨by omega, h5⟩)
            rw [if_neg h3, if_neg h3', if_neg h6, if_neg (by rw [List.length_append]; omega), List.take_append_of_le_length (by omega)]
theorem argsB_app : ∀ (m : Nat) {l : List UInt8} (e : List UInt8), (argsB m l).2.2 ≠ 0 → argsB m (l ++ e) = argsB m l
  | 0, _, _, _ => rfl
  | m + 1, l, e, h => by
    have hb : (bulkB l).2.2 ≠ 0 := fun hc => by
      rw [argsB, if_pos (by rw [hc]; decide)] at h
      exact h hc
    rw [argsB, argsB, bulkB_app e hb]
    by_cases h1 : (bulkB l).2.2 ≠ 1
    · rw [if_pos h1, if_pos h1]
    · rw [argsB, if_neg h1] at h
      rw [if_neg h1, if_neg h1, drop_app e (bulkB_used (Decidable.not_not.1 h1))]
      have h2 : (argsB m (l.drop (bulkB l).2.1)).2.2 ≠ 0 := fun hc => by
        rw [if_pos (by rw [hc]; decide)] at h
        exact h hc
      rw [argsB_app m e h2]
theorem lineN_app (l e : List UInt8) : lineN l ≤ lineN (l ++ e) ∧ (lineN l < l.length → lineN (l ++ e) = lineN l) := by
  induction l with
  | nil => simp [lineN]
  | cons c l ih =>
    rw [List.cons_append, lineN_cons, lineN_cons, List.length_cons]
    by_cases h : c = 10
    · simp [h]
    · rw [if_neg h, if_neg h]
      exact ⟨by omega, fun h => by rw [ih.2 (by omega)]⟩
theorem lineB_app {l : List UInt8} (e : List UInt8) (h : (lineB l).2.2 ≠ 0) : lineB (l ++ e) = lineB l := by
  have ha := lineN_app l e
  have hle := lineN_le l
  unfold lineB at h ⊢
  by_cases h1 : 80 < lineN l
  · rw [if_pos h1, if_pos (by omega)]
  · rw [if_neg h1] at h
    by_cases h2 : lineN l = l.length
    · rw [if_pos h2] at h
      exact (h rfl).elim
    · have hlt : lineN l < l.length := by omega
      rw [ha.2 hlt, if_neg h1, if_neg h1, if_neg h2, if_neg (by rw [List.length_append]; omega), List.take_append_of_le_length (by omega)]
theorem reqB_app {l : List UInt8} (e : List UInt8) (h : (reqB l).2.2 ≠ 0) : reqB (l ++ e) = reqB l := by
  by_cases h0 : l = []
  · subst h0; exact (h rfl).elim
  · have hp : 0 < l.length := List.length_pos_iff.2 h0
    have h0' : l ++ e ≠ [] := by simp [h0]
    have e0 : (l ++ e)[0]? = l[0]? := List.getElem?_append_left hp
    unfold reqB at h ⊢
    rw [if_neg h0] at h
    rw [if_neg h0, if_neg h0', e0]
    by_cases h1 : l[0]? ≠ some 42
    · rw [if_pos h1] at h
      rw [if_pos h1, if_pos h1, lineB_app e h]
    · rw [if_neg h1] at h ⊢
      rw [if_neg h1, drop_app e (n := 1) (by omega)]
      have hn : (numB 8 (l.drop 1)).2.2 ≠ 0 := fun hc => by
        rw [if_pos (by rw [hc]; decide)] at h
        exact h hc
      rw [numB_app e hn]
      by_cases h2 : (numB 8 (l.drop 1)).2.2 ≠ 1
      · rw [if_pos h2, if_pos h2]
      · rw [if_neg h2] at h ⊢
        rw [if_neg h2]
        have hm := (numB_most (most := 8) (l := l.drop 1) (n := (numB 8 (l.drop 1)).1) (u := (numB 8 (l.drop 1)).2.1) (Prod.ext rfl (Prod.ext rfl (Decidable.not_not.1 h2)))).2.2
        rw [List.length_drop] at hm
        rw [drop_app e (n := 1 + (numB 8 (l.drop 1)).2.1) (by omega)]
        have h3 : (argsB (numB 8 (l.drop 1)).1 (l.drop (1 + (numB 8 (l.drop 1)).2.1))).2.2 ≠ 0 := fun hc => by
          rw [if_pos (by rw [hc]; decide)] at h
          exact h hc
        rw [argsB_app _ e h3]
/-- Where it is none, nothing is taken. -/
theorem reqB_none {l : List UInt8} (h : (reqB l).2.2 ≠ 1) : (reqB l).1 = [] ∧ (reqB l).2.1 = 0 := by
  unfold reqB at h ⊢
  split
  · exact ⟨rfl, rfl⟩
  · rename_i h0
    rw [if_neg h0] at h
    split
    · rename_i h1
      rw [if_pos h1] at h
      unfold lineB at h ⊢
      repeat' split
      all_goals first | exact ⟨rfl, rfl⟩ | skip
      rename_i h2 h3 h4
      rw [if_neg h2, if_neg h3, if_neg h4] at h
      exact (h rfl).elim
    · rename_i h1
      rw [if_neg h1] at h
      repeat' split
      all_goals first | exact ⟨rfl, rfl⟩ | skip
      rename_i h2 h3
      rw [if_neg h2, if_neg h3] at h
      exact (h rfl).elim
theorem argsB_used : ∀ (m : Nat) (l : List UInt8), (argsB m l).2.2 = 1 → (argsB m l).2.1 ≤ l.length
  | 0, l, _ => Nat.zero_le _
  | m + 1, l, h => by
    by_cases hb : (bulkB l).2.2 = 1
    · have e : bulkB l = ((bulkB l).1, (bulkB l).2.1, 1) := Prod.ext rfl (Prod.ext rfl hb)
      have h1 := (bulkB_ok e).1
      rw [argsB_succ e] at h ⊢
      by_cases h2 : (argsB m (l.drop (bulkB l).2.1)).2.2 = 1
      · have h3 := argsB_used m _ h2
        rw [List.length_drop] at h3
        rw [if_neg (by rw [h2]; simp)]
        show (bulkB l).2.1 + _ ≤ _
        omega
      · rw [if_pos h2]; exact Nat.zero_le _
    · rw [argsB_fail hb]; exact Nat.zero_le _
theorem lineB_used {l : List UInt8} (h : (lineB l).2.2 = 1) : 1 ≤ (lineB l).2.1 ∧ (lineB l).2.1 ≤ l.length := by
  have hl := lineN_le l
  unfold lineB at h ⊢
  split at h
  · simp at h
  · rename_i h1
    split at h
    · simp at h
    · rename_i h2
      split at h
      · simp at h
      · rename_i h3
        rw [if_neg h1, if_neg h2, if_neg h3]
        show 1 ≤ lineN l + 1 ∧ lineN l + 1 ≤ l.length
        omega
theorem reqB_used {l : List UInt8} (h : (reqB l).2.2 = 1) : 1 ≤ (reqB l).2.1 ∧ (reqB l).2.1 ≤ l.length := by
  by_cases h0 : l = []
  · subst h0; simp [reqB] at h
  · by_cases h42 : l[0]? = some 42
    · by_cases hn : (numB 8 (l.drop 1)).2.2 = 1
      · have e : numB 8 (l.drop 1) = ((numB 8 (l.drop 1)).1, (numB 8 (l.drop 1)).2.1, 1) := Prod.ext rfl (Prod.ext rfl hn)
        have h1 := (numB_most e).2.2
        rw [List.length_drop] at h1
        rw [reqB_args h42 e] at h ⊢
        by_cases h2 : (argsB (numB 8 (l.drop 1)).1 (l.drop (1 + (numB 8 (l.drop 1)).2.1))).2.2 = 1
        · have h3 := argsB_used _ _ h2
          rw [List.length_drop] at h3
          have h4 := (numB_most e).2.1
          rw [if_neg (by rw [h2]; simp)]
          show 1 ≤ 1 + _ + _ ∧ 1 + _ + _ ≤ _
          omega
        · rw [if_pos h2] at h; exact (h2 h).elim
      · rw [reqB_num h42 hn] at h; exact (hn h).elim
    · rw [reqB_line h0 h42] at h ⊢
      exact lineB_used h
end Go.Proofs.YtanpkomifhbhnaaDoor
