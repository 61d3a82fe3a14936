/- The plain law of requests: what RequestText writes is read as it was. -/
import Derived.Test.YtanpkomifhbhnaaDoorPreL
import Derived.Test.YtanpkomifhbhnaaDoorReq
namespace Go.Proofs.YtanpkomifhbhnaaDoor
set_option linter.unusedVariables false
set_option linter.unusedSimpArgs false
open Go.RowKit

theorem decDigits_head : ∀ (k u : Nat), u ≤ k → 1 < (Lib.decDigits u).length → (Lib.decDigits u)[0]? ≠ some 48
  | 0, u, hk, h => by
    rw [Lib.decDigits, dif_pos (by omega)] at h
    simp at h
  | k + 1, u, hk, h => by
    by_cases h10 : u < 10
    · rw [Lib.decDigits, dif_pos h10] at h
      simp at h
    · rw [Lib.decDigits, dif_neg h10] at h ⊢
      have hne := (decDigits_digs (u / 10)).2.2
      have hp : 0 < (Lib.decDigits (u / 10)).length := List.length_pos_iff.2 hne
      rw [List.getElem?_append_left hp]
      by_cases h1 : 1 < (Lib.decDigits (u / 10)).length
      · exact decDigits_head k (u / 10) (by omega) h1
      · by_cases h100 : u / 10 < 10
        · rw [Lib.decDigits, dif_pos h100]
          intro e
          have e2 : UInt8.ofNat (48 + u / 10) = 48 := by simpa using e
          have := congrArg UInt8.toNat e2
          rw [UInt8.toNat_ofNat'] at this
          have h48 : (48 : UInt8).toNat = 48 := rfl
          omega
        · refine absurd ?_ h1
          have := List.length_pos_iff.2 (decDigits_digs (u / 10 / 10)).2.2
          rw [Lib.decDigits, dif_neg h100, List.length_append, List.length_singleton]
          omega
theorem numB_itoa {most n : Nat} (rest : List UInt8) (h : n ≤ most) : numB most (Lib.itoa (n : Int) ++ 13 :: 10 :: rest) = (n, (Lib.itoa (n : Int)).length + 2, 1) := by
  rw [itoa_nat]
  obtain ⟨h1, h2, h3⟩ := decDigits_digs n
  have hhead := decDigits_head n n (Nat.le_refl _)
  generalize Lib.decDigits n = D at h1 h2 h3 hhead
  have hp : 0 < D.length := List.length_pos_iff.2 h3
  have hd : digN (D ++ 13 :: 10 :: rest) = D.length := by
    refine digN_at _ _ (fun j hj => ?_) (.inr ⟨13, by simp, by unfold isDig; decide⟩)
    exact ⟨D[j], by rw [List.getElem?_append_left hj, List.getElem?_eq_getElem hj], h1 _ (List.getElem_mem hj)⟩
  have ht : (D ++ 13 :: 10 :: rest).take D.length = D := by simp
  have e0 : (D ++ 13 :: 10 :: rest)[0]? = D[0]? := List.getElem?_append_left hp
  have e1 : (D ++ 13 :: 10 :: rest)[D.length]? = some 13 := by simp
  have e2 : (D ++ 13 :: 10 :: rest)[D.length + 1]? = some 10 := by rw [List.getElem?_append_right (by omega), show D.length + 1 - D.length = 1 by omega]; rfl
  have hl : (D ++ 13 :: 10 :: rest).length = D.length + 2 + rest.length := by simp; omega
  unfold numB
  rw [hd, ht, e0, e1, e2, hl, h2]
  rw [if_neg (by rintro (⟨a, b⟩ | a); exact hhead a b; omega), if_neg (by omega), if_neg (by rintro (a | a); omega; exact a rfl), if_neg (by omega), if_neg (by simp)]
theorem bulkText_split (x rest : List UInt8) : bulkText x ++ rest = 36 :: (Lib.itoa (x.length : Int) ++ 13 :: 10 :: (x ++ 13 :: 10 :: rest)) := by simp [bulkText]
theorem bulkB_text {x : List UInt8} (rest : List UInt8) (h : x.length ≤ 60) : bulkB (bulkText x ++ rest) = (x, (bulkText x).length, 1) := by
  have hn := numB_itoa (most := 60) (x ++ 13 :: 10 :: rest) h
  rw [bulkText_split]
  have hd1 : (36 :: (Lib.itoa (x.length : Int) ++ 13 :: 10 :: (x ++ 13 :: 10 :: rest))).drop 1 = Lib.itoa (x.length : Int) ++ 13 :: 10 :: (x ++ 13 :: 10 :: rest) := rfl
  have hd2 : (36 :: (Lib.itoa (x.length : Int) ++ 13 :: 10 :: (x ++ 13 :: 10 :: rest))).drop (1 + ((Lib.itoa (x.length : Int)).length + 2)) = x ++ 13 :: 10 :: rest := by
    rw [show 1 + ((Lib.itoa (x.length : Int)).length + 2) = (Lib.itoa (x.length : Int)).length + 2 + 1 by omega, List.drop_succ_cons, List.drop_append]
    simp
  have e1 : (x ++ 13 :: 10 :: rest)[x.length]? = some 13 := by simp
  have e2 : (x ++ 13 :: 10 :: rest)[x.length + 1]? = some 10 := by rw [List.getElem?_append_right (by omega), show x.length + 1 - x.length = 1 by omega]; rfl
  unfold bulkB
  rw [if_neg (by simp), if_neg (by simp), hd1, hn]
  simp only
  rw [hd2, e1, e2, if_neg (by decide), if_neg (by simp), if_neg (by simp), List.take_left']
  · simp [bulkText]; omega
  · rfl
theorem argsB_text : ∀ (xs : List ByteArray) (rest : List UInt8), (∀ x ∈ xs, x.size ≤ 60) → argsB xs.length (bulks xs ++ rest) = (xs.map ub, (bulks xs).length, 1)
  | [], _, _ => rfl
  | x :: xs, rest, h => by
    have hb : bulks (x :: xs) ++ rest = bulkText (ub x) ++ (bulks xs ++ rest) := by simp [bulks]
    have h1 := bulkB_text (x := ub x) (bulks xs ++ rest) (by rw [ub_length]; exact h x (by simp))
    have h2 := argsB_text xs rest fun y hy => h y (by simp [hy])
    rw [hb, List.length_cons, argsB, h1]
    simp only [List.drop_left]
    rw [h2, if_neg (by decide), if_neg (by simp)]
    simp [bulks]
theorem reqB_text {xs : List ByteArray} (rest : List UInt8) (hk : xs.length ≤ 8) (hs : ∀ x ∈ xs, x.size ≤ 60) : reqB (headText xs.length ++ bulks xs ++ rest) = (xs.map ub, (headText xs.length ++ bulks xs).length, 1) := by
  have hn := numB_itoa (most := 8) (bulks xs ++ rest) hk
  have hsp : headText xs.length ++ bulks xs ++ rest = 42 :: (Lib.itoa (xs.length : Int) ++ 13 :: 10 :: (bulks xs ++ rest)) := by simp [headText]
  have hd1 : (42 :: (Lib.itoa (xs.length : Int) ++ 13 :: 10 :: (bulks xs ++ rest))).drop 1 = Lib.itoa (xs.length : Int) ++ 13 :: 10 :: (bulks xs ++ rest) := rfl
  have hd2 : (42 :: (Lib.itoa (xs.length : Int) ++ 13 :: 10 :: (bulks xs ++ rest))).drop (1 + ((Lib.itoa (xs.length : Int)).length + 2)) = bulks xs ++ rest := by
    rw [show 1 + ((Lib.itoa (xs.length : Int)).length + 2) = (Lib.itoa (xs.length : Int)).length + 2 + 1 by omega, List.drop_succ_cons, List.drop_append]
    simp
  rw [hsp]
  unfold reqB
  rw [if_neg (by simp), if_neg (by simp), hd1, hn]
  simp only
  rw [hd2, argsB_text xs rest hs, if_neg (by decide), if_neg (by simp)]
  simp [headText]; omega
/-- Cut short it is none yet. -/
theorem reqB_cut {l : List UInt8} (h : (reqB l).2.2 = 1) (hu : (reqB l).2.1 = l.length) {k : Nat} (hk : k < l.length) : reqB (l.take k) = ([], 0, 0) := by
  have e : l = l.take k ++ l.drop k := (List.take_append_drop k l).symm
  have h0 : (reqB (l.take k)).2.2 = 0 := by
    refine Decidable.byContradiction fun hne => ?_
    have ha := reqB_app (l := l.take k) (l.drop k) hne
    rw [← e] at ha
    have h1 : (reqB (l.take k)).2.2 = 1 := by rw [← ha]; exact h
    have := (reqB_used h1).2
    rw [← ha, hu, List.length_take] at this
    omega
  have hn := reqB_none (l := l.take k) (by rw [h0]; decide)
  exact Prod.ext hn.1 (Prod.ext hn.2 h0)
end Go.Proofs.YtanpkomifhbhnaaDoor
