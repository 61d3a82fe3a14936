/- The plain law of requests in a row: they are read as they were written; cut, just the whole ones are. -/
import Derived.Test.YtanpkomifhbhnaaDoorReqRT
import Derived.Test.YtanpkomifhbhnaaDoorReqs
namespace Go.Proofs.YtanpkomifhbhnaaDoor
set_option linter.unusedVariables false
set_option linter.unusedSimpArgs false
open Go.RowKit

def textR (xs : List ByteArray) : List UInt8 := headText xs.length ++ bulks xs
def textsR (L : List (List ByteArray)) : List UInt8 := (L.map textR).flatten
def Fine (xs : List ByteArray) : Prop := xs.length ≤ 8 ∧ ∀ x ∈ xs, x.size ≤ 60
theorem textR_pos (xs : List ByteArray) : 0 < (textR xs).length := by simp [textR, headText]
theorem textsR_cons (xs : List ByteArray) (L : List (List ByteArray)) : textsR (xs :: L) = textR xs ++ textsR L := by simp [textsR]
theorem reqsF_texts : ∀ (L : List (List ByteArray)) (f : Nat), L.length < f → (∀ xs ∈ L, Fine xs) → reqsF f (textsR L) = (L.map (·.map ub), (textsR L).length, false)
  | _, 0, h, _ => by omega
  | [], f + 1, _, _ => rfl
  | xs :: L, f + 1, h, hf => by
    obtain ⟨hk, hs⟩ := hf xs (by simp)
    have h1 := reqB_text (textsR L) hk hs
    have h2 := reqsF_texts L f (by simp at h; omega) fun y hy => hf y (by simp [hy])
    have e : textsR (xs :: L) = headText xs.length ++ bulks xs ++ textsR L := by rw [textsR_cons]; rfl
    rw [e, reqsF, h1]
    simp only [List.drop_left, if_true]
    rw [h2]
    simp [Nat.add_assoc]
theorem reqsF_cut : ∀ (L : List (List ByteArray)) (f k : Nat), L.length < f → (∀ xs ∈ L, Fine xs) → k ≤ (textsR L).length →
    ∃ j, j ≤ L.length ∧ reqsF f ((textsR L).take k) = ((L.take j).map (·.map ub), (textsR (L.take j)).length, false) ∧ (textsR (L.take j)).length ≤ k ∧ (j < L.length → k < (textsR (L.take (j + 1))).length)
  | _, 0, _, h, _, _ => by omega
  | [], f + 1, k, _, _, hk => by
    have : k = 0 := by simpa [textsR] using hk
    subst this
    exact ⟨0, Nat.le_refl _, rfl, Nat.zero_le _, fun h => absurd h (by simp)⟩
  | xs :: L, f + 1, k, h, hf, hk => by
    obtain ⟨hk8, hs⟩ := hf xs (by simp)
    by_cases hlt : k < (textR xs).length
    · have h1 := reqB_text [] hk8 hs
      rw [List.append_nil] at h1
      have hc : reqB ((textR xs).take k) = ([], 0, 0) := reqB_cut (l := textR xs) (by unfold textR; rw [h1]) (by unfold textR; rw [h1]) hlt
      have ht : (textsR (xs :: L)).take k = (textR xs).take k := by rw [textsR_cons, List.take_append_of_le_length (Nat.le_of_lt hlt)]
      refine ⟨0, Nat.zero_le _, ?_, Nat.zero_le _, fun _ => ?_⟩
      · rw [ht, reqsF, hc]
        rfl
      · simpa [textsR] using hlt
    · have hge : (textR xs).length ≤ k := Nat.le_of_not_lt hlt
      rw [textsR_cons, List.length_append] at hk
      obtain ⟨j, hj, e, hle, hnx⟩ := reqsF_cut L f (k - (textR xs).length) (by simp at h; omega) (fun y hy => hf y (by simp [hy])) (by omega)
      have ht : (textsR (xs :: L)).take k = headText xs.length ++ bulks xs ++ (textsR L).take (k - (textR xs).length) := by
        rw [textsR_cons, List.take_append, List.take_of_length_le hge]
        rfl
      have h1 := reqB_text ((textsR L).take (k - (textR xs).length)) hk8 hs
      refine ⟨j + 1, by simp; omega, ?_, ?_, fun hj2 => ?_⟩
      · rw [ht, reqsF, h1]
        simp only [List.drop_left, if_true]
        rw [e]
        simp [textsR_cons, textR, Nat.add_assoc]
      · rw [List.take_succ_cons, textsR_cons, List.length_append]
        omega
      · rw [List.take_succ_cons, textsR_cons, List.length_append]
        have := hnx (by simp at hj2; omega)
        omega
end Go.Proofs.YtanpkomifhbhnaaDoor
