/- Rows of texts that the call makes: one text more behind them, in whatever memory. -/
import Derived.Test.YtdoaemagednclaaDoorStrs
import Derived.Deep.AppendLies
namespace Go.Proofs.YtdoaemagednclaaDoor
set_option linter.unusedVariables false
set_option linter.unusedSimpArgs false
open Go.RowKit

theorem strOwn_of_row {w : World} {B : Nat} {v : Value} {xs : List ByteArray} (h : w.ownsRow B 9 1 v xs.length (xs.map Value.string)) : StrOwn w B v xs := by
  rcases h.2 with ⟨rfl, h0⟩ | ⟨g, cap, cur, rfl, hB, hg, hn, hm, hc, ht⟩
  · exact .inl ⟨rfl, List.eq_nil_of_length_eq_zero h0⟩
  · refine .inr ⟨g, cap, rfl, hB, cur.toList.drop xs.length, ?_, ?_, hm⟩
    · rw [← ht, Nat.mul_one, List.take_append_drop]
      exact hg
    · have hc1 : (cur.toList.drop xs.length).length = cap - xs.length := by
        rw [List.length_drop]
        simp [hc]
      omega
theorem StrOwn.mono {w : World} {B B' : Nat} {v : Value} {xs : List ByteArray} (h : StrOwn w B v xs) (hb : B' ≤ B) : StrOwn w B' v xs := by
  rcases h with h | ⟨b, c, rfl, h1, h2⟩
  · exact .inl h
  · exact .inr ⟨b, c, rfl, by omega, h2⟩
/-- A row of texts of the call's own, made from block B on. -/
def OwnS (w : World) (B : Nat) (v : Value) (xs : List ByteArray) : Prop := w.ownsRow B 9 1 v xs.length (xs.map Value.string)
theorem OwnS.nil (w : World) (B : Nat) : OwnS w B (.slice none 0 0) [] := World.ownsRow_nil w B _ _
theorem OwnS.empty (w : World) {B : Nat} (hB : B ≤ w.heap.size) : OwnS (w.alloc (.cells #[] 9)) B (.slice (some ⟨w.heap.size, 0, none⟩) 0 0) [] := World.ownsRow_made w #[] 0 hB (Nat.zero_le _) rfl
theorem OwnS.below {w w' : World} {B : Nat} {v : Value} {xs : List ByteArray} (h : OwnS w B v xs) (hb : Below w.heap.size w w') : OwnS w' B v xs := by
  refine World.ownsRow.kept h (row := none) ⟨hb.os, hb.tape, hb.output, hb.size, fun k hk _ => hb.block k hk⟩ ?_
  cases v.ownBlock
  · exact .inl rfl
  · exact .inr (by simp)
theorem OwnS.own {w : World} {B B' : Nat} {v : Value} {xs : List ByteArray} (h : OwnS w B v xs) (hb : B' ≤ B) : StrOwn w B' v xs := (strOwn_of_row h).mono hb
theorem OwnS.pushed {w2 : World} {B g cap : Nat} {xs : List ByteArray} {x : ByteArray} (h : w2.ownsRow B 9 1 (.slice (some ⟨g, 0, none⟩) (xs.length + 1) cap) (xs.length + 1) (xs.map Value.string ++ [.string x])) : OwnS w2 B (.slice (some ⟨g, 0, none⟩) (xs.length + 1) cap) (xs ++ [x]) := by
  unfold OwnS
  rw [List.map_append, List.length_append]
  exact h
theorem OwnS.form {w : World} {B : Nat} {v : Value} {xs : List ByteArray} (h : OwnS w B v xs) : ∃ A c, v = .slice A xs.length c := by
  rcases h.2 with ⟨rfl, h0⟩ | ⟨g, cap, cur, rfl, _⟩
  · exact ⟨none, 0, by rw [h0]⟩
  · exact ⟨_, _, rfl⟩
theorem OwnS.lt {w : World} {B : Nat} {v : Value} {xs : List ByteArray} (h : OwnS w B v xs) : ∀ k, v.ownBlock = some k → B ≤ k ∧ k < w.heap.size := World.ownsRow.lt h
/-- Behind an append: nothing below B is another. -/
theorem below_push {B : Nat} {a w w2 : World} {o : Obj} {v : Value} {xs : List ByteArray} (h : Below B a w) (hB : B ≤ w.heap.size) (ho : OwnS w B v xs) (hg : (w.alloc o).grownBy w2 v.ownBlock) : Below B a w2 :=
  (h.alloc hB o).grown hg (by simp; omega) fun k hk => (ho.lt k hk).1
theorem info_str : (Tryd.prog.info? 9).map (fun i => (i.zero, i.size, i.bytes)) = some (some (.string ByteArray.empty), 1, 16) := by kernel_rfl
end Go.Proofs.YtdoaemagednclaaDoor
