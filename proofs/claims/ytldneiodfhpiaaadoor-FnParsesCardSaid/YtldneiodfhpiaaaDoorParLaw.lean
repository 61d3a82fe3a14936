/- The walk of the law FnExactParseRequest. -/
import Derived.Test.YtldneiodfhpiaaaDoorReq8
import Derived.Test.YtldneiodfhpiaaaDoorMark
import Derived.Shelf.LaysM
namespace Go.Proofs.YtldneiodfhpiaaaDoor
set_option linter.unusedVariables false
set_option linter.unusedSimpArgs false
open Go.RowKit
attribute [local go_sem] bs_size List.length_cons List.length_nil List.length_append

theorem maxAt_of_shaped {w : World} (h : w.ShapedOpen Tryd.prog) : MaxAt w := by
  obtain ⟨m, hm⟩ := Go.Proofs.cell_of_shapedOpen_int (zero := #[.int .i64 0]) (g := 2) (t := 3) h (of_decide_eq_true (by kernel_rfl)) (by kernel_rfl) rfl (by kernel_rfl) (by kernel_rfl) Tryd.underlying3
  exact ⟨World.block_lt_of_cell? w _ hm, m, hm⟩
theorem StrRow.other {w w' : World} {c' : Nat} {A : Option Addr} {v : Value} {xs : List ByteArray} (h : StrRow w A c' xs) (hg : w.grownBy w' v.ownBlock) (hne : ∀ ad, A = some ad → v.ownBlock ≠ some ad.block) : StrRow w' A c' xs :=
  ⟨h.1, h.2.1, h.2.2.1, fun hp => by
    obtain ⟨ad, e, hl, hc⟩ := h.2.2.2 hp
    refine ⟨ad, e, Nat.lt_of_lt_of_le hl hg.size, fun j hj => ?_⟩
    have := hg.block (ad.add j).block (by rw [add_block]; exact hl) (by rw [add_block]; exact fun e2 => hne ad e e2.symm)
    exact (World.cell?_of_block this).trans (hc j hj)⟩
theorem StrOwn.lt {w : World} {B : Nat} {v : Value} {xs : List ByteArray} (h : StrOwn w B v xs) : ∀ k, v.ownBlock = some k → B ≤ k ∧ k < w.heap.size := by
  intro k hk
  rcases h with ⟨rfl, _⟩ | ⟨b, c, rfl, hB, more, hb, _⟩
  · simp [Value.ownBlock] at hk
  · simp only [Value.ownBlock, Option.some.injEq] at hk
    subst hk
    exact ⟨hB, blk_lt hb⟩
theorem StrOwn.rowMarks {w : World} {B n c k : Nat} {A : Option Addr} (h : StrOwn w B (.slice A n c) (marks k n)) (hk : k + n ≤ 1000000000000) : StrRow w A c (marks k n) := by
  obtain ⟨A', c', e, hr⟩ := h.row (marks_size hk)
  injection e with e1 e2 e3
  subst e1 e3
  exact hr
theorem own_apart {w1 w2 : World} {B n c1 c2 : Nat} {A1 A2 : Option Addr} {xs ys : List ByteArray} (h1 : StrOwn w1 B (.slice A1 xs.length c1) xs) (h2 : StrOwn w2 w1.heap.size (.slice A2 n c2) ys) : ∀ ad, A1 = some ad → (Value.slice A2 n c2).ownBlock ≠ some ad.block := by
  intro ad e h
  have h3 := (h2.lt _ h).1
  subst e
  rcases h1 with ⟨e, _⟩ | ⟨b, c, e, _, more, hb, _⟩
  · cases e
  · injection e with e1 e2 e3
    injection e1 with e1
    subst e1
    have := blk_lt hb
    simp at h3
    omega
theorem argsB_small : ∀ (m : Nat) (l : List UInt8), (argsB m l).1.length ≤ m ∧ ∀ x ∈ (argsB m l).1, x.length ≤ 60
  | 0, _ => by simp [argsB]
  | m + 1, l => by
    by_cases h : (bulkB l).2.2 = 1
    · rw [argsB_succ (x := (bulkB l).1) (u := (bulkB l).2.1) (Prod.ext rfl (Prod.ext rfl h))]
      obtain ⟨h1, h2⟩ := argsB_small m (l.drop (bulkB l).2.1)
      split
      · simp
      · refine ⟨by simp; omega, fun x hx => ?_⟩
        rcases List.mem_cons.1 hx with rfl | hx
        · exact (bulkB_ok (x := (bulkB l).1) (u := (bulkB l).2.1) (Prod.ext rfl (Prod.ext rfl h))).2
        · exact h2 x hx
    · rw [argsB_fail h]; simp
theorem lineB_small (l : List UInt8) : (lineB l).1.length ≤ 8 ∧ ∀ x ∈ (lineB l).1, x.length ≤ 60 := by
  unfold lineB
  split
  · simp
  · split
    · simp
    · split
      · simp
      · rename_i h
        unfold wordsBad at h
        simp only [Bool.or_eq_true, not_or, List.any_eq_true, not_exists, not_and, decide_eq_true_eq] at h
        exact ⟨Nat.le_of_not_lt h.2, fun x hx => by have := h.1 x hx; omega⟩
theorem reqB_small (l : List UInt8) : (reqB l).1.length ≤ 8 ∧ ∀ x ∈ (reqB l).1, x.length ≤ 60 := by
  unfold reqB
  split
  · simp
  · split
    · exact lineB_small l
    · split
      · simp
      · rename_i h
        have hm := (numB_most (most := 8) (l := l.drop 1) (n := (numB 8 (l.drop 1)).1) (u := (numB 8 (l.drop 1)).2.1) (Prod.ext rfl (Prod.ext rfl (Decidable.not_not.1 h)))).1
        split
        · simp
        · obtain ⟨h1, h2⟩ := argsB_small (numB 8 (l.drop 1)).1 (l.drop (1 + (numB 8 (l.drop 1)).2.1))
          exact ⟨by show (argsB _ _).1.length ≤ 8; omega, h2⟩
end Go.Proofs.YtldneiodfhpiaaaDoor
