/- The draws: bytes of one kind, a text spoilt. -/
import Derived.Test.YtdkdlgioabjldaaDoorDraw3
import Derived.Deep.RegionHeld3
namespace Go.Proofs.YtdkdlgioabjldaaDoor
set_option linter.unusedVariables false
set_option linter.unusedSimpArgs false
open Go.RowKit
attribute [local go_sem] bs_size List.length_cons List.length_nil List.length_append

theorem vB_rep (n : Nat) (b : UInt8) : vB (List.replicate n b) = List.replicate n (Value.int .u8 b.toNat) := by simp [vB]
def LongAt (w wr : World) (n : Nat) (b : UInt8) (k : Nat) : Prop := wr.heap[w.heap.size]? = some (.cells (vB (List.replicate k b) ++ List.replicate (n - k) (Value.int .u8 0)).toArray 5 (0, 0)) ∧ Below w.heap.size w wr
theorem longAt_step {w wr : World} {n k : Nat} {b : UInt8} (h : LongAt w wr n b k) (hk : k < n) : LongAt w (wr.setCell ⟨w.heap.size, k, none⟩ (.int .u8 b.toNat)) n b (k + 1) := by
  refine ⟨?_, h.2.setCell (Nat.le_refl _) _⟩
  rw [blk_set h.1, set_next _ _ _ k n (by rw [vB_length, List.length_replicate]) hk]
  congr 4
  rw [vB_rep, vB_rep, List.replicate_succ']
theorem longAt_own {w wr : World} {n : Nat} {b : UInt8} (h : LongAt w wr n b n) (hn : n ≤ 100000) : OwnB wr w.heap.size (.slice (some ⟨w.heap.size, 0, none⟩) n n) (List.replicate n b) := by
  refine .inr ⟨w.heap.size, n, _, (0, 0), by rw [List.length_replicate], Nat.le_refl _, h.1, by rw [List.length_replicate]; exact Nat.le_refl _, by unfold maxLen; omega, by simp [vB], ?_, .inl rfl⟩
  simp [vB]
theorem infoU8 : (Tryd.prog.info? 5).map (fun i => (i.zero, i.size, i.bytes)) = some (some (.int .u8 0), 1, 1) := by kernel_rfl
theorem Cu.drew {w : World} {g : Nat} (h : Cu w g) : Cu w.drew g := h
theorem Drawn.drew {w w' : World} {g : Nat} (h : Drawn w g w') : Drawn w g w'.drew := ⟨h.1, h.2.os, h.2.tape, h.2.output, h.2.size, h.2.block⟩
end Go.Proofs.YtdkdlgioabjldaaDoor
