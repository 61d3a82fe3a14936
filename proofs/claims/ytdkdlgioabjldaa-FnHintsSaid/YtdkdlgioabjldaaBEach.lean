/- The reader's each, at the closure of ReadBatch: one change more behind the batch's changes, in whatever memory. -/
import Derived.Test.YtdkdlgioabjldaaGrow
import Derived.Test.YtdkdlgioabjldaaBatL
namespace Go.Proofs.Ytdkdlgioabjldaa
set_option linter.unusedVariables false
set_option linter.unusedSimpArgs false
open Go.RowKit
attribute [local go_sem] bs_size List.length_cons List.length_nil List.length_append

def chVals (c : ChD) : List Value := [.string c.1, .string c.2.1, .bool c.2.2]
def chFlat (cs : List ChD) : List Value := (cs.map chVals).flatten
theorem chFlat_len : ∀ cs : List ChD, (chFlat cs).length = cs.length * 3
  | [] => rfl
  | c :: cs => by
    have := chFlat_len cs
    unfold chFlat at this ⊢
    rw [List.map_cons, List.flatten_cons, List.length_append, this]
    simp [chVals]
    omega
theorem chFlat_snoc (cs : List ChD) (c : ChD) : chFlat (cs ++ [c]) = chFlat cs ++ chVals c := by simp [chFlat]
abbrev ptrObj (ty : TypeId) (gr : Nat) : Obj := .cells #[.pointer (some ⟨gr, 0, none⟩)] ty
/-- A batch under way. -/
abbrev BSt (B gp gv gr : Nat) (s : ByteArray) (q : Int) (cs : List ChD) (v : Value) (a : Nat) (bad : Bool) (w0 w : World) : Prop :=
  GSt 42 90 93 3 B gv gr [(gp, ptrObj 40 gr)] s [.int .i64 q] cs.length (chFlat cs) v a bad w0 w
theorem info_ch : (Try.prog.info? 93).map (fun i => (i.zero, i.size, i.bytes)) = some (some (.agg #[.string ⟨#[]⟩, .string ⟨#[]⟩, .bool false]), 3, 40) := by kernel_rfl
theorem int_eq1 (n : Nat) : ((n : Int) == 1) = decide (n = 1) := by
  by_cases h : n = 1
  · simp [h]
  · rw [decide_eq_false h]
    exact beq_eq_false_iff_ne.mpr (by omega)
theorem chI_le (s : ByteArray) {a : Nat} (h : a ≤ s.size) : (chI s a).2.1 ≤ s.size := (rText_le s _ (rByte_le s _ (rText_le s false h).1).1).1
end Go.Proofs.Ytdkdlgioabjldaa
