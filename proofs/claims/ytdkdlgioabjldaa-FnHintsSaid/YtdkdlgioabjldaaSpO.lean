/- Rows of spots of the call's own. -/
import Derived.Test.YtdkdlgioabjldaaHint1
namespace Go.Proofs.Ytdkdlgioabjldaa
set_option linter.unusedVariables false
set_option linter.unusedSimpArgs false
open Go.RowKit
attribute [local go_sem] bs_size List.length_cons List.length_nil List.length_append

theorem info_sp : (Try.prog.info? 31).map (fun i => (i.zero, i.size, i.bytes)) = some (some (.agg #[.string ⟨#[]⟩, .int .i64 0, .int .i64 0, .int .i64 0]), 4, 40) := by kernel_rfl
/-- A row of spots of the call's own, made from block B on. -/
def SpOwn (w : World) (B : Nat) (v : Value) (ds : List SpotD) : Prop := w.ownsRow B 31 4 v ds.length (spFlat ds)
theorem SpOwn.row {w : World} {B : Nat} {v : Value} {ds : List SpotD} (h : SpOwn w B v ds) (hs : ∀ x ∈ ds, x.1.size ≤ 9223372036854775807) : ∃ A c, v = .slice A ds.length c ∧ SpRow w A c ds := by
  rcases own_cells (f := spVals) (m := 4) (fun _ => rfl) h with ⟨rfl, rfl⟩ | ⟨g, cap, rfl, _, hg, hn, hm, hc⟩
  · exact ⟨none, 0, rfl, by simp, by simp, hs, fun h0 => by simp at h0⟩
  · refine ⟨_, cap, rfl, hn, hm, hs, fun _ => ⟨_, rfl, hg, fun j x hx => ?_⟩⟩
    rw [add_plain]
    exact ⟨hc j x 0 hx (by omega), hc j x 1 hx (by omega), hc j x 2 hx (by omega), hc j x 3 hx (by omega)⟩
theorem SpOwn.below {w w' : World} {B : Nat} {v : Value} {ds : List SpotD} (h : SpOwn w B v ds) (hb : Below w.heap.size w w') : SpOwn w' B v ds := own_keep h hb
end Go.Proofs.Ytdkdlgioabjldaa
