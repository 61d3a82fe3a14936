/- The walks of the laws FnExactCommands and FnExactWrites. -/
import Derived.Test.YtanpkomifhbhnaaDoorCmds
import Derived.Test.YtanpkomifhbhnaaDoorMark
import Derived.Test.YtanpkomifhbhnaaDoorRows
import Derived.LaidMore
import Derived.Stop.Joined
import Derived.Stop.LaidErr
import Derived.ProofKit
namespace Go.Proofs.YtanpkomifhbhnaaDoor
set_option linter.unusedVariables false
set_option linter.unusedSimpArgs false
open Go.RowKit
theorem sp_of_tab {w : World} (h : Lib.TabIs Tryd.prog w "strings.asciiSpace" .u8 Lib.asciiSpaceTab) : Sp w :=
  ⟨h, World.block_lt_of_cell? w _ (h.cell gSp 0 (by rw [Lib.asciiSpaceTab_length]; omega))⟩
theorem gSpType : (Tryd.prog.globals[0]?).map (·.type) = some 103 := by kernel_rfl
theorem spTab_eq {H : Type} : (Rows.laid_strings_asciiSpace : DataW H) = Lib.tabData .u8 Lib.asciiSpaceTab := by kernel_rfl
theorem sp_of_laid {W : World} {rest : List (String × DataW Unit)} (h : laidMet Tryd.prog (("strings.asciiSpace", Rows.laid_strings_asciiSpace) :: rest) W) : Sp W := by
  rw [spTab_eq] at h
  exact sp_of_tab (Lib.tabIs_of_head (rest := rest) gSp gSpType Tryd.underlying103 Tryd.underlying5 (by kernel_rfl) (by kernel_rfl) h)
theorem StrBlk.other {w w' : World} {b b' c : Nat} {xs : List ByteArray} (h : StrBlk w b c xs) (hg : w.grownBy w' (some b')) (hne : b ≠ b') : StrBlk w' b c xs := by
  obtain ⟨more, hb, hc⟩ := h
  exact ⟨more, (hg.block b (blk_lt hb) (by simpa using hne)).trans hb, hc⟩
theorem below_marked {B : Nat} {w w1 w2 : World} {b n c : Nat} (h : Below B w w1) (hg : w1.grownBy w2 (Value.slice (some ⟨b, 0, none⟩) n c).ownBlock) (hB : B ≤ w1.heap.size) (hb : B ≤ b) : Below B w w2 :=
  h.grown hg hB fun k hk => by
    simp only [Value.ownBlock, Option.some.injEq] at hk
    omega
theorem StrOwn.marksRow {w : World} {B b n c k : Nat} (h : StrOwn w B (.slice (some ⟨b, 0, none⟩) n c) (marks k n)) (hk : k + n ≤ 1000000000000) : StrRow w (some ⟨b, 0, none⟩) c (marks k n) := by
  obtain ⟨A, c', e, hr⟩ := h.row (marks_size hk)
  injection e with e1 e2 e3
  subst e1 e3
  exact hr
theorem StrOwn.blk {w : World} {B b n c : Nat} {xs : List ByteArray} (h : StrOwn w B (.slice (some ⟨b, 0, none⟩) n c) xs) : StrBlk w b c xs := by
  rcases h with ⟨e, _⟩ | ⟨b', c', e, _, hk⟩
  · cases e
  · injection e with e1 e2 e3
    injection e1 with e1
    injection e1 with e1
    subst e1 e3
    exact hk
theorem cmdW_small : ∀ s ∈ cmdW, s.size ≤ 9223372036854775807 := fun s hs => of_decide_eq_true (List.all_eq_true.1 (show cmdW.all (fun s => decide (s.size ≤ 9223372036854775807)) = true by kernel_rfl) s hs)
end Go.Proofs.YtanpkomifhbhnaaDoor
