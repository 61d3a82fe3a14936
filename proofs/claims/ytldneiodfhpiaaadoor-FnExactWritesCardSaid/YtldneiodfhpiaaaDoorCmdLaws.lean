/- The walks of the laws FnExactCommands and FnExactWrites. -/
import Derived.Test.YtldneiodfhpiaaaDoorCmds
import Derived.Test.YtldneiodfhpiaaaDoorMark
import Derived.Test.YtldneiodfhpiaaaDoorRows
import Derived.LaidMore
import Derived.Stop.Joined
import Derived.Stop.LaidErr
import Derived.ProofKit
namespace Go.Proofs.YtldneiodfhpiaaaDoor
set_option linter.unusedVariables false
set_option linter.unusedSimpArgs false
open Go.RowKit
theorem sp_of_tab {w : World} (h : Lib.TabIs Tryd.prog w "strings.asciiSpace" .u8 Lib.asciiSpaceTab) : Sp w :=
  ⟨h, World.block_lt_of_cell? w _ (h.cell gSp 0 (by rw [Lib.asciiSpaceTab_length]; omega))⟩
theorem gSpType : (Tryd.prog.globals[0]?).map (·.type) = some 53 := by kernel_rfl
theorem spTab_eq {H : Type} : (Rows.laid_strings_asciiSpace : DataW H) = Lib.tabData .u8 Lib.asciiSpaceTab := by kernel_rfl
theorem sp_of_laid {W : World} {rest : List (String × DataW Unit)} (h : laidMet Tryd.prog (("strings.asciiSpace", Rows.laid_strings_asciiSpace) :: rest) W) : Sp W := by
  rw [spTab_eq] at h
  exact sp_of_tab (Lib.tabIs_of_head (rest := rest) gSp gSpType Tryd.underlying53 Tryd.underlying5 (by kernel_rfl) (by kernel_rfl) h)
theorem StrBlk.other {w w' : World} {b b' c : Nat} {xs : List ByteArray} (h : StrBlk w b c xs) (hg : w.grownBy w' (some b')) (hne : b ≠ b') : StrBlk w' b c xs := by
  obtain ⟨more, hb, hc⟩ := h
  exact ⟨more, (hg.block b (blk_lt hb) (by simpa using hne)).trans hb, hc⟩
theorem below_marked {B : Nat} {w w1 w2 : World} {b n c : Nat} (h : Below B w w1) (hg : w1.grownBy w2 (Value.slice (some ⟨b, 0, none⟩) n c).ownBlock) (hB : B ≤ w1.heap.size) (hb : B ≤ b) : Below B w w2 :=
  h.grown hg hB fun k hk => by
    simp only [Value.ownBlock, Option.some.injEq] at hk
    omega
theorem StrOwn.marksRow {w : World} {B b n c k : Nat} (h : StrOwn w B (.slice (some ⟨b, 0, none⟩) n c) (marks k n)) (hk : k + n ≤ 1000000000000) : StrRow w (some ⟨b, 0, none⟩) c (marks k n) := by
  obtain ⟨A, c', e, hr⟩ := h.row (marks_size hk)
  injection e with e1 e2 e3
  subst e1 e3
  exact hr
theorem StrOwn.blk {w : World} {B b n c : Nat} {xs : List ByteArray} (h : StrOwn w B (.slice (some ⟨b, 0, none⟩) n c) xs) : StrBlk w b c xs := by
  rcases h with ⟨e, _⟩ | ⟨b', c', e, _, hk⟩
  · cases e
  · injection e with e1 e2 e3
    injection e1 with e1
    injection e1 with e1
    subst e1 e3
    exact hk
theorem cmdW_small : ∀ s ∈ cmdW, s.size ≤ 9223372036854775807 := fun s hs => of_decide_eq_true (List.all_eq_true.1 (show cmdW.all (fun s => decide (s.size ≤ 9223372036854775807)) = true by kernel_rfl) s hs)
theorem sp_of_laid_FnExactCommands {W : World} (h : laidMetH Tryd.prog Rows.fnExactCommandsRow.laid W) : Sp W := by
  rw [MakeChecks.laidMetH_plain _ _ _ (by kernel_rfl)] at h
  exact sp_of_laid (laidMet.tail h)
set_option maxRecDepth 100000 in
theorem walk_FnExactCommands (w : World) (hS : Sp w) :
    Calls Tryd.prog 3 #[] w fun e w' => e = .returned (.bool true) ∧ Below w.heap.size w w' := by
  have HP := Lib.hid hS
  have HB := Lib.hid hS.big
  clear hS
  have hn : cmdW.length ≤ 100 := by decide
  go_enter Tryd.func3, Tryd.ntmps3
  go_wp2_with fail
  go_at_call 10
  refine (spec_Commands_calls _).mono ?_
  rintro e w1 ⟨b1, rfl, hlt1, hk1, hb1⟩
  have HK1 := Lib.hid hk1
  have HB1 := Lib.hid hb1
  clear hk1 hb1
  go_wp2_with fail
  go_at_call 11
  refine (impl_Commands_calls _ (HP.out.below HB1.out HB.out)).mono ?_
  rintro e w2 ⟨b2, rfl, hlt2, hk2, hb2⟩
  have hne : b1 ≠ b2 := by
    obtain ⟨m, hb, _⟩ := HK1.out
    have := blk_lt hb
    omega
  have HK2 := Lib.hid hk2
  have HK1' := Lib.hid (HK1.out.below hb2)
  have HB2 := Lib.hid (HB1.out.trans (hb2.mono HB1.out.size))
  have hB2 : w.heap.size ≤ b2 := Nat.le_trans HB1.out.size hlt2
  clear hk2 hb2
  have he := eqS_self cmdW
  go_wp2_with fail
  go_at_call 12
  refine (laws_eqStringS_calls _ _ cmdW _ _ cmdW _ (HK2.out.row cmdW_small) (HK1'.out.row cmdW_small)).mono ?_
  rintro e w3 ⟨rfl, hb3⟩
  have HK1'' := Lib.hid (HK1'.out.below hb3)
  have HK2' := Lib.hid (HK2.out.below hb3)
  have HB3 := Lib.hid (HB2.out.trans (hb3.mono HB2.out.size))
  clear hb3
  go_wp2_with fail
  go_at_call 13
  refine (laws_markStringS_calls w.heap.size _ cmdW 1 _ (.inr ⟨b2, _, rfl, hB2, HK2'.out⟩) (by omega) (by omega)).mono ?_
  rintro e w4 ⟨rfl, ho4, hg4⟩
  have HK14 := Lib.hid (HK1''.out.other (b' := b2) hg4 hne)
  have HB4 := Lib.hid (below_marked HB3.out hg4 HB3.out.size hB2)
  have HO4 := Lib.hid ho4.blk
  have HR4 := Lib.hid (ho4.marksRow (by omega))
  clear ho4 hg4
  go_wp2_with fail
  go_at_call 14
  refine (laws_heldStringS_calls _ _ cmdW.length 1 _ HR4.out (by omega) (by omega)).mono ?_
  rintro e w5 ⟨rfl, hb5⟩
  have HK15 := Lib.hid (HK14.out.below hb5)
  have HO5 := Lib.hid (HO4.out.below hb5)
  have HR5 := Lib.hid (HR4.out.below hb5)
  have HB5 := Lib.hid (HB4.out.trans (hb5.mono HB4.out.size))
  clear hb5
  go_wp2_with fail
  go_at_call 11
  refine (impl_Commands_calls _ (HP.out.below HB5.out HB.out)).mono ?_
  rintro e w6 ⟨b6, rfl, hlt6, hk6, hb6⟩
  have HK6 := Lib.hid hk6
  have HK16 := Lib.hid (HK15.out.below hb6)
  have HR6 := Lib.hid (HR5.out.below hb6)
  have HB6 := Lib.hid (HB5.out.trans (hb6.mono HB5.out.size))
  clear hk6 hb6
  go_wp2_with fail
  go_at_call 12
  refine (laws_eqStringS_calls _ _ cmdW _ _ cmdW _ (HK6.out.row cmdW_small) (HK16.out.row cmdW_small)).mono ?_
  rintro e w7 ⟨rfl, hb7⟩
  have HR7 := Lib.hid (HR6.out.below hb7)
  have HB7 := Lib.hid (HB6.out.trans (hb7.mono HB6.out.size))
  clear hb7
  go_wp2_with fail
  go_at_call 14
  refine (laws_heldStringS_calls _ _ cmdW.length 1 _ HR7.out (by omega) (by omega)).mono ?_
  rintro e w8 ⟨rfl, hb8⟩
  have HB8 := Lib.hid (HB7.out.trans (hb8.mono HB7.out.size))
  clear hb8
  go_wp2
  go_ret
  exact ⟨rfl, HB8.out⟩
end Go.Proofs.YtldneiodfhpiaaaDoor
