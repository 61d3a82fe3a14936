/- Writes: the program's and the reference's tell the same of every list of arguments. -/
import Derived.Test.YtanpkomifhbhnaaDoorCmds
import Derived.Outline
namespace Go.Proofs.YtanpkomifhbhnaaDoor
set_option linter.unusedVariables false
set_option linter.unusedSimpArgs false
open Go.RowKit
def writesB (xs : List ByteArray) : Bool := oneOfB xs (bs cmdN) && !oneOfB xs (bs readN)
set_option maxRecDepth 100000 in
theorem impl_Writes_calls (A : Option Addr) (c : Nat) (xs : List ByteArray) (w : World) (h : StrRow w A c xs) (hS : Sp w) :
    Calls Tryd.prog 38 #[.slice A xs.length c] w fun e w' => e = .returned (.bool (writesB xs)) ∧ Below w.heap.size w w' := by
  have HR := Lib.hid h
  have HP := Lib.hid hS
  have HB := Lib.hid hS.big
  clear h hS
  cases hc : oneOfB xs (bs cmdN)
  · have he : writesB xs = false := by unfold writesB; rw [hc]; rfl
    have HE := Lib.hid he
    clear he
    go_enter Tryd.func38, Tryd.ntmps38
    go_wp2_with (go_at_call 57; refine (impl_oneOf_calls _ _ xs (bs cmdN) _ HR.out cmdN_plain HP.out).mono ?_; rw [hc]; rintro e w' ⟨rfl, hb⟩)
    go_ret
    exact ⟨ret_bool HE.out.symm, hb⟩
  · have he : writesB xs = !oneOfB xs (bs readN) := by unfold writesB; rw [hc]; rfl
    have HE := Lib.hid he
    clear he
    go_enter Tryd.func38, Tryd.ntmps38
    go_wp2_with fail
    go_at_call 57
    refine (impl_oneOf_calls _ _ xs (bs cmdN) _ HR.out cmdN_plain HP.out).mono ?_
    rw [hc]
    rintro e w1 ⟨rfl, hb⟩
    have HB1 := Lib.hid hb
    clear hb
    go_wp2_with fail
    go_at_call 57
    refine (impl_oneOf_calls _ _ xs (bs readN) _ (HR.out.below HB1.out) readN_plain (HP.out.below HB1.out HB.out)).mono ?_
    rintro e w2 ⟨rfl, hb2⟩
    go_wp2
    go_ret
    exact ⟨ret_bool HE.out.symm, HB1.out.trans (hb2.mono HB1.out.size)⟩
theorem cmdW_row {w : World} {b : Nat} (h : StrBlk w b cmdW.length cmdW) : StrRow w (some ⟨b, 0, none⟩) cmdW.length cmdW := h.row fun s hs => of_decide_eq_true (List.all_eq_true.1 (show cmdW.all (fun s => decide (s.size ≤ 9223372036854775807)) = true by kernel_rfl) s hs)
theorem readW_row {w : World} {b : Nat} (h : StrBlk w b readW.length readW) : StrRow w (some ⟨b, 0, none⟩) readW.length readW := h.row fun s hs => of_decide_eq_true (List.all_eq_true.1 (show readW.all (fun s => decide (s.size ≤ 9223372036854775807)) = true by kernel_rfl) s hs)
theorem blk_lit {w w2 : World} {cs : Array Value} (ws : List ByteArray) (e : cs = (ws.map Value.string).toArray) (hl : ws.length ≤ 9223372036854775807) (h : Below (w.alloc (.cells cs 9)).heap.size (w.alloc (.cells cs 9)) w2) :
    StrBlk w2 w.heap.size ws.length ws := by
  subst e
  exact StrBlk.below ⟨[], by rw [blk_new, List.append_nil], rfl, hl⟩ h
end Go.Proofs.YtanpkomifhbhnaaDoor
