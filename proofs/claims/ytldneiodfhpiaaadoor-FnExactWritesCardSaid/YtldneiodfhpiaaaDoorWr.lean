/- Writes: the program's and the reference's tell the same of every list of arguments. -/
import Derived.Test.YtldneiodfhpiaaaDoorCmds
import Derived.Outline
namespace Go.Proofs.YtldneiodfhpiaaaDoor
set_option linter.unusedVariables false
set_option linter.unusedSimpArgs false
open Go.RowKit
def writesB (xs : List ByteArray) : Bool := oneOfB xs (bs cmdN) && !oneOfB xs (bs readN)
set_option maxRecDepth 100000 in
theorem impl_Writes_calls (A : Option Addr) (c : Nat) (xs : List ByteArray) (w : World) (h : StrRow w A c xs) (hS : Sp w) :
    Calls Tryd.prog 28 #[.slice A xs.length c] w fun e w' => e = .returned (.bool (writesB xs)) ∧ Below w.heap.size w w' := by
  have HR := Lib.hid h
  have HP := Lib.hid hS
  have HB := Lib.hid hS.big
  clear h hS
  cases hc : oneOfB xs (bs cmdN)
  · have he : writesB xs = false := by unfold writesB; rw [hc]; rfl
    have HE := Lib.hid he
    clear he
    go_enter Tryd.func28, Tryd.ntmps28
    go_wp2_with (go_at_call 47; refine (impl_oneOf_calls _ _ xs (bs cmdN) _ HR.out cmdN_plain HP.out).mono ?_; rw [hc]; rintro e w' ⟨rfl, hb⟩)
    go_ret
    exact ⟨ret_bool HE.out.symm, hb⟩
  · have he : writesB xs = !oneOfB xs (bs readN) := by unfold writesB; rw [hc]; rfl
    have HE := Lib.hid he
    clear he
    go_enter Tryd.func28, Tryd.ntmps28
    go_wp2_with fail
    go_at_call 47
    refine (impl_oneOf_calls _ _ xs (bs cmdN) _ HR.out cmdN_plain HP.out).mono ?_
    rw [hc]
    rintro e w1 ⟨rfl, hb⟩
    have HB1 := Lib.hid hb
    clear hb
    go_wp2_with fail
    go_at_call 47
    refine (impl_oneOf_calls _ _ xs (bs readN) _ (HR.out.below HB1.out) readN_plain (HP.out.below HB1.out HB.out)).mono ?_
    rintro e w2 ⟨rfl, hb2⟩
    go_wp2
    go_ret
    exact ⟨ret_bool HE.out.symm, HB1.out.trans (hb2.mono HB1.out.size)⟩
theorem cmdW_row {w : World} {b : Nat} (h : StrBlk w b cmdW.length cmdW) : StrRow w (some ⟨b, 0, none⟩) cmdW.length cmdW := h.row fun s hs => of_decide_eq_true (List.all_eq_true.1 (show cmdW.all (fun s => decide (s.size ≤ 9223372036854775807)) = true by kernel_rfl) s hs)
theorem readW_row {w : World} {b : Nat} (h : StrBlk w b readW.length readW) : StrRow w (some ⟨b, 0, none⟩) readW.length readW := h.row fun s hs => of_decide_eq_true (List.all_eq_true.1 (show readW.all (fun s => decide (s.size ≤ 9223372036854775807)) = true by kernel_rfl) s hs)
theorem blk_lit {w w2 : World} {cs : Array Value} (ws : List ByteArray) (e : cs = (ws.map Value.string).toArray) (hl : ws.length ≤ 9223372036854775807) (h : Below (w.alloc (.cells cs 9)).heap.size (w.alloc (.cells cs 9)) w2) :
    StrBlk w2 w.heap.size ws.length ws := by
  subst e
  exact StrBlk.below ⟨[], by rw [blk_new, List.append_nil], rfl, hl⟩ h
set_option maxRecDepth 100000 in
theorem spec_Writes_calls (A : Option Addr) (c : Nat) (xs : List ByteArray) (w : World) (h : StrRow w A c xs) :
    Calls Tryd.prog 26 #[.slice A xs.length c] w fun e w' => e = .returned (.bool (writesB xs)) ∧ Below w.heap.size w w' := by
  have hl := h.len
  by_cases h0 : 0 < xs.length
  · obtain ⟨ad, x, rfl, hc0, hz, HX⟩ := h.at_ h0
    have hc : w.cell? ad = some (.string x) := hc0
    have HS0 : Hid (HeldS w ad x w.heap.size w) := ⟨h.block h0, hc, Nat.le_refl _, Below.refl _ _⟩
    have hne : ((xs.length : Int) == 0) = false := beq_eq_false_iff_ne.mpr (by omega)
    have e1 : oneOfB xs (bs cmdN) = Lib.containsS cmdW (upS x) := by rw [oneOf_some HX.out, cmdN_words]
    have e2 : oneOfB xs (bs readN) = Lib.containsS readW (upS x) := by rw [oneOf_some HX.out, readN_words]
    have E : Hid (writesB xs = (Lib.containsS cmdW (upS x) && !Lib.containsS readW (upS x))) := by unfold Hid writesB; rw [e1, e2]
    clear h hc0 e1 e2
    go_enter Tryd.func26, Tryd.ntmps26
    go_wp2
    go_region_held3 (fun w' => w'.cell? ad = some (.string x) ∧ HeldS w ad x w.heap.size w')
      (first | exact ⟨hc, heldS_drew HS0.out⟩ | assumption | (have hk' := heldS_keep (heldS_drew HS0.out) hb; exact ⟨hk'.2.1, hk'⟩) | (have hk' := heldS_keep (heldS_drew HS0.out) hbU; exact ⟨hk'.2.1, hk'⟩) | (have hk' := heldS_keep (heldS_keep (heldS_drew HS0.out) hb) hbU; exact ⟨hk'.2.1, hk'⟩) | (have hk' := heldS_keep (heldS_keep (heldS_drew HS0.out) hbU) hb; exact ⟨hk'.2.1, hk'⟩) | (have hk' := heldS_keep (heldS_keep (heldS_keep (heldS_drew HS0.out) hbU) hb) hbI; exact ⟨hk'.2.1, hk'⟩) | (have hk' := heldS_keep (heldS_keep (heldS_keep (heldS_drew HS0.out) hb) hbU) hbI; exact ⟨hk'.2.1, hk'⟩))
      (first
        | (go_at_call 10; refine (spec_Commands_calls _).mono ?_; rintro e w' ⟨b1, rfl, hlt1, hblk, hb⟩)
        | (go_at_call 46; refine (spec_Upper_calls x _ hz).mono ?_; rintro e w' ⟨rfl, hbU⟩)
        | (go_at_call 45; refine (spec_l13In_calls _ _ cmdW _ _ (by first | exact cmdW_row hblk | exact cmdW_row (hblk.below hbU))).mono ?_; rintro e w' ⟨rfl, hbI⟩))
    all_goals
      have HK := Lib.hid (And.right ‹_ ∧ HeldS _ _ _ _ _›)
      cases hcm : Lib.containsS cmdW (upS x)
      · go_wp2
        go_ret
        exact ⟨ret_bool (by rw [E.out, hcm]; rfl), HK.out.2.2.2⟩
      · have hc2 := fun o => cell_new HK.out.2.1 o
        clear hbI hbU hb hblk
        go_wp2_with fail
        go_at_call 46
        refine (spec_Upper_calls x _ hz).mono ?_
        rintro e w2 ⟨rfl, hb2⟩
        have hk := blk_lit readW (by kernel_rfl) (by decide) hb2
        have HB2 := Lib.hid (HK.out.2.2.2.trans (((Below.refl w'.heap.size w').alloc (Nat.le_refl _) _).trans (hb2.mono (by simp)) |>.mono HK.out.2.2.2.size))
        clear hb2
        go_wp2_with fail
        go_at_call 45
        refine (spec_l13In_calls _ _ readW _ _ (readW_row hk)).mono ?_
        rintro e w3 ⟨rfl, hb3⟩
        go_wp2
        go_ret
        exact ⟨ret_bool (by rw [E.out, hcm]; rfl), HB2.out.trans (hb3.mono HB2.out.size)⟩
  · have h1 : xs.length = 0 := by omega
    have hne : ((xs.length : Int) == 0) = true := beq_iff_eq.mpr (by omega)
    have E : Hid (writesB xs = false) := by unfold Hid writesB; rw [oneOf_none h1]; rfl
    clear h h0 h1
    go_enter Tryd.func26, Tryd.ntmps26
    go_wp2
    go_quiet (fail)
    go_wp2
    go_ret
    exact ⟨ret_bool E.out.symm, blwN (Below.refl _ _) _⟩
end Go.Proofs.YtldneiodfhpiaaaDoor
