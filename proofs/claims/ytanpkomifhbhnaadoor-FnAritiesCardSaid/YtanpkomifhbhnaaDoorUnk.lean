/- Fault, Unknown. By wip/tools/genunk.py. -/
import Derived.Test.YtanpkomifhbhnaaDoorArity
namespace Go.Proofs.YtanpkomifhbhnaaDoor
set_option linter.unusedVariables false
set_option linter.unusedSimpArgs false
open Go.RowKit
attribute [local go_sem] bs_size List.length_cons List.length_nil List.length_append
def faultS (s : ByteArray) : ByteArray := ((⟨#[45]⟩ : ByteArray) ++ s) ++ (⟨#[13, 10]⟩ : ByteArray)
theorem impl_Fault_calls (s : ByteArray) (w : World) (hs : s.size ≤ 1000000000000) : Calls Tryd.prog 49 #[.string s] w fun e w' => e = .returned (.string (faultS s)) ∧ w = w' := by
  go_enter Tryd.func49, Tryd.ntmps49
  go_wp2
  go_ret
  exact ⟨rfl, rfl⟩
theorem spec_Fault_calls (s : ByteArray) (w : World) (hs : s.size ≤ 1000000000000) : Calls Tryd.prog 58 #[.string s] w fun e w' => e = .returned (.string (faultS s)) ∧ w = w' := by
  go_enter Tryd.func58, Tryd.ntmps58
  go_wp2
  go_ret
  exact ⟨rfl, rfl⟩
def errU : ByteArray := ⟨#[69, 82, 82, 32, 117, 110, 107, 110, 111, 119, 110]⟩
def errA : ByteArray := ⟨#[69, 82, 82, 32, 97, 114, 103, 117, 109, 101, 110, 116, 115]⟩
def unkS (xs : List ByteArray) : ByteArray := if oneOfB xs (bs cmdN) = false then faultS errU else if arityB xs = false then faultS errA else ⟨#[]⟩
set_option maxRecDepth 100000 in
theorem impl_Unknown_calls (A : Option Addr) (c : Nat) (xs : List ByteArray) (w : World) (h : StrRow w A c xs) (hS : Sp w) :
    Calls Tryd.prog 18 #[.slice A xs.length c] w fun e w' => e = .returned (.string (unkS xs)) ∧ Below w.heap.size w w' := by
  have HR := Lib.hid h
  have HP := Lib.hid hS
  have HG := Lib.hid hS.big
  clear h hS
  cases hc : oneOfB xs (bs cmdN)
  · have HE : Hid (unkS xs = faultS errU) := by rw [Hid, unkS, if_pos hc]
    have HC := Lib.hid hc
    clear hc
    go_enter Tryd.func18, Tryd.ntmps18
    go_wp2_with fail
    go_at_call 57
    refine (impl_oneOf_calls _ _ xs (bs cmdN) _ HR.out cmdN_plain HP.out).mono ?_
    rw [HC.out]
    rintro e w1 ⟨rfl, hb⟩
    go_wp2_with (go_at_call 49; refine (impl_Fault_calls errU _ (by decide)).mono ?_; rintro e w2 ⟨rfl, rfl⟩)
    go_ret
    exact ⟨ret_str HE.out.symm, hb⟩
  · cases ha : arityB xs
    · have HE : Hid (unkS xs = faultS errA) := by rw [Hid, unkS, hc, ha]; exact rfl
      have HC := Lib.hid hc
      have HA := Lib.hid ha
      clear hc ha
      go_enter Tryd.func18, Tryd.ntmps18
      go_wp2_with fail
      go_at_call 57
      refine (impl_oneOf_calls _ _ xs (bs cmdN) _ HR.out cmdN_plain HP.out).mono ?_
      rw [HC.out]
      rintro e w1 ⟨rfl, hb⟩
      have HB := Lib.hid hb
      clear hb
      go_wp2_with fail
      go_at_call 15
      refine (impl_ArityOk_calls _ _ xs _ (HR.out.below HB.out) (HP.out.below HB.out HG.out)).mono ?_
      rw [HA.out]
      rintro e w2 ⟨rfl, hb⟩
      have HB2 := Lib.hid (HB.out.trans (hb.mono HB.out.size))
      clear hb
      go_wp2_with (go_at_call 49; refine (impl_Fault_calls errA _ (by decide)).mono ?_; rintro e w2 ⟨rfl, rfl⟩)
      go_ret
      exact ⟨ret_str HE.out.symm, HB2.out⟩
    · have HE : Hid (unkS xs = (⟨#[]⟩ : ByteArray)) := by rw [Hid, unkS, hc, ha]; exact rfl
      have HC := Lib.hid hc
      have HA := Lib.hid ha
      clear hc ha
      go_enter Tryd.func18, Tryd.ntmps18
      go_wp2_with fail
      go_at_call 57
      refine (impl_oneOf_calls _ _ xs (bs cmdN) _ HR.out cmdN_plain HP.out).mono ?_
      rw [HC.out]
      rintro e w1 ⟨rfl, hb⟩
      have HB := Lib.hid hb
      clear hb
      go_wp2_with fail
      go_at_call 15
      refine (impl_ArityOk_calls _ _ xs _ (HR.out.below HB.out) (HP.out.below HB.out HG.out)).mono ?_
      rw [HA.out]
      rintro e w2 ⟨rfl, hb⟩
      have HB2 := Lib.hid (HB.out.trans (hb.mono HB.out.size))
      clear hb
      go_wp2_with (go_at_call 49; refine (impl_Fault_calls errA _ (by decide)).mono ?_; rintro e w2 ⟨rfl, rfl⟩)
      go_ret
      exact ⟨ret_str HE.out.symm, HB2.out⟩
set_option maxRecDepth 100000 in
theorem spec_Unknown_calls (A : Option Addr) (c : Nat) (xs : List ByteArray) (w : World) (h : StrRow w A c xs) :
    Calls Tryd.prog 17 #[.slice A xs.length c] w fun e w' => e = .returned (.string (unkS xs)) ∧ Below w.heap.size w w' := by
  have hl := h.len
  by_cases h0 : 0 < xs.length
  · have HR := Lib.hid h
    obtain ⟨ad, x, rfl, hc0, hz, HX⟩ := h.at_ h0
    have hc : w.cell? ad = some (.string x) := hc0
    have HS0 : Hid (HeldS w ad x w.heap.size w) := ⟨h.block h0, hc, Nat.le_refl _, Below.refl _ _⟩
    have hne : ((xs.length : Int) == 0) = false := beq_eq_false_iff_ne.mpr (by omega)
    clear h hc0
    go_enter Tryd.func17, Tryd.ntmps17
    go_wp2
    go_region_held3 (fun w' => w'.cell? ad = some (.string x) ∧ HeldS w ad x w.heap.size w')
      (first | exact ⟨hc, heldS_drew HS0.out⟩ | assumption | (have hk' := heldS_keep (heldS_drew HS0.out) hb; exact ⟨hk'.2.1, hk'⟩) | (have hk' := heldS_keep (heldS_drew HS0.out) hbU; exact ⟨hk'.2.1, hk'⟩) | (have hk' := heldS_keep (heldS_keep (heldS_drew HS0.out) hb) hbU; exact ⟨hk'.2.1, hk'⟩) | (have hk' := heldS_keep (heldS_keep (heldS_drew HS0.out) hbU) hb; exact ⟨hk'.2.1, hk'⟩) | (have hk' := heldS_keep (heldS_keep (heldS_keep (heldS_drew HS0.out) hbU) hb) hbI; exact ⟨hk'.2.1, hk'⟩) | (have hk' := heldS_keep (heldS_keep (heldS_keep (heldS_drew HS0.out) hb) hbU) hbI; exact ⟨hk'.2.1, hk'⟩))
      (first
        | (go_at_call 56; refine (spec_Commands_calls _).mono ?_; rintro e w' ⟨b1, rfl, hlt1, hblk, hb⟩)
        | (go_at_call 36; refine (spec_Upper_calls x _ hz).mono ?_; rintro e w' ⟨rfl, hbU⟩)
        | (go_at_call 55; refine (spec_l13In_calls _ _ cmdW _ _ (by first | exact cmdW_row hblk | exact cmdW_row (hblk.below hbU))).mono ?_; rintro e w' ⟨rfl, hbI⟩))
    all_goals
      have HK := Lib.hid (And.right ‹_ ∧ HeldS _ _ _ _ _›)
      clear hbI hbU hb hblk
      cases hcm : Lib.containsS cmdW (upS x)
      · have HE : Hid (unkS xs = faultS errU) := by rw [Hid, unkS, if_pos (oneOf_W HX.out cmdN_words hcm)]
        go_wp2_with (go_at_call 58; refine (spec_Fault_calls errU _ (by decide)).mono ?_; rintro e w2 ⟨rfl, rfl⟩)
        go_ret
        exact ⟨ret_str HE.out.symm, HK.out.2.2.2⟩
      · have HB := Lib.hid HK.out.2.2.2
        cases ha : arityB xs
        · have HE : Hid (unkS xs = faultS errA) := by rw [Hid, unkS, oneOf_W HX.out cmdN_words hcm, ha]; exact rfl
          have HA := Lib.hid ha
          clear ha
          go_wp2_with fail
          go_at_call 13
          refine (spec_ArityOk_calls _ _ xs _ (HR.out.below HB.out)).mono ?_
          rw [HA.out]
          rintro e w2 ⟨rfl, hb⟩
          have HB2 := Lib.hid (HB.out.trans (hb.mono HB.out.size))
          clear hb
          go_wp2_with (go_at_call 58; refine (spec_Fault_calls errA _ (by decide)).mono ?_; rintro e w2 ⟨rfl, rfl⟩)
          go_ret
          exact ⟨ret_str HE.out.symm, HB2.out⟩
        · have HE : Hid (unkS xs = (⟨#[]⟩ : ByteArray)) := by rw [Hid, unkS, oneOf_W HX.out cmdN_words hcm, ha]; exact rfl
          have HA := Lib.hid ha
          clear ha
          go_wp2_with fail
          go_at_call 13
          refine (spec_ArityOk_calls _ _ xs _ (HR.out.below HB.out)).mono ?_
          rw [HA.out]
          rintro e w2 ⟨rfl, hb⟩
          have HB2 := Lib.hid (HB.out.trans (hb.mono HB.out.size))
          clear hb
          go_wp2_with (go_at_call 58; refine (spec_Fault_calls errA _ (by decide)).mono ?_; rintro e w2 ⟨rfl, rfl⟩)
          go_ret
          exact ⟨ret_str HE.out.symm, HB2.out⟩
  · have h1 : xs.length = 0 := by omega
    have hne : ((xs.length : Int) == 0) = true := beq_iff_eq.mpr (by omega)
    have HE : Hid (unkS xs = faultS errU) := by rw [Hid, unkS, if_pos (oneOf_none h1)]
    clear h h0 h1
    go_enter Tryd.func17, Tryd.ntmps17
    go_wp2
    go_quiet (fail)
    go_wp2_with (go_at_call 58; refine (spec_Fault_calls errU _ (by decide)).mono ?_; rintro e w2 ⟨rfl, rfl⟩)
    go_ret
    exact ⟨ret_str HE.out.symm, blwN (Below.refl _ _) _⟩
end Go.Proofs.YtanpkomifhbhnaaDoor
