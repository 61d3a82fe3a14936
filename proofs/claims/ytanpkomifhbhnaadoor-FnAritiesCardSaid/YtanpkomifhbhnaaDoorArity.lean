/- ArityOk, Unknown: the program's and the reference's tell the same of every list of arguments. By wip/tools/genarity.py. -/
import Derived.Test.YtanpkomifhbhnaaDoorWr
namespace Go.Proofs.YtanpkomifhbhnaaDoor
set_option linter.unusedVariables false
set_option linter.unusedSimpArgs false
open Go.RowKit
def arN (c : Nat) (n : Int) : Bool := match c with
  | 0 => n == 0 | 1 => n == 1 | 2 => n == 2 | 3 => n == 3 | 4 => decide (1 ≤ n) | 5 => decide (2 ≤ n) | _ => n == 2 || n == 4 || n == 6
/-- The class of a command's name, by the program's order of lists. -/
def clsI (z : ByteArray) : Nat := if Lib.containsS a0W z = true then 0 else if Lib.containsS a1W z = true then 1 else if Lib.containsS a2W z = true then 2 else if Lib.containsS a3W z = true then 3 else if Lib.containsS m1W z = true then 4 else if Lib.containsS m2W z = true then 5 else 6
def mset : ByteArray := ⟨#[77, 83, 69, 84]⟩
theorem mset_list : mset.toList = [77, 83, 69, 84] := by rw [ByteArray.toList_eq]; rfl
def clsS (z : ByteArray) : Nat := if Lib.containsS a0W z = true then 0 else if Lib.containsS a2W z = true then 2 else if Lib.containsS a3W z = true then 3 else if Lib.containsS m1W z = true then 4 else if Lib.containsS m2W z = true then 5 else if z = mset then 6 else 1
theorem cls_all : cmdW.all (fun z => decide (clsI z = clsS z)) = true := by kernel_rfl
theorem cls_same {z : ByteArray} (h : Lib.containsS cmdW z = true) : clsI z = clsS z := of_decide_eq_true (List.all_eq_true.1 cls_all z ((Lib.containsS_iff cmdW z).1 h))
def arityB (xs : List ByteArray) : Bool := match xs[0]? with
  | some x => Lib.containsS cmdW (upS x) && arN (clsI (upS x)) ((xs.length : Int) - 1)
  | none => false
theorem arity_some {xs : List ByteArray} {x : ByteArray} (h : xs[0]? = some x) (hc : Lib.containsS cmdW (upS x) = true) {c : Nat} (hk : clsI (upS x) = c) : arityB xs = arN c ((xs.length : Int) - 1) := by unfold arityB; rw [h]; simp [hc, hk]
theorem arity_no {xs : List ByteArray} {x : ByteArray} (h : xs[0]? = some x) (hc : Lib.containsS cmdW (upS x) = false) : arityB xs = false := by unfold arityB; rw [h]; simp [hc]
theorem arity_none {xs : List ByteArray} (h : xs.length = 0) : arityB xs = false := by unfold arityB; rw [List.getElem?_eq_none (by omega)]
theorem oneOf_W {xs : List ByteArray} {names x : ByteArray} {ws : List ByteArray} (h : xs[0]? = some x) (hw : fwords names = ws) {b : Bool} (hb : Lib.containsS ws (upS x) = b) : oneOfB xs names = b := by rw [oneOf_some h, hw, hb]
theorem last_class {xs : List ByteArray} {x : ByteArray} (h : xs[0]? = some x) (hc : Lib.containsS cmdW (upS x) = true) (hk : clsI (upS x) = 6) {b : Bool} (hb : b = ((xs.length : Int) - 1 == 2 || (xs.length : Int) - 1 == 4 || (xs.length : Int) - 1 == 6)) : b = arityB xs := by rw [arity_some h hc hk, hb]; rfl
theorem a0W_row {w : World} {b : Nat} (h : StrBlk w b a0W.length a0W) : StrRow w (some ⟨b, 0, none⟩) a0W.length a0W := h.row fun s hs => of_decide_eq_true (List.all_eq_true.1 (show a0W.all (fun s => decide (s.size ≤ 9223372036854775807)) = true by kernel_rfl) s hs)
theorem a1W_row {w : World} {b : Nat} (h : StrBlk w b a1W.length a1W) : StrRow w (some ⟨b, 0, none⟩) a1W.length a1W := h.row fun s hs => of_decide_eq_true (List.all_eq_true.1 (show a1W.all (fun s => decide (s.size ≤ 9223372036854775807)) = true by kernel_rfl) s hs)
theorem a2W_row {w : World} {b : Nat} (h : StrBlk w b a2W.length a2W) : StrRow w (some ⟨b, 0, none⟩) a2W.length a2W := h.row fun s hs => of_decide_eq_true (List.all_eq_true.1 (show a2W.all (fun s => decide (s.size ≤ 9223372036854775807)) = true by kernel_rfl) s hs)
theorem a3W_row {w : World} {b : Nat} (h : StrBlk w b a3W.length a3W) : StrRow w (some ⟨b, 0, none⟩) a3W.length a3W := h.row fun s hs => of_decide_eq_true (List.all_eq_true.1 (show a3W.all (fun s => decide (s.size ≤ 9223372036854775807)) = true by kernel_rfl) s hs)
theorem m1W_row {w : World} {b : Nat} (h : StrBlk w b m1W.length m1W) : StrRow w (some ⟨b, 0, none⟩) m1W.length m1W := h.row fun s hs => of_decide_eq_true (List.all_eq_true.1 (show m1W.all (fun s => decide (s.size ≤ 9223372036854775807)) = true by kernel_rfl) s hs)
theorem m2W_row {w : World} {b : Nat} (h : StrBlk w b m2W.length m2W) : StrRow w (some ⟨b, 0, none⟩) m2W.length m2W := h.row fun s hs => of_decide_eq_true (List.all_eq_true.1 (show m2W.all (fun s => decide (s.size ≤ 9223372036854775807)) = true by kernel_rfl) s hs)
set_option maxRecDepth 100000 in
theorem impl_ArityOk_calls (A : Option Addr) (c : Nat) (xs : List ByteArray) (w : World) (h : StrRow w A c xs) (hS : Sp w) :
    Calls Tryd.prog 15 #[.slice A xs.length c] w fun e w' => e = .returned (.bool (arityB xs)) ∧ Below w.heap.size w w' := by
  have HR := Lib.hid h
  have HP := Lib.hid hS
  have HG := Lib.hid hS.big
  have hl := h.len
  clear h hS
  by_cases h0 : xs.length = 0
  · have hc : oneOfB xs (bs cmdN) = false := oneOf_none h0
    have HE := Lib.hid (arity_none h0)
    have HC := Lib.hid hc
    clear hc h0
    go_enter Tryd.func15, Tryd.ntmps15
    go_wp2_with (go_at_call 57; refine (impl_oneOf_calls _ _ xs (bs cmdN) _ HR.out cmdN_plain HP.out).mono ?_; rw [HC.out]; rintro e w' ⟨rfl, hb⟩)
    go_ret
    exact ⟨ret_bool HE.out.symm, hb⟩
  obtain ⟨x, hx⟩ : ∃ x, xs[0]? = some x := ⟨_, List.getElem?_eq_getElem (by omega)⟩
  have HX := Lib.hid hx
  clear hx
  cases hcm : Lib.containsS cmdW (upS x)
  · have HC := Lib.hid (oneOf_W HX.out cmdN_words hcm)
    have HE := Lib.hid (arity_no HX.out hcm)
    clear hcm
    go_enter Tryd.func15, Tryd.ntmps15
    go_wp2_with (go_at_call 57; refine (impl_oneOf_calls _ _ xs (bs cmdN) _ HR.out cmdN_plain HP.out).mono ?_; rw [HC.out]; rintro e w' ⟨rfl, hb⟩)
    go_ret
    exact ⟨ret_bool HE.out.symm, hb⟩
  have HCM := Lib.hid hcm
  have HC := Lib.hid (oneOf_W HX.out cmdN_words hcm)
  clear hcm
  go_enter Tryd.func15, Tryd.ntmps15
  go_wp2_with fail
  go_at_call 57
  refine (impl_oneOf_calls _ _ xs (bs cmdN) _ HR.out cmdN_plain HP.out).mono ?_
  rw [HC.out]
  rintro e w0 ⟨rfl, hb⟩
  have HB := Lib.hid hb
  clear hb
  go_wp2_with fail
  go_at_call 57
  refine (impl_oneOf_calls _ _ xs (bs a0N) _ (HR.out.below HB.out) a0N_plain (HP.out.below HB.out HG.out)).mono ?_
  cases ea0 : Lib.containsS a0W (upS x)
  rotate_left
  · rw [oneOf_W HX.out a0N_words ea0]
    rintro e w1 ⟨rfl, hb⟩
    have HB2 := Lib.hid (HB.out.trans (hb.mono HB.out.size))
    have HE : Hid (arityB xs = arN 0 ((xs.length : Int) - 1)) := arity_some HX.out HCM.out (by simp [clsI, ea0])
    clear hb ea0
    go_wp2
    go_ret
    exact ⟨ret_bool (by rw [HE.out]; first | rfl | simp [arN]), HB2.out⟩
  rw [oneOf_W HX.out a0N_words ea0]
  rintro e w1 ⟨rfl, hb⟩
  have HB1 := Lib.hid (HB.out.trans (hb.mono HB.out.size))
  clear HB hb
  have HB := HB1
  clear HB1
  go_wp2_with fail
  go_at_call 57
  refine (impl_oneOf_calls _ _ xs (bs a1N) _ (HR.out.below HB.out) a1N_plain (HP.out.below HB.out HG.out)).mono ?_
  cases ea1 : Lib.containsS a1W (upS x)
  rotate_left
  · rw [oneOf_W HX.out a1N_words ea1]
    rintro e w2 ⟨rfl, hb⟩
    have HB2 := Lib.hid (HB.out.trans (hb.mono HB.out.size))
    have HE : Hid (arityB xs = arN 1 ((xs.length : Int) - 1)) := arity_some HX.out HCM.out (by simp [clsI, ea0, ea1])
    clear hb ea0 ea1
    go_wp2
    go_ret
    exact ⟨ret_bool (by rw [HE.out]; first | rfl | simp [arN]), HB2.out⟩
  rw [oneOf_W HX.out a1N_words ea1]
  rintro e w2 ⟨rfl, hb⟩
  have HB2 := Lib.hid (HB.out.trans (hb.mono HB.out.size))
  clear HB hb
  have HB := HB2
  clear HB2
  go_wp2_with fail
  go_at_call 57
  refine (impl_oneOf_calls _ _ xs (bs a2N) _ (HR.out.below HB.out) a2N_plain (HP.out.below HB.out HG.out)).mono ?_
  cases ea2 : Lib.containsS a2W (upS x)
  rotate_left
  · rw [oneOf_W HX.out a2N_words ea2]
    rintro e w3 ⟨rfl, hb⟩
    have HB2 := Lib.hid (HB.out.trans (hb.mono HB.out.size))
    have HE : Hid (arityB xs = arN 2 ((xs.length : Int) - 1)) := arity_some HX.out HCM.out (by simp [clsI, ea0, ea1, ea2])
    clear hb ea0 ea1 ea2
    go_wp2
    go_ret
    exact ⟨ret_bool (by rw [HE.out]; first | rfl | simp [arN]), HB2.out⟩
  rw [oneOf_W HX.out a2N_words ea2]
  rintro e w3 ⟨rfl, hb⟩
  have HB3 := Lib.hid (HB.out.trans (hb.mono HB.out.size))
  clear HB hb
  have HB := HB3
  clear HB3
  go_wp2_with fail
  go_at_call 57
  refine (impl_oneOf_calls _ _ xs (bs a3N) _ (HR.out.below HB.out) a3N_plain (HP.out.below HB.out HG.out)).mono ?_
  cases ea3 : Lib.containsS a3W (upS x)
  rotate_left
  · rw [oneOf_W HX.out a3N_words ea3]
    rintro e w4 ⟨rfl, hb⟩
    have HB2 := Lib.hid (HB.out.trans (hb.mono HB.out.size))
    have HE : Hid (arityB xs = arN 3 ((xs.length : Int) - 1)) := arity_some HX.out HCM.out (by simp [clsI, ea0, ea1, ea2, ea3])
    clear hb ea0 ea1 ea2 ea3
    go_wp2
    go_ret
    exact ⟨ret_bool (by rw [HE.out]; first | rfl | simp [arN]), HB2.out⟩
  rw [oneOf_W HX.out a3N_words ea3]
  rintro e w4 ⟨rfl, hb⟩
  have HB4 := Lib.hid (HB.out.trans (hb.mono HB.out.size))
  clear HB hb
  have HB := HB4
  clear HB4
  go_wp2_with fail
  go_at_call 57
  refine (impl_oneOf_calls _ _ xs (bs m1N) _ (HR.out.below HB.out) m1N_plain (HP.out.below HB.out HG.out)).mono ?_
  cases em1 : Lib.containsS m1W (upS x)
  rotate_left
  · rw [oneOf_W HX.out m1N_words em1]
    rintro e w5 ⟨rfl, hb⟩
    have HB2 := Lib.hid (HB.out.trans (hb.mono HB.out.size))
    have HE : Hid (arityB xs = arN 4 ((xs.length : Int) - 1)) := arity_some HX.out HCM.out (by simp [clsI, ea0, ea1, ea2, ea3, em1])
    clear hb ea0 ea1 ea2 ea3 em1
    go_wp2
    go_ret
    exact ⟨ret_bool (by rw [HE.out]; first | rfl | simp [arN]), HB2.out⟩
  rw [oneOf_W HX.out m1N_words em1]
  rintro e w5 ⟨rfl, hb⟩
  have HB5 := Lib.hid (HB.out.trans (hb.mono HB.out.size))
  clear HB hb
  have HB := HB5
  clear HB5
  go_wp2_with fail
  go_at_call 57
  refine (impl_oneOf_calls _ _ xs (bs m2N) _ (HR.out.below HB.out) m2N_plain (HP.out.below HB.out HG.out)).mono ?_
  cases em2 : Lib.containsS m2W (upS x)
  rotate_left
  · rw [oneOf_W HX.out m2N_words em2]
    rintro e w6 ⟨rfl, hb⟩
    have HB2 := Lib.hid (HB.out.trans (hb.mono HB.out.size))
    have HE : Hid (arityB xs = arN 5 ((xs.length : Int) - 1)) := arity_some HX.out HCM.out (by simp [clsI, ea0, ea1, ea2, ea3, em1, em2])
    clear hb ea0 ea1 ea2 ea3 em1 em2
    go_wp2
    go_ret
    exact ⟨ret_bool (by rw [HE.out]; first | rfl | simp [arN]), HB2.out⟩
  rw [oneOf_W HX.out m2N_words em2]
  rintro e w6 ⟨rfl, hb⟩
  have HB6 := Lib.hid (HB.out.trans (hb.mono HB.out.size))
  clear HB hb
  have HB := HB6
  clear HB6
  have hk : clsI (upS x) = 6 := by simp [clsI, ea0, ea1, ea2, ea3, em1, em2]
  have HL : Hid (∀ b : Bool, b = ((xs.length : Int) - 1 == 2 || (xs.length : Int) - 1 == 4 || (xs.length : Int) - 1 == 6) → b = arityB xs) := fun b hb => last_class HX.out HCM.out hk hb
  clear hk ea0 ea1 ea2 ea3 em1 em2
  by_cases q2 : (xs.length : Int) - 1 = 2
  · go_wp2
    go_ret
    refine ⟨ret_bool (HL.out _ ?_), HB.out⟩
    first | rfl | simp [q2]
  · by_cases q4 : (xs.length : Int) - 1 = 4
    · go_wp2
      go_ret
      refine ⟨ret_bool (HL.out _ ?_), HB.out⟩
      first | rfl | simp [q4]
    · go_wp2
      go_ret
      refine ⟨ret_bool (HL.out _ ?_), HB.out⟩
      first | rfl | simp [q2, q4]
set_option maxRecDepth 100000 in
theorem spec_ArityOk_calls (A : Option Addr) (c : Nat) (xs : List ByteArray) (w : World) (h : StrRow w A c xs) :
    Calls Tryd.prog 13 #[.slice A xs.length c] w fun e w' => e = .returned (.bool (arityB xs)) ∧ Below w.heap.size w w' := by
  have hl := h.len
  by_cases h0 : 0 < xs.length
  · obtain ⟨ad, x, rfl, hc0, hz, HX⟩ := h.at_ h0
    have hc : w.cell? ad = some (.string x) := hc0
    have HS0 : Hid (HeldS w ad x w.heap.size w) := ⟨h.block h0, hc, Nat.le_refl _, Below.refl _ _⟩
    have hne : ((xs.length : Int) == 0) = false := beq_eq_false_iff_ne.mpr (by omega)
    clear h hc0
    go_enter Tryd.func13, Tryd.ntmps13
    go_wp2
    go_region_held3 (fun w' => w'.cell? ad = some (.string x) ∧ HeldS w ad x w.heap.size w')
      (first | exact ⟨hc, heldS_drew HS0.out⟩ | assumption | (have hk' := heldS_keep (heldS_drew HS0.out) hb; exact ⟨hk'.2.1, hk'⟩) | (have hk' := heldS_keep (heldS_drew HS0.out) hbU; exact ⟨hk'.2.1, hk'⟩) | (have hk' := heldS_keep (heldS_keep (heldS_drew HS0.out) hb) hbU; exact ⟨hk'.2.1, hk'⟩) | (have hk' := heldS_keep (heldS_keep (heldS_drew HS0.out) hbU) hb; exact ⟨hk'.2.1, hk'⟩) | (have hk' := heldS_keep (heldS_keep (heldS_keep (heldS_drew HS0.out) hbU) hb) hbI; exact ⟨hk'.2.1, hk'⟩) | (have hk' := heldS_keep (heldS_keep (heldS_keep (heldS_drew HS0.out) hb) hbU) hbI; exact ⟨hk'.2.1, hk'⟩))
      (first
        | (go_at_call 56; refine (spec_Commands_calls _).mono ?_; rintro e w' ⟨b1, rfl, hlt1, hblk, hb⟩)
        | (go_at_call 36; refine (spec_Upper_calls x _ hz).mono ?_; rintro e w' ⟨rfl, hbU⟩)
        | (go_at_call 55; refine (spec_l13In_calls _ _ cmdW _ _ (by first | exact cmdW_row hblk | exact cmdW_row (hblk.below hbU))).mono ?_; rintro e w' ⟨rfl, hbI⟩))
    all_goals
      have HK := Lib.hid (And.right ‹_ ∧ HeldS _ _ _ _ _›)
      cases hcm : Lib.containsS cmdW (upS x)
      · have E := Lib.hid (arity_no HX.out hcm)
        go_wp2
        go_ret
        exact ⟨ret_bool E.out.symm, HK.out.2.2.2⟩
      · have HCM := Lib.hid hcm
        have hc2 := HK.out.2.1
        clear hbI hbU hb hblk
        go_wp2_with fail
        go_at_call 36
        refine (spec_Upper_calls x _ hz).mono ?_
        rintro e w2 ⟨rfl, hb2⟩
        have HB := Lib.hid (HK.out.2.2.2.trans (hb2.mono HK.out.2.2.2.size))
        clear hb2 hc2 hcm
        go_wp2_with fail
        go_at_call 55
        refine (spec_l13In_calls _ _ a0W _ _ (a0W_row ⟨[], by rw [blk_new]; rfl, rfl, by decide⟩)).mono ?_
        cases ea0 : Lib.containsS a0W (upS x)
        rotate_left
        · rintro e w3 ⟨rfl, hb⟩
          have HB2 := Lib.hid ((HB.out.alloc HB.out.size _).trans (hb.mono (HB.out.alloc HB.out.size _).size))
          have HE : Hid (arityB xs = arN 0 ((xs.length : Int) - 1)) := arity_some HX.out HCM.out (by rw [cls_same HCM.out]; simp [clsS, ea0])
          clear hb ea0
          go_wp2
          go_ret
          exact ⟨ret_bool (by rw [HE.out]; first | rfl | simp [arN]), HB2.out⟩
        rintro e w3 ⟨rfl, hb⟩
        have HB3 := Lib.hid ((HB.out.alloc HB.out.size _).trans (hb.mono (HB.out.alloc HB.out.size _).size))
        clear HB hb
        have HB := HB3
        clear HB3
        go_wp2_with fail
        go_at_call 55
        refine (spec_l13In_calls _ _ a2W _ _ (a2W_row ⟨[], by rw [blk_new]; rfl, rfl, by decide⟩)).mono ?_
        cases ea2 : Lib.containsS a2W (upS x)
        rotate_left
        · rintro e w4 ⟨rfl, hb⟩
          have HB2 := Lib.hid ((HB.out.alloc HB.out.size _).trans (hb.mono (HB.out.alloc HB.out.size _).size))
          have HE : Hid (arityB xs = arN 2 ((xs.length : Int) - 1)) := arity_some HX.out HCM.out (by rw [cls_same HCM.out]; simp [clsS, ea0, ea2])
          clear hb ea0 ea2
          go_wp2
          go_ret
          exact ⟨ret_bool (by rw [HE.out]; first | rfl | simp [arN]), HB2.out⟩
        rintro e w4 ⟨rfl, hb⟩
        have HB4 := Lib.hid ((HB.out.alloc HB.out.size _).trans (hb.mono (HB.out.alloc HB.out.size _).size))
        clear HB hb
        have HB := HB4
        clear HB4
        go_wp2_with fail
        go_at_call 55
        refine (spec_l13In_calls _ _ a3W _ _ (a3W_row ⟨[], by rw [blk_new]; rfl, rfl, by decide⟩)).mono ?_
        cases ea3 : Lib.containsS a3W (upS x)
        rotate_left
        · rintro e w5 ⟨rfl, hb⟩
          have HB2 := Lib.hid ((HB.out.alloc HB.out.size _).trans (hb.mono (HB.out.alloc HB.out.size _).size))
          have HE : Hid (arityB xs = arN 3 ((xs.length : Int) - 1)) := arity_some HX.out HCM.out (by rw [cls_same HCM.out]; simp [clsS, ea0, ea2, ea3])
          clear hb ea0 ea2 ea3
          go_wp2
          go_ret
          exact ⟨ret_bool (by rw [HE.out]; first | rfl | simp [arN]), HB2.out⟩
        rintro e w5 ⟨rfl, hb⟩
        have HB5 := Lib.hid ((HB.out.alloc HB.out.size _).trans (hb.mono (HB.out.alloc HB.out.size _).size))
        clear HB hb
        have HB := HB5
        clear HB5
        go_wp2_with fail
        go_at_call 55
        refine (spec_l13In_calls _ _ m1W _ _ (m1W_row ⟨[], by rw [blk_new]; rfl, rfl, by decide⟩)).mono ?_
        cases em1 : Lib.containsS m1W (upS x)
        rotate_left
        · rintro e w6 ⟨rfl, hb⟩
          have HB2 := Lib.hid ((HB.out.alloc HB.out.size _).trans (hb.mono (HB.out.alloc HB.out.size _).size))
          have HE : Hid (arityB xs = arN 4 ((xs.length : Int) - 1)) := arity_some HX.out HCM.out (by rw [cls_same HCM.out]; simp [clsS, ea0, ea2, ea3, em1])
          clear hb ea0 ea2 ea3 em1
          go_wp2
          go_ret
          exact ⟨ret_bool (by rw [HE.out]; first | rfl | simp [arN]), HB2.out⟩
        rintro e w6 ⟨rfl, hb⟩
        have HB6 := Lib.hid ((HB.out.alloc HB.out.size _).trans (hb.mono (HB.out.alloc HB.out.size _).size))
        clear HB hb
        have HB := HB6
        clear HB6
        go_wp2_with fail
        go_at_call 55
        refine (spec_l13In_calls _ _ m2W _ _ (m2W_row ⟨[], by rw [blk_new]; rfl, rfl, by decide⟩)).mono ?_
        cases em2 : Lib.containsS m2W (upS x)
        rotate_left
        · rintro e w7 ⟨rfl, hb⟩
          have HB2 := Lib.hid ((HB.out.alloc HB.out.size _).trans (hb.mono (HB.out.alloc HB.out.size _).size))
          have HE : Hid (arityB xs = arN 5 ((xs.length : Int) - 1)) := arity_some HX.out HCM.out (by rw [cls_same HCM.out]; simp [clsS, ea0, ea2, ea3, em1, em2])
          clear hb ea0 ea2 ea3 em1 em2
          go_wp2
          go_ret
          exact ⟨ret_bool (by rw [HE.out]; first | rfl | simp [arN]), HB2.out⟩
        rintro e w7 ⟨rfl, hb⟩
        have HB7 := Lib.hid ((HB.out.alloc HB.out.size _).trans (hb.mono (HB.out.alloc HB.out.size _).size))
        clear HB hb
        have HB := HB7
        clear HB7
        by_cases hm : upS x = mset
        · have hk : clsI (upS x) = 6 := by rw [cls_same HCM.out, hm]; kernel_rfl
          have HL : Hid (∀ b : Bool, b = ((xs.length : Int) - 1 == 2 || (xs.length : Int) - 1 == 4 || (xs.length : Int) - 1 == 6) → b = arityB xs) := fun b hb => last_class HX.out HCM.out hk hb
          have hq : ((upS x).toList == [77, 83, 69, 84]) = true := by rw [hm, mset_list]; rfl
          clear hk hm ea0 ea2 ea3 em1 em2
          by_cases q2 : (xs.length : Int) - 1 = 2
          · go_wp2
            go_ret
            refine ⟨ret_bool (HL.out _ ?_), HB.out⟩
            first | rfl | simp [q2]
          · by_cases q4 : (xs.length : Int) - 1 = 4
            · go_wp2
              go_ret
              refine ⟨ret_bool (HL.out _ ?_), HB.out⟩
              first | rfl | simp [q4]
            · go_wp2
              go_ret
              refine ⟨ret_bool (HL.out _ ?_), HB.out⟩
              first | rfl | simp [q2, q4]
        · have HE : Hid (arityB xs = arN 1 ((xs.length : Int) - 1)) := arity_some HX.out HCM.out (by rw [cls_same HCM.out]; simp [clsS, ea0, ea2, ea3, em1, em2, hm])
          have hq : ((upS x).toList == [77, 83, 69, 84]) = false := beq_eq_false_iff_ne.mpr fun z => hm (toList_inj.mp (z.trans mset_list.symm))
          clear hm ea0 ea2 ea3 em1 em2
          go_wp2
          go_ret
          exact ⟨ret_bool (by rw [HE.out]; first | rfl | simp [arN]), HB.out⟩
  · have h1 : xs.length = 0 := by omega
    have hne : ((xs.length : Int) == 0) = true := beq_iff_eq.mpr (by omega)
    have E := Lib.hid (arity_none h1)
    clear h h0 h1
    go_enter Tryd.func13, Tryd.ntmps13
    go_wp2
    go_quiet (fail)
    go_wp2
    go_ret
    exact ⟨ret_bool E.out.symm, blwN (Below.refl _ _) _⟩
end Go.Proofs.YtanpkomifhbhnaaDoor
