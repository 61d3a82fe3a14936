/- Commands and the tests on a command's name: oneOf (the program), l13In (the reference). -/
import Derived.Test.YtanpkomifhbhnaaDoorUpper
import Derived.Test.YtanpkomifhbhnaaDoorStrs
import Derived.Test.YtanpkomifhbhnaaDoorShelf
import Derived.Test.YtanpkomifhbhnaaDoorNames
import Derived.Lib.SlicesS
import Derived.Deep.RegionHeld3
namespace Go.Proofs.YtanpkomifhbhnaaDoor
set_option linter.unusedVariables false
set_option linter.unusedSimpArgs false
open Go.RowKit

/-- The table of blanks reads as Go's library lays it. -/
structure Sp (w : World) : Prop where
  tab : Lib.TabIs Tryd.prog w "strings.asciiSpace" .u8 Lib.asciiSpaceTab
  big : 0 < w.heap.size
theorem gSp : Tryd.prog.globalNamed "strings.asciiSpace" = some 0 := by kernel_rfl
theorem Sp.below {w w' : World} {B : Nat} (h : Sp w) (hb : Below B w w') (hB : 0 < B) : Sp w' :=
  ⟨var?_below hb gSp hB h.tab, Nat.lt_of_lt_of_le h.big hb.size⟩

/-- A new slice of these texts. -/
def NewWords (w : World) (xs : List ByteArray) (e : Ending) (w' : World) : Prop := ∃ b, e = .returned (.slice (some ⟨b, 0, none⟩) xs.length xs.length) ∧ w.heap.size ≤ b ∧ StrBlk w' b xs.length xs ∧ Below w.heap.size w w'
theorem fields_calls (names : ByteArray) (hn : Plain names) (w : World) (h : Sp w) : Calls Tryd.prog 74 #[.string names] w (NewWords w (fwords names)) := by
  refine (Tryd.strings_Fields names w hn.short hn.ascii h.tab).mono ?_
  rintro e w' ⟨rfl, rfl⟩
  have hl : (fwords names).length = (Lib.fields names.data.toList).length := by unfold fwords ub; rw [List.length_map]
  refine ⟨w.heap.size, by rw [hl], Nat.le_refl _, ⟨[], ?_, by simp, hn.few⟩, (Below.refl _ _).alloc (Nat.le_refl _) _⟩
  rw [blk_new, List.append_nil]
  unfold fwords ub bs
  rw [List.map_map]
  rfl
theorem contains_calls (b n c : Nat) (zs : List ByteArray) (x : ByteArray) (w : World) (hn : n = zs.length) (h : StrBlk w b c zs) :
    Calls Tryd.prog 86 #[.slice (some ⟨b, 0, none⟩) n c, .string x] w fun e w' => e = .returned (.bool (Lib.containsS zs x)) ∧ w = w' := by
  subst hn
  obtain ⟨more, hb, hc, hm⟩ := h
  refine (Tryd.slices_Contains_string b 0 zs.length c zs x w (Nat.le_refl _) (by omega) (fun j hj => ?_)).mono ?_
  · rw [Nat.zero_add, blk_cell hb]
    simp [List.getD_eq_getElem?_getD, List.getElem?_append_left, hj]
  · rintro e w' ⟨rfl, rfl⟩
    rw [List.take_length]
    exact ⟨rfl, rfl⟩
def oneOfB (xs : List ByteArray) (names : ByteArray) : Bool := match xs[0]? with
  | some x => Lib.containsS (fwords names) (upS x)
  | none => false
theorem oneOf_some {xs : List ByteArray} {names x : ByteArray} (h : xs[0]? = some x) : oneOfB xs names = Lib.containsS (fwords names) (upS x) := by unfold oneOfB; rw [h]
theorem oneOf_none {xs : List ByteArray} {names : ByteArray} (h : xs.length = 0) : oneOfB xs names = false := by
  unfold oneOfB
  rw [List.getElem?_eq_none (by omega)]
set_option maxRecDepth 100000 in
theorem impl_oneOf_calls (A : Option Addr) (c : Nat) (xs : List ByteArray) (names : ByteArray) (w : World) (h : StrRow w A c xs) (hn : Plain names) (hS : Sp w) :
    Calls Tryd.prog 57 #[.slice A xs.length c, .string names] w fun e w' => e = .returned (.bool (oneOfB xs names)) ∧ Below w.heap.size w w' := by
  have hl := h.len
  have HN := Lib.hid hn
  have HP := Lib.hid hS
  have HB := hS.big
  clear hn hS
  by_cases h0 : 0 < xs.length
  · obtain ⟨ad, x, rfl, hc0, hz, HX⟩ := h.at_ h0
    have hc : w.cell? ad = some (.string x) := hc0
    have HS0 : Hid (HeldS w ad x w.heap.size w) := ⟨h.block h0, hc, Nat.le_refl _, Below.refl _ _⟩
    clear h hc0
    go_enter Tryd.func57, Tryd.ntmps57
    go_wp2
    go_region_held3 (fun w' => w'.cell? ad = some (.string x) ∧ HeldS w ad x w.heap.size w')
      (first | exact ⟨hc, heldS_drew HS0.out⟩ | assumption | (have hk' := heldS_keep (heldS_drew HS0.out) hb; exact ⟨hk'.2.1, hk'⟩) | (have hk' := heldS_keep (heldS_drew HS0.out) hbU; exact ⟨hk'.2.1, hk'⟩) | (have hk' := heldS_keep (heldS_keep (heldS_drew HS0.out) hb) hbU; exact ⟨hk'.2.1, hk'⟩) | (have hk' := heldS_keep (heldS_keep (heldS_drew HS0.out) hbU) hb; exact ⟨hk'.2.1, hk'⟩))
      (first
        | (go_at_call 74; refine (fields_calls names HN.out _ (HP.out.below (by first | exact (heldS_drew HS0.out).2.2.2 | exact (heldS_keep (heldS_drew HS0.out) hbU).2.2.2) HB)).mono ?_; rintro e w' ⟨b1, rfl, hlt1, hblk, hb⟩)
        | (go_at_call 81; refine (impl_Upper_calls x _ hz).mono ?_; rintro e w' ⟨rfl, hbU⟩)
        | (go_at_call 86; refine (contains_calls _ _ _ (fwords names) _ _ rfl (by first | exact hblk | exact hblk.below hbU)).mono ?_; rintro e w' ⟨rfl, rfl⟩))
    all_goals
      go_wp2
      go_ret
      exact ⟨ret_bool (oneOf_some HX.out).symm, (And.right ‹_ ∧ HeldS _ _ _ _ _›).2.2.2⟩
  · have hz : xs.length = 0 := by omega
    have hd : decide (0 < xs.length) = false := by simpa using h0
    clear h h0
    go_enter Tryd.func57, Tryd.ntmps57
    go_wp2
    go_quiet (fail)
    go_wp2
    go_ret
    exact ⟨ret_bool (oneOf_none hz).symm, blwN (Below.refl _ _) _⟩

/-! ### The reference's search -/
theorem take_all {xs : List ByteArray} {P : ByteArray → Prop} {k : Nat} {x : ByteArray} (h : ∀ y ∈ xs.take k, P y) (hx : xs[k]? = some x) (hp : P x) : ∀ y ∈ xs.take (k + 1), P y := by
  intro y hy
  rw [take_snoc hx] at hy
  rcases List.mem_append.1 hy with h1 | h1
  · exact h y h1
  · obtain rfl := List.mem_singleton.1 h1
    exact hp
theorem contains_yes {zs : List ByteArray} {k : Nat} {x : ByteArray} (h : zs[k]? = some x) : Lib.containsS zs x = true := (Lib.containsS_iff zs x).2 (List.mem_of_getElem? h)
theorem contains_no {zs : List ByteArray} {x : ByteArray} (h : ∀ y ∈ zs.take zs.length, y ≠ x) : Lib.containsS zs x = false := by
  rw [List.take_length] at h
  rw [Bool.eq_false_iff]
  intro e
  exact h x ((Lib.containsS_iff zs x).1 e) rfl
set_option maxRecDepth 100000 in
theorem spec_l13In_calls (A : Option Addr) (c : Nat) (zs : List ByteArray) (x : ByteArray) (w : World) (h : StrRow w A c zs) :
    Calls Tryd.prog 55 #[.slice A zs.length c, .string x] w fun e w' => e = .returned (.bool (Lib.containsS zs x)) ∧ Below w.heap.size w w' := by
  have hl := h.len
  have HR := Lib.hid h
  clear h
  go_enter Tryd.func55, Tryd.ntmps55
  go_wp2
  go_loopw [5] (fun i wr => ∃ k : Nat, k ≤ zs.length ∧ i = .int .i64 k ∧ Hid (∀ y ∈ zs.take k, y ≠ x) ∧ Below w.heap.size w wr) (fun i _ => zs.length - (intOf i).toNat)
  case atStart => exact ⟨0, Nat.zero_le _, rfl, (fun y hy => by simp at hy), Below.refl _ _⟩
  case round =>
    obtain ⟨k, hk, rfl, HT, hbel⟩ := hrel
    have HB := Lib.hid hbel
    by_cases hlt : k < zs.length
    · obtain ⟨ad, y, hA, hc, hz, HX⟩ := (HR.out.below hbel).at_ hlt
      clear hbel
      cases hA
      by_cases he : y = x
      · subst he
        have HX' := Lib.hid (contains_yes HX.out)
        go_wp2
        go_ret
        exact ⟨ret_bool HX'.out.symm, HB.out⟩
      · have hq : (y.toList == x.toList) = false := beq_eq_false_iff_ne.mpr fun z => he (toList_inj.mp z)
        have HE := Lib.hid he
        clear he
        go_wp2
        go_roundw
        case rel => exact ⟨k + 1, by omega, by go_num, take_all HT.out HX.out HE.out, HB.out⟩
        case measure => simp [intOf]; omega
    · obtain rfl : k = zs.length := by omega
      have HX' := Lib.hid (contains_no HT.out)
      clear hbel
      go_wp2
      go_ret
      exact ⟨ret_bool HX'.out.symm, HB.out⟩
/-! ### Commands -/
set_option maxRecDepth 100000 in
theorem impl_Commands_calls (w : World) (hS : Sp w) : Calls Tryd.prog 37 #[] w (NewWords w cmdW) := by
  have HP := Lib.hid hS
  clear hS
  go_enter Tryd.func37, Tryd.ntmps37
  go_wp2_with (go_at_call 74; refine (fields_calls (bs cmdN) cmdN_plain _ HP.out).mono ?_; rintro e w' ⟨b, rfl, hlt, hblk, hb⟩)
  go_ret
  rw [cmdN_words] at hblk ⊢
  exact ⟨b, rfl, hlt, hblk, hb⟩
set_option maxRecDepth 100000 in
theorem spec_Commands_calls (w : World) : Calls Tryd.prog 56 #[] w (NewWords w cmdW) := by
  go_enter Tryd.func56, Tryd.ntmps56
  go_wp2
  go_ret
  exact ⟨_, rfl, Nat.le_refl _, ⟨[], by rw [blk_new]; kernel_rfl, rfl, by decide⟩, (Below.refl _ _).alloc (Nat.le_refl _) _⟩
end Go.Proofs.YtanpkomifhbhnaaDoor
