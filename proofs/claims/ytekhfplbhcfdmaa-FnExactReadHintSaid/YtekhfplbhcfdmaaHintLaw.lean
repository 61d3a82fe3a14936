/- The walk of the law FnExactReadHint. -/
import Derived.Test.YtekhfplbhcfdmaaHReadS
import Derived.Test.YtekhfplbhcfdmaaMarkH
namespace Go.Proofs.Ytekhfplbhcfdmaa
set_option linter.unusedVariables false
set_option linter.unusedSimpArgs false
open Go.RowKit
attribute [local go_sem] bs_size List.length_cons List.length_nil List.length_append

theorem SpRow.other {w w' : World} {c' : Nat} {A : Option Addr} {v : Value} {xs : List SpotD} (h : SpRow w A c' xs) (hg : w.grownBy w' v.ownBlock) (hne : ∀ ad, A = some ad → v.ownBlock ≠ some ad.block) : SpRow w' A c' xs :=
  ⟨h.1, h.2.1, h.2.2.1, fun hp => by
    obtain ⟨ad, e, hl, hc⟩ := h.2.2.2 hp
    refine ⟨ad, e, Nat.lt_of_lt_of_le hl hg.size, fun j x hx => ?_⟩
    have := hg.block (ad.add (j * 4)).block (by rw [add_block]; exact hl) (by rw [add_block]; exact fun e2 => hne ad e e2.symm)
    obtain ⟨h0, h1, h2, h3⟩ := hc j x hx
    exact ⟨(World.cell?_of_block this).trans h0, (World.cell?_of_block (a := ⟨(ad.add (j * 4)).block, (ad.add (j * 4)).off + 1, none⟩) this).trans h1, (World.cell?_of_block (a := ⟨(ad.add (j * 4)).block, (ad.add (j * 4)).off + 2, none⟩) this).trans h2, (World.cell?_of_block (a := ⟨(ad.add (j * 4)).block, (ad.add (j * 4)).off + 3, none⟩) this).trans h3⟩⟩
theorem spMarks_row {w : World} {B n c k : Nat} {A : Option Addr} (h : SpOwn w B (.slice A n c) (marksSp k n)) (hk : k + n * 4 ≤ 1000000000000) : SpRow w A c (marksSp k n) := by
  obtain ⟨A', c', e, hr⟩ := h.row (marksSp_small hk)
  injection e with e1 e2 e3
  subst e1 e3
  exact hr
theorem sp_apart {w1 w2 : World} {B B2 n1 n2 c1 c2 : Nat} {A1 A2 : Option Addr} {xs ys : List SpotD} (h1 : SpOwn w1 B (.slice A1 n1 c1) xs) (h2 : SpOwn w2 B2 (.slice A2 n2 c2) ys) (hB : w1.heap.size ≤ B2) : ∀ ad, A1 = some ad → (Value.slice A2 n2 c2).ownBlock ≠ some ad.block := by
  intro ad e h
  have h3 := (World.ownsRow.lt h2 _ h).1
  subst e
  have h4 := (World.ownsRow.lt h1 ad.block rfl).2
  omega
/-- Both readings in one form. -/
theorem hintPost_uni (s : ByteArray) : ∃ (xs : List SpotD) (b : Bool), (∀ x ∈ xs, x.1.size ≤ 9223372036854775807) ∧ xs.length ≤ 1000000 ∧
    ∀ (w : World) (e : Ending) (w' : World), HintPost w (readHintS s) e w' → Below w.heap.size w w' ∧ ∃ v, e = .returned (.tuple #[v, .bool b]) ∧ SpOwn w' w.heap.size v xs := by
  cases h : readHintS s with
  | none => exact ⟨[], false, by simp, by simp, fun w e w' hp => ⟨hp.1, hp.2⟩⟩
  | some ds =>
    obtain ⟨h4, h5⟩ := dirOk_parts (isHint_parts (readHintS_is h)).1
    exact ⟨ds, true, fun x hx => by have := (spOk_parts (h5 x hx)).1; omega, Nat.le_trans h4 (by omega), fun w e w' hp => ⟨hp.1, hp.2⟩⟩
set_option maxRecDepth 100000 in
theorem walk_FnExactReadHint (s : ByteArray) (w : World) (hz : s.size ≤ 140737488351232) :
    Calls Try.prog 3 #[.string s] w fun e w' => e = .returned (.bool true) ∧ Below w.heap.size w w' := by
  by_cases hs : s.size ≤ 1048576
  · obtain ⟨xs, b, hx, hn, hpost⟩ := hintPost_uni s
    have HX := Lib.hid hx
    have HP := Lib.hid hpost
    have hbb : (b != b) = false := by simp
    clear hx hpost
    go_enter Try.func3, Try.ntmps3
    go_wp2_with fail
    go_at_call 9
    refine (spec_ReadHint_calls s _ (by omega)).mono ?_
    intro e w1 hp
    obtain ⟨hb1, v1, rfl, ho1⟩ := HP.out _ _ _ hp
    obtain ⟨A1, c1, rfl, hr1⟩ := ho1.row HX.out
    have HB1 := Lib.hid hb1
    have HO1 := Lib.hid ho1
    have HR1 := Lib.hid hr1
    clear hp hb1 ho1 hr1
    go_wp2_with fail
    go_at_call 10
    refine (impl_ReadHint_calls s _ (by omega)).mono ?_
    rw [readHint_same]
    intro e w2 hp
    obtain ⟨hb2, v2, rfl, ho2⟩ := HP.out _ _ _ hp
    obtain ⟨A2, c2, rfl, hr2⟩ := ho2.row HX.out
    have HR12 := Lib.hid (HR1.out.below hb2)
    have HR2 := Lib.hid hr2
    have HO2 := Lib.hid ho2
    have HB2 := Lib.hid (HB1.out.trans (hb2.mono HB1.out.size))
    -- where the blocks lie
    have HN1 : Hid (∀ ad, A1 = some ad → (Value.slice A2 xs.length c2).ownBlock ≠ some ad.block) := sp_apart HO1.out ho2 (Nat.le_refl _)
    have HN4 : Hid (∀ k, (Value.slice A2 xs.length c2).ownBlock = some k → w.heap.size ≤ k) := fun k e => by have := (World.ownsRow.lt ho2 k e).1; have := HB1.out.size; omega
    clear hp hb2 hr2 ho2
    go_wp2_with fail
    go_at_call 11
    refine (laws_eqSpotS_calls A2 c2 A1 c1 xs _ HR2.out HR12.out).mono ?_
    rintro e w3 ⟨rfl, hb3⟩
    have HR13 := Lib.hid (HR12.out.below hb3)
    have HO23 := Lib.hid (HO2.out.below hb3)
    have HB3 := Lib.hid (HB2.out.trans (hb3.mono HB2.out.size))
    clear hb3
    go_wp2_with fail
    go_at_call 12
    refine (laws_markSpotS_calls _ _ xs 1 _ HO23.out (by omega) (by omega)).mono ?_
    rintro e w4 ⟨rfl, ho4, hg4⟩
    have HR14 := Lib.hid (HR13.out.other hg4 HN1.out)
    have HR24 := Lib.hid (spMarks_row ho4 (by omega))
    have HB4 := Lib.hid (HB3.out.grown hg4 HB3.out.size HN4.out)
    clear ho4 hg4
    go_wp2_with fail
    go_at_call 13
    refine (laws_heldSpotS_calls A2 c2 xs.length 1 _ HR24.out (by omega) (by omega)).mono ?_
    rintro e w5 ⟨rfl, hb5⟩
    have HR15 := Lib.hid (HR14.out.below hb5)
    have HR25 := Lib.hid (HR24.out.below hb5)
    have HB5 := Lib.hid (HB4.out.trans (hb5.mono HB4.out.size))
    clear hb5
    have hneg : ¬ ((1 + xs.length * 4 : Nat) : Int) < 0 := by omega
    go_wp2_with fail
    go_at_call 10
    refine (impl_ReadHint_calls s _ (by omega)).mono ?_
    rw [readHint_same]
    intro e w6 hp
    obtain ⟨hb6, v6, rfl, ho6⟩ := HP.out _ _ _ hp
    obtain ⟨A6, c6, rfl, hr6⟩ := ho6.row HX.out
    have HR16 := Lib.hid (HR15.out.below hb6)
    have HR26 := Lib.hid (HR25.out.below hb6)
    have HR6 := Lib.hid hr6
    have HB6 := Lib.hid (HB5.out.trans (hb6.mono HB5.out.size))
    clear hp hb6 hr6 ho6
    go_wp2_with fail
    go_at_call 11
    refine (laws_eqSpotS_calls A6 c6 A1 c1 xs _ HR6.out HR16.out).mono ?_
    rintro e w7 ⟨rfl, hb7⟩
    have HR27 := Lib.hid (HR26.out.below hb7)
    have HB7 := Lib.hid (HB6.out.trans (hb7.mono HB6.out.size))
    clear hb7
    go_wp2_with fail
    go_at_call 13
    refine (laws_heldSpotS_calls A2 c2 xs.length 1 _ HR27.out (by omega) (by omega)).mono ?_
    rintro e w8 ⟨rfl, hb8⟩
    have HB8 := Lib.hid (HB7.out.trans (hb8.mono HB7.out.size))
    clear hb8
    go_wp2
    go_ret
    exact ⟨rfl, HB8.out⟩
  · go_enter Try.func3, Try.ntmps3
    go_wp2
    go_ret
    exact ⟨rfl, Below.refl _ _⟩
end Go.Proofs.Ytekhfplbhcfdmaa
