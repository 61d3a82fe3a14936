/- The walk of the law FnExactReadBatch. -/
import Derived.Test.YtekhfplbhcfdmaaBReadS
import Derived.Test.YtekhfplbhcfdmaaMarkB
namespace Go.Proofs.Ytekhfplbhcfdmaa
set_option linter.unusedVariables false
set_option linter.unusedSimpArgs false
open Go.RowKit
attribute [local go_sem] bs_size List.length_cons List.length_nil List.length_append

theorem ChRow.other {w w' : World} {c' : Nat} {A : Option Addr} {v : Value} {xs : List ChD} (h : ChRow w A c' xs) (hg : w.grownBy w' v.ownBlock) (hne : ∀ ad, A = some ad → v.ownBlock ≠ some ad.block) : ChRow w' A c' xs :=
  ⟨h.1, h.2.1, h.2.2.1, fun hp => by
    obtain ⟨ad, e, hl, hc⟩ := h.2.2.2 hp
    refine ⟨ad, e, Nat.lt_of_lt_of_le hl hg.size, fun j x hx => ?_⟩
    have := hg.block (ad.add (j * 3)).block (by rw [add_block]; exact hl) (by rw [add_block]; exact fun e2 => hne ad e e2.symm)
    obtain ⟨h0, h1, h2⟩ := hc j x hx
    exact ⟨(World.cell?_of_block this).trans h0, (World.cell?_of_block (a := ⟨(ad.add (j * 3)).block, (ad.add (j * 3)).off + 1, none⟩) this).trans h1, (World.cell?_of_block (a := ⟨(ad.add (j * 3)).block, (ad.add (j * 3)).off + 2, none⟩) this).trans h2⟩⟩
/-- A batch in a variable's block. -/
def BatAt (w : World) (g : Nat) (q : Int) (v : Value) : Prop := w.heap[g]? = some (.cells #[.int .i64 q, v] 30 (0, 0))
theorem batAt_new (w : World) (q : Int) (v : Value) : BatAt (w.alloc (.cells #[.int .i64 q, v] 30)) w.heap.size q v := blk_new w _
theorem BatAt.below {w w' : World} {g : Nat} {q : Int} {v : Value} (h : BatAt w g q v) (hb : Below w.heap.size w w') : BatAt w' g q v := (hb.block g (blk_lt h)).trans h
theorem BatAt.c0 {w : World} {g : Nat} {q : Int} {v : Value} (h : BatAt w g q v) : w.cell? ⟨g, 0, none⟩ = some (.int .i64 q) := by rw [blk_cell h]; rfl
theorem BatAt.c1 {w : World} {g : Nat} {q : Int} {v : Value} (h : BatAt w g q v) : w.cell? ⟨g, 1, none⟩ = some v := by rw [blk_cell h]; rfl
theorem BatAt.other {w w' : World} {g : Nat} {q : Int} {v x : Value} (h : BatAt w g q v) (hg : w.grownBy w' x.ownBlock) (hne : x.ownBlock ≠ some g) : BatAt w' g q v := (hg.block g (blk_lt h) (fun e => hne e.symm)).trans h
theorem own_apart3 {w1 w2 : World} {B n1 n2 c1 c2 : Nat} {o : Obj} {A1 A2 : Option Addr} {xs ys : List ChD} (h1 : ChOwn w1 B (.slice A1 n1 c1) xs) (h2 : ChOwn w2 (w1.alloc o).heap.size (.slice A2 n2 c2) ys) : ∀ ad, A1 = some ad → (Value.slice A2 n2 c2).ownBlock ≠ some ad.block := by
  intro ad e h
  have h3 := (World.ownsRow.lt h2 _ h).1
  subst e
  have h4 := (World.ownsRow.lt h1 ad.block rfl).2
  simp at h3
  omega
theorem chMarks_row {w : World} {B n c k : Nat} {A : Option Addr} (h : ChOwn w B (.slice A n c) (marksCh k n)) (hk : k + n * 3 ≤ 1000000000000) : ChRow w A c (marksCh k n) := by
  obtain ⟨A', c', e, hr⟩ := h.row (marksCh_small hk)
  injection e with e1 e2 e3
  subst e1 e3
  exact hr
/-- Both readings in one form. -/
theorem batPost_uni (s : ByteArray) : ∃ (q : Int) (xs : List ChD) (b : Bool), (∀ x ∈ xs, x.1.size ≤ 9223372036854775807 ∧ x.2.1.size ≤ 9223372036854775807) ∧ xs.length ≤ 1000000 ∧
    ∀ (w : World) (e : Ending) (w' : World), BatPost w (readBatS s) e w' → Below w.heap.size w w' ∧ ∃ v, e = .returned (.tuple #[.agg #[.int .i64 q, v], .bool b]) ∧ ChOwn w' w.heap.size v xs := by
  cases h : readBatS s with
  | none => exact ⟨0, [], false, by simp, by simp, fun w e w' hp => ⟨hp.1, _, hp.2, World.ownsRow_nil _ _ _ _⟩⟩
  | some d =>
    obtain ⟨q, xs⟩ := d
    obtain ⟨_, h4, h5⟩ := batOk_parts (isBat_parts (readBatS_is h)).1
    exact ⟨q, xs, true, fun x hx => by have := h5 x hx; omega, Nat.le_trans h4 (by omega), fun w e w' hp => ⟨hp.1, hp.2⟩⟩
set_option maxRecDepth 100000 in
theorem walk_FnExactReadBatch (s : ByteArray) (w : World) (hz : s.size ≤ 140737488351232) :
    Calls Try.prog 4 #[.string s] w fun e w' => e = .returned (.bool true) ∧ Below w.heap.size w w' := by
  by_cases hs : s.size ≤ 1048576
  · obtain ⟨q, xs, b, hx, hn, hpost⟩ := batPost_uni s
    have HX := Lib.hid hx
    have HP := Lib.hid hpost
    have hbb : (b != b) = false := by simp
    clear hx hpost
    go_enter Try.func4, Try.ntmps4
    go_wp2_with fail
    go_at_call 14
    refine (spec_ReadBatch_calls s _ (by omega)).mono ?_
    intro e w1 hp
    obtain ⟨hb1, v1, rfl, ho1⟩ := HP.out _ _ _ hp
    obtain ⟨A1, c1, rfl, hr1⟩ := ho1.row HX.out
    have HB1 := Lib.hid hb1
    have HO1 := Lib.hid ho1
    have HR1 := Lib.hid hr1
    clear hp hb1 ho1 hr1
    have HV1 := Lib.hid (batAt_new w1 q (.slice A1 xs.length c1))
    have hba : Below w1.heap.size w1 (w1.alloc (.cells #[.int .i64 q, .slice A1 xs.length c1] 30)) := (Below.refl _ _).alloc (Nat.le_refl _) _
    have HR1a := Lib.hid (HR1.out.below hba)
    have HO1a := Lib.hid (HO1.out.below hba)
    have HB1a := Lib.hid (HB1.out.trans (hba.mono HB1.out.size))
    clear hba
    go_wp2_with fail
    go_at_call 15
    refine (impl_ReadBatch_calls s _ (by omega)).mono ?_
    rw [readBat_same]
    intro e w2 hp
    obtain ⟨hb2, v2, rfl, ho2⟩ := HP.out _ _ _ hp
    obtain ⟨A2, c2, rfl, hr2⟩ := ho2.row HX.out
    have hba : Below w2.heap.size w2 (w2.alloc (.cells #[.int .i64 q, .slice A2 xs.length c2] 30)) := (Below.refl _ _).alloc (Nat.le_refl _) _
    have HV2 := Lib.hid (batAt_new w2 q (.slice A2 xs.length c2))
    have HV12 := Lib.hid ((HV1.out.below hb2).below hba)
    have HR12 := Lib.hid ((HR1a.out.below hb2).below hba)
    have HR2 := Lib.hid (hr2.below hba)
    have HO2 := Lib.hid (ho2.below hba)
    have HB2 := Lib.hid ((HB1a.out.trans (hb2.mono HB1a.out.size)).trans (hba.mono (Nat.le_trans HB1a.out.size hb2.size)))
    -- where the blocks lie
    have HN1 : Hid (∀ ad, A1 = some ad → (Value.slice A2 xs.length c2).ownBlock ≠ some ad.block) := own_apart3 HO1.out ho2
    have HN2 : Hid ((Value.slice A2 xs.length c2).ownBlock ≠ some w1.heap.size) := fun e => by have := (World.ownsRow.lt ho2 _ e).1; simp at this; omega
    have HN3 : Hid ((Value.slice A2 xs.length c2).ownBlock ≠ some w2.heap.size) := fun e => by have := (World.ownsRow.lt ho2 _ e).2; omega
    have HN4 : Hid (∀ k, (Value.slice A2 xs.length c2).ownBlock = some k → w.heap.size ≤ k) := fun k e => by have := (World.ownsRow.lt ho2 k e).1; have := HB1a.out.size; omega
    clear hp hb2 hr2 ho2 hba
    have p0 := HV2.out.c0
    have p1 := HV2.out.c1
    have q0 := HV12.out.c0
    have q1 := HV12.out.c1
    go_wp2_with fail
    go_at_call 16
    refine (laws_eqBatch_calls q A2 c2 A1 c1 xs _ HR2.out HR12.out).mono ?_
    rintro e w3 ⟨rfl, hb3⟩
    have HV13 := Lib.hid (HV12.out.below hb3)
    have HV23 := Lib.hid (HV2.out.below hb3)
    have HR13 := Lib.hid (HR12.out.below hb3)
    have HO23 := Lib.hid (HO2.out.below hb3)
    have HB3 := Lib.hid (HB2.out.trans (hb3.mono HB2.out.size))
    clear hb3 p0 p1 q0 q1
    have p0 := HV23.out.c0
    have p1 := HV23.out.c1
    go_wp2_with fail
    go_at_call 17
    refine (laws_markBatch_calls _ q A2 c2 xs 1 _ HO23.out (by omega) (by omega)).mono ?_
    rintro e w4 ⟨rfl, ho4, hg4⟩
    have HV14 := Lib.hid (HV13.out.other hg4 HN2.out)
    have HV24 := Lib.hid (HV23.out.other hg4 HN3.out)
    have HR14 := Lib.hid (HR13.out.other hg4 HN1.out)
    have HR24 := Lib.hid (chMarks_row ho4 (by omega))
    have HB4 := Lib.hid (HB3.out.grown hg4 HB3.out.size HN4.out)
    clear ho4 hg4 p0 p1
    have p0 := HV24.out.c0
    have p1 := HV24.out.c1
    go_wp2_with fail
    go_at_call 18
    refine (laws_heldBatch_calls q A2 c2 xs.length 1 _ HR24.out (by omega) (by omega)).mono ?_
    rintro e w5 ⟨rfl, hb5⟩
    have HV15 := Lib.hid (HV14.out.below hb5)
    have HV25 := Lib.hid (HV24.out.below hb5)
    have HR15 := Lib.hid (HR14.out.below hb5)
    have HR25 := Lib.hid (HR24.out.below hb5)
    have HB5 := Lib.hid (HB4.out.trans (hb5.mono HB4.out.size))
    clear hb5 p0 p1
    have hneg : ¬ ((1 + xs.length * 3 : Nat) : Int) < 0 := by omega
    go_wp2_with fail
    go_at_call 15
    refine (impl_ReadBatch_calls s _ (by omega)).mono ?_
    rw [readBat_same]
    intro e w6 hp
    obtain ⟨hb6, v6, rfl, ho6⟩ := HP.out _ _ _ hp
    obtain ⟨A6, c6, rfl, hr6⟩ := ho6.row HX.out
    have hba : Below w6.heap.size w6 (w6.alloc (.cells #[.int .i64 q, .slice A6 xs.length c6] 30)) := (Below.refl _ _).alloc (Nat.le_refl _) _
    have HV6 := Lib.hid (batAt_new w6 q (.slice A6 xs.length c6))
    have HV16 := Lib.hid ((HV15.out.below hb6).below hba)
    have HV26 := Lib.hid ((HV25.out.below hb6).below hba)
    have HR16 := Lib.hid ((HR15.out.below hb6).below hba)
    have HR26 := Lib.hid ((HR25.out.below hb6).below hba)
    have HR6 := Lib.hid (hr6.below hba)
    have HB6 := Lib.hid ((HB5.out.trans (hb6.mono HB5.out.size)).trans (hba.mono (Nat.le_trans HB5.out.size hb6.size)))
    clear hp hb6 hr6 ho6 hba
    have p0 := HV6.out.c0
    have p1 := HV6.out.c1
    have q0 := HV16.out.c0
    have q1 := HV16.out.c1
    go_wp2_with fail
    go_at_call 16
    refine (laws_eqBatch_calls q A6 c6 A1 c1 xs _ HR6.out HR16.out).mono ?_
    rintro e w7 ⟨rfl, hb7⟩
    have HV27 := Lib.hid (HV26.out.below hb7)
    have HR27 := Lib.hid (HR26.out.below hb7)
    have HB7 := Lib.hid (HB6.out.trans (hb7.mono HB6.out.size))
    clear hb7 p0 p1 q0 q1
    have p0 := HV27.out.c0
    have p1 := HV27.out.c1
    go_wp2_with fail
    go_at_call 18
    refine (laws_heldBatch_calls q A2 c2 xs.length 1 _ HR27.out (by omega) (by omega)).mono ?_
    rintro e w8 ⟨rfl, hb8⟩
    have HB8 := Lib.hid (HB7.out.trans (hb8.mono HB7.out.size))
    clear hb8
    go_wp2
    go_ret
    exact ⟨rfl, HB8.out⟩
  · go_enter Try.func4, Try.ntmps4
    go_wp2
    go_ret
    exact ⟨rfl, Below.refl _ _⟩
end Go.Proofs.Ytekhfplbhcfdmaa
