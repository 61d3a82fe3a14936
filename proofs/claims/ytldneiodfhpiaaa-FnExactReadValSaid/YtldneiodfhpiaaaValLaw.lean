/- The walk of the law FnExactReadVal. -/
import Derived.Test.YtldneiodfhpiaaaReadS
import Derived.Test.YtldneiodfhpiaaaMark
namespace Go.Proofs.Ytldneiodfhpiaaa
set_option linter.unusedVariables false
set_option linter.unusedSimpArgs false
open Go.RowKit
attribute [local go_sem] bs_size List.length_cons List.length_nil List.length_append

theorem StrRow.other {w w' : World} {c' : Nat} {A : Option Addr} {v : Value} {xs : List ByteArray} (h : StrRow w A c' xs) (hg : w.grownBy w' v.ownBlock) (hne : ∀ ad, A = some ad → v.ownBlock ≠ some ad.block) : StrRow w' A c' xs :=
  ⟨h.1, h.2.1, h.2.2.1, fun hp => by
    obtain ⟨ad, e, hl, hc⟩ := h.2.2.2 hp
    refine ⟨ad, e, Nat.lt_of_lt_of_le hl hg.size, fun j hj => ?_⟩
    have := hg.block (ad.add j).block (by rw [add_block]; exact hl) (by rw [add_block]; exact fun e2 => hne ad e e2.symm)
    exact (World.cell?_of_block this).trans (hc j hj)⟩
theorem ValAt.other {w w' : World} {g : Nat} {k u : Int} {t : ByteArray} {v x : Value} (h : ValAt w g k u t v) (hg : w.grownBy w' x.ownBlock) (hne : x.ownBlock ≠ some g) : ValAt w' g k u t v :=
  (hg.block g h.lt (fun e => hne e.symm)).trans h
/-- The own block of a row made from block B on. -/
theorem StrOwn.lt {w : World} {B : Nat} {v : Value} {xs : List ByteArray} (h : StrOwn w B v xs) : ∀ k, v.ownBlock = some k → B ≤ k ∧ k < w.heap.size := by
  intro k hk
  rcases h with ⟨rfl, _⟩ | ⟨b, c, rfl, hB, more, hb, _⟩
  · simp [Value.ownBlock] at hk
  · simp only [Value.ownBlock, Option.some.injEq] at hk
    subst hk
    exact ⟨hB, blk_lt hb⟩
theorem StrOwn.rowMarks {w : World} {B n c k : Nat} {A : Option Addr} (h : StrOwn w B (.slice A n c) (marks k n)) (hk : k + n ≤ 1000000000000) : StrRow w A c (marks k n) := by
  obtain ⟨A', c', e, hr⟩ := h.row (marks_size hk)
  injection e with e1 e2 e3
  subst e1 e3
  exact hr
theorem own_apart {w1 w2 : World} {B n c1 c2 : Nat} {o : Obj} {A1 A2 : Option Addr} {xs ys : List ByteArray} (hr : StrRow w1 A1 c1 xs) (h1 : StrOwn w1 B (.slice A1 xs.length c1) xs) (h2 : StrOwn w2 (w1.alloc o).heap.size (.slice A2 n c2) ys) : ∀ ad, A1 = some ad → (Value.slice A2 n c2).ownBlock ≠ some ad.block := by
  intro ad e h
  have h3 := (h2.lt _ h).1
  simp at h3
  subst e
  rcases h1 with ⟨e, _⟩ | ⟨b, c, e, _, more, hb, _⟩
  · cases e
  · injection e with e1 e2 e3
    injection e1 with e1
    subst e1
    have := blk_lt hb
    simp at h3
    omega
/-- Both readings in one form: what is handed back, and in what memory. -/
theorem readPost_uni (s : ByteArray) (hs : s.size ≤ 1099511627776) : ∃ (k u : Int) (t : ByteArray) (xs : List ByteArray) (b : Bool), (∀ x ∈ xs, x.size ≤ 9223372036854775807) ∧ xs.length ≤ 1000000 ∧ t.size ≤ 9223372036854775807 ∧
    ∀ (w : World) (e : Ending) (w' : World), ReadPost w (readValS s) e w' → Below w.heap.size w w' ∧ ∃ v, e = .returned (.tuple #[vVal k u t v, .bool b]) ∧ StrOwn w' w.heap.size v xs := by
  cases h : readValS s with
  | none => exact ⟨0, 0, ⟨#[]⟩, [], false, by simp, by simp, by show 0 ≤ _; omega, fun w e w' hp => ⟨hp.1, _, hp.2, .inl ⟨rfl, rfl⟩⟩⟩
  | some d =>
    obtain ⟨k, u, t, xs⟩ := d
    have hd := (readValS_is h).1
    obtain ⟨_, _, h3, h4, h5⟩ := valOk_bounds hd
    exact ⟨k, u, t, xs, true, fun x hx => Nat.le_trans (h5 x hx) (by omega), Nat.le_trans h4 (by omega), Nat.le_trans h3 (by omega), fun w e w' hp => ⟨hp.1, hp.2⟩⟩
set_option maxRecDepth 100000 in
theorem laws_eqVal_calls (k u : Int) (t : ByteArray) (A : Option Addr) (c : Nat) (xs : List ByteArray) (A' : Option Addr) (c' : Nat) (w : World) (h : StrRow w A c xs) (h' : StrRow w A' c' xs) :
    Calls Try.prog 18 #[vVal k u t (.slice A xs.length c), vVal k u t (.slice A' xs.length c')] w fun e w' => e = .returned (.bool true) ∧ Below w.heap.size w w' := by
  have hb : Below w.heap.size w ((w.alloc (.cells #[.int .i64 k, .int .i64 u, .string t, .slice A xs.length c] 28)).alloc (.cells #[.int .i64 k, .int .i64 u, .string t, .slice A' xs.length c'] 28)) := ((Below.refl _ _).alloc (Nat.le_refl _) _).alloc (by simp) _
  have HR := Lib.hid (h.below hb)
  have HR' := Lib.hid (h'.below hb)
  have HB := Lib.hid hb
  have he := eqS_self xs
  clear h h' hb
  unfold vVal
  go_enter Try.func18, Try.ntmps18
  go_wp2_with fail
  go_at_call 32
  refine (laws_eqStringS_calls _ _ xs _ _ xs _ HR.out HR'.out).mono ?_
  rw [he]
  rintro e w3 ⟨rfl, hb3⟩
  go_wp2
  go_ret
  exact ⟨rfl, bl_call HB.out hb3⟩
set_option maxRecDepth 100000 in
theorem laws_markVal_calls (B : Nat) (k u : Int) (t : ByteArray) (A : Option Addr) (c : Nat) (xs : List ByteArray) (m : Nat) (w : World) (h : StrOwn w B (.slice A xs.length c) xs) (h0 : 1 ≤ m) (h1 : m + xs.length ≤ 1000000000000) :
    Calls Try.prog 19 #[vVal k u t (.slice A xs.length c), .int .i64 (m : Int)] w (Marked w B (.slice A xs.length c) m xs.length) := by
  have hb : Below w.heap.size w (w.alloc (.cells #[.int .i64 k, .int .i64 u, .string t, .slice A xs.length c] 28)) := (Below.refl _ _).alloc (Nat.le_refl _) _
  have HO := Lib.hid (h.below hb)
  have HG := Lib.hid (World.grownBy_alloc w (.cells #[.int .i64 k, .int .i64 u, .string t, .slice A xs.length c] 28) (Value.slice A xs.length c).ownBlock)
  clear h hb
  unfold vVal
  go_enter Try.func19, Try.ntmps19
  go_wp2_with fail
  go_at_call 33
  refine (laws_markStringS_calls B _ xs m _ HO.out h0 h1).mono ?_
  rintro e w3 ⟨rfl, ho, hg⟩
  have HO3 := Lib.hid ho
  have HG3 := Lib.hid (HG.out.trans hg)
  clear ho hg
  go_wp2
  go_ret
  exact ⟨rfl, HO3.out, HG3.out⟩
set_option maxRecDepth 100000 in
theorem laws_heldVal_calls (k u : Int) (t : ByteArray) (A : Option Addr) (c n m : Nat) (w : World) (h : StrRow w A c (marks m n)) (h0 : 1 ≤ m) (h1 : m + n ≤ 1000000000000) :
    Calls Try.prog 20 #[vVal k u t (.slice A n c), .int .i64 (m : Int)] w fun e w' => e = .returned (.int .i64 ((m + n : Nat) : Int)) ∧ Below w.heap.size w w' := by
  have hb : Below w.heap.size w (w.alloc (.cells #[.int .i64 k, .int .i64 u, .string t, .slice A n c] 28)) := (Below.refl _ _).alloc (Nat.le_refl _) _
  have HR := Lib.hid (h.below hb)
  have HB := Lib.hid hb
  clear h hb
  unfold vVal
  go_enter Try.func20, Try.ntmps20
  go_wp2_with fail
  go_at_call 34
  refine (laws_heldStringS_calls A c n m _ HR.out h0 h1).mono ?_
  rintro e w3 ⟨rfl, hb3⟩
  have hneg : ¬ ((m + n : Nat) : Int) < 0 := by omega
  go_wp2
  go_ret
  exact ⟨rfl, bl_call HB.out hb3⟩
set_option maxRecDepth 100000 in
theorem walk_FnExactReadVal (s : ByteArray) (w : World) (hz : s.size ≤ 140737488351232) :
    Calls Try.prog 7 #[.string s] w fun e w' => e = .returned (.bool true) ∧ Below w.heap.size w w' := by
  by_cases hs : s.size ≤ 1048576
  · obtain ⟨k, u, t, xs, b, hx, hn, ht, hpost⟩ := readPost_uni s (by omega)
    have HX := Lib.hid hx
    have HP := Lib.hid hpost
    have hbb : (b != b) = false := by simp
    clear hx hpost
    go_enter Try.func7, Try.ntmps7
    go_wp2_with fail
    go_at_call 16
    refine (spec_ReadVal_calls s _ (by omega)).mono ?_
    intro e w1 hp
    obtain ⟨hb1, v1, rfl, ho1⟩ := HP.out _ _ _ hp
    obtain ⟨A1, c1, rfl, hr1⟩ := ho1.row HX.out
    have HB1 := Lib.hid hb1
    have HO1 := Lib.hid ho1
    have HR1 := Lib.hid hr1
    clear hp hb1 ho1 hr1
    unfold vVal
    have HV1 := Lib.hid (valAt_new w1 k u t (.slice A1 xs.length c1))
    have hba : Below w1.heap.size w1 (w1.alloc (.cells #[.int .i64 k, .int .i64 u, .string t, .slice A1 xs.length c1] 28)) := (Below.refl _ _).alloc (Nat.le_refl _) _
    have HR1a := Lib.hid (HR1.out.below hba)
    have HO1a := Lib.hid (HO1.out.below hba)
    have HB1a := Lib.hid (HB1.out.trans (hba.mono HB1.out.size))
    clear hba
    go_wp2_with fail
    go_at_call 17
    refine (impl_ReadVal_calls s _ (by omega)).mono ?_
    rw [readVal_same]
    intro e w2 hp
    obtain ⟨hb2, v2, rfl, ho2⟩ := HP.out _ _ _ hp
    obtain ⟨A2, c2, rfl, hr2⟩ := ho2.row HX.out
    have hba : Below w2.heap.size w2 (w2.alloc (.cells #[.int .i64 k, .int .i64 u, .string t, .slice A2 xs.length c2] 28)) := (Below.refl _ _).alloc (Nat.le_refl _) _
    have HV2 := Lib.hid (valAt_new w2 k u t (.slice A2 xs.length c2))
    have HV12 := Lib.hid ((HV1.out.below hb2).below hba)
    have HR12 := Lib.hid ((HR1a.out.below hb2).below hba)
    have HR2 := Lib.hid (hr2.below hba)
    have HO2 := Lib.hid (ho2.below hba)
    have HB2 := Lib.hid ((HB1a.out.trans (hb2.mono HB1a.out.size)).trans (hba.mono (Nat.le_trans HB1a.out.size hb2.size)))
    -- where the blocks lie
    have HN1 : Hid (∀ ad, A1 = some ad → (Value.slice A2 xs.length c2).ownBlock ≠ some ad.block) := own_apart HR1.out HO1.out ho2
    have HN2 : Hid ((Value.slice A2 xs.length c2).ownBlock ≠ some w1.heap.size) := fun e => by have := (ho2.lt _ e).1; simp at this; omega
    have HN3 : Hid ((Value.slice A2 xs.length c2).ownBlock ≠ some w2.heap.size) := fun e => by have := (ho2.lt _ e).2; omega
    have HN4 : Hid (∀ k, (Value.slice A2 xs.length c2).ownBlock = some k → w.heap.size ≤ k) := fun k e => by have := (ho2.lt k e).1; have := HB1a.out.size; omega
    clear hp hb2 hr2 ho2 hba
    have p0 := HV2.out.c0
    have p1 := HV2.out.c1
    have p2 := HV2.out.c2
    have p3 := HV2.out.c3
    have q0 := HV12.out.c0
    have q1 := HV12.out.c1
    have q2 := HV12.out.c2
    have q3 := HV12.out.c3
    unfold vVal
    go_wp2_with fail
    go_at_call 18
    refine (laws_eqVal_calls k u t A2 c2 xs A1 c1 _ HR2.out HR12.out).mono ?_
    rintro e w3 ⟨rfl, hb3⟩
    have HV13 := Lib.hid (HV12.out.below hb3)
    have HV23 := Lib.hid (HV2.out.below hb3)
    have HR13 := Lib.hid (HR12.out.below hb3)
    have HO23 := Lib.hid (HO2.out.below hb3)
    have HB3 := Lib.hid (HB2.out.trans (hb3.mono HB2.out.size))
    clear hb3 p0 p1 p2 p3 q0 q1 q2 q3
    have p0 := HV23.out.c0
    have p1 := HV23.out.c1
    have p2 := HV23.out.c2
    have p3 := HV23.out.c3
    go_wp2_with fail
    go_at_call 19
    refine (laws_markVal_calls _ k u t A2 c2 xs 1 _ HO23.out (by omega) (by omega)).mono ?_
    rintro e w4 ⟨rfl, ho4, hg4⟩
    have HV14 := Lib.hid (HV13.out.other hg4 HN2.out)
    have HV24 := Lib.hid (HV23.out.other hg4 HN3.out)
    have HR14 := Lib.hid (HR13.out.other hg4 HN1.out)
    have HR24 := Lib.hid (ho4.rowMarks (by omega))
    have HB4 := Lib.hid (HB3.out.grown hg4 HB3.out.size HN4.out)
    clear ho4 hg4 p0 p1 p2 p3
    have p0 := HV24.out.c0
    have p1 := HV24.out.c1
    have p2 := HV24.out.c2
    have p3 := HV24.out.c3
    go_wp2_with fail
    go_at_call 20
    refine (laws_heldVal_calls k u t A2 c2 xs.length 1 _ HR24.out (by omega) (by omega)).mono ?_
    rintro e w5 ⟨rfl, hb5⟩
    have HV15 := Lib.hid (HV14.out.below hb5)
    have HV25 := Lib.hid (HV24.out.below hb5)
    have HR15 := Lib.hid (HR14.out.below hb5)
    have HR25 := Lib.hid (HR24.out.below hb5)
    have HB5 := Lib.hid (HB4.out.trans (hb5.mono HB4.out.size))
    clear hb5 p0 p1 p2 p3
    have hneg : ¬ ((1 + xs.length : Nat) : Int) < 0 := by omega
    go_wp2_with fail
    go_at_call 17
    refine (impl_ReadVal_calls s _ (by omega)).mono ?_
    rw [readVal_same]
    intro e w6 hp
    obtain ⟨hb6, v6, rfl, ho6⟩ := HP.out _ _ _ hp
    obtain ⟨A6, c6, rfl, hr6⟩ := ho6.row HX.out
    have hba : Below w6.heap.size w6 (w6.alloc (.cells #[.int .i64 k, .int .i64 u, .string t, .slice A6 xs.length c6] 28)) := (Below.refl _ _).alloc (Nat.le_refl _) _
    have HV6 := Lib.hid (valAt_new w6 k u t (.slice A6 xs.length c6))
    have HV16 := Lib.hid ((HV15.out.below hb6).below hba)
    have HV26 := Lib.hid ((HV25.out.below hb6).below hba)
    have HR16 := Lib.hid ((HR15.out.below hb6).below hba)
    have HR26 := Lib.hid ((HR25.out.below hb6).below hba)
    have HR6 := Lib.hid (hr6.below hba)
    have HB6 := Lib.hid ((HB5.out.trans (hb6.mono HB5.out.size)).trans (hba.mono (Nat.le_trans HB5.out.size hb6.size)))
    clear hp hb6 hr6 ho6 hba
    have p0 := HV6.out.c0
    have p1 := HV6.out.c1
    have p2 := HV6.out.c2
    have p3 := HV6.out.c3
    have q0 := HV16.out.c0
    have q1 := HV16.out.c1
    have q2 := HV16.out.c2
    have q3 := HV16.out.c3
    unfold vVal
    go_wp2_with fail
    go_at_call 18
    refine (laws_eqVal_calls k u t A6 c6 xs A1 c1 _ HR6.out HR16.out).mono ?_
    rintro e w7 ⟨rfl, hb7⟩
    have HV27 := Lib.hid (HV26.out.below hb7)
    have HR27 := Lib.hid (HR26.out.below hb7)
    have HB7 := Lib.hid (HB6.out.trans (hb7.mono HB6.out.size))
    clear hb7 p0 p1 p2 p3 q0 q1 q2 q3
    have p0 := HV27.out.c0
    have p1 := HV27.out.c1
    have p2 := HV27.out.c2
    have p3 := HV27.out.c3
    go_wp2_with fail
    go_at_call 20
    refine (laws_heldVal_calls k u t A2 c2 xs.length 1 _ HR27.out (by omega) (by omega)).mono ?_
    rintro e w8 ⟨rfl, hb8⟩
    have HB8 := Lib.hid (HB7.out.trans (hb8.mono HB7.out.size))
    clear hb8
    go_wp2
    go_ret
    exact ⟨rfl, HB8.out⟩
  · go_enter Try.func7, Try.ntmps7
    go_wp2
    go_ret
    exact ⟨rfl, Below.refl _ _⟩
end Go.Proofs.Ytldneiodfhpiaaa
