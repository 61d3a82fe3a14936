/- The heads of segments: HeadText, headOf's and l06Head's reading. -/
import Derived.Test.YtaacpdejpcbbbaaGreatDoorFr
import Derived.Test.YtaacpdejpcbbbaaGreatDoorVars
import Derived.Test.YtaacpdejpcbbbaaGreatDoorRd3
import Derived.BigQuiet
import Derived.Deep.RegionHeld3
namespace Go.Proofs.YtaacpdejpcbbbaaGreatDoor
set_option linter.unusedVariables false
set_option linter.unusedSimpArgs false
open Go.RowKit
attribute [local go_sem] bs_size List.length_cons List.length_nil List.length_append

def headBytes (n f : Nat) : List UInt8 := 72 :: (varBytes n ++ varBytes f)
def headText (n f : Int) : Option (List UInt8) := if inR n 0 99 = true ∧ inR f 0 n = true then frameB (headBytes n.toNat f.toNat) else none
theorem headText_no {n f : Int} (h : ¬ (inR n 0 99 = true ∧ inR f 0 n = true)) : headText n f = none := if_neg h
theorem headText_yes {n f : Nat} (h : n ≤ 99) (hf : f ≤ n) : headText (n : Int) (f : Int) = frameB (headBytes n f) := by
  unfold headText
  rw [if_pos ⟨inR_true ⟨by omega, by omega⟩, inR_true ⟨by omega, by omega⟩⟩]
  rfl
theorem headBytes_len {n f : Nat} (h : n ≤ 1000000000) (hf : f ≤ 1000000000) : 1 ≤ (headBytes n f).length ∧ (headBytes n f).length ≤ 20 := by
  have h1 := var_len (n := n) (by omega)
  have h2 := var_len (n := f) (by omega)
  unfold headBytes
  rw [List.length_cons, List.length_append]
  omega
theorem head_join (n f : Nat) : (⟨#[72]⟩ : ByteArray) ++ bs (varsB [n, f]) = bs (headBytes n f) := by
  have e : (⟨#[72]⟩ : ByteArray) = bs [72] := rfl
  rw [e, bs_append, headBytes]
  simp [varsB]
theorem head_join2 (n f : Nat) : (⟨#[72]⟩ : ByteArray) ++ bs (varBytes n) ++ bs (varBytes f) = bs (headBytes n f) := by
  have e : (⟨#[72]⟩ : ByteArray) = bs [72] := rfl
  rw [e, bs_append, bs_append, headBytes]
  simp
set_option maxRecDepth 100000 in
theorem impl_HeadText_calls (n f : Int) (w : World) : Calls Tryz.prog 128 #[.int .i64 n, .int .i64 f] w fun e w' => e = .returned (varRes (headText n f)) ∧ Below w.heap.size w w' := by
  cases h1 : inR n 0 99
  · have HE := Lib.hid (headText_no (n := n) (f := f) (by rw [h1]; simp))
    have HI := Lib.hid h1
    clear h1
    go_enter Tryz.func128, Tryz.ntmps128
    go_wp2_with fail
    go_at_call 57
    refine (impl_within_calls _ _ _ _).mono ?_
    rw [HI.out]
    rintro e w' ⟨rfl, rfl⟩
    go_wp2
    go_ret2
    exact ⟨by rw [HE.out]; rfl, Below.refl _ _⟩
  · cases h2 : inR f 0 n
    · have HE := Lib.hid (headText_no (n := n) (f := f) (by rw [h2]; simp))
      have HI := Lib.hid h1
      have HJ := Lib.hid h2
      clear h1 h2
      go_enter Tryz.func128, Tryz.ntmps128
      go_wp2_with fail
      go_at_call 57
      refine (impl_within_calls _ _ _ _).mono ?_
      rw [HI.out]
      rintro e w' ⟨rfl, rfl⟩
      go_wp2_with fail
      go_at_call 57
      refine (impl_within_calls _ _ _ _).mono ?_
      rw [HJ.out]
      rintro e w' ⟨rfl, rfl⟩
      go_wp2
      go_ret2
      exact ⟨by rw [HE.out]; rfl, Below.refl _ _⟩
    · have HI := Lib.hid h1
      have HJ := Lib.hid h2
      have b1 : 0 ≤ n ∧ n ≤ 99 := by unfold inR at h1; simp only [Bool.and_eq_true, decide_eq_true_eq] at h1; exact h1
      have b2 : 0 ≤ f ∧ f ≤ n := by unfold inR at h2; simp only [Bool.and_eq_true, decide_eq_true_eq] at h2; exact h2
      obtain ⟨n, rfl⟩ := Int.eq_ofNat_of_zero_le b1.1
      obtain ⟨f, rfl⟩ := Int.eq_ofNat_of_zero_le b2.1
      have HE := Lib.hid (headText_yes (n := n) (f := f) (by omega) (by omega))
      have hlen := headBytes_len (n := n) (f := f) (by omega) (by omega)
      have HA := Lib.hid (head_join n f)
      have hvl : (varsB [n, f]).length ≤ 18 := varsB_len [n, f] (by simp; omega)
      clear h1 h2
      go_enter Tryz.func128, Tryz.ntmps128
      go_wp2_with fail
      go_at_call 57
      refine (impl_within_calls _ _ _ _).mono ?_
      rw [HI.out]
      rintro e w' ⟨rfl, rfl⟩
      go_wp2_with fail
      go_at_call 57
      refine (impl_within_calls _ _ _ _).mono ?_
      rw [HJ.out]
      rintro e w' ⟨rfl, rfl⟩
      go_wp2_with fail
      go_at_call 159
      refine (impl_vars_calls _ 2 [n, f] _ (natRow_two w n f) (by simp; omega) (by simp)).mono ?_
      rintro e w1 ⟨rfl, hb⟩
      have HB := Lib.hid (((Below.refl w.heap.size w).alloc (Nat.le_refl _) _).trans (hb.mono (by simp)))
      clear hb
      go_wp2_with fail
      go_at_call 92
      rw [HA.out]
      refine (impl_Frame_calls _ _ (by rw [bs_size]; omega)).mono ?_
      rw [ub_bs, ← HE.out]
      rintro e w2 ⟨rfl, hb⟩
      cases hh : headText (n : Int) (f : Int)
      all_goals
        have HH := Lib.hid hh
        clear hh
        simp only [varRes]
        go_wp2
        go_ret2
        exact ⟨by rw [HH.out]; rfl, HB.out.trans (hb.mono HB.out.size)⟩
set_option maxRecDepth 100000 in
theorem spec_HeadText_calls (n f : Int) (w : World) : Calls Tryz.prog 101 #[.int .i64 n, .int .i64 f] w fun e w' => e = .returned (varRes (headText n f)) ∧ Below w.heap.size w w' := by
  cases h1 : inR n 0 99
  · have HE := Lib.hid (headText_no (n := n) (f := f) (by rw [h1]; simp))
    have HI := Lib.hid h1
    clear h1
    go_enter Tryz.func101, Tryz.ntmps101
    go_wp2_with fail
    go_at_call 48
    refine (spec_l01In_calls _ _ _ _).mono ?_
    rw [HI.out]
    rintro e w' ⟨rfl, rfl⟩
    go_wp2
    go_ret2
    exact ⟨by rw [HE.out]; rfl, Below.refl _ _⟩
  · cases h2 : inR f 0 n
    · have HE := Lib.hid (headText_no (n := n) (f := f) (by rw [h2]; simp))
      have HI := Lib.hid h1
      have HJ := Lib.hid h2
      clear h1 h2
      go_enter Tryz.func101, Tryz.ntmps101
      go_wp2_with fail
      go_at_call 48
      refine (spec_l01In_calls _ _ _ _).mono ?_
      rw [HI.out]
      rintro e w' ⟨rfl, rfl⟩
      go_wp2_with fail
      go_at_call 48
      refine (spec_l01In_calls _ _ _ _).mono ?_
      rw [HJ.out]
      rintro e w' ⟨rfl, rfl⟩
      go_wp2
      go_ret2
      exact ⟨by rw [HE.out]; rfl, Below.refl _ _⟩
    · have HI := Lib.hid h1
      have HJ := Lib.hid h2
      have b1 : 0 ≤ n ∧ n ≤ 99 := by unfold inR at h1; simp only [Bool.and_eq_true, decide_eq_true_eq] at h1; exact h1
      have b2 : 0 ≤ f ∧ f ≤ n := by unfold inR at h2; simp only [Bool.and_eq_true, decide_eq_true_eq] at h2; exact h2
      obtain ⟨n, rfl⟩ := Int.eq_ofNat_of_zero_le b1.1
      obtain ⟨f, rfl⟩ := Int.eq_ofNat_of_zero_le b2.1
      have HE := Lib.hid (headText_yes (n := n) (f := f) (by omega) (by omega))
      have hlen := headBytes_len (n := n) (f := f) (by omega) (by omega)
      have HA := Lib.hid (head_join2 n f)
      have hv1 := var_len (n := n) (by omega)
      have hv2 := var_len (n := f) (by omega)
      clear h1 h2
      go_enter Tryz.func101, Tryz.ntmps101
      go_wp2_with fail
      go_at_call 48
      refine (spec_l01In_calls _ _ _ _).mono ?_
      rw [HI.out]
      rintro e w' ⟨rfl, rfl⟩
      go_wp2_with fail
      go_at_call 48
      refine (spec_l01In_calls _ _ _ _).mono ?_
      rw [HJ.out]
      rintro e w' ⟨rfl, rfl⟩
      go_wp2_with fail
      go_at_call 119
      refine (spec_l01Var_calls _ _ (by omega)).mono ?_
      rintro e w1 ⟨rfl, hb⟩
      have HB := Lib.hid hb
      clear hb
      go_wp2_with fail
      go_at_call 119
      refine (spec_l01Var_calls _ _ (by omega)).mono ?_
      rintro e w2 ⟨rfl, hb⟩
      have HB2 := Lib.hid (HB.out.trans (hb.mono HB.out.size))
      clear hb
      go_wp2_with fail
      go_at_call 81
      rw [HA.out]
      refine (spec_Frame_calls _ _ (by rw [bs_size]; omega)).mono ?_
      rw [ub_bs, ← HE.out]
      rintro e w3 ⟨rfl, hb⟩
      cases hh : headText (n : Int) (f : Int)
      all_goals
        have HH := Lib.hid hh
        clear hh
        simp only [varRes]
        go_wp2
        go_ret2
        exact ⟨by rw [HH.out]; rfl, HB2.out.trans (hb.mono HB2.out.size)⟩
/-! ### What a head's record tells -/
def IsHead (n : Int) (r : ByteArray) (f : Nat) : Prop := (0 ≤ n ∧ n ≤ 99) ∧ (f : Int) ≤ n ∧ ub r = headBytes n.toNat f
/-- The program's reading. -/
def hdL (r : ByteArray) : Nat × Nat × Bool := rByte r 0 false
def hdN (r : ByteArray) : Nat × Nat × Bool := rNum r (hdL r).2.1 (hdL r).2.2
def hdF (r : ByteArray) : Nat × Nat × Bool := rNum r (hdN r).2.1 (hdN r).2.2
def hdI (n : Int) (r : ByteArray) : Option Nat := if (hdL r).1 = 72 ∧ rDone r (hdF r).2.1 (hdF r).2.2 = true ∧ (headText ((hdN r).1 : Int) ((hdF r).1 : Int)).isSome = true ∧ ((hdN r).1 : Int) = n then some (hdF r).1 else none
/-- The reference's. -/
def heL (r : ByteArray) : List UInt8 × Nat × Bool := cTake r 0 false 1
def heN (r : ByteArray) : Nat × Nat × Bool := rNum r (heL r).2.1 (heL r).2.2
def heF (r : ByteArray) : Nat × Nat × Bool := rNum r (heN r).2.1 (heN r).2.2
def hdS (n : Int) (r : ByteArray) : Option Nat := if (heF r).2.2 = false ∧ ((heN r).1 : Int) = n ∧ inR ((heF r).1 : Int) 0 n = true ∧ headBytes n.toNat (heF r).1 = ub r then some (heF r).1 else none
theorem frameB_some {l : List UInt8} (h : 1 ≤ l.length ∧ l.length ≤ 9000) : (frameB l).isSome = true := by rw [frameB_yes h]; rfl
theorem headText_isSome {n f : Nat} : (headText (n : Int) (f : Int)).isSome = true ↔ n ≤ 99 ∧ f ≤ n := by
  constructor
  · intro h
    unfold headText at h
    split at h
    · rename_i hc
      have h1 := hc.1
      have h2 := hc.2
      unfold inR at h1 h2
      simp only [Bool.and_eq_true, decide_eq_true_eq] at h1 h2
      omega
    · cases h
  · rintro ⟨h1, h2⟩
    have := headBytes_len (n := n) (f := f) (by omega) (by omega)
    rw [headText_yes h1 h2]
    exact frameB_some (by omega)
theorem hdI_put {n : Int} {r : ByteArray} {f : Nat} (h : IsHead n r f) : hdI n r = some f := by
  obtain ⟨⟨h1, h2⟩, h3, h4⟩ := h
  obtain ⟨n, rfl⟩ := Int.eq_ofNat_of_zero_le h1
  have h0 : tail_ r 0 = 72 :: (varBytes n ++ (varBytes f ++ [])) := by rw [tail_zero, h4]; simp [headBytes]
  have e1 : hdL r = (72, 1, false) := rByte_put h0
  have l1 := tail_le (Nat.zero_le _) (p := [72]) h0
  rw [List.length_singleton, Nat.zero_add] at l1
  have e2 : hdN r = (n, 1 + (varBytes n).length, false) := by
    unfold hdN
    rw [e1]
    exact rNum_put (by omega) l1.2
  have l2 := tail_le l1.1 l1.2
  have e3 : hdF r = (f, 1 + (varBytes n).length + (varBytes f).length, false) := by
    unfold hdF
    rw [e2]
    exact rNum_put (by omega) l2.2
  have l3 := tail_le l2.1 l2.2
  have hend := (tail_nil l3.1).1 l3.2
  unfold hdI
  rw [e1, e2, e3, hend, if_pos ⟨rfl, by simp [rDone], headText_isSome.2 ⟨by omega, by omega⟩, rfl⟩]
theorem hdS_put {n : Int} {r : ByteArray} {f : Nat} (h : IsHead n r f) : hdS n r = some f := by
  obtain ⟨⟨h1, h2⟩, h3, h4⟩ := h
  obtain ⟨n, rfl⟩ := Int.eq_ofNat_of_zero_le h1
  have h0 : tail_ r 0 = 72 :: (varBytes n ++ (varBytes f ++ [])) := by rw [tail_zero, h4]; simp [headBytes]
  have e1 : heL r = ([72], 1, false) := cTake_put (x := [72]) (Nat.zero_le _) h0
  have l1 := tail_le (Nat.zero_le _) (p := [72]) h0
  rw [List.length_singleton, Nat.zero_add] at l1
  have e2 : heN r = (n, 1 + (varBytes n).length, false) := by
    unfold heN
    rw [e1]
    exact rNum_put (by omega) l1.2
  have l2 := tail_le l1.1 l1.2
  have e3 : heF r = (f, 1 + (varBytes n).length + (varBytes f).length, false) := by
    unfold heF
    rw [e2]
    exact rNum_put (by omega) l2.2
  unfold hdS
  rw [e2, e3, if_pos ⟨rfl, rfl, inR_true ⟨by omega, h3⟩, h4.symm⟩]
theorem hdI_is {n : Int} {r : ByteArray} {f : Nat} (h : hdI n r = some f) : IsHead n r f := by
  unfold hdI at h
  split at h
  · rename_i hc
    obtain rfl := Option.some.inj h
    obtain ⟨hl, hd, hs, rfl⟩ := hc
    obtain ⟨q1, q2⟩ := headText_isSome.1 hs
    simp only [rDone, Bool.and_eq_true, Bool.not_eq_true', decide_eq_true_eq] at hd
    obtain ⟨hb, hend⟩ := hd
    have a1 : (hdL r).2.1 ≤ r.size := (rByte_le r false (Nat.zero_le _)).1
    have a2 : (hdN r).2.1 ≤ r.size := (rNum_le r _ _ a1).2.1
    obtain ⟨b2, _, t3⟩ := rNum_took a2 (n := (hdF r).1) (a' := (hdF r).2.1) (b := (hdN r).2.2) (Prod.ext rfl (Prod.ext rfl hb))
    obtain ⟨b1, _, t2⟩ := rNum_took a1 (n := (hdN r).1) (a' := (hdN r).2.1) (b := (hdL r).2.2) (Prod.ext rfl (Prod.ext rfl b2))
    obtain ⟨_, _, t1⟩ := rByte_took (s := r) (a := 0) (n := (hdL r).1) (a' := (hdL r).2.1) (b := false) (Prod.ext rfl (Prod.ext rfl b1))
    have := ((t1.trans t2).trans t3).2
    rw [tail_zero, (tail_nil t3.1).2 hend, List.append_nil, hl] at this
    refine ⟨⟨by omega, by omega⟩, by omega, ?_⟩
    rw [this, headBytes, Int.toNat_natCast]
    simp
  · cases h
theorem hdS_is {n : Int} {r : ByteArray} {f : Nat} (hn : 0 ≤ n ∧ n ≤ 99) (h : hdS n r = some f) : IsHead n r f := by
  unfold hdS at h
  split at h
  · rename_i hc
    obtain rfl := Option.some.inj h
    obtain ⟨_, _, h3, h4⟩ := hc
    unfold inR at h3
    simp only [Bool.and_eq_true, decide_eq_true_eq] at h3
    exact ⟨hn, h3.2, h4.symm⟩
  · cases h
theorem hd_same {n : Int} (hn : 0 ≤ n ∧ n ≤ 99) (r : ByteArray) : hdI n r = hdS n r := by
  cases h : hdS n r with
  | some f => exact hdI_put (hdS_is hn h)
  | none =>
    cases h2 : hdI n r with
    | none => rfl
    | some f => rw [hdS_put (hdI_is h2)] at h; cases h
theorem hdI_range {n : Int} (hn : ¬ (0 ≤ n ∧ n ≤ 99)) (r : ByteArray) : hdI n r = none := by
  cases h : hdI n r with
  | none => rfl
  | some f => exact (hn (hdI_is h).1).elim
end Go.Proofs.YtaacpdejpcbbbaaGreatDoor
