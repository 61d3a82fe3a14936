/- The plain law of ReadVal: what the program reads and what the reference reads is the value whose text it is. -/
import Derived.Test.YtekhfplbhcfdmaaRdL
namespace Go.Proofs.Ytekhfplbhcfdmaa
set_option linter.unusedVariables false
set_option linter.unusedSimpArgs false
open Go.RowKit

abbrev ValD := Int × Int × ByteArray × List ByteArray
/-- The four things that a value's text tells, as they are read; the mark behind. -/
def itI (s : ByteArray) (a : Nat) : ByteArray × Nat × Bool := (bs (rText s a false).1, (rText s a false).2)
def itS (s : ByteArray) (a : Nat) : ByteArray × Nat × Bool := (bs (cShort s a false).1, (cShort s a false).2)
def rdK (s : ByteArray) : Nat × Nat × Bool := rByte s 0 false
def rdU (s : ByteArray) : Nat × Nat × Bool := rNum s (rdK s).2.1 (rdK s).2.2
def rdT (s : ByteArray) : List UInt8 × Nat × Bool := rText s (rdU s).2.1 (rdU s).2.2
def rdN (s : ByteArray) : Nat × Nat × Bool := rNum s (rdT s).2.1 (rdT s).2.2
def rdX (s : ByteArray) : List ByteArray × Nat × Bool := itemsBy (itI s) (rdN s).1 (rdN s).2.1 (rdN s).2.2
def readValI (s : ByteArray) : Option ValD :=
  if rDone s (rdX s).2.1 (rdX s).2.2 = true ∧ valOkB ((rdK s).1 : Int) ((rdU s).1 : Int) (bs (rdT s).1) (rdX s).1 = true then some (((rdK s).1 : Int), ((rdU s).1 : Int), bs (rdT s).1, (rdX s).1) else none
def cuK (s : ByteArray) : List UInt8 × Nat × Bool := cTake s 0 false 1
def cuU (s : ByteArray) : Nat × Nat × Bool := rNum s (cuK s).2.1 (cuK s).2.2
def cuT (s : ByteArray) : List UInt8 × Nat × Bool := cShort s (cuU s).2.1 (cuU s).2.2
def cuN (s : ByteArray) : Nat × Nat × Bool := rNum s (cuT s).2.1 (cuT s).2.2
def cuX (s : ByteArray) : List ByteArray × Nat × Bool := itemsBy (itS s) (min (cuN s).1 100) (cuN s).2.1 (cuN s).2.2
def cuKind (s : ByteArray) : Int := (((cuK s).1.getD 0 0).toNat : Int)
def readValS (s : ByteArray) : Option ValD :=
  if (cuK s).2.2 = false ∧ (cuX s).2.2 = false ∧ valTextB (cuKind s) ((cuU s).1 : Int) (bs (cuT s).1) (cuX s).1 = some (ub s) then some (cuKind s, ((cuU s).1 : Int), bs (cuT s).1, (cuX s).1) else none
/-- d is right, and s is its text. -/
def IsVal (s : ByteArray) (d : ValD) : Prop := valOkB d.1 d.2.1 d.2.2.1 d.2.2.2 = true ∧ ub s = valBytes d.1 d.2.1 d.2.2.1 d.2.2.2
theorem valTextB_some {k u : Int} {t : ByteArray} {xs : List ByteArray} {l : List UInt8} : valTextB k u t xs = some l ↔ valOkB k u t xs = true ∧ l = valBytes k u t xs := by
  unfold valTextB
  split
  · rename_i h
    simp only [Option.some.injEq, h, true_and]
    exact eq_comm
  · rename_i h
    simp [h]
theorem itI_took {s : ByteArray} (a : Nat) (x : ByteArray) (a' : Nat) (ha : a ≤ s.size) (h : itI s a = (x, a', false)) : Took s a (shortB (ub x)) a' := by
  unfold itI at h
  simp only [Prod.mk.injEq] at h
  obtain ⟨rfl, h2⟩ := h
  rw [ub_bs]
  exact (rText_took ha (x := (rText s a false).1) (a' := a') (b := false) (by rw [← h2])).2.2
theorem itI_put {s : ByteArray} (a : Nat) (x : ByteArray) (l : List UInt8) (_ : a ≤ s.size) (hx : x.size ≤ 60) (h : tail_ s a = shortB (ub x) ++ l) : itI s a = (x, a + (shortB (ub x)).length, false) := by
  unfold itI
  rw [rText_put (x := ub x) (by rw [ub_length]; omega) h, bs_ub]
theorem itS_put {s : ByteArray} (a : Nat) (x : ByteArray) (l : List UInt8) (ha : a ≤ s.size) (hx : x.size ≤ 60) (h : tail_ s a = shortB (ub x) ++ l) : itS s a = (x, a + (shortB (ub x)).length, false) := by
  unfold itS
  rw [cShort_put ha (x := ub x) (by rw [ub_length]; omega) h, bs_ub]
theorem flat_eq (xs : List ByteArray) : (xs.map fun x => shortB (ub x)).flatten = flatS xs := rfl
theorem isVal_parts {s : ByteArray} {d : ValD} (h : IsVal s d) : ∃ k u : Nat, d.1 = (k : Int) ∧ d.2.1 = (u : Int) ∧ k ≤ 4 ∧ u ≤ 100000 ∧ d.2.2.1.size ≤ 60 ∧ d.2.2.2.length ≤ 24 ∧ (∀ x ∈ d.2.2.2, x.size ≤ 60) ∧
    tail_ s 0 = UInt8.ofNat k :: (varBytes u ++ (shortB (ub d.2.2.1) ++ (varBytes d.2.2.2.length ++ (flatS d.2.2.2 ++ [])))) := by
  obtain ⟨h1, h2⟩ := h
  obtain ⟨hk, hu, ht, hn, hx⟩ := valOk_bounds h1
  refine ⟨d.1.toNat, d.2.1.toNat, by omega, by omega, by omega, by omega, ht, hn, hx, ?_⟩
  rw [tail_zero, h2, valBytes, vHead]
  simp [List.append_assoc]
theorem readValI_put {s : ByteArray} {d : ValD} (h : IsVal s d) : readValI s = some d := by
  obtain ⟨k, u, ek, eu, hk, hu, ht, hn, hx, hs⟩ := isVal_parts h
  have hok := h.1
  obtain ⟨dk, du, t, xs⟩ := d
  dsimp only at ek eu ht hn hx hs hok
  subst ek eu
  have e1 : rdK s = (k, 1, false) := by
    unfold rdK
    rw [rByte_put hs, UInt8.toNat_ofNat', Nat.mod_eq_of_lt (by omega)]
  have l1 := tail_le (Nat.zero_le _) (p := [UInt8.ofNat k]) hs
  rw [List.length_singleton, Nat.zero_add] at l1
  have e2 : rdU s = (u, 1 + (varBytes u).length, false) := by
    unfold rdU
    rw [e1]
    exact rNum_put (by omega) l1.2
  have l2 := tail_le l1.1 l1.2
  have e3 : rdT s = (ub t, 1 + (varBytes u).length + (shortB (ub t)).length, false) := by
    unfold rdT
    rw [e2]
    exact rText_put (by rw [ub_length]; omega) l2.2
  have l3 := tail_le l2.1 l2.2
  have e4 : rdN s = (xs.length, 1 + (varBytes u).length + (shortB (ub t)).length + (varBytes xs.length).length, false) := by
    unfold rdN
    rw [e3]
    exact rNum_put (by omega) l3.2
  have l4 := tail_le l3.1 l3.2
  have e5 : rdX s = (xs, 1 + (varBytes u).length + (shortB (ub t)).length + (varBytes xs.length).length + (flatS xs).length, false) := by
    unfold rdX
    rw [e4]
    exact itemsBy_put (f := itI s) (enc := fun x => shortB (ub x)) (good := fun x => x.size ≤ 60) (fun a x l ha hg hh => itI_put a x l ha hg hh) xs _ [] l4.1 hx l4.2
  have l5 := tail_le l4.1 l4.2
  have hend := (tail_nil l5.1).1 l5.2
  unfold readValI
  rw [e1, e2, e3, e5, bs_ub, hend]
  rw [if_pos ⟨by simp [rDone], hok⟩]
theorem readValS_put {s : ByteArray} {d : ValD} (h : IsVal s d) : readValS s = some d := by
  obtain ⟨k, u, ek, eu, hk, hu, ht, hn, hx, hs⟩ := isVal_parts h
  have hok := h
  obtain ⟨dk, du, t, xs⟩ := d
  dsimp only at ek eu ht hn hx hs hok
  subst ek eu
  have e1 : cuK s = ([UInt8.ofNat k], 1, false) := by
    unfold cuK
    exact cTake_put (x := [UInt8.ofNat k]) (Nat.zero_le _) hs
  have l1 := tail_le (Nat.zero_le _) (p := [UInt8.ofNat k]) hs
  rw [List.length_singleton, Nat.zero_add] at l1
  have e2 : cuU s = (u, 1 + (varBytes u).length, false) := by
    unfold cuU
    rw [e1]
    exact rNum_put (by omega) l1.2
  have l2 := tail_le l1.1 l1.2
  have e3 : cuT s = (ub t, 1 + (varBytes u).length + (shortB (ub t)).length, false) := by
    unfold cuT
    rw [e2]
    exact cShort_put l2.1 (by rw [ub_length]; omega) l2.2
  have l3 := tail_le l2.1 l2.2
  have e4 : cuN s = (xs.length, 1 + (varBytes u).length + (shortB (ub t)).length + (varBytes xs.length).length, false) := by
    unfold cuN
    rw [e3]
    exact rNum_put (by omega) l3.2
  have l4 := tail_le l3.1 l3.2
  have e5 : cuX s = (xs, 1 + (varBytes u).length + (shortB (ub t)).length + (varBytes xs.length).length + (flatS xs).length, false) := by
    unfold cuX
    rw [e4, show min xs.length 100 = xs.length by omega]
    exact itemsBy_put (f := itS s) (enc := fun x => shortB (ub x)) (good := fun x => x.size ≤ 60) (fun a x l ha hg hh => itS_put a x l ha hg hh) xs _ [] l4.1 hx l4.2
  have ek : cuKind s = (k : Int) := by
    unfold cuKind
    rw [e1]
    show (((UInt8.ofNat k).toNat : Nat) : Int) = (k : Int)
    rw [UInt8.toNat_ofNat', Nat.mod_eq_of_lt (by omega)]
  unfold readValS
  rw [ek, e1, e2, e3, e5, bs_ub]
  rw [if_pos ⟨rfl, rfl, valTextB_some.2 hok⟩]
theorem readValS_is {s : ByteArray} {d : ValD} (h : readValS s = some d) : IsVal s d := by
  unfold readValS at h
  split at h
  · rename_i hc
    obtain rfl := Option.some.inj h
    exact valTextB_some.1 hc.2.2
  · cases h
theorem readValI_is {s : ByteArray} {d : ValD} (h : readValI s = some d) : IsVal s d := by
  unfold readValI at h
  split at h
  · rename_i hc
    obtain rfl := Option.some.inj h
    obtain ⟨hd, hok⟩ := hc
    refine ⟨hok, ?_⟩
    simp only [rDone, Bool.and_eq_true, Bool.not_eq_true', decide_eq_true_eq] at hd
    obtain ⟨hb5, hend⟩ := hd
    have hle0 : 0 ≤ s.size := Nat.zero_le _
    -- where each read stands
    have a1 : (rdK s).2.1 ≤ s.size := (rByte_le s false hle0).1
    have a2 : (rdU s).2.1 ≤ s.size := (rNum_le s _ _ a1).2.1
    have a3 : (rdT s).2.1 ≤ s.size := (rText_le s _ a2).1
    have a4 : (rdN s).2.1 ≤ s.size := (rNum_le s _ _ a3).2.1
    obtain ⟨b4, hlen, t5⟩ := itemsBy_took (f := itI s) (enc := fun x => shortB (ub x)) (fun a x a' ha hh => itI_took a x a' ha hh) (rdN s).1 (rdN s).2.1 (rdN s).2.2 (rdX s).1 (rdX s).2.1 a4 (Prod.ext rfl (Prod.ext rfl hb5))
    obtain ⟨b3, h4, t4⟩ := rNum_took a3 (n := (rdN s).1) (a' := (rdN s).2.1) (b := (rdT s).2.2) (Prod.ext rfl (Prod.ext rfl b4))
    obtain ⟨b2, h3, t3⟩ := rText_took a2 (x := (rdT s).1) (a' := (rdT s).2.1) (b := (rdU s).2.2) (Prod.ext rfl (Prod.ext rfl b3))
    obtain ⟨b1, h2, t2⟩ := rNum_took a1 (n := (rdU s).1) (a' := (rdU s).2.1) (b := (rdK s).2.2) (Prod.ext rfl (Prod.ext rfl b2))
    obtain ⟨_, h1, t1⟩ := rByte_took (s := s) (a := 0) (n := (rdK s).1) (a' := (rdK s).2.1) (b := false) (Prod.ext rfl (Prod.ext rfl b1))
    have := ((((t1.trans t2).trans t3).trans t4).trans t5).2
    rw [tail_zero, (tail_nil t5.1).2 hend, List.append_nil] at this
    rw [this, valBytes, vHead, hlen, ub_bs, Int.toNat_natCast, Int.toNat_natCast]
    rw [flat_eq]
    simp [List.append_assoc]
  · cases h
theorem readVal_same (s : ByteArray) : readValI s = readValS s := by
  cases h : readValS s with
  | some d => exact readValI_put (readValS_is h)
  | none =>
    cases h2 : readValI s with
    | none => rfl
    | some d => rw [readValS_put (readValI_is h2)] at h; cases h
end Go.Proofs.Ytekhfplbhcfdmaa
