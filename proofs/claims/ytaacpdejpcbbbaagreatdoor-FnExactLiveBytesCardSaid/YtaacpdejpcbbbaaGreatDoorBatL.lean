/- The plain law of ReadBatch: what the program reads and what the reference reads is the batch whose text it is. -/
import Derived.Test.YtaacpdejpcbbbaaGreatDoorRdL
namespace Go.Proofs.YtaacpdejpcbbbaaGreatDoor
set_option linter.unusedVariables false
set_option linter.unusedSimpArgs false
open Go.RowKit

/-- A change: its key, its value, whether it is gone. -/
abbrev ChD := ByteArray × ByteArray × Bool
abbrev BatD := Int × List ChD
def flagB (b : Bool) : UInt8 := if b then 1 else 0
def chBytes (c : ChD) : List UInt8 := shortB (ub c.1) ++ (flagB c.2.2 :: shortB (ub c.2.1))
def chsBytes (cs : List ChD) : List UInt8 := (cs.map chBytes).flatten
def batHead (d : BatD) : List UInt8 := 66 :: (varBytes d.1.toNat ++ varBytes d.2.length)
def batBytes (d : BatD) : List UInt8 := batHead d ++ chsBytes d.2
/-- The change itself is right. -/
def chOkB (c : ChD) : Bool := decide (1 ≤ c.1.size) && decide (c.1.size ≤ 20) && decide (c.2.1.size ≤ 2000) && !(c.2.2 && !decide (c.2.1.size = 0))
/-- The change at i, and its key against the one ahead of it. -/
def chAt (cs : List ChD) (i : Nat) : Bool := match cs[i]? with
  | none => true
  | some c => chOkB c && (match i with
    | 0 => true
    | j + 1 => match cs[j]? with
      | none => true
      | some p => Op.bytesLess p.1.toList c.1.toList)
def batOkB (d : BatD) : Bool := ((List.range d.2.length).all fun i => chAt d.2 i) && decide (0 ≤ d.1 ∧ d.1 ≤ 1000000000) && decide (1 ≤ d.2.length ∧ d.2.length ≤ 40)
def batText (d : BatD) : Option (List UInt8) := if batOkB d = true ∧ (batBytes d).length ≤ 9000 then some (batBytes d) else none
/-- s is the text of d. -/
def IsBat (s : ByteArray) (d : BatD) : Prop := batText d = some (ub s)
theorem isBat_parts {s : ByteArray} {d : BatD} (h : IsBat s d) : batOkB d = true ∧ ub s = batBytes d := by
  unfold IsBat batText at h
  split at h
  · rename_i hc
    exact ⟨hc.1, (Option.some.inj h).symm⟩
  · cases h
theorem batOk_parts {d : BatD} (h : batOkB d = true) : (0 ≤ d.1 ∧ d.1 ≤ 1000000000) ∧ d.2.length ≤ 40 ∧ ∀ c ∈ d.2, c.1.size ≤ 20 ∧ c.2.1.size ≤ 2000 := by
  unfold batOkB at h
  simp only [Bool.and_eq_true, decide_eq_true_eq] at h
  refine ⟨h.1.2, h.2.2, fun c hc => ?_⟩
  obtain ⟨i, hi, e⟩ := List.mem_iff_getElem.1 hc
  have h1 := List.all_eq_true.1 h.1.1 i (List.mem_range.2 hi)
  unfold chAt at h1
  rw [List.getElem?_eq_getElem hi, e] at h1
  simp only [Bool.and_eq_true, chOkB, decide_eq_true_eq] at h1
  exact ⟨h1.1.1.1.2, h1.1.1.2⟩
/-! ### The program's reading -/
def btK (s : ByteArray) (a : Nat) (b : Bool) : List UInt8 × Nat × Bool := rText s a b
def btG (s : ByteArray) (a : Nat) (b : Bool) : Nat × Nat × Bool := rByte s (btK s a b).2.1 (btK s a b).2.2
def btV (s : ByteArray) (a : Nat) (b : Bool) : List UInt8 × Nat × Bool := rText s (btG s a b).2.1 (btG s a b).2.2
def chI (s : ByteArray) (a : Nat) : ChD × Nat × Bool := ((bs (btK s a false).1, bs (btV s a false).1, decide ((btG s a false).1 = 1)), (btV s a false).2)
def biL (s : ByteArray) : Nat × Nat × Bool := rByte s 0 false
def biQ (s : ByteArray) : Nat × Nat × Bool := rNum s (biL s).2.1 (biL s).2.2
def biN (s : ByteArray) : Nat × Nat × Bool := rNum s (biQ s).2.1 (biQ s).2.2
def biX (s : ByteArray) : List ChD × Nat × Bool := itemsBy (chI s) (biN s).1 (biN s).2.1 (biN s).2.2
def biD (s : ByteArray) : BatD := (((biQ s).1 : Int), (biX s).1)
def readBatI (s : ByteArray) : Option BatD := if (biL s).1 = 66 ∧ (biX s).2.2 = false ∧ batText (biD s) = some (ub s) then some (biD s) else none
/-! ### The reference's reading -/
def csK (s : ByteArray) (a : Nat) (b : Bool) : List UInt8 × Nat × Bool := cShort s a b
def csG (s : ByteArray) (a : Nat) (b : Bool) : List UInt8 × Nat × Bool := cTake s (csK s a b).2.1 (csK s a b).2.2 1
def csV (s : ByteArray) (a : Nat) (b : Bool) : List UInt8 × Nat × Bool := cShort s (csG s a b).2.1 (csG s a b).2.2
def chS (s : ByteArray) (a : Nat) : ChD × Nat × Bool := ((bs (csK s a false).1, bs (csV s a false).1, decide ((csG s a false).1 = [1])), (csV s a false).2)
def cbL (s : ByteArray) : List UInt8 × Nat × Bool := cTake s 0 false 1
def cbQ (s : ByteArray) : Nat × Nat × Bool := rNum s (cbL s).2.1 (cbL s).2.2
def cbN (s : ByteArray) : Nat × Nat × Bool := rNum s (cbQ s).2.1 (cbQ s).2.2
def cbX (s : ByteArray) : List ChD × Nat × Bool := itemsBy (chS s) (min (cbN s).1 100) (cbN s).2.1 (cbN s).2.2
def cbD (s : ByteArray) : BatD := (((cbQ s).1 : Int), (cbX s).1)
def readBatS (s : ByteArray) : Option BatD := if (cbX s).2.2 = false ∧ batText (cbD s) = some (ub s) then some (cbD s) else none

theorem chI_put {s : ByteArray} (a : Nat) (c : ChD) (l : List UInt8) (_ : a ≤ s.size) (hc : c.1.size ≤ 20 ∧ c.2.1.size ≤ 2000) (h : tail_ s a = chBytes c ++ l) : chI s a = (c, a + (chBytes c).length, false) := by
  obtain ⟨k, v, g⟩ := c
  dsimp only at hc
  have h0 : tail_ s a = shortB (ub k) ++ (flagB g :: (shortB (ub v) ++ l)) := by rw [h]; simp [chBytes]
  have e1 : btK s a false = (ub k, a + (shortB (ub k)).length, false) := rText_put (by rw [ub_length]; have := hc.1; omega) h0
  have l1 := tail_le ‹_› h0
  have e2 : btG s a false = ((flagB g).toNat, a + (shortB (ub k)).length + 1, false) := by
    unfold btG
    rw [e1]
    exact rByte_put l1.2
  have l2 := tail_le l1.1 (p := [flagB g]) l1.2
  have e3 : btV s a false = (ub v, a + (shortB (ub k)).length + 1 + (shortB (ub v)).length, false) := by
    unfold btV
    rw [e2]
    exact rText_put (by rw [ub_length]; have := hc.2; omega) l2.2
  have eg : decide ((flagB g).toNat = 1) = g := by cases g <;> rfl
  unfold chI
  rw [e1, e2, e3, bs_ub, bs_ub, eg]
  simp [chBytes]
  omega
theorem chS_put {s : ByteArray} (a : Nat) (c : ChD) (l : List UInt8) (ha : a ≤ s.size) (hc : c.1.size ≤ 20 ∧ c.2.1.size ≤ 2000) (h : tail_ s a = chBytes c ++ l) : chS s a = (c, a + (chBytes c).length, false) := by
  obtain ⟨k, v, g⟩ := c
  dsimp only at hc
  have h0 : tail_ s a = shortB (ub k) ++ (flagB g :: (shortB (ub v) ++ l)) := by rw [h]; simp [chBytes]
  have e1 : csK s a false = (ub k, a + (shortB (ub k)).length, false) := cShort_put ha (by rw [ub_length]; have := hc.1; omega) h0
  have l1 := tail_le ‹_› h0
  have e2 : csG s a false = ([flagB g], a + (shortB (ub k)).length + 1, false) := by
    unfold csG
    rw [e1]
    exact cTake_put (x := [flagB g]) l1.1 l1.2
  have l2 := tail_le l1.1 (p := [flagB g]) l1.2
  have e3 : csV s a false = (ub v, a + (shortB (ub k)).length + 1 + (shortB (ub v)).length, false) := by
    unfold csV
    rw [e2]
    exact cShort_put l2.1 (by rw [ub_length]; have := hc.2; omega) l2.2
  have eg : decide ([flagB g] = [1]) = g := by cases g <;> rfl
  unfold chS
  rw [e1, e2, e3, bs_ub, bs_ub, eg]
  simp [chBytes]
  omega
theorem readBatI_put {s : ByteArray} {d : BatD} (h : IsBat s d) : readBatI s = some d := by
  obtain ⟨hok, hs⟩ := isBat_parts h
  obtain ⟨hq, hn, hx⟩ := batOk_parts hok
  obtain ⟨q, cs⟩ := d
  obtain ⟨u, rfl⟩ := Int.eq_ofNat_of_zero_le hq.1
  dsimp only at hn hx hq
  have h0 : tail_ s 0 = 66 :: (varBytes u ++ (varBytes cs.length ++ (chsBytes cs ++ []))) := by rw [tail_zero, hs]; simp [batBytes, batHead]
  have e1 : biL s = (66, 1, false) := rByte_put h0
  have l1 := tail_le (Nat.zero_le _) (p := [66]) h0
  rw [List.length_singleton, Nat.zero_add] at l1
  have e2 : biQ s = (u, 1 + (varBytes u).length, false) := by
    unfold biQ
    rw [e1]
    exact rNum_put (by omega) l1.2
  have l2 := tail_le l1.1 l1.2
  have e3 : biN s = (cs.length, 1 + (varBytes u).length + (varBytes cs.length).length, false) := by
    unfold biN
    rw [e2]
    exact rNum_put (by omega) l2.2
  have l3 := tail_le l2.1 l2.2
  have e4 : biX s = (cs, 1 + (varBytes u).length + (varBytes cs.length).length + (chsBytes cs).length, false) := by
    unfold biX
    rw [e3]
    exact itemsBy_put (f := chI s) (enc := chBytes) (good := fun c => c.1.size ≤ 20 ∧ c.2.1.size ≤ 2000) (fun a x l ha hg hh => chI_put a x l ha hg hh) cs _ [] l3.1 hx l3.2
  have eD : biD s = ((u : Int), cs) := by unfold biD; rw [e2, e4]
  unfold readBatI
  rw [eD, e1, e4, if_pos ⟨rfl, rfl, h⟩]
theorem readBatS_put {s : ByteArray} {d : BatD} (h : IsBat s d) : readBatS s = some d := by
  obtain ⟨hok, hs⟩ := isBat_parts h
  obtain ⟨hq, hn, hx⟩ := batOk_parts hok
  obtain ⟨q, cs⟩ := d
  obtain ⟨u, rfl⟩ := Int.eq_ofNat_of_zero_le hq.1
  dsimp only at hn hx hq
  have h0 : tail_ s 0 = 66 :: (varBytes u ++ (varBytes cs.length ++ (chsBytes cs ++ []))) := by rw [tail_zero, hs]; simp [batBytes, batHead]
  have e1 : cbL s = ([66], 1, false) := cTake_put (x := [66]) (Nat.zero_le _) h0
  have l1 := tail_le (Nat.zero_le _) (p := [66]) h0
  rw [List.length_singleton, Nat.zero_add] at l1
  have e2 : cbQ s = (u, 1 + (varBytes u).length, false) := by
    unfold cbQ
    rw [e1]
    exact rNum_put (by omega) l1.2
  have l2 := tail_le l1.1 l1.2
  have e3 : cbN s = (cs.length, 1 + (varBytes u).length + (varBytes cs.length).length, false) := by
    unfold cbN
    rw [e2]
    exact rNum_put (by omega) l2.2
  have l3 := tail_le l2.1 l2.2
  have e4 : cbX s = (cs, 1 + (varBytes u).length + (varBytes cs.length).length + (chsBytes cs).length, false) := by
    unfold cbX
    rw [e3, show min cs.length 100 = cs.length by omega]
    exact itemsBy_put (f := chS s) (enc := chBytes) (good := fun c => c.1.size ≤ 20 ∧ c.2.1.size ≤ 2000) (fun a x l ha hg hh => chS_put a x l ha hg hh) cs _ [] l3.1 hx l3.2
  have eD : cbD s = ((u : Int), cs) := by unfold cbD; rw [e2, e4]
  unfold readBatS
  rw [eD, e4, if_pos ⟨rfl, h⟩]
theorem readBatI_is {s : ByteArray} {d : BatD} (h : readBatI s = some d) : IsBat s d := by
  unfold readBatI at h
  split at h
  · rename_i hc
    obtain rfl := Option.some.inj h
    exact hc.2.2
  · cases h
theorem readBatS_is {s : ByteArray} {d : BatD} (h : readBatS s = some d) : IsBat s d := by
  unfold readBatS at h
  split at h
  · rename_i hc
    obtain rfl := Option.some.inj h
    exact hc.2
  · cases h
theorem readBat_same (s : ByteArray) : readBatI s = readBatS s := by
  cases h : readBatS s with
  | some d => exact readBatI_put (readBatS_is h)
  | none =>
    cases h2 : readBatI s with
    | none => rfl
    | some d => rw [readBatS_put (readBatI_is h2)] at h; cases h
end Go.Proofs.YtaacpdejpcbbbaaGreatDoor
