/- Decimal numbers as texts, read back (the plain law): riOf tells the number of at most 10^9 either side that a text is the numeral of; decOf, of those from 0 on. strconv.Atoi's three contracts off the shelf, laid at this seat's translation. ReadInt, ReadDecimal: the program's (strconv.Atoi and back) and the reference's (figure by figure, and back) both tell riOf and decOf. ReadDecimal of the program. The library's table of powers of ten, out of what the rows lay. What the laid facts of a row give the walks: strconv's powers of ten (Pow) and sentinels (Sent). -/
import Derived.Test.YtaacpdejpcbbbaaGreatDoorDigs
import Derived.Lib.AtoiAll
import Derived.Lib.ItoaMem
import Derived.Shelf.Strconv.AtoiAll
import Derived.Shelf.Lay
import Derived.Ground.NamesProg
import Derived.Test.YtaacpdejpcbbbaaGreatDoorProg
import Derived.WalkKit
import Derived.BigCall
import Derived.Test.YtaacpdejpcbbbaaGreatDoorNum
import Derived.Test.YtaacpdejpcbbbaaGreatDoorIn
import Derived.Deep.RegionHeld3
import Derived.Test.YtaacpdejpcbbbaaGreatDoorRows
import Derived.LaidMore
import Derived.Stop.Joined
import Derived.Stop.LaidErr
import Derived.ProofKit
import Derived.MakeChecks
namespace Go.Proofs.YtaacpdejpcbbbaaGreatDoor
set_option linter.unusedVariables false
set_option linter.unusedSimpArgs false
open Go.RowKit

def isDig (c : UInt8) : Prop := 48 ≤ c.toNat ∧ c.toNat ≤ 57
def decVal (acc : Nat) (l : List UInt8) : Nat := l.foldl (fun a c => a * 10 + (c.toNat - 48)) acc
theorem decVal_snoc (acc : Nat) (l : List UInt8) (c : UInt8) : decVal acc (l ++ [c]) = decVal acc l * 10 + (c.toNat - 48) := by simp [decVal]
theorem decVal_ge : ∀ (l : List UInt8) (acc : Nat), acc ≤ decVal acc l
  | [], _ => Nat.le_refl _
  | c :: l, acc => Nat.le_trans (by omega) (decVal_ge l (acc * 10 + (c.toNat - 48)))
theorem parse_digs : ∀ (l : List UInt8) (acc : Nat), (∀ c ∈ l, isDig c) → decVal acc l ≤ 1000000000000000000 → Lib.parseUint10 acc l = .ok (decVal acc l)
  | [], _, _, _ => rfl
  | c :: l, acc, h, hb => by
    have hc : isDig c := h c (by simp)
    have e : decVal acc (c :: l) = decVal (acc * 10 + (c.toNat - 48)) l := rfl
    have := decVal_ge l (acc * 10 + (c.toNat - 48))
    rw [e] at hb ⊢
    rw [Lib.parseUint10, if_pos ⟨hc.1, hc.2⟩, if_neg (by omega), if_neg (by omega)]
    exact parse_digs l _ (fun d hd => h d (by simp [hd])) hb
theorem decDigits_digs (u : Nat) : (∀ c ∈ Lib.decDigits u, isDig c) ∧ decVal 0 (Lib.decDigits u) = u ∧ Lib.decDigits u ≠ [] := by
  induction u using Nat.strongRecOn with
  | _ u ih =>
    rw [Lib.decDigits]
    by_cases h : u < 10
    · rw [dif_pos h]
      refine ⟨fun c hc => ?_, ?_, by simp⟩
      · obtain rfl := List.mem_singleton.1 hc
        unfold isDig
        rw [UInt8.toNat_ofNat']
        omega
      · simp only [decVal, List.foldl_cons, List.foldl_nil, UInt8.toNat_ofNat']
        omega
    · rw [dif_neg h]
      obtain ⟨h1, h2, _⟩ := ih (u / 10) (by omega)
      refine ⟨fun c hc => ?_, ?_, by simp⟩
      · rcases List.mem_append.1 hc with hc | hc
        · exact h1 c hc
        · obtain rfl := List.mem_singleton.1 hc
          unfold isDig
          rw [UInt8.toNat_ofNat']
          omega
      · rw [decVal_snoc, h2, UInt8.toNat_ofNat']
        omega
theorem itoa_nat (u : Nat) : Lib.itoa (u : Int) = Lib.decDigits u := Lib.itoa_nonneg u
theorem atoi_itoa_nat (u : Nat) (h : u ≤ 1000000000000000000) : Lib.atoiAll (Lib.itoa (u : Int)) = .ok (u : Int) := by
  rw [itoa_nat]
  obtain ⟨h1, h2, h3⟩ := decDigits_digs u
  match hl : Lib.decDigits u with
  | [] => exact (h3 hl).elim
  | c :: r =>
    rw [hl] at h1 h2
    have hc : isDig c := h1 c (by simp)
    have n1 : ¬ (c.toNat = 43 ∨ c.toNat = 45) := by have := hc.1; omega
    have n2 : ¬ c.toNat = 45 := by have := hc.1; omega
    have hp : Lib.parseMag (c :: r) = .ok u := by rw [Lib.parseMag, if_neg (by simp), parse_digs _ 0 h1 (by rw [h2]; exact h), h2]
    have e : (if c.toNat = 43 ∨ c.toNat = 45 then r else c :: r) = c :: r := if_neg n1
    unfold Lib.atoiAll
    dsimp only
    rw [e, hp]
    dsimp only
    rw [if_neg (by omega), if_neg (by omega), if_neg n2]
theorem atoi_itoa_neg (u : Nat) (h0 : 1 ≤ u) (h : u ≤ 1000000000000000000) : Lib.atoiAll (Lib.itoa (-(u : Int))) = .ok (-(u : Int)) := by
  rw [Lib.itoa_neg u h0]
  obtain ⟨h1, h2, h3⟩ := decDigits_digs u
  have hp : Lib.parseMag (Lib.decDigits u) = .ok u := by rw [Lib.parseMag, if_neg h3, parse_digs _ 0 h1 (by rw [h2]; exact h), h2]
  have n1 : (45 : UInt8).toNat = 45 := rfl
  unfold Lib.atoiAll
  dsimp only
  rw [if_pos (show (45 : UInt8).toNat = 43 ∨ (45 : UInt8).toNat = 45 from .inr rfl), hp]
  dsimp only
  rw [if_neg (by omega), if_neg (by omega), if_pos n1]
theorem atoi_itoa (n : Int) (h : -1000000000000000000 ≤ n ∧ n ≤ 1000000000000000000) : Lib.atoiAll (Lib.itoa n) = .ok n := by
  by_cases h0 : 0 ≤ n
  · obtain ⟨u, rfl⟩ := Int.eq_ofNat_of_zero_le h0
    exact atoi_itoa_nat u (by omega)
  · obtain ⟨u, rfl⟩ : ∃ u : Nat, n = -(u : Int) := ⟨n.natAbs, by omega⟩
    exact atoi_itoa_neg u (by omega) (by omega)
/-- The number that the text is the numeral of, at most 10^9 either side. -/
def riOf (l : List UInt8) : Option Int := match Lib.atoiAll l with
  | .ok v => if (-1000000000 ≤ v ∧ v ≤ 1000000000) ∧ Lib.itoa v = l then some v else none
  | _ => none
theorem riOf_some {l : List UInt8} {n : Int} (hb : -1000000000 ≤ n ∧ n ≤ 1000000000) (h : Lib.itoa n = l) : riOf l = some n := by
  unfold riOf
  rw [← h, atoi_itoa n ⟨by omega, by omega⟩]
  dsimp only
  rw [if_pos ⟨hb, rfl⟩]
theorem riOf_spec {l : List UInt8} {n : Int} (h : riOf l = some n) : (-1000000000 ≤ n ∧ n ≤ 1000000000) ∧ Lib.itoa n = l := by
  unfold riOf at h
  split at h
  · split at h
    · obtain rfl := Option.some.inj h
      assumption
    · cases h
  · cases h
theorem riOf_none {l : List UInt8} (h : ∀ n : Int, (-1000000000 ≤ n ∧ n ≤ 1000000000) → Lib.itoa n = l → False) : riOf l = none := by
  match hr : riOf l with
  | none => rfl
  | some n => exact (h n (riOf_spec hr).1 (riOf_spec hr).2).elim
theorem riOf_itoa (n : Int) (hb : -1000000000 ≤ n ∧ n ≤ 1000000000) : riOf (Lib.itoa n) = some n := riOf_some hb rfl
/-- .. from 0 on. -/
def decOf (l : List UInt8) : Option Nat := match riOf l with
  | some n => if 0 ≤ n then some n.toNat else none
  | none => none
theorem decOf_some {l : List UInt8} {n : Nat} (hb : n ≤ 1000000000) (h : Lib.itoa (n : Int) = l) : decOf l = some n := by
  unfold decOf
  rw [riOf_some ⟨by omega, by omega⟩ h]
  dsimp only
  rw [if_pos (by omega)]
  simp
theorem decOf_spec {l : List UInt8} {n : Nat} (h : decOf l = some n) : n ≤ 1000000000 ∧ Lib.itoa (n : Int) = l := by
  unfold decOf at h
  split at h
  · rename_i v hv
    have hs := riOf_spec hv
    split at h
    · obtain rfl := Option.some.inj h
      rw [Int.toNat_of_nonneg (by assumption)]
      exact ⟨by omega, hs.2⟩
    · cases h
  · cases h
theorem decOf_none {l : List UInt8} (h : ∀ n : Nat, n ≤ 1000000000 → Lib.itoa (n : Int) = l → False) : decOf l = none := by
  match hr : decOf l with
  | none => rfl
  | some n => exact (h n (decOf_spec hr).1 (decOf_spec hr).2).elim
theorem decOf_long {l : List UInt8} (h : 10 < l.length) : decOf l = none := decOf_none fun n hb e => by
  have h1 := digs_length 10 n (by omega)
  unfold digs at h1
  rw [itoa_nat] at e
  rw [← e] at h
  by_cases h0 : n = 0
  · subst h0
    rw [Lib.decDigits, dif_pos (by omega)] at h
    simp at h
  · rw [if_neg h0] at h1
    omega
theorem decOf_odd {l : List UInt8} {i : Nat} {c : UInt8} (hc : l[i]? = some c) (h : ¬ isDig c) : decOf l = none := decOf_none fun n hb e => by
  rw [itoa_nat] at e
  exact h ((decDigits_digs n).1 c (by rw [e]; exact List.mem_of_getElem? hc))
theorem decVal_itoa {l : List UInt8} {n : Nat} (e : Lib.itoa (n : Int) = l) : decVal 0 l = n := by
  rw [itoa_nat] at e
  rw [← e]
  exact (decDigits_digs n).2.1
theorem decOf_big {l : List UInt8} (h : 1000000000 < decVal 0 l) : decOf l = none := decOf_none fun n hb e => by
  have := decVal_itoa e
  omega
theorem decOf_ne {l : List UInt8} (h : Lib.itoa ((decVal 0 l : Nat) : Int) ≠ l) : decOf l = none := decOf_none fun n hb e => by
  apply h
  rw [decVal_itoa e]
  exact e
theorem riOf_head {l : List UInt8} (h : l[0]? ≠ some 45) : riOf l = (decOf l).map fun n => (n : Int) := by
  match hr : riOf l with
  | none => simp [decOf, hr]
  | some n =>
    obtain ⟨hb, he⟩ := riOf_spec hr
    by_cases h0 : 0 ≤ n
    · obtain ⟨u, rfl⟩ := Int.eq_ofNat_of_zero_le h0
      rw [decOf_some (by omega) he]
      rfl
    · obtain ⟨u, rfl⟩ : ∃ u : Nat, n = -(u : Int) := ⟨n.natAbs, by omega⟩
      rw [Lib.itoa_neg u (by omega)] at he
      exact (h (by rw [← he]; rfl)).elim
theorem riOf_minus (r : List UInt8) : riOf (45 :: r) = match decOf r with | some n => if n = 0 then none else some (-(n : Int)) | none => none := by
  match hr : decOf r with
  | some n =>
    obtain ⟨hb, he⟩ := decOf_spec hr
    dsimp only
    by_cases h0 : n = 0
    · rw [if_pos h0]
      refine riOf_none fun m hm e => ?_
      by_cases h1 : 0 ≤ m
      · obtain ⟨u, rfl⟩ := Int.eq_ofNat_of_zero_le h1
        rw [itoa_nat] at e
        have := (decDigits_digs u).1 45 (by rw [e]; simp)
        have := this.1
        simp at this
      · obtain ⟨u, rfl⟩ : ∃ u : Nat, m = -(u : Int) := ⟨m.natAbs, by omega⟩
        rw [Lib.itoa_neg u (by omega)] at e
        have e2 : Lib.itoa (u : Int) = r := by rw [itoa_nat]; exact (List.cons.inj e).2
        have h2 := decVal_itoa e2
        have h3 := decVal_itoa he
        omega
    · rw [if_neg h0]
      refine riOf_some ⟨by omega, by omega⟩ ?_
      rw [Lib.itoa_neg n (by omega), ← itoa_nat, he]
  | none =>
    refine riOf_none fun m hm e => ?_
    by_cases h1 : 0 ≤ m
    · obtain ⟨u, rfl⟩ := Int.eq_ofNat_of_zero_le h1
      rw [itoa_nat] at e
      have := (decDigits_digs u).1 45 (by rw [e]; simp)
      have := this.1
      simp at this
    · obtain ⟨u, rfl⟩ : ∃ u : Nat, m = -(u : Int) := ⟨m.natAbs, by omega⟩
      rw [Lib.itoa_neg u (by omega)] at e
      have e2 : Lib.itoa (u : Int) = r := by rw [itoa_nat]; exact (List.cons.inj e).2
      rw [decOf_some (by omega) e2] at hr
      cases hr
end Go.Proofs.YtaacpdejpcbbbaaGreatDoor

namespace Go.Proofs
open Go.Shelf Go.RowKit
shelf_lay LaysC.n172 Nm 172 at Tryz as Tryz.laysAtoi
theorem Tryz.atoi_ok (s : ByteArray) (hmax : s.size ≤ 9223372036854775806) (v : Int) (h : Lib.atoiAll s.data.toList = .ok v) (w : World) :
    Calls Tryz.prog 158 #[.string s] w fun e w' => e = .returned (.tuple #[.int .i64 v, .nilIface]) ∧ (w' = w ∨ ∃ t, w' = Lib.bytesWorld w 5 t) := Any.strconv_Atoi_ok Tryz.laysAtoi s hmax v h w
theorem Tryz.atoi_bad (s : ByteArray) (hlim : s.size ≤ 281474976710656) (h1 : ∀ v, Lib.atoiAll s.data.toList ≠ .ok v) (h2 : Lib.atoiAll s.data.toList ≠ .range) (ev : Value) (w : World) (hv : w.cell? ⟨0, 0, none⟩ = some ev) (hev : ev = .nilIface ∨ ∃ te pe, ev = .iface te pe) :
    Calls Tryz.prog 158 #[.string s] w fun e w' => ∃ N, e = .returned (.tuple #[.int .i64 (0), .iface 222 (.pointer (some ⟨N, 0, none⟩))]) ∧ w.heap.size ≤ N ∧ w'.heap[N]? = some (.cells #[.string ⟨#[65, 116, 111, 105]⟩, .string s, ev] 237 (0, 0)) ∧ Below w.heap.size w w' := by
  cases hh : Lib.atoiAll s.data.toList
  · exact absurd hh (h1 _)
  · exact Any.strconv_Atoi_syntax Tryz.laysAtoi s hlim hh ev w hv hev
  · exact absurd hh h2
theorem Tryz.atoi_range (s : ByteArray) (hlim : s.size ≤ 281474976710656) (h : Lib.atoiAll s.data.toList = .range) (ev : Value) (w : World) (hv : w.cell? ⟨1, 0, none⟩ = some ev) (hev : ev = .nilIface ∨ ∃ te pe, ev = .iface te pe) :
    Calls Tryz.prog 158 #[.string s] w fun e w' => ∃ N, e = .returned (.tuple #[.int .i64 (Lib.atoiSat s.data.toList), .iface 222 (.pointer (some ⟨N, 0, none⟩))]) ∧ w.heap.size ≤ N ∧ w'.heap[N]? = some (.cells #[.string ⟨#[65, 116, 111, 105]⟩, .string s, ev] 237 (0, 0)) ∧ Below w.heap.size w w' := Any.strconv_Atoi_range Tryz.laysAtoi s hlim h ev w hv hev
end Go.Proofs

namespace Go.Proofs.YtaacpdejpcbbbaaGreatDoor
set_option linter.unusedVariables false
set_option linter.unusedSimpArgs false
open Go.RowKit
attribute [local go_sem] bs_size List.length_cons List.length_nil List.length_append

/-- strconv's two sentinels hold interface values. -/
structure Sent (w : World) : Prop where
  syn : ∃ ev, w.cell? ⟨0, 0, none⟩ = some ev ∧ (ev = .nilIface ∨ ∃ te pe, ev = .iface te pe)
  ran : ∃ ev, w.cell? ⟨1, 0, none⟩ = some ev ∧ (ev = .nilIface ∨ ∃ te pe, ev = .iface te pe)
  big : 0 < w.heap.size ∧ 1 < w.heap.size
theorem Sent.below {w w' : World} {B : Nat} (h : Sent w) (hb : Below B w w') (h1 : 0 < B ∧ 1 < B) : Sent w' := by
  obtain ⟨⟨e1, c1, d1⟩, ⟨e2, c2, d2⟩, hz⟩ := h
  exact ⟨⟨e1, (hb.cell h1.1).trans c1, d1⟩, ⟨e2, (hb.cell h1.2).trans c2, d2⟩, Nat.lt_of_lt_of_le hz.1 hb.size, Nat.lt_of_lt_of_le hz.2 hb.size⟩
def riRes (o : Option Int) : Value := match o with
  | some n => .tuple #[.int .i64 n, .bool true]
  | none => .tuple #[.int .i64 0, .bool false]
theorem ret_ri {o o' : Option Int} (h : o = o') : Ending.returned (riRes o') = Ending.returned (riRes o) := by rw [h]
theorem atoi_bound {l : List UInt8} {v : Int} (h : Lib.atoiAll l = .ok v) : -9223372036854775808 ≤ v ∧ v ≤ 9223372036854775807 := by
  unfold Lib.atoiAll at h
  split at h
  · cases h
  · dsimp only at h
    split at h
    · cases h
    · cases h
    · rename_i u hu
      split at h
      · cases h
      · split at h
        · cases h
        · injection h with h
          split at h <;> omega
/-! ### The reference -/
def rdRes (o : Option Nat) : Value := match o with
  | some n => .tuple #[.int .i64 (n : Int), .bool true]
  | none => .tuple #[.int .i64 0, .bool false]
theorem ret_rd {o o' : Option Nat} (h : o = o') : Ending.returned (rdRes o') = Ending.returned (rdRes o) := by rw [h]
def RdRel (s : ByteArray) (i n : Nat) : Prop := n = decVal 0 ((ub s).take i) ∧ ∀ c ∈ (ub s).take i, isDig c
theorem ub_byte {s : ByteArray} {i : Nat} (h : i < s.size) : ∃ d : Nat, d < 256 ∧ s[i].toNat = d ∧ (ub s)[i]? = some (UInt8.ofNat d) ∧ (UInt8.ofNat d).toNat = d := by
  obtain ⟨d, h1, h2, h3, h4⟩ := tail_byte (s := s) (a := 0) (i := i) (by omega)
  refine ⟨d, h1, ?_, by simpa [tail_] using h3, h4⟩
  simpa using h2
theorem rdRel_step {s : ByteArray} {i n d : Nat} (h : RdRel s i n) (hc : (ub s)[i]? = some (UInt8.ofNat d)) (hd : (UInt8.ofNat d).toNat = d) (h1 : 48 ≤ d) (h2 : d ≤ 57) : RdRel s (i + 1) (n * 10 + (d - 48)) := by
  have e : (ub s).take (i + 1) = (ub s).take i ++ [UInt8.ofNat d] := by
    obtain ⟨hk, e⟩ := List.getElem?_eq_some_iff.1 hc
    rw [← e]
    exact List.take_succ_eq_append_getElem hk
  refine ⟨by rw [e, decVal_snoc, hd, h.1], fun c hc => ?_⟩
  rw [e] at hc
  rcases List.mem_append.1 hc with hc | hc
  · exact h.2 c hc
  · obtain rfl := List.mem_singleton.1 hc
    unfold isDig
    omega
theorem rdRel_lt {s : ByteArray} {i n : Nat} (h : RdRel s i n) (hi : i ≤ 10) : n < 10000000000 := by
  have key : ∀ (l : List UInt8) (acc : Nat), (∀ c ∈ l, isDig c) → decVal acc l < (acc + 1) * 10 ^ l.length := by
    intro l
    induction l with
    | nil => intro acc _; simp [decVal]
    | cons c l ih =>
      intro acc hd
      have h1 := ih (acc * 10 + (c.toNat - 48)) fun x hx => hd x (by simp [hx])
      have h2 := hd c (by simp)
      have h3 : acc * 10 + (c.toNat - 48) + 1 ≤ (acc + 1) * 10 := by have := h2.1; have := h2.2; omega
      have h4 := Nat.mul_le_mul_right (10 ^ l.length) h3
      rw [List.length_cons, Nat.pow_succ, Nat.mul_comm (10 ^ l.length) 10, ← Nat.mul_assoc]
      exact Nat.lt_of_lt_of_le h1 h4
  have h1 := key _ 0 h.2
  have h2 : ((ub s).take i).length ≤ 10 := by rw [List.length_take]; omega
  have h3 := Nat.pow_le_pow_right (n := 10) (by omega) h2
  rw [h.1]
  omega
theorem rdRel_end {s : ByteArray} {n : Nat} (h : RdRel s s.size n) : n = decVal 0 (ub s) := by
  have := h.1
  rwa [List.take_of_length_le (by rw [ub_length]; exact Nat.le_refl _)] at this
set_option maxRecDepth 100000 in
theorem spec_ReadDecimal_calls (s : ByteArray) (w : World) (hs : s.size ≤ 140737488351232) :
    Calls Tryz.prog 146 #[.string s] w fun e w' => e = .returned (rdRes (decOf (ub s))) ∧ Below w.heap.size w w' := by
  by_cases hL : 10 < s.size
  · have HR : Hid (decOf (ub s) = none) := decOf_long (by rw [ub_length]; exact hL)
    go_enter Tryz.func146, Tryz.ntmps146
    go_wp2
    go_ret2
    exact ⟨ret_rd HR.out, Below.refl _ _⟩
  · go_enter Tryz.func146, Tryz.ntmps146
    go_wp2
    go_loopw [4, 5] (fun nv iv wr => ∃ i n : Nat, i ≤ s.size ∧ iv = .int .i64 (i : Int) ∧ nv = .int .i64 (n : Int) ∧ RdRel s i n ∧ Below w.heap.size w wr) (fun _ iv _ => s.size - (intOf iv).toNat)
    case atStart => exact ⟨0, 0, Nat.zero_le _, rfl, rfl, ⟨rfl, by simp⟩, Below.refl _ _⟩
    case round =>
      obtain ⟨i, n, hi, rfl, rfl, hrel, hbel⟩ := hrel
      have hn := rdRel_lt hrel (by omega)
      have HT := Lib.hid hrel
      have HB := Lib.hid hbel
      clear hrel hbel
      by_cases hlt : i < s.size
      · obtain ⟨d, hd, hsd, hc, hcd⟩ := ub_byte hlt
        have HC := Lib.hid hc
        have HCD := Lib.hid hcd
        clear hc hcd
        by_cases h1 : d < 48
        · have HR : Hid (decOf (ub s) = none) := decOf_odd HC.out (by unfold isDig; rw [HCD.out]; omega)
          go_wp2
          go_ret2
          exact ⟨ret_rd HR.out, HB.out⟩
        · by_cases h2 : 57 < d
          · have HR : Hid (decOf (ub s) = none) := decOf_odd HC.out (by unfold isDig; rw [HCD.out]; omega)
            go_wp2
            go_ret2
            exact ⟨ret_rd HR.out, HB.out⟩
          · go_wp2
            go_roundw
            case rel => exact ⟨i + 1, n * 10 + (d - 48), by omega, by go_num, by go_num, rdRel_step HT.out HC.out HCD.out (by omega) (by omega), HB.out⟩
            case measure => simp [intOf]; omega
      · obtain rfl : i = s.size := by omega
        have HN := Lib.hid (rdRel_end HT.out)
        by_cases hm : n ≤ 1000000000
        · by_cases he : Lib.itoa (n : Int) = ub s
          · have HR : Hid (decOf (ub s) = some n) := decOf_some hm he
            have HX : Hid (bs (Lib.itoa (n : Int)) = s) := by rw [Hid, he, bs_ub]
            clear he
            go_wp2_with fail
            go_at_call 113
            refine (spec_Decimal_calls _ _ (by omega) (by omega)).mono ?_
            rw [HX.out]
            rintro e w2 ⟨rfl, hb2⟩
            have HB2 := Lib.hid (HB.out.trans (hb2.mono HB.out.size))
            clear hb2
            go_wp2
            go_ret2
            exact ⟨ret_rd HR.out, HB2.out⟩
          · have HR : Hid (decOf (ub s) = none) := decOf_ne (by rw [← HN.out]; exact he)
            obtain ⟨X, HX⟩ : ∃ X, Hid (bs (Lib.itoa (n : Int)) = X) := ⟨_, rfl⟩
            have hq : (X.toList == s.toList) = false := beq_eq_false_iff_ne.mpr fun z => he (by
              have := toList_inj.mp z
              rw [← HX.out] at this
              rw [← this, ub_bs])
            clear he
            go_wp2_with fail
            go_at_call 113
            refine (spec_Decimal_calls _ _ (by omega) (by omega)).mono ?_
            rw [HX.out]
            rintro e w2 ⟨rfl, hb2⟩
            have HB2 := Lib.hid (HB.out.trans (hb2.mono HB.out.size))
            clear hb2
            go_wp2
            go_ret2
            exact ⟨ret_rd HR.out, HB2.out⟩
        · have HR : Hid (decOf (ub s) = none) := decOf_big (by rw [← HN.out]; omega)
          go_wp2
          go_ret2
          exact ⟨ret_rd HR.out, HB.out⟩
end Go.Proofs.YtaacpdejpcbbbaaGreatDoor

namespace Go.Proofs.YtaacpdejpcbbbaaGreatDoor
set_option linter.unusedVariables false
set_option linter.unusedSimpArgs false
open Go.RowKit
attribute [local go_sem] bs_size List.length_cons List.length_nil List.length_append

set_option maxRecDepth 100000 in
theorem impl_ReadDecimal_calls (s : ByteArray) (w : World) (hs : s.size ≤ 140737488351232) (hP : Pow w) (hE : Sent w) :
    Calls Tryz.prog 125 #[.string s] w fun e w' => e = .returned (rdRes (decOf (ub s))) ∧ Below w.heap.size w w' := by
  have HP := Lib.hid hP
  have HG := Lib.hid hE
  clear hP hE
  cases ha : Lib.atoiAll s.data.toList
  · rename_i v
    have hv := atoi_bound ha
    have HA := Lib.hid ha
    clear ha
    by_cases he : Lib.itoa v = ub s
    · have HX : Hid (bs (Lib.itoa v) = s) := by rw [Hid, he, bs_ub]
      by_cases hb : 0 ≤ v ∧ v ≤ 1000000000
      · obtain ⟨u, hu⟩ := Int.eq_ofNat_of_zero_le hb.1
        have HR : Hid (decOf (ub s) = some u) := decOf_some (by omega) (by rw [← hu]; exact he)
        have HU := Lib.hid hu
        clear hu
        have HI := Lib.hid (inR_true hb)
        clear he
        go_enter Tryz.func125, Tryz.ntmps125
        go_wp2_with fail
        go_at_call 158
        refine (Tryz.atoi_ok s (by omega) v HA.out _).mono ?_
        rintro e w' ⟨rfl, hw⟩
        have HB : Hid (Below w.heap.size w w') := by
          rcases hw with rfl | ⟨t, rfl⟩
          · exact Below.refl _ _
          · exact Lib.bytesWorld_below _ _ _
        clear hw
        go_wp2_with fail
        go_at_call 89
        refine (impl_Decimal_calls _ _ (by omega) (by omega) (HP.out.below HB.out)).mono ?_
        rw [HX.out]
        rintro e w2 ⟨rfl, hb2⟩
        have HB2 := Lib.hid (HB.out.trans (hb2.mono HB.out.size))
        clear hb2
        go_wp2_with (go_at_call 57; refine (impl_within_calls _ _ _ _).mono ?_; rw [HI.out]; rintro e w' ⟨rfl, rfl⟩)
        go_ret2
        exact ⟨by rw [HR.out, HU.out]; rfl, HB2.out⟩
      · have HR : Hid (decOf (ub s) = none) := decOf_none fun n hn e => hb (by
          have := atoi_itoa (n : Int) ⟨by omega, by omega⟩
          rw [e, show ub s = s.data.toList from rfl, HA.out] at this
          injection this with this
          omega)
        have HI := Lib.hid (inR_false hb)
        clear he
        go_enter Tryz.func125, Tryz.ntmps125
        go_wp2_with fail
        go_at_call 158
        refine (Tryz.atoi_ok s (by omega) v HA.out _).mono ?_
        rintro e w' ⟨rfl, hw⟩
        have HB : Hid (Below w.heap.size w w') := by
          rcases hw with rfl | ⟨t, rfl⟩
          · exact Below.refl _ _
          · exact Lib.bytesWorld_below _ _ _
        clear hw
        go_wp2_with fail
        go_at_call 89
        refine (impl_Decimal_calls _ _ (by omega) (by omega) (HP.out.below HB.out)).mono ?_
        rw [HX.out]
        rintro e w2 ⟨rfl, hb2⟩
        have HB2 := Lib.hid (HB.out.trans (hb2.mono HB.out.size))
        clear hb2
        go_wp2_with (go_at_call 57; refine (impl_within_calls _ _ _ _).mono ?_; rw [HI.out]; rintro e w' ⟨rfl, rfl⟩)
        go_ret2
        exact ⟨ret_rd HR.out, HB2.out⟩
    · have HR : Hid (decOf (ub s) = none) := decOf_none fun n hn e => he (by
        have := atoi_itoa (n : Int) ⟨by omega, by omega⟩
        rw [e, show ub s = s.data.toList from rfl, HA.out] at this
        injection this with this
        rw [this]; exact e)
      obtain ⟨X, HX⟩ : ∃ X, Hid (bs (Lib.itoa v) = X) := ⟨_, rfl⟩
      have hq : (X.toList == s.toList) = false := beq_eq_false_iff_ne.mpr fun z => he (by
        have := toList_inj.mp z
        rw [← HX.out] at this
        rw [← this, ub_bs])
      clear he
      go_enter Tryz.func125, Tryz.ntmps125
      go_wp2_with fail
      go_at_call 158
      refine (Tryz.atoi_ok s (by omega) v HA.out _).mono ?_
      rintro e w' ⟨rfl, hw⟩
      have HB : Hid (Below w.heap.size w w') := by
        rcases hw with rfl | ⟨t, rfl⟩
        · exact Below.refl _ _
        · exact Lib.bytesWorld_below _ _ _
      clear hw
      go_wp2_with fail
      go_at_call 89
      refine (impl_Decimal_calls _ _ (by omega) (by omega) (HP.out.below HB.out)).mono ?_
      rw [HX.out]
      rintro e w2 ⟨rfl, hb2⟩
      have HB2 := Lib.hid (HB.out.trans (hb2.mono HB.out.size))
      clear hb2
      go_wp2
      go_ret2
      exact ⟨ret_rd HR.out, HB2.out⟩
  · have HR : Hid (decOf (ub s) = none) := by unfold Hid decOf riOf ub; rw [ha]
    obtain ⟨ev, hv, hk⟩ := HG.out.syn
    have HA : Hid ((∀ v, Lib.atoiAll s.data.toList ≠ .ok v) ∧ Lib.atoiAll s.data.toList ≠ .range) := ⟨fun v e => by (rw [ha] at e; cases e), fun e => by (rw [ha] at e; cases e)⟩
    have HV := Lib.hid hv
    clear ha hv
    go_enter Tryz.func125, Tryz.ntmps125
    go_wp2_with fail
    go_at_call 158
    refine (Tryz.atoi_bad s (by omega) HA.out.1 HA.out.2 ev _ HV.out hk).mono ?_
    rintro e w1 ⟨N, rfl, -, -, hb⟩
    go_wp2
    go_ret2
    exact ⟨ret_rd HR.out, hb⟩
  · have HR : Hid (decOf (ub s) = none) := by unfold Hid decOf riOf ub; rw [ha]
    obtain ⟨ev, hv, hk⟩ := HG.out.ran
    have HA := Lib.hid ha
    have HV := Lib.hid hv
    clear ha hv
    go_enter Tryz.func125, Tryz.ntmps125
    go_wp2_with fail
    go_at_call 158
    refine (Tryz.atoi_range s (by omega) HA.out ev _ HV.out hk).mono ?_
    rintro e w1 ⟨N, rfl, -, -, hb⟩
    go_wp2
    go_ret2
    exact ⟨ret_rd HR.out, hb⟩
end Go.Proofs.YtaacpdejpcbbbaaGreatDoor

namespace Go.Proofs.YtaacpdejpcbbbaaGreatDoor
set_option linter.unusedVariables false
set_option linter.unusedSimpArgs false
open Go.RowKit
theorem pow_of_tab {w : World} (h : Lib.TabIs Tryz.prog w "internal/strconv.uint64pow10" .u64 Lib.pow10Tab) : Pow w :=
  ⟨h, World.block_lt_of_cell? w _ (h.cell gPow 0 (by decide))⟩
theorem gPowType : (Tryz.prog.globals[2]?).map (·.type) = some 241 := by kernel_rfl
theorem pow_of_laid {W : World} {rest : List (String × DataW Unit)} (h : laidMet Tryz.prog (("internal/strconv.uint64pow10", Rows.laid_internal_strconv_uint64pow10) :: rest) W) : Pow W :=
  pow_of_tab (Lib.tabIs_of_head (rest := rest) gPow gPowType Tryz.underlying241 Tryz.underlying198 (by kernel_rfl) (by kernel_rfl) h)
end Go.Proofs.YtaacpdejpcbbbaaGreatDoor

namespace Go.Proofs.YtaacpdejpcbbbaaGreatDoor
set_option linter.unusedVariables false
set_option linter.unusedSimpArgs false
open Go.RowKit
theorem sentCells : Tryz.prog.cellsOf 249 = 1 := by kernel_rfl
theorem strCells : Tryz.prog.cellsOf 9 = 1 := by kernel_rfl
theorem gSyn : Tryz.prog.globalNamed "strconv.ErrSyntax" = some 0 := by kernel_rfl
theorem gRan : Tryz.prog.globalNamed "strconv.ErrRange" = some 1 := by kernel_rfl
theorem gSynType : (Tryz.prog.globals[0]?).map (·.type) = some 184 := by kernel_rfl
theorem gRanType : (Tryz.prog.globals[1]?).map (·.type) = some 184 := by kernel_rfl
theorem errStar : "*" ++ "errors.errorString" = "*errors.errorString" := by decide
theorem errRow (u : TypeId) (h : Tryz.prog.typeName? 3 u = some "*errors.errorString") : u = 247 :=
  typeName_ptr_named (nm := "errors.errorString") (by rw [errStar]; kernel_rfl) (by kernel_rfl) (by decide) u (by rw [errStar]; exact h)
theorem sent_of_laid {W : World} {rest : List (String × DataW Unit)} (h : laidMet Tryz.prog (("strconv.ErrRange", Rows.laid_strconv_ErrRange) :: ("strconv.ErrSyntax", Rows.laid_strconv_ErrSyntax) :: rest) W) : Sent W := by
  obtain ⟨a, s, hv, _⟩ := laid_sentinel h gRan gRanType Tryz.underlying184 errRow Tryz.underlying247 Tryz.underlying249 rfl rfl Tryz.underlying9 sentCells strCells
  obtain ⟨a2, s2, hv2, _⟩ := laid_sentinel h.tail gSyn gSynType Tryz.underlying184 errRow Tryz.underlying247 Tryz.underlying249 rfl rfl Tryz.underlying9 sentCells strCells
  have c1 := World.var?_cell gRan hv 0
  have c2 := World.var?_cell gSyn hv2 0
  exact ⟨⟨_, by simpa using c2, .inr ⟨_, _, rfl⟩⟩, ⟨_, by simpa using c1, .inr ⟨_, _, rfl⟩⟩, World.block_lt_of_cell? W ⟨0, 0, none⟩ (by simpa using c2), World.block_lt_of_cell? W ⟨1, 0, none⟩ (by simpa using c1)⟩
end Go.Proofs.YtaacpdejpcbbbaaGreatDoor
