/- strconv.Atoi's three contracts off the shelf, laid at this seat's translation. ReadInt, ReadDecimal: the program's (strconv.Atoi and back) and the reference's (figure by figure, and back) both tell riOf and decOf. ReadDecimal of the program. The library's table of powers of ten, out of what the rows lay. What the laid facts of a row give the walks: strconv's powers of ten (Pow) and sentinels (Sent). -/
import Derived.Shelf.Strconv.AtoiAll
import Derived.Shelf.Lay
import Derived.Ground.NamesProg
import Derived.Test.YtanebcllcgchcaaGreatDoorProg
import Derived.WalkKit
import Derived.BigCall
import Derived.Test.YtanebcllcgchcaaGreatDoorDecL
import Derived.Test.YtanebcllcgchcaaGreatDoorNum
import Derived.Test.YtanebcllcgchcaaGreatDoorIn
import Derived.Deep.RegionHeld3
import Derived.Test.YtanebcllcgchcaaGreatDoorRows
import Derived.LaidMore
import Derived.Stop.Joined
import Derived.Stop.LaidErr
import Derived.ProofKit
import Derived.MakeChecks
namespace Go.Proofs
open Go.Shelf Go.RowKit
shelf_lay LaysC.n172 Nm 172 at Tryz as Tryz.laysAtoi
theorem Tryz.atoi_ok (s : ByteArray) (hmax : s.size ≤ 9223372036854775806) (v : Int) (h : Lib.atoiAll s.data.toList = .ok v) (w : World) :
    Calls Tryz.prog 100 #[.string s] w fun e w' => e = .returned (.tuple #[.int .i64 v, .nilIface]) ∧ (w' = w ∨ ∃ t, w' = Lib.bytesWorld w 5 t) := Any.strconv_Atoi_ok Tryz.laysAtoi s hmax v h w
theorem Tryz.atoi_bad (s : ByteArray) (hlim : s.size ≤ 281474976710656) (h1 : ∀ v, Lib.atoiAll s.data.toList ≠ .ok v) (h2 : Lib.atoiAll s.data.toList ≠ .range) (ev : Value) (w : World) (hv : w.cell? ⟨1, 0, none⟩ = some ev) (hev : ev = .nilIface ∨ ∃ te pe, ev = .iface te pe) :
    Calls Tryz.prog 100 #[.string s] w fun e w' => ∃ N, e = .returned (.tuple #[.int .i64 (0), .iface 192 (.pointer (some ⟨N, 0, none⟩))]) ∧ w.heap.size ≤ N ∧ w'.heap[N]? = some (.cells #[.string ⟨#[65, 116, 111, 105]⟩, .string s, ev] 203 (0, 0)) ∧ Below w.heap.size w w' := by
  cases hh : Lib.atoiAll s.data.toList
  · exact absurd hh (h1 _)
  · exact Any.strconv_Atoi_syntax Tryz.laysAtoi s hlim hh ev w hv hev
  · exact absurd hh h2
theorem Tryz.atoi_range (s : ByteArray) (hlim : s.size ≤ 281474976710656) (h : Lib.atoiAll s.data.toList = .range) (ev : Value) (w : World) (hv : w.cell? ⟨2, 0, none⟩ = some ev) (hev : ev = .nilIface ∨ ∃ te pe, ev = .iface te pe) :
    Calls Tryz.prog 100 #[.string s] w fun e w' => ∃ N, e = .returned (.tuple #[.int .i64 (Lib.atoiSat s.data.toList), .iface 192 (.pointer (some ⟨N, 0, none⟩))]) ∧ w.heap.size ≤ N ∧ w'.heap[N]? = some (.cells #[.string ⟨#[65, 116, 111, 105]⟩, .string s, ev] 203 (0, 0)) ∧ Below w.heap.size w w' := Any.strconv_Atoi_range Tryz.laysAtoi s hlim h ev w hv hev
end Go.Proofs

namespace Go.Proofs.YtanebcllcgchcaaGreatDoor
set_option linter.unusedVariables false
set_option linter.unusedSimpArgs false
open Go.RowKit
attribute [local go_sem] bs_size List.length_cons List.length_nil List.length_append

/-- strconv's two sentinels hold interface values. -/
structure Sent (w : World) : Prop where
  syn : ∃ ev, w.cell? ⟨1, 0, none⟩ = some ev ∧ (ev = .nilIface ∨ ∃ te pe, ev = .iface te pe)
  ran : ∃ ev, w.cell? ⟨2, 0, none⟩ = some ev ∧ (ev = .nilIface ∨ ∃ te pe, ev = .iface te pe)
  big : 1 < w.heap.size ∧ 2 < w.heap.size
theorem Sent.below {w w' : World} {B : Nat} (h : Sent w) (hb : Below B w w') (h1 : 1 < B ∧ 2 < B) : Sent w' := by
  obtain ⟨⟨e1, c1, d1⟩, ⟨e2, c2, d2⟩, hz⟩ := h
  exact ⟨⟨e1, (hb.cell h1.1).trans c1, d1⟩, ⟨e2, (hb.cell h1.2).trans c2, d2⟩, Nat.lt_of_lt_of_le hz.1 hb.size, Nat.lt_of_lt_of_le hz.2 hb.size⟩
def riRes (o : Option Int) : Value := match o with
  | some n => .tuple #[.int .i64 n, .bool true]
  | none => .tuple #[.int .i64 0, .bool false]
theorem ret_ri {o o' : Option Int} (h : o = o') : Ending.returned (riRes o') = Ending.returned (riRes o) := by rw [h]
theorem atoi_bound {l : List UInt8} {v : Int} (h : Lib.atoiAll l = .ok v) : -9223372036854775808 ≤ v ∧ v ≤ 9223372036854775807 := by
  unfold Lib.atoiAll at h
  split at h
  · cases h
  · dsimp only at h
    split at h
    · cases h
    · cases h
    · rename_i u hu
      split at h
      · cases h
      · split at h
        · cases h
        · injection h with h
          split at h <;> omega
/-! ### The reference -/
def rdRes (o : Option Nat) : Value := match o with
  | some n => .tuple #[.int .i64 (n : Int), .bool true]
  | none => .tuple #[.int .i64 0, .bool false]
theorem ret_rd {o o' : Option Nat} (h : o = o') : Ending.returned (rdRes o') = Ending.returned (rdRes o) := by rw [h]
def RdRel (s : ByteArray) (i n : Nat) : Prop := n = decVal 0 ((ub s).take i) ∧ ∀ c ∈ (ub s).take i, isDig c
theorem ub_byte {s : ByteArray} {i : Nat} (h : i < s.size) : ∃ d : Nat, d < 256 ∧ s[i].toNat = d ∧ (ub s)[i]? = some (UInt8.ofNat d) ∧ (UInt8.ofNat d).toNat = d := by
  obtain ⟨d, h1, h2, h3, h4⟩ := tail_byte (s := s) (a := 0) (i := i) (by omega)
  refine ⟨d, h1, ?_, by simpa [tail_] using h3, h4⟩
  simpa using h2
theorem rdRel_step {s : ByteArray} {i n d : Nat} (h : RdRel s i n) (hc : (ub s)[i]? = some (UInt8.ofNat d)) (hd : (UInt8.ofNat d).toNat = d) (h1 : 48 ≤ d) (h2 : d ≤ 57) : RdRel s (i + 1) (n * 10 + (d - 48)) := by
  have e : (ub s).take (i + 1) = (ub s).take i ++ [UInt8.ofNat d] := by
    obtain ⟨hk, e⟩ := List.getElem?_eq_some_iff.1 hc
    rw [← e]
    exact List.take_succ_eq_append_getElem hk
  refine ⟨by rw [e, decVal_snoc, hd, h.1], fun c hc => ?_⟩
  rw [e] at hc
  rcases List.mem_append.1 hc with hc | hc
  · exact h.2 c hc
  · obtain rfl := List.mem_singleton.1 hc
    unfold isDig
    omega
theorem rdRel_lt {s : ByteArray} {i n : Nat} (h : RdRel s i n) (hi : i ≤ 10) : n < 10000000000 := by
  have key : ∀ (l : List UInt8) (acc : Nat), (∀ c ∈ l, isDig c) → decVal acc l < (acc + 1) * 10 ^ l.length := by
    intro l
    induction l with
    | nil => intro acc _; simp [decVal]
    | cons c l ih =>
      intro acc hd
      have h1 := ih (acc * 10 + (c.toNat - 48)) fun x hx => hd x (by simp [hx])
      have h2 := hd c (by simp)
      have h3 : acc * 10 + (c.toNat - 48) + 1 ≤ (acc + 1) * 10 := by have := h2.1; have := h2.2; omega
      have h4 := Nat.mul_le_mul_right (10 ^ l.length) h3
      rw [List.length_cons, Nat.pow_succ, Nat.mul_comm (10 ^ l.length) 10, ← Nat.mul_assoc]
      exact Nat.lt_of_lt_of_le h1 h4
  have h1 := key _ 0 h.2
  have h2 : ((ub s).take i).length ≤ 10 := by rw [List.length_take]; omega
  have h3 := Nat.pow_le_pow_right (n := 10) (by omega) h2
  rw [h.1]
  omega
theorem rdRel_end {s : ByteArray} {n : Nat} (h : RdRel s s.size n) : n = decVal 0 (ub s) := by
  have := h.1
  rwa [List.take_of_length_le (by rw [ub_length]; exact Nat.le_refl _)] at this
end Go.Proofs.YtanebcllcgchcaaGreatDoor

namespace Go.Proofs.YtanebcllcgchcaaGreatDoor
set_option linter.unusedVariables false
set_option linter.unusedSimpArgs false
open Go.RowKit
attribute [local go_sem] bs_size List.length_cons List.length_nil List.length_append

set_option maxRecDepth 100000 in
theorem impl_ReadDecimal_calls (s : ByteArray) (w : World) (hs : s.size ≤ 140737488351232) (hP : Pow w) (hE : Sent w) :
    Calls Tryz.prog 85 #[.string s] w fun e w' => e = .returned (rdRes (decOf (ub s))) ∧ Below w.heap.size w w' := by
  have HP := Lib.hid hP
  have HG := Lib.hid hE
  clear hP hE
  cases ha : Lib.atoiAll s.data.toList
  · rename_i v
    have hv := atoi_bound ha
    have HA := Lib.hid ha
    clear ha
    by_cases he : Lib.itoa v = ub s
    · have HX : Hid (bs (Lib.itoa v) = s) := by rw [Hid, he, bs_ub]
      by_cases hb : 0 ≤ v ∧ v ≤ 1000000000
      · obtain ⟨u, hu⟩ := Int.eq_ofNat_of_zero_le hb.1
        have HR : Hid (decOf (ub s) = some u) := decOf_some (by omega) (by rw [← hu]; exact he)
        have HU := Lib.hid hu
        clear hu
        have HI := Lib.hid (inR_true hb)
        clear he
        go_enter Tryz.func85, Tryz.ntmps85
        go_wp2_with fail
        go_at_call 100
        refine (Tryz.atoi_ok s (by omega) v HA.out _).mono ?_
        rintro e w' ⟨rfl, hw⟩
        have HB : Hid (Below w.heap.size w w') := by
          rcases hw with rfl | ⟨t, rfl⟩
          · exact Below.refl _ _
          · exact Lib.bytesWorld_below _ _ _
        clear hw
        go_wp2_with fail
        go_at_call 31
        refine (impl_Decimal_calls _ _ (by omega) (by omega) (HP.out.below HB.out)).mono ?_
        rw [HX.out]
        rintro e w2 ⟨rfl, hb2⟩
        have HB2 := Lib.hid (HB.out.trans (hb2.mono HB.out.size))
        clear hb2
        go_wp2_with (go_at_call 16; refine (impl_within_calls _ _ _ _).mono ?_; rw [HI.out]; rintro e w' ⟨rfl, rfl⟩)
        go_ret2
        exact ⟨by rw [HR.out, HU.out]; rfl, HB2.out⟩
      · have HR : Hid (decOf (ub s) = none) := decOf_none fun n hn e => hb (by
          have := atoi_itoa (n : Int) ⟨by omega, by omega⟩
          rw [e, show ub s = s.data.toList from rfl, HA.out] at this
          injection this with this
          omega)
        have HI := Lib.hid (inR_false hb)
        clear he
        go_enter Tryz.func85, Tryz.ntmps85
        go_wp2_with fail
        go_at_call 100
        refine (Tryz.atoi_ok s (by omega) v HA.out _).mono ?_
        rintro e w' ⟨rfl, hw⟩
        have HB : Hid (Below w.heap.size w w') := by
          rcases hw with rfl | ⟨t, rfl⟩
          · exact Below.refl _ _
          · exact Lib.bytesWorld_below _ _ _
        clear hw
        go_wp2_with fail
        go_at_call 31
        refine (impl_Decimal_calls _ _ (by omega) (by omega) (HP.out.below HB.out)).mono ?_
        rw [HX.out]
        rintro e w2 ⟨rfl, hb2⟩
        have HB2 := Lib.hid (HB.out.trans (hb2.mono HB.out.size))
        clear hb2
        go_wp2_with (go_at_call 16; refine (impl_within_calls _ _ _ _).mono ?_; rw [HI.out]; rintro e w' ⟨rfl, rfl⟩)
        go_ret2
        exact ⟨ret_rd HR.out, HB2.out⟩
    · have HR : Hid (decOf (ub s) = none) := decOf_none fun n hn e => he (by
        have := atoi_itoa (n : Int) ⟨by omega, by omega⟩
        rw [e, show ub s = s.data.toList from rfl, HA.out] at this
        injection this with this
        rw [this]; exact e)
      obtain ⟨X, HX⟩ : ∃ X, Hid (bs (Lib.itoa v) = X) := ⟨_, rfl⟩
      have hq : (X.toList == s.toList) = false := beq_eq_false_iff_ne.mpr fun z => he (by
        have := toList_inj.mp z
        rw [← HX.out] at this
        rw [← this, ub_bs])
      clear he
      go_enter Tryz.func85, Tryz.ntmps85
      go_wp2_with fail
      go_at_call 100
      refine (Tryz.atoi_ok s (by omega) v HA.out _).mono ?_
      rintro e w' ⟨rfl, hw⟩
      have HB : Hid (Below w.heap.size w w') := by
        rcases hw with rfl | ⟨t, rfl⟩
        · exact Below.refl _ _
        · exact Lib.bytesWorld_below _ _ _
      clear hw
      go_wp2_with fail
      go_at_call 31
      refine (impl_Decimal_calls _ _ (by omega) (by omega) (HP.out.below HB.out)).mono ?_
      rw [HX.out]
      rintro e w2 ⟨rfl, hb2⟩
      have HB2 := Lib.hid (HB.out.trans (hb2.mono HB.out.size))
      clear hb2
      go_wp2
      go_ret2
      exact ⟨ret_rd HR.out, HB2.out⟩
  · have HR : Hid (decOf (ub s) = none) := by unfold Hid decOf riOf ub; rw [ha]
    obtain ⟨ev, hv, hk⟩ := HG.out.syn
    have HA : Hid ((∀ v, Lib.atoiAll s.data.toList ≠ .ok v) ∧ Lib.atoiAll s.data.toList ≠ .range) := ⟨fun v e => by (rw [ha] at e; cases e), fun e => by (rw [ha] at e; cases e)⟩
    have HV := Lib.hid hv
    clear ha hv
    go_enter Tryz.func85, Tryz.ntmps85
    go_wp2_with fail
    go_at_call 100
    refine (Tryz.atoi_bad s (by omega) HA.out.1 HA.out.2 ev _ HV.out hk).mono ?_
    rintro e w1 ⟨N, rfl, -, -, hb⟩
    go_wp2
    go_ret2
    exact ⟨ret_rd HR.out, hb⟩
  · have HR : Hid (decOf (ub s) = none) := by unfold Hid decOf riOf ub; rw [ha]
    obtain ⟨ev, hv, hk⟩ := HG.out.ran
    have HA := Lib.hid ha
    have HV := Lib.hid hv
    clear ha hv
    go_enter Tryz.func85, Tryz.ntmps85
    go_wp2_with fail
    go_at_call 100
    refine (Tryz.atoi_range s (by omega) HA.out ev _ HV.out hk).mono ?_
    rintro e w1 ⟨N, rfl, -, -, hb⟩
    go_wp2
    go_ret2
    exact ⟨ret_rd HR.out, hb⟩
end Go.Proofs.YtanebcllcgchcaaGreatDoor

namespace Go.Proofs.YtanebcllcgchcaaGreatDoor
set_option linter.unusedVariables false
set_option linter.unusedSimpArgs false
open Go.RowKit
theorem pow_of_tab {w : World} (h : Lib.TabIs Tryz.prog w "internal/strconv.uint64pow10" .u64 Lib.pow10Tab) : Pow w :=
  ⟨h, World.block_lt_of_cell? w _ (h.cell gPow 0 (by decide))⟩
theorem gPowType : (Tryz.prog.globals[0]?).map (·.type) = some 187 := by kernel_rfl
theorem pow_of_laid {W : World} {rest : List (String × DataW Unit)} (h : laidMet Tryz.prog (("internal/strconv.uint64pow10", Rows.laid_internal_strconv_uint64pow10) :: rest) W) : Pow W :=
  pow_of_tab (Lib.tabIs_of_head (rest := rest) gPow gPowType Tryz.underlying187 Tryz.underlying163 (by kernel_rfl) (by kernel_rfl) h)
end Go.Proofs.YtanebcllcgchcaaGreatDoor

namespace Go.Proofs.YtanebcllcgchcaaGreatDoor
set_option linter.unusedVariables false
set_option linter.unusedSimpArgs false
open Go.RowKit
theorem sentCells : Tryz.prog.cellsOf 213 = 1 := by kernel_rfl
theorem strCells : Tryz.prog.cellsOf 9 = 1 := by kernel_rfl
theorem gSyn : Tryz.prog.globalNamed "strconv.ErrSyntax" = some 1 := by kernel_rfl
theorem gRan : Tryz.prog.globalNamed "strconv.ErrRange" = some 2 := by kernel_rfl
theorem gSynType : (Tryz.prog.globals[1]?).map (·.type) = some 150 := by kernel_rfl
theorem gRanType : (Tryz.prog.globals[2]?).map (·.type) = some 150 := by kernel_rfl
theorem errStar : "*" ++ "errors.errorString" = "*errors.errorString" := by decide
theorem errRow (u : TypeId) (h : Tryz.prog.typeName? 3 u = some "*errors.errorString") : u = 211 :=
  typeName_ptr_named (nm := "errors.errorString") (by rw [errStar]; kernel_rfl) (by kernel_rfl) (by decide) u (by rw [errStar]; exact h)
theorem sent_of_laid {W : World} {rest : List (String × DataW Unit)} (h : laidMet Tryz.prog (("strconv.ErrRange", Rows.laid_strconv_ErrRange) :: ("strconv.ErrSyntax", Rows.laid_strconv_ErrSyntax) :: rest) W) : Sent W := by
  obtain ⟨a, s, hv, _⟩ := laid_sentinel h gRan gRanType Tryz.underlying150 errRow Tryz.underlying211 Tryz.underlying213 rfl rfl Tryz.underlying9 sentCells strCells
  obtain ⟨a2, s2, hv2, _⟩ := laid_sentinel h.tail gSyn gSynType Tryz.underlying150 errRow Tryz.underlying211 Tryz.underlying213 rfl rfl Tryz.underlying9 sentCells strCells
  have c1 := World.var?_cell gRan hv 0
  have c2 := World.var?_cell gSyn hv2 0
  exact ⟨⟨_, by simpa using c2, .inr ⟨_, _, rfl⟩⟩, ⟨_, by simpa using c1, .inr ⟨_, _, rfl⟩⟩, World.block_lt_of_cell? W ⟨1, 0, none⟩ (by simpa using c2), World.block_lt_of_cell? W ⟨2, 0, none⟩ (by simpa using c1)⟩
end Go.Proofs.YtanebcllcgchcaaGreatDoor
