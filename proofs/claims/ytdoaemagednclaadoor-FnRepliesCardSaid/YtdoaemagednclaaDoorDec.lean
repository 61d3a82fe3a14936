/- ReadInt, ReadDecimal: the program's (strconv.Atoi and back) and the reference's (figure by figure, and back) both tell riOf and decOf. -/
import Derived.Test.YtdoaemagednclaaDoorDecL
import Derived.Test.YtdoaemagednclaaDoorNum
import Derived.Test.YtdoaemagednclaaDoorAtoi
import Derived.Test.YtdoaemagednclaaDoorIn
import Derived.Deep.RegionHeld3
namespace Go.Proofs.YtdoaemagednclaaDoor
set_option linter.unusedVariables false
set_option linter.unusedSimpArgs false
open Go.RowKit
attribute [local go_sem] bs_size List.length_cons List.length_nil List.length_append

/-- strconv's two sentinels hold interface values. -/
structure Sent (w : World) : Prop where
  syn : ∃ ev, w.cell? ⟨2, 0, none⟩ = some ev ∧ (ev = .nilIface ∨ ∃ te pe, ev = .iface te pe)
  ran : ∃ ev, w.cell? ⟨3, 0, none⟩ = some ev ∧ (ev = .nilIface ∨ ∃ te pe, ev = .iface te pe)
  big : 2 < w.heap.size ∧ 3 < w.heap.size
theorem Sent.below {w w' : World} {B : Nat} (h : Sent w) (hb : Below B w w') (h1 : 2 < B ∧ 3 < B) : Sent w' := by
  obtain ⟨⟨e1, c1, d1⟩, ⟨e2, c2, d2⟩, hz⟩ := h
  exact ⟨⟨e1, (hb.cell h1.1).trans c1, d1⟩, ⟨e2, (hb.cell h1.2).trans c2, d2⟩, Nat.lt_of_lt_of_le hz.1 hb.size, Nat.lt_of_lt_of_le hz.2 hb.size⟩
def riRes (o : Option Int) : Value := match o with
  | some n => .tuple #[.int .i64 n, .bool true]
  | none => .tuple #[.int .i64 0, .bool false]
theorem ret_ri {o o' : Option Int} (h : o = o') : Ending.returned (riRes o') = Ending.returned (riRes o) := by rw [h]
theorem atoi_bound {l : List UInt8} {v : Int} (h : Lib.atoiAll l = .ok v) : -9223372036854775808 ≤ v ∧ v ≤ 9223372036854775807 := by
  unfold Lib.atoiAll at h
  split at h
  · cases h
  · dsimp only at h
    split at h
    · cases h
    · cases h
    · rename_i u hu
      split at h
      · cases h
      · split at h
        · cases h
        · injection h with h
          split at h <;> omega
set_option maxRecDepth 100000 in
theorem impl_ReadInt_calls (s : ByteArray) (w : World) (hs : s.size ≤ 140737488351232) (hP : Pow w) (hE : Sent w) :
    Calls Tryd.prog 84 #[.string s] w fun e w' => e = .returned (riRes (riOf (ub s))) ∧ Below w.heap.size w w' := by
  have HP := Lib.hid hP
  have HG := Lib.hid hE
  clear hP hE
  cases ha : Lib.atoiAll s.data.toList
  · rename_i v
    have hv := atoi_bound ha
    have HA := Lib.hid ha
    clear ha
    by_cases he : Lib.itoa v = ub s
    · have HX : Hid (bs (Lib.itoa v) = s) := by rw [Hid, he, bs_ub]
      by_cases hb : -1000000000 ≤ v ∧ v ≤ 1000000000
      · have HR : Hid (riOf (ub s) = some v) := riOf_some hb he
        have HI := Lib.hid (inR_true hb)
        clear he
        go_enter Tryd.func84, Tryd.ntmps84
        go_wp2_with fail
        go_at_call 49
        refine (Tryd.atoi_ok s (by omega) v HA.out _).mono ?_
        rintro e w' ⟨rfl, hw⟩
        have HB : Hid (Below w.heap.size w w') := by
          rcases hw with rfl | ⟨t, rfl⟩
          · exact Below.refl _ _
          · exact Lib.bytesWorld_below _ _ _
        clear hw
        go_wp2_with fail
        go_at_call 27
        refine (impl_Decimal_calls _ _ (by omega) (by omega) (HP.out.below HB.out)).mono ?_
        rw [HX.out]
        rintro e w2 ⟨rfl, hb2⟩
        have HB2 := Lib.hid (HB.out.trans (hb2.mono HB.out.size))
        clear hb2
        go_wp2_with (go_at_call 28; refine (impl_within_calls _ _ _ _).mono ?_; rw [HI.out]; rintro e w' ⟨rfl, rfl⟩)
        go_ret2
        exact ⟨ret_ri HR.out, HB2.out⟩
      · have HR : Hid (riOf (ub s) = none) := riOf_none fun n hn e => hb (by
          have := atoi_itoa n ⟨by omega, by omega⟩
          rw [e, show ub s = s.data.toList from rfl, HA.out] at this
          injection this with this
          omega)
        have HI := Lib.hid (inR_false hb)
        clear he
        go_enter Tryd.func84, Tryd.ntmps84
        go_wp2_with fail
        go_at_call 49
        refine (Tryd.atoi_ok s (by omega) v HA.out _).mono ?_
        rintro e w' ⟨rfl, hw⟩
        have HB : Hid (Below w.heap.size w w') := by
          rcases hw with rfl | ⟨t, rfl⟩
          · exact Below.refl _ _
          · exact Lib.bytesWorld_below _ _ _
        clear hw
        go_wp2_with fail
        go_at_call 27
        refine (impl_Decimal_calls _ _ (by omega) (by omega) (HP.out.below HB.out)).mono ?_
        rw [HX.out]
        rintro e w2 ⟨rfl, hb2⟩
        have HB2 := Lib.hid (HB.out.trans (hb2.mono HB.out.size))
        clear hb2
        go_wp2_with (go_at_call 28; refine (impl_within_calls _ _ _ _).mono ?_; rw [HI.out]; rintro e w' ⟨rfl, rfl⟩)
        go_ret2
        exact ⟨ret_ri HR.out, HB2.out⟩
    · have HR : Hid (riOf (ub s) = none) := riOf_none fun n hn e => he (by
        have := atoi_itoa n ⟨by omega, by omega⟩
        rw [e, show ub s = s.data.toList from rfl, HA.out] at this
        injection this with this
        rw [this]; exact e)
      obtain ⟨X, HX⟩ : ∃ X, Hid (bs (Lib.itoa v) = X) := ⟨_, rfl⟩
      have hq : (X.toList == s.toList) = false := beq_eq_false_iff_ne.mpr fun z => he (by
        have := toList_inj.mp z
        rw [← HX.out] at this
        rw [← this, ub_bs])
      clear he
      go_enter Tryd.func84, Tryd.ntmps84
      go_wp2_with fail
      go_at_call 49
      refine (Tryd.atoi_ok s (by omega) v HA.out _).mono ?_
      rintro e w' ⟨rfl, hw⟩
      have HB : Hid (Below w.heap.size w w') := by
        rcases hw with rfl | ⟨t, rfl⟩
        · exact Below.refl _ _
        · exact Lib.bytesWorld_below _ _ _
      clear hw
      go_wp2_with fail
      go_at_call 27
      refine (impl_Decimal_calls _ _ (by omega) (by omega) (HP.out.below HB.out)).mono ?_
      rw [HX.out]
      rintro e w2 ⟨rfl, hb2⟩
      have HB2 := Lib.hid (HB.out.trans (hb2.mono HB.out.size))
      clear hb2
      go_wp2
      go_ret2
      exact ⟨ret_ri HR.out, HB2.out⟩
  · have HR : Hid (riOf (ub s) = none) := by unfold Hid riOf ub; rw [ha]
    obtain ⟨ev, hv, hk⟩ := HG.out.syn
    have HA : Hid ((∀ v, Lib.atoiAll s.data.toList ≠ .ok v) ∧ Lib.atoiAll s.data.toList ≠ .range) := ⟨fun v e => by (rw [ha] at e; cases e), fun e => by (rw [ha] at e; cases e)⟩
    have HV := Lib.hid hv
    clear ha hv
    go_enter Tryd.func84, Tryd.ntmps84
    go_wp2_with fail
    go_at_call 49
    refine (Tryd.atoi_bad s (by omega) HA.out.1 HA.out.2 ev _ HV.out hk).mono ?_
    rintro e w1 ⟨N, rfl, -, -, hb⟩
    go_wp2
    go_ret2
    exact ⟨ret_ri HR.out, hb⟩
  · have HR : Hid (riOf (ub s) = none) := by unfold Hid riOf ub; rw [ha]
    obtain ⟨ev, hv, hk⟩ := HG.out.ran
    have HA := Lib.hid ha
    have HV := Lib.hid hv
    clear ha hv
    go_enter Tryd.func84, Tryd.ntmps84
    go_wp2_with fail
    go_at_call 49
    refine (Tryd.atoi_range s (by omega) HA.out ev _ HV.out hk).mono ?_
    rintro e w1 ⟨N, rfl, -, -, hb⟩
    go_wp2
    go_ret2
    exact ⟨ret_ri HR.out, hb⟩
/-! ### The reference -/
def rdRes (o : Option Nat) : Value := match o with
  | some n => .tuple #[.int .i64 (n : Int), .bool true]
  | none => .tuple #[.int .i64 0, .bool false]
theorem ret_rd {o o' : Option Nat} (h : o = o') : Ending.returned (rdRes o') = Ending.returned (rdRes o) := by rw [h]
def RdRel (s : ByteArray) (i n : Nat) : Prop := n = decVal 0 ((ub s).take i) ∧ ∀ c ∈ (ub s).take i, isDig c
theorem ub_byte {s : ByteArray} {i : Nat} (h : i < s.size) : ∃ d : Nat, d < 256 ∧ s[i].toNat = d ∧ (ub s)[i]? = some (UInt8.ofNat d) ∧ (UInt8.ofNat d).toNat = d := by
  obtain ⟨d, h1, h2, h3, h4⟩ := tail_byte (s := s) (a := 0) (i := i) (by omega)
  refine ⟨d, h1, ?_, by simpa [tail_] using h3, h4⟩
  simpa using h2
theorem rdRel_step {s : ByteArray} {i n d : Nat} (h : RdRel s i n) (hc : (ub s)[i]? = some (UInt8.ofNat d)) (hd : (UInt8.ofNat d).toNat = d) (h1 : 48 ≤ d) (h2 : d ≤ 57) : RdRel s (i + 1) (n * 10 + (d - 48)) := by
  have e : (ub s).take (i + 1) = (ub s).take i ++ [UInt8.ofNat d] := by
    obtain ⟨hk, e⟩ := List.getElem?_eq_some_iff.1 hc
    rw [← e]
    exact List.take_succ_eq_append_getElem hk
  refine ⟨by rw [e, decVal_snoc, hd, h.1], fun c hc => ?_⟩
  rw [e] at hc
  rcases List.mem_append.1 hc with hc | hc
  · exact h.2 c hc
  · obtain rfl := List.mem_singleton.1 hc
    unfold isDig
    omega
theorem rdRel_lt {s : ByteArray} {i n : Nat} (h : RdRel s i n) (hi : i ≤ 10) : n < 10000000000 := by
  have key : ∀ (l : List UInt8) (acc : Nat), (∀ c ∈ l, isDig c) → decVal acc l < (acc + 1) * 10 ^ l.length := by
    intro l
    induction l with
    | nil => intro acc _; simp [decVal]
    | cons c l ih =>
      intro acc hd
      have h1 := ih (acc * 10 + (c.toNat - 48)) fun x hx => hd x (by simp [hx])
      have h2 := hd c (by simp)
      have h3 : acc * 10 + (c.toNat - 48) + 1 ≤ (acc + 1) * 10 := by have := h2.1; have := h2.2; omega
      have h4 := Nat.mul_le_mul_right (10 ^ l.length) h3
      rw [List.length_cons, Nat.pow_succ, Nat.mul_comm (10 ^ l.length) 10, ← Nat.mul_assoc]
      exact Nat.lt_of_lt_of_le h1 h4
  have h1 := key _ 0 h.2
  have h2 : ((ub s).take i).length ≤ 10 := by rw [List.length_take]; omega
  have h3 := Nat.pow_le_pow_right (n := 10) (by omega) h2
  rw [h.1]
  omega
theorem rdRel_end {s : ByteArray} {n : Nat} (h : RdRel s s.size n) : n = decVal 0 (ub s) := by
  have := h.1
  rwa [List.take_of_length_le (by rw [ub_length]; exact Nat.le_refl _)] at this
set_option maxRecDepth 100000 in
theorem spec_ReadDecimal_calls (s : ByteArray) (w : World) (hs : s.size ≤ 140737488351232) :
    Calls Tryd.prog 92 #[.string s] w fun e w' => e = .returned (rdRes (decOf (ub s))) ∧ Below w.heap.size w w' := by
  by_cases hL : 10 < s.size
  · have HR : Hid (decOf (ub s) = none) := decOf_long (by rw [ub_length]; exact hL)
    go_enter Tryd.func92, Tryd.ntmps92
    go_wp2
    go_ret2
    exact ⟨ret_rd HR.out, Below.refl _ _⟩
  · go_enter Tryd.func92, Tryd.ntmps92
    go_wp2
    go_loopw [4, 5] (fun nv iv wr => ∃ i n : Nat, i ≤ s.size ∧ iv = .int .i64 (i : Int) ∧ nv = .int .i64 (n : Int) ∧ RdRel s i n ∧ Below w.heap.size w wr) (fun _ iv _ => s.size - (intOf iv).toNat)
    case atStart => exact ⟨0, 0, Nat.zero_le _, rfl, rfl, ⟨rfl, by simp⟩, Below.refl _ _⟩
    case round =>
      obtain ⟨i, n, hi, rfl, rfl, hrel, hbel⟩ := hrel
      have hn := rdRel_lt hrel (by omega)
      have HT := Lib.hid hrel
      have HB := Lib.hid hbel
      clear hrel hbel
      by_cases hlt : i < s.size
      · obtain ⟨d, hd, hsd, hc, hcd⟩ := ub_byte hlt
        have HC := Lib.hid hc
        have HCD := Lib.hid hcd
        clear hc hcd
        by_cases h1 : d < 48
        · have HR : Hid (decOf (ub s) = none) := decOf_odd HC.out (by unfold isDig; rw [HCD.out]; omega)
          go_wp2
          go_ret2
          exact ⟨ret_rd HR.out, HB.out⟩
        · by_cases h2 : 57 < d
          · have HR : Hid (decOf (ub s) = none) := decOf_odd HC.out (by unfold isDig; rw [HCD.out]; omega)
            go_wp2
            go_ret2
            exact ⟨ret_rd HR.out, HB.out⟩
          · go_wp2
            go_roundw
            case rel => exact ⟨i + 1, n * 10 + (d - 48), by omega, by go_num, by go_num, rdRel_step HT.out HC.out HCD.out (by omega) (by omega), HB.out⟩
            case measure => simp [intOf]; omega
      · obtain rfl : i = s.size := by omega
        have HN := Lib.hid (rdRel_end HT.out)
        by_cases hm : n ≤ 1000000000
        · by_cases he : Lib.itoa (n : Int) = ub s
          · have HR : Hid (decOf (ub s) = some n) := decOf_some hm he
            have HX : Hid (bs (Lib.itoa (n : Int)) = s) := by rw [Hid, he, bs_ub]
            clear he
            go_wp2_with fail
            go_at_call 19
            refine (spec_Decimal_calls _ _ (by omega) (by omega)).mono ?_
            rw [HX.out]
            rintro e w2 ⟨rfl, hb2⟩
            have HB2 := Lib.hid (HB.out.trans (hb2.mono HB.out.size))
            clear hb2
            go_wp2
            go_ret2
            exact ⟨ret_rd HR.out, HB2.out⟩
          · have HR : Hid (decOf (ub s) = none) := decOf_ne (by rw [← HN.out]; exact he)
            obtain ⟨X, HX⟩ : ∃ X, Hid (bs (Lib.itoa (n : Int)) = X) := ⟨_, rfl⟩
            have hq : (X.toList == s.toList) = false := beq_eq_false_iff_ne.mpr fun z => he (by
              have := toList_inj.mp z
              rw [← HX.out] at this
              rw [← this, ub_bs])
            clear he
            go_wp2_with fail
            go_at_call 19
            refine (spec_Decimal_calls _ _ (by omega) (by omega)).mono ?_
            rw [HX.out]
            rintro e w2 ⟨rfl, hb2⟩
            have HB2 := Lib.hid (HB.out.trans (hb2.mono HB.out.size))
            clear hb2
            go_wp2
            go_ret2
            exact ⟨ret_rd HR.out, HB2.out⟩
        · have HR : Hid (decOf (ub s) = none) := decOf_big (by rw [← HN.out]; omega)
          go_wp2
          go_ret2
          exact ⟨ret_rd HR.out, HB.out⟩
end Go.Proofs.YtdoaemagednclaaDoor
