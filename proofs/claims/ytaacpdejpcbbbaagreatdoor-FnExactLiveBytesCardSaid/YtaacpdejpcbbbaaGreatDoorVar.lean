/- VarText, l01Var, ReadVar, ReadShort: the program's and the reference's both write and read varBytes. -/
import Derived.Test.YtaacpdejpcbbbaaGreatDoorVarL
import Derived.Test.YtaacpdejpcbbbaaGreatDoorBytes
import Derived.Test.YtaacpdejpcbbbaaGreatDoorIn
import Derived.Deep.RegionHeld3
namespace Go.Proofs.YtaacpdejpcbbbaaGreatDoor
set_option linter.unusedVariables false
set_option linter.unusedSimpArgs false
open Go.RowKit
attribute [local go_sem] bs_size List.length_cons List.length_nil List.length_append

/-! ### VarText and l01Var -/
def VarRel (w : World) (n m : Nat) (v : Value) (wr : World) : Prop := ∃ l, OwnB wr w.heap.size v l ∧ l ++ varBytes m = varBytes n ∧ Below w.heap.size w wr
theorem var_len {n : Nat} (h : n ≤ 9223372036854775807) : (varBytes n).length ≤ 9 := varBytes_length 8 n (by omega)
theorem varRel_len {n m : Nat} {l : List UInt8} (h : l ++ varBytes m = varBytes n) (hn : n ≤ 9223372036854775807) : l.length ≤ 8 := by
  have := congrArg List.length h
  have := var_len hn
  have := varBytes_pos m
  rw [List.length_append] at *
  omega
theorem var_step {w wr w1 : World} {n m : Nat} {v v1 : Value} {l : List UInt8} {b : Int} (hm : 127 < m) (hb : b = (m % 128 + 128 : Nat)) (h : OwnB wr w.heap.size v l) (he : l ++ varBytes m = varBytes n) (hbel : Below w.heap.size w wr)
    {o : Obj} (h1 : OwnB w1 w.heap.size v1 (l ++ [UInt8.ofNat b.toNat])) (hg : (wr.alloc o).grownBy w1 v.ownBlock) : VarRel w n (m / 128) v1 w1 := by
  refine ⟨_, h1, ?_, (hbel.alloc hbel.size o).grown hg (by simp; have := hbel.size; omega) fun b hb => (h.lt b hb).1⟩
  rw [← he, varBytes_big hm, List.append_assoc, hb]
  rfl
theorem var_last {w wr w1 : World} {n m : Nat} {v v1 : Value} {l : List UInt8} {b : Int} (hm : m ≤ 127) (hb : b = (m : Int)) (h : OwnB wr w.heap.size v l) (he : l ++ varBytes m = varBytes n) (hbel : Below w.heap.size w wr)
    {o : Obj} (h1 : OwnB w1 w.heap.size v1 (l ++ [UInt8.ofNat b.toNat])) (hg : (wr.alloc o).grownBy w1 v.ownBlock) : OwnB w1 w.heap.size v1 (varBytes n) ∧ Below w.heap.size w w1 := by
  refine ⟨?_, (hbel.alloc hbel.size o).grown hg (by simp; have := hbel.size; omega) fun b hb => (h.lt b hb).1⟩
  rw [← he, varBytes_small hm]
  rw [hb] at h1
  exact h1
def varRes (o : Option (List UInt8)) : Value := match o with
  | some l => .tuple #[.string (bs l), .bool true]
  | none => .tuple #[.string ⟨#[]⟩, .bool false]
def varText (n : Int) : Option (List UInt8) := if inR n 0 1000000000 = true then some (varBytes n.toNat) else none
set_option maxRecDepth 100000 in
theorem impl_VarText_calls (n : Int) (w : World) : Calls Tryz.prog 141 #[.int .i64 n] w fun e w' => e = .returned (varRes (varText n)) ∧ Below w.heap.size w w' := by
  by_cases hr : 0 ≤ n ∧ n ≤ 1000000000
  · obtain ⟨m, rfl⟩ := Int.eq_ofNat_of_zero_le hr.1
    have hi := inR_true hr
    have HE : Hid (varText (m : Int) = some (varBytes m)) := by unfold Hid varText; rw [hi]; rfl
    have HI := Lib.hid hi
    clear hi
    go_enter Tryz.func141, Tryz.ntmps141
    go_wp2_with (go_at_call 57; refine (impl_within_calls _ _ _ _).mono ?_; rw [HI.out]; rintro e w' ⟨rfl, rfl⟩)
    go_loopw [0, 4] (fun i v wr => ∃ k : Nat, i = .int .i64 (k : Int) ∧ k ≤ m ∧ VarRel w m k v wr) (fun i _ _ => (intOf i).toNat)
    case atStart => exact ⟨m, rfl, Nat.le_refl _, [], OwnB.nil _ _, rfl, Below.refl _ _⟩
    case round =>
      obtain ⟨k, rfl, hkm, l, hown, hl, hbel⟩ := hrel
      have HL := varRel_len hl (by omega)
      have HO := Lib.hid hown
      have HQ := Lib.hid hl
      have HB := Lib.hid hbel
      clear hown hl
      by_cases hk : 127 < k
      · clear hbel
        go_wp2_with (at_builtin; refine wpList_appB1 rfl _ _ rfl w.heap.size _ _ rfl HO.out _ (by omega) (by omega) _ rfl (by omega) HB.out.size ?_; intro v1 w1 hown1 hgrow1)
        go_roundw
        case rel => exact ⟨k / 128, by go_num, by omega, var_step hk (by omega) HO.out HQ.out HB.out hown1 hgrow1⟩
        case measure => simp [intOf]; omega
      · clear hbel
        go_wp2_with (at_builtin; refine wpList_appB1 rfl _ _ rfl w.heap.size _ _ rfl HO.out _ (by omega) (by omega) _ rfl (by omega) HB.out.size ?_; intro v1 w1 hown1 hgrow1; have HF := Lib.hid (var_last (by omega) (by omega) HO.out HQ.out HB.out hown1 hgrow1); have hcv := HF.out.1.string)
        go_ret2
        exact ⟨by rw [HE.out]; rfl, HF.out.2⟩
  · have hi := inR_false hr
    have HE : Hid (varText n = none) := by unfold Hid varText; rw [hi]; rfl
    have HI := Lib.hid hi
    clear hi
    go_enter Tryz.func141, Tryz.ntmps141
    go_wp2_with (go_at_call 57; refine (impl_within_calls _ _ _ _).mono ?_; rw [HI.out]; rintro e w' ⟨rfl, rfl⟩)
    go_ret2
    exact ⟨by rw [HE.out]; rfl, Below.refl _ _⟩
set_option maxRecDepth 100000 in
theorem spec_l01Var_calls (n : Nat) (w : World) (hn : n ≤ 9223372036854775807) : Calls Tryz.prog 119 #[.int .i64 (n : Int)] w fun e w' => e = .returned (.string (bs (varBytes n))) ∧ Below w.heap.size w w' := by
  go_enter Tryz.func119, Tryz.ntmps119
  go_wp2
  go_loopw [0, 3] (fun i v wr => ∃ k : Nat, i = .int .i64 (k : Int) ∧ k ≤ n ∧ VarRel w n k v wr) (fun i _ _ => (intOf i).toNat)
  case atStart => exact ⟨n, rfl, Nat.le_refl _, [], .inr ⟨w.heap.size, 0, #[], (0, 0), rfl, Nat.le_refl _, heap_alloc_new w _, Nat.le_refl _, by decide, rfl, rfl, .inl rfl⟩, rfl, (Below.refl _ _).alloc (Nat.le_refl _) _⟩
  case round =>
    obtain ⟨k, rfl, hkm, l, hown, hl, hbel⟩ := hrel
    have HL := varRel_len hl hn
    have HO := Lib.hid hown
    have HQ := Lib.hid hl
    have HB := Lib.hid hbel
    clear hown hl hbel
    by_cases hk : 127 < k
    · go_wp2_with (at_builtin; refine wpList_appB1 rfl _ _ rfl w.heap.size _ _ rfl HO.out _ (by omega) (by omega) _ rfl (by omega) HB.out.size ?_; intro v1 w1 hown1 hgrow1)
      go_roundw
      case rel => exact ⟨k / 128, by go_num, by omega, var_step hk (by omega) HO.out HQ.out HB.out hown1 hgrow1⟩
      case measure => simp [intOf]; omega
    · go_wp2_with (at_builtin; refine wpList_appB1 rfl _ _ rfl w.heap.size _ _ rfl HO.out _ (by omega) (by omega) _ rfl (by omega) HB.out.size ?_; intro v1 w1 hown1 hgrow1; have HF := Lib.hid (var_last (by omega) (by omega) HO.out HQ.out HB.out hown1 hgrow1); have hcv := HF.out.1.string)
      go_ret
      exact ⟨rfl, HF.out.2⟩

/-! ### ReadVar -/
def rvRes (a : Nat) (o : Option (Nat × Nat)) : Value := match o with
  | some (n, k) => .tuple #[.int .i64 (n : Int), .int .i64 ((a + k : Nat) : Int), .bool true]
  | none => .tuple #[.int .i64 0, .int .i64 0, .bool false]
theorem shift_fact (d i : Nat) : ((d : Int) % 128 * 2 ^ (7 * i)) = ((128 ^ i * (d % 128) : Nat) : Int) := by
  rw [Int.pow_mul, Int.mul_comm, Int.natCast_mul, Int.natCast_pow]
  rfl
theorem pow_le_35 {i : Nat} (h : i < 5) : 128 ^ i ≤ 268435456 := by
  have : i = 0 ∨ i = 1 ∨ i = 2 ∨ i = 3 ∨ i = 4 := by omega
  rcases this with rfl | rfl | rfl | rfl | rfl <;> decide
theorem prod_le {i d : Nat} (h : i < 5) : 128 ^ i * (d % 128) ≤ 34091302912 := by
  have h1 := pow_le_35 h
  have h2 : d % 128 ≤ 127 := by omega
  exact Nat.le_trans (Nat.mul_le_mul h1 h2) (by decide)
theorem valOf_take_le {l : List UInt8} {i : Nat} (h : i ≤ 5) : valOf (l.take i) ≤ 34359738368 := by
  have h1 := valOf_lt (l.take i)
  have h2 : (l.take i).length ≤ 5 := by rw [List.length_take]; omega
  have h3 := Nat.pow_le_pow_right (n := 128) (by omega) h2
  omega
theorem varText_some {z : Int} {n : Nat} (hz : z = (n : Int)) (h : n ≤ 1000000000) : varText z = some (varBytes n) := by
  subst hz
  unfold varText
  rw [inR_true ⟨by omega, by omega⟩]
  rfl
theorem varText_none {z : Int} {n : Nat} (hz : z = (n : Int)) (h : ¬ n ≤ 1000000000) : varText z = none := by
  subst hz
  unfold varText
  rw [inR_high (by omega)]
  rfl
theorem rv_yes {s : ByteArray} {a i d : Nat} (hh : VarHi (tail_ s a) i) (hi : i < 5) (hc : (tail_ s a)[i]? = some (UInt8.ofNat d)) (hd : (UInt8.ofNat d).toNat = d) (h1 : d < 128) (hv : valOf ((tail_ s a).take (i + 1)) ≤ 1000000000) (hl : (varBytes (valOf ((tail_ s a).take (i + 1)))).length = i + 1) :
    readVar (tail_ s a) = some (valOf ((tail_ s a).take (i + 1)), i + 1) := by rw [readVar_at hh hi hc (by omega), if_pos ⟨hv, hl⟩]
theorem rv_no {s : ByteArray} {a i d : Nat} (hh : VarHi (tail_ s a) i) (hi : i < 5) (hc : (tail_ s a)[i]? = some (UInt8.ofNat d)) (hd : (UInt8.ofNat d).toNat = d) (h1 : d < 128) (hv : ¬ (valOf ((tail_ s a).take (i + 1)) ≤ 1000000000 ∧ (varBytes (valOf ((tail_ s a).take (i + 1)))).length = i + 1)) :
    readVar (tail_ s a) = none := by rw [readVar_at hh hi hc (by omega), if_neg hv]
theorem ret_rv {a : Nat} {o o' : Option (Nat × Nat)} (h : o = o') : Ending.returned (rvRes a o') = Ending.returned (rvRes a o) := by rw [h]
theorem ret_rv3 {a n m : Nat} {z y : Int} (hz : z = (n : Int)) (hy : y = ((a + m : Nat) : Int)) {o : Option (Nat × Nat)} (h : o = some (n, m)) : Ending.returned (.tuple #[.int .i64 z, .int .i64 y, .bool true]) = Ending.returned (rvRes a o) := by rw [h, hz, hy]; rfl
set_option maxRecDepth 100000 in
theorem impl_ReadVar_calls (s : ByteArray) (a : Nat) (w : World) (ha : a ≤ s.size) (hs : s.size ≤ 1125899906842624) :
    Calls Tryz.prog 136 #[.string s, .int .i64 (a : Int)] w fun e w' => e = .returned (rvRes a (readVar (tail_ s a))) ∧ Below w.heap.size w w' := by
  have HI := Lib.hid (inR_true (n := (a : Int)) (lo := 0) (hi := (s.size : Int)) ⟨by omega, by omega⟩)
  go_enter Tryz.func136, Tryz.ntmps136
  go_wp2_with (go_at_call 57; refine (impl_within_calls _ _ _ _).mono ?_; rw [HI.out]; rintro e w' ⟨rfl, rfl⟩)
  go_loopw [7, 8] (fun nv iv wr => ∃ i : Nat, i ≤ 5 ∧ a + i ≤ s.size ∧ iv = .int .i64 (i : Int) ∧ nv = .int .i64 (valOf ((tail_ s a).take i) : Int) ∧ VarHi (tail_ s a) i ∧ Below w.heap.size w wr) (fun _ iv _ => 5 - (intOf iv).toNat)
  case atStart => exact ⟨0, by omega, by omega, rfl, rfl, fun j hj => by omega, Below.refl _ _⟩
  case round =>
    obtain ⟨i, hi5, hai, rfl, rfl, hhi, hbel⟩ := hrel
    have HH := Lib.hid hhi
    have HB := Lib.hid hbel
    have hvl := valOf_take_le (l := tail_ s a) hi5
    clear hhi hbel
    by_cases hend : i < 5 ∧ a + i < s.size
    · obtain ⟨hi, hlt⟩ := hend
      obtain ⟨d, hd, hsd, hc, hcd⟩ := tail_byte hlt
      have HC := Lib.hid hc
      have HCD := Lib.hid hcd
      have hpl := prod_le (d := d) hi
      have HV := Lib.hid (valOf_take hc)
      have HTL := Lib.hid (take_len hc)
      have hsh := shift_fact d i
      clear hc hcd
      generalize hq : 128 ^ i * (d % 128) = q at hsh hpl
      have HQ := Lib.hid hq
      clear hq
      by_cases hd1 : d < 128
      · by_cases hn : valOf ((tail_ s a).take (i + 1)) ≤ 1000000000
        · have HVT : Hid (varText ((valOf ((tail_ s a).take i) : Int) + (q : Int)) = some (varBytes (valOf ((tail_ s a).take (i + 1))))) := varText_some (by rw [HV.out, HCD.out, HQ.out]; omega) hn
          have hn5 := varBytes_length 4 _ (Nat.lt_of_le_of_lt hn (by decide))
          by_cases hL : (varBytes (valOf ((tail_ s a).take (i + 1)))).length = i + 1
          · have HR := Lib.hid (rv_yes HH.out hi HC.out HCD.out hd1 hn hL)
            go_wp2_with fail
            go_at_call 141
            refine (impl_VarText_calls _ _).mono ?_
            rw [HVT.out]
            rintro e w' ⟨rfl, hb⟩
            simp only [varRes]
            go_wp2
            go_ret3
            exact ⟨ret_rv3 (by rw [HV.out, HCD.out, HQ.out]; omega) (by omega) HR.out, HB.out.trans (hb.mono HB.out.size)⟩
          · have HR := Lib.hid (rv_no HH.out hi HC.out HCD.out hd1 fun h => hL h.2)
            go_wp2_with fail
            go_at_call 141
            refine (impl_VarText_calls _ _).mono ?_
            rw [HVT.out]
            rintro e w' ⟨rfl, hb⟩
            simp only [varRes]
            go_wp2
            go_ret3
            exact ⟨ret_rv HR.out, HB.out.trans (hb.mono HB.out.size)⟩
        · have HVT : Hid (varText ((valOf ((tail_ s a).take i) : Int) + (q : Int)) = none) := varText_none (by rw [HV.out, HCD.out, HQ.out]; omega) hn
          have HR := Lib.hid (rv_no HH.out hi HC.out HCD.out hd1 fun h => hn h.1)
          go_wp2_with fail
          go_at_call 141
          refine (impl_VarText_calls _ _).mono ?_
          rw [HVT.out]
          rintro e w' ⟨rfl, hb⟩
          simp only [varRes]
          go_wp2
          go_ret3
          exact ⟨ret_rv HR.out, HB.out.trans (hb.mono HB.out.size)⟩
      · go_wp2
        go_roundw
        case rel => exact ⟨i + 1, by omega, by omega, by go_num, by rw [HV.out, HCD.out, HQ.out]; go_num, HH.out.step HC.out (by rw [HCD.out]; omega), HB.out⟩
        case measure => simp [intOf]; omega
    · have HR := Lib.hid (readVar_none_hi HH.out (by rw [tail_len]; omega))
      by_cases hi : i < 5
      · go_wp2
        go_ret3
        exact ⟨ret_rv HR.out, HB.out⟩
      · go_wp2
        go_ret3
        exact ⟨ret_rv HR.out, HB.out⟩
set_option maxRecDepth 100000 in
theorem spec_ReadVar_calls (s : ByteArray) (a : Nat) (w : World) (ha : a ≤ s.size) (hs : s.size ≤ 1125899906842624) :
    Calls Tryz.prog 114 #[.string s, .int .i64 (a : Int)] w fun e w' => e = .returned (rvRes a (readVar (tail_ s a))) ∧ Below w.heap.size w w' := by
  have HI := Lib.hid (inR_true (n := (a : Int)) (lo := 0) (hi := (s.size : Int)) ⟨by omega, by omega⟩)
  go_enter Tryz.func114, Tryz.ntmps114
  go_wp2_with (go_at_call 48; refine (spec_l01In_calls _ _ _ _).mono ?_; rw [HI.out]; rintro e w' ⟨rfl, rfl⟩)
  go_loopw [7, 8, 9] (fun nv pv iv wr => ∃ i P : Nat, i ≤ 5 ∧ a + i ≤ s.size ∧ iv = .int .i64 ((a + i : Nat) : Int) ∧ nv = .int .i64 (valOf ((tail_ s a).take i) : Int) ∧ pv = .int .i64 (P : Int) ∧ Hid (P = 128 ^ i) ∧ P ≤ 34359738368 ∧ VarHi (tail_ s a) i ∧ Below w.heap.size w wr) (fun _ _ iv _ => (a + 5) - (intOf iv).toNat)
  case atStart => exact ⟨0, 1, by omega, by omega, rfl, rfl, rfl, rfl, by omega, fun j hj => by omega, Below.refl _ _⟩
  case round =>
    obtain ⟨i, P, hi5, hai, rfl, rfl, rfl, HP, hP, hhi, hbel⟩ := hrel
    have HH := Lib.hid hhi
    have HB := Lib.hid hbel
    have hvl := valOf_take_le (l := tail_ s a) hi5
    clear hhi hbel
    by_cases hend : i < 5 ∧ a + i < s.size
    · obtain ⟨hi, hlt⟩ := hend
      obtain ⟨d, hd, hsd, hc, hcd⟩ := tail_byte hlt
      have HC := Lib.hid hc
      have HCD := Lib.hid hcd
      have hpl := prod_le (d := d) hi
      have HV := Lib.hid (valOf_take hc)
      have HTL := Lib.hid (take_len hc)
      have hsh : ((d : Int) % 128 * (P : Int)) = ((128 ^ i * (d % 128) : Nat) : Int) := by rw [HP.out, Int.mul_comm, Int.natCast_mul]; rfl
      have hP4 : P ≤ 268435456 := by rw [HP.out]; exact pow_le_35 hi
      clear hc hcd
      generalize hq : 128 ^ i * (d % 128) = q at hsh hpl
      have HQ := Lib.hid hq
      clear hq
      have HN : Hid (valOf ((tail_ s a).take (i + 1)) = valOf ((tail_ s a).take i) + q) := by rw [Hid, HV.out, HCD.out, HQ.out]
      by_cases hd1 : d < 128
      · by_cases hn : valOf ((tail_ s a).take (i + 1)) ≤ 1000000000
        · have hn' : valOf ((tail_ s a).take i) + q ≤ 1000000000 := by rw [HN.out] at hn; exact hn
          have hg : decide ((1000000000 : Int) < (valOf ((tail_ s a).take i) : Int) + (q : Int)) = false := decide_eq_false (by omega)
          have HZ : Hid ((valOf ((tail_ s a).take i) : Int) + (q : Int) = ((valOf ((tail_ s a).take i) + q : Nat) : Int)) := by unfold Hid; omega
          have hsl : s.extract a ((a : Int) + (i : Int) + 1).toNat = bs ((tail_ s a).take (i + 1)) := by rw [show ((a : Int) + (i : Int) + 1).toNat = a + (i + 1) by omega, extract_tail]
          have hs0 : IntKind.i64.wrap ((a : Int) + (i : Int) + 1) = (a : Int) + (i : Int) + 1 := by rw [IntKind.wrap_i64]; omega
          have hs1 : (0 : Int) ≤ (a : Int) + (i : Int) + 1 := by omega
          have hs2 : (a : Int) + (i : Int) + 1 ≤ (s.size : Int) := by omega
          have hs3 : (a : Int) ≤ (a : Int) + (i : Int) + 1 := by omega
          have HF := Lib.hid (varForm_at HH.out hi HC.out (by rw [HCD.out]; exact hd1))
          generalize hY : bs ((tail_ s a).take (i + 1)) = Y at hsl
          by_cases hL : (varBytes (valOf ((tail_ s a).take (i + 1)))).length = i + 1
          · have HR := Lib.hid (rv_yes HH.out hi HC.out HCD.out hd1 hn hL)
            have HX : Hid (bs (varBytes (valOf ((tail_ s a).take i) + q)) = Y) := by rw [Hid, ← hY, ← HN.out, form_eq_of_length _ HF.out (by rw [HTL.out, hL])]
            clear hY
            go_wp2
            go_region_held3 (fun w' => Below w.heap.size w w') (first | exact HB.out.drew | exact (HB.out.drew.trans (hb.mono HB.out.drew.size))) (first | (go_at_call 119; rw [HZ.out]; refine (spec_l01Var_calls _ _ (by omega)).mono ?_; rw [HX.out]; rintro e w' ⟨rfl, hb⟩))
            go_wp2
            go_ret3
            exact ⟨ret_rv3 (by rw [HN.out]; omega) (by omega) HR.out, ‹Below w.heap.size w _›⟩
          · have HR := Lib.hid (rv_no HH.out hi HC.out HCD.out hd1 fun h => hL h.2)
            obtain ⟨X, HX⟩ : ∃ X, Hid (bs (varBytes (valOf ((tail_ s a).take i) + q)) = X) := ⟨_, rfl⟩
            have hq : (X.toList == Y.toList) = false := beq_eq_false_iff_ne.mpr fun z => hL (by
              have := toList_inj.mp z
              rw [← HX.out, ← hY] at this
              rw [HN.out, bs_inj this, HTL.out])
            clear hY
            go_wp2
            go_region_held3 (fun w' => Below w.heap.size w w') (first | exact HB.out.drew | exact (HB.out.drew.trans (hb.mono HB.out.drew.size))) (first | (go_at_call 119; rw [HZ.out]; refine (spec_l01Var_calls _ _ (by omega)).mono ?_; rw [HX.out]; rintro e w' ⟨rfl, hb⟩))
            go_wp2
            go_ret3
            exact ⟨ret_rv HR.out, ‹Below w.heap.size w _›⟩
        · have HR := Lib.hid (rv_no HH.out hi HC.out HCD.out hd1 fun h => hn h.1)
          have hn' : ¬ valOf ((tail_ s a).take i) + q ≤ 1000000000 := by rw [HN.out] at hn; exact hn
          have hg : decide ((1000000000 : Int) < (valOf ((tail_ s a).take i) : Int) + (q : Int)) = true := decide_eq_true (by omega)
          go_wp2
          go_quiet (fail)
          go_wp2
          go_ret3
          exact ⟨ret_rv HR.out, blwN HB.out _⟩
      · go_wp2
        go_roundw
        case rel => exact ⟨i + 1, P * 128, by omega, by omega, by go_num, by rw [HN.out]; go_num, by go_num, by rw [Hid, HP.out, Nat.pow_succ], by omega, HH.out.step HC.out (by rw [HCD.out]; omega), HB.out⟩
        case measure => simp [intOf]; omega
    · have HR := Lib.hid (readVar_none_hi HH.out (by rw [tail_len]; omega))
      by_cases hi : a + i < s.size
      · go_wp2
        go_ret3
        exact ⟨ret_rv HR.out, HB.out⟩
      · go_wp2
        go_ret3
        exact ⟨ret_rv HR.out, HB.out⟩
end Go.Proofs.YtaacpdejpcbbbaaGreatDoor
