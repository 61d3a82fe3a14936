/- Replies, the reference's: a line's end, its number, l12At, ReplyAt, Replies. -/
import Derived.Test.YtdoaemagednclaaDoorRepI2
namespace Go.Proofs.YtdoaemagednclaaDoor
set_option linter.unusedVariables false
set_option linter.unusedSimpArgs false
open Go.RowKit
attribute [local go_sem] bs_size List.length_cons List.length_nil List.length_append

/-- A place, -1 where there is none. -/
def atS (a : Nat) (o : Option Nat) : Int := match o with
  | some u => ((a + u : Nat) : Int)
  | none => -1
theorem ret_atS_none {a : Nat} {o : Option Nat} {n : Int} (h : o = none) (hn : n = -1) : Ending.returned (.int .i64 n) = .returned (.int .i64 (atS a o)) := by subst h hn; rfl
theorem ret_atS_some {a u : Nat} {o : Option Nat} {n : Int} (h : o = some u) (hn : n = ((a + u : Nat) : Int)) : Ending.returned (.int .i64 n) = .returned (.int .i64 (atS a o)) := by subst h hn; rfl
/-- No line's end from a up to i. -/
def LnRel (s : ByteArray) (a i : Nat) : Prop := a ≤ i ∧ i ≤ s.size ∧ lnB (tail_ s a) = (lnB (tail_ s i)).map (i - a + ·)
theorem LnRel.zero {s : ByteArray} {a : Nat} (h : a ≤ s.size) : LnRel s a a := by
  refine ⟨Nat.le_refl _, h, ?_⟩
  cases lnB (tail_ s a) <;> simp
theorem LnRel.step {s : ByteArray} {a i : Nat} (h : LnRel s a i) (hi : i < s.size) {d : Nat} (hd : (tail_ s i)[0]? = some (UInt8.ofNat d)) (hn : ¬ (UInt8.ofNat d = 13 ∧ (tail_ s (i + 1)).head? = some 10)) : LnRel s a (i + 1) := by
  obtain ⟨h1, h2, h3⟩ := h
  refine ⟨by omega, by omega, ?_⟩
  rw [h3, tail_cons hd, lnB, if_neg hn]
  cases lnB (tail_ s (i + 1)) with
  | none => rfl
  | some m => simp; omega
theorem LnRel.found {s : ByteArray} {a i : Nat} (h : LnRel s a i) (hi : i < s.size) {d : Nat} (hd : (tail_ s i)[0]? = some (UInt8.ofNat d)) (hn : UInt8.ofNat d = 13 ∧ (tail_ s (i + 1)).head? = some 10) : lnB (tail_ s a) = some (i - a) := by
  obtain ⟨h1, h2, h3⟩ := h
  rw [h3, tail_cons hd, lnB, if_pos hn]
  rfl
theorem LnRel.over {s : ByteArray} {a i : Nat} (h : LnRel s a i) (hi : ¬ i + 1 < s.size) : lnB (tail_ s a) = none := by
  obtain ⟨h1, h2, h3⟩ := h
  rw [h3]
  have hl := tail_len s i
  match ht : tail_ s i with
  | [] => rfl
  | [c] => simp [lnB]
  | c :: d :: r => rw [ht] at hl; simp at hl; omega
set_option maxRecDepth 100000 in
theorem spec_l12Line_calls (s : ByteArray) (a : Nat) (w : World) (ha : a ≤ s.size) (hs : s.size ≤ 1048576) :
    Calls Tryd.prog 70 #[.string s, .int .i64 (a : Int)] w fun e w' => e = .returned (.int .i64 (atS a (lnB (tail_ s a)))) ∧ w' = w := by
  go_enter Tryd.func70, Tryd.ntmps70
  go_wp2
  go_loopw [5] (fun iv wr => ∃ i : Nat, iv = .int .i64 (i : Int) ∧ i ≤ s.size ∧ Hid (LnRel s a i) ∧ wr = w) (fun iv _ => s.size - (intOf iv).toNat)
  case atStart => exact ⟨a, rfl, ha, LnRel.zero ha, rfl⟩
  case round =>
    obtain ⟨i, rfl, hi, HL, rfl⟩ := hrel
    by_cases hlt : i + 1 < s.size
    · obtain ⟨d, hd, hsd, hc, hcd⟩ := tail_byte (s := s) (a := i) (i := 0) (by omega)
      obtain ⟨f, hf, hsf, hcf, hcfd⟩ := tail_byte (s := s) (a := i) (i := 1) (by omega)
      have hsd' : (s[i]'(by omega)).toNat = d := hsd
      have hi0 : (0 : Int) ≤ (i : Int) := by omega
      have hi1 : (i : Int) < (s.size : Int) := by omega
      have hi2 : (i : Int) + 1 < (s.size : Int) := by omega
      have hi3 : (0 : Int) ≤ (i : Int) + 1 := by omega
      have ht1 : ((i : Int) + 1).toNat = i + 1 := by omega
      have hw1 : IntKind.i64.wrap ((i : Int) + 1) = (i : Int) + 1 := by rw [IntKind.wrap_i64]; omega
      have hh : (tail_ s (i + 1)).head? = some (UInt8.ofNat f) := by
        rw [← tail_drop, ← List.head?_drop] at *
        simpa [List.head?_eq_getElem?] using hcf
      have HC := Lib.hid hc
      have HH := Lib.hid hh
      clear hc hcf hcd hcfd hsd hh
      by_cases h13 : d = 13
      · by_cases h10 : f = 10
        · have HR : Hid (lnB (tail_ s a) = some (i - a)) := HL.out.found (by omega) HC.out ⟨by rw [h13]; rfl, by rw [HH.out, h10]; rfl⟩
          have hai := HL.out.1
          subst h13 h10
          go_wp2
          go_ret
          exact ⟨ret_atS_some HR.out (by omega), rfl⟩
        · have HN := Lib.hid (HL.out.step (by omega) HC.out (fun e => h10 (by have h2 := e.2; rw [HH.out] at h2; exact (ofNat_iff hf 10 rfl).1 (Option.some.inj h2))))
          have q2 : ((f : Int) == 10) = false := beq_eq_false_iff_ne.mpr (by omega)
          subst h13
          go_wp2
          go_roundw
          case rel => first | exact ⟨i + 1, by go_num, by omega, HN, by first | rfl | trivial⟩ | (repeat (first | (refine ⟨?relx, rfl⟩; exact ⟨i + 1, by go_num, by omega, HN, by first | rfl | trivial⟩) | (refine ⟨?relx, ?eqs⟩; (case eqs => (and_intros <;> rfl)); exact ⟨i + 1, by go_num, by omega, HN, by first | rfl | trivial⟩) | apply Exists.intro))
          case measure => simp [intOf]; omega
      · have HN := Lib.hid (HL.out.step (by omega) HC.out (fun e => h13 ((ofNat_iff hd 13 rfl).1 e.1)))
        have q1 : ((d : Int) == 13) = false := beq_eq_false_iff_ne.mpr (by omega)
        go_wp2
        go_roundw
        case rel => first | exact ⟨i + 1, by go_num, by omega, HN, by first | rfl | trivial⟩ | (repeat (first | (refine ⟨?relx, rfl⟩; exact ⟨i + 1, by go_num, by omega, HN, by first | rfl | trivial⟩) | (refine ⟨?relx, ?eqs⟩; (case eqs => (and_intros <;> rfl)); exact ⟨i + 1, by go_num, by omega, HN, by first | rfl | trivial⟩) | apply Exists.intro))
        case measure => simp [intOf]; omega
    · have HR := Lib.hid (HL.out.over hlt)
      go_wp2
      go_ret
      exact ⟨ret_atS_none HR.out rfl, rfl⟩
def whS (o : Option Nat) : Int := match o with
  | some n => (n : Int)
  | none => -1
set_option maxRecDepth 100000 in
theorem spec_l12Whole_calls (s : ByteArray) (w : World) (hs : s.size ≤ 1048576) :
    Calls Tryd.prog 72 #[.string s] w fun e w' => e = .returned (.int .i64 (whS (decOf (ub s)))) ∧ Below w.heap.size w w' := by
  cases hd : decOf (ub s) with
  | none =>
    have HD := Lib.hid hd
    clear hd
    go_enter Tryd.func72, Tryd.ntmps72
    go_wp2_with fail
    go_at_call 92
    refine (spec_ReadDecimal_calls s _ (by omega)).mono ?_
    rw [HD.out]
    rintro e w1 ⟨rfl, hb⟩
    simp only [rdRes]
    go_wp2
    go_ret
    exact ⟨rfl, hb⟩
  | some n =>
    have HD := Lib.hid hd
    clear hd
    go_enter Tryd.func72, Tryd.ntmps72
    go_wp2_with fail
    go_at_call 92
    refine (spec_ReadDecimal_calls s _ (by omega)).mono ?_
    rw [HD.out]
    rintro e w1 ⟨rfl, hb⟩
    simp only [rdRes]
    go_wp2
    go_ret
    exact ⟨rfl, hb⟩
theorem itoa_zero' : Lib.itoa 0 = [48] := by
  have h := congrArg ub itoa_zero
  rwa [ub_bs] at h
theorem numS_minus {r : List UInt8} (h : r ≠ [48]) : numS (45 :: r) = (decOf r).isSome := by
  unfold numS
  rw [riOf_minus]
  cases hd : decOf r with
  | none => rfl
  | some n =>
    dsimp only
    rw [if_neg]
    · rfl
    · rintro rfl
      exact h ((decOf_spec hd).2.symm.trans itoa_zero')
theorem numS_zero : numS [45, 48] = false := by
  have h : decOf [48] = some 0 := decOf_some (by omega) itoa_zero'
  unfold numS
  rw [riOf_minus, h]
  rfl
theorem riOf_shortR {l : List UInt8} (h : l.length ≤ 1) : riOf l = (decOf l).map fun n => (n : Int) := by
  by_cases h0 : l[0]? = some 45
  · match l, h, h0 with
    | [c], _, h0 =>
      obtain rfl : c = 45 := by simpa using h0
      rfl
  · exact riOf_head h0
theorem numS_plain {l : List UInt8} (h : l.length ≤ 1 ∨ l[0]? ≠ some 45) : numS l = (decOf l).isSome := by
  unfold numS
  rcases h with h | h
  · rw [riOf_shortR h]; cases decOf l <;> rfl
  · rw [riOf_head h]; cases decOf l <;> rfl
theorem whS_ge (o : Option Nat) : decide (0 ≤ whS o) = o.isSome := by
  cases o with
  | none => rfl
  | some n => simp [whS]
set_option maxRecDepth 100000 in
theorem spec_l12Int_calls (s : ByteArray) (w : World) (hs : s.size ≤ 1048576) :
    Calls Tryd.prog 71 #[.string s] w fun e w' => e = .returned (.bool (numS (ub s))) ∧ Below w.heap.size w w' := by
  have plain : ((ub s).length ≤ 1 ∨ (ub s)[0]? ≠ some 45) → (1 < s.size → ∃ d : Nat, (∀ h : 0 < s.size, (s[0]'h).toNat = d) ∧ d ≠ 45) → Calls Tryd.prog 71 #[.string s] w fun e w' => e = .returned (.bool (numS (ub s))) ∧ Below w.heap.size w w' := by
    intro hp hd
    have HN := Lib.hid (numS_plain hp)
    have HWG := Lib.hid (whS_ge (decOf (ub s)))
    obtain ⟨X, HX⟩ : ∃ X, Hid (whS (decOf (ub s)) = X) := ⟨_, rfl⟩
    clear hp
    by_cases h1 : 1 < s.size
    · obtain ⟨d, hd1, hd2⟩ := hd h1
      have hsd := hd1 (by omega)
      have h1i : (1 : Int) < (s.size : Int) := by omega
      have h0i : (0 : Int) < (s.size : Int) := by omega
      have q1 : ((d : Int) == 45) = false := beq_eq_false_iff_ne.mpr (by omega)
      clear hd hd1
      go_enter Tryd.func71, Tryd.ntmps71
      go_wp2_with fail
      go_at_call 72
      refine (spec_l12Whole_calls s _ hs).mono ?_
      rw [HX.out]
      rintro e w1 ⟨rfl, hb⟩
      by_cases hx : 0 ≤ X
      · go_wp2
        go_ret
        exact ⟨ret_bool (by rw [HN.out, ← HWG.out, HX.out]; try simp [hx]), hb⟩
      · go_wp2
        go_ret
        exact ⟨ret_bool (by rw [HN.out, ← HWG.out, HX.out]; try simp [hx]), hb⟩
    · clear hd
      go_enter Tryd.func71, Tryd.ntmps71
      go_wp2_with fail
      go_at_call 72
      refine (spec_l12Whole_calls s _ hs).mono ?_
      rw [HX.out]
      rintro e w1 ⟨rfl, hb⟩
      by_cases hx : 0 ≤ X
      · go_wp2
        go_ret
        exact ⟨ret_bool (by rw [HN.out, ← HWG.out, HX.out]; try simp [hx]), hb⟩
      · go_wp2
        go_ret
        exact ⟨ret_bool (by rw [HN.out, ← HWG.out, HX.out]; try simp [hx]), hb⟩
  by_cases h1 : 1 < s.size
  · obtain ⟨d, hd, hsd, hc, hcd⟩ := ub_byte (s := s) (i := 0) (by omega)
    by_cases h45 : d = 45
    · clear plain
      have hub : ub s = 45 :: tail_ s 1 := by
        have h2 := tail_cons (s := s) (a := 0) (d := d) (by simpa [tail_] using hc)
        rw [h45] at h2
        simpa [tail_] using h2
      have h1i : (1 : Int) < (s.size : Int) := by omega
      have h0i : (0 : Int) < (s.size : Int) := by omega
      have h11 : (1 : Int) ≤ (s.size : Int) := by omega
      subst h45
      by_cases hz : tail_ s 1 = [48]
      · have HN : Hid (numS (ub s) = false) := by rw [Hid, hub, hz]; exact numS_zero
        have hq : (s.toList == [45, 48]) = true := by rw [ByteArray.toList_eq]; show (ub s == [45, 48]) = true; rw [hub, hz]; rfl
        clear hz hub hc hcd
        go_enter Tryd.func71, Tryd.ntmps71
        go_wp2
        go_ret
        exact ⟨ret_bool HN.out.symm, Below.refl _ _⟩
      · have HN : Hid (numS (ub s) = (decOf (tail_ s 1)).isSome) := by rw [Hid, hub]; exact numS_minus hz
        have hq : (s.toList == [45, 48]) = false := by
          rw [ByteArray.toList_eq]
          refine beq_eq_false_iff_ne.mpr fun e => hz ?_
          have e2 : ub s = [45, 48] := e
          rw [hub] at e2
          exact (List.cons.inj e2).2
        have hex : s.extract 1 s.size = bs (tail_ s 1) := extract_end s 1
        have htl := tail_len s 1
        have HWG := Lib.hid (whS_ge (decOf (tail_ s 1)))
        obtain ⟨X, HX⟩ : ∃ X, Hid (whS (decOf (tail_ s 1)) = X) := ⟨_, rfl⟩
        have HCA := Lib.hid (fun w => spec_l12Whole_calls (bs (tail_ s 1)) w (by rw [bs_size]; omega))
        rw [Hid, ub_bs, HX.out] at HCA
        have HCA : Hid _ := HCA
        clear hz hub hc hcd htl
        generalize bs (tail_ s 1) = Y at hex HCA
        go_enter Tryd.func71, Tryd.ntmps71
        go_wp2_with fail
        go_at_call 72
        refine (HCA.out _).mono ?_
        rintro e w1 ⟨rfl, hb⟩
        by_cases hx : 0 ≤ X
        · go_wp2
          go_ret
          exact ⟨ret_bool (by rw [HN.out, ← HWG.out, HX.out]; try simp [hx]), hb⟩
        · go_wp2
          go_ret
          exact ⟨ret_bool (by rw [HN.out, ← HWG.out, HX.out]; try simp [hx]), hb⟩
    · refine plain (.inr ?_) fun _ => ⟨d, fun _ => hsd, h45⟩
      rw [hc]
      exact fun e => h45 ((ofNat_iff hd 45 rfl).1 (Option.some.inj e))
  · exact plain (.inl (by rw [ub_length]; omega)) fun h => (h1 h).elim
end Go.Proofs.YtdoaemagednclaaDoor
