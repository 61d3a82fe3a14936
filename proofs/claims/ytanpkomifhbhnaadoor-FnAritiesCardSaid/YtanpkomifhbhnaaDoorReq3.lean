/- Numbers in requests, the reference's l11Num and l11Code. By wip/tools/genreq3.py. -/
import Derived.Test.YtanpkomifhbhnaaDoorReq2
namespace Go.Proofs.YtanpkomifhbhnaaDoor
set_option linter.unusedVariables false
set_option linter.unusedSimpArgs false
open Go.RowKit
attribute [local go_sem] bs_size List.length_cons List.length_nil List.length_append

def snmRes (a : Nat) (r : Nat × Nat × Nat) : Value := .tuple #[.int .i64 (r.1 : Int), .int .i64 (if r.2.2 = 1 then ((a + r.2.1 : Nat) : Int) else if r.2.2 = 0 then -1 else -2)]
theorem ret_snm {a : Nat} {r : Nat × Nat × Nat} {n u h : Nat} (e : r = (n, u, h)) {x y : Int} (hx : x = (n : Int)) (hy : y = if h = 1 then ((a + u : Nat) : Int) else if h = 0 then -1 else -2) : Ending.returned (.tuple #[.int .i64 x, .int .i64 y]) = Ending.returned (snmRes a r) := by
  subst e hx hy
  rfl
theorem numB_long {most : Nat} {l : List UInt8} {i : Nat} (h : DigPre l i) (hi : 3 < i) (hd : digN l = i) (hm : most ≤ 999) : numB most l = (0, 0, 2) := by
  by_cases h0 : l[0]? = some 48
  · exact numB_lead (by omega) h0
  · exact numB_over h (by have := decVal_three h hi h0; omega)
theorem decOf_of_pre {l : List UInt8} {i : Nat} (h : DigPre l i) (hl : i ≤ l.length) (hi : i ≤ 3) (h0 : i ≤ 1 ∨ l[0]? ≠ some 48) : decOf (l.take i) = if i = 0 then none else some (decVal 0 (l.take i)) := by
  by_cases hz : i = 0
  · subst hz
    rw [if_pos rfl]
    exact decOf_empty
  · rw [if_neg hz]
    refine decOf_pre h (by omega) hl (h0.elim (fun e => .inl (by omega)) .inr) ?_
    -- at most three figures
    have hb : ∀ j, j ≤ i → decVal 0 (l.take j) < 10 ^ j := by
      intro j
      induction j with
      | zero => intro _; simp [decVal]
      | succ j ih =>
        intro hj
        obtain ⟨c, hc, hd⟩ := h j (by omega)
        unfold isDig at hd
        rw [decVal_take hc, Nat.pow_succ]
        have := ih (by omega)
        omega
    have h1 := hb i (Nat.le_refl _)
    have h2 : 10 ^ i ≤ 10 ^ 3 := Nat.pow_le_pow_right (by omega) hi
    omega
theorem first_byte {l : List UInt8} {i : Nat} (hi : 0 < i) {c : UInt8} (hc : l[0]? = some c) (h : 0 < (bs (l.take i)).size) : (bs (l.take i))[0]'h = c := by
  have : (l.take i)[0]? = some c := by rw [List.getElem?_take_of_lt hi, hc]
  obtain ⟨h1, h2⟩ := List.getElem?_eq_some_iff.1 this
  show (l.take i).toArray[0] = c
  simpa using h2
theorem spec_l11Code_calls (p : Int) (w : World) : Calls Tryd.prog 61 #[.int .i64 p] w fun e w' => e = .returned (.int .i64 (if p = -2 then 2 else 0)) ∧ w' = w := by
  by_cases h : p = -2
  · subst h
    go_enter Tryd.func61, Tryd.ntmps61
    go_wp2
    go_ret
    exact ⟨rfl, rfl⟩
  · have hb : (p == -2) = false := beq_eq_false_iff_ne.mpr h
    have HN := Lib.hid h
    clear h
    go_enter Tryd.func61, Tryd.ntmps61
    go_wp2
    go_ret
    first
      | exact ⟨rfl, rfl⟩
      | exact ⟨ret_int (by rw [if_neg HN.out]), rfl⟩
set_option maxHeartbeats 8000000 in
set_option maxRecDepth 100000 in
theorem spec_l11Num_calls (s : ByteArray) (a most : Nat) (w : World) (ha : a ≤ s.size) (hs : s.size ≤ 140737488351232) (hm : most ≤ 999) :
    Calls Tryd.prog 60 #[.string s, .int .i64 (a : Int), .int .i64 (most : Int)] w fun e w' => e = .returned (snmRes a (numB most (tail_ s a))) ∧ Below w.heap.size w w' := by
  have hl := tail_len s a
  go_enter Tryd.func60, Tryd.ntmps60
  go_wp2
  go_loopw [8] (fun kv wr => ∃ i : Nat, a + i ≤ s.size ∧ kv = .int .i64 ((a + i : Nat) : Int) ∧ DigPre (tail_ s a) i ∧ wr = w) (fun kv _ => s.size - (intOf kv).toNat)
  case atStart => exact ⟨0, by omega, by simp, DigPre.zero _, rfl⟩
  case round =>
    obtain ⟨i, hai, rfl, hpre, rfl⟩ := hrel
    have HP := Lib.hid hpre
    clear hpre
    have hti : ((tail_ s a).take i).length = i := by rw [List.length_take]; omega
    have hsl : s.extract a (a + i) = bs ((tail_ s a).take i) := extract_tail s a i
    have ht : ((a : Int) + (i : Int)).toNat = a + i := by omega
    by_cases hlt : a + i < s.size
    · obtain ⟨d, hd, hsd, hc, hcd⟩ := tail_byte hlt
      have HC := Lib.hid hc
      have HCD := Lib.hid hcd
      clear hc hcd
      by_cases hdig : 48 ≤ d ∧ d ≤ 57
      · obtain ⟨h48, h57⟩ := hdig
        have HD := Lib.hid ((isDig_of HCD.out).2 ⟨h48, h57⟩)
        clear hti hsl
        go_wp2
        go_roundw
        case rel => first | exact ⟨i + 1, by omega, by go_num, HP.out.step HC.out HD.out, by first | rfl | trivial⟩ | (repeat (first | (refine ⟨?relx, rfl⟩; exact ⟨i + 1, by omega, by go_num, HP.out.step HC.out HD.out, by first | rfl | trivial⟩) | (refine ⟨?relx, ?eqs⟩; (case eqs => (and_intros <;> rfl)); exact ⟨i + 1, by omega, by go_num, HP.out.step HC.out HD.out, by first | rfl | trivial⟩) | apply Exists.intro))
        case measure => simp [intOf]; omega
      · have HG := Lib.hid (digN_at _ _ HP.out (.inr ⟨_, HC.out, fun h => hdig ((isDig_of HCD.out).1 h)⟩))
        have hke : (((a : Int) + (i : Int)) == (s.size : Int)) = false := beq_eq_false_iff_ne.mpr (by omega)
        have HIL : Hid (¬ i = (tail_ s a).length) := by rw [Hid]; omega
        have hd48 : ¬ (48 : Int) ≤ (d : Int) ∨ (48 : Int) ≤ (d : Int) ∧ ¬ (d : Int) ≤ 57 := by omega
        clear hl hdig
        by_cases hg3 : 3 < i
        · have HR := Lib.hid (numB_long (most := most) HP.out hg3 HG.out hm)
          rcases hd48 with hd4 | ⟨hd4, hd5⟩
          all_goals
            go_wp2
            go_ret2
            exact ⟨ret_snm HR.out (rfl) (by simp), Below.refl _ _⟩
        · have hg3' : ¬ (3 : Int) < (i : Int) := by omega
          by_cases hg1 : 1 < i
          · have hg1' : (1 : Int) < (i : Int) := by omega
            obtain ⟨c0, hc0, _⟩ := HP.out 0 (by omega)
            have HC0 := Lib.hid hc0
            have hfb := first_byte (i := i) (by omega) hc0
            clear hc0
            by_cases h48 : c0 = 48
            · have HR := Lib.hid (numB_lead (most := most) (l := tail_ s a) (by rw [HG.out]; exact hg1) (by rw [HC0.out, h48]))
              subst h48
              have h48b : ((48 : UInt8).toNat) = 48 := rfl
              rcases hd48 with hd4 | ⟨hd4, hd5⟩
              all_goals
                go_wp2
                go_ret2
                exact ⟨ret_snm HR.out (rfl) (by simp), Below.refl _ _⟩
            · have hc48 : ((c0.toNat : Int) == 48) = false := beq_eq_false_iff_ne.mpr (fun e => h48 (UInt8.toNat_inj.1 (by show c0.toNat = 48; omega)))
              have HN0 : Hid (i ≤ 1 ∨ (tail_ s a)[0]? ≠ some 48) := .inr (by rw [HC0.out]; exact fun e => h48 (Option.some.inj e))
              clear h48
              have HDO : Hid (decOf (ub (bs ((tail_ s a).take i))) = if i = 0 then none else some (decVal 0 ((tail_ s a).take i))) := by rw [Hid, ub_bs]; exact decOf_of_pre HP.out (by rw [tail_len]; omega) (by omega) HN0.out
              have HZ : Hid (¬ i = 0) := by rw [Hid]; omega
              rw [Hid, if_neg HZ.out] at HDO
              have HDO : Hid _ := HDO
              have hlz : (((i : Nat) : Int) == 0) = false := beq_eq_false_iff_ne.mpr (by omega)
              clear hg1 hg3
              by_cases hov : most < decVal 0 ((tail_ s a).take i)
              · have HR := Lib.hid (numB_over (most := most) HP.out hov)
                rcases hd48 with hd4 | ⟨hd4, hd5⟩
                all_goals
                  go_wp2_with fail
                  go_at_call 66
                  refine (spec_ReadDecimal_calls _ _ (by rw [bs_size]; omega)).mono ?_
                  rw [HDO.out]
                  rintro e w' ⟨rfl, hb⟩
                  simp only [rdRes]
                  go_wp2
                  go_ret2
                  exact ⟨ret_snm HR.out (rfl) (by simp), hb⟩
              · have HE := Lib.hid (numB_of (most := most) ⟨HP.out, by omega, HN0.out⟩ HG.out)
                by_cases h13 : d = 13
                · subst h13
                  have hd4 : ¬ (48 : Int) ≤ ((13 : Nat) : Int) := by omega
                  have H13 : Hid ((tail_ s a)[i]? = some 13) := by rw [Hid, HC.out]; rfl
                  clear hd48
                  by_cases hend : a + i + 1 = s.size
                  · have hk2 : (((a : Int) + (i : Int) + 1) == (s.size : Int)) = true := beq_iff_eq.mpr (by omega)
                    have HR : Hid (numB most (tail_ s a) = (0, 0, 0)) := by rw [Hid, HE.out, if_neg HIL.out, if_neg (by rw [H13.out]; simp [HZ.out]), if_pos (by rw [tail_len]; omega)]
                    go_wp2_with fail
                    go_at_call 66
                    refine (spec_ReadDecimal_calls _ _ (by rw [bs_size]; omega)).mono ?_
                    rw [HDO.out]
                    rintro e w' ⟨rfl, hb⟩
                    simp only [rdRes]
                    go_wp2
                    go_ret2
                    exact ⟨ret_snm HR.out (rfl) (by simp), hb⟩
                  · have hk2 : (((a : Int) + (i : Int) + 1) == (s.size : Int)) = false := beq_eq_false_iff_ne.mpr (by omega)
                    have HK3 : Hid (¬ i + 1 = (tail_ s a).length) := by rw [Hid, tail_len]; omega
                    obtain ⟨f, hf, hsf, hcf, hcfd⟩ := tail_byte (s := s) (a := a) (i := i + 1) (by omega)
                    have hsf' : (s[a + i + 1]'(by omega)).toNat = f := hsf
                    have ht1 : ((a : Int) + (i : Int) + 1).toNat = a + i + 1 := by omega
                    have hb0 : (0 : Int) ≤ (a : Int) + (i : Int) + 1 := by omega
                    have hb1 : (a : Int) + (i : Int) + 1 < (s.size : Int) := by omega
                    by_cases h10 : f = 10
                    · have h10' : (tail_ s a)[i + 1]? = some 10 := by rw [hcf, h10]; rfl
                      have HR : Hid (numB most (tail_ s a) = (decVal 0 ((tail_ s a).take i), i + 2, 1)) := by rw [Hid, HE.out, if_neg HIL.out, if_neg (by rw [H13.out]; simp [HZ.out]), if_neg HK3.out, if_neg (by rw [h10']; simp)]
                      subst h10
                      clear h10' hcf hcfd hsf
                      go_wp2_with fail
                      go_at_call 66
                      refine (spec_ReadDecimal_calls _ _ (by rw [bs_size]; omega)).mono ?_
                      rw [HDO.out]
                      rintro e w' ⟨rfl, hb⟩
                      simp only [rdRes]
                      go_wp2
                      go_ret2
                      exact ⟨ret_snm HR.out (rfl) (by simp; omega), hb⟩
                    · have hf10 : (tail_ s a)[i + 1]? ≠ some 10 := by rw [hcf]; exact fun e => h10 (by have e2 := congrArg UInt8.toNat (Option.some.inj e); rw [hcfd] at e2; exact e2)
                      have HR : Hid (numB most (tail_ s a) = (0, 0, 2)) := by rw [Hid, HE.out, if_neg HIL.out, if_neg (by rw [H13.out]; simp [HZ.out]), if_neg HK3.out, if_pos hf10]
                      have hfb2 : ((f : Int) != 10) = true := bne_iff_ne.mpr (by omega)
                      clear hf10 hcf hcfd hsf
                      go_wp2_with fail
                      go_at_call 66
                      refine (spec_ReadDecimal_calls _ _ (by rw [bs_size]; omega)).mono ?_
                      rw [HDO.out]
                      rintro e w' ⟨rfl, hb⟩
                      simp only [rdRes]
                      go_wp2
                      go_ret2
                      exact ⟨ret_snm HR.out (rfl) (by simp), hb⟩
                · have hdb : ((d : Int) != 13) = true := bne_iff_ne.mpr (by omega)
                  have HR : Hid (numB most (tail_ s a) = (0, 0, 2)) := by rw [Hid, HE.out, if_neg HIL.out, if_pos (.inr (by rw [HC.out]; exact fun e => h13 (by have e2 := congrArg UInt8.toNat (Option.some.inj e); rw [HCD.out] at e2; exact e2)))]
                  rcases hd48 with hd4 | ⟨hd4, hd5⟩
                  all_goals
                    go_wp2_with fail
                    go_at_call 66
                    refine (spec_ReadDecimal_calls _ _ (by rw [bs_size]; omega)).mono ?_
                    rw [HDO.out]
                    rintro e w' ⟨rfl, hb⟩
                    simp only [rdRes]
                    go_wp2
                    go_ret2
                    exact ⟨ret_snm HR.out (rfl) (by simp), hb⟩
          · have hg1' : ¬ (1 : Int) < (i : Int) := by omega
            have HN0 : Hid (i ≤ 1 ∨ (tail_ s a)[0]? ≠ some 48) := .inl (by omega)
            have HDO : Hid (decOf (ub (bs ((tail_ s a).take i))) = if i = 0 then none else some (decVal 0 ((tail_ s a).take i))) := by rw [Hid, ub_bs]; exact decOf_of_pre HP.out (by rw [tail_len]; omega) (by omega) HN0.out
            by_cases hz : i = 0
            · have HZ := Lib.hid hz
              rw [Hid, if_pos hz] at HDO
              have HDO : Hid _ := HDO
              have hlz : (((i : Nat) : Int) == 0) = true := beq_iff_eq.mpr (by omega)
              clear hz hg1 hg3
              have HVZ : Hid (decVal 0 ((tail_ s a).take i) = 0) := by rw [Hid, HZ.out]; simp [decVal]
              have HE := Lib.hid (numB_of (most := most) ⟨HP.out, by rw [HVZ.out]; omega, HN0.out⟩ HG.out)
              have HR : Hid (numB most (tail_ s a) = (0, 0, 2)) := by rw [Hid, HE.out, if_neg HIL.out, if_pos (.inl HZ.out)]
              rcases hd48 with hd4 | ⟨hd4, hd5⟩
              all_goals
                go_wp2_with fail
                go_at_call 66
                refine (spec_ReadDecimal_calls _ _ (by rw [bs_size]; omega)).mono ?_
                rw [HDO.out]
                rintro e w' ⟨rfl, hb⟩
                simp only [rdRes]
                go_wp2
                go_ret2
                exact ⟨ret_snm HR.out (rfl) (by simp), hb⟩
            · have HZ := Lib.hid hz
              rw [Hid, if_neg hz] at HDO
              have HDO : Hid _ := HDO
              have hlz : (((i : Nat) : Int) == 0) = false := beq_eq_false_iff_ne.mpr (by omega)
              clear hz hg1 hg3
              by_cases hov : most < decVal 0 ((tail_ s a).take i)
              · have HR := Lib.hid (numB_over (most := most) HP.out hov)
                rcases hd48 with hd4 | ⟨hd4, hd5⟩
                all_goals
                  go_wp2_with fail
                  go_at_call 66
                  refine (spec_ReadDecimal_calls _ _ (by rw [bs_size]; omega)).mono ?_
                  rw [HDO.out]
                  rintro e w' ⟨rfl, hb⟩
                  simp only [rdRes]
                  go_wp2
                  go_ret2
                  exact ⟨ret_snm HR.out (rfl) (by simp), hb⟩
              · have HE := Lib.hid (numB_of (most := most) ⟨HP.out, by omega, HN0.out⟩ HG.out)
                by_cases h13 : d = 13
                · subst h13
                  have hd4 : ¬ (48 : Int) ≤ ((13 : Nat) : Int) := by omega
                  have H13 : Hid ((tail_ s a)[i]? = some 13) := by rw [Hid, HC.out]; rfl
                  clear hd48
                  by_cases hend : a + i + 1 = s.size
                  · have hk2 : (((a : Int) + (i : Int) + 1) == (s.size : Int)) = true := beq_iff_eq.mpr (by omega)
                    have HR : Hid (numB most (tail_ s a) = (0, 0, 0)) := by rw [Hid, HE.out, if_neg HIL.out, if_neg (by rw [H13.out]; simp [HZ.out]), if_pos (by rw [tail_len]; omega)]
                    go_wp2_with fail
                    go_at_call 66
                    refine (spec_ReadDecimal_calls _ _ (by rw [bs_size]; omega)).mono ?_
                    rw [HDO.out]
                    rintro e w' ⟨rfl, hb⟩
                    simp only [rdRes]
                    go_wp2
                    go_ret2
                    exact ⟨ret_snm HR.out (rfl) (by simp), hb⟩
                  · have hk2 : (((a : Int) + (i : Int) + 1) == (s.size : Int)) = false := beq_eq_false_iff_ne.mpr (by omega)
                    have HK3 : Hid (¬ i + 1 = (tail_ s a).length) := by rw [Hid, tail_len]; omega
                    obtain ⟨f, hf, hsf, hcf, hcfd⟩ := tail_byte (s := s) (a := a) (i := i + 1) (by omega)
                    have hsf' : (s[a + i + 1]'(by omega)).toNat = f := hsf
                    have ht1 : ((a : Int) + (i : Int) + 1).toNat = a + i + 1 := by omega
                    have hb0 : (0 : Int) ≤ (a : Int) + (i : Int) + 1 := by omega
                    have hb1 : (a : Int) + (i : Int) + 1 < (s.size : Int) := by omega
                    by_cases h10 : f = 10
                    · have h10' : (tail_ s a)[i + 1]? = some 10 := by rw [hcf, h10]; rfl
                      have HR : Hid (numB most (tail_ s a) = (decVal 0 ((tail_ s a).take i), i + 2, 1)) := by rw [Hid, HE.out, if_neg HIL.out, if_neg (by rw [H13.out]; simp [HZ.out]), if_neg HK3.out, if_neg (by rw [h10']; simp)]
                      subst h10
                      clear h10' hcf hcfd hsf
                      go_wp2_with fail
                      go_at_call 66
                      refine (spec_ReadDecimal_calls _ _ (by rw [bs_size]; omega)).mono ?_
                      rw [HDO.out]
                      rintro e w' ⟨rfl, hb⟩
                      simp only [rdRes]
                      go_wp2
                      go_ret2
                      exact ⟨ret_snm HR.out (rfl) (by simp; omega), hb⟩
                    · have hf10 : (tail_ s a)[i + 1]? ≠ some 10 := by rw [hcf]; exact fun e => h10 (by have e2 := congrArg UInt8.toNat (Option.some.inj e); rw [hcfd] at e2; exact e2)
                      have HR : Hid (numB most (tail_ s a) = (0, 0, 2)) := by rw [Hid, HE.out, if_neg HIL.out, if_neg (by rw [H13.out]; simp [HZ.out]), if_neg HK3.out, if_pos hf10]
                      have hfb2 : ((f : Int) != 10) = true := bne_iff_ne.mpr (by omega)
                      clear hf10 hcf hcfd hsf
                      go_wp2_with fail
                      go_at_call 66
                      refine (spec_ReadDecimal_calls _ _ (by rw [bs_size]; omega)).mono ?_
                      rw [HDO.out]
                      rintro e w' ⟨rfl, hb⟩
                      simp only [rdRes]
                      go_wp2
                      go_ret2
                      exact ⟨ret_snm HR.out (rfl) (by simp), hb⟩
                · have hdb : ((d : Int) != 13) = true := bne_iff_ne.mpr (by omega)
                  have HR : Hid (numB most (tail_ s a) = (0, 0, 2)) := by rw [Hid, HE.out, if_neg HIL.out, if_pos (.inr (by rw [HC.out]; exact fun e => h13 (by have e2 := congrArg UInt8.toNat (Option.some.inj e); rw [HCD.out] at e2; exact e2)))]
                  rcases hd48 with hd4 | ⟨hd4, hd5⟩
                  all_goals
                    go_wp2_with fail
                    go_at_call 66
                    refine (spec_ReadDecimal_calls _ _ (by rw [bs_size]; omega)).mono ?_
                    rw [HDO.out]
                    rintro e w' ⟨rfl, hb⟩
                    simp only [rdRes]
                    go_wp2
                    go_ret2
                    exact ⟨ret_snm HR.out (rfl) (by simp), hb⟩
    · have HG := Lib.hid (digN_at _ _ HP.out (.inl (by omega)))
      have hke : (((a : Int) + (i : Int)) == (s.size : Int)) = true := beq_iff_eq.mpr (by omega)
      have HIL : Hid (i = (tail_ s a).length) := by rw [Hid]; omega
      clear hl
      by_cases hg3 : 3 < i
      · have HR := Lib.hid (numB_long (most := most) HP.out hg3 HG.out hm)
        go_wp2
        go_ret2
        exact ⟨ret_snm HR.out (rfl) (by simp), Below.refl _ _⟩
      · have hg3' : ¬ (3 : Int) < (i : Int) := by omega
        by_cases hg1 : 1 < i
        · have hg1' : (1 : Int) < (i : Int) := by omega
          obtain ⟨c0, hc0, _⟩ := HP.out 0 (by omega)
          have HC0 := Lib.hid hc0
          have hfb := first_byte (i := i) (by omega) hc0
          clear hc0
          by_cases h48 : c0 = 48
          · have HR := Lib.hid (numB_lead (most := most) (l := tail_ s a) (by rw [HG.out]; exact hg1) (by rw [HC0.out, h48]))
            subst h48
            have h48b : ((48 : UInt8).toNat) = 48 := rfl
            go_wp2
            go_ret2
            exact ⟨ret_snm HR.out (rfl) (by simp), Below.refl _ _⟩
          · have hc48 : ((c0.toNat : Int) == 48) = false := beq_eq_false_iff_ne.mpr (fun e => h48 (UInt8.toNat_inj.1 (by show c0.toNat = 48; omega)))
            have HN0 : Hid (i ≤ 1 ∨ (tail_ s a)[0]? ≠ some 48) := .inr (by rw [HC0.out]; exact fun e => h48 (Option.some.inj e))
            clear h48
            have HDO : Hid (decOf (ub (bs ((tail_ s a).take i))) = if i = 0 then none else some (decVal 0 ((tail_ s a).take i))) := by rw [Hid, ub_bs]; exact decOf_of_pre HP.out (by rw [tail_len]; omega) (by omega) HN0.out
            have HZ : Hid (¬ i = 0) := by rw [Hid]; omega
            rw [Hid, if_neg HZ.out] at HDO
            have HDO : Hid _ := HDO
            have hlz : (((i : Nat) : Int) == 0) = false := beq_eq_false_iff_ne.mpr (by omega)
            clear hg1 hg3
            by_cases hov : most < decVal 0 ((tail_ s a).take i)
            · have HR := Lib.hid (numB_over (most := most) HP.out hov)
              go_wp2_with fail
              go_at_call 66
              refine (spec_ReadDecimal_calls _ _ (by rw [bs_size]; omega)).mono ?_
              rw [HDO.out]
              rintro e w' ⟨rfl, hb⟩
              simp only [rdRes]
              go_wp2
              go_ret2
              exact ⟨ret_snm HR.out (rfl) (by simp), hb⟩
            · have HE := Lib.hid (numB_of (most := most) ⟨HP.out, by omega, HN0.out⟩ HG.out)
              have HR : Hid (numB most (tail_ s a) = (0, 0, 0)) := by rw [Hid, HE.out, if_pos HIL.out]
              go_wp2_with fail
              go_at_call 66
              refine (spec_ReadDecimal_calls _ _ (by rw [bs_size]; omega)).mono ?_
              rw [HDO.out]
              rintro e w' ⟨rfl, hb⟩
              simp only [rdRes]
              go_wp2
              go_ret2
              exact ⟨ret_snm HR.out (rfl) (by simp), hb⟩
        · have hg1' : ¬ (1 : Int) < (i : Int) := by omega
          have HN0 : Hid (i ≤ 1 ∨ (tail_ s a)[0]? ≠ some 48) := .inl (by omega)
          have HDO : Hid (decOf (ub (bs ((tail_ s a).take i))) = if i = 0 then none else some (decVal 0 ((tail_ s a).take i))) := by rw [Hid, ub_bs]; exact decOf_of_pre HP.out (by rw [tail_len]; omega) (by omega) HN0.out
          by_cases hz : i = 0
          · have HZ := Lib.hid hz
            rw [Hid, if_pos hz] at HDO
            have HDO : Hid _ := HDO
            have hlz : (((i : Nat) : Int) == 0) = true := beq_iff_eq.mpr (by omega)
            clear hz hg1 hg3
            have HVZ : Hid (decVal 0 ((tail_ s a).take i) = 0) := by rw [Hid, HZ.out]; simp [decVal]
            have HE := Lib.hid (numB_of (most := most) ⟨HP.out, by rw [HVZ.out]; omega, HN0.out⟩ HG.out)
            have HR : Hid (numB most (tail_ s a) = (0, 0, 0)) := by rw [Hid, HE.out, if_pos HIL.out]
            go_wp2_with fail
            go_at_call 66
            refine (spec_ReadDecimal_calls _ _ (by rw [bs_size]; omega)).mono ?_
            rw [HDO.out]
            rintro e w' ⟨rfl, hb⟩
            simp only [rdRes]
            go_wp2
            go_ret2
            exact ⟨ret_snm HR.out (rfl) (by simp), hb⟩
          · have HZ := Lib.hid hz
            rw [Hid, if_neg hz] at HDO
            have HDO : Hid _ := HDO
            have hlz : (((i : Nat) : Int) == 0) = false := beq_eq_false_iff_ne.mpr (by omega)
            clear hz hg1 hg3
            by_cases hov : most < decVal 0 ((tail_ s a).take i)
            · have HR := Lib.hid (numB_over (most := most) HP.out hov)
              go_wp2_with fail
              go_at_call 66
              refine (spec_ReadDecimal_calls _ _ (by rw [bs_size]; omega)).mono ?_
              rw [HDO.out]
              rintro e w' ⟨rfl, hb⟩
              simp only [rdRes]
              go_wp2
              go_ret2
              exact ⟨ret_snm HR.out (rfl) (by simp), hb⟩
            · have HE := Lib.hid (numB_of (most := most) ⟨HP.out, by omega, HN0.out⟩ HG.out)
              have HR : Hid (numB most (tail_ s a) = (0, 0, 0)) := by rw [Hid, HE.out, if_pos HIL.out]
              go_wp2_with fail
              go_at_call 66
              refine (spec_ReadDecimal_calls _ _ (by rw [bs_size]; omega)).mono ?_
              rw [HDO.out]
              rintro e w' ⟨rfl, hb⟩
              simp only [rdRes]
              go_wp2
              go_ret2
              exact ⟨ret_snm HR.out (rfl) (by simp), hb⟩
end Go.Proofs.YtanpkomifhbhnaaDoor
