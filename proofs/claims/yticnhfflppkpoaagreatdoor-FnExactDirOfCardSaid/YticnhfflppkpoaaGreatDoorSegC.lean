/- segNumber of the program. -/
import Derived.Test.YticnhfflppkpoaaGreatDoorSegN
import Derived.Test.YticnhfflppkpoaaGreatDoorDecAll
namespace Go.Proofs.YticnhfflppkpoaaGreatDoor
set_option linter.unusedVariables false
set_option linter.unusedSimpArgs false
open Go.RowKit
attribute [local go_sem] bs_size List.length_cons List.length_nil List.length_append

theorem ext_list (s : ByteArray) (a b : Nat) : (s.extract a b).toList = ((ub s).drop a).take (b - a) := by
  rw [ByteArray.toList_eq]
  exact ub_extract s a b
set_option maxRecDepth 100000 in
theorem has_calls (s : ByteArray) (w : World) (b : Bool) (h : ((ub s).take 1 == [98]) = b) (hs : s.size ≤ 140737488351232) :
    Calls Tryz.prog 126 #[.string s, .string ⟨#[98]⟩] w fun e w' => e = .returned (.bool b) ∧ w' = w := by
  have hl := ub_length s
  have hx : ((s.extract 0 1).toList == [98]) = b := by
    rw [ext_list]
    simpa using h
  by_cases h0 : s.size = 0
  · have hb : b = false := by
      rw [← h]
      have : ub s = [] := List.eq_nil_of_length_eq_zero (by omega)
      rw [this]
      rfl
    subst hb
    have h1 : ¬ (1 : Int) ≤ (s.size : Int) := by omega
    have HH := Lib.hid h
    clear h hx hl
    go_enter Tryz.func126, Tryz.ntmps126
    go_wp2
    go_ret
    exact ⟨rfl, rfl⟩
  · have h1 : (1 : Int) ≤ (s.size : Int) := by omega
    have HH := Lib.hid h
    clear h hl
    go_enter Tryz.func126, Tryz.ntmps126
    go_wp2
    go_ret
    exact ⟨by first | rfl | (rw [hx]), rfl⟩
theorem lcut_no (s : ByteArray) (w : World) (h : ((ub s).take 1 == [98]) = false) (hs : s.size ≤ 140737488351232) :
    Calls Tryz.prog 65 #[.string s, .string ⟨#[98]⟩] w fun e w' => e = .returned (.tuple #[.string s, .bool false]) ∧ w' = w := by
  have HH := Lib.hid h
  clear h
  have HC : Hid (∀ w : World, Calls Tryz.prog 96 #[.string s, .string ⟨#[98]⟩] w fun e w' => e = .returned (.tuple #[.string s, .bool false]) ∧ w' = w) := fun w => by
    go_enter Tryz.func96, Tryz.ntmps96
    go_wp2_with fail
    go_at_call 126
    refine (has_calls s _ false HH.out hs).mono ?_
    rintro e w' ⟨rfl, rfl⟩
    go_wp2
    go_ret2
    exact ⟨rfl, rfl⟩
  go_enter Tryz.func65, Tryz.ntmps65
  go_wp2_with fail
  go_at_call 96
  refine (HC.out _).mono ?_
  rintro e w' ⟨rfl, rfl⟩
  go_wp2
  go_ret2
  exact ⟨rfl, rfl⟩
theorem lcut_yes (s : ByteArray) (w : World) (h : ((ub s).take 1 == [98]) = true) (h1 : 1 ≤ s.size) (hs : s.size ≤ 140737488351232) :
    Calls Tryz.prog 65 #[.string s, .string ⟨#[98]⟩] w fun e w' => e = .returned (.tuple #[.string (s.extract 1 s.size), .bool true]) ∧ w' = w := by
  have HH := Lib.hid h
  clear h
  have HC : Hid (∀ w : World, Calls Tryz.prog 96 #[.string s, .string ⟨#[98]⟩] w fun e w' => e = .returned (.tuple #[.string (s.extract 1 s.size), .bool true]) ∧ w' = w) := fun w => by
    have h2 : (1 : Int) ≤ (s.size : Int) := by omega
    go_enter Tryz.func96, Tryz.ntmps96
    go_wp2_with fail
    go_at_call 126
    refine (has_calls s _ true HH.out hs).mono ?_
    rintro e w' ⟨rfl, rfl⟩
    go_wp2
    go_ret2
    exact ⟨rfl, rfl⟩
  go_enter Tryz.func65, Tryz.ntmps65
  go_wp2_with fail
  go_at_call 96
  refine (HC.out _).mono ?_
  rintro e w' ⟨rfl, rfl⟩
  go_wp2
  go_ret2
  exact ⟨rfl, rfl⟩
theorem segNo_cut {s : ByteArray} (h : ((ub s).take 1 == [98]) = true) : 1 ≤ s.size ∧ ub s = 98 :: ub (s.extract 1 s.size) ∧ segNo s = (match decOf (ub (s.extract 1 s.size)) with | none => none | some n => if n ≤ 99 then some n else none) := by
  have e : (ub s).take 1 = [98] := by simpa using h
  cases hu : ub s with
  | nil => rw [hu] at e; simp at e
  | cons c l =>
    rw [hu] at e
    have hc : c = 98 := by simpa using e
    have hl := ub_length s
    rw [hu, List.length_cons] at hl
    have h2 : ub (s.extract 1 s.size) = l := by
      rw [ub_extract, hu, List.drop_succ_cons, List.drop_zero, List.take_of_length_le (by omega)]
    refine ⟨by omega, by rw [h2, hc], ?_⟩
    unfold segNo
    rw [hu, h2]
    dsimp only
    rw [if_pos hc]
    rfl
theorem segNo_nocut {s : ByteArray} (h : ((ub s).take 1 == [98]) = false) : segNo s = none := by
  unfold segNo
  cases hu : ub s with
  | nil => rfl
  | cons c l =>
    dsimp only
    rw [if_neg]
    intro e
    rw [hu, e] at h
    simp at h
theorem rdUni (o : Option Nat) : ∃ (n : Nat) (b : Bool), rdRes o = .tuple #[.int .i64 (n : Int), .bool b] ∧ (b = true → o = some n) ∧ (b = false → o = none) := by
  cases o with
  | none => exact ⟨0, false, rfl, (fun e => by cases e), fun _ => rfl⟩
  | some n => exact ⟨n, true, rfl, (fun _ => rfl), fun e => by cases e⟩
set_option maxRecDepth 100000 in
theorem impl_segNumber_calls (s : ByteArray) (w : World) (hs : s.size ≤ 140737488351232) (hP : Pow w) (hE : Sent w) :
    Calls Tryz.prog 41 #[.string s] w fun e w' => e = .returned (.int .i64 (noInt (segNo s))) ∧ Below w.heap.size w w' := by
  have HP := Lib.hid hP
  have HE := Lib.hid hE
  clear hP hE
  cases hc : (ub s).take 1 == [98]
  · have HC := Lib.hid hc
    have HR : Hid (segNo s = none) := segNo_nocut hc
    obtain ⟨n, b, hrd, _, _⟩ := rdUni (decOf (ub s))
    have HRD := Lib.hid hrd
    clear hc hrd
    go_enter Tryz.func41, Tryz.ntmps41
    go_wp2_with fail
    go_at_call 65
    refine (lcut_no s _ HC.out hs).mono ?_
    rintro e w' ⟨rfl, rfl⟩
    go_wp2_with fail
    go_at_call 66
    refine (impl_ReadDecimal_calls s _ hs HP.out HE.out).mono ?_
    rw [HRD.out]
    rintro e w2 ⟨rfl, hb⟩
    go_wp2
    go_ret
    exact ⟨by rw [HR.out]; rfl, hb⟩
  · obtain ⟨h1, h2, h3⟩ := segNo_cut hc
    have HC := Lib.hid hc
    have H3 := Lib.hid h3
    have H2 := Lib.hid h2
    have HXS : Hid ((s.extract 1 s.size).size ≤ 140737488351232) := by rw [Hid, ByteArray.size_extract]; omega
    obtain ⟨n, b, hrd, hy, hn⟩ := rdUni (decOf (ub (s.extract 1 s.size)))
    have HRD := Lib.hid hrd
    have HY := Lib.hid hy
    have HN := Lib.hid hn
    clear hc hrd h2 h3 hy hn
    go_enter Tryz.func41, Tryz.ntmps41
    go_wp2_with fail
    go_at_call 65
    refine (lcut_yes s _ HC.out h1 hs).mono ?_
    rintro e w' ⟨rfl, rfl⟩
    go_wp2_with fail
    go_at_call 66
    refine (impl_ReadDecimal_calls (s.extract 1 s.size) _ HXS.out HP.out HE.out).mono ?_
    rw [HRD.out]
    rintro e w2 ⟨rfl, hb⟩
    have HB := Lib.hid hb
    clear hb
    cases b
    · have HR : Hid (segNo s = none) := by rw [Hid, H3.out, HN.out rfl]
      go_wp2
      go_ret
      exact ⟨by rw [HR.out]; rfl, HB.out⟩
    · have hdn := HY.out rfl
      by_cases h99 : n ≤ 99
      · have HR : Hid (segNo s = some n) := by rw [Hid, H3.out, hdn]; exact if_pos h99
        have HQ : Hid (segNm (n : Int) = s) := ((segNo_some HR.out).2).symm
        clear hdn
        go_wp2_with fail
        go_at_call 22
        refine (impl_SegNm_calls (n : Int) _ (HP.out.below HB.out)).mono ?_
        rw [HQ.out]
        rintro e w3 ⟨rfl, hb⟩
        have HB3 := Lib.hid (HB.out.trans (hb.mono HB.out.size))
        clear hb
        go_wp2
        go_ret
        exact ⟨by rw [HR.out]; rfl, HB3.out⟩
      · have HR : Hid (segNo s = none) := by rw [Hid, H3.out, hdn]; exact if_neg h99
        have HQ : Hid (segNm (n : Int) = ⟨#[]⟩) := by
          rw [Hid]
          unfold segNm
          rw [if_neg (by unfold inR; simp; omega)]
        have hne : (([] : List UInt8) == s.toList) = false := by
          refine beq_eq_false_iff_ne.mpr fun e => ?_
          have := H2.out
          rw [show ub s = s.toList from by rw [ByteArray.toList_eq]; rfl, ← e] at this
          cases this
        have hne2 : s.toList.isEmpty = false := by
          have := H2.out
          rw [show ub s = s.toList from by rw [ByteArray.toList_eq]; rfl] at this
          rw [this]
          rfl
        clear hdn
        go_wp2_with fail
        go_at_call 22
        refine (impl_SegNm_calls (n : Int) _ (HP.out.below HB.out)).mono ?_
        rw [HQ.out]
        rintro e w3 ⟨rfl, hb⟩
        have HB3 := Lib.hid (HB.out.trans (hb.mono HB.out.size))
        clear hb
        go_wp2
        go_ret
        exact ⟨by rw [HR.out]; rfl, HB3.out⟩
end Go.Proofs.YticnhfflppkpoaaGreatDoor
