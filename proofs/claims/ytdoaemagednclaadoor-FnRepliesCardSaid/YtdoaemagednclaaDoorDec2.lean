/- ReadDecimal of the program. -/
import Derived.Test.YtdoaemagednclaaDoorDec
namespace Go.Proofs.YtdoaemagednclaaDoor
set_option linter.unusedVariables false
set_option linter.unusedSimpArgs false
open Go.RowKit
attribute [local go_sem] bs_size List.length_cons List.length_nil List.length_append

set_option maxRecDepth 100000 in
theorem impl_ReadDecimal_calls (s : ByteArray) (w : World) (hs : s.size ≤ 140737488351232) (hP : Pow w) (hE : Sent w) :
    Calls Tryd.prog 50 #[.string s] w fun e w' => e = .returned (rdRes (decOf (ub s))) ∧ Below w.heap.size w w' := by
  have HP := Lib.hid hP
  have HG := Lib.hid hE
  clear hP hE
  cases ha : Lib.atoiAll s.data.toList
  · rename_i v
    have hv := atoi_bound ha
    have HA := Lib.hid ha
    clear ha
    by_cases he : Lib.itoa v = ub s
    · have HX : Hid (bs (Lib.itoa v) = s) := by rw [Hid, he, bs_ub]
      by_cases hb : 0 ≤ v ∧ v ≤ 1000000000
      · obtain ⟨u, hu⟩ := Int.eq_ofNat_of_zero_le hb.1
        have HR : Hid (decOf (ub s) = some u) := decOf_some (by omega) (by rw [← hu]; exact he)
        have HU := Lib.hid hu
        clear hu
        have HI := Lib.hid (inR_true hb)
        clear he
        go_enter Tryd.func50, Tryd.ntmps50
        go_wp2_with fail
        go_at_call 49
        refine (Tryd.atoi_ok s (by omega) v HA.out _).mono ?_
        rintro e w' ⟨rfl, hw⟩
        have HB : Hid (Below w.heap.size w w') := by
          rcases hw with rfl | ⟨t, rfl⟩
          · exact Below.refl _ _
          · exact Lib.bytesWorld_below _ _ _
        clear hw
        go_wp2_with fail
        go_at_call 27
        refine (impl_Decimal_calls _ _ (by omega) (by omega) (HP.out.below HB.out)).mono ?_
        rw [HX.out]
        rintro e w2 ⟨rfl, hb2⟩
        have HB2 := Lib.hid (HB.out.trans (hb2.mono HB.out.size))
        clear hb2
        go_wp2_with (go_at_call 28; refine (impl_within_calls _ _ _ _).mono ?_; rw [HI.out]; rintro e w' ⟨rfl, rfl⟩)
        go_ret2
        exact ⟨by rw [HR.out, HU.out]; rfl, HB2.out⟩
      · have HR : Hid (decOf (ub s) = none) := decOf_none fun n hn e => hb (by
          have := atoi_itoa (n : Int) ⟨by omega, by omega⟩
          rw [e, show ub s = s.data.toList from rfl, HA.out] at this
          injection this with this
          omega)
        have HI := Lib.hid (inR_false hb)
        clear he
        go_enter Tryd.func50, Tryd.ntmps50
        go_wp2_with fail
        go_at_call 49
        refine (Tryd.atoi_ok s (by omega) v HA.out _).mono ?_
        rintro e w' ⟨rfl, hw⟩
        have HB : Hid (Below w.heap.size w w') := by
          rcases hw with rfl | ⟨t, rfl⟩
          · exact Below.refl _ _
          · exact Lib.bytesWorld_below _ _ _
        clear hw
        go_wp2_with fail
        go_at_call 27
        refine (impl_Decimal_calls _ _ (by omega) (by omega) (HP.out.below HB.out)).mono ?_
        rw [HX.out]
        rintro e w2 ⟨rfl, hb2⟩
        have HB2 := Lib.hid (HB.out.trans (hb2.mono HB.out.size))
        clear hb2
        go_wp2_with (go_at_call 28; refine (impl_within_calls _ _ _ _).mono ?_; rw [HI.out]; rintro e w' ⟨rfl, rfl⟩)
        go_ret2
        exact ⟨ret_rd HR.out, HB2.out⟩
    · have HR : Hid (decOf (ub s) = none) := decOf_none fun n hn e => he (by
        have := atoi_itoa (n : Int) ⟨by omega, by omega⟩
        rw [e, show ub s = s.data.toList from rfl, HA.out] at this
        injection this with this
        rw [this]; exact e)
      obtain ⟨X, HX⟩ : ∃ X, Hid (bs (Lib.itoa v) = X) := ⟨_, rfl⟩
      have hq : (X.toList == s.toList) = false := beq_eq_false_iff_ne.mpr fun z => he (by
        have := toList_inj.mp z
        rw [← HX.out] at this
        rw [← this, ub_bs])
      clear he
      go_enter Tryd.func50, Tryd.ntmps50
      go_wp2_with fail
      go_at_call 49
      refine (Tryd.atoi_ok s (by omega) v HA.out _).mono ?_
      rintro e w' ⟨rfl, hw⟩
      have HB : Hid (Below w.heap.size w w') := by
        rcases hw with rfl | ⟨t, rfl⟩
        · exact Below.refl _ _
        · exact Lib.bytesWorld_below _ _ _
      clear hw
      go_wp2_with fail
      go_at_call 27
      refine (impl_Decimal_calls _ _ (by omega) (by omega) (HP.out.below HB.out)).mono ?_
      rw [HX.out]
      rintro e w2 ⟨rfl, hb2⟩
      have HB2 := Lib.hid (HB.out.trans (hb2.mono HB.out.size))
      clear hb2
      go_wp2
      go_ret2
      exact ⟨ret_rd HR.out, HB2.out⟩
  · have HR : Hid (decOf (ub s) = none) := by unfold Hid decOf riOf ub; rw [ha]
    obtain ⟨ev, hv, hk⟩ := HG.out.syn
    have HA : Hid ((∀ v, Lib.atoiAll s.data.toList ≠ .ok v) ∧ Lib.atoiAll s.data.toList ≠ .range) := ⟨fun v e => by (rw [ha] at e; cases e), fun e => by (rw [ha] at e; cases e)⟩
    have HV := Lib.hid hv
    clear ha hv
    go_enter Tryd.func50, Tryd.ntmps50
    go_wp2_with fail
    go_at_call 49
    refine (Tryd.atoi_bad s (by omega) HA.out.1 HA.out.2 ev _ HV.out hk).mono ?_
    rintro e w1 ⟨N, rfl, -, -, hb⟩
    go_wp2
    go_ret2
    exact ⟨ret_rd HR.out, hb⟩
  · have HR : Hid (decOf (ub s) = none) := by unfold Hid decOf riOf ub; rw [ha]
    obtain ⟨ev, hv, hk⟩ := HG.out.ran
    have HA := Lib.hid ha
    have HV := Lib.hid hv
    clear ha hv
    go_enter Tryd.func50, Tryd.ntmps50
    go_wp2_with fail
    go_at_call 49
    refine (Tryd.atoi_range s (by omega) HA.out ev _ HV.out hk).mono ?_
    rintro e w1 ⟨N, rfl, -, -, hb⟩
    go_wp2
    go_ret2
    exact ⟨ret_rd HR.out, hb⟩
end Go.Proofs.YtdoaemagednclaaDoor
