/- The walk of the law FnExactRequests. -/
import Derived.Test.YtanpkomifhbhnaaDoorReqsS
namespace Go.Proofs.YtanpkomifhbhnaaDoor
set_option linter.unusedVariables false
set_option linter.unusedSimpArgs false
open Go.RowKit
attribute [local go_sem] bs_size List.length_cons List.length_nil List.length_append

theorem cntSS_most {m : Nat} : ∀ (xss : List (List ByteArray)), (∀ q ∈ xss, q.length ≤ m) → cntSS xss xss.length ≤ m * xss.length
  | [], _ => by simp [cntSS]
  | xs :: xss, h => by
    have h1 := cntSS_most xss fun q hq => h q (by simp [hq])
    have h2 := h xs (by simp)
    unfold cntSS at h1 ⊢
    rw [List.take_length] at h1 ⊢
    simp only [List.map_cons, List.sum_cons, List.length_cons, Nat.mul_add, Nat.mul_one]
    omega
set_option maxHeartbeats 4000000 in
set_option maxRecDepth 100000 in
theorem walk_FnExactRequests (s : ByteArray) (w : World) (hz : s.size ≤ 140737488351232) (hM : MaxAt w) :
    Calls Tryd.prog 7 #[.string s] w fun e w' => e = .returned (.bool true) ∧ Below w.heap.size w w' := by
  have HM := Lib.hid hM
  have HM1 := Lib.hid hM.1
  clear hM
  by_cases hs : s.size ≤ 1048576
  · obtain ⟨hn0, hx0⟩ := reqsF_small (s.size + 1) (ub s)
    have hn : ((reqsF (s.size + 1) (ub s)).1.map (·.map bs)).length ≤ 1048577 := by rw [List.length_map]; omega
    have hc : cntSS ((reqsF (s.size + 1) (ub s)).1.map (·.map bs)) ((reqsF (s.size + 1) (ub s)).1.map (·.map bs)).length ≤ 8 * ((reqsF (s.size + 1) (ub s)).1.map (·.map bs)).length := cntSS_most _ fun q hq => by
      obtain ⟨y, hy, rfl⟩ := List.mem_map.1 hq
      have := (hx0 y hy).1
      rw [List.length_map]
      exact this
    have HSP := Lib.hid (fun w => spec_Requests_calls s w hs)
    have HIM := Lib.hid (fun w hM => impl_Requests_calls s w hs hM)
    unfold RqPost at HSP HIM
    clear hn0 hx0
    generalize (reqsF (s.size + 1) (ub s)).1.map (·.map bs) = xss at hn hc HSP HIM
    generalize (reqsF (s.size + 1) (ub s)).2.1 = n1 at HSP HIM
    generalize (reqsF (s.size + 1) (ub s)).2.2 = n2 at HSP HIM
    have hc2 : cntSS xss xss.length ≤ 100000000 := by omega
    clear hc
    have hb1 : ((n1 : Int) != (n1 : Int)) = false := by simp
    have hb2 : (n2 != n2) = false := by simp
    go_enter Tryd.func7, Tryd.ntmps7
    go_wp2_with fail
    go_at_call 25
    refine (HSP.out _).mono ?_
    rintro e w1 ⟨hb1, v1, rfl, ho1⟩
    have HB1 := Lib.hid hb1
    have HO1 := Lib.hid ho1
    clear hb1 ho1
    go_wp2_with fail
    go_at_call 26
    refine (HIM.out _ (HM.out.below HB1.out HM1.out)).mono ?_
    rintro e w2 ⟨hb2, v2, rfl, ho2⟩
    have HC2 := Lib.hid hb2
    have HO2 := Lib.hid ho2
    clear hb2 ho2
    go_wp2_with fail
    go_at_call 27
    refine (laws_eqStringSS_calls _ _ v2 v1 xss _ HO2.out (HO1.out.below HC2.out) (by omega)).mono ?_
    rintro e w3 ⟨rfl, hb3⟩
    have HC3 := Lib.hid (HC2.out.trans (hb3.mono HC2.out.size))
    have HO3 := Lib.hid (HO2.out.below hb3)
    clear hb3
    go_wp2_with fail
    go_at_call 28
    refine (laws_markStringSS_calls _ v2 xss 1 _ HO3.out (by omega) (by omega) (by omega) HC3.out.size).mono ?_
    rintro e w4 ⟨rfl, ho4, hg4⟩
    have HO4 := Lib.hid ho4
    have HC4 := Lib.hid (HC3.out.trans hg4)
    clear ho4 hg4
    go_wp2_with fail
    go_at_call 29
    refine (laws_heldStringSS_calls _ v2 xss 1 _ HO4.out (by omega) (by omega) (by omega)).mono ?_
    rintro e w5 ⟨rfl, hb5⟩
    have HO5 := Lib.hid (HO4.out.below hb5)
    have HC5 := Lib.hid (HC4.out.trans (hb5.mono HC4.out.size))
    have HB5 := Lib.hid (HB1.out.trans (HC5.out.mono HB1.out.size))
    clear hb5
    go_wp2_with fail
    go_at_call 26
    refine (HIM.out _ (HM.out.below HB5.out HM1.out)).mono ?_
    rintro e w6 ⟨hb6, v6, rfl, ho6⟩
    have HO6 := Lib.hid ho6
    have HOG := Lib.hid (HO5.out.below hb6)
    have HC6 := Lib.hid (HC5.out.trans (hb6.mono HC5.out.size))
    clear hb6 ho6
    go_wp2_with fail
    go_at_call 27
    refine (laws_eqStringSS_calls _ _ v6 v1 xss _ HO6.out (HO1.out.below HC6.out) (by omega)).mono ?_
    rintro e w7 ⟨rfl, hb7⟩
    have HO7 := Lib.hid (HOG.out.below hb7)
    have HC7 := Lib.hid (HC6.out.trans (hb7.mono HC6.out.size))
    clear hb7
    go_wp2_with fail
    go_at_call 29
    refine (laws_heldStringSS_calls _ v2 xss 1 _ HO7.out (by omega) (by omega) (by omega)).mono ?_
    rintro e w8 ⟨rfl, hb8⟩
    have HC8 := Lib.hid (HC7.out.trans (hb8.mono HC7.out.size))
    have HB8 := Lib.hid (HB1.out.trans (HC8.out.mono HB1.out.size))
    clear hb8
    go_wp2
    go_ret
    exact ⟨rfl, HB8.out⟩
  · go_enter Tryd.func7, Tryd.ntmps7
    go_wp2
    go_ret
    exact ⟨rfl, Below.refl _ _⟩
end Go.Proofs.YtanpkomifhbhnaaDoor
