/- The walk of the law FnParses. -/
import Derived.Test.YtldneiodfhpiaaaDoorDraw8
namespace Go.Proofs.YtldneiodfhpiaaaDoor
set_option linter.unusedVariables false
set_option linter.unusedSimpArgs false
open Go.RowKit
attribute [local go_sem] bs_size List.length_cons List.length_nil List.length_append

theorem reqPost_row {w w' : World} {r : List (List UInt8) × Nat × Nat} {e : Ending} (hx : ∀ x ∈ r.1.map bs, x.size ≤ 9223372036854775807) (h : ReqPost w r e w') : ∃ A c, e = .returned (.tuple #[.slice A (r.1.map bs).length c, .int .i64 (r.2.1 : Int), .int .i64 (r.2.2 : Int)]) ∧ StrRow w' A c (r.1.map bs) ∧ Below w.heap.size w w' := by
  obtain ⟨hb, v, rfl, ho⟩ := h
  obtain ⟨A, c, rfl, hr⟩ := ho.row hx
  exact ⟨A, c, rfl, hr, hb⟩
theorem reqB_fine (l : List UInt8) : ∀ x ∈ (reqB l).1.map bs, x.size ≤ 9223372036854775807 := fun x hx => by
  obtain ⟨y, hy, rfl⟩ := List.mem_map.1 hx
  have := (reqB_small l).2 y hy
  rw [bs_size]
  omega
theorem ub_append (a b : ByteArray) : ub (a ++ b) = ub a ++ ub b := by simp [ub]
theorem upper_word : upS ⟨#[97, 90, 49]⟩ = ⟨#[65, 90, 49]⟩ := by kernel_rfl
set_option maxHeartbeats 8000000 in
set_option maxRecDepth 100000 in
theorem walk_FnParses (A : Option Addr) (n c : Nat) (w : World) (h : ByRow w A n) (hM : MaxAt w) :
    Calls Tryd.prog 4 #[.slice A n c] w fun e w' => e = .returned (.bool true) ∧ Below w.heap.size w w' := by
  have HM := Lib.hid hM
  have HM1 := Lib.hid hM.1
  have hn := h.1
  have HBR := Lib.hid h
  clear hM h
  by_cases hbig : 1048576 < n
  · have hd : decide (1048576 < n) = true := decide_eq_true hbig
    go_enter Tryd.func4, Tryd.ntmps4
    go_wp2_with fail
    go_at_call 15
    refine (laws_big_calls A c n _ hn).mono ?_
    rw [hd]
    rintro e w1 ⟨rfl, rfl⟩
    go_wp2
    go_ret
    exact ⟨rfl, Below.refl _ _⟩
  · have hd : decide (1048576 < n) = false := decide_eq_false hbig
    go_enter Tryd.func4, Tryd.ntmps4
    go_wp2_with fail
    go_at_call 15
    refine (laws_big_calls A c n _ hn).mono ?_
    rw [hd]
    rintro e w1 ⟨rfl, rfl⟩
    go_wp2_with fail
    go_at_call 16
    refine (spec_DrawParseRequest_calls A c n _ HBR.out).mono ?_
    rintro e w1 ⟨s, rfl, hs, hb⟩
    have HB1 := Lib.hid hb
    clear hb
    have HIM := Lib.hid (fun (t : ByteArray) (w : World) (ht : t.size ≤ 1048576) (hM : MaxAt w) => (impl_ParseRequest_calls t w ht hM).mono fun e w' hp => reqPost_row (reqB_fine (ub t)) hp)
    have HSP := Lib.hid ((fun (w : World) => (spec_ParseRequest_calls s w (by omega)).mono fun e w' hp => reqPost_row (reqB_fine (ub s)) hp))
    have HI1 := Lib.hid (fun (w : World) (hM : MaxAt w) => HIM.out s w (by omega) hM)
    have HI2 := Lib.hid (fun (w : World) (hM : MaxAt w) => HIM.out (s ++ ⟨#[13, 10, 42, 49, 13, 10]⟩) w (by (have h6 : (⟨#[13, 10, 42, 49, 13, 10]⟩ : ByteArray).size = 6 := rfl); rw [ByteArray.size_append]; omega) hM)
    have HAPP := Lib.hid (fun h => reqB_app (l := ub s) (ub ⟨#[13, 10, 42, 49, 13, 10]⟩) h)
    have HNONE := Lib.hid (fun h => reqB_none (l := ub s) h)
    have HUSED := Lib.hid (fun h => (reqB_used (l := ub s) h).2)
    rw [ub_append] at HI2
    clear HIM
    by_cases k1 : (reqB (ub s)).2.2 = 1
    · rw [HAPP.out (by rw [k1]; decide)] at HI2
      have hu := HUSED.out k1
      rw [ub_length] at hu
      clear HAPP HNONE HUSED
      generalize reqB (ub s) = r at HI1 HI2 HSP k1 hu
      obtain ⟨P, n1, n2⟩ := r
      obtain rfl : n2 = 1 := k1
      replace hu : n1 ≤ s.size := hu
      dsimp only at HI1 HI2 HSP
      generalize P.map bs = xs at HI1 HI2 HSP
      have hnn : ((n1 : Int) != (n1 : Int)) = false := by simp
      have hnq : ((n1 : Int) == (n1 : Int)) = true := by simp
      have hle : (n1 : Int) ≤ (s.size : Int) := by omega
      go_wp2_with fail
      go_at_call 17
      refine (HI1.out _ (HM.out.below HB1.out HM1.out)).mono ?_
      rintro e w2 ⟨A2, c2, rfl, hr2, hb⟩
      have HB2 := Lib.hid (HB1.out.trans (hb.mono HB1.out.size))
      have HR2 := Lib.hid hr2
      clear hb hr2
      go_wp2_with fail
      go_at_call 18
      refine (HSP.out _).mono ?_
      rintro e w3 ⟨A3, c3, rfl, hr3, hb⟩
      have HB3 := Lib.hid (HB2.out.trans (hb.mono HB2.out.size))
      have HR3 := Lib.hid (HR2.out.below hb)
      clear hb hr3
      go_wp2_with fail
      go_at_call 17
      refine (HI2.out _ (HM.out.below HB3.out HM1.out)).mono ?_
      rintro e w4 ⟨A4, c4, rfl, hr4, hb⟩
      have HB4 := Lib.hid (HB3.out.trans (hb.mono HB3.out.size))
      have HR4 := Lib.hid (HR3.out.below hb)
      have HQ4 := Lib.hid hr4
      clear hb hr4
      go_wp2_with fail
      go_at_call 19
      refine (laws_sameTexts_calls A4 c4 xs A2 c2 _ HQ4.out HR4.out).mono ?_
      rintro e w5 ⟨rfl, hb⟩
      have HB5 := Lib.hid (HB4.out.trans (hb.mono HB4.out.size))
      clear hb
      go_wp2
      go_ret
      exact ⟨rfl, HB5.out⟩
    · obtain ⟨hP, hN⟩ := HNONE.out k1
      by_cases k2 : (reqB (ub s)).2.2 = 2
      · have hap := HAPP.out (by rw [k2]; decide)
        rw [hap] at HI2
        clear HAPP HNONE HUSED hap
        generalize reqB (ub s) = r at HI1 HI2 HSP k1 k2 hP hN
        obtain ⟨P, n1, n2⟩ := r
        obtain rfl : n2 = 2 := k2
        obtain rfl : P = [] := hP
        obtain rfl : n1 = 0 := hN
        dsimp only [List.map_nil, List.length_nil] at HI1 HI2 HSP
        go_wp2_with fail
        go_at_call 17
        refine (HI1.out _ (HM.out.below HB1.out HM1.out)).mono ?_
        rintro e w2 ⟨A2, c2, rfl, hr2, hb⟩
        have HB2 := Lib.hid (HB1.out.trans (hb.mono HB1.out.size))
        have HR2 := Lib.hid hr2
        clear hb hr2
        go_wp2_with fail
        go_at_call 18
        refine (HSP.out _).mono ?_
        rintro e w3 ⟨A3, c3, rfl, hr3, hb⟩
        have HB3 := Lib.hid (HB2.out.trans (hb.mono HB2.out.size))
        have HR3 := Lib.hid (HR2.out.below hb)
        clear hb hr3
        go_wp2_with fail
        go_at_call 17
        refine (HI2.out _ (HM.out.below HB3.out HM1.out)).mono ?_
        rintro e w4 ⟨A4, c4, rfl, hr4, hb⟩
        have HB4 := Lib.hid (HB3.out.trans (hb.mono HB3.out.size))
        have HR4 := Lib.hid (HR3.out.below hb)
        have HQ4 := Lib.hid hr4
        clear hb hr4
        go_wp2
        go_ret
        exact ⟨rfl, HB4.out⟩
      · clear HAPP HNONE HUSED
        generalize reqB (ub s ++ ub ⟨#[13, 10, 42, 49, 13, 10]⟩) = r2 at HI2
        generalize reqB (ub s) = r at HI1 HSP k1 k2 hP hN
        obtain ⟨P, n1, n2⟩ := r
        obtain rfl : P = [] := hP
        obtain rfl : n1 = 0 := hN
        dsimp only [List.map_nil, List.length_nil] at HI1 HSP k1 k2
        have hnn : ((n2 : Int) != (n2 : Int)) = false := by simp
        have hn1 : ((n2 : Int) == 1) = false := beq_eq_false_iff_ne.mpr (by omega)
        have hn2 : ((n2 : Int) == 2) = false := beq_eq_false_iff_ne.mpr (by omega)
        obtain ⟨U, hU, hup⟩ : ∃ U : ByteArray, upS ⟨#[97, 90, 49]⟩ = U ∧ (U.toList == [65, 90, 49]) = true := ⟨_, upper_word, by kernel_rfl⟩
        have HU := Lib.hid hU
        clear hU
        go_wp2_with fail
        go_at_call 17
        refine (HI1.out _ (HM.out.below HB1.out HM1.out)).mono ?_
        rintro e w2 ⟨A2, c2, rfl, hr2, hb⟩
        have HB2 := Lib.hid (HB1.out.trans (hb.mono HB1.out.size))
        have HR2 := Lib.hid hr2
        clear hb hr2
        go_wp2_with fail
        go_at_call 18
        refine (HSP.out _).mono ?_
        rintro e w3 ⟨A3, c3, rfl, hr3, hb⟩
        have HB3 := Lib.hid (HB2.out.trans (hb.mono HB2.out.size))
        have HR3 := Lib.hid (HR2.out.below hb)
        clear hb hr3
        go_wp2_with fail
        go_at_call 17
        refine (HI2.out _ (HM.out.below HB3.out HM1.out)).mono ?_
        rintro e w4 ⟨A4, c4, rfl, hr4, hb⟩
        have HB4 := Lib.hid (HB3.out.trans (hb.mono HB3.out.size))
        have HR4 := Lib.hid (HR3.out.below hb)
        have HQ4 := Lib.hid hr4
        clear hb hr4
        go_wp2_with fail
        go_at_call 20
        refine (impl_Upper_calls _ _ (by decide)).mono ?_
        rw [HU.out]
        rintro e w5 ⟨rfl, hb⟩
        have HB5 := Lib.hid (HB4.out.trans (hb.mono HB4.out.size))
        clear hb
        go_wp2
        go_ret
        exact ⟨rfl, HB5.out⟩
end Go.Proofs.YtldneiodfhpiaaaDoor
