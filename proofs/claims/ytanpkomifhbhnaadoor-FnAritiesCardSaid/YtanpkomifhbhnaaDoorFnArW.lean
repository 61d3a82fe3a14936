/- The walk of the law FnArities: whatever the code, it returns true. -/
import Derived.Test.YtanpkomifhbhnaaDoorDraw10
import Derived.Test.YtanpkomifhbhnaaDoorHelp
import Derived.Test.YtanpkomifhbhnaaDoorUnk
import Derived.Test.YtanpkomifhbhnaaDoorDec
import Derived.Test.YtanpkomifhbhnaaDoorReqRT
import Derived.Test.YtanpkomifhbhnaaDoorSentLaws
namespace Go.Proofs.YtanpkomifhbhnaaDoor
set_option linter.unusedVariables false
set_option linter.unusedSimpArgs false
open Go.RowKit
attribute [local go_sem] bs_size List.length_cons List.length_nil List.length_append

theorem riOf_zero {n : Int} (h0 : -1000000000 ≤ n) (h1 : n ≤ 1000000000) : riOf (48 :: Lib.itoa n) = none := by
  rw [riOf_head (by simp)]
  have hn : decOf (48 :: Lib.itoa n) = none := by
    by_cases hp : 0 ≤ n
    · obtain ⟨u, rfl⟩ := Int.eq_ofNat_of_zero_le hp
      refine decOf_none fun m hm e => ?_
      rw [itoa_nat, itoa_nat] at e
      have h3 := (decDigits_digs u).2.2
      have hl := congrArg List.length e
      rw [List.length_cons] at hl
      have hp := List.length_pos_iff.2 h3
      exact decDigits_head m m (Nat.le_refl _) (by omega) (by rw [e]; rfl)
    · obtain ⟨u, rfl⟩ : ∃ u : Nat, n = -(u : Int) := ⟨n.natAbs, by omega⟩
      rw [Lib.itoa_neg u (by omega)]
      exact decOf_odd (i := 1) (c := 45) rfl (by unfold isDig; decide)
  rw [hn]
  rfl
theorem sp_of_tab {w : World} (h : Lib.TabIs Tryd.prog w "strings.asciiSpace" .u8 Lib.asciiSpaceTab) : Sp w :=
  ⟨h, World.block_lt_of_cell? w _ (h.cell gSp 0 (by rw [Lib.asciiSpaceTab_length]; omega))⟩
theorem gSpType : (Tryd.prog.globals[0]?).map (·.type) = some 103 := by kernel_rfl
theorem spTab_eq {H : Type} : (Rows.laid_strings_asciiSpace : DataW H) = Lib.tabData .u8 Lib.asciiSpaceTab := by kernel_rfl
theorem sp_of_laid {W : World} {rest : List (String × DataW Unit)} (h : laidMet Tryd.prog (("strings.asciiSpace", Rows.laid_strings_asciiSpace) :: rest) W) : Sp W := by
  rw [spTab_eq] at h
  exact sp_of_tab (Lib.tabIs_of_head (rest := rest) gSp gSpType Tryd.underlying103 Tryd.underlying5 (by kernel_rfl) (by kernel_rfl) h)
theorem powB {w w' : World} (h : Pow w) (hb : Below w.heap.size w w') : Pow w' := h.below hb
theorem ub_zero (l : List UInt8) : ub ((⟨#[48]⟩ : ByteArray) ++ bs l) = 48 :: l := by simp [ub, bs]
theorem byRow_below {w w' : World} {A : Option Addr} {n : Nat} (h : ByRow w A n) (hb : Below w.heap.size w w') : ByRow w' A n := by
  refine ⟨h.1, fun h0 => ?_⟩
  obtain ⟨ad, e, hl, hc⟩ := h.2 h0
  refine ⟨ad, e, Nat.lt_of_lt_of_le hl hb.size, fun j hj => ?_⟩
  obtain ⟨z, h0, h1, h2⟩ := hc j hj
  exact ⟨z, h0, h1, (hb.cell (by rw [add_block]; exact hl)).trans h2⟩
theorem spec_DrawArityOk_calls (A : Option Addr) (c n : Nat) (w : World) (h : ByRow w A n) :
    Calls Tryd.prog 35 #[.slice A n c] w fun e w' => ∃ A' c' xs, e = .returned (.slice A' xs.length c') ∧ StrRow w' A' c' xs ∧ xs.length ≤ 8 ∧ (∀ x ∈ xs, x.size ≤ 60) ∧ Below w.heap.size w w' := by
  have HBR := Lib.hid h
  clear h
  go_enter Tryd.func35, Tryd.ntmps35
  go_wp2_with fail
  go_at_call 70
  refine (spec_l01New_calls A c n _ HBR.out).mono ?_
  rintro e w1 ⟨g, rfl, hg, hcu, hb⟩
  have HG := Lib.hid hg
  have HC := Lib.hid hcu
  have HB1 := Lib.hid hb
  clear hg hcu hb
  go_wp2_with fail
  go_at_call 72
  refine (spec_l11Args_calls g _ HC.out).mono ?_
  rintro e w2 ⟨b, c3, xs, rfl, hrow, hk, hsm, hd⟩
  obtain ⟨A', c', he, hr⟩ := (hrow.own (Nat.le_refl _)).row fun x hx => by have := hsm x hx; omega
  have HR := Lib.hid hr
  have HSM := Lib.hid hsm
  have HD := Lib.hid hd
  rw [he]
  clear hrow hsm hd hr he
  go_wp2
  go_ret
  exact ⟨_, _, xs, rfl, HR.out, hk, HSM.out, HD.out.seen HB1.out HG.out⟩
theorem unk_yes {xs : List ByteArray} {k : Bool} (h : oneOfB xs (bs cmdN) = k) : ((unkS xs).toList == [45, 69, 82, 82, 32, 117, 110, 107, 110, 111, 119, 110, 13, 10]) = !k := by
  subst h
  have e1 : ((faultS errU).toList == [45, 69, 82, 82, 32, 117, 110, 107, 110, 111, 119, 110, 13, 10]) = true := by kernel_rfl
  have e2 : ((faultS errA).toList == [45, 69, 82, 82, 32, 117, 110, 107, 110, 111, 119, 110, 13, 10]) = false := by kernel_rfl
  have e3 : ((⟨#[]⟩ : ByteArray).toList == [45, 69, 82, 82, 32, 117, 110, 107, 110, 111, 119, 110, 13, 10]) = false := by kernel_rfl
  unfold unkS
  cases oneOfB xs (bs cmdN)
  · exact e1
  · cases arityB xs
    · exact e2
    · exact e3
theorem arity_one {xs : List ByteArray} (h : oneOfB xs (bs cmdN) = false) : arityB xs = false := by
  cases hx : xs[0]? with
  | none => unfold arityB; rw [hx]
  | some x =>
    rw [oneOf_some hx, cmdN_words] at h
    exact arity_no hx h
theorem unk_empty {xs : List ByteArray} : ((unkS xs).toList == []) = arityB xs := by
  have e1 : ((faultS errU).toList == ([] : List UInt8)) = false := by kernel_rfl
  have e2 : ((faultS errA).toList == ([] : List UInt8)) = false := by kernel_rfl
  have e3 : ((⟨#[]⟩ : ByteArray).toList == ([] : List UInt8)) = true := by kernel_rfl
  unfold unkS
  cases h : oneOfB xs (bs cmdN)
  · rw [arity_one h]
    exact e1
  · cases arityB xs
    · exact e2
    · exact e3
theorem strBlk_at {w : World} {b c : Nat} {xs : List ByteArray} {j : Nat} {y : ByteArray} (h : StrBlk w b c xs) (hj : xs[j]? = some y) : w.cell? ⟨b, j, none⟩ = some (.string y) := by
  obtain ⟨more, hb, _⟩ := h
  have hl := (List.getElem?_eq_some_iff.1 hj).1
  rw [blk_cell hb, List.getElem?_toArray, List.getElem?_append_left (by simpa using hl), List.getElem?_map, hj]
  rfl
theorem cstep {W : List ByteArray} {y z : ByteArray} {i : Nat} (h : W[i]? = some y) {k q : Bool} (hk : Lib.containsS (W.take i) z = k) (hq : (y.toList == z.toList) = q) : Lib.containsS (W.take (i + 1)) z = (k || q) := by
  subst hk hq
  rw [Bool.eq_iff_iff, Bool.or_eq_true, Lib.containsS_iff, Lib.containsS_iff, take_snoc h, List.mem_append, List.mem_singleton, beq_iff_eq, toList_inj]
  exact or_congr Iff.rfl eq_comm
theorem laid_FnArities {W : World} (h : laidMetH Tryd.prog Rows.fnAritiesRow.laid W) : Sp W ∧ Pow W ∧ Sent W := by
  rw [MakeChecks.laidMetH_plain _ _ _ (by kernel_rfl)] at h
  exact ⟨sp_of_laid h.tail.tail.tail.tail.tail.tail, pow_of_laid h.tail.tail, sent_of_laid h.tail.tail.tail⟩
set_option maxHeartbeats 8000000 in
set_option maxRecDepth 100000 in
theorem walk_FnArities (A : Option Addr) (n c : Nat) (w : World) (h : ByRow w A n) (hS : Sp w) (hP : Pow w) (hE : Sent w) :
    Calls Tryd.prog 9 #[.slice A n c] w fun e w' => e = .returned (.bool true) ∧ Below w.heap.size w w' := by
  have HP := Lib.hid hP
  have HS := Lib.hid hS
  have HSE := Lib.hid hE
  have HSB := Lib.hid hS.big
  have HEB := Lib.hid hE.big
  have hn := h.1
  have HBR := Lib.hid h
  clear h hP hS hE
  by_cases hbig : 1048576 < n
  · have hd : decide (1048576 < n) = true := decide_eq_true hbig
    go_enter Tryd.func9, Tryd.ntmps9
    go_wp2_with fail
    go_at_call 30
    refine (laws_big_calls A c n _ hn).mono ?_
    rw [hd]
    rintro e w1 ⟨rfl, rfl⟩
    go_wp2
    go_ret
    exact ⟨rfl, Below.refl _ _⟩
  · have hd : decide (1048576 < n) = false := decide_eq_false hbig
    go_enter Tryd.func9, Tryd.ntmps9
    go_wp2_with fail
    go_at_call 30
    refine (laws_big_calls A c n _ hn).mono ?_
    rw [hd]
    rintro e w1 ⟨rfl, rfl⟩
    go_wp2_with fail
    go_at_call 35
    refine (spec_DrawArityOk_calls A c n _ HBR.out).mono ?_
    rintro e w1 ⟨A1, c1, xs, rfl, hr, hk, hsm, hb⟩
    have HB1 := Lib.hid hb
    have HR := Lib.hid hr
    have HSM := Lib.hid hsm
    clear hb hr hsm
    by_cases h0 : xs.length = 0
    · have hc : oneOfB xs (bs cmdN) = false := oneOf_none h0
      have HU := Lib.hid (unk_yes hc)
      have HA := Lib.hid (arity_none h0)
      have hl0 : ((xs.length : Int) == 0) = true := by rw [h0]; rfl
      clear hc h0
      go_wp2_with fail
      go_at_call 18
      refine (impl_Unknown_calls A1 c1 xs _ HR.out (HS.out.below HB1.out HSB.out)).mono ?_
      rintro e w2 ⟨rfl, hb⟩
      have HB2 := Lib.hid (HB1.out.trans (hb.mono HB1.out.size))
      have HR2 := Lib.hid (HR.out.below hb)
      generalize unkS xs = U at HU ⊢
      have hu := HU.out
      rw [Bool.not_false] at hu
      clear hb HU
      go_wp2_with fail
      go_at_call 15
      refine (impl_ArityOk_calls A1 c1 xs _ HR2.out (HS.out.below HB2.out HSB.out)).mono ?_
      rw [HA.out]
      rintro e w3 ⟨rfl, hb⟩
      have HB3 := Lib.hid (HB2.out.trans (hb.mono HB2.out.size))
      clear hb
      go_wp2
      go_ret
      exact ⟨rfl, HB3.out⟩
    · obtain ⟨ad, x, hA, hc0, hz, HX⟩ := HR.out.at_ (k := 0) (by omega)
      subst hA
      have hc : w1.cell? ad = some (.string x) := hc0
      have hl0 : ((xs.length : Int) == 0) = false := beq_eq_false_iff_ne.mpr (by omega)
      have hxl : (0 : Int) < (xs.length : Int) := by omega
      clear hc0 h0
      go_wp2_with fail
      go_at_call 36
      refine (spec_Upper_calls x _ hz).mono ?_
      rintro e w2 ⟨rfl, hb⟩
      have HB2 := Lib.hid (HB1.out.trans (hb.mono HB1.out.size))
      have HR2 := Lib.hid (HR.out.below hb)
      clear hb
      have HN : Hid (oneOfB xs (bs cmdN) = Lib.containsS cmdW (upS x)) := by rw [Hid, oneOf_some HX.out, cmdN_words]
      have HWL : Hid (((cmdW.length : Nat) : Int) = 41) := by rw [Hid]; kernel_rfl
      go_wp2_with fail
      go_at_call 37
      refine (impl_Commands_calls _ (HS.out.below HB2.out HSB.out)).mono ?_
      rintro e w3 ⟨b, rfl, hbl, hblk, hb⟩
      have HB3 := Lib.hid (HB2.out.trans (hb.mono HB2.out.size))
      have HR3 := Lib.hid (HR2.out.below hb)
      have HK3 := Lib.hid hblk
      clear hb hblk
      generalize cmdW = W at HN HWL HK3
      generalize upS x = z at HN
      have hwl : W.length = 41 := by have := HWL.out; omega
      have HZ := Lib.hid (fun (j : Nat) (hj : j < W.length) => (show ∃ y, W[j]? = some y from ⟨_, List.getElem?_eq_getElem hj⟩))
      go_wp2_with fail
      go_loopw [5, 7] (fun kv iv wr => ∃ i : Nat, i ≤ 41 ∧ iv = .int .i64 (i : Int) ∧ kv = .bool (Lib.containsS (W.take i) z) ∧ Hid (Below w3.heap.size w3 wr)) (fun _ iv _ => 41 - (intOf iv).toNat)
      case atStart => exact ⟨0, by omega, rfl, rfl, Below.refl _ _⟩
      case round =>
        obtain ⟨i, hi, rfl, rfl, HB⟩ := hrel
        by_cases hlt : i < 41
        · have hli : (i : Int) < 41 := by omega
          obtain ⟨y, hy⟩ := HZ.out i (by omega)
          have hcl := strBlk_at (HK3.out.below HB.out) hy
          have HY := Lib.hid hy
          clear hy
          cases hk : Lib.containsS (W.take i) z
          · cases hq : (y.toList == z.toList)
            all_goals
              have HC := Lib.hid (cstep HY.out hk hq)
              clear hk
              go_wp2
              go_roundw
              case rel => first | exact ⟨i + 1, by omega, by go_num, by rw [HC.out]; rfl, HB⟩ | (repeat (first | (refine ⟨?relx, rfl⟩; exact ⟨i + 1, by omega, by go_num, by rw [HC.out]; rfl, HB⟩) | (refine ⟨?relx, ?eqs⟩; (case eqs => (and_intros <;> rfl)); exact ⟨i + 1, by omega, by go_num, by rw [HC.out]; rfl, HB⟩) | apply Exists.intro))
              case measure => simp [intOf]; omega
          · have HC := Lib.hid (cstep HY.out hk rfl)
            clear hk
            go_wp2
            go_roundw
            case rel => first | exact ⟨i + 1, by omega, by go_num, by rw [HC.out]; rfl, HB⟩ | (repeat (first | (refine ⟨?relx, rfl⟩; exact ⟨i + 1, by omega, by go_num, by rw [HC.out]; rfl, HB⟩) | (refine ⟨?relx, ?eqs⟩; (case eqs => (and_intros <;> rfl)); exact ⟨i + 1, by omega, by go_num, by rw [HC.out]; rfl, HB⟩) | apply Exists.intro))
            case measure => simp [intOf]; omega
        · obtain rfl : i = 41 := by omega
          have HB4 := Lib.hid (HB3.out.trans (HB.out.mono HB3.out.size))
          have HR4 := Lib.hid (HR3.out.below HB.out)
          have hfl : W.take 41 = W := List.take_of_length_le (by omega)
          rw [hfl, ← HN.out]
          clear hfl
          cases hkn : oneOfB xs (bs cmdN)
          · have HU := Lib.hid (unk_yes hkn)
            have HE := Lib.hid (unk_empty (xs := xs))
            have HAU := Lib.hid (arity_one hkn)
            have HWR : Hid (writesB xs = false) := by rw [Hid, writesB, hkn]; rfl
            clear hkn
            go_wp2_with fail
            go_at_call 18
            refine (impl_Unknown_calls (some ad) c1 xs _ HR4.out (HS.out.below HB4.out HSB.out)).mono ?_
            rintro e w5 ⟨rfl, hb⟩
            have HB5 := Lib.hid (HB4.out.trans (hb.mono HB4.out.size))
            have HR5 := Lib.hid (HR4.out.below hb)
            generalize unkS xs = U at HU HE ⊢
            have hu := HU.out
            have he := HE.out
            rw [Bool.not_false] at hu
            rw [HAU.out] at he
            clear hb HU HE
            go_wp2_with fail
            go_at_call 15
            refine (impl_ArityOk_calls (some ad) c1 xs _ HR5.out (HS.out.below HB5.out HSB.out)).mono ?_
            rw [HAU.out]
            rintro e w6 ⟨rfl, hb⟩
            have HB6 := Lib.hid (HB5.out.trans (hb.mono HB5.out.size))
            have HR6 := Lib.hid (HR5.out.below hb)
            clear hb
            go_wp2_with fail
            go_at_call 15
            refine (impl_ArityOk_calls (some ad) c1 xs _ HR6.out (HS.out.below HB6.out HSB.out)).mono ?_
            rw [HAU.out]
            rintro e w7 ⟨rfl, hb⟩
            have HB7 := Lib.hid (HB6.out.trans (hb.mono HB6.out.size))
            have HR7 := Lib.hid (HR6.out.below hb)
            clear hb
            go_wp2_with fail
            go_at_call 13
            refine (spec_ArityOk_calls (some ad) c1 xs _ HR7.out).mono ?_
            rw [HAU.out]
            rintro e w8 ⟨rfl, hb⟩
            have HB8 := Lib.hid (HB7.out.trans (hb.mono HB7.out.size))
            have HR8 := Lib.hid (HR7.out.below hb)
            clear hb
            go_wp2_with fail
            go_at_call 38
            refine (impl_Writes_calls (some ad) c1 xs _ HR8.out (HS.out.below HB8.out HSB.out)).mono ?_
            rw [HWR.out]
            rintro e w9 ⟨rfl, hb⟩
            have HB9 := Lib.hid (HB8.out.trans (hb.mono HB8.out.size))
            clear hb
            go_wp2_with fail
            go_at_call 34
            refine (spec_DrawPlaces_calls A c n _ (byRow_below HBR.out HB9.out)).mono ?_
            rintro e wa ⟨pb, pc, X, rfl, hcell, hx0, hx1, hpc, hb⟩
            have HBa := Lib.hid (HB9.out.trans (hb.mono HB9.out.size))
            clear hb
            have HRI := Lib.hid (riOf_itoa (X - 5000) ⟨by omega, by omega⟩)
            have HRZ := Lib.hid (riOf_zero (n := X - 5000) (by omega) (by omega))
            have hil := itoa_len (X - 5000) (by omega) (by omega)
            go_wp2_with fail
            go_at_call 39
            refine (spec_Decimal_calls (X - 5000) _ (by omega) (by omega)).mono ?_
            rintro e wb ⟨rfl, hb⟩
            have HBb := Lib.hid (HBa.out.trans (hb.mono HBa.out.size))
            clear hb
            go_wp2_with fail
            go_at_call 24
            refine (impl_ReadInt_calls _ _ (by rw [bs_size]; omega) (powB HP.out HBb.out) (HSE.out.below HBb.out HEB.out)).mono ?_
            rw [ub_bs, HRI.out]
            rintro e wc ⟨rfl, hb⟩
            have HBc := Lib.hid (HBb.out.trans (hb.mono HBb.out.size))
            clear hb
            simp only [riRes_some]
            go_wp2_with fail
            go_at_call 39
            refine (spec_Decimal_calls (X - 5000) _ (by omega) (by omega)).mono ?_
            rintro e wd ⟨rfl, hb⟩
            have HBd := Lib.hid (HBc.out.trans (hb.mono HBc.out.size))
            clear hb
            go_wp2_with fail
            go_at_call 24
            refine (impl_ReadInt_calls _ _ (by rw [ByteArray.size_append, bs_size]; have h6 : (⟨#[48]⟩ : ByteArray).size = 1 := rfl; omega) (powB HP.out HBd.out) (HSE.out.below HBd.out HEB.out)).mono ?_
            rw [ub_zero, HRZ.out]
            rintro e we ⟨rfl, hb⟩
            have HBe := Lib.hid (HBd.out.trans (hb.mono HBd.out.size))
            clear hb
            simp only [riRes_none]
            go_wp2
            go_ret
            exact ⟨rfl, HBe.out⟩
          · have HU := Lib.hid (unk_yes hkn)
            have HE := Lib.hid (unk_empty (xs := xs))
            clear hkn
            cases hau : arityB xs
            all_goals
              have HAU := Lib.hid hau
              clear hau
              go_wp2_with fail
              go_at_call 18
              refine (impl_Unknown_calls (some ad) c1 xs _ HR4.out (HS.out.below HB4.out HSB.out)).mono ?_
              rintro e w5 ⟨rfl, hb⟩
              have HB5 := Lib.hid (HB4.out.trans (hb.mono HB4.out.size))
              have HR5 := Lib.hid (HR4.out.below hb)
              generalize unkS xs = U at HU HE ⊢
              have hu := HU.out
              have he := HE.out
              rw [Bool.not_true] at hu
              rw [HAU.out] at he
              clear hb HU HE
              go_wp2_with fail
              go_at_call 15
              refine (impl_ArityOk_calls (some ad) c1 xs _ HR5.out (HS.out.below HB5.out HSB.out)).mono ?_
              rw [HAU.out]
              rintro e w6 ⟨rfl, hb⟩
              have HB6 := Lib.hid (HB5.out.trans (hb.mono HB5.out.size))
              have HR6 := Lib.hid (HR5.out.below hb)
              clear hb
              go_wp2_with fail
              go_at_call 15
              refine (impl_ArityOk_calls (some ad) c1 xs _ HR6.out (HS.out.below HB6.out HSB.out)).mono ?_
              rw [HAU.out]
              rintro e w7 ⟨rfl, hb⟩
              have HB7 := Lib.hid (HB6.out.trans (hb.mono HB6.out.size))
              have HR7 := Lib.hid (HR6.out.below hb)
              clear hb
              go_wp2_with fail
              go_at_call 13
              refine (spec_ArityOk_calls (some ad) c1 xs _ HR7.out).mono ?_
              rw [HAU.out]
              rintro e w8 ⟨rfl, hb⟩
              have HB8 := Lib.hid (HB7.out.trans (hb.mono HB7.out.size))
              have HR8 := Lib.hid (HR7.out.below hb)
              clear hb
              have HB9 := HB8
              go_wp2_with fail
              go_at_call 34
              refine (spec_DrawPlaces_calls A c n _ (byRow_below HBR.out HB9.out)).mono ?_
              rintro e wa ⟨pb, pc, X, rfl, hcell, hx0, hx1, hpc, hb⟩
              have HBa := Lib.hid (HB9.out.trans (hb.mono HB9.out.size))
              clear hb
              have HRI := Lib.hid (riOf_itoa (X - 5000) ⟨by omega, by omega⟩)
              have HRZ := Lib.hid (riOf_zero (n := X - 5000) (by omega) (by omega))
              have hil := itoa_len (X - 5000) (by omega) (by omega)
              go_wp2_with fail
              go_at_call 39
              refine (spec_Decimal_calls (X - 5000) _ (by omega) (by omega)).mono ?_
              rintro e wb ⟨rfl, hb⟩
              have HBb := Lib.hid (HBa.out.trans (hb.mono HBa.out.size))
              clear hb
              go_wp2_with fail
              go_at_call 24
              refine (impl_ReadInt_calls _ _ (by rw [bs_size]; omega) (powB HP.out HBb.out) (HSE.out.below HBb.out HEB.out)).mono ?_
              rw [ub_bs, HRI.out]
              rintro e wc ⟨rfl, hb⟩
              have HBc := Lib.hid (HBb.out.trans (hb.mono HBb.out.size))
              clear hb
              simp only [riRes_some]
              go_wp2_with fail
              go_at_call 39
              refine (spec_Decimal_calls (X - 5000) _ (by omega) (by omega)).mono ?_
              rintro e wd ⟨rfl, hb⟩
              have HBd := Lib.hid (HBc.out.trans (hb.mono HBc.out.size))
              clear hb
              go_wp2_with fail
              go_at_call 24
              refine (impl_ReadInt_calls _ _ (by rw [ByteArray.size_append, bs_size]; have h6 : (⟨#[48]⟩ : ByteArray).size = 1 := rfl; omega) (powB HP.out HBd.out) (HSE.out.below HBd.out HEB.out)).mono ?_
              rw [ub_zero, HRZ.out]
              rintro e we ⟨rfl, hb⟩
              have HBe := Lib.hid (HBd.out.trans (hb.mono HBd.out.size))
              clear hb
              simp only [riRes_none]
              go_wp2
              go_ret
              exact ⟨rfl, HBe.out⟩
end Go.Proofs.YtanpkomifhbhnaaDoor
