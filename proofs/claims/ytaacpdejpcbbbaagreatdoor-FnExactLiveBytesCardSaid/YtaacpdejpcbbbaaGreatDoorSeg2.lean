/- Segments: headOf and l06Head in memory; what a segment's file tells. -/
import Derived.Test.YtaacpdejpcbbbaaGreatDoorSeg1
import Derived.Test.YtaacpdejpcbbbaaGreatDoorGrow
import Derived.Test.YtaacpdejpcbbbaaGreatDoorBl
import Derived.Deep.RegionHeld3
namespace Go.Proofs.YtaacpdejpcbbbaaGreatDoor
set_option linter.unusedVariables false
set_option linter.unusedSimpArgs false
open Go.RowKit
attribute [local go_sem] bs_size List.length_cons List.length_nil List.length_append

/-- How long the frame of a record is. -/
def frameLen (r : ByteArray) : Nat := match frameB (ub r) with
  | some l => l.length
  | none => 0
theorem frameLen_le {r : ByteArray} (h : r.size ≤ 9000) : frameLen r ≤ 9020 := by
  unfold frameLen frameB
  have hv := var_len (n := (ub r).length) (by rw [ub_length]; omega)
  split
  · rename_i l h2
    split at h2
    · rw [← Option.some.inj h2]
      simp only [List.length_append, sum4_len, ub_length] at hv ⊢
      omega
    · cases h2
  · omega
/-- The head of a segment's file: its from, and how long its frame is. -/
def headOfB (n : Int) (s : ByteArray) : Option (Nat × Nat) := match (unframeB s).1 with
  | [] => none
  | r :: _ => match hdI n r with
    | none => none
    | some f => some (f, frameLen r)
def hoRes (o : Option (Nat × Nat)) : Value := match o with
  | some (f, l) => .tuple #[.int .i64 (f : Int), .int .i64 (l : Int), .bool true]
  | none => .tuple #[.int .i64 0, .int .i64 0, .bool false]
theorem headOf_nil {n : Int} {s : ByteArray} (h : (unframeB s).1 = []) : headOfB n s = none := by unfold headOfB; rw [h]
theorem headOf_cons {n : Int} {s r : ByteArray} {rs : List ByteArray} (h : (unframeB s).1 = r :: rs) : headOfB n s = match hdI n r with | none => none | some f => some (f, frameLen r) := by unfold headOfB; rw [h]
theorem headOf_no {n : Int} {s r : ByteArray} {rs : List ByteArray} (h : (unframeB s).1 = r :: rs) (h2 : hdI n r = none) : headOfB n s = none := by rw [headOf_cons h, h2]
theorem headOf_yes {n : Int} {s r : ByteArray} {rs : List ByteArray} {f : Nat} (h : (unframeB s).1 = r :: rs) (h2 : hdI n r = some f) : headOfB n s = some (f, frameLen r) := by rw [headOf_cons h, h2]
theorem head_frame {n : Int} {r : ByteArray} {f : Nat} (h : hdI n r = some f) : headText n (f : Int) = frameB (ub r) := by
  obtain ⟨⟨h1, h2⟩, h3, h4⟩ := hdI_is h
  obtain ⟨n, rfl⟩ := Int.eq_ofNat_of_zero_le h1
  rw [headText_yes (by omega) (by omega), h4, Int.toNat_natCast]
theorem head_len {n : Int} {r : ByteArray} {f : Nat} (h : hdI n r = some f) {l : List UInt8} (hl : headText n (f : Int) = some l) : frameLen r = l.length := by
  unfold frameLen
  rw [← head_frame h, hl]
theorem hdI_no {n : Int} {r : ByteArray} (h : ¬ ((hdL r).1 = 72 ∧ rDone r (hdF r).2.1 (hdF r).2.2 = true ∧ (headText ((hdN r).1 : Int) ((hdF r).1 : Int)).isSome = true ∧ ((hdN r).1 : Int) = n)) : hdI n r = none := if_neg h
theorem hdI_yes {n : Int} {r : ByteArray} (h : (hdL r).1 = 72 ∧ rDone r (hdF r).2.1 (hdF r).2.2 = true ∧ (headText ((hdN r).1 : Int) ((hdF r).1 : Int)).isSome = true ∧ ((hdN r).1 : Int) = n) : hdI n r = some (hdF r).1 := if_pos h
theorem ownS_at0 {w : World} {B : Nat} {v : Value} {r : ByteArray} {rs : List ByteArray} (h : OwnS w B v (r :: rs)) : ∃ ad c, v = .slice (some ad) (rs.length + 1) c ∧ w.cell? ad = some (.string r) := by
  rcases own_cells (f := fun x : ByteArray => [Value.string x]) (m := 1) (fun _ => rfl) (xs := r :: rs) (by
    have e : ((r :: rs).map fun x : ByteArray => [Value.string x]).flatten = (r :: rs).map Value.string := by
      generalize r :: rs = l
      induction l with
      | nil => rfl
      | cons x l ih => rw [List.map_cons, List.flatten_cons, ih]; rfl
    rw [e]; exact h) with ⟨_, h2⟩ | ⟨g, cap, rfl, _, _, _, _, hc⟩
  · cases h2
  · exact ⟨⟨g, 0, none⟩, cap, rfl, hc 0 r 0 rfl (by omega)⟩
set_option maxHeartbeats 2000000 in
set_option maxRecDepth 100000 in
theorem impl_headOf_calls (n : Int) (s : ByteArray) (w : World) (hs : s.size ≤ 1125899906842624) : Calls Tryz.prog 84 #[.int .i64 n, .string s] w fun e w' => e = .returned (hoRes (headOfB n s)) ∧ Below w.heap.size w w' := by
  have HLE := Lib.hid (unframeB_le s)
  cases hu : (unframeB s).1 with
  | nil =>
    have HE := Lib.hid (headOf_nil (n := n) hu)
    have HU := Lib.hid hu
    clear hu
    go_enter Tryz.func84, Tryz.ntmps84
    go_wp2_with fail
    go_at_call 90
    refine (impl_Unframe_calls s _ hs).mono ?_
    rintro e w1 ⟨v, rfl, ho, hb⟩
    rw [HU.out] at ho
    obtain ⟨A, c, rfl⟩ := ho.form
    rw [List.length_nil]
    go_wp2
    go_ret3
    exact ⟨by rw [HE.out]; rfl, hb⟩
  | cons r rs =>
    have HU := Lib.hid hu
    have hrs : 1 ≤ r.size ∧ r.size ≤ 9000 := (unframeB_le s).2.2 r (by rw [hu]; simp)
    have a1 : (hdL r).2.1 ≤ r.size := (rByte_le r false (Nat.zero_le _)).1
    have a2 : (hdN r).2.1 ≤ r.size := (rNum_le r _ _ a1).2.1
    have a3 : (hdF r).2.1 ≤ r.size := (rNum_le r _ _ a2).2.1
    have HNO := Lib.hid (fun h => headOf_no (n := n) (s := s) hu h)
    have HYES := Lib.hid (fun f h => headOf_yes (n := n) (s := s) (f := f) hu h)
    clear hu
    go_enter Tryz.func84, Tryz.ntmps84
    go_wp2_with fail
    go_at_call 90
    refine (impl_Unframe_calls s _ hs).mono ?_
    rintro e w1 ⟨v, rfl, ho, hb⟩
    rw [HU.out] at ho
    obtain ⟨ad, c, rfl, hc0⟩ := ownS_at0 ho
    have HB1 := Lib.hid hb
    have hln : (rs.length : Int) + 1 ≤ 20000 := by have := HLE.out.2.1; rw [HU.out] at this; simp at this; omega
    have HRD : Hid (RdAt 160 (w1.alloc (.cells #[.string r, .int .i64 0, .bool false] 160)) w1.heap.size r 0 false) := blk_new w1 _
    have HBL : Hid (Below w.heap.size w (w1.alloc (.cells #[.string r, .int .i64 0, .bool false] 160))) := HB1.out.alloc HB1.out.size _
    clear ho hb
    have hz0 : ((rs.length : Int) + 1 == 0) = false := beq_eq_false_iff_ne.mpr (by omega)
    have hz1 : (0 : Int) < (rs.length : Int) + 1 := by omega
    go_wp2_with fail
    go_at_call 126
    refine (impl_byte_calls _ r 0 false _ HRD.out (Nat.zero_le _) (by omega)).mono ?_
    rw [show rByte r 0 false = hdL r from rfl]
    rintro e w2 ⟨rfl, hr, hg⟩
    have HR2 := Lib.hid hr
    have HB2 := Lib.hid (gr_below HBL.out hg HBL.out.size (fun k e => by cases e; exact HB1.out.size))
    clear hr hg
    go_wp2_with fail
    go_at_call 127
    refine (impl_num_calls _ r _ _ _ HR2.out a1 (by omega)).mono ?_
    rw [show rNum r (hdL r).2.1 (hdL r).2.2 = hdN r from rfl]
    rintro e w3 ⟨rfl, hr, hg⟩
    have HR3 := Lib.hid hr
    have HB3 := Lib.hid (gr_below HB2.out hg HB2.out.size (fun k e => by cases e; exact HB1.out.size))
    clear hr hg
    go_wp2_with fail
    go_at_call 127
    refine (impl_num_calls _ r _ _ _ HR3.out a2 (by omega)).mono ?_
    rw [show rNum r (hdN r).2.1 (hdN r).2.2 = hdF r from rfl]
    rintro e w4 ⟨rfl, hr, hg⟩
    have HR4 := Lib.hid hr
    have HB4 := Lib.hid (gr_below HB3.out hg HB3.out.size (fun k e => by cases e; exact HB1.out.size))
    clear hr hg
    go_wp2_with fail
    go_at_call 128
    refine (impl_HeadText_calls _ _ _).mono ?_
    rintro e w5 ⟨rfl, hb⟩
    have HR5 := Lib.hid (HR4.out.below hb)
    have HB5 := Lib.hid (HB4.out.trans (hb.mono HB4.out.size))
    clear hb
    by_cases hl : (hdL r).1 = 72
    · have hlt : (((hdL r).1 : Int) != 72) = false := by rw [hl]; rfl
      cases hh : headText ((hdN r).1 : Int) ((hdF r).1 : Int) with
      | none =>
        have HE := Lib.hid (HNO.out (hdI_no (n := n) (r := r) (fun q => by rw [hh] at q; cases q.2.2.1)))
        clear hl hh
        simp only [varRes]
        go_wp2_with fail
        go_at_call 129
        refine (impl_done_calls _ r _ _ _ HR5.out a3 (by omega)).mono ?_
        rintro e w6 ⟨rfl, hb⟩
        cases rDone r (hdF r).2.1 (hdF r).2.2
        all_goals
          go_wp2
          go_ret3
          exact ⟨by rw [HE.out]; rfl, HB5.out.trans (hb.mono HB5.out.size)⟩
      | some L =>
        have HL : Hid (∀ f, hdI n r = some f → ((hdN r).1 : Int) = n → f = (hdF r).1 → frameLen r = L.length) := fun f h1 h2 h3 => head_len h1 (by rw [← h2, h3]; exact hh)
        have HHS : Hid ((headText ((hdN r).1 : Int) ((hdF r).1 : Int)).isSome = true) := by rw [Hid, hh]; rfl
        simp only [varRes]
        cases hd : rDone r (hdF r).2.1 (hdF r).2.2
        · have HE := Lib.hid (HNO.out (hdI_no (n := n) (r := r) (fun q => by rw [hd] at q; cases q.2.1)))
          have HD := Lib.hid hd
          clear hl hh hd
          go_wp2_with fail
          go_at_call 129
          refine (impl_done_calls _ r _ _ _ HR5.out a3 (by omega)).mono ?_
          rw [HD.out]
          rintro e w6 ⟨rfl, hb⟩
          go_wp2
          go_ret3
          exact ⟨by rw [HE.out]; rfl, HB5.out.trans (hb.mono HB5.out.size)⟩
        · have HD := Lib.hid hd
          by_cases hnn : ((hdN r).1 : Int) = n
          · have hy := hdI_yes (n := n) (r := r) ⟨hl, hd, HHS.out, hnn⟩
            have HE := Lib.hid (HYES.out _ hy)
            have HFL := Lib.hid (HL.out _ hy hnn rfl)
            have hne : (((hdN r).1 : Int) != n) = false := by rw [hnn]; simp
            clear hl hh hd hnn hy
            go_wp2_with fail
            go_at_call 129
            refine (impl_done_calls _ r _ _ _ HR5.out a3 (by omega)).mono ?_
            rw [HD.out]
            rintro e w6 ⟨rfl, hb⟩
            go_wp2
            go_ret3
            exact ⟨by rw [HE.out, HFL.out]; rfl, HB5.out.trans (hb.mono HB5.out.size)⟩
          · have HE := Lib.hid (HNO.out (hdI_no (n := n) (r := r) (fun q => hnn q.2.2.2)))
            have hne : (((hdN r).1 : Int) != n) = true := bne_iff_ne.mpr hnn
            clear hl hh hd hnn
            go_wp2_with fail
            go_at_call 129
            refine (impl_done_calls _ r _ _ _ HR5.out a3 (by omega)).mono ?_
            rw [HD.out]
            rintro e w6 ⟨rfl, hb⟩
            go_wp2
            go_ret3
            exact ⟨by rw [HE.out]; rfl, HB5.out.trans (hb.mono HB5.out.size)⟩
    · have HE := Lib.hid (HNO.out (hdI_no (n := n) (r := r) (fun q => hl q.1)))
      have hlt : (((hdL r).1 : Int) != 72) = true := bne_iff_ne.mpr (by omega)
      clear hl
      cases headText ((hdN r).1 : Int) ((hdF r).1 : Int)
      all_goals
        simp only [varRes]
        go_wp2
        go_ret3
        exact ⟨by rw [HE.out]; rfl, HB5.out⟩
def hsRes (o : Option Nat) : Value := match o with
  | some f => .tuple #[.int .i64 (f : Int), .bool true]
  | none => .tuple #[.int .i64 0, .bool false]
theorem hdS_no {n : Int} {r : ByteArray} (h : ¬ ((heF r).2.2 = false ∧ ((heN r).1 : Int) = n ∧ inR ((heF r).1 : Int) 0 n = true ∧ headBytes n.toNat (heF r).1 = ub r)) : hdS n r = none := if_neg h
theorem hdS_yes {n : Int} {r : ByteArray} (h : (heF r).2.2 = false ∧ ((heN r).1 : Int) = n ∧ inR ((heF r).1 : Int) 0 n = true ∧ headBytes n.toNat (heF r).1 = ub r) : hdS n r = some (heF r).1 := if_pos h
set_option maxHeartbeats 2000000 in
set_option maxRecDepth 100000 in
theorem spec_l06Head_calls (n : Nat) (r : ByteArray) (w : World) (hn : n ≤ 99) (hrs : r.size ≤ 1099511627776) : Calls Tryz.prog 145 #[.int .i64 (n : Int), .string r] w fun e w' => e = .returned (hsRes (hdS (n : Int) r)) ∧ Below w.heap.size w w' := by
  have HRD : Hid (RdAt 145 (w.alloc (.cells #[.string r, .int .i64 0, .bool false] 145)) w.heap.size r 0 false) := blk_new w _
  have HBL : Hid (Below w.heap.size w (w.alloc (.cells #[.string r, .int .i64 0, .bool false] 145))) := (Below.refl _ _).alloc (Nat.le_refl _) _
  have a1 : (heL r).2.1 ≤ r.size := (cTake_le r _ _ (Nat.zero_le _)).1
  have a2 : (heN r).2.1 ≤ r.size := (rNum_le r _ _ a1).2.1
  have hf1 : (heF r).1 ≤ 1000000000 := (rNum_le r _ _ a2).1
  go_enter Tryz.func145, Tryz.ntmps145
  go_wp2_with fail
  go_at_call 115
  refine (spec_Take_calls _ r 0 false 1 _ HRD.out (Nat.zero_le _) (by omega) (by omega)).mono ?_
  rw [show cTake r 0 false 1 = heL r from rfl]
  rintro e w1 ⟨rfl, hr, hg⟩
  have HR1 := Lib.hid hr
  have HB1 := Lib.hid (gr_below HBL.out hg HBL.out.size (fun k e => by cases e; exact Nat.le_refl _))
  clear hr hg
  go_wp2_with fail
  go_at_call 116
  refine (spec_num_calls _ r _ _ _ HR1.out a1 (by omega)).mono ?_
  rw [show rNum r (heL r).2.1 (heL r).2.2 = heN r from rfl]
  rintro e w2 ⟨rfl, hr, hg⟩
  have HR2 := Lib.hid hr
  have HB2 := Lib.hid (gr_below HB1.out hg HB1.out.size (fun k e => by cases e; exact Nat.le_refl _))
  clear hr hg
  go_wp2_with fail
  go_at_call 116
  refine (spec_num_calls _ r _ _ _ HR2.out a2 (by omega)).mono ?_
  rw [show rNum r (heN r).2.1 (heN r).2.2 = heF r from rfl]
  rintro e w3 ⟨rfl, hr, hg⟩
  have HR3 := Lib.hid hr
  have HB3 := Lib.hid (gr_below HB2.out hg HB2.out.size (fun k e => by cases e; exact Nat.le_refl _))
  have cb := hr.c2
  clear hr hg
  cases hbd : (heF r).2.2
  rotate_left
  · have HE := Lib.hid (hdS_no (n := (n : Int)) (r := r) (fun q => by rw [hbd] at q; cases q.1))
    rw [hbd] at cb
    clear hbd
    go_wp2
    go_ret2
    exact ⟨by rw [HE.out]; rfl, HB3.out⟩
  · rw [hbd] at cb
    by_cases hnn : ((heN r).1 : Int) = (n : Int)
    rotate_left
    · have HE := Lib.hid (hdS_no (n := (n : Int)) (r := r) (fun q => hnn q.2.1))
      have hne : (((heN r).1 : Int) != (n : Int)) = true := bne_iff_ne.mpr hnn
      clear hbd hnn
      go_wp2
      go_ret2
      exact ⟨by rw [HE.out]; rfl, HB3.out⟩
    · have hne : (((heN r).1 : Int) != (n : Int)) = false := by rw [hnn]; simp
      cases hin : inR ((heF r).1 : Int) 0 (n : Int)
      · have HE := Lib.hid (hdS_no (n := (n : Int)) (r := r) (fun q => by rw [hin] at q; cases q.2.2.1))
        have HI := Lib.hid hin
        clear hbd hnn hin
        go_wp2_with fail
        go_at_call 48
        refine (spec_l01In_calls _ _ _ _).mono ?_
        rw [HI.out]
        rintro e w' ⟨rfl, rfl⟩
        go_wp2
        go_ret2
        exact ⟨by rw [HE.out]; rfl, HB3.out⟩
      · have HI := Lib.hid hin
        have hv1 := var_len (n := n) (by omega)
        have hv2 := var_len (n := (heF r).1) (by omega)
        have hn9 : n ≤ 9223372036854775807 := by omega
        have hf9 : (heF r).1 ≤ 9223372036854775807 := by omega
        have s1 : (9223372036854775807 < 1 + (varBytes n).length) = False := eq_false (by omega)
        have s2 : (9223372036854775807 < 1 + (varBytes n).length + (varBytes (heF r).1).length) = False := eq_false (by omega)
        have HJ := Lib.hid (head_join2 n (heF r).1)
        by_cases hq : headBytes n (heF r).1 = ub r
        · have HE := Lib.hid (hdS_yes (n := (n : Int)) (r := r) ⟨hbd, hnn, hin, by rw [Int.toNat_natCast]; exact hq⟩)
          have hqq : (((⟨#[72]⟩ : ByteArray) ++ bs (varBytes n) ++ bs (varBytes (heF r).1)).toList == r.toList) = true := by rw [HJ.out]; exact beq_iff_eq.mpr (congrArg ByteArray.toList (by rw [hq, bs_ub]))
          clear hbd hnn hin hq
          go_wp2_with fail
          go_at_call 48
          refine (spec_l01In_calls _ _ _ _).mono ?_
          rw [HI.out]
          rintro e w' ⟨rfl, rfl⟩
          go_wp2_with fail
          go_at_call 119
          refine (spec_l01Var_calls _ _ hn9).mono ?_
          rintro e w4 ⟨rfl, hb⟩
          have HB4 := Lib.hid (HB3.out.trans (hb.mono HB3.out.size))
          clear hb
          go_wp2_with fail
          go_at_call 119
          refine (spec_l01Var_calls _ _ hf9).mono ?_
          rintro e w5 ⟨rfl, hb⟩
          have HB5 := Lib.hid (HB4.out.trans (hb.mono HB4.out.size))
          clear hb
          go_wp2
          go_ret2
          exact ⟨by rw [HE.out]; rfl, HB5.out⟩
        · have HE := Lib.hid (hdS_no (n := (n : Int)) (r := r) (fun q => hq (by have := q.2.2.2; rwa [Int.toNat_natCast] at this)))
          have hqq : (((⟨#[72]⟩ : ByteArray) ++ bs (varBytes n) ++ bs (varBytes (heF r).1)).toList == r.toList) = false := by rw [HJ.out]; exact beq_eq_false_iff_ne.mpr fun z => hq (by have e := congrArg ub (toList_inj.mp z); rw [ub_bs] at e; exact e)
          clear hbd hnn hin hq
          go_wp2_with fail
          go_at_call 48
          refine (spec_l01In_calls _ _ _ _).mono ?_
          rw [HI.out]
          rintro e w' ⟨rfl, rfl⟩
          go_wp2_with fail
          go_at_call 119
          refine (spec_l01Var_calls _ _ hn9).mono ?_
          rintro e w4 ⟨rfl, hb⟩
          have HB4 := Lib.hid (HB3.out.trans (hb.mono HB3.out.size))
          clear hb
          go_wp2_with fail
          go_at_call 119
          refine (spec_l01Var_calls _ _ hf9).mono ?_
          rintro e w5 ⟨rfl, hb⟩
          have HB5 := Lib.hid (HB4.out.trans (hb.mono HB4.out.size))
          clear hb
          go_wp2
          go_ret2
          exact ⟨by rw [HE.out]; rfl, HB5.out⟩
end Go.Proofs.YtaacpdejpcbbbaaGreatDoor
