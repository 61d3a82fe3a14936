/- Segments: headOf and l06Head in memory; what a segment's file tells. -/
import Derived.Test.YtdkdlgioabjldaaSeg1
import Derived.Test.YtdkdlgioabjldaaGrow
import Derived.Test.YtdkdlgioabjldaaBl
import Derived.Deep.RegionHeld3
namespace Go.Proofs.Ytdkdlgioabjldaa
set_option linter.unusedVariables false
set_option linter.unusedSimpArgs false
open Go.RowKit
attribute [local go_sem] bs_size List.length_cons List.length_nil List.length_append

/-- How long the frame of a record is. -/
def frameLen (r : ByteArray) : Nat := match frameB (ub r) with
  | some l => l.length
  | none => 0
theorem frameLen_le {r : ByteArray} (h : r.size ≤ 9000) : frameLen r ≤ 9020 := by
  unfold frameLen frameB
  have hv := var_len (n := (ub r).length) (by rw [ub_length]; omega)
  split
  · rename_i l h2
    split at h2
    · rw [← Option.some.inj h2]
      simp only [List.length_append, sum4_len, ub_length] at hv ⊢
      omega
    · cases h2
  · omega
/-- The head of a segment's file: its from, and how long its frame is. -/
def headOfB (n : Int) (s : ByteArray) : Option (Nat × Nat) := match (unframeB s).1 with
  | [] => none
  | r :: _ => match hdI n r with
    | none => none
    | some f => some (f, frameLen r)
def hoRes (o : Option (Nat × Nat)) : Value := match o with
  | some (f, l) => .tuple #[.int .i64 (f : Int), .int .i64 (l : Int), .bool true]
  | none => .tuple #[.int .i64 0, .int .i64 0, .bool false]
theorem headOf_nil {n : Int} {s : ByteArray} (h : (unframeB s).1 = []) : headOfB n s = none := by unfold headOfB; rw [h]
theorem headOf_cons {n : Int} {s r : ByteArray} {rs : List ByteArray} (h : (unframeB s).1 = r :: rs) : headOfB n s = match hdI n r with | none => none | some f => some (f, frameLen r) := by unfold headOfB; rw [h]
theorem headOf_no {n : Int} {s r : ByteArray} {rs : List ByteArray} (h : (unframeB s).1 = r :: rs) (h2 : hdI n r = none) : headOfB n s = none := by rw [headOf_cons h, h2]
theorem headOf_yes {n : Int} {s r : ByteArray} {rs : List ByteArray} {f : Nat} (h : (unframeB s).1 = r :: rs) (h2 : hdI n r = some f) : headOfB n s = some (f, frameLen r) := by rw [headOf_cons h, h2]
theorem head_frame {n : Int} {r : ByteArray} {f : Nat} (h : hdI n r = some f) : headText n (f : Int) = frameB (ub r) := by
  obtain ⟨⟨h1, h2⟩, h3, h4⟩ := hdI_is h
  obtain ⟨n, rfl⟩ := Int.eq_ofNat_of_zero_le h1
  rw [headText_yes (by omega) (by omega), h4, Int.toNat_natCast]
theorem head_len {n : Int} {r : ByteArray} {f : Nat} (h : hdI n r = some f) {l : List UInt8} (hl : headText n (f : Int) = some l) : frameLen r = l.length := by
  unfold frameLen
  rw [← head_frame h, hl]
theorem hdI_no {n : Int} {r : ByteArray} (h : ¬ ((hdL r).1 = 72 ∧ rDone r (hdF r).2.1 (hdF r).2.2 = true ∧ (headText ((hdN r).1 : Int) ((hdF r).1 : Int)).isSome = true ∧ ((hdN r).1 : Int) = n)) : hdI n r = none := if_neg h
theorem hdI_yes {n : Int} {r : ByteArray} (h : (hdL r).1 = 72 ∧ rDone r (hdF r).2.1 (hdF r).2.2 = true ∧ (headText ((hdN r).1 : Int) ((hdF r).1 : Int)).isSome = true ∧ ((hdN r).1 : Int) = n) : hdI n r = some (hdF r).1 := if_pos h
theorem ownS_at0 {w : World} {B : Nat} {v : Value} {r : ByteArray} {rs : List ByteArray} (h : OwnS w B v (r :: rs)) : ∃ ad c, v = .slice (some ad) (rs.length + 1) c ∧ w.cell? ad = some (.string r) := by
  rcases own_cells (f := fun x : ByteArray => [Value.string x]) (m := 1) (fun _ => rfl) (xs := r :: rs) (by
    have e : ((r :: rs).map fun x : ByteArray => [Value.string x]).flatten = (r :: rs).map Value.string := by
      generalize r :: rs = l
      induction l with
      | nil => rfl
      | cons x l ih => rw [List.map_cons, List.flatten_cons, ih]; rfl
    rw [e]; exact h) with ⟨_, h2⟩ | ⟨g, cap, rfl, _, _, _, _, hc⟩
  · cases h2
  · exact ⟨⟨g, 0, none⟩, cap, rfl, hc 0 r 0 rfl (by omega)⟩
def hsRes (o : Option Nat) : Value := match o with
  | some f => .tuple #[.int .i64 (f : Int), .bool true]
  | none => .tuple #[.int .i64 0, .bool false]
theorem hdS_no {n : Int} {r : ByteArray} (h : ¬ ((heF r).2.2 = false ∧ ((heN r).1 : Int) = n ∧ inR ((heF r).1 : Int) 0 n = true ∧ headBytes n.toNat (heF r).1 = ub r)) : hdS n r = none := if_neg h
theorem hdS_yes {n : Int} {r : ByteArray} (h : (heF r).2.2 = false ∧ ((heN r).1 : Int) = n ∧ inR ((heF r).1 : Int) 0 n = true ∧ headBytes n.toNat (heF r).1 = ub r) : hdS n r = some (heF r).1 := if_pos h
set_option maxHeartbeats 2000000 in
set_option maxRecDepth 100000 in
theorem spec_l06Head_calls (n : Nat) (r : ByteArray) (w : World) (hn : n ≤ 99) (hrs : r.size ≤ 1099511627776) : Calls Try.prog 68 #[.int .i64 (n : Int), .string r] w fun e w' => e = .returned (hsRes (hdS (n : Int) r)) ∧ Below w.heap.size w w' := by
  have HRD : Hid (RdAt 52 (w.alloc (.cells #[.string r, .int .i64 0, .bool false] 52)) w.heap.size r 0 false) := blk_new w _
  have HBL : Hid (Below w.heap.size w (w.alloc (.cells #[.string r, .int .i64 0, .bool false] 52))) := (Below.refl _ _).alloc (Nat.le_refl _) _
  have a1 : (heL r).2.1 ≤ r.size := (cTake_le r _ _ (Nat.zero_le _)).1
  have a2 : (heN r).2.1 ≤ r.size := (rNum_le r _ _ a1).2.1
  have hf1 : (heF r).1 ≤ 1000000000 := (rNum_le r _ _ a2).1
  go_enter Try.func68, Try.ntmps68
  go_wp2_with fail
  go_at_call 51
  refine (spec_Take_calls _ r 0 false 1 _ HRD.out (Nat.zero_le _) (by omega) (by omega)).mono ?_
  rw [show cTake r 0 false 1 = heL r from rfl]
  rintro e w1 ⟨rfl, hr, hg⟩
  have HR1 := Lib.hid hr
  have HB1 := Lib.hid (gr_below HBL.out hg HBL.out.size (fun k e => by cases e; exact Nat.le_refl _))
  clear hr hg
  go_wp2_with fail
  go_at_call 30
  refine (spec_num_calls _ r _ _ _ HR1.out a1 (by omega)).mono ?_
  rw [show rNum r (heL r).2.1 (heL r).2.2 = heN r from rfl]
  rintro e w2 ⟨rfl, hr, hg⟩
  have HR2 := Lib.hid hr
  have HB2 := Lib.hid (gr_below HB1.out hg HB1.out.size (fun k e => by cases e; exact Nat.le_refl _))
  clear hr hg
  go_wp2_with fail
  go_at_call 30
  refine (spec_num_calls _ r _ _ _ HR2.out a2 (by omega)).mono ?_
  rw [show rNum r (heN r).2.1 (heN r).2.2 = heF r from rfl]
  rintro e w3 ⟨rfl, hr, hg⟩
  have HR3 := Lib.hid hr
  have HB3 := Lib.hid (gr_below HB2.out hg HB2.out.size (fun k e => by cases e; exact Nat.le_refl _))
  have cb := hr.c2
  clear hr hg
  cases hbd : (heF r).2.2
  rotate_left
  · have HE := Lib.hid (hdS_no (n := (n : Int)) (r := r) (fun q => by rw [hbd] at q; cases q.1))
    rw [hbd] at cb
    clear hbd
    go_wp2
    go_ret2
    exact ⟨by rw [HE.out]; rfl, HB3.out⟩
  · rw [hbd] at cb
    by_cases hnn : ((heN r).1 : Int) = (n : Int)
    rotate_left
    · have HE := Lib.hid (hdS_no (n := (n : Int)) (r := r) (fun q => hnn q.2.1))
      have hne : (((heN r).1 : Int) != (n : Int)) = true := bne_iff_ne.mpr hnn
      clear hbd hnn
      go_wp2
      go_ret2
      exact ⟨by rw [HE.out]; rfl, HB3.out⟩
    · have hne : (((heN r).1 : Int) != (n : Int)) = false := by rw [hnn]; simp
      cases hin : inR ((heF r).1 : Int) 0 (n : Int)
      · have HE := Lib.hid (hdS_no (n := (n : Int)) (r := r) (fun q => by rw [hin] at q; cases q.2.2.1))
        have HI := Lib.hid hin
        clear hbd hnn hin
        go_wp2_with fail
        go_at_call 46
        refine (spec_l01In_calls _ _ _ _).mono ?_
        rw [HI.out]
        rintro e w' ⟨rfl, rfl⟩
        go_wp2
        go_ret2
        exact ⟨by rw [HE.out]; rfl, HB3.out⟩
      · have HI := Lib.hid hin
        have hv1 := var_len (n := n) (by omega)
        have hv2 := var_len (n := (heF r).1) (by omega)
        have hn9 : n ≤ 9223372036854775807 := by omega
        have hf9 : (heF r).1 ≤ 9223372036854775807 := by omega
        have s1 : (9223372036854775807 < 1 + (varBytes n).length) = False := eq_false (by omega)
        have s2 : (9223372036854775807 < 1 + (varBytes n).length + (varBytes (heF r).1).length) = False := eq_false (by omega)
        have HJ := Lib.hid (head_join2 n (heF r).1)
        by_cases hq : headBytes n (heF r).1 = ub r
        · have HE := Lib.hid (hdS_yes (n := (n : Int)) (r := r) ⟨hbd, hnn, hin, by rw [Int.toNat_natCast]; exact hq⟩)
          have hqq : (((⟨#[72]⟩ : ByteArray) ++ bs (varBytes n) ++ bs (varBytes (heF r).1)).toList == r.toList) = true := by rw [HJ.out]; exact beq_iff_eq.mpr (congrArg ByteArray.toList (by rw [hq, bs_ub]))
          clear hbd hnn hin hq
          go_wp2_with fail
          go_at_call 46
          refine (spec_l01In_calls _ _ _ _).mono ?_
          rw [HI.out]
          rintro e w' ⟨rfl, rfl⟩
          go_wp2_with fail
          go_at_call 24
          refine (spec_l01Var_calls _ _ hn9).mono ?_
          rintro e w4 ⟨rfl, hb⟩
          have HB4 := Lib.hid (HB3.out.trans (hb.mono HB3.out.size))
          clear hb
          go_wp2_with fail
          go_at_call 24
          refine (spec_l01Var_calls _ _ hf9).mono ?_
          rintro e w5 ⟨rfl, hb⟩
          have HB5 := Lib.hid (HB4.out.trans (hb.mono HB4.out.size))
          clear hb
          go_wp2
          go_ret2
          exact ⟨by rw [HE.out]; rfl, HB5.out⟩
        · have HE := Lib.hid (hdS_no (n := (n : Int)) (r := r) (fun q => hq (by have := q.2.2.2; rwa [Int.toNat_natCast] at this)))
          have hqq : (((⟨#[72]⟩ : ByteArray) ++ bs (varBytes n) ++ bs (varBytes (heF r).1)).toList == r.toList) = false := by rw [HJ.out]; exact beq_eq_false_iff_ne.mpr fun z => hq (by have e := congrArg ub (toList_inj.mp z); rw [ub_bs] at e; exact e)
          clear hbd hnn hin hq
          go_wp2_with fail
          go_at_call 46
          refine (spec_l01In_calls _ _ _ _).mono ?_
          rw [HI.out]
          rintro e w' ⟨rfl, rfl⟩
          go_wp2_with fail
          go_at_call 24
          refine (spec_l01Var_calls _ _ hn9).mono ?_
          rintro e w4 ⟨rfl, hb⟩
          have HB4 := Lib.hid (HB3.out.trans (hb.mono HB3.out.size))
          clear hb
          go_wp2_with fail
          go_at_call 24
          refine (spec_l01Var_calls _ _ hf9).mono ?_
          rintro e w5 ⟨rfl, hb⟩
          have HB5 := Lib.hid (HB4.out.trans (hb.mono HB4.out.size))
          clear hb
          go_wp2
          go_ret2
          exact ⟨by rw [HE.out]; rfl, HB5.out⟩
end Go.Proofs.Ytdkdlgioabjldaa
