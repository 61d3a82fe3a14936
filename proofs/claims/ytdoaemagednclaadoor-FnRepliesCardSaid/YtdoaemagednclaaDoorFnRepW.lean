/- The walk of the law FnReplies. -/
import Derived.Test.YtdoaemagednclaaDoorDrawR2
import Derived.Test.YtdoaemagednclaaDoorRepS2
import Derived.Test.YtdoaemagednclaaDoorHelp
import Derived.Test.YtdoaemagednclaaDoorSentLaid
import Derived.Shelf.LaysM
namespace Go.Proofs.YtdoaemagednclaaDoor
set_option linter.unusedVariables false
set_option linter.unusedSimpArgs false
open Go.RowKit
attribute [local go_sem] bs_size List.length_cons List.length_nil List.length_append

theorem maxAt_of_shaped {w : World} (h : w.ShapedOpen Tryd.prog) : MaxAt w := by
  obtain ⟨m, hm⟩ := Go.Proofs.cell_of_shapedOpen_int (zero := #[.int .i64 0]) (g := 1) (t := 3) h (of_decide_eq_true (by kernel_rfl)) (by kernel_rfl) rfl (by kernel_rfl) (by kernel_rfl) Tryd.underlying3
  exact ⟨World.block_lt_of_cell? w _ hm, m, hm⟩
theorem byRow_below {w w' : World} {A : Option Addr} {n : Nat} (h : ByRow w A n) (hb : Below w.heap.size w w') : ByRow w' A n := by
  refine ⟨h.1, fun h0 => ?_⟩
  obtain ⟨ad, e, hl, hc⟩ := h.2 h0
  refine ⟨ad, e, Nat.lt_of_lt_of_le hl hb.size, fun j hj => ?_⟩
  obtain ⟨z, h0, h1, h2⟩ := hc j hj
  exact ⟨z, h0, h1, (hb.cell (by rw [add_block]; exact hl)).trans h2⟩
theorem itoa_lit (n : Nat) (h : n < 10) : Lib.itoa (n : Int) = [UInt8.ofNat (48 + n)] := by
  rw [itoa_nat, Lib.decDigits, dif_pos h]
theorem lit_bulk : bs (bulkText (ub ⟨#[97, 13, 10]⟩)) = ⟨#[36, 51, 13, 10, 97, 13, 10, 13, 10]⟩ := by
  have h : Lib.itoa ((3 : Nat) : Int) = [51] := itoa_lit 3 (by omega)
  show bs (36 :: Lib.itoa ((3 : Nat) : Int) ++ [13, 10] ++ [97, 13, 10] ++ [13, 10]) = _
  rw [h]
  rfl
theorem lit_num : bs (numText (-4)) = ⟨#[58, 45, 52, 13, 10]⟩ := by
  have h : Lib.itoa (-((4 : Nat) : Int)) = [45, 52] := by
    rw [Lib.itoa_neg 4 (by omega), ← itoa_nat, itoa_lit 4 (by omega)]
    rfl
  show bs (58 :: Lib.itoa (-((4 : Nat) : Int)) ++ [13, 10]) = _
  rw [h]
  rfl
theorem ub_flatS (xs : List ByteArray) : ub (bs (flat xs)) = flat xs := ub_bs _
theorem reps_len {d : Nat} : ∀ {xs : List ByteArray}, RepsOk d xs → xs.length ≤ (flat xs).length
  | [], _ => Nat.zero_le _
  | x :: xs, h => by
    have e : flat (x :: xs) = ub x ++ flat xs := by simp [flat]
    have h1 := reps_len (d := d) (xs := xs) fun y hy => h y (by simp [hy])
    have h2 := (rep_size (h x (by simp))).1
    rw [e, List.length_append, ub_length, List.length_cons]
    omega
theorem reps_flat_le {d : Nat} {xs : List ByteArray} (h : RepsOk d xs) (hd : d ≤ 3) (hl : xs.length ≤ 4) (k : Nat) : (flat (xs.take k)).length ≤ 20000 := by
  have h1 := flat_take xs k
  have h2 := flat_bound xs 5000 fun x hx => by rw [ub_length]; exact Nat.le_trans (rep_size (h x hx)).2 (repMax_le hd)
  have h3 := Nat.mul_le_mul_right 5000 hl
  omega
theorem numI_ok' : ∀ n : Int, -1000 ≤ n → n < 1000 → numI (Lib.itoa n) = true := fun n h1 h2 => numI_of ⟨by omega, by omega⟩ rfl
theorem reps_read {xs : List ByteArray} (h : RepsOk 3 xs) {S : ByteArray} (hS : S = bs (flat xs)) : repsF numI (S.size + 1) (ub S) = (xs.map ub, true) := by
  subst hS
  rw [ub_bs, bs_size]
  exact repsF_flat xs _ (reps_len h) fun x hx => ⟨(rep_size (h x hx)).1, fun r => rep_back numI_ok' 3 4 _ (by omega) (h x hx) r⟩
theorem arr_read {xs : List ByteArray} (h : RepsOk 3 xs) (hl : xs.length ≤ 4) : repB numI 4 (arrText xs) = some (arrText xs).length := by
  have := arr_back (num := numI) (k := 3) (xs := xs) (by omega) (fun x hx r => rep_back numI_ok' 3 3 _ (Nat.le_refl _) (h x hx) r) []
  rwa [List.append_nil] at this
theorem arr_len {xs : List ByteArray} (h : RepsOk 3 xs) (hl : xs.length ≤ 4) : 0 < (arrText xs).length ∧ (arrText xs).length ≤ 20100 := by
  have := arrText_len (m := 5000) hl fun x hx => by rw [ub_length]; exact Nat.le_trans (rep_size (h x hx)).2 (repMax_le (Nat.le_refl 3))
  omega
theorem map_ub_bs (xs : List ByteArray) : (xs.map ub).map bs = xs := by
  rw [List.map_map]
  have : (bs ∘ ub) = id := by funext x; exact bs_ub x
  rw [this, List.map_id]
theorem laid_FnReplies {W : World} (h : laidMetH Tryd.prog Rows.fnRepliesRow.laid W) : Pow W ∧ Sent W := by
  rw [MakeChecks.laidMetH_plain _ _ _ (by kernel_rfl)] at h
  exact ⟨pow_of_laid h.tail.tail, sent_of_laid h.tail.tail.tail⟩
set_option maxHeartbeats 8000000 in
set_option maxRecDepth 100000 in
theorem walk_FnReplies (A : Option Addr) (n c : Nat) (w : World) (h : ByRow w A n) (hL : Pow w ∧ Sent w) (hM : MaxAt w) :
    Calls Tryd.prog 3 #[.slice A n c] w fun e w' => e = .returned (.bool true) ∧ Below w.heap.size w w' := by
  have HW : Hid (RepW w) := ⟨hL.1, hL.2, hM⟩
  have hn := h.1
  have HBR := Lib.hid h
  clear hM h hL
  by_cases hbig : 1048576 < n
  · have hd : decide (1048576 < n) = true := decide_eq_true hbig
    go_enter Tryd.func3, Tryd.ntmps3
    go_wp2_with fail
    go_at_call 5
    refine (laws_big_calls A c n _ hn).mono ?_
    rw [hd]
    rintro e w1 ⟨rfl, rfl⟩
    go_wp2
    go_ret
    exact ⟨rfl, Below.refl _ _⟩
  · have hd : decide (1048576 < n) = false := decide_eq_false hbig
    go_enter Tryd.func3, Tryd.ntmps3
    go_wp2_with fail
    go_at_call 5
    refine (laws_big_calls A c n _ hn).mono ?_
    rw [hd]
    rintro e w1 ⟨rfl, rfl⟩
    go_wp2_with fail
    go_at_call 6
    refine (spec_DrawArray_calls A c n _ HBR.out).mono ?_
    rintro e w1 ⟨b, c', xs, rfl, ho, hxl, hok, hb⟩
    have HB1 := Lib.hid hb
    have HOK := Lib.hid hok
    obtain ⟨A0, c0, hv, hrow⟩ := (ho.own (Nat.le_refl _)).row (hok.small (Nat.le_refl _))
    injection hv with e1 e2 e3
    subst e1 e3
    have HROW := Lib.hid hrow
    clear hb hok ho hrow e2
    go_wp2_with fail
    go_loopw [4, 5] (fun sv iv wr => ∃ (i : Nat) (S : ByteArray), iv = .int .i64 (i : Int) ∧ i ≤ xs.length ∧ sv = .string S ∧ S.size ≤ 20000 ∧ Hid (S = bs (flat (xs.take i))) ∧ Hid (Below w1.heap.size w1 wr)) (fun _ iv _ => xs.length - (intOf iv).toNat)
    case atStart => exact ⟨0, _, rfl, Nat.zero_le _, rfl, by decide, by rw [Hid, List.take_zero]; rfl, Below.refl _ _⟩
    case round =>
      obtain ⟨i, S, rfl, hil, rfl, hS, HS, HB⟩ := hrel
      by_cases hlt : i < xs.length
      · obtain ⟨ad, x, hA, hc, hz, HX⟩ := (HROW.out.below HB.out).at_ hlt
        cases hA
        rw [add_plain] at hc
        have HSN : Hid (S ++ x = bs (flat (xs.take (i + 1)))) := by rw [Hid, take_snoc HX.out, flat_snoc, ← bs_append, ← HS.out, bs_ub]
        have hsz : (S ++ x).size ≤ 20000 := by rw [HSN.out, bs_size]; exact reps_flat_le HOK.out (Nat.le_refl _) hxl _
        have hsz2 : S.size + x.size ≤ 20000 := by rw [ByteArray.size_append] at hsz; exact hsz
        clear hsz
        go_wp2
        go_roundw
        case rel => first | exact ⟨i + 1, S ++ x, by go_num, by omega, rfl, by rw [ByteArray.size_append]; exact hsz2, HSN, HB⟩ | (repeat (first | (refine ⟨?relx, rfl⟩; exact ⟨i + 1, S ++ x, by go_num, by omega, rfl, by rw [ByteArray.size_append]; exact hsz2, HSN, HB⟩) | (refine ⟨?relx, ?eqs⟩; (case eqs => (and_intros <;> rfl)); exact ⟨i + 1, S ++ x, by go_num, by omega, rfl, by rw [ByteArray.size_append]; exact hsz2, HSN, HB⟩) | apply Exists.intro))
        case measure => simp [intOf]; omega
      · obtain rfl : i = xs.length := by omega
        have HSA : Hid (S = bs (flat xs)) := by have h := HS.out; rw [List.take_length] at h; exact h
        have HRD := Lib.hid (reps_read HOK.out HSA.out)
        have HAR := Lib.hid (arr_read HOK.out hxl)
        have hal := arr_len HOK.out hxl
        have HCN := Lib.hid (cut_none HAR.out (m := (arrText xs).length - 1) (by omega))
        have HSZ := Lib.hid (HOK.out.szs (Nat.le_refl _) hxl)
        have HBW1 := Lib.hid (HB1.out.trans (HB.out.mono HB1.out.size))
        have HR1 := Lib.hid (HROW.out.below HB.out)
        clear hlt hil HS
        go_wp2_with fail
        go_at_call 7
        refine (impl_Replies_calls S _ (by omega) (HW.out.below HBW1.out)).mono ?_
        rw [HRD.out]
        rintro e w2 ⟨hb, v, rfl, ho⟩
        have ho2 := ho rfl
        rw [map_ub_bs] at ho2
        obtain ⟨A2, c2, rfl, hrow2⟩ := (ho2.own (Nat.le_refl _)).row (HOK.out.small (Nat.le_refl _))
        have HALL := Lib.hid hrow2
        have HR2 := Lib.hid (HR1.out.below hb)
        have HBW2 := Lib.hid (HBW1.out.trans (hb.mono HBW1.out.size))
        clear hb ho ho2 hrow2
        go_wp2_with fail
        go_at_call 8
        refine (impl_Array_calls _ _ xs _ HR2.out (by have := HSZ.out; omega) (HW.out.below HBW2.out).pow).mono ?_
        rintro e w3 ⟨rfl, hb⟩
        have HALL3 := Lib.hid (HALL.out.below hb)
        have HR3 := Lib.hid (HR2.out.below hb)
        have HBW3 := Lib.hid (HBW2.out.trans (hb.mono HBW2.out.size))
        clear hb
        have hTX : ub (⟨#[120]⟩ ++ bs (arrText xs)) = 120 :: arrText xs := by rw [ub_app, ub_bs]; rfl
        have hTZ : ((⟨#[120]⟩ : ByteArray) ++ bs (arrText xs)).size = (arrText xs).length + 1 := by rw [← ub_length, hTX]; rfl
        have HRA : Hid (Calls Tryd.prog 9 #[.string (⟨#[120]⟩ ++ bs (arrText xs)), .int .i64 1] w3 fun e w' => e = .returned (.tuple #[.int .i64 (((arrText xs).length : Int) + 1), .bool true]) ∧ Below w3.heap.size w3 w') := by
          have h := impl_ReplyAt_calls (⟨#[120]⟩ ++ bs (arrText xs)) 1 w3 (by rw [hTZ]; omega) (by rw [hTZ]; omega) (HW.out.below HBW3.out)
          rw [show tail_ (⟨#[120]⟩ ++ bs (arrText xs)) 1 = arrText xs by rw [tail_, hTX]; rfl, HAR.out] at h
          refine h.mono fun e w' ⟨he, hb⟩ => ⟨he.trans ?_, hb⟩
          show Ending.returned (.tuple #[.int .i64 ((1 + (arrText xs).length : Nat) : Int), .bool true]) = _
          congr 5
          omega
        have HRC : Hid (∀ w' : World, RepW w' → Calls Tryd.prog 9 #[.string (bs ((arrText xs).take ((arrText xs).length - 1))), .int .i64 0] w' fun e w2 => e = .returned (.tuple #[.int .i64 0, .bool false]) ∧ Below w'.heap.size w' w2) := by
          intro w' hw'
          have h := impl_ReplyAt_calls (bs ((arrText xs).take ((arrText xs).length - 1))) 0 w' (Nat.zero_le _) (by rw [bs_size, List.length_take]; omega) hw'
          rw [show tail_ (bs ((arrText xs).take ((arrText xs).length - 1))) 0 = (arrText xs).take ((arrText xs).length - 1) by rw [tail_, ub_bs]; rfl, HCN.out] at h
          exact h
        have hex : (bs (arrText xs)).extract 0 ((arrText xs).length - 1) = bs ((arrText xs).take ((arrText xs).length - 1)) := by rw [bs_extract, ub_bs, List.drop_zero]
        have hlz : (bs (arrText xs)).size = (arrText xs).length := bs_size _
        clear hTX hTZ
        generalize (arrText xs).length = L at hal hex hlz HRA HRC
        generalize bs ((arrText xs).take (L - 1)) = Y at hex HRC
        generalize bs (arrText xs) = X at hex hlz HRA
        have ht1 : ((L : Int) - 1).toNat = L - 1 := by omega
        have hb0 : (0 : Int) ≤ (L : Int) - 1 := by omega
        have hb1 : (L : Int) - 1 ≤ (L : Int) := by omega
        have hb2 : (1 : Int) ≤ (L : Int) := by omega
        have hw1 : IntKind.i64.wrap ((L : Int) - 1) = (L : Int) - 1 := by rw [IntKind.wrap_i64]; omega
        have hnn : (((L : Int) + 1) != ((L : Int) + 1)) = false := by simp
        go_wp2_with fail
        go_at_call 9
        refine HRA.out.mono ?_
        rintro e w4 ⟨rfl, hb⟩
        have HALL4 := Lib.hid (HALL3.out.below hb)
        have HR4 := Lib.hid (HR3.out.below hb)
        have HBW4 := Lib.hid (HBW3.out.trans (hb.mono HBW3.out.size))
        clear hb
        go_wp2_with fail
        go_at_call 9
        refine (HRC.out _ (HW.out.below HBW4.out)).mono ?_
        rintro e w5 ⟨rfl, hb⟩
        have HALL5 := Lib.hid (HALL4.out.below hb)
        have HR5 := Lib.hid (HR4.out.below hb)
        have HBW5 := Lib.hid (HBW4.out.trans (hb.mono HBW4.out.size))
        clear hb
        go_wp2_with fail
        go_at_call 10
        refine (laws_sameTexts_calls _ _ xs _ _ _ HALL5.out HR5.out).mono ?_
        rintro e w6 ⟨rfl, hb⟩
        have HBW6 := Lib.hid (HBW5.out.trans (hb.mono HBW5.out.size))
        clear hb
        go_wp2_with fail
        go_at_call 11
        refine (spec_DrawReplies_calls A c n _ (byRow_below HBR.out HBW6.out)).mono ?_
        rintro e w7 ⟨t, rfl, hts, hnt, hb⟩
        have HBW7 := Lib.hid (HBW6.out.trans (hb.mono HBW6.out.size))
        have HAG := Lib.hid (repsF_agree (t.size + 1) (ub t) (nearly_agree hnt))
        clear hb hnt
        go_wp2_with fail
        go_at_call 7
        refine (impl_Replies_calls t _ (by omega) (HW.out.below HBW7.out)).mono ?_
        rw [HAG.out]
        obtain ⟨q, hq⟩ : ∃ q, (repsF numS (t.size + 1) (ub t)).2 = q := ⟨_, rfl⟩
        have HQ := Lib.hid hq
        clear hq
        rintro e w8 ⟨hb, v8, rfl, -⟩
        rw [HQ.out]
        have HBW8 := Lib.hid (HBW7.out.trans (hb.mono HBW7.out.size))
        clear hb
        go_wp2_with fail
        go_at_call 12
        refine (spec_Replies_calls t _ (by omega)).mono ?_
        rintro e w9 ⟨hb, v9, rfl, -⟩
        rw [HQ.out]
        have HBW9 := Lib.hid (HBW8.out.trans (hb.mono HBW8.out.size))
        clear hb
        have hqq : (q == q) = true := by simp
        go_wp2_with fail
        go_at_call 13
        refine (impl_Bulk_calls ⟨#[97, 13, 10]⟩ _ (by decide) (HW.out.below HBW9.out).pow).mono ?_
        rw [lit_bulk]
        rintro e w10 ⟨rfl, hb⟩
        have HBW10 := Lib.hid (HBW9.out.trans (hb.mono HBW9.out.size))
        clear hb
        go_wp2_with fail
        go_at_call 14
        refine (impl_Nil_calls _).mono ?_
        rintro e w11 ⟨rfl, rfl⟩
        go_wp2_with fail
        go_at_call 15
        refine (impl_Simple_calls ⟨#[79, 75]⟩ _ (by decide)).mono ?_
        rw [show simpleS ⟨#[79, 75]⟩ = ⟨#[43, 79, 75, 13, 10]⟩ by kernel_rfl]
        rintro e w11 ⟨rfl, rfl⟩
        go_wp2_with fail
        go_at_call 16
        refine (impl_FaultR_calls ⟨#[120]⟩ _ (by decide)).mono ?_
        rw [show faultR ⟨#[120]⟩ = ⟨#[45, 120, 13, 10]⟩ by kernel_rfl]
        rintro e w11 ⟨rfl, rfl⟩
        go_wp2_with fail
        go_at_call 17
        refine (impl_Number_calls (-4) _ (by omega) (by omega) (HW.out.below HBW10.out).pow).mono ?_
        rw [lit_num]
        rintro e w11 ⟨rfl, hb⟩
        have HBW11 := Lib.hid (HBW10.out.trans (hb.mono HBW10.out.size))
        clear hb
        go_wp2
        go_ret
        exact ⟨rfl, HBW11.out⟩
end Go.Proofs.YtdoaemagednclaaDoor
