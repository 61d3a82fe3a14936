/- The walk of the law FnRequests. -/
import Derived.Test.YtanpkomifhbhnaaDoorReqRT3
import Derived.Test.YtanpkomifhbhnaaDoorHelp
import Derived.Test.YtanpkomifhbhnaaDoorReqsS
import Derived.Test.YtanpkomifhbhnaaDoorNumLaws
namespace Go.Proofs.YtanpkomifhbhnaaDoor
set_option linter.unusedVariables false
set_option linter.unusedSimpArgs false
open Go.RowKit
attribute [local go_sem] bs_size List.length_cons List.length_nil List.length_append

theorem reqPost_row {w w' : World} {r : List (List UInt8) × Nat × Nat} {e : Ending} (hx : ∀ x ∈ r.1.map bs, x.size ≤ 9223372036854775807) (h : ReqPost w r e w') : ∃ A c, e = .returned (.tuple #[.slice A (r.1.map bs).length c, .int .i64 (r.2.1 : Int), .int .i64 (r.2.2 : Int)]) ∧ StrRow w' A c (r.1.map bs) ∧ Below w.heap.size w w' := by
  obtain ⟨hb, v, rfl, ho⟩ := h
  obtain ⟨A, c, rfl, hr⟩ := ho.row hx
  exact ⟨A, c, rfl, hr, hb⟩
theorem rqPost_form {w w' : World} {r : List (List (List UInt8)) × Nat × Bool} {e : Ending} {L : List (List ByteArray)} {n : Nat} (hr : r = (L.map (·.map ub), n, false)) (h : RqPost w r e w') : ∃ A c, e = .returned (.tuple #[.slice A L.length c, .int .i64 (n : Int), .bool false]) ∧ OwnSS w' w.heap.size (.slice A L.length c) L ∧ Below w.heap.size w w' := by
  subst hr
  obtain ⟨hb, v, rfl, ho⟩ := h
  replace ho : OwnSS w' w.heap.size v ((L.map (·.map ub)).map (·.map bs)) := ho
  rw [map_back] at ho
  obtain ⟨vs, hr, hout⟩ := ho
  obtain ⟨A, c, rfl⟩ := hout.form
  have hl := hr.length
  exact ⟨A, c, by rw [← hl], by rw [← hl]; exact ⟨vs, hr, hout⟩, hb⟩
theorem byRow_below {w w' : World} {A : Option Addr} {n : Nat} (h : ByRow w A n) (hb : Below w.heap.size w w') : ByRow w' A n := by
  refine ⟨h.1, fun h0 => ?_⟩
  obtain ⟨ad, e, hl, hc⟩ := h.2 h0
  refine ⟨ad, e, Nat.lt_of_lt_of_le hl hb.size, fun j hj => ?_⟩
  obtain ⟨z, h0, h1, h2⟩ := hc j hj
  exact ⟨z, h0, h1, (hb.cell (by rw [add_block]; exact hl)).trans h2⟩
/-- PING  x, a line. -/
def pingS : ByteArray := ⟨#[80, 73, 78, 71, 32, 32, 120, 32, 13, 10, 42, 49]⟩
theorem ping_req : reqB (ub pingS) = ([[80, 73, 78, 71], [120]], 10, 1) := by kernel_rfl
def pingXs : List ByteArray := [⟨#[80, 73, 78, 71]⟩, ⟨#[120]⟩]
theorem ping_row {w w2 : World} (h : Below (w.alloc (.cells #[.string ⟨#[80, 73, 78, 71]⟩, .string ⟨#[120]⟩] 9)).heap.size (w.alloc (.cells #[.string ⟨#[80, 73, 78, 71]⟩, .string ⟨#[120]⟩] 9)) w2) : StrRow w2 (some ⟨w.heap.size, 0, none⟩) 2 pingXs :=
  (StrBlk.below (w := w.alloc (.cells #[.string ⟨#[80, 73, 78, 71]⟩, .string ⟨#[120]⟩] 9)) ⟨[], blk_new w _, rfl, by decide⟩ h).row (by decide)
theorem ping_calls (w : World) (hM : MaxAt w) : Calls Tryd.prog 20 #[.string ⟨#[80, 73, 78, 71, 32, 32, 120, 32, 13, 10, 42, 49]⟩] w fun e w' => ∃ A c, e = .returned (.tuple #[.slice A 2 c, .int .i64 10, .int .i64 1]) ∧ StrRow w' A c pingXs ∧ Below w.heap.size w w' := by
  have h := impl_ParseRequest_calls pingS w (by decide) hM
  rw [ping_req] at h
  exact h.mono fun e w' hp => reqPost_row (r := ([[80, 73, 78, 71], [120]], 10, 1)) (by decide) hp
theorem pow_of_laid_FnRequests {W : World} (h : laidMetH Tryd.prog Rows.fnRequestsRow.laid W) : Pow W := by
  rw [MakeChecks.laidMetH_plain _ _ _ (by kernel_rfl)] at h
  exact pow_of_laid (laidMet.tail (laidMet.tail h))
set_option maxHeartbeats 8000000 in
set_option maxRecDepth 100000 in
theorem walk_FnRequests (A : Option Addr) (n c : Nat) (w : World) (h : ByRow w A n) (hM : MaxAt w) (hP : Pow w) :
    Calls Tryd.prog 8 #[.slice A n c] w fun e w' => e = .returned (.bool true) ∧ Below w.heap.size w w' := by
  obtain ⟨i0, hi, hz, hsz, hby⟩ := info_parts info_int
  have HM := Lib.hid hM
  have HM1 := Lib.hid hM.1
  have HP := Lib.hid hP
  have hn := h.1
  have HBR := Lib.hid h
  clear hM h hP
  by_cases hbig : 1048576 < n
  · have hd : decide (1048576 < n) = true := decide_eq_true hbig
    go_enter Tryd.func8, Tryd.ntmps8
    go_wp2_with fail
    go_at_call 30
    refine (laws_big_calls A c n _ hn).mono ?_
    rw [hd]
    rintro e w1 ⟨rfl, rfl⟩
    go_wp2
    go_ret
    exact ⟨rfl, Below.refl _ _⟩
  · have hd : decide (1048576 < n) = false := decide_eq_false hbig
    go_enter Tryd.func8, Tryd.ntmps8
    go_wp2_with fail
    go_at_call 30
    refine (laws_big_calls A c n _ hn).mono ?_
    rw [hd]
    rintro e w1 ⟨rfl, rfl⟩
    go_wp2_with fail
    go_at_call 31
    refine (spec_DrawWords_calls A c n _ HBR.out).mono ?_
    rintro e w1 ⟨v, L, rfl, ho, hL, hF, hb⟩
    have HF := Lib.hid hF
    have HB1 := Lib.hid hb
    obtain ⟨vs, hr, hout⟩ := ho
    obtain ⟨AL, cL, hv⟩ := hout.form
    subst hv
    have HVL := Lib.hid hr.length
    have hvl : vs.length ≤ 4 := by rw [hr.length]; exact hL
    have HR := Lib.hid hr
    have HO := Lib.hid hout
    have HE0 := Lib.hid (endsR_zero L)
    clear hr hout hF hb
    go_wp2_with fail
    go_loopw [4, 5, 6] (fun sv ev iv wr => ∃ (i : Nat) (S : ByteArray), iv = .int .i64 (i : Int) ∧ i ≤ vs.length ∧ sv = .string S ∧ Hid (S = bs (textsR (L.take i))) ∧ Hid (OwnI wr w1.heap.size ev (endsR L i)) ∧ Hid (Below w1.heap.size w1 wr)) (fun _ _ iv _ => vs.length - (intOf iv).toNat)
    case atStart => exact ⟨0, _, rfl, Nat.zero_le _, rfl, rfl, by rw [HE0.out]; exact ownI_lit w1 (Nat.le_refl _) 0, (Below.refl _ _).alloc (Nat.le_refl _) _⟩
    case round =>
      obtain ⟨i, S, rfl, hil, rfl, HS, HEN, HB⟩ := hrel
      obtain ⟨A2, c2, hv⟩ := HEN.out.form
      subst hv
      have hS : S.size ≤ 4000 := by rw [HS.out, bs_size]; exact textsR_take_len HF.out (by have := HVL.out; omega) i
      have hel := endsR_length L i
      have HEL := Lib.hid hel
      clear hel
      by_cases hlt : i < vs.length
      · obtain ⟨u, xs, e1, e2, ho1, hx1⟩ := HR.out.at_ hlt
        obtain ⟨ad, hA, hc⟩ := HO.out.cell e1
        subst hA
        obtain ⟨A1, c1, rfl, hrow1⟩ := ho1.row hx1
        have hc1 : wr.cell? (ad.add i) = _ := (HB.out.cell (World.block_lt_of_cell? w1 _ hc)).trans hc
        have HR1 := Lib.hid (hrow1.below HB.out)
        have hfx : Fine xs := HF.out xs (List.mem_of_getElem? e2)
        have HRT := Lib.hid (reqText_fine hfx)
        have htl := textR_len hfx
        have HST := Lib.hid (textsR_snoc e2)
        have HES := Lib.hid (endsR_step L i)
        clear hrow1 ho1 e1 e2 hc hfx hx1
        go_wp2_with fail
        go_at_call 32
        refine (impl_RequestText_calls A1 c1 xs _ HR1.out ((HP.out.below HB1.out).below HB.out)).mono ?_
        rw [HRT.out]
        rintro e w2 ⟨rfl, hb⟩
        have HB2 := Lib.hid (HB.out.trans (hb.mono HB.out.size))
        have HEN2 := Lib.hid (HEN.out.below hb)
        clear hb
        have HY : Hid ((S.size : Int) + ((textR xs).length : Int) = ((textsR (L.take (i + 1))).length : Int)) := by
          have h1 := congrArg ByteArray.size HS.out
          rw [bs_size] at h1
          rw [Hid, HST.out, List.length_append, h1]
          rfl
        generalize hTX : bs (textR xs) = TX
        have HTX := Lib.hid hTX
        have hTs : TX.size = (textR xs).length := by rw [← hTX, bs_size]
        have HTS := Lib.hid hTs
        have htz : TX.size ≤ 1000 := by omega
        clear hTX hTs
        have HEN3 : Hid (OwnI (w2.alloc (.cells #[.int .i64 ((S.size : Int) + (TX.size : Int))] 3)) w1.heap.size (.slice A2 (endsR L i).length c2) (endsR L i)) := World.ownsRow.alloc HEN2.out _
        have HNEWS : Hid (∀ j u, [Value.int .i64 ((S.size : Int) + (TX.size : Int))][j]? = some u → (w2.alloc (.cells #[.int .i64 ((S.size : Int) + (TX.size : Int))] 3)).cell? ((⟨w2.heap.size, 0, none⟩ : Addr).add j) = some u) := World.news_of_block (heap_alloc_new w2 _)
        have HBASE : Hid (w1.heap.size ≤ (w2.alloc (.cells #[.int .i64 ((S.size : Int) + (TX.size : Int))] 3)).heap.size) := by have := HB2.out.size; rw [Hid]; simp; omega
        have HBZ : Hid (w1.heap.size ≤ w2.heap.size) := HB2.out.size
        have hen : (endsR L i).length ≤ 5 := by have := HEL.out; omega
        go_wp2_with (at_builtin; refine wpList_append_lies _ rfl _ _ _ rfl w1.heap.size 3 i0 (.int .i64 0) 1 8 Tryd.underlying41 hi hz hsz hby rfl (by omega) (.slice A2 (endsR L i).length c2) (endsR L i).length ((endsR L i).map (Value.int .i64)) rfl HEN3.out ⟨w2.heap.size, 0, none⟩ 1 1 [.int .i64 ((S.size : Int) + (TX.size : Int))] rfl rfl HNEWS.out (by simp [Value.oneCell']) (by omega) (by unfold maxLen; omega) (by omega) HBASE.out _ rfl ?_; intro gg cap w4 hown hgrow hat hlt2)
        have HPU : Hid (OwnI w4 w1.heap.size (.slice (some ⟨gg, 0, none⟩) ((endsR L i).length + 1) cap) (endsR L (i + 1))) := by
          rw [Hid, HES.out, ← HY.out, ← HTS.out, OwnI, List.map_append, List.length_append]
          exact hown
        have HB4 := Lib.hid (below_pushI HB2.out HBZ.out HEN2.out hgrow)
        have HSN : Hid (S ++ TX = bs (textsR (L.take (i + 1)))) := by rw [Hid, HST.out, ← bs_append, HS.out, HTX.out]
        clear hown hgrow hat
        go_wp2
        go_roundw
        case rel => first | exact ⟨i + 1, S ++ TX, by go_num, by omega, rfl, HSN, HPU, HB4⟩ | (repeat (first | (refine ⟨?relx, rfl⟩; exact ⟨i + 1, S ++ TX, by go_num, by omega, rfl, HSN, HPU, HB4⟩) | (refine ⟨?relx, ?eqs⟩; (case eqs => (and_intros <;> rfl)); exact ⟨i + 1, S ++ TX, by go_num, by omega, rfl, HSN, HPU, HB4⟩) | apply Exists.intro))
        case measure => simp [intOf]; omega
      · obtain rfl : i = vs.length := by omega
        have HSW : Hid (S = bs (textsR L)) := by have h := HS.out; rw [HVL.out, List.take_length] at h; exact h
        have HRQ := Lib.hid (reqs_whole HF.out HSW.out)
        have HCUT := Lib.hid (fun k (hk : k ≤ S.size) => reqs_cut HF.out HSW.out hk)
        have HBw := Lib.hid (HB1.out.trans (HB.out.mono HB1.out.size))
        have HW1 : Hid (w.heap.size ≤ w1.heap.size) := HB1.out.size
        have hlL : L.length = vs.length := HVL.out.symm
        have hnn : ((S.size : Int) != (S.size : Int)) = false := by simp
        have hnv : ((vs.length : Int) != (vs.length : Int)) = false := by simp
        rw [hlL] at hL
        have HLL := Lib.hid hlL
        clear hlL
        go_wp2_with fail
        go_at_call 26
        refine (impl_Requests_calls S _ (by omega) (HM.out.below HBw.out HM1.out)).mono ?_
        rintro e w2 hp
        obtain ⟨A3, c3, rfl, ho3, hb⟩ := rqPost_form HRQ.out hp
        obtain ⟨us, hr3, hout3⟩ := ho3
        have HR3 := Lib.hid hr3
        have HO3 := Lib.hid hout3
        have HU3 := Lib.hid hr3.length
        have HB2 := Lib.hid (HB.out.trans (hb.mono HB.out.size))
        have HEN2 := Lib.hid (HEN.out.below hb)
        rw [HLL.out]
        clear hp hr3 hout3 hb
        go_wp2_with fail
        have HBZ : Hid (w1.heap.size ≤ w2.heap.size) := HB2.out.size
        go_loopw [12] (fun iv w3 => ∃ j : Nat, j ≤ vs.length ∧ iv = .int .i64 (j : Int) ∧ Below w2.heap.size w2 w3) (fun iv _ => vs.length - (intOf iv).toNat)
        case atStart => exact ⟨0, Nat.zero_le _, rfl, Below.refl _ _⟩
        case round =>
          obtain ⟨j, hj, rfl, hbel⟩ := hrel
          have HB3 := Lib.hid hbel
          clear hbel
          by_cases hlt : j < vs.length
          · obtain ⟨u, xs, e1, e2, ho1, hx1⟩ := HR.out.at_ hlt
            obtain ⟨u', xs', e1', e2', ho1', _⟩ := HR3.out.at_ (show j < us.length by have := HU3.out; have := HLL.out; omega)
            obtain rfl : xs = xs' := by rw [e2] at e2'; exact Option.some.inj e2'
            obtain ⟨ad, hA, hc⟩ := HO.out.cell e1
            obtain ⟨ad', hA', hc'⟩ := HO3.out.cell e1'
            subst hA hA'
            obtain ⟨A1, c1, rfl, hrow1⟩ := ho1.row hx1
            obtain ⟨A4, c4, rfl, hrow2⟩ := ho1'.row hx1
            have HB4 := Lib.hid (HB2.out.trans (HB3.out.mono HBZ.out))
            have hc1 : wr.cell? (ad.add j) = _ := (HB4.out.cell (World.block_lt_of_cell? w1 _ hc)).trans hc
            have hc2 : wr.cell? (ad'.add j) = _ := (HB3.out.cell (World.block_lt_of_cell? w2 _ hc')).trans hc'
            have HR1 := Lib.hid (hrow1.below HB4.out)
            have HR2 := Lib.hid (hrow2.below HB3.out)
            clear hrow1 hrow2 ho1 ho1' e1 e1' e2 e2' hc hc'
            have HH0 : Hid (Below wr.heap.size wr wr.drew) := Below.drew (Below.refl _ _)
            have hli : (j : Int) < (vs.length : Int) := by omega
            go_wp2
            go_region_held3 (fun w' => w'.cell? (ad.add j) = some (.slice A1 xs.length c1) ∧ w'.cell? (ad'.add j) = some (.slice A4 xs.length c4) ∧ Hid (Below wr.heap.size wr w')) (first | exact keep2 hc1 hc2 HH0.out | exact keep2 hc1 hc2 (HH0.out.trans (hb.mono (Nat.le_refl _)))) (first | (go_at_call 33; refine (laws_sameTexts_calls A4 c4 xs A1 c1 _ (HR2.out.below HH0.out) (HR1.out.below HH0.out)).mono ?_; rintro e w' ⟨rfl, hb⟩))
            have HK := And.right (And.right ‹_ ∧ _ ∧ Hid (Below wr.heap.size wr _)›)
            go_wp2
            go_roundw
            case rel => first | exact ⟨j + 1, by omega, by go_num, HB3.out.trans (HK.out.mono HB3.out.size)⟩ | (repeat (first | (refine ⟨?relx, rfl⟩; exact ⟨j + 1, by omega, by go_num, HB3.out.trans (HK.out.mono HB3.out.size)⟩) | (refine ⟨?relx, ?eqs⟩; (case eqs => (and_intros <;> rfl)); exact ⟨j + 1, by omega, by go_num, HB3.out.trans (HK.out.mono HB3.out.size)⟩) | apply Exists.intro))
            case measure => simp [intOf]; omega
          · obtain rfl : j = vs.length := by omega
            have HB4 := Lib.hid (HB2.out.trans (HB3.out.mono HBZ.out))
            have HBw4 := Lib.hid (HB1.out.trans (HB4.out.mono HW1.out))
            have HEN3 := Lib.hid (HEN2.out.below HB3.out)
            go_wp2_with fail
            go_at_call 34
            refine (spec_DrawPlaces_calls A c n _ (byRow_below HBR.out HBw4.out)).mono ?_
            rintro e w5 ⟨pb, pc, x, rfl, hcell, hx0, hx1, hpc, hb⟩
            have HB5 := Lib.hid (HB4.out.trans (hb.mono HB4.out.size))
            have HEN5 := Lib.hid (HEN3.out.below hb)
            clear hb
            obtain ⟨X, rfl⟩ := Int.eq_ofNat_of_zero_le hx0
            have HBw5 := Lib.hid (HB1.out.trans (HB5.out.mono HW1.out))
            obtain ⟨K, hK, hKS⟩ : ∃ K : Nat, (X : Int) % ((S.size : Int) + 1) = (K : Int) ∧ K ≤ S.size := ⟨X % (S.size + 1), by simp, by have := Nat.mod_lt X (Nat.succ_pos S.size); simp only [Nat.succ_eq_add_one] at this; omega⟩
            have hKi : (K : Int) ≤ (S.size : Int) := by omega
            have hK0 : (0 : Int) ≤ (K : Int) := by omega
            obtain ⟨m, hm, hrq, hnx⟩ := HCUT.out K hKS
            have HRC := Lib.hid hrq
            have hmv : m ≤ vs.length := by rw [HLL.out] at hm; exact hm
            have hcs : (S.extract 0 K).size ≤ 1048576 := by rw [ByteArray.size_extract]; omega
            have hlm : (L.take m).length = m := by rw [List.length_take]; omega
            have HLM := Lib.hid hlm
            have hE0 := endsR_at L (i := vs.length) (j := m) (by omega)
            obtain ⟨eb, heb, hec⟩ := HEN5.out.at_ hE0
            have HEC := Lib.hid hec
            subst heb
            generalize hz1 : (textsR (L.take m)).length = Z1 at hrq HRC hec HEC
            clear hrq hE0 hlm hz1
            go_wp2_with fail
            go_at_call 26
            refine (impl_Requests_calls _ _ hcs (HM.out.below HBw5.out HM1.out)).mono ?_
            rintro e w6 hp
            obtain ⟨A6, c6, rfl, ho6, hb⟩ := rqPost_form HRC.out hp
            have HB6 := Lib.hid (HBw5.out.trans (hb.mono HBw5.out.size))
            have hec6 : w6.cell? ⟨eb, m, none⟩ = some (.int .i64 (Z1 : Int)) := (hb.cell (World.block_lt_of_cell? _ _ HEC.out)).trans HEC.out
            rw [HLM.out]
            have hzz : ((Z1 : Int) != (Z1 : Int)) = false := by simp
            have hgt : ¬ (vs.length : Int) < (m : Int) := by omega
            have hel : (endsR L vs.length).length = vs.length + 1 := HEL.out
            generalize (endsR L vs.length).length = el at hel
            have hml : m < el := by omega
            by_cases hmlt : m < vs.length
            · have hmi : (m : Int) < (vs.length : Int) := by omega
              have hml1 : m + 1 < el := by omega
              have hE1 := endsR_at L (i := vs.length) (j := m + 1) (by omega)
              obtain ⟨eb1, heb1, hec1⟩ := HEN5.out.at_ hE1
              cases heb1
              have HEC1 := Lib.hid hec1
              have hec61 : w6.cell? ⟨eb, m + 1, none⟩ = some (.int .i64 ((textsR (L.take (m + 1))).length : Int)) := (hb.cell (World.block_lt_of_cell? _ _ HEC1.out)).trans HEC1.out
              have hnx1 := hnx (by rw [HLL.out]; exact hmlt)
              generalize (textsR (L.take (m + 1))).length = Z2 at hec61 hnx1 hec1 HEC1
              have hkz : ¬ (Z2 : Int) ≤ (K : Int) := by omega
              clear hnx hE1 hec1
              subst hel
              go_wp2_with fail
              go_at_call 20
              refine (ping_calls _ (HM.out.below HB6.out HM1.out)).mono ?_
              rintro e w7 ⟨A7, c7, rfl, hr7, hb7⟩
              have HB7 := Lib.hid (HB6.out.trans (hb7.mono HB6.out.size))
              have HR7 := Lib.hid hr7
              clear hb7 hr7
              go_wp2_with fail
              go_at_call 33
              refine (laws_sameTexts_calls A7 c7 pingXs (some ⟨w7.heap.size, 0, none⟩) 2 _ (HR7.out.below ((Below.refl _ _).alloc (Nat.le_refl _) _)) (ping_row (Below.refl _ _))).mono ?_
              rintro e w8 ⟨rfl, hb8⟩
              have HB8 : Hid (Below w.heap.size w w8) := (HB7.out.alloc HB7.out.size _).trans (hb8.mono (by have := HB7.out.size; simp; omega))
              clear hb8
              go_wp2
              go_ret
              exact ⟨rfl, HB8.out⟩
            · have hmi : ¬ (m : Int) < (vs.length : Int) := by omega
              clear hnx
              subst hel
              go_wp2_with fail
              go_at_call 20
              refine (ping_calls _ (HM.out.below HB6.out HM1.out)).mono ?_
              rintro e w7 ⟨A7, c7, rfl, hr7, hb7⟩
              have HB7 := Lib.hid (HB6.out.trans (hb7.mono HB6.out.size))
              have HR7 := Lib.hid hr7
              clear hb7 hr7
              go_wp2_with fail
              go_at_call 33
              refine (laws_sameTexts_calls A7 c7 pingXs (some ⟨w7.heap.size, 0, none⟩) 2 _ (HR7.out.below ((Below.refl _ _).alloc (Nat.le_refl _) _)) (ping_row (Below.refl _ _))).mono ?_
              rintro e w8 ⟨rfl, hb8⟩
              have HB8 : Hid (Below w.heap.size w w8) := (HB7.out.alloc HB7.out.size _).trans (hb8.mono (by have := HB7.out.size; simp; omega))
              clear hb8
              go_wp2
              go_ret
              exact ⟨rfl, HB8.out⟩
end Go.Proofs.YtanpkomifhbhnaaDoor
