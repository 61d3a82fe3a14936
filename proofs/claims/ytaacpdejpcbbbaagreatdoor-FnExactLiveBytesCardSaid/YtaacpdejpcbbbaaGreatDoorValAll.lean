/- ValueOf: what a spot of a disk holds; the program's and the reference's. ValueOf of the reference. -/
import Derived.Test.YtaacpdejpcbbbaaGreatDoorFileC
import Derived.Test.YtaacpdejpcbbbaaGreatDoorSeg5
import Derived.Deep.RegionHeld3
namespace Go.Proofs.YtaacpdejpcbbbaaGreatDoor
set_option linter.unusedVariables false
set_option linter.unusedSimpArgs false
open Go.RowKit
attribute [local go_sem] bs_size List.length_cons List.length_nil List.length_append

def chFind : List ChD → ByteArray → Option ByteArray
  | [], _ => none
  | x :: xs, k => if x.1 = k ∧ x.2.2 = false then some x.2.1 else chFind xs k
theorem chFind_at {k : ByteArray} : ∀ {cs : List ChD} {j : Nat} {x : ChD}, cs[j]? = some x → x.1 = k ∧ x.2.2 = false → (∀ (i : Nat) (y : ChD), i < j → cs[i]? = some y → ¬ (y.1 = k ∧ y.2.2 = false)) → chFind cs k = some x.2.1
  | [], j, x, h, _, _ => by simp at h
  | y :: ys, 0, x, h, hx, _ => by
    obtain rfl : y = x := by simpa using h
    unfold chFind
    rw [if_pos hx]
  | y :: ys, j + 1, x, h, hx, hn => by
    unfold chFind
    rw [if_neg (hn 0 y (by omega) rfl)]
    exact chFind_at (j := j) (by simpa using h) hx fun i z hi hz => hn (i + 1) z (by omega) (by simpa using hz)
theorem chFind_none {k : ByteArray} : ∀ {cs : List ChD}, (∀ (i : Nat) (y : ChD), cs[i]? = some y → ¬ (y.1 = k ∧ y.2.2 = false)) → chFind cs k = none
  | [], _ => rfl
  | y :: ys, h => by
    unfold chFind
    rw [if_neg (h 0 y rfl)]
    exact chFind_none fun i z hz => h (i + 1) z (by simpa using hz)
/-- No change ahead of j is the one. -/
def NotYet (cs : List ChD) (k : ByteArray) (j : Nat) : Prop := ∀ (i : Nat) (y : ChD), i < j → cs[i]? = some y → ¬ (y.1 = k ∧ y.2.2 = false)
theorem NotYet.step {cs : List ChD} {k : ByteArray} {j : Nat} {x : ChD} (h : NotYet cs k j) (hj : cs[j]? = some x) (hx : ¬ (x.1 = k ∧ x.2.2 = false)) : NotYet cs k (j + 1) := fun i y hi hy => by
  by_cases e : i = j
  · subst e
    rw [hj] at hy
    cases hy
    exact hx
  · exact h i y (by omega) hy
theorem NotYet.all {cs : List ChD} {k : ByteArray} (h : NotYet cs k cs.length) : chFind cs k = none := chFind_none fun i y hy => h i y (List.getElem?_eq_some_iff.1 hy).1 hy
/-- The batch whose frame begins at a place of a segment. -/
def l07B (fs : List FiD) (seg at_ : Int) : Option BatD := match fileB fs (segNm seg) with
  | none => none
  | some t => if inR at_ 0 (t.size : Int) = true then (match (unframeB (t.extract at_.toNat t.size)).1 with
    | [] => none
    | r :: _ => readBatS r) else none
def valOfB (fs : List FiD) (key : ByteArray) (seg at_ sq : Int) : Option ByteArray := if diskOkB fs = true then (match l07B fs seg at_ with
    | none => none
    | some b => if b.1 = sq then chFind b.2 key else none) else none
theorem valOf_bad {fs : List FiD} {key : ByteArray} {seg at_ sq : Int} (h : diskOkB fs = false) : valOfB fs key seg at_ sq = none := by unfold valOfB; rw [if_neg (by simp [h])]
theorem valOf_none {fs : List FiD} {key : ByteArray} {seg at_ sq : Int} (h : l07B fs seg at_ = none) : valOfB fs key seg at_ sq = none := by unfold valOfB; rw [h]; simp
theorem valOf_seq {fs : List FiD} {key : ByteArray} {seg at_ sq : Int} {b : BatD} (h : l07B fs seg at_ = some b) (hs : b.1 ≠ sq) : valOfB fs key seg at_ sq = none := by unfold valOfB; rw [h]; simp [hs]
theorem valOf_some {fs : List FiD} {key : ByteArray} {seg at_ sq : Int} {b : BatD} (hd : diskOkB fs = true) (h : l07B fs seg at_ = some b) (hs : b.1 = sq) : valOfB fs key seg at_ sq = chFind b.2 key := by unfold valOfB; rw [h]; simp [hs, hd]
theorem l07_no {fs : List FiD} {seg at_ : Int} (h : fileB fs (segNm seg) = none) : l07B fs seg at_ = none := by unfold l07B; rw [h]
theorem l07_out {fs : List FiD} {seg at_ : Int} {t : ByteArray} (h : fileB fs (segNm seg) = some t) (hr : inR at_ 0 (t.size : Int) = false) : l07B fs seg at_ = none := by unfold l07B; rw [h]; simp [hr]
theorem l07_nil {fs : List FiD} {seg at_ : Int} {t : ByteArray} (h : fileB fs (segNm seg) = some t) (hr : inR at_ 0 (t.size : Int) = true) (hu : (unframeB (t.extract at_.toNat t.size)).1 = []) : l07B fs seg at_ = none := by unfold l07B; rw [h]; simp [hr, hu]
theorem l07_cons {fs : List FiD} {seg at_ : Int} {t r : ByteArray} {rs : List ByteArray} (h : fileB fs (segNm seg) = some t) (hr : inR at_ 0 (t.size : Int) = true) (hu : (unframeB (t.extract at_.toNat t.size)).1 = r :: rs) : l07B fs seg at_ = readBatS r := by unfold l07B; rw [h]; simp [hr, hu]
/-- What FileAt gives, in one form. -/
theorem fiUni (o : Option ByteArray) : ∃ (t : ByteArray) (b : Bool), fiRes o = .tuple #[.string t, .bool b] ∧ (b = true → o = some t) ∧ (b = false → o = none) := by
  cases o with
  | none => exact ⟨⟨#[]⟩, false, rfl, (fun e => by cases e), fun _ => rfl⟩
  | some t => exact ⟨t, true, rfl, (fun _ => rfl), fun e => by cases e⟩
/-- The disk and the spot in their boxes. -/
abbrev W2 (w : World) (A : Option Addr) (n c : Nat) (key : ByteArray) (seg at_ sq : Int) : World := (w.alloc (.cells #[.slice A n c] 32)).alloc (.cells #[.string key, .int .i64 seg, .int .i64 at_, .int .i64 sq] 56)
structure VH (w : World) (A : Option Addr) (n c : Nat) (key : ByteArray) (seg at_ sq : Int) (W : World) : Prop where
  b : Below (W2 w A n c key seg at_ sq).heap.size (W2 w A n c key seg at_ sq) W
section
variable {w W W' : World} {A : Option Addr} {n c : Nat} {key : ByteArray} {seg at_ sq : Int}
theorem VH.go (h : VH w A n c key seg at_ sq W) (hb : Below W.heap.size W W') : VH w A n c key seg at_ sq W' := ⟨h.b.trans (hb.mono h.b.size)⟩
theorem VH.drew (h : VH w A n c key seg at_ sq W) : VH w A n c key seg at_ sq W.drew := h.go (Below.drew (Below.refl _ _))
theorem VH.alloc (h : VH w A n c key seg at_ sq W) (o : Obj) : VH w A n c key seg at_ sq (W.alloc o) := h.go ((Below.refl _ _).alloc (Nat.le_refl _) _)
theorem VH.from_ (h : VH w A n c key seg at_ sq W) : Below w.heap.size w W := (((Below.refl _ _).alloc (Nat.le_refl _) _).alloc (by simp) _).trans (h.b.mono (by simp; omega))
theorem VH.all (h : VH w A n c key seg at_ sq W) : W.cell? ⟨w.heap.size, 0, none⟩ = some (.slice A n c) ∧ W.cell? ⟨w.heap.size + 1, 0, none⟩ = some (.string key) ∧ W.cell? ⟨w.heap.size + 1, 1, none⟩ = some (.int .i64 seg) ∧ W.cell? ⟨w.heap.size + 1, 2, none⟩ = some (.int .i64 at_) ∧ W.cell? ⟨w.heap.size + 1, 3, none⟩ = some (.int .i64 sq) ∧ Hid (VH w A n c key seg at_ sq W) := by
  have e : (w.alloc (.cells #[.slice A n c] 32)).heap.size = w.heap.size + 1 := by simp
  have hs : (W2 w A n c key seg at_ sq).heap[w.heap.size + 1]? = some (.cells #[.string key, .int .i64 seg, .int .i64 at_, .int .i64 sq] 56) := by rw [← e]; exact blk_new _ _
  have hd : (W2 w A n c key seg at_ sq).cell? ⟨w.heap.size, 0, none⟩ = some (.slice A n c) := cell_new (blk_cell (blk_new w _) 0) _
  have hW := blk_below hs h.b
  exact ⟨(h.b.cell (by simp; omega)).trans hd, blk_cell hW 0, blk_cell hW 1, blk_cell hW 2, blk_cell hW 3, h⟩
end
theorem vh_start (w : World) (A : Option Addr) (n c : Nat) (key : ByteArray) (seg at_ sq : Int) : VH w A n c key seg at_ sq (W2 w A n c key seg at_ sq) := ⟨Below.refl _ _⟩
/-- A batch in its block beside them. -/
structure VL (w : World) (A : Option Addr) (n c : Nat) (key : ByteArray) (seg at_ sq : Int) (gb : Nat) (q : Int) (Ac : Option Addr) (cc : Nat) (cs : List ChD) (W : World) : Prop where
  v : VH w A n c key seg at_ sq W
  bb : W.heap[gb]? = some (.cells #[.int .i64 q, .slice Ac cs.length cc] 62)
  row : ChRow W Ac cc cs
section
variable {w W W' : World} {A : Option Addr} {n c : Nat} {key : ByteArray} {seg at_ sq : Int} {gb : Nat} {q : Int} {Ac : Option Addr} {cc : Nat} {cs : List ChD}
theorem VL.go (h : VL w A n c key seg at_ sq gb q Ac cc cs W) (hb : Below W.heap.size W W') : VL w A n c key seg at_ sq gb q Ac cc cs W' := ⟨h.v.go hb, blk_below h.bb hb, h.row.below hb⟩
theorem VL.cells (h : VL w A n c key seg at_ sq gb q Ac cc cs W) : W.cell? ⟨gb, 0, none⟩ = some (.int .i64 q) ∧ W.cell? ⟨gb, 1, none⟩ = some (.slice Ac cs.length cc) ∧ W.cell? ⟨w.heap.size + 1, 0, none⟩ = some (.string key) ∧ W.cell? ⟨w.heap.size + 1, 3, none⟩ = some (.int .i64 sq) := ⟨blk_cell h.bb 0, blk_cell h.bb 1, h.v.all.2.1, h.v.all.2.2.2.2.1⟩
end
set_option maxHeartbeats 4000000 in
set_option maxRecDepth 100000 in
theorem impl_ValueOf_calls (A : Option Addr) (c : Nat) (fs : List FiD) (key : ByteArray) (seg at_ sq : Int) (w : World) (h : FiRow w A c fs) (hP : Pow w) :
    Calls Tryz.prog 46 #[.agg #[.slice A fs.length c], .agg #[.string key, .int .i64 seg, .int .i64 at_, .int .i64 sq]] w fun e w' => e = .returned (fiRes (valOfB fs key seg at_ sq)) ∧ Below w.heap.size w w' := by
  have HF := Lib.hid h
  have HPW := Lib.hid hP
  have hl := h.len
  have HV := Lib.hid (vh_start w A fs.length c key seg at_ sq)
  have HV0 := Lib.hid HV.out.drew
  clear h hP
  obtain ⟨t, okb, hres, hy, hn⟩ := fiUni (fileB fs (segNm seg))
  have HRES := Lib.hid hres
  have HY := Lib.hid hy
  have HN := Lib.hid hn
  clear hres hy hn
  obtain ⟨dk, hdk⟩ : ∃ dk, diskOkB fs = dk := ⟨_, rfl⟩
  have HDK := Lib.hid hdk
  clear hdk
  go_enter Tryz.func46, Tryz.ntmps46
  go_wp2_with fail
  go_region_held3 (fun w' => w'.cell? ⟨w.heap.size, 0, none⟩ = some (.slice A fs.length c) ∧ w'.cell? ⟨w.heap.size + 1, 0, none⟩ = some (.string key) ∧ w'.cell? ⟨w.heap.size + 1, 1, none⟩ = some (.int .i64 seg) ∧ w'.cell? ⟨w.heap.size + 1, 2, none⟩ = some (.int .i64 at_) ∧ w'.cell? ⟨w.heap.size + 1, 3, none⟩ = some (.int .i64 sq) ∧ Hid (VH w A fs.length c key seg at_ sq w')) (first | exact HV0.out.all | exact (HV0.out.go (by assumption)).all | exact ((HV0.out.go (by assumption)).go (by assumption)).all) (first | (go_at_call 40; refine (impl_SegNm_calls seg _ (HPW.out.below (by first | exact HV0.out.from_))).mono ?_; rintro e w' ⟨rfl, hb⟩) | (go_at_call 39; refine (impl_FileAt_calls (segNm seg) A c fs _ (HF.out.below (HV0.out.go (by assumption)).from_)).mono ?_; rw [HRES.out]; rintro e w'' ⟨rfl, hb⟩))
  have HV1 := (‹_ ∧ _ ∧ _ ∧ _ ∧ _ ∧ Hid (VH w A fs.length c key seg at_ sq _)›).2.2.2.2.2
  obtain ⟨p0, p1, p2, p3, p4, _⟩ := HV1.out.all
  go_wp2_with fail
  go_at_call 82
  refine (impl_DiskOk_calls A c fs _ (HF.out.below HV1.out.from_)).mono ?_
  rw [HDK.out]
  rintro e w3 ⟨rfl, hb3⟩
  have HV3 := Lib.hid (HV1.out.go hb3)
  clear hb3 p0 p1 p2 p3 p4
  cases dk
  · have HE := Lib.hid (valOf_bad (key := key) (seg := seg) (at_ := at_) (sq := sq) HDK.out)
    go_wp2
    go_ret2
    exact ⟨by rw [HE.out]; rfl, HV3.out.from_⟩
  · cases okb
    · have HE := Lib.hid (valOf_none (key := key) (sq := sq) (l07_no (at_ := at_) (HN.out rfl)))
      go_wp2
      go_ret2
      exact ⟨by rw [HE.out]; rfl, HV3.out.from_⟩
    · have HT := Lib.hid (HY.out rfl)
      have hts := fileB_small HDK.out HT.out
      obtain ⟨p0, p1, p2, p3, p4, _⟩ := HV3.out.all
      cases hin : inR at_ 0 (t.size : Int)
      · have HE := Lib.hid (valOf_none (key := key) (sq := sq) (l07_out HT.out hin))
        have HIN := Lib.hid hin
        clear hin
        go_wp2_with fail
        go_at_call 57
        refine (within_at _ _ _ _ HIN.out).mono ?_
        rintro e w4 ⟨rfl, rfl⟩
        go_wp2
        go_ret2
        exact ⟨by rw [HE.out]; rfl, HV3.out.from_⟩
      · have HIN := Lib.hid hin
        have hat : 0 ≤ at_ ∧ at_ ≤ (t.size : Int) := by unfold inR at hin; simp only [Bool.and_eq_true, decide_eq_true_eq] at hin; omega
        clear hin
        obtain ⟨a, rfl⟩ := Int.eq_ofNat_of_zero_le hat.1
        have hat2 : a ≤ t.size := by omega
        clear hat
        have HSX : Hid ((t.extract a t.size).size ≤ 9000000) := by rw [Hid, ByteArray.size_extract]; omega
        go_wp2_with fail
        go_at_call 57
        refine (within_at _ _ _ _ HIN.out).mono ?_
        rintro e w4 ⟨rfl, rfl⟩
        go_wp2_with fail
        go_at_call 90
        refine (impl_Unframe_calls (t.extract a t.size) _ (by have := HSX.out; omega)).mono ?_
        rintro e w5 ⟨v5, rfl, ho5, hb5⟩
        have HV5 := Lib.hid (HV3.out.go hb5)
        have HL0 : Hid ((unframeB (t.extract a t.size)).1 = [] → l07B fs seg (a : Int) = none) := fun hu => l07_nil HT.out HIN.out (by rw [Int.toNat_natCast]; exact hu)
        have HL1 : Hid (∀ r rs, (unframeB (t.extract a t.size)).1 = r :: rs → l07B fs seg (a : Int) = readBatS r) := fun r rs hu => l07_cons HT.out HIN.out (by rw [Int.toNat_natCast]; exact hu)
        have HUS := Lib.hid (unframeB_le (t.extract a t.size)).2.2
        generalize unframeB (t.extract a t.size) = U at ho5 HL0 HL1 HUS ⊢
        obtain ⟨us, ue⟩ := U
        dsimp only at ho5 HL0 HL1 HUS ⊢
        clear hb5 p0 p1 p2 p3 p4
        cases us with
        | nil =>
          obtain ⟨A5, c5, rfl⟩ := ho5.form
          have HE := Lib.hid (valOf_none (key := key) (sq := sq) (HL0.out rfl))
          clear ho5
          go_wp2
          go_ret2
          exact ⟨by rw [HE.out]; rfl, HV5.out.from_⟩
        | cons r rs =>
          obtain ⟨ad, c5, rfl, hr0⟩ := ownS_at0 ho5
          have hrs := (HUS.out r (by simp)).2
          have HLR := Lib.hid (HL1.out r rs rfl)
          clear ho5
          have hlen0 : ((rs.length : Int) + 1 == 0) = false := beq_eq_false_iff_ne.mpr (by omega)
          go_wp2_with fail
          go_at_call 91
          refine (impl_ReadBatch_calls r _ (by omega)).mono ?_
          rw [readBat_same]
          cases hrb : readBatS r with
          | none =>
            rintro e w6 ⟨hb6, rfl⟩
            have HE := Lib.hid (valOf_none (key := key) (sq := sq) (HLR.out.trans hrb))
            have HV6 := Lib.hid (HV5.out.go hb6)
            have HV7 := Lib.hid (HV6.out.alloc (.cells #[.int .i64 0, .slice none 0 0] 62))
            clear hb6 hrb
            go_wp2
            go_ret2
            exact ⟨by rw [HE.out]; rfl, HV7.out.from_⟩
          | some d =>
            obtain ⟨q, cs⟩ := d
            rintro e w6 ⟨hb6, v6, rfl, ho6⟩
            obtain ⟨A6, c6, rfl, hr6⟩ := ho6.row (batD_small hrb).1
            have hcl := (batD_small hrb).2.2
            dsimp only at hcl
            have HVB := Lib.hid (HLR.out.trans hrb)
            have HAL : Hid (Below w6.heap.size w6 (w6.alloc (.cells #[.int .i64 q, .slice A6 cs.length c6] 62))) := (Below.refl _ _).alloc (Nat.le_refl _) _
            have HX : Hid (VL w A fs.length c key seg (a : Int) sq w6.heap.size q A6 c6 cs (w6.alloc (.cells #[.int .i64 q, .slice A6 cs.length c6] 62))) := ⟨(HV5.out.go hb6).go HAL.out, blk_new _ _, hr6.below HAL.out⟩
            obtain ⟨x0, x1, x2, x3⟩ := HX.out.cells
            clear hb6 ho6 hr6 hrb
            by_cases hqs : q = sq
            · have HQ := Lib.hid (valOf_some (key := key) HDK.out HVB.out hqs)
              have hq2 : (q != sq) = false := by simp [hqs]
              clear hqs
              go_wp2_with fail
              go_loopw [67] (fun iv wr => ∃ j : Nat, j ≤ cs.length ∧ iv = .int .i64 (j : Int) ∧ Hid (NotYet cs key j) ∧ Hid (VL w A fs.length c key seg (a : Int) sq w6.heap.size q A6 c6 cs wr)) (fun iv _ => cs.length - (intOf iv).toNat)
              case atStart => exact ⟨0, Nat.zero_le _, rfl, fun i y hi => by omega, HX⟩
              case round =>
                obtain ⟨j, hj, rfl, HNY, HXR⟩ := hrel
                clear x0 x1 x2 x3
                by_cases hlt : j < cs.length
                · obtain ⟨ad2, x, hA, HCX, hz1, hz2, hc0, hc1, hc2⟩ := HXR.out.row.at_ hlt
                  cases hA
                  obtain ⟨k, z, g⟩ := x
                  dsimp only at hz1 hz2 hc0 hc1 hc2
                  have HXA := Lib.hid (HXR.out.go ((Below.refl _ _).alloc (Nat.le_refl _) (.cells #[.string k, .string z, .bool g] 121)))
                  obtain ⟨_, _, y2, _⟩ := HXA.out.cells
                  by_cases hk : k = key
                  · have hkk : (k.toList == key.toList) = true := by rw [hk]; exact list_eq_yes key
                    cases g
                    · have HE := Lib.hid (chFind_at HCX.out ⟨hk, rfl⟩ HNY.out)
                      clear hk
                      go_wp2
                      go_ret2
                      exact ⟨by rw [HQ.out, HE.out]; rfl, HXA.out.v.from_⟩
                    · have HNN := Lib.hid (HNY.out.step HCX.out (by simp))
                      clear hk
                      go_wp2
                      go_roundw
                      case rel => first | exact ⟨j + 1, by omega, by go_num, HNN, HXA⟩ | (repeat (first | (refine ⟨?relx, rfl⟩; exact ⟨j + 1, by omega, by go_num, HNN, HXA⟩) | (refine ⟨?relx, ?eqs⟩; (case eqs => (and_intros <;> rfl)); exact ⟨j + 1, by omega, by go_num, HNN, HXA⟩) | apply Exists.intro))
                      case measure => simp [intOf]; omega
                  · have hkk := list_eq_no hk
                    have HNN := Lib.hid (HNY.out.step HCX.out (fun e => hk e.1))
                    clear hk
                    go_wp2
                    go_roundw
                    case rel => first | exact ⟨j + 1, by omega, by go_num, HNN, HXA⟩ | (repeat (first | (refine ⟨?relx, rfl⟩; exact ⟨j + 1, by omega, by go_num, HNN, HXA⟩) | (refine ⟨?relx, ?eqs⟩; (case eqs => (and_intros <;> rfl)); exact ⟨j + 1, by omega, by go_num, HNN, HXA⟩) | apply Exists.intro))
                    case measure => simp [intOf]; omega
                · obtain rfl : j = cs.length := by omega
                  have HE := Lib.hid HNY.out.all
                  go_wp2
                  go_ret2
                  exact ⟨by rw [HQ.out, HE.out]; rfl, HXR.out.v.from_⟩
            · have HE := Lib.hid (valOf_seq (key := key) HVB.out hqs)
              have hq2 : (q != sq) = true := by simpa using hqs
              clear hqs
              go_wp2
              go_ret2
              exact ⟨by rw [HE.out]; rfl, HX.out.v.from_⟩
end Go.Proofs.YtaacpdejpcbbbaaGreatDoor

namespace Go.Proofs.YtaacpdejpcbbbaaGreatDoor
set_option linter.unusedVariables false
set_option linter.unusedSimpArgs false
open Go.RowKit
attribute [local go_sem] bs_size List.length_cons List.length_nil List.length_append

/-- The disk in its box, the result's block beside it. -/
abbrev W3 (w : World) (A : Option Addr) (n c : Nat) : World := (w.alloc (.cells #[.slice A n c] 32)).alloc zBat
structure VJ (w : World) (A : Option Addr) (n c : Nat) (W : World) : Prop where
  b : Below (W3 w A n c).heap.size (W3 w A n c) W
section
variable {w W W' : World} {A : Option Addr} {n c : Nat}
theorem VJ.go (h : VJ w A n c W) (hb : Below W.heap.size W W') : VJ w A n c W' := ⟨h.b.trans (hb.mono h.b.size)⟩
theorem VJ.drew (h : VJ w A n c W) : VJ w A n c W.drew := h.go (Below.drew (Below.refl _ _))
theorem VJ.from_ (h : VJ w A n c W) : Below w.heap.size w W := (((Below.refl _ _).alloc (Nat.le_refl _) _).alloc (by simp) _).trans (h.b.mono (by simp; omega))
theorem VJ.res (h : VJ w A n c W) : W.heap[w.heap.size + 1]? = some zBat := by
  have e : (w.alloc (.cells #[.slice A n c] 32)).heap.size = w.heap.size + 1 := by simp
  have hs : (W3 w A n c).heap[w.heap.size + 1]? = some zBat := by rw [← e]; exact blk_new _ _
  exact blk_below hs h.b
theorem VJ.all (h : VJ w A n c W) : W.cell? ⟨w.heap.size, 0, none⟩ = some (.slice A n c) ∧ Hid (VJ w A n c W) := by
  have hd : (W3 w A n c).cell? ⟨w.heap.size, 0, none⟩ = some (.slice A n c) := cell_new (blk_cell (blk_new w _) 0) _
  exact ⟨(h.b.cell (by simp; omega)).trans hd, h⟩
theorem VJ.fz (h : VJ w A n c W) : W.cell? ⟨w.heap.size + 1, 0, none⟩ = some (.int .i64 0) ∧ W.cell? ⟨w.heap.size + 1, 1, none⟩ = some (.slice none 0 0) ∧ W.frozen? ⟨w.heap.size + 1, 0, none⟩ = false ∧ W.frozen? ⟨w.heap.size + 1, 1, none⟩ = false := ⟨blk_cell h.res 0, blk_cell h.res 1, blk_frozen h.res 0, blk_frozen h.res 1⟩
/-- The last step. -/
theorem VJ.end_ {fn : Func} {tmps : Array Value} {B C : Value} {b : Bool} {o : Option BatD} (hf : fn.results = #[.cell 6 62, .tmp 7]) (h : VJ w A n c W) (h2 : tmps.getD 6 undef = .pointer (some ⟨w.heap.size + 1, 0, none⟩)) (h3 : tmps.getD 7 undef = .bool b)
    (hp : Below w.heap.size w (set2 W (w.heap.size + 1) B C) → BatPost w o (.returned (.tuple #[.agg #[B, C], .bool b])) (set2 W (w.heap.size + 1) B C)) : bodyPost Tryz.prog fn (BatPost w o) .ret ⟨tmps, []⟩ (set2 W (w.heap.size + 1) B C) := by
  obtain ⟨fs, hu⟩ := und_bat
  refine bodyPost_ret (v := .tuple #[.agg #[B, C], .bool b]) ?_ rfl (hp (gr_below h.from_ (set2_grown W (w.heap.size + 1) B C) h.from_.size (fun k e => by cases e; omega)))
  rw [gres_row2 hf tmps _ (w.heap.size + 1) 62 #[B, C] (0, 0) (.struct fs) h2 (set2_blk h.res) hu rfl info_bat, h3]
end
theorem vj_start (w : World) (A : Option Addr) (n c : Nat) : VJ w A n c (W3 w A n c) := ⟨Below.refl _ _⟩
set_option maxHeartbeats 4000000 in
set_option maxRecDepth 100000 in
theorem spec_l07Batch_calls (A : Option Addr) (c : Nat) (fs : List FiD) (seg at_ : Int) (w : World) (h : FiRow w A c fs) (hd : diskOkB fs = true) :
    Calls Tryz.prog 36 #[.agg #[.slice A fs.length c], .int .i64 seg, .int .i64 at_] w (BatPost w (l07B fs seg at_)) := by
  have HF := Lib.hid h
  have HDK := Lib.hid hd
  have HV := Lib.hid (vj_start w A fs.length c)
  have HV0 := Lib.hid HV.out.drew
  clear h hd
  obtain ⟨t, okb, hres, hy, hn⟩ := fiUni (fileB fs (segNm seg))
  have HRES := Lib.hid hres
  have HY := Lib.hid hy
  have HN := Lib.hid hn
  clear hres hy hn
  go_enter Tryz.func36, Tryz.ntmps36
  go_wp2_with fail
  go_region_held3 (fun w' => w'.cell? ⟨w.heap.size, 0, none⟩ = some (.slice A fs.length c) ∧ Hid (VJ w A fs.length c w')) (first | exact HV0.out.all | exact (HV0.out.go (by assumption)).all | exact ((HV0.out.go (by assumption)).go (by assumption)).all) (first | (go_at_call 77; refine (spec_SegNm_calls seg _).mono ?_; rintro e w' ⟨rfl, hb⟩) | (go_at_call 76; refine (spec_FileAt_calls (segNm seg) A c fs _ (HF.out.below (HV0.out.go (by assumption)).from_)).mono ?_; rw [HRES.out]; rintro e w'' ⟨rfl, hb⟩))
  have HV1 := (‹_ ∧ Hid (VJ w A fs.length c _)›).2
  clear HV HV0
  cases okb
  · have HE := Lib.hid (l07_no (at_ := at_) (HN.out rfl))
    obtain ⟨p0, p1, p2, p3⟩ := HV1.out.fz
    go_wp2
    exact VJ.end_ rfl HV1.out rfl rfl fun hb => ⟨hb, by rw [HE.out]⟩
  · have HT := Lib.hid (HY.out rfl)
    have hts := fileB_small HDK.out HT.out
    cases hin : inR at_ 0 (t.size : Int)
    · have HE := Lib.hid (l07_out HT.out hin)
      have HIN := Lib.hid hin
      clear hin
      go_wp2_with fail
      go_at_call 48
      refine (l01In_at _ _ _ _ HIN.out).mono ?_
      rintro e w4 ⟨rfl, rfl⟩
      obtain ⟨p0, p1, p2, p3⟩ := HV1.out.fz
      go_wp2
      exact VJ.end_ rfl HV1.out rfl rfl fun hb => ⟨hb, by rw [HE.out]⟩
    · have HIN := Lib.hid hin
      have hat : 0 ≤ at_ ∧ at_ ≤ (t.size : Int) := by unfold inR at hin; simp only [Bool.and_eq_true, decide_eq_true_eq] at hin; omega
      clear hin
      obtain ⟨a, rfl⟩ := Int.eq_ofNat_of_zero_le hat.1
      have hat2 : a ≤ t.size := by omega
      clear hat
      have HSX : Hid ((t.extract a t.size).size ≤ 9000000) := by rw [Hid, ByteArray.size_extract]; omega
      go_wp2_with fail
      go_at_call 48
      refine (l01In_at _ _ _ _ HIN.out).mono ?_
      rintro e w4 ⟨rfl, rfl⟩
      go_wp2_with fail
      go_at_call 78
      refine (spec_Unframe_calls (t.extract a t.size) _ (by have := HSX.out; omega)).mono ?_
      rintro e w5 ⟨v5, rfl, ho5, hb5⟩
      have HV5 := Lib.hid (HV1.out.go hb5)
      have HL0 : Hid ((unframeB (t.extract a t.size)).1 = [] → l07B fs seg (a : Int) = none) := fun hu => l07_nil HT.out HIN.out (by rw [Int.toNat_natCast]; exact hu)
      have HL1 : Hid (∀ r rs, (unframeB (t.extract a t.size)).1 = r :: rs → l07B fs seg (a : Int) = readBatS r) := fun r rs hu => l07_cons HT.out HIN.out (by rw [Int.toNat_natCast]; exact hu)
      have HUS := Lib.hid (unframeB_le (t.extract a t.size)).2.2
      generalize unframeB (t.extract a t.size) = U at ho5 HL0 HL1 HUS ⊢
      obtain ⟨us, ue⟩ := U
      dsimp only at ho5 HL0 HL1 HUS ⊢
      clear hb5
      cases us with
      | nil =>
        obtain ⟨A5, c5, rfl⟩ := ho5.form
        have HE := Lib.hid (HL0.out rfl)
        obtain ⟨p0, p1, p2, p3⟩ := HV5.out.fz
        clear ho5
        go_wp2
        exact VJ.end_ rfl HV5.out rfl rfl fun hb => ⟨hb, by rw [HE.out]⟩
      | cons r rs =>
        obtain ⟨ad, c5, rfl, hr0⟩ := ownS_at0 ho5
        have hrs := (HUS.out r (by simp)).2
        have HLR := Lib.hid (HL1.out r rs rfl)
        clear ho5
        have hlen0 : ((rs.length : Int) + 1 == 0) = false := beq_eq_false_iff_ne.mpr (by omega)
        go_wp2_with fail
        go_at_call 79
        refine (spec_ReadBatch_calls r _ (by omega)).mono ?_
        cases hrb : readBatS r with
        | none =>
          rintro e w6 ⟨hb6, rfl⟩
          have HE := Lib.hid (HLR.out.trans hrb)
          have HV6 := Lib.hid (HV5.out.go hb6)
          obtain ⟨p0, p1, p2, p3⟩ := HV6.out.fz
          clear hb6 hrb
          go_wp2
          exact VJ.end_ rfl HV6.out rfl rfl fun hb => ⟨hb, by rw [HE.out]⟩
        | some d =>
          obtain ⟨q, cs⟩ := d
          rintro e w6 ⟨hb6, v6, rfl, ho6⟩
          obtain ⟨A6, c6, rfl⟩ : ∃ A c, v6 = .slice A cs.length c := by
            obtain ⟨A, c, e, _⟩ := ho6.row (batD_small hrb).1
            exact ⟨A, c, e⟩
          have HE := Lib.hid (HLR.out.trans hrb)
          have HV6 := Lib.hid (HV5.out.go hb6)
          have HO6 := Lib.hid ho6
          have HSZ := Lib.hid HV5.out.b.size
          obtain ⟨p0, p1, p2, p3⟩ := HV6.out.fz
          clear hb6 hrb ho6
          go_wp2
          refine VJ.end_ rfl HV6.out rfl rfl fun hb => ⟨hb, ?_⟩
          rw [HE.out]
          refine ⟨_, rfl, (HO6.out.kept (set2_grown w6 (w.heap.size + 1) (.int .i64 q) (.slice A6 cs.length c6)) fun k hk e => ?_).mono (by have := HV5.out.from_.size; omega)⟩
          have h1 := (HO6.out.lt k hk).1
          have h2 := HSZ.out
          have h3 := Option.some.inj e
          simp at h2
          omega
theorem l07_small {fs : List FiD} {seg at_ : Int} {b : BatD} (h : l07B fs seg at_ = some b) : ChSmall b.2 ∧ b.2.length ≤ 40 := by
  unfold l07B at h
  split at h
  · cases h
  · split at h
    · split at h
      · cases h
      · exact ⟨(batD_small h).1, (batD_small h).2.2⟩
    · cases h
set_option maxHeartbeats 4000000 in
set_option maxRecDepth 100000 in
theorem spec_ValueOf_calls (A : Option Addr) (c : Nat) (fs : List FiD) (key : ByteArray) (seg at_ sq : Int) (w : World) (h : FiRow w A c fs) :
    Calls Tryz.prog 43 #[.agg #[.slice A fs.length c], .agg #[.string key, .int .i64 seg, .int .i64 at_, .int .i64 sq]] w fun e w' => e = .returned (fiRes (valOfB fs key seg at_ sq)) ∧ Below w.heap.size w w' := by
  have HF := Lib.hid h
  have hl := h.len
  have HV := Lib.hid (vh_start w A fs.length c key seg at_ sq)
  clear h
  obtain ⟨dk, hdk⟩ : ∃ dk, diskOkB fs = dk := ⟨_, rfl⟩
  have HDK := Lib.hid hdk
  clear hdk
  obtain ⟨p0, p1, p2, p3, p4, _⟩ := HV.out.all
  go_enter Tryz.func43, Tryz.ntmps43
  go_wp2_with fail
  go_at_call 94
  refine (spec_DiskOk_calls A c fs _ (HF.out.below HV.out.from_)).mono ?_
  rw [HDK.out]
  rintro e w3 ⟨rfl, hb3⟩
  have HV3 := Lib.hid (HV.out.go hb3)
  clear hb3 p0 p1 p2 p3 p4
  cases dk
  · have HE := Lib.hid (valOf_bad (key := key) (seg := seg) (at_ := at_) (sq := sq) HDK.out)
    go_wp2
    go_ret2
    exact ⟨by rw [HE.out]; rfl, HV3.out.from_⟩
  · obtain ⟨p0, p1, p2, p3, p4, _⟩ := HV3.out.all
    go_wp2_with fail
    go_at_call 36
    refine (spec_l07Batch_calls A c fs seg at_ _ (HF.out.below HV3.out.from_) HDK.out).mono ?_
    clear p0 p1 p2 p3 p4
    cases hrb : l07B fs seg at_ with
    | none =>
      rintro e w6 ⟨hb6, rfl⟩
      have HE := Lib.hid (valOf_none (key := key) (sq := sq) hrb)
      have HV6 := Lib.hid (HV3.out.go hb6)
      have HV7 := Lib.hid (HV6.out.alloc (.cells #[.int .i64 0, .slice none 0 0] 62))
      clear hb6 hrb
      go_wp2
      go_ret2
      exact ⟨by rw [HE.out]; rfl, HV7.out.from_⟩
    | some d =>
      obtain ⟨q, cs⟩ := d
      rintro e w6 ⟨hb6, v6, rfl, ho6⟩
      have hsm := l07_small hrb
      obtain ⟨A6, c6, rfl, hr6⟩ := ho6.row hsm.1
      have hcl := hsm.2
      dsimp only at hcl
      have HVB := Lib.hid hrb
      have HAL : Hid (Below w6.heap.size w6 (w6.alloc (.cells #[.int .i64 q, .slice A6 cs.length c6] 62))) := (Below.refl _ _).alloc (Nat.le_refl _) _
      have HX : Hid (VL w A fs.length c key seg at_ sq w6.heap.size q A6 c6 cs (w6.alloc (.cells #[.int .i64 q, .slice A6 cs.length c6] 62))) := ⟨(HV3.out.go hb6).go HAL.out, blk_new _ _, hr6.below HAL.out⟩
      obtain ⟨x0, x1, x2, x3⟩ := HX.out.cells
      clear hb6 ho6 hr6 hrb hsm
      by_cases hqs : q = sq
      · have HQ := Lib.hid (valOf_some (key := key) HDK.out HVB.out hqs)
        have hq2 : (q != sq) = false := by simp [hqs]
        clear hqs
        go_wp2_with fail
        go_loopw [8] (fun iv wr => ∃ j : Nat, j ≤ cs.length ∧ iv = .int .i64 (j : Int) ∧ Hid (NotYet cs key j) ∧ Hid (VL w A fs.length c key seg at_ sq w6.heap.size q A6 c6 cs wr)) (fun iv _ => cs.length - (intOf iv).toNat)
        case atStart => exact ⟨0, Nat.zero_le _, rfl, fun i y hi => by omega, HX⟩
        case round =>
          obtain ⟨j, hj, rfl, HNY, HXR⟩ := hrel
          clear x0 x1 x2 x3
          obtain ⟨y0, y1, y2, y3⟩ := HXR.out.cells
          by_cases hlt : j < cs.length
          · obtain ⟨ad2, x, hA, HCX, hz1, hz2, hc0, hc1, hc2⟩ := HXR.out.row.at_ hlt
            cases hA
            obtain ⟨k, z, g⟩ := x
            dsimp only at hz1 hz2 hc0 hc1 hc2
            have HXA := Lib.hid (HXR.out.go (Below.drew (Below.refl _ _)))
            have hli : (j : Int) < (cs.length : Int) := by omega
            by_cases hk : k = key
            · have hkk : (k.toList == key.toList) = true := by rw [hk]; exact list_eq_yes key
              cases g
              · have HE := Lib.hid (chFind_at HCX.out ⟨hk, rfl⟩ HNY.out)
                clear hk
                go_wp2
                go_quiet (fail)
                go_wp2
                go_ret2
                exact ⟨by rw [HQ.out, HE.out]; rfl, blwN HXR.out.v.from_ _⟩
              · have HNN := Lib.hid (HNY.out.step HCX.out (by simp))
                clear hk
                go_wp2
                go_quiet (fail)
                go_wp2
                go_roundw
                case rel => first | exact ⟨j + 1, by omega, by go_num, HNN, HXR.out.go (blwN (Below.refl _ _) _)⟩ | (repeat (first | (refine ⟨?relx, rfl⟩; exact ⟨j + 1, by omega, by go_num, HNN, HXR.out.go (blwN (Below.refl _ _) _)⟩) | (refine ⟨?relx, ?eqs⟩; (case eqs => (and_intros <;> rfl)); exact ⟨j + 1, by omega, by go_num, HNN, HXR.out.go (blwN (Below.refl _ _) _)⟩) | apply Exists.intro))
                case measure => simp [intOf]; omega
            · have hkk := list_eq_no hk
              have HNN := Lib.hid (HNY.out.step HCX.out (fun e => hk e.1))
              clear hk
              go_wp2
              go_quiet (fail)
              go_wp2
              go_roundw
              case rel => first | exact ⟨j + 1, by omega, by go_num, HNN, HXR.out.go (blwN (Below.refl _ _) _)⟩ | (repeat (first | (refine ⟨?relx, rfl⟩; exact ⟨j + 1, by omega, by go_num, HNN, HXR.out.go (blwN (Below.refl _ _) _)⟩) | (refine ⟨?relx, ?eqs⟩; (case eqs => (and_intros <;> rfl)); exact ⟨j + 1, by omega, by go_num, HNN, HXR.out.go (blwN (Below.refl _ _) _)⟩) | apply Exists.intro))
              case measure => simp [intOf]; omega
          · obtain rfl : j = cs.length := by omega
            have HE := Lib.hid HNY.out.all
            go_wp2
            go_ret2
            exact ⟨by rw [HQ.out, HE.out]; rfl, HXR.out.v.from_⟩
      · have HE := Lib.hid (valOf_seq (key := key) HVB.out hqs)
        have hq2 : (q != sq) = true := by simpa using hqs
        clear hqs
        go_wp2
        go_ret2
        exact ⟨by rw [HE.out]; rfl, HX.out.v.from_⟩
end Go.Proofs.YtaacpdejpcbbbaaGreatDoor
