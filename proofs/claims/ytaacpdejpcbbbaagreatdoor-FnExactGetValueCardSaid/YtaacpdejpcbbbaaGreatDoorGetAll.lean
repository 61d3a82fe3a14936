/- ValueOf: what a spot of a disk holds; the program's and the reference's. ValueOf of the reference. The value that an engine holds of a key: plain, and the program's. The value that an engine holds of a key: the reference's. The walk of the law FnExactGetValue: whatever the engine, it returns true. -/
import Derived.Test.YtaacpdejpcbbbaaGreatDoorFileC
import Derived.Test.YtaacpdejpcbbbaaGreatDoorSeg5
import Derived.Deep.RegionHeld3
import Derived.Test.YtaacpdejpcbbbaaGreatDoorOkAll
import Derived.Test.YtaacpdejpcbbbaaGreatDoorMarkAll
import Derived.Test.YtaacpdejpcbbbaaGreatDoorDecAll
namespace Go.Proofs.YtaacpdejpcbbbaaGreatDoor
set_option linter.unusedVariables false
set_option linter.unusedSimpArgs false
open Go.RowKit
attribute [local go_sem] bs_size List.length_cons List.length_nil List.length_append

def chFind : List ChD → ByteArray → Option ByteArray
  | [], _ => none
  | x :: xs, k => if x.1 = k ∧ x.2.2 = false then some x.2.1 else chFind xs k
theorem chFind_at {k : ByteArray} : ∀ {cs : List ChD} {j : Nat} {x : ChD}, cs[j]? = some x → x.1 = k ∧ x.2.2 = false → (∀ (i : Nat) (y : ChD), i < j → cs[i]? = some y → ¬ (y.1 = k ∧ y.2.2 = false)) → chFind cs k = some x.2.1
  | [], j, x, h, _, _ => by simp at h
  | y :: ys, 0, x, h, hx, _ => by
    obtain rfl : y = x := by simpa using h
    unfold chFind
    rw [if_pos hx]
  | y :: ys, j + 1, x, h, hx, hn => by
    unfold chFind
    rw [if_neg (hn 0 y (by omega) rfl)]
    exact chFind_at (j := j) (by simpa using h) hx fun i z hi hz => hn (i + 1) z (by omega) (by simpa using hz)
theorem chFind_none {k : ByteArray} : ∀ {cs : List ChD}, (∀ (i : Nat) (y : ChD), cs[i]? = some y → ¬ (y.1 = k ∧ y.2.2 = false)) → chFind cs k = none
  | [], _ => rfl
  | y :: ys, h => by
    unfold chFind
    rw [if_neg (h 0 y rfl)]
    exact chFind_none fun i z hz => h (i + 1) z (by simpa using hz)
/-- No change ahead of j is the one. -/
def NotYet (cs : List ChD) (k : ByteArray) (j : Nat) : Prop := ∀ (i : Nat) (y : ChD), i < j → cs[i]? = some y → ¬ (y.1 = k ∧ y.2.2 = false)
theorem NotYet.step {cs : List ChD} {k : ByteArray} {j : Nat} {x : ChD} (h : NotYet cs k j) (hj : cs[j]? = some x) (hx : ¬ (x.1 = k ∧ x.2.2 = false)) : NotYet cs k (j + 1) := fun i y hi hy => by
  by_cases e : i = j
  · subst e
    rw [hj] at hy
    cases hy
    exact hx
  · exact h i y (by omega) hy
theorem NotYet.all {cs : List ChD} {k : ByteArray} (h : NotYet cs k cs.length) : chFind cs k = none := chFind_none fun i y hy => h i y (List.getElem?_eq_some_iff.1 hy).1 hy
/-- The batch whose frame begins at a place of a segment. -/
def l07B (fs : List FiD) (seg at_ : Int) : Option BatD := match fileB fs (segNm seg) with
  | none => none
  | some t => if inR at_ 0 (t.size : Int) = true then (match (unframeB (t.extract at_.toNat t.size)).1 with
    | [] => none
    | r :: _ => readBatS r) else none
def valOfB (fs : List FiD) (key : ByteArray) (seg at_ sq : Int) : Option ByteArray := if diskOkB fs = true then (match l07B fs seg at_ with
    | none => none
    | some b => if b.1 = sq then chFind b.2 key else none) else none
theorem valOf_bad {fs : List FiD} {key : ByteArray} {seg at_ sq : Int} (h : diskOkB fs = false) : valOfB fs key seg at_ sq = none := by unfold valOfB; rw [if_neg (by simp [h])]
theorem valOf_none {fs : List FiD} {key : ByteArray} {seg at_ sq : Int} (h : l07B fs seg at_ = none) : valOfB fs key seg at_ sq = none := by unfold valOfB; rw [h]; simp
theorem valOf_seq {fs : List FiD} {key : ByteArray} {seg at_ sq : Int} {b : BatD} (h : l07B fs seg at_ = some b) (hs : b.1 ≠ sq) : valOfB fs key seg at_ sq = none := by unfold valOfB; rw [h]; simp [hs]
theorem valOf_some {fs : List FiD} {key : ByteArray} {seg at_ sq : Int} {b : BatD} (hd : diskOkB fs = true) (h : l07B fs seg at_ = some b) (hs : b.1 = sq) : valOfB fs key seg at_ sq = chFind b.2 key := by unfold valOfB; rw [h]; simp [hs, hd]
theorem l07_no {fs : List FiD} {seg at_ : Int} (h : fileB fs (segNm seg) = none) : l07B fs seg at_ = none := by unfold l07B; rw [h]
theorem l07_out {fs : List FiD} {seg at_ : Int} {t : ByteArray} (h : fileB fs (segNm seg) = some t) (hr : inR at_ 0 (t.size : Int) = false) : l07B fs seg at_ = none := by unfold l07B; rw [h]; simp [hr]
theorem l07_nil {fs : List FiD} {seg at_ : Int} {t : ByteArray} (h : fileB fs (segNm seg) = some t) (hr : inR at_ 0 (t.size : Int) = true) (hu : (unframeB (t.extract at_.toNat t.size)).1 = []) : l07B fs seg at_ = none := by unfold l07B; rw [h]; simp [hr, hu]
theorem l07_cons {fs : List FiD} {seg at_ : Int} {t r : ByteArray} {rs : List ByteArray} (h : fileB fs (segNm seg) = some t) (hr : inR at_ 0 (t.size : Int) = true) (hu : (unframeB (t.extract at_.toNat t.size)).1 = r :: rs) : l07B fs seg at_ = readBatS r := by unfold l07B; rw [h]; simp [hr, hu]
/-- What FileAt gives, in one form. -/
theorem fiUni (o : Option ByteArray) : ∃ (t : ByteArray) (b : Bool), fiRes o = .tuple #[.string t, .bool b] ∧ (b = true → o = some t) ∧ (b = false → o = none) := by
  cases o with
  | none => exact ⟨⟨#[]⟩, false, rfl, (fun e => by cases e), fun _ => rfl⟩
  | some t => exact ⟨t, true, rfl, (fun _ => rfl), fun e => by cases e⟩
/-- The disk and the spot in their boxes. -/
abbrev W2 (w : World) (A : Option Addr) (n c : Nat) (key : ByteArray) (seg at_ sq : Int) : World := (w.alloc (.cells #[.slice A n c] 32)).alloc (.cells #[.string key, .int .i64 seg, .int .i64 at_, .int .i64 sq] 56)
structure VH (w : World) (A : Option Addr) (n c : Nat) (key : ByteArray) (seg at_ sq : Int) (W : World) : Prop where
  b : Below (W2 w A n c key seg at_ sq).heap.size (W2 w A n c key seg at_ sq) W
section
variable {w W W' : World} {A : Option Addr} {n c : Nat} {key : ByteArray} {seg at_ sq : Int}
theorem VH.go (h : VH w A n c key seg at_ sq W) (hb : Below W.heap.size W W') : VH w A n c key seg at_ sq W' := ⟨h.b.trans (hb.mono h.b.size)⟩
theorem VH.drew (h : VH w A n c key seg at_ sq W) : VH w A n c key seg at_ sq W.drew := h.go (Below.drew (Below.refl _ _))
theorem VH.alloc (h : VH w A n c key seg at_ sq W) (o : Obj) : VH w A n c key seg at_ sq (W.alloc o) := h.go ((Below.refl _ _).alloc (Nat.le_refl _) _)
theorem VH.from_ (h : VH w A n c key seg at_ sq W) : Below w.heap.size w W := (((Below.refl _ _).alloc (Nat.le_refl _) _).alloc (by simp) _).trans (h.b.mono (by simp; omega))
theorem VH.all (h : VH w A n c key seg at_ sq W) : W.cell? ⟨w.heap.size, 0, none⟩ = some (.slice A n c) ∧ W.cell? ⟨w.heap.size + 1, 0, none⟩ = some (.string key) ∧ W.cell? ⟨w.heap.size + 1, 1, none⟩ = some (.int .i64 seg) ∧ W.cell? ⟨w.heap.size + 1, 2, none⟩ = some (.int .i64 at_) ∧ W.cell? ⟨w.heap.size + 1, 3, none⟩ = some (.int .i64 sq) ∧ Hid (VH w A n c key seg at_ sq W) := by
  have e : (w.alloc (.cells #[.slice A n c] 32)).heap.size = w.heap.size + 1 := by simp
  have hs : (W2 w A n c key seg at_ sq).heap[w.heap.size + 1]? = some (.cells #[.string key, .int .i64 seg, .int .i64 at_, .int .i64 sq] 56) := by rw [← e]; exact blk_new _ _
  have hd : (W2 w A n c key seg at_ sq).cell? ⟨w.heap.size, 0, none⟩ = some (.slice A n c) := cell_new (blk_cell (blk_new w _) 0) _
  have hW := blk_below hs h.b
  exact ⟨(h.b.cell (by simp; omega)).trans hd, blk_cell hW 0, blk_cell hW 1, blk_cell hW 2, blk_cell hW 3, h⟩
end
theorem vh_start (w : World) (A : Option Addr) (n c : Nat) (key : ByteArray) (seg at_ sq : Int) : VH w A n c key seg at_ sq (W2 w A n c key seg at_ sq) := ⟨Below.refl _ _⟩
/-- A batch in its block beside them. -/
structure VL (w : World) (A : Option Addr) (n c : Nat) (key : ByteArray) (seg at_ sq : Int) (gb : Nat) (q : Int) (Ac : Option Addr) (cc : Nat) (cs : List ChD) (W : World) : Prop where
  v : VH w A n c key seg at_ sq W
  bb : W.heap[gb]? = some (.cells #[.int .i64 q, .slice Ac cs.length cc] 62)
  row : ChRow W Ac cc cs
section
variable {w W W' : World} {A : Option Addr} {n c : Nat} {key : ByteArray} {seg at_ sq : Int} {gb : Nat} {q : Int} {Ac : Option Addr} {cc : Nat} {cs : List ChD}
theorem VL.go (h : VL w A n c key seg at_ sq gb q Ac cc cs W) (hb : Below W.heap.size W W') : VL w A n c key seg at_ sq gb q Ac cc cs W' := ⟨h.v.go hb, blk_below h.bb hb, h.row.below hb⟩
theorem VL.cells (h : VL w A n c key seg at_ sq gb q Ac cc cs W) : W.cell? ⟨gb, 0, none⟩ = some (.int .i64 q) ∧ W.cell? ⟨gb, 1, none⟩ = some (.slice Ac cs.length cc) ∧ W.cell? ⟨w.heap.size + 1, 0, none⟩ = some (.string key) ∧ W.cell? ⟨w.heap.size + 1, 3, none⟩ = some (.int .i64 sq) := ⟨blk_cell h.bb 0, blk_cell h.bb 1, h.v.all.2.1, h.v.all.2.2.2.2.1⟩
end
set_option maxHeartbeats 4000000 in
set_option maxRecDepth 100000 in
theorem impl_ValueOf_calls (A : Option Addr) (c : Nat) (fs : List FiD) (key : ByteArray) (seg at_ sq : Int) (w : World) (h : FiRow w A c fs) (hP : Pow w) :
    Calls Tryz.prog 46 #[.agg #[.slice A fs.length c], .agg #[.string key, .int .i64 seg, .int .i64 at_, .int .i64 sq]] w fun e w' => e = .returned (fiRes (valOfB fs key seg at_ sq)) ∧ Below w.heap.size w w' := by
  have HF := Lib.hid h
  have HPW := Lib.hid hP
  have hl := h.len
  have HV := Lib.hid (vh_start w A fs.length c key seg at_ sq)
  have HV0 := Lib.hid HV.out.drew
  clear h hP
  obtain ⟨t, okb, hres, hy, hn⟩ := fiUni (fileB fs (segNm seg))
  have HRES := Lib.hid hres
  have HY := Lib.hid hy
  have HN := Lib.hid hn
  clear hres hy hn
  obtain ⟨dk, hdk⟩ : ∃ dk, diskOkB fs = dk := ⟨_, rfl⟩
  have HDK := Lib.hid hdk
  clear hdk
  go_enter Tryz.func46, Tryz.ntmps46
  go_wp2_with fail
  go_region_held3 (fun w' => w'.cell? ⟨w.heap.size, 0, none⟩ = some (.slice A fs.length c) ∧ w'.cell? ⟨w.heap.size + 1, 0, none⟩ = some (.string key) ∧ w'.cell? ⟨w.heap.size + 1, 1, none⟩ = some (.int .i64 seg) ∧ w'.cell? ⟨w.heap.size + 1, 2, none⟩ = some (.int .i64 at_) ∧ w'.cell? ⟨w.heap.size + 1, 3, none⟩ = some (.int .i64 sq) ∧ Hid (VH w A fs.length c key seg at_ sq w')) (first | exact HV0.out.all | exact (HV0.out.go (by assumption)).all | exact ((HV0.out.go (by assumption)).go (by assumption)).all) (first | (go_at_call 40; refine (impl_SegNm_calls seg _ (HPW.out.below (by first | exact HV0.out.from_))).mono ?_; rintro e w' ⟨rfl, hb⟩) | (go_at_call 39; refine (impl_FileAt_calls (segNm seg) A c fs _ (HF.out.below (HV0.out.go (by assumption)).from_)).mono ?_; rw [HRES.out]; rintro e w'' ⟨rfl, hb⟩))
  have HV1 := (‹_ ∧ _ ∧ _ ∧ _ ∧ _ ∧ Hid (VH w A fs.length c key seg at_ sq _)›).2.2.2.2.2
  obtain ⟨p0, p1, p2, p3, p4, _⟩ := HV1.out.all
  go_wp2_with fail
  go_at_call 82
  refine (impl_DiskOk_calls A c fs _ (HF.out.below HV1.out.from_)).mono ?_
  rw [HDK.out]
  rintro e w3 ⟨rfl, hb3⟩
  have HV3 := Lib.hid (HV1.out.go hb3)
  clear hb3 p0 p1 p2 p3 p4
  cases dk
  · have HE := Lib.hid (valOf_bad (key := key) (seg := seg) (at_ := at_) (sq := sq) HDK.out)
    go_wp2
    go_ret2
    exact ⟨by rw [HE.out]; rfl, HV3.out.from_⟩
  · cases okb
    · have HE := Lib.hid (valOf_none (key := key) (sq := sq) (l07_no (at_ := at_) (HN.out rfl)))
      go_wp2
      go_ret2
      exact ⟨by rw [HE.out]; rfl, HV3.out.from_⟩
    · have HT := Lib.hid (HY.out rfl)
      have hts := fileB_small HDK.out HT.out
      obtain ⟨p0, p1, p2, p3, p4, _⟩ := HV3.out.all
      cases hin : inR at_ 0 (t.size : Int)
      · have HE := Lib.hid (valOf_none (key := key) (sq := sq) (l07_out HT.out hin))
        have HIN := Lib.hid hin
        clear hin
        go_wp2_with fail
        go_at_call 57
        refine (within_at _ _ _ _ HIN.out).mono ?_
        rintro e w4 ⟨rfl, rfl⟩
        go_wp2
        go_ret2
        exact ⟨by rw [HE.out]; rfl, HV3.out.from_⟩
      · have HIN := Lib.hid hin
        have hat : 0 ≤ at_ ∧ at_ ≤ (t.size : Int) := by unfold inR at hin; simp only [Bool.and_eq_true, decide_eq_true_eq] at hin; omega
        clear hin
        obtain ⟨a, rfl⟩ := Int.eq_ofNat_of_zero_le hat.1
        have hat2 : a ≤ t.size := by omega
        clear hat
        have HSX : Hid ((t.extract a t.size).size ≤ 9000000) := by rw [Hid, ByteArray.size_extract]; omega
        go_wp2_with fail
        go_at_call 57
        refine (within_at _ _ _ _ HIN.out).mono ?_
        rintro e w4 ⟨rfl, rfl⟩
        go_wp2_with fail
        go_at_call 90
        refine (impl_Unframe_calls (t.extract a t.size) _ (by have := HSX.out; omega)).mono ?_
        rintro e w5 ⟨v5, rfl, ho5, hb5⟩
        have HV5 := Lib.hid (HV3.out.go hb5)
        have HL0 : Hid ((unframeB (t.extract a t.size)).1 = [] → l07B fs seg (a : Int) = none) := fun hu => l07_nil HT.out HIN.out (by rw [Int.toNat_natCast]; exact hu)
        have HL1 : Hid (∀ r rs, (unframeB (t.extract a t.size)).1 = r :: rs → l07B fs seg (a : Int) = readBatS r) := fun r rs hu => l07_cons HT.out HIN.out (by rw [Int.toNat_natCast]; exact hu)
        have HUS := Lib.hid (unframeB_le (t.extract a t.size)).2.2
        generalize unframeB (t.extract a t.size) = U at ho5 HL0 HL1 HUS ⊢
        obtain ⟨us, ue⟩ := U
        dsimp only at ho5 HL0 HL1 HUS ⊢
        clear hb5 p0 p1 p2 p3 p4
        cases us with
        | nil =>
          obtain ⟨A5, c5, rfl⟩ := ho5.form
          have HE := Lib.hid (valOf_none (key := key) (sq := sq) (HL0.out rfl))
          clear ho5
          go_wp2
          go_ret2
          exact ⟨by rw [HE.out]; rfl, HV5.out.from_⟩
        | cons r rs =>
          obtain ⟨ad, c5, rfl, hr0⟩ := ownS_at0 ho5
          have hrs := (HUS.out r (by simp)).2
          have HLR := Lib.hid (HL1.out r rs rfl)
          clear ho5
          have hlen0 : ((rs.length : Int) + 1 == 0) = false := beq_eq_false_iff_ne.mpr (by omega)
          go_wp2_with fail
          go_at_call 91
          refine (impl_ReadBatch_calls r _ (by omega)).mono ?_
          rw [readBat_same]
          cases hrb : readBatS r with
          | none =>
            rintro e w6 ⟨hb6, rfl⟩
            have HE := Lib.hid (valOf_none (key := key) (sq := sq) (HLR.out.trans hrb))
            have HV6 := Lib.hid (HV5.out.go hb6)
            have HV7 := Lib.hid (HV6.out.alloc (.cells #[.int .i64 0, .slice none 0 0] 62))
            clear hb6 hrb
            go_wp2
            go_ret2
            exact ⟨by rw [HE.out]; rfl, HV7.out.from_⟩
          | some d =>
            obtain ⟨q, cs⟩ := d
            rintro e w6 ⟨hb6, v6, rfl, ho6⟩
            obtain ⟨A6, c6, rfl, hr6⟩ := ho6.row (batD_small hrb).1
            have hcl := (batD_small hrb).2.2
            dsimp only at hcl
            have HVB := Lib.hid (HLR.out.trans hrb)
            have HAL : Hid (Below w6.heap.size w6 (w6.alloc (.cells #[.int .i64 q, .slice A6 cs.length c6] 62))) := (Below.refl _ _).alloc (Nat.le_refl _) _
            have HX : Hid (VL w A fs.length c key seg (a : Int) sq w6.heap.size q A6 c6 cs (w6.alloc (.cells #[.int .i64 q, .slice A6 cs.length c6] 62))) := ⟨(HV5.out.go hb6).go HAL.out, blk_new _ _, hr6.below HAL.out⟩
            obtain ⟨x0, x1, x2, x3⟩ := HX.out.cells
            clear hb6 ho6 hr6 hrb
            by_cases hqs : q = sq
            · have HQ := Lib.hid (valOf_some (key := key) HDK.out HVB.out hqs)
              have hq2 : (q != sq) = false := by simp [hqs]
              clear hqs
              go_wp2_with fail
              go_loopw [67] (fun iv wr => ∃ j : Nat, j ≤ cs.length ∧ iv = .int .i64 (j : Int) ∧ Hid (NotYet cs key j) ∧ Hid (VL w A fs.length c key seg (a : Int) sq w6.heap.size q A6 c6 cs wr)) (fun iv _ => cs.length - (intOf iv).toNat)
              case atStart => exact ⟨0, Nat.zero_le _, rfl, fun i y hi => by omega, HX⟩
              case round =>
                obtain ⟨j, hj, rfl, HNY, HXR⟩ := hrel
                clear x0 x1 x2 x3
                by_cases hlt : j < cs.length
                · obtain ⟨ad2, x, hA, HCX, hz1, hz2, hc0, hc1, hc2⟩ := HXR.out.row.at_ hlt
                  cases hA
                  obtain ⟨k, z, g⟩ := x
                  dsimp only at hz1 hz2 hc0 hc1 hc2
                  have HXA := Lib.hid (HXR.out.go ((Below.refl _ _).alloc (Nat.le_refl _) (.cells #[.string k, .string z, .bool g] 121)))
                  obtain ⟨_, _, y2, _⟩ := HXA.out.cells
                  by_cases hk : k = key
                  · have hkk : (k.toList == key.toList) = true := by rw [hk]; exact list_eq_yes key
                    cases g
                    · have HE := Lib.hid (chFind_at HCX.out ⟨hk, rfl⟩ HNY.out)
                      clear hk
                      go_wp2
                      go_ret2
                      exact ⟨by rw [HQ.out, HE.out]; rfl, HXA.out.v.from_⟩
                    · have HNN := Lib.hid (HNY.out.step HCX.out (by simp))
                      clear hk
                      go_wp2
                      go_roundw
                      case rel => first | exact ⟨j + 1, by omega, by go_num, HNN, HXA⟩ | (repeat (first | (refine ⟨?relx, rfl⟩; exact ⟨j + 1, by omega, by go_num, HNN, HXA⟩) | (refine ⟨?relx, ?eqs⟩; (case eqs => (and_intros <;> rfl)); exact ⟨j + 1, by omega, by go_num, HNN, HXA⟩) | apply Exists.intro))
                      case measure => simp [intOf]; omega
                  · have hkk := list_eq_no hk
                    have HNN := Lib.hid (HNY.out.step HCX.out (fun e => hk e.1))
                    clear hk
                    go_wp2
                    go_roundw
                    case rel => first | exact ⟨j + 1, by omega, by go_num, HNN, HXA⟩ | (repeat (first | (refine ⟨?relx, rfl⟩; exact ⟨j + 1, by omega, by go_num, HNN, HXA⟩) | (refine ⟨?relx, ?eqs⟩; (case eqs => (and_intros <;> rfl)); exact ⟨j + 1, by omega, by go_num, HNN, HXA⟩) | apply Exists.intro))
                    case measure => simp [intOf]; omega
                · obtain rfl : j = cs.length := by omega
                  have HE := Lib.hid HNY.out.all
                  go_wp2
                  go_ret2
                  exact ⟨by rw [HQ.out, HE.out]; rfl, HXR.out.v.from_⟩
            · have HE := Lib.hid (valOf_seq (key := key) HVB.out hqs)
              have hq2 : (q != sq) = true := by simpa using hqs
              clear hqs
              go_wp2
              go_ret2
              exact ⟨by rw [HE.out]; rfl, HX.out.v.from_⟩
end Go.Proofs.YtaacpdejpcbbbaaGreatDoor

namespace Go.Proofs.YtaacpdejpcbbbaaGreatDoor
set_option linter.unusedVariables false
set_option linter.unusedSimpArgs false
open Go.RowKit
attribute [local go_sem] bs_size List.length_cons List.length_nil List.length_append

/-- The disk in its box, the result's block beside it. -/
abbrev W3 (w : World) (A : Option Addr) (n c : Nat) : World := (w.alloc (.cells #[.slice A n c] 32)).alloc zBat
structure VJ (w : World) (A : Option Addr) (n c : Nat) (W : World) : Prop where
  b : Below (W3 w A n c).heap.size (W3 w A n c) W
section
variable {w W W' : World} {A : Option Addr} {n c : Nat}
theorem VJ.go (h : VJ w A n c W) (hb : Below W.heap.size W W') : VJ w A n c W' := ⟨h.b.trans (hb.mono h.b.size)⟩
theorem VJ.drew (h : VJ w A n c W) : VJ w A n c W.drew := h.go (Below.drew (Below.refl _ _))
theorem VJ.from_ (h : VJ w A n c W) : Below w.heap.size w W := (((Below.refl _ _).alloc (Nat.le_refl _) _).alloc (by simp) _).trans (h.b.mono (by simp; omega))
theorem VJ.res (h : VJ w A n c W) : W.heap[w.heap.size + 1]? = some zBat := by
  have e : (w.alloc (.cells #[.slice A n c] 32)).heap.size = w.heap.size + 1 := by simp
  have hs : (W3 w A n c).heap[w.heap.size + 1]? = some zBat := by rw [← e]; exact blk_new _ _
  exact blk_below hs h.b
theorem VJ.all (h : VJ w A n c W) : W.cell? ⟨w.heap.size, 0, none⟩ = some (.slice A n c) ∧ Hid (VJ w A n c W) := by
  have hd : (W3 w A n c).cell? ⟨w.heap.size, 0, none⟩ = some (.slice A n c) := cell_new (blk_cell (blk_new w _) 0) _
  exact ⟨(h.b.cell (by simp; omega)).trans hd, h⟩
theorem VJ.fz (h : VJ w A n c W) : W.cell? ⟨w.heap.size + 1, 0, none⟩ = some (.int .i64 0) ∧ W.cell? ⟨w.heap.size + 1, 1, none⟩ = some (.slice none 0 0) ∧ W.frozen? ⟨w.heap.size + 1, 0, none⟩ = false ∧ W.frozen? ⟨w.heap.size + 1, 1, none⟩ = false := ⟨blk_cell h.res 0, blk_cell h.res 1, blk_frozen h.res 0, blk_frozen h.res 1⟩
/-- The last step. -/
theorem VJ.end_ {fn : Func} {tmps : Array Value} {B C : Value} {b : Bool} {o : Option BatD} (hf : fn.results = #[.cell 6 62, .tmp 7]) (h : VJ w A n c W) (h2 : tmps.getD 6 undef = .pointer (some ⟨w.heap.size + 1, 0, none⟩)) (h3 : tmps.getD 7 undef = .bool b)
    (hp : Below w.heap.size w (set2 W (w.heap.size + 1) B C) → BatPost w o (.returned (.tuple #[.agg #[B, C], .bool b])) (set2 W (w.heap.size + 1) B C)) : bodyPost Tryz.prog fn (BatPost w o) .ret ⟨tmps, []⟩ (set2 W (w.heap.size + 1) B C) := by
  obtain ⟨fs, hu⟩ := und_bat
  refine bodyPost_ret (v := .tuple #[.agg #[B, C], .bool b]) ?_ rfl (hp (gr_below h.from_ (set2_grown W (w.heap.size + 1) B C) h.from_.size (fun k e => by cases e; omega)))
  rw [gres_row2 hf tmps _ (w.heap.size + 1) 62 #[B, C] (0, 0) (.struct fs) h2 (set2_blk h.res) hu rfl info_bat, h3]
end
theorem vj_start (w : World) (A : Option Addr) (n c : Nat) : VJ w A n c (W3 w A n c) := ⟨Below.refl _ _⟩
set_option maxHeartbeats 4000000 in
set_option maxRecDepth 100000 in
theorem spec_l07Batch_calls (A : Option Addr) (c : Nat) (fs : List FiD) (seg at_ : Int) (w : World) (h : FiRow w A c fs) (hd : diskOkB fs = true) :
    Calls Tryz.prog 36 #[.agg #[.slice A fs.length c], .int .i64 seg, .int .i64 at_] w (BatPost w (l07B fs seg at_)) := by
  have HF := Lib.hid h
  have HDK := Lib.hid hd
  have HV := Lib.hid (vj_start w A fs.length c)
  have HV0 := Lib.hid HV.out.drew
  clear h hd
  obtain ⟨t, okb, hres, hy, hn⟩ := fiUni (fileB fs (segNm seg))
  have HRES := Lib.hid hres
  have HY := Lib.hid hy
  have HN := Lib.hid hn
  clear hres hy hn
  go_enter Tryz.func36, Tryz.ntmps36
  go_wp2_with fail
  go_region_held3 (fun w' => w'.cell? ⟨w.heap.size, 0, none⟩ = some (.slice A fs.length c) ∧ Hid (VJ w A fs.length c w')) (first | exact HV0.out.all | exact (HV0.out.go (by assumption)).all | exact ((HV0.out.go (by assumption)).go (by assumption)).all) (first | (go_at_call 77; refine (spec_SegNm_calls seg _).mono ?_; rintro e w' ⟨rfl, hb⟩) | (go_at_call 76; refine (spec_FileAt_calls (segNm seg) A c fs _ (HF.out.below (HV0.out.go (by assumption)).from_)).mono ?_; rw [HRES.out]; rintro e w'' ⟨rfl, hb⟩))
  have HV1 := (‹_ ∧ Hid (VJ w A fs.length c _)›).2
  clear HV HV0
  cases okb
  · have HE := Lib.hid (l07_no (at_ := at_) (HN.out rfl))
    obtain ⟨p0, p1, p2, p3⟩ := HV1.out.fz
    go_wp2
    exact VJ.end_ rfl HV1.out rfl rfl fun hb => ⟨hb, by rw [HE.out]⟩
  · have HT := Lib.hid (HY.out rfl)
    have hts := fileB_small HDK.out HT.out
    cases hin : inR at_ 0 (t.size : Int)
    · have HE := Lib.hid (l07_out HT.out hin)
      have HIN := Lib.hid hin
      clear hin
      go_wp2_with fail
      go_at_call 48
      refine (l01In_at _ _ _ _ HIN.out).mono ?_
      rintro e w4 ⟨rfl, rfl⟩
      obtain ⟨p0, p1, p2, p3⟩ := HV1.out.fz
      go_wp2
      exact VJ.end_ rfl HV1.out rfl rfl fun hb => ⟨hb, by rw [HE.out]⟩
    · have HIN := Lib.hid hin
      have hat : 0 ≤ at_ ∧ at_ ≤ (t.size : Int) := by unfold inR at hin; simp only [Bool.and_eq_true, decide_eq_true_eq] at hin; omega
      clear hin
      obtain ⟨a, rfl⟩ := Int.eq_ofNat_of_zero_le hat.1
      have hat2 : a ≤ t.size := by omega
      clear hat
      have HSX : Hid ((t.extract a t.size).size ≤ 9000000) := by rw [Hid, ByteArray.size_extract]; omega
      go_wp2_with fail
      go_at_call 48
      refine (l01In_at _ _ _ _ HIN.out).mono ?_
      rintro e w4 ⟨rfl, rfl⟩
      go_wp2_with fail
      go_at_call 78
      refine (spec_Unframe_calls (t.extract a t.size) _ (by have := HSX.out; omega)).mono ?_
      rintro e w5 ⟨v5, rfl, ho5, hb5⟩
      have HV5 := Lib.hid (HV1.out.go hb5)
      have HL0 : Hid ((unframeB (t.extract a t.size)).1 = [] → l07B fs seg (a : Int) = none) := fun hu => l07_nil HT.out HIN.out (by rw [Int.toNat_natCast]; exact hu)
      have HL1 : Hid (∀ r rs, (unframeB (t.extract a t.size)).1 = r :: rs → l07B fs seg (a : Int) = readBatS r) := fun r rs hu => l07_cons HT.out HIN.out (by rw [Int.toNat_natCast]; exact hu)
      have HUS := Lib.hid (unframeB_le (t.extract a t.size)).2.2
      generalize unframeB (t.extract a t.size) = U at ho5 HL0 HL1 HUS ⊢
      obtain ⟨us, ue⟩ := U
      dsimp only at ho5 HL0 HL1 HUS ⊢
      clear hb5
      cases us with
      | nil =>
        obtain ⟨A5, c5, rfl⟩ := ho5.form
        have HE := Lib.hid (HL0.out rfl)
        obtain ⟨p0, p1, p2, p3⟩ := HV5.out.fz
        clear ho5
        go_wp2
        exact VJ.end_ rfl HV5.out rfl rfl fun hb => ⟨hb, by rw [HE.out]⟩
      | cons r rs =>
        obtain ⟨ad, c5, rfl, hr0⟩ := ownS_at0 ho5
        have hrs := (HUS.out r (by simp)).2
        have HLR := Lib.hid (HL1.out r rs rfl)
        clear ho5
        have hlen0 : ((rs.length : Int) + 1 == 0) = false := beq_eq_false_iff_ne.mpr (by omega)
        go_wp2_with fail
        go_at_call 79
        refine (spec_ReadBatch_calls r _ (by omega)).mono ?_
        cases hrb : readBatS r with
        | none =>
          rintro e w6 ⟨hb6, rfl⟩
          have HE := Lib.hid (HLR.out.trans hrb)
          have HV6 := Lib.hid (HV5.out.go hb6)
          obtain ⟨p0, p1, p2, p3⟩ := HV6.out.fz
          clear hb6 hrb
          go_wp2
          exact VJ.end_ rfl HV6.out rfl rfl fun hb => ⟨hb, by rw [HE.out]⟩
        | some d =>
          obtain ⟨q, cs⟩ := d
          rintro e w6 ⟨hb6, v6, rfl, ho6⟩
          obtain ⟨A6, c6, rfl⟩ : ∃ A c, v6 = .slice A cs.length c := by
            obtain ⟨A, c, e, _⟩ := ho6.row (batD_small hrb).1
            exact ⟨A, c, e⟩
          have HE := Lib.hid (HLR.out.trans hrb)
          have HV6 := Lib.hid (HV5.out.go hb6)
          have HO6 := Lib.hid ho6
          have HSZ := Lib.hid HV5.out.b.size
          obtain ⟨p0, p1, p2, p3⟩ := HV6.out.fz
          clear hb6 hrb ho6
          go_wp2
          refine VJ.end_ rfl HV6.out rfl rfl fun hb => ⟨hb, ?_⟩
          rw [HE.out]
          refine ⟨_, rfl, (HO6.out.kept (set2_grown w6 (w.heap.size + 1) (.int .i64 q) (.slice A6 cs.length c6)) fun k hk e => ?_).mono (by have := HV5.out.from_.size; omega)⟩
          have h1 := (HO6.out.lt k hk).1
          have h2 := HSZ.out
          have h3 := Option.some.inj e
          simp at h2
          omega
theorem l07_small {fs : List FiD} {seg at_ : Int} {b : BatD} (h : l07B fs seg at_ = some b) : ChSmall b.2 ∧ b.2.length ≤ 40 := by
  unfold l07B at h
  split at h
  · cases h
  · split at h
    · split at h
      · cases h
      · exact ⟨(batD_small h).1, (batD_small h).2.2⟩
    · cases h
set_option maxHeartbeats 4000000 in
set_option maxRecDepth 100000 in
theorem spec_ValueOf_calls (A : Option Addr) (c : Nat) (fs : List FiD) (key : ByteArray) (seg at_ sq : Int) (w : World) (h : FiRow w A c fs) :
    Calls Tryz.prog 43 #[.agg #[.slice A fs.length c], .agg #[.string key, .int .i64 seg, .int .i64 at_, .int .i64 sq]] w fun e w' => e = .returned (fiRes (valOfB fs key seg at_ sq)) ∧ Below w.heap.size w w' := by
  have HF := Lib.hid h
  have hl := h.len
  have HV := Lib.hid (vh_start w A fs.length c key seg at_ sq)
  clear h
  obtain ⟨dk, hdk⟩ : ∃ dk, diskOkB fs = dk := ⟨_, rfl⟩
  have HDK := Lib.hid hdk
  clear hdk
  obtain ⟨p0, p1, p2, p3, p4, _⟩ := HV.out.all
  go_enter Tryz.func43, Tryz.ntmps43
  go_wp2_with fail
  go_at_call 94
  refine (spec_DiskOk_calls A c fs _ (HF.out.below HV.out.from_)).mono ?_
  rw [HDK.out]
  rintro e w3 ⟨rfl, hb3⟩
  have HV3 := Lib.hid (HV.out.go hb3)
  clear hb3 p0 p1 p2 p3 p4
  cases dk
  · have HE := Lib.hid (valOf_bad (key := key) (seg := seg) (at_ := at_) (sq := sq) HDK.out)
    go_wp2
    go_ret2
    exact ⟨by rw [HE.out]; rfl, HV3.out.from_⟩
  · obtain ⟨p0, p1, p2, p3, p4, _⟩ := HV3.out.all
    go_wp2_with fail
    go_at_call 36
    refine (spec_l07Batch_calls A c fs seg at_ _ (HF.out.below HV3.out.from_) HDK.out).mono ?_
    clear p0 p1 p2 p3 p4
    cases hrb : l07B fs seg at_ with
    | none =>
      rintro e w6 ⟨hb6, rfl⟩
      have HE := Lib.hid (valOf_none (key := key) (sq := sq) hrb)
      have HV6 := Lib.hid (HV3.out.go hb6)
      have HV7 := Lib.hid (HV6.out.alloc (.cells #[.int .i64 0, .slice none 0 0] 62))
      clear hb6 hrb
      go_wp2
      go_ret2
      exact ⟨by rw [HE.out]; rfl, HV7.out.from_⟩
    | some d =>
      obtain ⟨q, cs⟩ := d
      rintro e w6 ⟨hb6, v6, rfl, ho6⟩
      have hsm := l07_small hrb
      obtain ⟨A6, c6, rfl, hr6⟩ := ho6.row hsm.1
      have hcl := hsm.2
      dsimp only at hcl
      have HVB := Lib.hid hrb
      have HAL : Hid (Below w6.heap.size w6 (w6.alloc (.cells #[.int .i64 q, .slice A6 cs.length c6] 62))) := (Below.refl _ _).alloc (Nat.le_refl _) _
      have HX : Hid (VL w A fs.length c key seg at_ sq w6.heap.size q A6 c6 cs (w6.alloc (.cells #[.int .i64 q, .slice A6 cs.length c6] 62))) := ⟨(HV3.out.go hb6).go HAL.out, blk_new _ _, hr6.below HAL.out⟩
      obtain ⟨x0, x1, x2, x3⟩ := HX.out.cells
      clear hb6 ho6 hr6 hrb hsm
      by_cases hqs : q = sq
      · have HQ := Lib.hid (valOf_some (key := key) HDK.out HVB.out hqs)
        have hq2 : (q != sq) = false := by simp [hqs]
        clear hqs
        go_wp2_with fail
        go_loopw [8] (fun iv wr => ∃ j : Nat, j ≤ cs.length ∧ iv = .int .i64 (j : Int) ∧ Hid (NotYet cs key j) ∧ Hid (VL w A fs.length c key seg at_ sq w6.heap.size q A6 c6 cs wr)) (fun iv _ => cs.length - (intOf iv).toNat)
        case atStart => exact ⟨0, Nat.zero_le _, rfl, fun i y hi => by omega, HX⟩
        case round =>
          obtain ⟨j, hj, rfl, HNY, HXR⟩ := hrel
          clear x0 x1 x2 x3
          obtain ⟨y0, y1, y2, y3⟩ := HXR.out.cells
          by_cases hlt : j < cs.length
          · obtain ⟨ad2, x, hA, HCX, hz1, hz2, hc0, hc1, hc2⟩ := HXR.out.row.at_ hlt
            cases hA
            obtain ⟨k, z, g⟩ := x
            dsimp only at hz1 hz2 hc0 hc1 hc2
            have HXA := Lib.hid (HXR.out.go (Below.drew (Below.refl _ _)))
            have hli : (j : Int) < (cs.length : Int) := by omega
            by_cases hk : k = key
            · have hkk : (k.toList == key.toList) = true := by rw [hk]; exact list_eq_yes key
              cases g
              · have HE := Lib.hid (chFind_at HCX.out ⟨hk, rfl⟩ HNY.out)
                clear hk
                go_wp2
                go_quiet (fail)
                go_wp2
                go_ret2
                exact ⟨by rw [HQ.out, HE.out]; rfl, blwN HXR.out.v.from_ _⟩
              · have HNN := Lib.hid (HNY.out.step HCX.out (by simp))
                clear hk
                go_wp2
                go_quiet (fail)
                go_wp2
                go_roundw
                case rel => first | exact ⟨j + 1, by omega, by go_num, HNN, HXR.out.go (blwN (Below.refl _ _) _)⟩ | (repeat (first | (refine ⟨?relx, rfl⟩; exact ⟨j + 1, by omega, by go_num, HNN, HXR.out.go (blwN (Below.refl _ _) _)⟩) | (refine ⟨?relx, ?eqs⟩; (case eqs => (and_intros <;> rfl)); exact ⟨j + 1, by omega, by go_num, HNN, HXR.out.go (blwN (Below.refl _ _) _)⟩) | apply Exists.intro))
                case measure => simp [intOf]; omega
            · have hkk := list_eq_no hk
              have HNN := Lib.hid (HNY.out.step HCX.out (fun e => hk e.1))
              clear hk
              go_wp2
              go_quiet (fail)
              go_wp2
              go_roundw
              case rel => first | exact ⟨j + 1, by omega, by go_num, HNN, HXR.out.go (blwN (Below.refl _ _) _)⟩ | (repeat (first | (refine ⟨?relx, rfl⟩; exact ⟨j + 1, by omega, by go_num, HNN, HXR.out.go (blwN (Below.refl _ _) _)⟩) | (refine ⟨?relx, ?eqs⟩; (case eqs => (and_intros <;> rfl)); exact ⟨j + 1, by omega, by go_num, HNN, HXR.out.go (blwN (Below.refl _ _) _)⟩) | apply Exists.intro))
              case measure => simp [intOf]; omega
          · obtain rfl : j = cs.length := by omega
            have HE := Lib.hid HNY.out.all
            go_wp2
            go_ret2
            exact ⟨by rw [HQ.out, HE.out]; rfl, HXR.out.v.from_⟩
      · have HE := Lib.hid (valOf_seq (key := key) HVB.out hqs)
        have hq2 : (q != sq) = true := by simpa using hqs
        clear hqs
        go_wp2
        go_ret2
        exact ⟨by rw [HE.out]; rfl, HX.out.v.from_⟩
end Go.Proofs.YtaacpdejpcbbbaaGreatDoor

namespace Go.Proofs.YtaacpdejpcbbbaaGreatDoor
set_option linter.unusedVariables false
set_option linter.unusedSimpArgs false
open Go.RowKit
attribute [local go_sem] bs_size List.length_cons List.length_nil

def spKey (ds : List SpotD) (key : ByteArray) : Option SpotD := ds.find? fun x => decide (x.1 = key)
def getB (fs : List FiD) (room a q : Int) (ds : List SpotD) (key : ByteArray) : Option ByteArray := if okB fs room a q ds = true then (match spKey ds key with
  | none => none
  | some x => valOfB fs x.1 x.2.1 x.2.2.1 x.2.2.2) else none
theorem spKey_at : ∀ {ds : List SpotD} {key : ByteArray} {j : Nat} {x : SpotD} (_ : ds[j]? = some x) (_ : x.1 = key) (_ : ∀ i y, i < j → ds[i]? = some y → y.1 ≠ key), spKey ds key = some x
  | [], _, _, _, h, _, _ => by simp at h
  | y :: r, key, 0, x, h, hx, _ => by
    simp at h
    subst h
    unfold spKey
    rw [List.find?_cons_of_pos (by simpa using hx)]
  | y :: r, key, j + 1, x, h, hx, hn => by
    have h0 := hn 0 y (by omega) rfl
    unfold spKey
    rw [List.find?_cons_of_neg (by simpa using h0)]
    exact spKey_at (ds := r) (j := j) (by simpa using h) hx fun i z hi hz => hn (i + 1) z (by omega) (by simpa using hz)
theorem spKey_none {ds : List SpotD} {key : ByteArray} (h : ∀ i y, i < ds.length → ds[i]? = some y → y.1 ≠ key) : spKey ds key = none := by
  unfold spKey
  rw [List.find?_eq_none]
  intro y hy
  obtain ⟨i, hi, rfl⟩ := List.getElem_of_mem hy
  simpa using h i _ hi (List.getElem?_eq_getElem hi)
/-- What the search for a spot of a key gives. -/
def GxPost (ds : List SpotD) (m : ByteArray) (r : Int) : Prop := (∃ (j : Nat) (x : SpotD), r = (j : Int) ∧ ds[j]? = some x ∧ spKey ds m = some x) ∨ (r = -1 ∧ spKey ds m = none)
theorem gx_neg {ds : List SpotD} {n : ByteArray} (h : ∀ i y, i < ds.length → ds[i]? = some y → y.1 ≠ n) : GxPost ds n (-1) := .inr ⟨rfl, spKey_none h⟩
theorem gx_at {ds : List SpotD} {n : ByteArray} {j : Nat} {x : SpotD} (hj : ds[j]? = some x) (hx : x.1 = n) (h : ∀ i y, i < j → ds[i]? = some y → y.1 ≠ n) : GxPost ds n (j : Int) := .inl ⟨j, x, rfl, hj, spKey_at hj hx h⟩
theorem gx_next {ds : List SpotD} {n : ByteArray} {j : Nat} {x : SpotD} (hj : ds[j]? = some x) (hx : x.1 ≠ n) (h : ∀ i y, i < j → ds[i]? = some y → y.1 ≠ n) : ∀ i y, i < j + 1 → ds[i]? = some y → y.1 ≠ n := fun i y hi hy => by
  by_cases e : i = j
  · subst e
    rw [hj] at hy
    cases hy
    exact hx
  · exact h i y (by omega) hy
theorem gx_keep {W W' : World} {a b : Addr} {ad : Addr} {x y v0 v1 v2 v3 : Value} (h : W.cell? a = some x ∧ W.cell? b = some y ∧ W.cell? ad = some v0 ∧ W.cell? ⟨ad.block, ad.off + 1, none⟩ = some v1 ∧ W.cell? ⟨ad.block, ad.off + 2, none⟩ = some v2 ∧ W.cell? ⟨ad.block, ad.off + 3, none⟩ = some v3) (hb : Below W.heap.size W W') :
    W'.cell? a = some x ∧ W'.cell? b = some y ∧ W'.cell? ad = some v0 ∧ W'.cell? ⟨ad.block, ad.off + 1, none⟩ = some v1 ∧ W'.cell? ⟨ad.block, ad.off + 2, none⟩ = some v2 ∧ W'.cell? ⟨ad.block, ad.off + 3, none⟩ = some v3 ∧ Hid (Below W.heap.size W W') := by
  obtain ⟨h1, h2, h3, h4, h5, h6⟩ := h
  have k : ∀ {p : Addr} {v : Value}, W.cell? p = some v → W'.cell? p = some v := fun hp => (hb.cell (World.block_lt_of_cell? W _ hp)).trans hp
  exact ⟨k h1, k h2, k h3, k h4, k h5, k h6, hb⟩
set_option maxRecDepth 100000 in
theorem impl_GetValue1_calls (gp : Nat) (n m : ByteArray) (a1 a2 a3 : Int) (w : World) (hc : w.cell? ⟨gp, 0, none⟩ = some (.string m)) (b : Bool) (hb : (n.toList == m.toList) = b) :
    Calls Tryz.prog 45 #[.agg #[.string n, .int .i64 a1, .int .i64 a2, .int .i64 a3], .pointer (some ⟨gp, 0, none⟩)] w fun e w' => e = .returned (.bool b) ∧ Below w.heap.size w w' := by
  have h1 := cell_new hc (.cells #[.string n, .int .i64 a1, .int .i64 a2, .int .i64 a3] 56)
  have HAL : Hid (Below w.heap.size w (w.alloc (.cells #[.string n, .int .i64 a1, .int .i64 a2, .int .i64 a3] 56))) := (Below.refl _ _).alloc (Nat.le_refl _) _
  have HBB := Lib.hid hb
  clear hc hb
  go_enter Tryz.func45, Tryz.ntmps45
  go_wp2
  go_ret
  exact ⟨ret_bool HBB.out, HAL.out⟩
set_option maxRecDepth 100000 in
theorem index_Spot_calls (gp : Nat) (m : ByteArray) (A : Option Addr) (c : Nat) (ds : List SpotD) (w : World) (h : SpRow w A c ds) (hc : w.cell? ⟨gp, 0, none⟩ = some (.string m)) :
    Calls Tryz.prog 44 #[.slice A ds.length c, .func (.func 45) #[] #[.pointer (some ⟨gp, 0, none⟩)]] w fun e w' => ∃ r : Int, e = .returned (.int .i64 r) ∧ GxPost ds m r ∧ Below w.heap.size w w' := by
  have hl := h.len
  have HR := Lib.hid h
  have HM := Lib.hid hc
  clear h hc
  go_enter Tryz.func44, Tryz.ntmps44
  go_wp2
  go_loopw [8] (fun iv wr => ∃ i : Nat, i ≤ ds.length ∧ iv = .int .i64 (i : Int) ∧ Hid (∀ j y, j < i → ds[j]? = some y → y.1 ≠ m) ∧ Hid (Below w.heap.size w wr)) (fun iv _ => ds.length - (intOf iv).toNat)
  case atStart => exact ⟨0, Nat.zero_le _, rfl, fun j y hj => by omega, Below.refl _ _⟩
  case round =>
    obtain ⟨i, hi, rfl, HT, HB⟩ := hrel
    by_cases hlt : i < ds.length
    · obtain ⟨ad, x, hA, HX, hz1, hc0, hc1, hc2, hc3⟩ := (HR.out.below HB.out).at_ hlt
      cases hA
      obtain ⟨n, a1, a2, a3⟩ := x
      dsimp only at hz1 hc0 hc1 hc2 hc3
      have HM2 : Hid (wr.cell? ⟨gp, 0, none⟩ = some (.string m)) := (HB.out.cell (World.block_lt_of_cell? w _ HM.out)).trans HM.out
      by_cases hn : n = m
      · have HE := Lib.hid (gx_at HX.out hn HT.out)
        have HQ : Hid ((n.toList == m.toList) = true) := by rw [Hid, hn]; exact list_eq_yes m
        clear hn
        go_wp2_with fail
        go_at_call 45
        refine (impl_GetValue1_calls gp n m a1 a2 a3 _ HM2.out true HQ.out).mono ?_
        rintro e w' ⟨rfl, hb⟩
        go_wp2
        go_ret
        exact ⟨_, rfl, HE.out, HB.out.trans (hb.mono HB.out.size)⟩
      · have HE := Lib.hid (gx_next HX.out hn HT.out)
        have HQ := Lib.hid (list_eq_no hn)
        clear hn
        go_wp2_with fail
        go_at_call 45
        refine (impl_GetValue1_calls gp n m a1 a2 a3 _ HM2.out false HQ.out).mono ?_
        rintro e w' ⟨rfl, hb⟩
        have HB2 := Lib.hid (HB.out.trans (hb.mono HB.out.size))
        clear hb
        go_wp2
        go_roundw
        case rel => first | exact ⟨i + 1, by omega, by go_num, HE, HB2⟩ | (repeat (first | (refine ⟨?relx, rfl⟩; exact ⟨i + 1, by omega, by go_num, HE, HB2⟩) | (refine ⟨?relx, ?eqs⟩; (case eqs => (and_intros <;> rfl)); exact ⟨i + 1, by omega, by go_num, HE, HB2⟩) | apply Exists.intro))
        case measure => simp [intOf]; omega
    · obtain rfl : i = ds.length := by omega
      have HE := Lib.hid (gx_neg HT.out)
      go_wp2
      go_ret
      exact ⟨_, rfl, HE.out, HB.out⟩
set_option maxHeartbeats 4000000 in
set_option maxRecDepth 100000 in
theorem impl_GetValue_calls (b c : Nat) (Ad : Option Addr) (cd : Nat) (fs : List FiD) (room a q : Int) (ds : List SpotD) (key : ByteArray) (w : World) (h : FiRow w (some ⟨b, 0, none⟩) c fs) (hs : SpRow w Ad cd ds) (hP : Pow w) (hE : Sent w) :
    Calls Tryz.prog 18 #[.agg (engC (some ⟨b, 0, none⟩) fs.length c room a q Ad ds.length cd), .string key] w fun e w' => e = .returned (fiRes (getB fs room a q ds key)) ∧ Below w.heap.size w w' := by
  have hmf : ∀ (fn : Fn) (first cap : Array Value) (w : World), (Instr.makeFunc fn first cap).run Tryz.prog w = .ok (.func fn first cap) w := fun _ _ _ _ => rfl
  have hs1 : (w.alloc (engCO (some ⟨b, 0, none⟩) fs.length c room a q Ad ds.length cd)).heap.size = w.heap.size + 1 := by simp
  have HAL : Hid (Below w.heap.size w ((w.alloc (engCO (some ⟨b, 0, none⟩) fs.length c room a q Ad ds.length cd)).alloc (.cells #[.string key] 9))) := ((Below.refl _ _).alloc (Nat.le_refl _) _).alloc (by simp) _
  have H1 : Hid (((w.alloc (engCO (some ⟨b, 0, none⟩) fs.length c room a q Ad ds.length cd)).alloc (.cells #[.string key] 9)).heap[w.heap.size]? = some (engCO (some ⟨b, 0, none⟩) fs.length c room a q Ad ds.length cd)) := by rw [Hid, Below.heap_alloc _ _ _ (by simp)]; exact blk_new _ _
  have HC1 : Hid (((w.alloc (engCO (some ⟨b, 0, none⟩) fs.length c room a q Ad ds.length cd)).alloc (.cells #[.string key] 9)).cell? ⟨(w.alloc (engCO (some ⟨b, 0, none⟩) fs.length c room a q Ad ds.length cd)).heap.size, 0, none⟩ = some (.string key)) := blk_cell (blk_new _ _) 0
  have HR := Lib.hid (h.below HAL.out)
  have HS := Lib.hid (hs.below HAL.out)
  have HPE : Hid (Pow w ∧ Sent w) := ⟨hP, hE⟩
  have hl := hs.len
  have HOK : Hid (∀ W, FiRow W (some ⟨b, 0, none⟩) c fs → SpRow W Ad cd ds → Pow W → Sent W → Calls Tryz.prog 11 #[.agg (engC (some ⟨b, 0, none⟩) fs.length c room a q Ad ds.length cd)] W fun e w' => e = .returned (.bool (okB fs room a q ds)) ∧ Below W.heap.size W w') := fun W h1 h2 h3 h4 => impl_EngineOk_calls b c Ad cd fs room a q ds W h1 h2 h3 h4
  have HU : Hid (getB fs room a q ds key = if okB fs room a q ds = true then (match spKey ds key with
    | none => none
    | some x => valOfB fs x.1 x.2.1 x.2.2.1 x.2.2.2) else none) := rfl
  have p4 := blk_cell H1.out 4
  clear h hs hP hE
  generalize okB fs room a q ds = ok at HOK HU
  generalize getB fs room a q ds key = res at HU ⊢
  go_enter Tryz.func18, Tryz.ntmps18
  go_wp2_with fail
  go_at_call 44
  refine (index_Spot_calls _ key Ad cd ds _ HS.out (by first | exact HC1.out | (rw [← hs1]; exact HC1.out))).mono ?_
  rintro e w1 ⟨r, rfl, hr, hb⟩
  have HB1 := Lib.hid (HAL.out.trans (hb.mono HAL.out.size))
  have K1 := Lib.hid (blk_below H1.out hb)
  have HR1 := Lib.hid (HR.out.below hb)
  have HS1 := Lib.hid (HS.out.below hb)
  clear hb p4 HC1 H1 HR HS hs1
  rcases hr with ⟨j, x, rfl, hj, hx⟩ | ⟨rfl, hx⟩
  · have HJ := Lib.hid hj
    have HX := Lib.hid hx
    have hjl := (List.getElem?_eq_some_iff.1 hj).1
    have hjn : ¬ (j : Int) < 0 := by omega
    clear hj hx
    have p0 := blk_cell K1.out 0
    have p1 := blk_cell K1.out 1
    have p2 := blk_cell K1.out 2
    have p3 := blk_cell K1.out 3
    have p4 := blk_cell K1.out 4
    go_wp2_with fail
    go_at_call 11
    refine (HOK.out _ HR1.out HS1.out (HPE.out.1.below HB1.out) (sentC HPE.out.2 HB1.out)).mono ?_
    rintro e w2 ⟨rfl, hb⟩
    have HB2 := Lib.hid (HB1.out.trans (hb.mono HB1.out.size))
    have K2 := Lib.hid (blk_below K1.out hb)
    have HR2 := Lib.hid (HR1.out.below hb)
    have HS2 := Lib.hid (HS1.out.below hb)
    clear hb p0 p1 p2 p3 p4 K1 HR1 HS1 HOK
    cases ok
    · have HUE : Hid (res = none) := HU.out
      go_wp2
      go_ret2
      exact ⟨by rw [HUE.out]; rfl, HB2.out⟩
    · obtain ⟨ad, y, hA, HY, hz1, hc0, hc1, hc2, hc3⟩ := HS2.out.at_ hjl
      obtain rfl : x = y := Option.some.inj (HJ.out.symm.trans HY.out)
      cases hA
      obtain ⟨n, a1, a2, a3⟩ := x
      dsimp only at hz1 hc0 hc1 hc2 hc3
      have HUE : Hid (res = valOfB fs n a1 a2 a3) := by rw [Hid, HU.out, HX.out]; rfl
      have hji : (j : Int) < (ds.length : Int) := by omega
      have q0 := blk_cell K2.out 0
      have q4 := blk_cell K2.out 4
      have HVO : Hid (∀ W, FiRow W (some ⟨b, 0, none⟩) c fs → Pow W → Calls Tryz.prog 46 #[.agg #[.slice (some ⟨b, 0, none⟩) fs.length c], .agg #[.string n, .int .i64 a1, .int .i64 a2, .int .i64 a3]] W fun e w' => e = .returned (fiRes (valOfB fs n a1 a2 a3)) ∧ Below W.heap.size W w') := fun W h1 h2 => impl_ValueOf_calls (some ⟨b, 0, none⟩) c fs n a1 a2 a3 W h1 h2
      generalize valOfB fs n a1 a2 a3 = o at HUE HVO
      have HC6 : Hid (w2.cell? ⟨w.heap.size, 0, none⟩ = some (.slice (some ⟨b, 0, none⟩) fs.length c) ∧ w2.cell? ⟨w.heap.size, 4, none⟩ = some (.slice (some ad) ds.length cd) ∧ w2.cell? (ad.add (j * 4)) = some (.string n) ∧ w2.cell? ⟨(ad.add (j * 4)).block, (ad.add (j * 4)).off + 1, none⟩ = some (.int .i64 a1) ∧ w2.cell? ⟨(ad.add (j * 4)).block, (ad.add (j * 4)).off + 2, none⟩ = some (.int .i64 a2) ∧ w2.cell? ⟨(ad.add (j * 4)).block, (ad.add (j * 4)).off + 3, none⟩ = some (.int .i64 a3)) := ⟨q0, q4, hc0, hc1, hc2, hc3⟩
      have HBD : Hid (Below w2.heap.size w2 w2.drew) := Below.drew (Below.refl _ _)
      clear HU HJ HX HY hc0 hc1 hc2 hc3 q0 q4
      cases o with
      | none =>
        have HV1 : Hid (∀ W, FiRow W (some ⟨b, 0, none⟩) c fs → Pow W → Calls Tryz.prog 46 #[.agg #[.slice (some ⟨b, 0, none⟩) fs.length c], .agg #[.string n, .int .i64 a1, .int .i64 a2, .int .i64 a3]] W fun e w' => e = .returned (.tuple #[.string ⟨#[]⟩, .bool false]) ∧ Below W.heap.size W w') := HVO.out
        clear HVO
        go_wp2_with fail
        go_region_held3 (fun w' => w'.cell? ⟨w.heap.size, 0, none⟩ = some (.slice (some ⟨b, 0, none⟩) fs.length c) ∧ w'.cell? ⟨w.heap.size, 4, none⟩ = some (.slice (some ad) ds.length cd) ∧ w'.cell? (ad.add (j * 4)) = some (.string n) ∧ w'.cell? ⟨(ad.add (j * 4)).block, (ad.add (j * 4)).off + 1, none⟩ = some (.int .i64 a1) ∧ w'.cell? ⟨(ad.add (j * 4)).block, (ad.add (j * 4)).off + 2, none⟩ = some (.int .i64 a2) ∧ w'.cell? ⟨(ad.add (j * 4)).block, (ad.add (j * 4)).off + 3, none⟩ = some (.int .i64 a3) ∧ Hid (Below w2.heap.size w2 w')) (first | exact gx_keep HC6.out HBD.out | exact gx_keep HC6.out (HBD.out.trans (hb10.mono HBD.out.size))) (first | (go_at_call 46; refine (HV1.out _ (HR2.out.below HBD.out) (HPE.out.1.below (HB2.out.trans (HBD.out.mono HB2.out.size)))).mono ?_; rintro e w10 ⟨rfl, hb10⟩))
        have HB11 := (‹_ ∧ _ ∧ _ ∧ _ ∧ _ ∧ _ ∧ Hid (Below w2.heap.size w2 _)›).2.2.2.2.2.2
        go_wp2
        go_ret2
        exact ⟨by rw [HUE.out]; rfl, HB2.out.trans (HB11.out.mono HB2.out.size)⟩
      | some v =>
        have HV1 : Hid (∀ W, FiRow W (some ⟨b, 0, none⟩) c fs → Pow W → Calls Tryz.prog 46 #[.agg #[.slice (some ⟨b, 0, none⟩) fs.length c], .agg #[.string n, .int .i64 a1, .int .i64 a2, .int .i64 a3]] W fun e w' => e = .returned (.tuple #[.string v, .bool true]) ∧ Below W.heap.size W w') := HVO.out
        clear HVO
        go_wp2_with fail
        go_region_held3 (fun w' => w'.cell? ⟨w.heap.size, 0, none⟩ = some (.slice (some ⟨b, 0, none⟩) fs.length c) ∧ w'.cell? ⟨w.heap.size, 4, none⟩ = some (.slice (some ad) ds.length cd) ∧ w'.cell? (ad.add (j * 4)) = some (.string n) ∧ w'.cell? ⟨(ad.add (j * 4)).block, (ad.add (j * 4)).off + 1, none⟩ = some (.int .i64 a1) ∧ w'.cell? ⟨(ad.add (j * 4)).block, (ad.add (j * 4)).off + 2, none⟩ = some (.int .i64 a2) ∧ w'.cell? ⟨(ad.add (j * 4)).block, (ad.add (j * 4)).off + 3, none⟩ = some (.int .i64 a3) ∧ Hid (Below w2.heap.size w2 w')) (first | exact gx_keep HC6.out HBD.out | exact gx_keep HC6.out (HBD.out.trans (hb10.mono HBD.out.size))) (first | (go_at_call 46; refine (HV1.out _ (HR2.out.below HBD.out) (HPE.out.1.below (HB2.out.trans (HBD.out.mono HB2.out.size)))).mono ?_; rintro e w10 ⟨rfl, hb10⟩))
        have HB11 := (‹_ ∧ _ ∧ _ ∧ _ ∧ _ ∧ _ ∧ Hid (Below w2.heap.size w2 _)›).2.2.2.2.2.2
        go_wp2
        go_ret2
        exact ⟨by rw [HUE.out]; rfl, HB2.out.trans (HB11.out.mono HB2.out.size)⟩
  · have HX := Lib.hid hx
    have HUE : Hid (res = none) := by rw [Hid, HU.out, HX.out]; cases ok <;> rfl
    clear hx HU
    go_wp2
    go_ret2
    exact ⟨by rw [HUE.out]; rfl, HB1.out⟩
end Go.Proofs.YtaacpdejpcbbbaaGreatDoor

namespace Go.Proofs.YtaacpdejpcbbbaaGreatDoor
set_option linter.unusedVariables false
set_option linter.unusedSimpArgs false
open Go.RowKit
attribute [local go_sem] bs_size List.length_cons List.length_nil
set_option maxHeartbeats 4000000 in
set_option maxRecDepth 100000 in
theorem spec_GetValue_calls (b c : Nat) (Ad : Option Addr) (cd : Nat) (fs : List FiD) (room a q : Int) (ds : List SpotD) (key : ByteArray) (w : World) (h : FiRow w (some ⟨b, 0, none⟩) c fs) (hs : SpRow w Ad cd ds) :
    Calls Tryz.prog 17 #[.agg (engC (some ⟨b, 0, none⟩) fs.length c room a q Ad ds.length cd), .string key] w fun e w' => e = .returned (fiRes (getB fs room a q ds key)) ∧ Below w.heap.size w w' := by
  have HAL : Hid (Below w.heap.size w (w.alloc (engCO (some ⟨b, 0, none⟩) fs.length c room a q Ad ds.length cd))) := (Below.refl _ _).alloc (Nat.le_refl _) _
  have H1 : Hid ((w.alloc (engCO (some ⟨b, 0, none⟩) fs.length c room a q Ad ds.length cd)).heap[w.heap.size]? = some (engCO (some ⟨b, 0, none⟩) fs.length c room a q Ad ds.length cd)) := blk_new _ _
  have HR := Lib.hid (h.below HAL.out)
  have HS := Lib.hid (hs.below HAL.out)
  have hl := hs.len
  have HOK : Hid (∀ W, FiRow W (some ⟨b, 0, none⟩) c fs → SpRow W Ad cd ds → Calls Tryz.prog 9 #[.agg (engC (some ⟨b, 0, none⟩) fs.length c room a q Ad ds.length cd)] W fun e w' => e = .returned (.bool (okB fs room a q ds)) ∧ Below W.heap.size W w') := fun W h1 h2 => spec_EngineOk_calls b c Ad cd fs room a q ds W h1 h2
  have HU : Hid (getB fs room a q ds key = if okB fs room a q ds = true then (match spKey ds key with
    | none => none
    | some x => valOfB fs x.1 x.2.1 x.2.2.1 x.2.2.2) else none) := rfl
  have p0 := blk_cell H1.out 0
  have p1 := blk_cell H1.out 1
  have p2 := blk_cell H1.out 2
  have p3 := blk_cell H1.out 3
  have p4 := blk_cell H1.out 4
  clear h hs
  generalize okB fs room a q ds = ok at HOK HU
  generalize getB fs room a q ds key = res at HU ⊢
  go_enter Tryz.func17, Tryz.ntmps17
  go_wp2_with fail
  go_at_call 9
  refine (HOK.out _ HR.out HS.out).mono ?_
  rintro e w1 ⟨rfl, hb⟩
  have HB1 := Lib.hid (HAL.out.trans (hb.mono HAL.out.size))
  have K1 := Lib.hid (blk_below H1.out hb)
  have HR1 := Lib.hid (HR.out.below hb)
  have HS1 := Lib.hid (HS.out.below hb)
  clear hb p0 p1 p2 p3 p4 H1 HR HS HOK
  cases ok
  · have HUE : Hid (res = none) := HU.out
    go_wp2
    go_ret2
    exact ⟨by rw [HUE.out]; rfl, HB1.out⟩
  · go_wp2
    go_loopw [6] (fun iv wr => ∃ i : Nat, i ≤ ds.length ∧ iv = .int .i64 (i : Int) ∧ Hid (∀ j y, j < i → ds[j]? = some y → y.1 ≠ key) ∧ Hid (Below w1.heap.size w1 wr)) (fun iv _ => ds.length - (intOf iv).toNat)
    case atStart => exact ⟨0, Nat.zero_le _, rfl, fun j y hj => by omega, Below.refl _ _⟩
    case round =>
      obtain ⟨i, hi, rfl, HT, HB⟩ := hrel
      rename World => w2
      have HB2 := Lib.hid (HB1.out.trans (HB.out.mono HB1.out.size))
      have HR2 := Lib.hid (HR1.out.below HB.out)
      have q0 := blk_cell (blk_below K1.out HB.out) 0
      have q4 := blk_cell (blk_below K1.out HB.out) 4
      by_cases hlt : i < ds.length
      · obtain ⟨ad, x, hA, HX, hz1, hc0, hc1, hc2, hc3⟩ := (HS1.out.below HB.out).at_ hlt
        cases hA
        obtain ⟨n, a1, a2, a3⟩ := x
        dsimp only at hz1 hc0 hc1 hc2 hc3
        have hji : (i : Int) < (ds.length : Int) := by omega
        by_cases hn : n = key
        · have HUE : Hid (res = valOfB fs n a1 a2 a3) := by rw [Hid, HU.out, if_pos trivial, spKey_at HX.out hn HT.out]
          have HQ : Hid ((n.toList == key.toList) = true) := by rw [Hid, hn]; exact list_eq_yes key
          have hq := HQ.out
          have HVO : Hid (∀ W, FiRow W (some ⟨b, 0, none⟩) c fs → Calls Tryz.prog 43 #[.agg #[.slice (some ⟨b, 0, none⟩) fs.length c], .agg #[.string n, .int .i64 a1, .int .i64 a2, .int .i64 a3]] W fun e w' => e = .returned (fiRes (valOfB fs n a1 a2 a3)) ∧ Below W.heap.size W w') := fun W h1 => spec_ValueOf_calls (some ⟨b, 0, none⟩) c fs n a1 a2 a3 W h1
          clear hn
          generalize valOfB fs n a1 a2 a3 = o at HUE HVO
          have HC6 : Hid (w2.cell? ⟨w.heap.size, 0, none⟩ = some (.slice (some ⟨b, 0, none⟩) fs.length c) ∧ w2.cell? ⟨w.heap.size, 4, none⟩ = some (.slice (some ad) ds.length cd) ∧ w2.cell? (ad.add (i * 4)) = some (.string n) ∧ w2.cell? ⟨(ad.add (i * 4)).block, (ad.add (i * 4)).off + 1, none⟩ = some (.int .i64 a1) ∧ w2.cell? ⟨(ad.add (i * 4)).block, (ad.add (i * 4)).off + 2, none⟩ = some (.int .i64 a2) ∧ w2.cell? ⟨(ad.add (i * 4)).block, (ad.add (i * 4)).off + 3, none⟩ = some (.int .i64 a3)) := ⟨q0, q4, hc0, hc1, hc2, hc3⟩
          have HBD : Hid (Below w2.heap.size w2 w2.drew) := Below.drew (Below.refl _ _)
          cases o with
          | none =>
            have HV1 : Hid (∀ W, FiRow W (some ⟨b, 0, none⟩) c fs → Calls Tryz.prog 43 #[.agg #[.slice (some ⟨b, 0, none⟩) fs.length c], .agg #[.string n, .int .i64 a1, .int .i64 a2, .int .i64 a3]] W fun e w' => e = .returned (.tuple #[.string ⟨#[]⟩, .bool false]) ∧ Below W.heap.size W w') := HVO.out
            clear HVO HU
            go_wp2_with fail
            clear hc0 hc1 hc2 hc3 q0 q4
            go_region_held3 (fun w' => w'.cell? ⟨w.heap.size, 0, none⟩ = some (.slice (some ⟨b, 0, none⟩) fs.length c) ∧ w'.cell? ⟨w.heap.size, 4, none⟩ = some (.slice (some ad) ds.length cd) ∧ w'.cell? (ad.add (i * 4)) = some (.string n) ∧ w'.cell? ⟨(ad.add (i * 4)).block, (ad.add (i * 4)).off + 1, none⟩ = some (.int .i64 a1) ∧ w'.cell? ⟨(ad.add (i * 4)).block, (ad.add (i * 4)).off + 2, none⟩ = some (.int .i64 a2) ∧ w'.cell? ⟨(ad.add (i * 4)).block, (ad.add (i * 4)).off + 3, none⟩ = some (.int .i64 a3) ∧ Hid (Below w2.heap.size w2 w')) (first | exact gx_keep HC6.out HBD.out | exact gx_keep HC6.out (HBD.out.trans (hb10.mono HBD.out.size))) (first | (go_at_call 43; refine (HV1.out _ (HR2.out.below HBD.out)).mono ?_; rintro e w10 ⟨rfl, hb10⟩))
            have HB11 := (‹_ ∧ _ ∧ _ ∧ _ ∧ _ ∧ _ ∧ Hid (Below w2.heap.size w2 _)›).2.2.2.2.2.2
            go_wp2
            go_ret2
            exact ⟨by rw [HUE.out]; rfl, HB2.out.trans (HB11.out.mono HB2.out.size)⟩
          | some v =>
            have HV1 : Hid (∀ W, FiRow W (some ⟨b, 0, none⟩) c fs → Calls Tryz.prog 43 #[.agg #[.slice (some ⟨b, 0, none⟩) fs.length c], .agg #[.string n, .int .i64 a1, .int .i64 a2, .int .i64 a3]] W fun e w' => e = .returned (.tuple #[.string v, .bool true]) ∧ Below W.heap.size W w') := HVO.out
            clear HVO HU
            go_wp2_with fail
            clear hc0 hc1 hc2 hc3 q0 q4
            go_region_held3 (fun w' => w'.cell? ⟨w.heap.size, 0, none⟩ = some (.slice (some ⟨b, 0, none⟩) fs.length c) ∧ w'.cell? ⟨w.heap.size, 4, none⟩ = some (.slice (some ad) ds.length cd) ∧ w'.cell? (ad.add (i * 4)) = some (.string n) ∧ w'.cell? ⟨(ad.add (i * 4)).block, (ad.add (i * 4)).off + 1, none⟩ = some (.int .i64 a1) ∧ w'.cell? ⟨(ad.add (i * 4)).block, (ad.add (i * 4)).off + 2, none⟩ = some (.int .i64 a2) ∧ w'.cell? ⟨(ad.add (i * 4)).block, (ad.add (i * 4)).off + 3, none⟩ = some (.int .i64 a3) ∧ Hid (Below w2.heap.size w2 w')) (first | exact gx_keep HC6.out HBD.out | exact gx_keep HC6.out (HBD.out.trans (hb10.mono HBD.out.size))) (first | (go_at_call 43; refine (HV1.out _ (HR2.out.below HBD.out)).mono ?_; rintro e w10 ⟨rfl, hb10⟩))
            have HB11 := (‹_ ∧ _ ∧ _ ∧ _ ∧ _ ∧ _ ∧ Hid (Below w2.heap.size w2 _)›).2.2.2.2.2.2
            go_wp2
            go_ret2
            exact ⟨by rw [HUE.out]; rfl, HB2.out.trans (HB11.out.mono HB2.out.size)⟩
        · have HT2 := Lib.hid (gx_next HX.out hn HT.out)
          have hq := list_eq_no hn
          clear hn
          go_wp2
          go_roundw
          case rel => first | exact ⟨i + 1, by omega, by go_num, HT2, HB⟩ | (repeat (first | (refine ⟨?relx, rfl⟩; exact ⟨i + 1, by omega, by go_num, HT2, HB⟩) | (refine ⟨?relx, ?eqs⟩; (case eqs => (and_intros <;> rfl)); exact ⟨i + 1, by omega, by go_num, HT2, HB⟩) | apply Exists.intro))
          case measure => simp [intOf]; omega
      · obtain rfl : i = ds.length := by omega
        have HUE : Hid (res = none) := by rw [Hid, HU.out, if_pos trivial, spKey_none HT.out]
        clear HU
        go_wp2
        go_ret2
        exact ⟨by rw [HUE.out]; rfl, HB2.out⟩
end Go.Proofs.YtaacpdejpcbbbaaGreatDoor

namespace Go.Proofs.YtaacpdejpcbbbaaGreatDoor
set_option linter.unusedVariables false
set_option linter.unusedSimpArgs false
open Go.RowKit
attribute [local go_sem] bs_size List.length_cons List.length_nil
theorem keepB {W W' : World} {g g' : Nat} {v0 v1 v2 v3 v4 u0 u1 u2 u3 u4 : Value} {t t' : TypeId} (h : W.heap[g]? = some (.cells #[v0, v1, v2, v3, v4] t (0, 0))) (h' : W.heap[g']? = some (.cells #[u0, u1, u2, u3, u4] t' (0, 0))) (hb : Below W.heap.size W W') :
    W'.cell? ⟨g, 0, none⟩ = some v0 ∧ W'.cell? ⟨g, 1, none⟩ = some v1 ∧ W'.cell? ⟨g, 2, none⟩ = some v2 ∧ W'.cell? ⟨g, 3, none⟩ = some v3 ∧ W'.cell? ⟨g, 4, none⟩ = some v4 ∧ W'.cell? ⟨g', 0, none⟩ = some u0 ∧ W'.cell? ⟨g', 1, none⟩ = some u1 ∧ W'.cell? ⟨g', 2, none⟩ = some u2 ∧ W'.cell? ⟨g', 3, none⟩ = some u3 ∧ W'.cell? ⟨g', 4, none⟩ = some u4 ∧ Hid (Below W.heap.size W W') := by
  have k := blk_below h hb
  have k' := blk_below h' hb
  exact ⟨blk_cell k 0, blk_cell k 1, blk_cell k 2, blk_cell k 3, blk_cell k 4, blk_cell k' 0, blk_cell k' 1, blk_cell k' 2, blk_cell k' 3, blk_cell k' 4, hb⟩
set_option maxHeartbeats 16000000 in
set_option maxRecDepth 100000 in
theorem walk_FnExactGetValue (A : Option Addr) (c : Nat) (fs : List FiD) (room a q : Int) (Ad : Option Addr) (cd : Nat) (ds : List SpotD) (key : ByteArray) (w : World) (h : FiRow w A c fs) (h' : SpRow w Ad cd ds) (hk0 : key.size ≤ 140737488351232) (hP : Pow w ∧ Sent w) :
    Calls Tryz.prog 6 #[.agg (engC A fs.length c room a q Ad ds.length cd), .string key] w fun e w' => e = .returned (.bool true) ∧ Below w.heap.size w w' := by
  have HF := Lib.hid h
  have HD := Lib.hid h'
  have HPE := Lib.hid hP
  have HA0 : Hid (Below w.heap.size w (w.alloc (.cells (engC A fs.length c room a q Ad ds.length cd) 27))) := (Below.refl _ _).alloc (Nat.le_refl _) _
  have HB0 : Hid ((w.alloc (.cells (engC A fs.length c room a q Ad ds.length cd) 27)).heap[w.heap.size]? = some (.cells (engC A fs.length c room a q Ad ds.length cd) 27 (0, 0))) := blk_new _ _
  have HSP : Hid (∀ b c' bd cd' W, FiRow W (some ⟨b, 0, none⟩) c' fs → SpRow W (some ⟨bd, 0, none⟩) cd' ds → Calls Tryz.prog 17 #[.agg (engC (some ⟨b, 0, none⟩) fs.length c' room a q (some ⟨bd, 0, none⟩) ds.length cd'), .string key] W fun e w' => e = .returned (fiRes (getB fs room a q ds key)) ∧ Below W.heap.size W w') := fun b c' bd cd' W h h' => spec_GetValue_calls b c' (some ⟨bd, 0, none⟩) cd' fs room a q ds key W h h'
  have HIM : Hid (∀ b c' bd cd' W, FiRow W (some ⟨b, 0, none⟩) c' fs → SpRow W (some ⟨bd, 0, none⟩) cd' ds → Pow W → Sent W → Calls Tryz.prog 18 #[.agg (engC (some ⟨b, 0, none⟩) fs.length c' room a q (some ⟨bd, 0, none⟩) ds.length cd'), .string key] W fun e w' => e = .returned (fiRes (getB fs room a q ds key)) ∧ Below W.heap.size W w') := fun b c' bd cd' W h h' h1 h2 => impl_GetValue_calls b c' (some ⟨bd, 0, none⟩) cd' fs room a q ds key W h h' h1 h2
  have x0 := blk_cell HB0.out 0
  have x1 := blk_cell HB0.out 1
  have x2 := blk_cell HB0.out 2
  have x3 := blk_cell HB0.out 3
  have x4 := blk_cell HB0.out 4
  clear h h' hP
  generalize getB fs room a q ds key = o at HSP HIM
  by_cases hk : (1048576 : Int) < (key.size : Int)
  · go_enter Tryz.func6, Tryz.ntmps6
    go_wp2
    go_ret
    exact ⟨rfl, HA0.out⟩
  · cases o with
    | none =>
      have HSP1 : Hid (∀ b c' bd cd' W, FiRow W (some ⟨b, 0, none⟩) c' fs → SpRow W (some ⟨bd, 0, none⟩) cd' ds → Calls Tryz.prog 17 #[.agg (engC (some ⟨b, 0, none⟩) fs.length c' room a q (some ⟨bd, 0, none⟩) ds.length cd'), .string key] W fun e w' => e = .returned (.tuple #[.string ⟨#[]⟩, .bool false]) ∧ Below W.heap.size W w') := HSP.out
      have HIM1 : Hid (∀ b c' bd cd' W, FiRow W (some ⟨b, 0, none⟩) c' fs → SpRow W (some ⟨bd, 0, none⟩) cd' ds → Pow W → Sent W → Calls Tryz.prog 18 #[.agg (engC (some ⟨b, 0, none⟩) fs.length c' room a q (some ⟨bd, 0, none⟩) ds.length cd'), .string key] W fun e w' => e = .returned (.tuple #[.string ⟨#[]⟩, .bool false]) ∧ Below W.heap.size W w') := HIM.out
      clear HSP HIM
      go_enter Tryz.func6, Tryz.ntmps6
      go_wp2_with fail
      go_at_call 8
      refine (laws_szEngine_calls A Ad c cd fs room a q ds 1048576 _ (HF.out.below HA0.out) (HD.out.below HA0.out) (by omega) (by omega)).mono ?_
      rintro e w1 ⟨⟨r, rfl, hr⟩, hb⟩
      have HA1 := Lib.hid (HA0.out.trans (hb.mono HA0.out.size))
      have HB1 := Lib.hid (blk_below HB0.out hb)
      clear hb x0 x1 x2 x3 x4 HA0 HB0
      rcases hr with hr | ⟨hr0, hr1, hr2, hr3⟩
      · go_wp2
        go_ret
        exact ⟨rfl, HA1.out⟩
      · have HN : Hid (fs.length ≤ 1048576) := by rw [Hid]; omega
        have HM : Hid (ds.length ≤ 1048576) := by rw [Hid]; omega
        have x0 := blk_cell HB1.out 0
        have x1 := blk_cell HB1.out 1
        have x2 := blk_cell HB1.out 2
        have x3 := blk_cell HB1.out 3
        have x4 := blk_cell HB1.out 4
        clear hr1 hr2 hr3
        go_wp2_with fail
        go_at_call 10
        refine (laws_toEngine_calls A Ad c cd fs room a q ds _ (HF.out.below HA1.out) (HD.out.below HA1.out) HN.out HM.out).mono ?_
        rintro e w2 ⟨b2, bd2, rfl, _, _, hf2, hs2, hb⟩
        have HA2 := Lib.hid (HA1.out.trans (hb.mono HA1.out.size))
        have HB2 := Lib.hid (blk_below HB1.out hb)
        have HF2 := Lib.hid hf2
        have HS2 := Lib.hid hs2
        clear hb hf2 hs2 x0 x1 x2 x3 x4 HA1 HB1
        go_wp2_with fail
        go_at_call 17
        refine (HSP1.out _ _ _ _ _ HF2.out HS2.out).mono ?_
        rintro e w3 ⟨rfl, hb⟩
        have HA3 := Lib.hid (HA2.out.trans (hb.mono HA2.out.size))
        have HB3 := Lib.hid (blk_below HB2.out hb)
        clear hb HA2 HB2 HF2 HS2 HSP1
        have x0 := blk_cell HB3.out 0
        have x1 := blk_cell HB3.out 1
        have x2 := blk_cell HB3.out 2
        have x3 := blk_cell HB3.out 3
        have x4 := blk_cell HB3.out 4
        go_wp2_with fail
        go_at_call 10
        refine (laws_toEngine_calls A Ad c cd fs room a q ds _ (HF.out.below HA3.out) (HD.out.below HA3.out) HN.out HM.out).mono ?_
        rintro e w4 ⟨b4, bd4, rfl, _, _, hf4, hs4, hb⟩
        have HAL : Hid (Below w4.heap.size w4 (w4.alloc (.cells (engC (some ⟨b4, 0, none⟩) fs.length fs.length room a q (some ⟨bd4, 0, none⟩) ds.length ds.length) 35))) := (Below.refl _ _).alloc (Nat.le_refl _) _
        have HA4 := Lib.hid ((HA3.out.trans (hb.mono HA3.out.size)).trans (HAL.out.mono (HA3.out.trans (hb.mono HA3.out.size)).size))
        have HB4 := Lib.hid (blk_below (blk_below HB3.out hb) HAL.out)
        have HF4 := Lib.hid (hf4.below HAL.out)
        have HS4 := Lib.hid (hs4.below HAL.out)
        have HX4 : Hid ((w4.alloc (.cells (engC (some ⟨b4, 0, none⟩) fs.length fs.length room a q (some ⟨bd4, 0, none⟩) ds.length ds.length) 35)).heap[w4.heap.size]? = some (.cells (engC (some ⟨b4, 0, none⟩) fs.length fs.length room a q (some ⟨bd4, 0, none⟩) ds.length ds.length) 35 (0, 0))) := blk_new _ _
        clear hb hf4 hs4 x0 x1 x2 x3 x4 HA3 HB3 HAL
        have y0 := blk_cell HX4.out 0
        have y1 := blk_cell HX4.out 1
        have y2 := blk_cell HX4.out 2
        have y3 := blk_cell HX4.out 3
        have y4 := blk_cell HX4.out 4
        go_wp2_with fail
        generalize w4.alloc (.cells (engC (some ⟨b4, 0, none⟩) fs.length fs.length room a q (some ⟨bd4, 0, none⟩) ds.length ds.length) 35) = W4 at HA4 HB4 HF4 HS4 HX4 y0 y1 y2 y3 y4 ⊢
        go_at_call 18
        refine (HIM1.out _ _ _ _ _ HF4.out HS4.out (HPE.out.1.below HA4.out) (sentC HPE.out.2 HA4.out)).mono ?_
        rintro e w5 ⟨rfl, hb⟩
        have HA5 := Lib.hid (HA4.out.trans (hb.mono HA4.out.size))
        have HB5 := Lib.hid (blk_below HB4.out hb)
        have HX5 := Lib.hid (blk_below HX4.out hb)
        have HF5 := Lib.hid (HF4.out.below hb)
        have HS5 := Lib.hid (HS4.out.below hb)
        clear hb y0 y1 y2 y3 y4 HA4 HB4 HX4 HF4 HS4 HIM1
        have HBD : Hid (Below w5.heap.size w5 w5.drew) := Below.drew (Below.refl _ _)
        go_wp2_with fail
        go_region_held3 (fun w' => w'.cell? ⟨w4.heap.size, 0, none⟩ = some (.slice (some ⟨b4, 0, none⟩) fs.length fs.length) ∧ w'.cell? ⟨w4.heap.size, 1, none⟩ = some (.int .i64 room) ∧ w'.cell? ⟨w4.heap.size, 2, none⟩ = some (.int .i64 a) ∧ w'.cell? ⟨w4.heap.size, 3, none⟩ = some (.int .i64 q) ∧ w'.cell? ⟨w4.heap.size, 4, none⟩ = some (.slice (some ⟨bd4, 0, none⟩) ds.length ds.length) ∧ w'.cell? ⟨w.heap.size, 0, none⟩ = some (.slice A fs.length c) ∧ w'.cell? ⟨w.heap.size, 1, none⟩ = some (.int .i64 room) ∧ w'.cell? ⟨w.heap.size, 2, none⟩ = some (.int .i64 a) ∧ w'.cell? ⟨w.heap.size, 3, none⟩ = some (.int .i64 q) ∧ w'.cell? ⟨w.heap.size, 4, none⟩ = some (.slice Ad ds.length cd) ∧ Hid (Below w5.heap.size w5 w')) (first | exact keepB HX5.out HB5.out HBD.out | exact keepB HX5.out HB5.out (HBD.out.trans (hb10.mono HBD.out.size)) | exact keepB HX5.out HB5.out ((HBD.out.trans (hb10.mono HBD.out.size)).trans (hb11.mono (HBD.out.trans (hb10.mono HBD.out.size)).size))) (first | (go_at_call 10; refine (laws_toEngine_calls A Ad c cd fs room a q ds _ (HF.out.below (HA5.out.trans (HBD.out.mono HA5.out.size))) (HD.out.below (HA5.out.trans (HBD.out.mono HA5.out.size))) HN.out HM.out).mono ?_; rintro e w10 ⟨b10, bd10, rfl, _, _, hrow10, hsp10, hb10⟩) | (go_at_call 12; refine (laws_eqEngine_calls _ _ _ _ _ _ _ _ fs room a q ds _ (HF5.out.below (HBD.out.trans (hb10.mono HBD.out.size))) hrow10 (HS5.out.below (HBD.out.trans (hb10.mono HBD.out.size))) hsp10).mono ?_; rintro e w11 ⟨rfl, hb11⟩))
        have HB11 := (‹_ ∧ _ ∧ _ ∧ _ ∧ _ ∧ _ ∧ _ ∧ _ ∧ _ ∧ _ ∧ Hid (Below w5.heap.size w5 _)›).2.2.2.2.2.2.2.2.2.2
        go_wp2
        go_ret
        exact ⟨rfl, HA5.out.trans (HB11.out.mono HA5.out.size)⟩
    | some v =>
      have HSP1 : Hid (∀ b c' bd cd' W, FiRow W (some ⟨b, 0, none⟩) c' fs → SpRow W (some ⟨bd, 0, none⟩) cd' ds → Calls Tryz.prog 17 #[.agg (engC (some ⟨b, 0, none⟩) fs.length c' room a q (some ⟨bd, 0, none⟩) ds.length cd'), .string key] W fun e w' => e = .returned (.tuple #[.string v, .bool true]) ∧ Below W.heap.size W w') := HSP.out
      have HIM1 : Hid (∀ b c' bd cd' W, FiRow W (some ⟨b, 0, none⟩) c' fs → SpRow W (some ⟨bd, 0, none⟩) cd' ds → Pow W → Sent W → Calls Tryz.prog 18 #[.agg (engC (some ⟨b, 0, none⟩) fs.length c' room a q (some ⟨bd, 0, none⟩) ds.length cd'), .string key] W fun e w' => e = .returned (.tuple #[.string v, .bool true]) ∧ Below W.heap.size W w') := HIM.out
      clear HSP HIM
      have hneq : (v.toList != v.toList) = false := by simp
      go_enter Tryz.func6, Tryz.ntmps6
      go_wp2_with fail
      go_at_call 8
      refine (laws_szEngine_calls A Ad c cd fs room a q ds 1048576 _ (HF.out.below HA0.out) (HD.out.below HA0.out) (by omega) (by omega)).mono ?_
      rintro e w1 ⟨⟨r, rfl, hr⟩, hb⟩
      have HA1 := Lib.hid (HA0.out.trans (hb.mono HA0.out.size))
      have HB1 := Lib.hid (blk_below HB0.out hb)
      clear hb x0 x1 x2 x3 x4 HA0 HB0
      rcases hr with hr | ⟨hr0, hr1, hr2, hr3⟩
      · go_wp2
        go_ret
        exact ⟨rfl, HA1.out⟩
      · have HN : Hid (fs.length ≤ 1048576) := by rw [Hid]; omega
        have HM : Hid (ds.length ≤ 1048576) := by rw [Hid]; omega
        have x0 := blk_cell HB1.out 0
        have x1 := blk_cell HB1.out 1
        have x2 := blk_cell HB1.out 2
        have x3 := blk_cell HB1.out 3
        have x4 := blk_cell HB1.out 4
        clear hr1 hr2 hr3
        go_wp2_with fail
        go_at_call 10
        refine (laws_toEngine_calls A Ad c cd fs room a q ds _ (HF.out.below HA1.out) (HD.out.below HA1.out) HN.out HM.out).mono ?_
        rintro e w2 ⟨b2, bd2, rfl, _, _, hf2, hs2, hb⟩
        have HA2 := Lib.hid (HA1.out.trans (hb.mono HA1.out.size))
        have HB2 := Lib.hid (blk_below HB1.out hb)
        have HF2 := Lib.hid hf2
        have HS2 := Lib.hid hs2
        clear hb hf2 hs2 x0 x1 x2 x3 x4 HA1 HB1
        go_wp2_with fail
        go_at_call 17
        refine (HSP1.out _ _ _ _ _ HF2.out HS2.out).mono ?_
        rintro e w3 ⟨rfl, hb⟩
        have HA3 := Lib.hid (HA2.out.trans (hb.mono HA2.out.size))
        have HB3 := Lib.hid (blk_below HB2.out hb)
        clear hb HA2 HB2 HF2 HS2 HSP1
        have x0 := blk_cell HB3.out 0
        have x1 := blk_cell HB3.out 1
        have x2 := blk_cell HB3.out 2
        have x3 := blk_cell HB3.out 3
        have x4 := blk_cell HB3.out 4
        go_wp2_with fail
        go_at_call 10
        refine (laws_toEngine_calls A Ad c cd fs room a q ds _ (HF.out.below HA3.out) (HD.out.below HA3.out) HN.out HM.out).mono ?_
        rintro e w4 ⟨b4, bd4, rfl, _, _, hf4, hs4, hb⟩
        have HAL : Hid (Below w4.heap.size w4 (w4.alloc (.cells (engC (some ⟨b4, 0, none⟩) fs.length fs.length room a q (some ⟨bd4, 0, none⟩) ds.length ds.length) 35))) := (Below.refl _ _).alloc (Nat.le_refl _) _
        have HA4 := Lib.hid ((HA3.out.trans (hb.mono HA3.out.size)).trans (HAL.out.mono (HA3.out.trans (hb.mono HA3.out.size)).size))
        have HB4 := Lib.hid (blk_below (blk_below HB3.out hb) HAL.out)
        have HF4 := Lib.hid (hf4.below HAL.out)
        have HS4 := Lib.hid (hs4.below HAL.out)
        have HX4 : Hid ((w4.alloc (.cells (engC (some ⟨b4, 0, none⟩) fs.length fs.length room a q (some ⟨bd4, 0, none⟩) ds.length ds.length) 35)).heap[w4.heap.size]? = some (.cells (engC (some ⟨b4, 0, none⟩) fs.length fs.length room a q (some ⟨bd4, 0, none⟩) ds.length ds.length) 35 (0, 0))) := blk_new _ _
        clear hb hf4 hs4 x0 x1 x2 x3 x4 HA3 HB3 HAL
        have y0 := blk_cell HX4.out 0
        have y1 := blk_cell HX4.out 1
        have y2 := blk_cell HX4.out 2
        have y3 := blk_cell HX4.out 3
        have y4 := blk_cell HX4.out 4
        go_wp2_with fail
        generalize w4.alloc (.cells (engC (some ⟨b4, 0, none⟩) fs.length fs.length room a q (some ⟨bd4, 0, none⟩) ds.length ds.length) 35) = W4 at HA4 HB4 HF4 HS4 HX4 y0 y1 y2 y3 y4 ⊢
        go_at_call 18
        refine (HIM1.out _ _ _ _ _ HF4.out HS4.out (HPE.out.1.below HA4.out) (sentC HPE.out.2 HA4.out)).mono ?_
        rintro e w5 ⟨rfl, hb⟩
        have HA5 := Lib.hid (HA4.out.trans (hb.mono HA4.out.size))
        have HB5 := Lib.hid (blk_below HB4.out hb)
        have HX5 := Lib.hid (blk_below HX4.out hb)
        have HF5 := Lib.hid (HF4.out.below hb)
        have HS5 := Lib.hid (HS4.out.below hb)
        clear hb y0 y1 y2 y3 y4 HA4 HB4 HX4 HF4 HS4 HIM1
        have HBD : Hid (Below w5.heap.size w5 w5.drew) := Below.drew (Below.refl _ _)
        go_wp2_with fail
        go_region_held3 (fun w' => w'.cell? ⟨w4.heap.size, 0, none⟩ = some (.slice (some ⟨b4, 0, none⟩) fs.length fs.length) ∧ w'.cell? ⟨w4.heap.size, 1, none⟩ = some (.int .i64 room) ∧ w'.cell? ⟨w4.heap.size, 2, none⟩ = some (.int .i64 a) ∧ w'.cell? ⟨w4.heap.size, 3, none⟩ = some (.int .i64 q) ∧ w'.cell? ⟨w4.heap.size, 4, none⟩ = some (.slice (some ⟨bd4, 0, none⟩) ds.length ds.length) ∧ w'.cell? ⟨w.heap.size, 0, none⟩ = some (.slice A fs.length c) ∧ w'.cell? ⟨w.heap.size, 1, none⟩ = some (.int .i64 room) ∧ w'.cell? ⟨w.heap.size, 2, none⟩ = some (.int .i64 a) ∧ w'.cell? ⟨w.heap.size, 3, none⟩ = some (.int .i64 q) ∧ w'.cell? ⟨w.heap.size, 4, none⟩ = some (.slice Ad ds.length cd) ∧ Hid (Below w5.heap.size w5 w')) (first | exact keepB HX5.out HB5.out HBD.out | exact keepB HX5.out HB5.out (HBD.out.trans (hb10.mono HBD.out.size)) | exact keepB HX5.out HB5.out ((HBD.out.trans (hb10.mono HBD.out.size)).trans (hb11.mono (HBD.out.trans (hb10.mono HBD.out.size)).size))) (first | (go_at_call 10; refine (laws_toEngine_calls A Ad c cd fs room a q ds _ (HF.out.below (HA5.out.trans (HBD.out.mono HA5.out.size))) (HD.out.below (HA5.out.trans (HBD.out.mono HA5.out.size))) HN.out HM.out).mono ?_; rintro e w10 ⟨b10, bd10, rfl, _, _, hrow10, hsp10, hb10⟩) | (go_at_call 12; refine (laws_eqEngine_calls _ _ _ _ _ _ _ _ fs room a q ds _ (HF5.out.below (HBD.out.trans (hb10.mono HBD.out.size))) hrow10 (HS5.out.below (HBD.out.trans (hb10.mono HBD.out.size))) hsp10).mono ?_; rintro e w11 ⟨rfl, hb11⟩))
        have HB11 := (‹_ ∧ _ ∧ _ ∧ _ ∧ _ ∧ _ ∧ _ ∧ _ ∧ _ ∧ _ ∧ Hid (Below w5.heap.size w5 _)›).2.2.2.2.2.2.2.2.2.2
        go_wp2
        go_ret
        exact ⟨rfl, HA5.out.trans (HB11.out.mono HA5.out.size)⟩
theorem laid_FnExactGetValue {W : World} (h : laidMetH Tryz.prog Rows.fnExactGetValueRow.laid W) : Pow W ∧ Sent W := by
  rw [MakeChecks.laidMetH_plain _ _ _ (by kernel_rfl)] at h
  exact ⟨pow_of_laid h.tail.tail, sent_of_laid h.tail.tail.tail⟩
end Go.Proofs.YtaacpdejpcbbbaaGreatDoor
