/- Segments of the reference. -/
import Derived.Test.YticnhfflppkpoaaGreatDoorSegsL
import Derived.Test.YticnhfflppkpoaaGreatDoorSeg6
import Derived.Test.YticnhfflppkpoaaGreatDoorOwnInt
namespace Go.Proofs.YticnhfflppkpoaaGreatDoor
set_option linter.unusedVariables false
set_option linter.unusedSimpArgs false
open Go.RowKit
attribute [local go_sem] bs_size List.length_cons List.length_nil List.length_append

/-- The disk in its box. -/
abbrev W5 (w : World) (A : Option Addr) (n c : Nat) : World := w.alloc (.cells #[.slice A n c] 29)
structure VD (w : World) (A : Option Addr) (n c : Nat) (W : World) : Prop where
  b : Below (W5 w A n c).heap.size (W5 w A n c) W
section
variable {w W W' : World} {A : Option Addr} {n c : Nat}
theorem VD.go (h : VD w A n c W) (hb : Below W.heap.size W W') : VD w A n c W' := ⟨h.b.trans (hb.mono h.b.size)⟩
theorem VD.drew (h : VD w A n c W) : VD w A n c W.drew := h.go (Below.drew (Below.refl _ _))
theorem VD.alloc (h : VD w A n c W) (o : Obj) : VD w A n c (W.alloc o) := h.go ((Below.refl _ _).alloc (Nat.le_refl _) _)
theorem VD.from_ (h : VD w A n c W) : Below w.heap.size w W := ((Below.refl _ _).alloc (Nat.le_refl _) _).trans (h.b.mono (by simp))
theorem VD.cell (h : VD w A n c W) : W.cell? ⟨w.heap.size, 0, none⟩ = some (.slice A n c) := (h.b.cell (by simp)).trans (blk_cell (blk_new w _) 0)
theorem VD.all (h : VD w A n c W) : W.cell? ⟨w.heap.size, 0, none⟩ = some (.slice A n c) ∧ Hid (VD w A n c W) := ⟨h.cell, h⟩
theorem VD.grown {row : Option Nat} (h : VD w A n c W) (hg : W.grownBy W' row) (hr : ∀ k, row = some k → w.heap.size + 1 ≤ k) : VD w A n c W' := ⟨h.b.grown hg h.b.size fun k e => by have := hr k e; simpa using this⟩
theorem VD.size (h : VD w A n c W) : w.heap.size + 1 ≤ W.heap.size := by have := h.b.size; simpa using this
end
theorem vd_start (w : World) (A : Option Addr) (n c : Nat) : VD w A n c (W5 w A n c) := ⟨Below.refl _ _⟩
/-- What Segments gives. -/
def SegsPost (w : World) (fs : List FiD) (e : Ending) (w' : World) : Prop := ∃ v, e = .returned (.tuple #[v, .bool (!(segsB fs).isEmpty)]) ∧ OwnI w' w.heap.size v ((segsB fs).map Int.ofNat) ∧ Below w.heap.size w w'
theorem segsPost_no {w w' : World} {fs : List FiD} {v : Value} (h : segsB fs = []) (ho : OwnI w' w.heap.size v []) (hb : Below w.heap.size w w') : SegsPost w fs (.returned (.tuple #[v, .bool false])) w' := ⟨v, by rw [h]; rfl, by rw [h]; exact ho, hb⟩
theorem seg_head {n : Int} {s : ByteArray} : segPl n s = none ∧ headOfB n s = none ∨ ∃ f l pls, segPl n s = some (f, l, pls) ∧ headOfB n s = some (f, l) := by
  have h := segPl_head n s
  cases hs : segPl n s with
  | none => rw [hs] at h; exact .inl ⟨rfl, h.symm⟩
  | some x =>
    obtain ⟨f, l, pls⟩ := x
    rw [hs] at h
    exact .inr ⟨f, l, pls, rfl, h.symm⟩
theorem OwnI.mono {w : World} {B B' : Nat} {v : Value} {ns : List Int} (h : OwnI w B v ns) (hb : B' ≤ B) : OwnI w B' v ns := own_low h hb
theorem ownI_empty (w : World) {B : Nat} (hB : B ≤ w.heap.size) : OwnI (w.alloc (.cells #[] 3)) B (.slice (some ⟨w.heap.size, 0, none⟩) 0 0) [] := World.ownsRow_made (w := w) #[] 0 hB (Nat.zero_le _) rfl
theorem least_step {fs : List FiD} {n f : Nat} (h : hdFrom fs n = f) : leastB fs (n + 1) = max (leastB fs n) f := by rw [leastB, h]
theorem outs_yes {fs : List FiD} {a k : Nat} (h : a ≤ k) (hf : hasF fs k = true) : outsB fs a (k + 1) = outsB fs a k ++ [k] := by rw [outsB, if_pos ⟨h, hf⟩]
theorem outs_no {fs : List FiD} {a k : Nat} (hf : hasF fs k = false) : outsB fs a (k + 1) = outsB fs a k := by rw [outsB, if_neg (by simp [hf])]
set_option maxHeartbeats 8000000 in
set_option maxRecDepth 100000 in
theorem spec_Segments_calls (A : Option Addr) (c : Nat) (fs : List FiD) (w : World) (h : FiRow w A c fs) :
    Calls Tryz.prog 17 #[.agg #[.slice A fs.length c]] w (SegsPost w fs) := by
  obtain ⟨i0, hi0, hz, hsz, hby⟩ := info_parts info_int
  have HF := Lib.hid h
  have hl := h.len
  have HV := Lib.hid (vd_start w A fs.length c)
  have HV0 := Lib.hid (HV.out.alloc (.cells #[] 3))
  have HO0 : Hid (OwnI ((W5 w A fs.length c).alloc (.cells #[] 3)) (w.heap.size + 1) (.slice (some ⟨w.heap.size + 1, 0, none⟩) 0 0) []) := by
    have := ownI_empty (W5 w A fs.length c) (B := w.heap.size + 1) (by simp)
    rwa [show (W5 w A fs.length c).heap.size = w.heap.size + 1 by simp] at this
  have p0 := HV0.out.cell
  clear h
  cases hdk : diskOkB fs
  · have HDK := Lib.hid hdk
    have HE := Lib.hid (segs_no hdk)
    clear hdk
    go_enter Tryz.func17, Tryz.ntmps17
    go_wp2_with fail
    go_at_call 37
    refine (spec_DiskOk_calls A c fs _ (HF.out.below HV0.out.from_)).mono ?_
    rw [HDK.out]
    rintro e w3 ⟨rfl, hb3⟩
    have HV3 := Lib.hid (HV0.out.go hb3)
    have HO3 := Lib.hid (HO0.out.below hb3)
    clear hb3 p0
    go_wp2
    go_ret2
    exact segsPost_no HE.out (HO3.out.mono (Nat.le_succ _)) HV3.out.from_
  · have HDK := Lib.hid hdk
    clear hdk
    go_enter Tryz.func17, Tryz.ntmps17
    go_wp2_with fail
    go_at_call 37
    refine (spec_DiskOk_calls A c fs _ (HF.out.below HV0.out.from_)).mono ?_
    rw [HDK.out]
    rintro e w3 ⟨rfl, hb3⟩
    have HV3 := Lib.hid (HV0.out.go hb3)
    have HO3 := Lib.hid (HO0.out.below hb3)
    clear hb3 p0
    go_wp2
    go_loopw [5, 6] (fun fv nv wr => ∃ n : Nat, n ≤ 100 ∧ nv = .int .i64 (n : Int) ∧ fv = .int .i64 (leastB fs n : Int) ∧ Hid (Below w3.heap.size w3 wr)) (fun _ nv _ => 100 - (intOf nv).toNat)
    case atStart => exact ⟨0, by omega, rfl, rfl, Below.refl _ _⟩
    case round =>
      obtain ⟨n, hn, rfl, rfl, HB⟩ := hrel
      have HVR := Lib.hid (HV3.out.go HB.out)
      by_cases hlt : n < 100
      · have hli : (n : Int) ≤ 99 := by omega
        have HVD := Lib.hid HVR.out.drew
        have hll := least_le fs n (by omega)
        go_wp2_with fail
        go_region_held3 (fun w' => w'.cell? ⟨w.heap.size, 0, none⟩ = some (.slice A fs.length c) ∧ Hid (VD w A fs.length c w')) (first | exact HVD.out.all | exact (HVD.out.go (by assumption)).all | exact ((HVD.out.go (by assumption)).go (by assumption)).all) (first | (go_at_call 26; refine (spec_SegNm_calls (n : Int) _).mono ?_; rintro e w' ⟨rfl, hb⟩) | (go_at_call 38; refine (spec_l03At_calls (segNm (n : Int)) A c fs _ (HF.out.below (HVD.out.go (by assumption)).from_)).mono ?_; rintro e w'' ⟨r, rfl, hr, hb⟩))
        have HV1 := (‹_ ∧ Hid (VD w A fs.length c _)›).2
        have HB1 := Lib.hid (show Below w3.heap.size w3 w'' from HB.out.trans ((Below.drew (Below.refl _ _)).trans (‹Below wr.drew.heap.size wr.drew w'›.trans (hb.mono ‹Below wr.drew.heap.size wr.drew w'›.size)) |>.mono HB.out.size))
        have p1 := HV1.out.cell
        clear hb
        rcases hr with ⟨j, x, rfl, hj, hx, hf⟩ | ⟨rfl, hf⟩
        · have hjl := (List.getElem?_eq_some_iff.1 hj).1
          obtain ⟨ad, y, hA, HY, _, _, _, hd1, _⟩ := (HF.out.below HV1.out.from_).at_ hjl
          obtain rfl : x = y := Option.some.inj (hj.symm.trans HY.out)
          have hts := fileB_small HDK.out hf
          cases hA
          have HFB := Lib.hid hf
          clear hf hj hx
          go_wp2_with fail
          go_at_call 27
          refine (spec_ReadSegment_calls (n : Int) x.2.1 _ (by omega)).mono ?_
          rintro e w5 hp
          rcases seg_head (n := (n : Int)) (s := x.2.1) with ⟨hs1, hs2⟩ | ⟨f, l, pls, hs1, hs2⟩
          · rw [hs1] at hp
            obtain ⟨hb5, v5, rfl, _⟩ := hp
            have HB5 := Lib.hid (HB1.out.trans (hb5.mono HB1.out.size))
            have HST := Lib.hid (least_step (hd_bad HFB.out hs2).1)
            clear hb5 hs1 hs2 p1
            go_wp2
            go_roundw
            case rel => first | exact ⟨n + 1, by omega, by go_num, by rw [HST.out]; congr 2; omega, HB5⟩ | (repeat (first | (refine ⟨?relx, rfl⟩; exact ⟨n + 1, by omega, by go_num, by rw [HST.out]; congr 2; omega, HB5⟩) | (refine ⟨?relx, ?eqs⟩; (case eqs => (and_intros <;> rfl)); exact ⟨n + 1, by omega, by go_num, by rw [HST.out]; congr 2; omega, HB5⟩) | apply Exists.intro))
            case measure => simp [intOf]; omega
          · rw [hs1] at hp
            obtain ⟨hb5, v5, rfl, _⟩ := hp
            have HB5 := Lib.hid (HB1.out.trans (hb5.mono HB1.out.size))
            have HST := Lib.hid (least_step (hd_good HFB.out hs2).1)
            have hfl := least_le fs (n + 1) (by omega)
            rw [HST.out] at hfl
            clear hb5 hs1 hs2 p1
            by_cases hgt : leastB fs n < f
            · have hgi : (leastB fs n : Int) < (f : Int) := by omega
              go_wp2
              go_roundw
              case rel => first | exact ⟨n + 1, by omega, by go_num, by rw [HST.out]; congr 2; omega, HB5⟩ | (repeat (first | (refine ⟨?relx, rfl⟩; exact ⟨n + 1, by omega, by go_num, by rw [HST.out]; congr 2; omega, HB5⟩) | (refine ⟨?relx, ?eqs⟩; (case eqs => (and_intros <;> rfl)); exact ⟨n + 1, by omega, by go_num, by rw [HST.out]; congr 2; omega, HB5⟩) | apply Exists.intro))
              case measure => simp [intOf]; omega
            · have hgi : ¬ (leastB fs n : Int) < (f : Int) := by omega
              go_wp2
              go_roundw
              case rel => first | exact ⟨n + 1, by omega, by go_num, by rw [HST.out]; congr 2; omega, HB5⟩ | (repeat (first | (refine ⟨?relx, rfl⟩; exact ⟨n + 1, by omega, by go_num, by rw [HST.out]; congr 2; omega, HB5⟩) | (refine ⟨?relx, ?eqs⟩; (case eqs => (and_intros <;> rfl)); exact ⟨n + 1, by omega, by go_num, by rw [HST.out]; congr 2; omega, HB5⟩) | apply Exists.intro))
              case measure => simp [intOf]; omega
        · have HST := Lib.hid (least_step (hd_none hf).1)
          clear hf
          go_wp2
          go_roundw
          case rel => first | exact ⟨n + 1, by omega, by go_num, by rw [HST.out]; congr 2; omega, HB1⟩ | (repeat (first | (refine ⟨?relx, rfl⟩; exact ⟨n + 1, by omega, by go_num, by rw [HST.out]; congr 2; omega, HB1⟩) | (refine ⟨?relx, ?eqs⟩; (case eqs => (and_intros <;> rfl)); exact ⟨n + 1, by omega, by go_num, by rw [HST.out]; congr 2; omega, HB1⟩) | apply Exists.intro))
          case measure => simp [intOf]; omega
      · have hn100 : n = 100 := by omega
        have HN := Lib.hid hn100
        have hll := least_le fs n hn
        have hni : ¬ (n : Int) ≤ 99 := by omega
        obtain ⟨a, hgl⟩ : ∃ a, leastB fs n = a := ⟨_, rfl⟩
        rw [hgl] at hll ⊢
        have HQ1 : Hid (∀ m, a ≤ m → m < 100 → hasF fs m = true → badF fs m = true → segsB fs = []) := fun m h1 h2 h3 h4 => segs_bad (n := m) (by unfold allB; rw [← hn100, hgl, hn100]; exact (outs_mem fs).2 ⟨h1, h2, h3⟩) h4
        have HQ2 : Hid (∀ k, k = 100 → (∀ m ∈ outsB fs a k, badF fs m = false) → segsB fs = outsB fs a k) := fun k hk h1 => by
          subst hk
          have h2 := segs_good HDK.out (by unfold allB; rw [← hn100, hgl, hn100]; exact h1)
          unfold allB at h2
          rwa [← hn100, hgl, hn100] at h2
        clear hgl hn100 hlt HN
        have HO4 := Lib.hid (HO3.out.below HB.out)
        have HV4 := Lib.hid HVR.out
        clear HB
        go_wp2
        go_loopw [4, 12] (fun ov nv wr => ∃ n : Nat, a ≤ n ∧ n ≤ 100 ∧ nv = .int .i64 (n : Int) ∧ Hid (∀ m ∈ outsB fs a n, badF fs m = false) ∧ Hid (OwnI wr (w.heap.size + 1) ov ((outsB fs a n).map Int.ofNat)) ∧ Hid (VD w A fs.length c wr)) (fun _ nv _ => 100 - (intOf nv).toNat)
        case atStart => exact ⟨a, Nat.le_refl _, by omega, rfl, fun m hm => by rw [outs_none fs (Nat.le_refl _)] at hm; simp at hm, by rw [outs_none fs (Nat.le_refl _)]; exact HO4.out, HV4⟩
        case round =>
          obtain ⟨n, hna, hn, rfl, HG, HO, HVR⟩ := hrel
          have hol := outs_len fs (a := a) (k := n)
          obtain ⟨A2, c2, hv⟩ := HO.out.form
          rw [List.length_map] at hv
          subst hv
          have HOL := Lib.hid hol
          have HNA := Lib.hid hna
          clear hol hna hll
          by_cases hlt : n < 100
          · have hli : (n : Int) ≤ 99 := by omega
            have HVD := Lib.hid HVR.out.drew
            go_wp2_with fail
            go_region_held3 (fun w' => w'.cell? ⟨w.heap.size, 0, none⟩ = some (.slice A fs.length c) ∧ Hid (VD w A fs.length c w')) (first | exact HVD.out.all | exact (HVD.out.go (by assumption)).all | exact ((HVD.out.go (by assumption)).go (by assumption)).all) (first | (go_at_call 26; refine (spec_SegNm_calls (n : Int) _).mono ?_; rintro e w' ⟨rfl, hb⟩) | (go_at_call 38; refine (spec_l03At_calls (segNm (n : Int)) A c fs _ (HF.out.below (HVD.out.go (by assumption)).from_)).mono ?_; rintro e w'' ⟨r, rfl, hr, hb⟩))
            have HV1 := (‹_ ∧ Hid (VD w A fs.length c _)›).2
            have HO1 := Lib.hid ((HO.out.below ((Below.drew (Below.refl _ _)).trans (‹Below wr.drew.heap.size wr.drew w'›))).below hb)
            have p1 := HV1.out.cell
            clear hb
            rcases hr with ⟨j, x, rfl, hj, hx, hf⟩ | ⟨rfl, hf⟩
            · have hjl := (List.getElem?_eq_some_iff.1 hj).1
              obtain ⟨ad, y, hA, HY, _, _, _, hd1, _⟩ := (HF.out.below HV1.out.from_).at_ hjl
              obtain rfl : x = y := Option.some.inj (hj.symm.trans HY.out)
              have hts := fileB_small HDK.out hf
              cases hA
              have HFB := Lib.hid hf
              clear hf hj hx
              go_wp2_with fail
              go_at_call 27
              refine (spec_ReadSegment_calls (n : Int) x.2.1 _ (by omega)).mono ?_
              rintro e w5 hp
              rcases seg_head (n := (n : Int)) (s := x.2.1) with ⟨hs1, hs2⟩ | ⟨f, l, pls, hs1, hs2⟩
              · rw [hs1] at hp
                obtain ⟨hb5, v5, rfl, _⟩ := hp
                have hbd := hd_bad HFB.out hs2
                have HE := Lib.hid (HQ1.out n HNA.out hlt hbd.2.1 hbd.2.2)
                have HV5 := Lib.hid ((HV1.out.go hb5).alloc (.cells #[] 3))
                have HO5 := Lib.hid (ownI_empty w5 (B := w.heap.size) (by have := (HV1.out.go hb5).size; omega))
                clear hb5 hs1 hs2 p1 hbd
                go_wp2
                go_ret2
                exact segsPost_no HE.out HO5.out HV5.out.from_
              · rw [hs1] at hp
                obtain ⟨hb5, v5, rfl, _⟩ := hp
                have hgd := hd_good HFB.out hs2
                have HOY := Lib.hid (outs_yes HNA.out hgd.2.1)
                have HG2 : Hid (∀ m ∈ outsB fs a (n + 1), badF fs m = false) := fun m hm => by
                  rw [HOY.out] at hm
                  rcases List.mem_append.1 hm with hm | hm
                  · exact HG.out m hm
                  · obtain rfl := List.mem_singleton.1 hm
                    exact hgd.2.2
                have HV5 := Lib.hid (HV1.out.go hb5)
                have HO5 := Lib.hid (HO1.out.below hb5)
                have HO6 : Hid (OwnI (w5.alloc (.cells #[.int .i64 (n : Int)] 3)) (w.heap.size + 1) (.slice A2 (outsB fs a n).length c2) ((outsB fs a n).map Int.ofNat)) := World.ownsRow.alloc HO5.out _
                have HNEWS : Hid (∀ j u, [Value.int .i64 (n : Int)][j]? = some u → (w5.alloc (.cells #[.int .i64 (n : Int)] 3)).cell? ((⟨w5.heap.size, 0, none⟩ : Addr).add j) = some u) := World.news_of_block (heap_alloc_new w5 _)
                have HBASE : Hid (w.heap.size + 1 ≤ (w5.alloc (.cells #[.int .i64 (n : Int)] 3)).heap.size) := by have := HV5.out.size; rw [Hid]; simp; omega
                have HLL : Hid ((outsB fs a n).length = ((outsB fs a n).map Int.ofNat).length) := by rw [Hid, List.length_map]
                clear hb5 hs1 hs2 p1 hgd
                have hol := HOL.out
                go_wp2_with (at_builtin; refine wpList_append_lies _ rfl _ _ _ rfl (w.heap.size + 1) 3 i0 (.int .i64 0) 1 8 Tryz.underlying40 hi0 hz hsz hby rfl (by omega) (.slice A2 (outsB fs a n).length c2) (outsB fs a n).length (((outsB fs a n).map Int.ofNat).map (Value.int .i64)) rfl (by have := HO6.out; unfold OwnI at this; rwa [← HLL.out] at this) ⟨w5.heap.size, 0, none⟩ 1 1 [.int .i64 (n : Int)] rfl rfl HNEWS.out (by simp [Value.oneCell']) (by omega) (by unfold maxLen; omega) (by omega) HBASE.out _ rfl ?_; intro gg cap w7 hown hgrow hat hlt2)
                have HPU : Hid (OwnI w7 (w.heap.size + 1) (.slice (some ⟨gg, 0, none⟩) ((outsB fs a n).length + 1) cap) ((outsB fs a (n + 1)).map Int.ofNat)) := by
                  rw [Hid, HOY.out, OwnI, List.map_append, List.map_append, List.length_append, ← HLL.out]
                  exact hown
                have HV7 := Lib.hid ((HV5.out.alloc _).grown hgrow fun k hk => (HO6.out.lt k hk).1)
                clear hown hgrow hat
                go_wp2
                go_roundw
                case rel => first | exact ⟨n + 1, Nat.le_succ_of_le HNA.out, by omega, by go_num, HG2, HPU, HV7⟩ | (repeat (first | (refine ⟨?relx, rfl⟩; exact ⟨n + 1, Nat.le_succ_of_le HNA.out, by omega, by go_num, HG2, HPU, HV7⟩) | (refine ⟨?relx, ?eqs⟩; (case eqs => (and_intros <;> rfl)); exact ⟨n + 1, Nat.le_succ_of_le HNA.out, by omega, by go_num, HG2, HPU, HV7⟩) | apply Exists.intro))
                case measure => simp [intOf]; omega
            · have HON := Lib.hid (outs_no (a := a) (hd_none hf).2)
              have HG2 : Hid (∀ m ∈ outsB fs a (n + 1), badF fs m = false) := by rw [Hid, HON.out]; exact HG.out
              have HO2 : Hid (OwnI w'' (w.heap.size + 1) (.slice A2 (outsB fs a n).length c2) ((outsB fs a (n + 1)).map Int.ofNat)) := by rw [Hid, HON.out]; exact HO1.out
              clear hf p1
              go_wp2
              go_roundw
              case rel => first | exact ⟨n + 1, Nat.le_succ_of_le HNA.out, by omega, by go_num, HG2, HO2, HV1⟩ | (repeat (first | (refine ⟨?relx, rfl⟩; exact ⟨n + 1, Nat.le_succ_of_le HNA.out, by omega, by go_num, HG2, HO2, HV1⟩) | (refine ⟨?relx, ?eqs⟩; (case eqs => (and_intros <;> rfl)); exact ⟨n + 1, Nat.le_succ_of_le HNA.out, by omega, by go_num, HG2, HO2, HV1⟩) | apply Exists.intro))
              case measure => simp [intOf]; omega
          · have hn100 : n = 100 := by omega
            have HE : Hid (segsB fs = outsB fs a n) := HQ2.out n hn100 HG.out
            have hni2 : ¬ (n : Int) ≤ 99 := by omega
            have hol := HOL.out
            generalize outsB fs a n = L at HE HO hol ⊢
            clear HOL HG HNA hn100 HQ1 HQ2 hlt
            cases L with
            | nil =>
              go_wp2
              go_ret2
              exact segsPost_no HE.out (HO.out.mono (Nat.le_succ _)) HVR.out.from_
            | cons m L =>
              have h0 : (0 : Int) < ((m :: L).length : Int) := by rw [List.length_cons]; omega
              go_wp2
              go_ret2
              refine ⟨_, ?_, by rw [HE.out]; exact HO.out.mono (Nat.le_succ _), HVR.out.from_⟩
              rw [HE.out]
              rfl
end Go.Proofs.YticnhfflppkpoaaGreatDoor
