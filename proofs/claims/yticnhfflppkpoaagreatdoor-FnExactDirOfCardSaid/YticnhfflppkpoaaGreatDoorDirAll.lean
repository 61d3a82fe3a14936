/- Segments of the program. SeqsRise: plain. SeqsRise of the reference, and of the program. SeqsRise of the program. The plain law of ReadHint: what the program reads and what the reference reads is the directory whose hint it is. Directories: DirOk, the program's and the reference's. By wip/tools/gendirok.py. Rows of spots of the call's own. Directories: l07Set of the reference. The directory of a disk: plain. The program's map of spots: plain. The directory of a disk: DirOf of the reference. The directory of a disk: how great it is. The directory of a disk: DirOf of the program. The laws' marks: markText, markStringS (writes marks into a slice of the call's own), heldStringS (finds them there). A block under marking, cell by cell. The laws' marks in files; copies of disks whose row is the call's own. The laws' helpers for spots: eqSpot, eqSpotS, markSpotS, heldSpotS. The walk of the law FnExactDirOf: whatever the disk, it returns true. A disk and a spot that came in. -/
import Derived.Test.YticnhfflppkpoaaGreatDoorSortC
import Derived.Test.YticnhfflppkpoaaGreatDoorSegC
import Derived.Test.YticnhfflppkpoaaGreatDoorSegsL
import Derived.Test.YticnhfflppkpoaaGreatDoorRdL
import Derived.Test.YticnhfflppkpoaaGreatDoorSum
import Derived.Test.YticnhfflppkpoaaGreatDoorGrow
import Derived.Test.YticnhfflppkpoaaGreatDoorBl
import Derived.Laws.Cover1
import Derived.Outline
import Derived.BigQuiet
import Derived.Deep.RegionHeld3
import Derived.Deep.CutRange
import Derived.Maps.OwnSet
import Derived.Sort.KeysCollected
import Derived.Test.YticnhfflppkpoaaGreatDoorSegsS
import Derived.StillTailTactics
import Derived.Test.YticnhfflppkpoaaGreatDoorIter
import Derived.Maps.OwnOps
import Derived.Carry
import Derived.Test.YticnhfflppkpoaaGreatDoorStrs
import Derived.Test.YticnhfflppkpoaaGreatDoorDigs
import Derived.Test.YticnhfflppkpoaaGreatDoorDiskM
import Derived.Test.YticnhfflppkpoaaGreatDoorDecAll
import Derived.Deep.Slices
namespace Go.Proofs.YticnhfflppkpoaaGreatDoor
set_option linter.unusedVariables false
set_option linter.unusedSimpArgs false
open Go.RowKit
attribute [local go_sem] bs_size List.length_cons List.length_nil List.length_append

theorem diskOk_len {fs : List FiD} (h : diskOkB fs = true) : fs.length ≤ 30 := by
  unfold diskOkB at h
  rw [Bool.and_eq_true] at h
  exact of_decide_eq_true h.2
theorem fiRes_some (s : ByteArray) : fiRes (some s) = .tuple #[.string s, .bool true] := rfl
theorem hoUni (n : Nat) (t : ByteArray) : ∃ (l : Nat) (b : Bool), hoRes (headOfB (n : Int) t) = .tuple #[.int .i64 (fromOf n t : Int), .int .i64 (l : Int), .bool b] ∧ (b = true → ∃ f l, headOfB (n : Int) t = some (f, l)) ∧ (b = false → headOfB (n : Int) t = none) := by
  unfold fromOf
  cases h : headOfB (n : Int) t with
  | none => exact ⟨0, false, rfl, (fun e => by cases e), fun _ => rfl⟩
  | some p => obtain ⟨f, l⟩ := p; exact ⟨l, true, rfl, (fun _ => ⟨f, l, rfl⟩), fun e => by cases e⟩
theorem sentB {w w' : World} (h : Sent w) (hb : Below w.heap.size w w') : Sent w' := h.below hb h.big
theorem grown_set' {w wr : World} {b : Nat} (h : w.grownBy wr (some b)) (j : Nat) (v : Value) : w.grownBy (wr.setCell ⟨b, j, none⟩ v) (some b) :=
  ⟨h.os, h.tape, h.output, by simpa using h.size, fun i hi hne => (Below.heap_setCell wr ⟨b, j, none⟩ v i (fun e => hne (by rw [e]))).trans (h.block i hi hne)⟩
/-- The program's loops' memory: the disk's box, the least's cell, the row of numbers. -/
structure SI (w : World) (A : Option Addr) (n c gl : Nat) (a : Int) (v : Value) (ns : List Int) (W : World) : Prop where
  vd : VD w A n c W
  far : w.heap.size + 1 ≤ gl
  least : W.heap[gl]? = some (.cells #[.int .i64 a] 3)
  row : OwnI W (gl + 1) v ns
section
variable {w W W' : World} {A : Option Addr} {n c gl : Nat} {a : Int} {v : Value} {ns : List Int}
theorem SI.go (h : SI w A n c gl a v ns W) (hb : Below W.heap.size W W') : SI w A n c gl a v ns W' := ⟨h.vd.go hb, h.far, blk_below h.least hb, h.row.below hb⟩
theorem SI.alloc (h : SI w A n c gl a v ns W) (o : Obj) : SI w A n c gl a v ns (W.alloc o) := h.go ((Below.refl _ _).alloc (Nat.le_refl _) _)
theorem SI.same {a' : Int} {ns' : List Int} (h : SI w A n c gl a v ns W) (ha : a' = a) (hn : ns' = ns) : SI w A n c gl a' v ns' W := by subst ha hn; exact h
theorem SI.lt (h : SI w A n c gl a v ns W) : gl + 1 ≤ W.heap.size := blk_lt h.least
theorem SI.all (h : SI w A n c gl a v ns W) : W.cell? ⟨w.heap.size, 0, none⟩ = some (.slice A n c) ∧ Hid (SI w A n c gl a v ns W) := ⟨h.vd.cell, h⟩
theorem SI.set (h : SI w A n c gl a v ns W) (b : Int) : SI w A n c gl b v ns (W.setCell ⟨gl, 0, none⟩ (.int .i64 b)) := by
  have hg : W.grownBy (W.setCell ⟨gl, 0, none⟩ (.int .i64 b)) (some gl) := grown_set' (World.grownBy.refl W _) 0 _
  refine ⟨h.vd.grown hg fun k e => by cases e; exact h.far, h.far, by rw [blk_set h.least]; rfl, World.ownsRow.kept h.row hg ?_⟩
  cases hv : v.ownBlock with
  | none => exact .inl rfl
  | some k => exact .inr fun e => by have := (h.row.lt k hv).1; cases e; omega
theorem SI.put {v' : Value} {ns' : List Int} (h : SI w A n c gl a v ns W) (hg : W.grownBy W' v.ownBlock) (ho : OwnI W' (gl + 1) v' ns') : SI w A n c gl a v' ns' W' :=
  ⟨h.vd.grown hg fun k e => by have := (h.row.lt k e).1; have := h.far; omega, h.far, (hg.block gl (blk_lt h.least) (fun e => by have := (h.row.lt gl e.symm).1; omega)).trans h.least, ho⟩
end
set_option maxHeartbeats 8000000 in
set_option maxRecDepth 100000 in
theorem impl_Segments_calls (A : Option Addr) (c : Nat) (fs : List FiD) (w : World) (h : FiRow w A c fs) (hP : Pow w) (hE : Sent w) :
    Calls Tryz.prog 20 #[.agg #[.slice A fs.length c]] w (SegsPost w fs) := by
  obtain ⟨i0, hi0, hz, hsz, hby⟩ := info_parts info_int
  have hmf : ∀ (fn : Fn) (first cap : Array Value) (w : World), (Instr.makeFunc fn first cap).run Tryz.prog w = .ok (.func fn first cap) w := fun _ _ _ _ => rfl
  have HF := Lib.hid h
  have hl := h.len
  have HPW := Lib.hid hP
  have HEW := Lib.hid hE
  have HV := Lib.hid (vd_start w A fs.length c)
  have p0 := HV.out.cell
  clear h hP hE
  cases hdk : diskOkB fs
  · have HDK := Lib.hid hdk
    have HE := Lib.hid (segs_no hdk)
    clear hdk
    go_enter Tryz.func20, Tryz.ntmps20
    go_wp2_with fail
    go_at_call 40
    refine (impl_DiskOk_calls A c fs _ (HF.out.below HV.out.from_)).mono ?_
    rw [HDK.out]
    rintro e w3 ⟨rfl, hb3⟩
    have HV3 := Lib.hid (HV.out.go hb3)
    clear hb3 p0
    go_wp2
    go_ret2
    exact segsPost_no HE.out (World.ownsRow_nil _ _ _ _) HV3.out.from_
  · have HDK := Lib.hid hdk
    clear hdk
    go_enter Tryz.func20, Tryz.ntmps20
    go_wp2_with fail
    go_at_call 40
    refine (impl_DiskOk_calls A c fs _ (HF.out.below HV.out.from_)).mono ?_
    rw [HDK.out]
    rintro e w3 ⟨rfl, hb3⟩
    have HV3 := Lib.hid (HV.out.go hb3)
    have HS3 : Hid (SI w A fs.length c w3.heap.size 0 (.slice none 0 0) [] (w3.alloc (.cells #[.int .i64 0] 3))) := ⟨HV3.out.alloc _, HV3.out.size, blk_new _ _, World.ownsRow_nil _ _ _ _⟩
    have p1 := HS3.out.vd.cell
    clear hb3 p0
    go_wp2
    go_loopw [4, 25] (fun av iv wr => ∃ i : Nat, i ≤ fs.length ∧ iv = .int .i64 (i : Int) ∧ Hid (SI w A fs.length c w3.heap.size (leastI (fs.take i) : Int) av ((numsB (fs.take i)).map Int.ofNat) wr)) (fun _ iv _ => fs.length - (intOf iv).toNat)
    case atStart => exact ⟨0, Nat.zero_le _, rfl, HS3⟩
    case round =>
      obtain ⟨i, hi, rfl, HS⟩ := hrel
      clear p1
      by_cases hlt : i < fs.length
      · obtain ⟨ad, x, hA, HX, hz1, hz2, hc0, hc1, hc2⟩ := (HF.out.below HS.out.vd.from_).at_ hlt
        cases hA
        have hsm := diskOk_small HDK.out (List.mem_of_getElem? HX.out)
        have HNS := Lib.hid (nums_step HX.out)
        have HLS := Lib.hid (leastI_step HX.out)
        have hll : leastI (fs.take i) ≤ 99 := leastI_le
        have hll2 : leastI (fs.take (i + 1)) ≤ 99 := leastI_le
        have hnl := nums_len fs i
        have hf30 := diskOk_len HDK.out
        obtain ⟨nm, tx, k⟩ := x
        dsimp only at hz1 hz2 hc0 hc1 hc2 hsm HNS HLS
        have HS4 := Lib.hid (HS.out.alloc (.cells #[.string nm, .string tx, .int .i64 k] 79))
        have HBX : Hid ((wr.alloc (.cells #[.string nm, .string tx, .int .i64 k] 79)).heap[wr.heap.size]? = some (.cells #[.string nm, .string tx, .int .i64 k] 79 (0, 0))) := blk_new _ _
        have hf := HS4.out.vd.from_
        have HPP := Lib.hid (HPW.out.below hf)
        have HEE := Lib.hid (sentB HEW.out hf)
        clear hf
        go_wp2_with fail
        go_at_call 41
        refine (impl_segNumber_calls nm _ (by omega) HPP.out HEE.out).mono ?_
        rintro e w5 ⟨rfl, hb5⟩
        have HS5 := Lib.hid (HS4.out.go hb5)
        have HBX5 := Lib.hid (blk_below HBX.out hb5)
        clear hb5
        cases hno : segNo nm with
        | none =>
          have HST := Lib.hid (HS5.out.same (a' := (leastI (fs.take (i + 1)) : Int)) (ns' := (numsB (fs.take (i + 1))).map Int.ofNat) (by rw [HLS.out, hno]) (by rw [HNS.out, hno]; simp))
          have hneg : noInt none = -1 := rfl
          clear HNS HLS hno hc0 hc1 hc2
          go_wp2
          go_roundw
          case rel => first | exact ⟨i + 1, by omega, by go_num, HST⟩ | (repeat (first | (refine ⟨?relx, rfl⟩; exact ⟨i + 1, by omega, by go_num, HST⟩) | (refine ⟨?relx, ?eqs⟩; (case eqs => (and_intros <;> rfl)); exact ⟨i + 1, by omega, by go_num, HST⟩) | apply Exists.intro))
          case measure => simp [intOf]; omega
        | some m =>
          have hm99 := (segNo_some hno).1
          rw [hno] at HNS HLS
          dsimp only at HNS HLS
          obtain ⟨A2, c2, hv⟩ := HS5.out.row.form
          rw [List.length_map] at hv
          subst hv
          have HS6 := Lib.hid (HS5.out.alloc (.cells #[.int .i64 (m : Int)] 3))
          have HNEWS : Hid (∀ j u, [Value.int .i64 (m : Int)][j]? = some u → (w5.alloc (.cells #[.int .i64 (m : Int)] 3)).cell? ((⟨w5.heap.size, 0, none⟩ : Addr).add j) = some u) := World.news_of_block (heap_alloc_new w5 _)
          have HLL : Hid ((numsB (fs.take i)).length = ((numsB (fs.take i)).map Int.ofNat).length) := by rw [Hid, List.length_map]
          have x1 : w5.cell? ⟨wr.heap.size, 1, none⟩ = some (.string tx) := blk_cell HBX5.out 1
          have hmi : ¬ (m : Int) < 0 := by omega
          have HROWLT : Hid (∀ k, (Value.slice A2 (numsB (fs.take i)).length c2).ownBlock = some k → k < wr.heap.size) := fun k hk => (HS.out.row.lt k hk).2
          have HNOI : Hid (noInt (some m) = (m : Int)) := rfl
          clear hno hc0 hc1 hc2 x1
          rw [HNOI.out]
          go_wp2_with (at_builtin; refine wpList_append_lies _ rfl _ _ _ rfl (w3.heap.size + 1) 3 i0 (.int .i64 0) 1 8 Tryz.underlying40 hi0 hz hsz hby rfl (by omega) (.slice A2 (numsB (fs.take i)).length c2) (numsB (fs.take i)).length (((numsB (fs.take i)).map Int.ofNat).map (Value.int .i64)) rfl (by have := HS6.out.row; unfold OwnI at this; rwa [← HLL.out] at this) ⟨w5.heap.size, 0, none⟩ 1 1 [.int .i64 (m : Int)] rfl rfl HNEWS.out (by simp [Value.oneCell']) (by omega) (by unfold maxLen; omega) (by omega) HS6.out.lt _ rfl ?_; intro gg cap w7 hown hgrow hat hlt2; have HOWN := Lib.hid hown; have HGR := Lib.hid hgrow; have y1 : w7.cell? ⟨wr.heap.size, 1, none⟩ = some (.string tx) := blk_cell (((hgrow.block wr.heap.size (by have := blk_lt HBX5.out; simp; omega) (fun e => Nat.lt_irrefl _ (HROWLT.out _ e.symm)))).trans (blk_below HBX5.out ((Below.refl _ _).alloc (Nat.le_refl _) _))) 1; clear hown hgrow hat hlt2)
          have HPU : Hid (OwnI w7 (w3.heap.size + 1) (.slice (some ⟨gg, 0, none⟩) ((numsB (fs.take i)).length + 1) cap) ((numsB (fs.take (i + 1))).map Int.ofNat)) := by
            rw [Hid, HNS.out, OwnI, List.map_append, List.map_append, List.length_append, ← HLL.out]
            exact HOWN.out
          have HS7 := Lib.hid (HS6.out.put HGR.out HPU.out)
          clear HOWN HGR HPU
          obtain ⟨l, okh, hho, _, _⟩ := hoUni m tx
          have HHO := Lib.hid hho
          have hfm : fromOf m tx ≤ 99 := by have h1 := hll2; rw [HLS.out] at h1; exact (Nat.max_le.1 h1).2
          have HLS2 : Hid (((leastI (fs.take (i + 1)) : Nat) : Int) = max (leastI (fs.take i) : Int) (fromOf m tx : Int)) := by
            rw [Hid, HLS.out]
            rcases Nat.le_total (leastI (fs.take i)) (fromOf m tx) with h | h
            · rw [Nat.max_eq_right h, Int.max_eq_right (by omega)]
            · rw [Nat.max_eq_left h, Int.max_eq_left (by omega)]
          clear hho y1
          go_wp2_with fail
          go_at_call 42
          refine (impl_headOf_calls (m : Int) tx _ (by omega)).mono ?_
          rw [HHO.out]
          rintro e w8 ⟨rfl, hb8⟩
          have HS8 := Lib.hid (HS7.out.go hb8)
          have z0 : w8.cell? ⟨w3.heap.size, 0, none⟩ = some (.int .i64 (leastI (fs.take i) : Int)) := blk_cell HS8.out.least 0
          have zf := blk_frozen HS8.out.least 0
          clear hb8
          go_wp2
          have HS9 := Lib.hid ((HS8.out.set (max (leastI (fs.take i) : Int) (fromOf m tx : Int))).same HLS2.out rfl)
          go_roundw
          case rel => first | exact ⟨i + 1, by omega, by go_num, HS9⟩ | (repeat (first | (refine ⟨?relx, rfl⟩; exact ⟨i + 1, by omega, by go_num, HS9⟩) | (refine ⟨?relx, ?eqs⟩; (case eqs => (and_intros <;> rfl)); exact ⟨i + 1, by omega, by go_num, HS9⟩) | apply Exists.intro))
          case measure => simp [intOf]; omega
      · obtain rfl : i = fs.length := by omega
        have hll : leastI (fs.take fs.length) ≤ 99 := leastI_le
        have hnl := nums_len fs fs.length
        have hf30 := diskOk_len HDK.out
        rw [List.take_length] at HS hll hnl
        obtain ⟨a, ha⟩ : ∃ a, leastI fs = a := ⟨_, rfl⟩
        rw [ha] at HS hll
        have HQ1 : Hid (∀ m, a ≤ m → m < 100 → hasF fs m = true → badF fs m = true → segsB fs = []) := fun m h1 h2 h3 h4 => segs_bad (n := m) (by unfold allB; rw [← leastI_eq HDK.out, ha]; exact (outs_mem fs).2 ⟨h1, h2, h3⟩) h4
        have HQ2 : Hid (∀ k, k = 100 → (∀ m ∈ outsB fs a k, badF fs m = false) → segsB fs = outsB fs a k) := fun k hk h1 => by
          subst hk
          have h2 := segs_good HDK.out (by unfold allB; rw [← leastI_eq HDK.out, ha]; exact h1)
          unfold allB at h2
          rwa [← leastI_eq HDK.out, ha] at h2
        obtain ⟨k, hk⟩ : ∃ k, k = 100 := ⟨_, rfl⟩
        have HSO : Hid (((((numsB fs).map Int.ofNat).mergeSort fun x y => decide (x ≤ y)).filter fun x => !decide (x < (a : Int))) = (outsB fs a k).map Int.ofNat) := by rw [hk]; exact sorted_outs (nums_nodup HDK.out) (nums_mem HDK.out)
        have HOM : Hid (∀ m, m ∈ outsB fs a k ↔ a ≤ m ∧ m < k ∧ hasF fs m = true) := fun m => outs_mem fs
        have HOK : Hid ((∀ m ∈ outsB fs a k, badF fs m = false) → segsB fs = outsB fs a k) := HQ2.out k hk
        have hol : (outsB fs a k).length ≤ 100 := by have := outs_len fs (a := a) (k := k); omega
        have HK := Lib.hid hk
        generalize outsB fs a k = L at HSO HOM HOK hol
        clear HQ2 hk ha
        go_wp2_with fail
        go_at_call 43
        refine (sort_own HS.out.row (by rw [List.length_map]; omega)).mono ?_
        rintro e w5 ⟨rfl, ho5, hg5⟩
        have HS5 := Lib.hid (HS.out.put hg5 ho5)
        have z0 : w5.cell? ⟨w3.heap.size, 0, none⟩ = some (.int .i64 (a : Int)) := blk_cell HS5.out.least 0
        have HZ0 := Lib.hid z0
        clear ho5 hg5 z0
        go_wp2_with fail
        go_at_call 44
        refine (delete_own HS5.out.row (by rw [List.length_mergeSort, List.length_map]; omega) HZ0.out (Nat.lt_succ_self _)).mono ?_
        rw [HSO.out]
        rintro e w6 ⟨v6, rfl, ho6, hg6⟩
        have HS6 := Lib.hid (HS5.out.put hg6 ho6)
        obtain ⟨A6, c6, hv6⟩ := ho6.form
        rw [List.length_map] at hv6
        subst hv6
        clear ho6 hg6
        go_wp2
        go_loopw [57] (fun iv wr => ∃ j : Nat, j ≤ L.length ∧ iv = .int .i64 (j : Int) ∧ Hid (∀ m ∈ L.take j, badF fs m = false) ∧ Hid (SI w A fs.length c w3.heap.size (a : Int) (.slice A6 L.length c6) (L.map Int.ofNat) wr)) (fun iv _ => L.length - (intOf iv).toNat)
        case atStart => exact ⟨0, Nat.zero_le _, rfl, (fun m hm => by simp at hm), HS6⟩
        case round =>
          obtain ⟨j, hj, rfl, HG, HR⟩ := hrel
          by_cases hlt : j < L.length
          · obtain ⟨m, hm⟩ : ∃ m, L[j]? = some m := ⟨_, List.getElem?_eq_getElem hlt⟩
            obtain ⟨hma, hmk, hmf⟩ := (HOM.out m).1 (List.mem_of_getElem? hm)
            have hm100 : m < 100 := by have := HK.out; omega
            obtain ⟨b6, hA6, hc6⟩ := HR.out.row.at_ (j := j) (x := (m : Int)) (by rw [List.getElem?_map, hm]; rfl)
            subst hA6
            obtain ⟨t, hft⟩ : ∃ t, fileB fs (segNm (m : Int)) = some t := by
              unfold hasF at hmf
              cases hf : fileB fs (segNm (m : Int)) with
              | none => rw [hf] at hmf; cases hmf
              | some t => exact ⟨t, rfl⟩
            have hts := fileB_small HDK.out hft
            obtain ⟨l, okh, hho, hh1, hh2⟩ := hoUni m t
            have HHO := Lib.hid hho
            have HH1 := Lib.hid hh1
            have HH2 := Lib.hid hh2
            have HM := Lib.hid hm
            have HMA := Lib.hid hma
            have HMF := Lib.hid hmf
            have HFT := Lib.hid hft
            have HRD := Lib.hid (HR.out.go (Below.drew (Below.refl _ _)))
            have HPP := Lib.hid (HPW.out.below HRD.out.vd.from_)
            clear hho hh1 hh2 hm hma hmf hft hmk
            go_wp2_with fail
            go_region_held3 (fun w' => w'.cell? ⟨w.heap.size, 0, none⟩ = some (.slice A fs.length c) ∧ Hid (SI w A fs.length c w3.heap.size (a : Int) (.slice (some ⟨b6, 0, none⟩) L.length c6) (L.map Int.ofNat) w')) (first | exact HRD.out.all | exact (HRD.out.go (by assumption)).all | exact ((HRD.out.go (by assumption)).go (by assumption)).all) (first | (go_at_call 22; refine (impl_SegNm_calls (m : Int) _ HPP.out).mono ?_; rintro e w' ⟨rfl, hb⟩) | (go_at_call 21; refine (impl_FileAt_calls (segNm (m : Int)) A c fs _ (HF.out.below (HRD.out.go (by assumption)).vd.from_)).mono ?_; rw [HFT.out, fiRes_some]; rintro e w'' ⟨rfl, hb⟩))
            have HR2 := (‹_ ∧ Hid (SI w A fs.length c w3.heap.size (a : Int) (.slice (some ⟨b6, 0, none⟩) L.length c6) (L.map Int.ofNat) _)›).2
            go_wp2_with fail
            go_at_call 42
            refine (impl_headOf_calls (m : Int) t _ (by omega)).mono ?_
            rw [HHO.out]
            rintro e w8 ⟨rfl, hb8⟩
            have HR8 := Lib.hid (HR2.out.go hb8)
            clear hb8
            cases okh
            · have hbd := hd_bad HFT.out (HH2.out rfl)
              have HE := Lib.hid (HQ1.out m HMA.out hm100 HMF.out hbd.2.2)
              clear hbd
              go_wp2
              go_ret2
              exact segsPost_no HE.out (World.ownsRow_nil _ _ _ _) HR8.out.vd.from_
            · have HGD : Hid (badF fs m = false) := by
                obtain ⟨f, l, h⟩ := HH1.out rfl
                exact (hd_good HFT.out h).2.2
              have HG2 : Hid (∀ x ∈ L.take (j + 1), badF fs x = false) := fun x hx => by
                rw [take_snoc HM.out] at hx
                rcases List.mem_append.1 hx with hx | hx
                · exact HG.out x hx
                · obtain rfl := List.mem_singleton.1 hx
                  exact HGD.out
              go_wp2
              go_roundw
              case rel => first | exact ⟨j + 1, by omega, by go_num, HG2, HR8⟩ | (repeat (first | (refine ⟨?relx, rfl⟩; exact ⟨j + 1, by omega, by go_num, HG2, HR8⟩) | (refine ⟨?relx, ?eqs⟩; (case eqs => (and_intros <;> rfl)); exact ⟨j + 1, by omega, by go_num, HG2, HR8⟩) | apply Exists.intro))
              case measure => simp [intOf]; omega
          · obtain rfl : j = L.length := by omega
            have HE : Hid (segsB fs = L) := HOK.out (by have := HG.out; rw [List.take_length] at this; exact this)
            clear HG HOM HOK HSO HQ1 HK
            cases L with
            | nil =>
              go_wp2
              go_ret2
              exact segsPost_no HE.out (World.ownsRow_nil _ _ _ _) HR.out.vd.from_
            | cons m L =>
              have h0 : (((m :: L).length : Int) == 0) = false := by
                rw [List.length_cons]
                exact beq_eq_false_iff_ne.mpr (by omega)
              have h00 : ((L.length : Int) + 1 == 0) = false := beq_eq_false_iff_ne.mpr (by omega)
              go_wp2
              go_ret2
              refine ⟨_, ?_, by rw [HE.out]; exact HR.out.row.mono (by have := HR.out.far; omega), HR.out.vd.from_⟩
              rw [HE.out]
              rfl
end Go.Proofs.YticnhfflppkpoaaGreatDoor

namespace Go.Proofs.YticnhfflppkpoaaGreatDoor
set_option linter.unusedVariables false
set_option linter.unusedSimpArgs false
open Go.RowKit

/-- The batches of a segment of a disk. -/
def batsAt (fs : List FiD) (n : Nat) : List PlD := match segPl (n : Int) ((fileB fs (segNm (n : Int))).getD ⟨#[]⟩) with
  | none => []
  | some (_, _, pls) => pls
def seqsAt (fs : List FiD) (n : Nat) : List Int := (batsAt fs n).map fun p => p.1.1
def riseGo : Int → List Int → Option Int
  | last, [] => some last
  | last, q :: qs => if q ≤ last then none else riseGo q qs
theorem riseGo_append : ∀ (a b : List Int) (l : Int), riseGo l (a ++ b) = (riseGo l a).bind fun m => riseGo m b
  | [], b, l => rfl
  | q :: a, b, l => by
    rw [List.cons_append, riseGo, riseGo]
    split
    · rfl
    · exact riseGo_append a b q
def riseL (L : List Nat) (sq : Nat → List Int) : Bool := !L.isEmpty && (riseGo (-1) ((L.map sq).flatten)).isSome
def riseB (fs : List FiD) : Bool := riseL (segsB fs) (seqsAt fs)
/-- Behind i segments, and j batches of the next, the last number is l. -/
def RiseAt (L : List Nat) (sq : Nat → List Int) (i j : Nat) (l : Int) : Prop := riseGo (-1) ((((L).take i).map (sq)).flatten ++ (match (L)[i]? with
  | none => []
  | some n => (sq n).take j)) = some l
theorem rise_start (L : List Nat) (sq : Nat → List Int) : RiseAt L sq 0 0 (-1) := by
  unfold RiseAt
  cases (L)[0]? <;> simp [riseGo]
theorem rise_in {L : List Nat} {sq : Nat → List Int} {i j n : Nat} {l q : Int} (h : RiseAt L sq i j l) (hi : (L)[i]? = some n) (hq : (sq n)[j]? = some q) (hlt : ¬ q ≤ l) : RiseAt L sq i (j + 1) q := by
  unfold RiseAt at h ⊢
  rw [hi] at h ⊢
  dsimp only at h ⊢
  rw [take_snoc hq, ← List.append_assoc, riseGo_append, h]
  simp [riseGo, hlt]
theorem rise_next {L : List Nat} {sq : Nat → List Int} {i j n : Nat} {l : Int} (h : RiseAt L sq i j l) (hi : (L)[i]? = some n) (hj : (sq n).length ≤ j) : RiseAt L sq (i + 1) 0 l := by
  unfold RiseAt at h ⊢
  rw [hi] at h
  dsimp only at h
  rw [List.take_of_length_le hj] at h
  rw [take_snoc hi, List.map_append, List.flatten_append]
  cases (L)[i + 1]? <;> simpa using h
theorem rise_end {L : List Nat} {sq : Nat → List Int} {i : Nat} {l : Int} (h : RiseAt L sq i 0 l) (hi : (L).length ≤ i) : riseL L sq = !(L).isEmpty := by
  unfold RiseAt at h
  rw [List.getElem?_eq_none hi, List.take_of_length_le hi] at h
  simp only [List.append_nil] at h
  unfold riseL
  rw [h]
  simp
theorem rise_bad {L : List Nat} {sq : Nat → List Int} {i j n : Nat} {l q : Int} (h : RiseAt L sq i j l) (hi : (L)[i]? = some n) (hq : (sq n)[j]? = some q) (hle : q ≤ l) : riseL L sq = false := by
  obtain ⟨hil, e⟩ := List.getElem?_eq_some_iff.1 hi
  obtain ⟨hjl, e2⟩ := List.getElem?_eq_some_iff.1 hq
  have hs : L = L.take i ++ (n :: L.drop (i + 1)) := by
    rw [← e, ← List.drop_eq_getElem_cons hil, List.take_append_drop]
  have hs2 : sq n = (sq n).take j ++ (q :: (sq n).drop (j + 1)) := by
    rw [← e2, ← List.drop_eq_getElem_cons hjl, List.take_append_drop]
  unfold RiseAt at h
  rw [hi] at h
  dsimp only at h
  have : riseGo (-1) ((L.map sq).flatten) = none := by
    rw [hs, List.map_append, List.flatten_append, List.map_cons, List.flatten_cons, hs2, List.append_assoc, ← List.append_assoc, riseGo_append, h]
    simp [riseGo, hle]
  unfold riseL
  rw [this]
  simp
end Go.Proofs.YticnhfflppkpoaaGreatDoor

namespace Go.Proofs.YticnhfflppkpoaaGreatDoor
set_option linter.unusedVariables false
set_option linter.unusedSimpArgs false
open Go.RowKit
attribute [local go_sem] bs_size List.length_cons List.length_nil List.length_append

theorem fiRes_get (o : Option ByteArray) : fiRes o = .tuple #[.string (o.getD ⟨#[]⟩), .bool o.isSome] := by cases o <;> rfl
theorem get_small {fs : List FiD} {n : ByteArray} (h : diskOkB fs = true) : ((fileB fs n).getD ⟨#[]⟩).size ≤ 20000 := by
  cases hf : fileB fs n with
  | none => decide
  | some t => exact fileB_small h hf
theorem segs_disk {fs : List FiD} {i n : Nat} (h : (segsB fs)[i]? = some n) : diskOkB fs = true ∧ n ≤ 99 := by
  have hm := List.mem_of_getElem? h
  refine ⟨?_, by have := (segs_lt hm).1; omega⟩
  cases hd : diskOkB fs with
  | true => rfl
  | false => rw [segs_no hd] at hm; simp at hm
set_option maxHeartbeats 4000000 in
set_option maxRecDepth 100000 in
theorem spec_l06Batches_calls (A : Option Addr) (c : Nat) (fs : List FiD) (n : Nat) (w : World) (h : FiRow w A c fs) (hd : diskOkB fs = true) :
    Calls Tryz.prog 18 #[.agg #[.slice A fs.length c], .int .i64 (n : Int)] w fun e w' => ∃ v, e = .returned v ∧ BatsOwn w' w.heap.size v ((batsAt fs n).map Prod.fst) ∧ Below w.heap.size w w' := by
  have HF := Lib.hid h
  have HV := Lib.hid (vd_start w A fs.length c)
  have HV0 := Lib.hid HV.out.drew
  have hts := get_small (n := segNm (n : Int)) hd
  have HRES := Lib.hid (fiRes_get (fileB fs (segNm (n : Int))))
  have HBA : Hid (batsAt fs n = match segPl (n : Int) ((fileB fs (segNm (n : Int))).getD ⟨#[]⟩) with | none => [] | some (_, _, pls) => pls) := rfl
  generalize (fileB fs (segNm (n : Int))).getD ⟨#[]⟩ = t at hts HRES HBA
  generalize (fileB fs (segNm (n : Int))).isSome = ob at HRES
  clear h hd
  go_enter Tryz.func18, Tryz.ntmps18
  go_wp2_with fail
  go_region_held3 (fun w' => w'.cell? ⟨w.heap.size, 0, none⟩ = some (.slice A fs.length c) ∧ Hid (VD w A fs.length c w')) (first | exact HV0.out.all | exact (HV0.out.go (by assumption)).all | exact ((HV0.out.go (by assumption)).go (by assumption)).all) (first | (go_at_call 26; refine (spec_SegNm_calls (n : Int) _).mono ?_; rintro e w' ⟨rfl, hb⟩) | (go_at_call 25; refine (spec_FileAt_calls (segNm (n : Int)) A c fs _ (HF.out.below (HV0.out.go (by assumption)).from_)).mono ?_; rw [HRES.out]; rintro e w'' ⟨rfl, hb⟩))
  have HV1 := (‹_ ∧ Hid (VD w A fs.length c _)›).2
  have HSZ : Hid (w.heap.size ≤ w''.heap.size) := by have := HV1.out.size; rw [Hid]; omega
  go_wp2_with fail
  go_at_call 27
  refine (spec_ReadSegment_calls (n : Int) t _ (by omega)).mono ?_
  rintro e w5 hp
  cases hs : segPl (n : Int) t with
  | none =>
    rw [hs] at hp
    obtain ⟨hb5, v5, rfl, ho5⟩ := hp
    have HB5 := Lib.hid (HV1.out.go hb5)
    have HO5 := Lib.hid ho5
    have HE : Hid (batsAt fs n = []) := by rw [Hid, HBA.out, hs]
    clear hb5 ho5 hs
    go_wp2
    go_ret
    exact ⟨_, rfl, by rw [HE.out]; exact HO5.out.mono HSZ.out, HB5.out.from_⟩
  | some p =>
    obtain ⟨f, l, pls⟩ := p
    rw [hs] at hp
    obtain ⟨hb5, v5, rfl, ho5⟩ := hp
    have HB5 := Lib.hid (HV1.out.go hb5)
    have HO5 := Lib.hid ho5
    have HE : Hid (batsAt fs n = pls) := by rw [Hid, HBA.out, hs]
    clear hb5 ho5 hs
    go_wp2
    go_ret
    exact ⟨_, rfl, by rw [HE.out]; exact HO5.out.mono HSZ.out, HB5.out.from_⟩
/-- The disk's box and the list of segments. -/
structure SR (w : World) (A : Option Addr) (n c : Nat) (v : Value) (ns : List Int) (W : World) : Prop where
  vd : VD w A n c W
  row : OwnI W (w.heap.size + 1) v ns
section
variable {w W W' : World} {A : Option Addr} {n c : Nat} {v : Value} {ns : List Int}
theorem SR.go (h : SR w A n c v ns W) (hb : Below W.heap.size W W') : SR w A n c v ns W' := ⟨h.vd.go hb, h.row.below hb⟩
end
theorem BatsOwn.cells0 {w : World} {B : Nat} {A : Option Addr} {n c j : Nat} {bs : List BatD} {q : Int} {cs : List ChD} (h : BatsOwn w B (.slice A n c) bs) (hj : bs[j]? = some (q, cs)) :
    ∃ g, A = some ⟨g, 0, none⟩ ∧ w.cell? ⟨g, j * 2, none⟩ = some (.int .i64 q) := by
  obtain ⟨b, u, e, hc, _, _⟩ := ListC.at_ h (fun _ => rfl) hj
  exact ⟨b, e, by have := hc 0 (by omega); exact this⟩
theorem placedGo_len' : ∀ (rs : List ByteArray) (last : Option Int) (a : Nat), (placedGo last a rs).length ≤ rs.length := placedGo_len
theorem bats_len (fs : List FiD) (n : Nat) : (batsAt fs n).length ≤ 20000 := by
  unfold batsAt
  cases h : segPl (n : Int) ((fileB fs (segNm (n : Int))).getD ⟨#[]⟩) with
  | none => simp
  | some p => obtain ⟨f, l, pls⟩ := p; exact (segPl_bound h).2.1
set_option maxHeartbeats 8000000 in
set_option maxRecDepth 100000 in
theorem spec_SeqsRise_calls (A : Option Addr) (c : Nat) (fs : List FiD) (w : World) (h : FiRow w A c fs) :
    Calls Tryz.prog 6 #[.agg #[.slice A fs.length c]] w fun e w' => e = .returned (.bool (riseB fs)) ∧ Below w.heap.size w w' := by
  have HF := Lib.hid h
  have HV := Lib.hid (vd_start w A fs.length c)
  have p0 := HV.out.cell
  have hw5 : (W5 w A fs.length c).heap.size = w.heap.size + 1 := by simp
  have HDS : Hid (∀ i n, (segsB fs)[i]? = some n → diskOkB fs = true ∧ n ≤ 99) := fun i n hi => segs_disk hi
  have hsl := segs_len fs
  have HRB : Hid (riseB fs = riseL (segsB fs) (seqsAt fs)) := rfl
  have HFW := Lib.hid (HF.out.below HV.out.from_)
  have HSP := Lib.hid (spec_Segments_calls A c fs _ HFW.out)
  unfold SegsPost at HSP
  rw [hw5] at HSP
  generalize segsB fs = L at HDS hsl HRB HSP
  clear h hw5
  go_enter Tryz.func6, Tryz.ntmps6
  go_wp2_with fail
  go_at_call 17
  refine HSP.out.mono ?_
  rintro e w1 ⟨v1, rfl, ho1, hb1⟩
  obtain ⟨A1, c1, hv1⟩ := ho1.form
  rw [List.length_map] at hv1
  subst hv1
  have HS1 : Hid (SR w A fs.length c (.slice A1 L.length c1) (L.map Int.ofNat) w1) := ⟨HV.out.go (hb1.mono (by simp)), ho1⟩
  clear ho1 hb1 p0 HSP
  go_wp2
  go_loopw [5, 6] (fun lv iv wr => ∃ (i : Nat) (l : Int), i ≤ L.length ∧ iv = .int .i64 (i : Int) ∧ lv = .int .i64 l ∧ Hid (RiseAt L (seqsAt fs) i 0 l) ∧ Hid (SR w A fs.length c (.slice A1 L.length c1) (L.map Int.ofNat) wr)) (fun _ iv _ => L.length - (intOf iv).toNat)
  case atStart => exact ⟨0, -1, Nat.zero_le _, rfl, rfl, rise_start _ _, HS1⟩
  case round =>
    obtain ⟨i, l, hi, rfl, rfl, HR, HS⟩ := hrel
    by_cases hlt : i < L.length
    · obtain ⟨m, hm⟩ : ∃ m, L[i]? = some m := ⟨_, List.getElem?_eq_getElem hlt⟩
      have hdm := HDS.out i m hm
      obtain ⟨b1, hA1, hc1⟩ := HS.out.row.at_ (j := i) (x := (m : Int)) (by rw [List.getElem?_map, hm]; rfl)
      subst hA1
      have HM := Lib.hid hm
      have HDK := Lib.hid hdm.1
      have HSD := Lib.hid (HS.out.go (Below.drew (Below.refl _ _)))
      have HC1 : Hid (∀ W, SR w A fs.length c (.slice (some ⟨b1, 0, none⟩) L.length c1) (L.map Int.ofNat) W → W.cell? ⟨w.heap.size, 0, none⟩ = some (.slice A fs.length c) ∧ W.cell? ⟨b1, i, none⟩ = some (.int .i64 (m : Int)) ∧ Hid (SR w A fs.length c (.slice (some ⟨b1, 0, none⟩) L.length c1) (L.map Int.ofNat) W)) := fun W hW => by
        obtain ⟨b, e, hb⟩ := hW.row.at_ (j := i) (x := (m : Int)) (by rw [List.getElem?_map, HM.out]; rfl)
        cases e
        exact ⟨hW.vd.cell, hb, hW⟩
      have hil : (i : Int) < (L.length : Int) := by omega
      clear hm hdm hc1
      go_wp2_with fail
      go_region_held3 (fun w' => w'.cell? ⟨w.heap.size, 0, none⟩ = some (.slice A fs.length c) ∧ w'.cell? ⟨b1, i, none⟩ = some (.int .i64 (m : Int)) ∧ Hid (SR w A fs.length c (.slice (some ⟨b1, 0, none⟩) L.length c1) (L.map Int.ofNat) w')) (first | exact HC1.out _ HSD.out | exact HC1.out _ (HSD.out.go hb7)) (first | (go_at_call 18; refine (spec_l06Batches_calls A c fs m _ (HF.out.below HSD.out.vd.from_) HDK.out).mono ?_; rintro e w7 ⟨v7, rfl, ho7, hb7⟩))
      have HS7 := (‹_ ∧ _ ∧ Hid (SR w A fs.length c (.slice (some ⟨b1, 0, none⟩) L.length c1) (L.map Int.ofNat) _)›).2.2
      obtain ⟨A7, c7, hv7⟩ := ListC.form ho7
      rw [List.length_map] at hv7
      subst hv7
      have HO7 := Lib.hid ho7
      have hbl := bats_len fs m
      have HSQ : Hid (seqsAt fs m = (batsAt fs m).map fun p => p.1.1) := rfl
      generalize batsAt fs m = S at HO7 hbl HSQ ho7 ⊢
      clear ho7 hb7
      go_wp2
      go_loopw [5, 8] (fun lv kv wr2 => ∃ (j : Nat) (l' : Int), j ≤ S.length ∧ kv = .int .i64 (j : Int) ∧ lv = .int .i64 l' ∧ Hid (RiseAt L (seqsAt fs) i j l') ∧ Hid (Below w7.heap.size w7 wr2)) (fun _ kv _ => S.length - (intOf kv).toNat)
      case atStart => exact ⟨0, l, Nat.zero_le _, rfl, rfl, HR, Below.refl _ _⟩
      case round =>
        obtain ⟨j, l', hj, rfl, rfl, HR2, HB2⟩ := hrel
        by_cases hlt2 : j < S.length
        · obtain ⟨⟨⟨q, cs⟩, a, z⟩, hp⟩ : ∃ p, S[j]? = some p := ⟨_, List.getElem?_eq_getElem hlt2⟩
          obtain ⟨g, hA7, hcg⟩ := BatsOwn.cells0 (ListC.below HO7.out HB2.out) (j := j) (q := q) (cs := cs) (by rw [List.getElem?_map, hp]; rfl)
          subst hA7
          have HQ : Hid ((seqsAt fs m)[j]? = some q) := by rw [Hid, HSQ.out, List.getElem?_map, hp]; rfl
          have hjl : (j : Int) < (S.length : Int) := by omega
          clear hp
          by_cases hq : q ≤ l'
          · have HE := Lib.hid (rise_bad HR2.out HM.out HQ.out hq)
            have HF9 := Lib.hid (HS7.out.vd.go HB2.out).from_
            go_wp2
            go_ret
            exact ⟨by rw [HRB.out, HE.out]; rfl, HF9.out⟩
          · have HN := Lib.hid (rise_in HR2.out HM.out HQ.out hq)
            go_wp2
            go_roundw
            case rel => first | exact ⟨j + 1, q, by omega, by go_num, rfl, HN, HB2⟩ | (repeat (first | (refine ⟨?relx, rfl⟩; exact ⟨j + 1, q, by omega, by go_num, rfl, HN, HB2⟩) | (refine ⟨?relx, ?eqs⟩; (case eqs => (and_intros <;> rfl)); exact ⟨j + 1, q, by omega, by go_num, rfl, HN, HB2⟩) | apply Exists.intro))
            case measure => simp [intOf]; omega
        · obtain rfl : j = S.length := by omega
          have HN := Lib.hid (rise_next HR2.out HM.out (by rw [HSQ.out, List.length_map]; exact Nat.le_refl _))
          have HS9 := Lib.hid (HS7.out.go HB2.out)
          have hjl : ¬ (S.length : Int) < (S.length : Int) := by omega
          go_wp2
          go_roundw
          case rel => first | exact ⟨i + 1, l', by omega, by go_num, rfl, HN, HS9⟩ | (repeat (first | (refine ⟨?relx, rfl⟩; exact ⟨i + 1, l', by omega, by go_num, rfl, HN, HS9⟩) | (refine ⟨?relx, ?eqs⟩; (case eqs => (and_intros <;> rfl)); exact ⟨i + 1, l', by omega, by go_num, rfl, HN, HS9⟩) | apply Exists.intro))
          case measure => simp [intOf]; omega
    · obtain rfl : i = L.length := by omega
      have HE := Lib.hid (rise_end HR.out (Nat.le_refl _))
      go_wp2
      go_ret
      exact ⟨by rw [HRB.out, HE.out]; rfl, HS.out.vd.from_⟩
end Go.Proofs.YticnhfflppkpoaaGreatDoor

namespace Go.Proofs.YticnhfflppkpoaaGreatDoor
set_option linter.unusedVariables false
set_option linter.unusedSimpArgs false
open Go.RowKit
attribute [local go_sem] bs_size List.length_cons List.length_nil List.length_append

theorem plUni (fs : List FiD) (m : Nat) (t : ByteArray) (h : (fileB fs (segNm (m : Int))).getD ⟨#[]⟩ = t) : ∃ (f : Nat) (ok : Bool), ∀ (w : World) (e : Ending) (w' : World), PlPost w (segPl (m : Int) t) e w' → ∃ v, e = .returned (.tuple #[.int .i64 (f : Int), v, .bool ok]) ∧ PlOwn w' w.heap.size v (batsAt fs m) ∧ Below w.heap.size w w' := by
  unfold batsAt
  rw [h]
  cases hs : segPl (m : Int) t with
  | none => exact ⟨0, false, fun w e w' hp => ⟨_, hp.2, ListC.nil _ _, hp.1⟩⟩
  | some p =>
    obtain ⟨f, l, pls⟩ := p
    exact ⟨f, true, fun w e w' hp => by obtain ⟨hb, v, he, ho⟩ := hp; exact ⟨v, he, ho, hb⟩⟩
set_option maxHeartbeats 8000000 in
set_option maxRecDepth 100000 in
theorem impl_SeqsRise_calls (A : Option Addr) (c : Nat) (fs : List FiD) (w : World) (h : FiRow w A c fs) (hP : Pow w) (hE : Sent w) :
    Calls Tryz.prog 8 #[.agg #[.slice A fs.length c]] w fun e w' => e = .returned (.bool (riseB fs)) ∧ Below w.heap.size w w' := by
  have HF := Lib.hid h
  have HPW := Lib.hid hP
  have HV := Lib.hid (vd_start w A fs.length c)
  have p0 := HV.out.cell
  have hw5 : (W5 w A fs.length c).heap.size = w.heap.size + 1 := by simp
  have HDS : Hid (∀ i n, (segsB fs)[i]? = some n → diskOkB fs = true ∧ n ≤ 99) := fun i n hi => segs_disk hi
  have hsl := segs_len fs
  have HRB : Hid (riseB fs = riseL (segsB fs) (seqsAt fs)) := rfl
  have HFW := Lib.hid (HF.out.below HV.out.from_)
  have HSP := Lib.hid (impl_Segments_calls A c fs _ HFW.out (HPW.out.below HV.out.from_) (sentB hE HV.out.from_))
  unfold SegsPost at HSP
  rw [hw5] at HSP
  generalize segsB fs = L at HDS hsl HRB HSP
  clear h hw5 hP hE
  go_enter Tryz.func8, Tryz.ntmps8
  go_wp2_with fail
  go_at_call 20
  refine HSP.out.mono ?_
  rintro e w1 ⟨v1, rfl, ho1, hb1⟩
  obtain ⟨A1, c1, hv1⟩ := ho1.form
  rw [List.length_map] at hv1
  subst hv1
  have HS1 : Hid (SR w A fs.length c (.slice A1 L.length c1) (L.map Int.ofNat) w1) := ⟨HV.out.go (hb1.mono (by simp)), ho1⟩
  clear ho1 hb1 p0 HSP
  go_wp2
  go_loopw [5, 22] (fun lv iv wr => ∃ (i : Nat) (l : Int), i ≤ L.length ∧ iv = .int .i64 (i : Int) ∧ lv = .int .i64 l ∧ Hid (RiseAt L (seqsAt fs) i 0 l) ∧ Hid (SR w A fs.length c (.slice A1 L.length c1) (L.map Int.ofNat) wr)) (fun _ iv _ => L.length - (intOf iv).toNat)
  case atStart => exact ⟨0, -1, Nat.zero_le _, rfl, rfl, rise_start _ _, HS1⟩
  case round =>
    obtain ⟨i, l, hi, rfl, rfl, HR, HS⟩ := hrel
    by_cases hlt : i < L.length
    · obtain ⟨m, hm⟩ : ∃ m, L[i]? = some m := ⟨_, List.getElem?_eq_getElem hlt⟩
      have hdm := HDS.out i m hm
      obtain ⟨b1, hA1, hc1⟩ := HS.out.row.at_ (j := i) (x := (m : Int)) (by rw [List.getElem?_map, hm]; rfl)
      subst hA1
      have HM := Lib.hid hm
      have HDK := Lib.hid hdm.1
      have HSD := Lib.hid (HS.out.go (Below.drew (Below.refl _ _)))
      have HPP := Lib.hid (HPW.out.below HSD.out.vd.from_)
      obtain ⟨t, ht⟩ : ∃ t, (fileB fs (segNm (m : Int))).getD ⟨#[]⟩ = t := ⟨_, rfl⟩
      have hts : t.size ≤ 20000 := by rw [← ht]; exact get_small hdm.1
      obtain ⟨f, okp, hpl⟩ := plUni fs m t ht
      have HPL := Lib.hid hpl
      have hres := fiRes_get (fileB fs (segNm (m : Int)))
      rw [ht] at hres
      generalize (fileB fs (segNm (m : Int))).isSome = ob at hres
      have HRES := Lib.hid hres
      have hbl := bats_len fs m
      have HSQ : Hid (seqsAt fs m = (batsAt fs m).map fun p => p.1.1) := rfl
      generalize batsAt fs m = S at hbl HSQ HPL
      clear hm hdm ht hpl hres
      go_wp2_with fail
      go_region_held3 (fun w' => w'.cell? ⟨w.heap.size, 0, none⟩ = some (.slice A fs.length c) ∧ Hid (SR w A fs.length c (.slice (some ⟨b1, 0, none⟩) L.length c1) (L.map Int.ofNat) w')) (first | exact ⟨HSD.out.vd.cell, HSD.out⟩ | exact ⟨(HSD.out.go (by assumption)).vd.cell, HSD.out.go (by assumption)⟩ | exact ⟨((HSD.out.go (by assumption)).go (by assumption)).vd.cell, (HSD.out.go (by assumption)).go (by assumption)⟩) (first | (go_at_call 22; refine (impl_SegNm_calls (m : Int) _ HPP.out).mono ?_; rintro e w' ⟨rfl, hb⟩) | (go_at_call 21; refine (impl_FileAt_calls (segNm (m : Int)) A c fs _ (HF.out.below (HSD.out.go (by assumption)).vd.from_)).mono ?_; rw [HRES.out]; rintro e w'' ⟨rfl, hb⟩))
      have HS7 := (‹_ ∧ Hid (SR w A fs.length c (.slice (some ⟨b1, 0, none⟩) L.length c1) (L.map Int.ofNat) _)›).2
      go_wp2_with fail
      go_at_call 23
      refine (impl_placedIn_calls (m : Int) t _ (by omega)).mono ?_
      rintro e w8 hp
      obtain ⟨v8, rfl, ho8, hb8⟩ := HPL.out _ _ _ hp
      obtain ⟨A8, c8, hv8⟩ := ListC.form ho8
      subst hv8
      have HO8 := Lib.hid ho8
      have HS8 := Lib.hid (HS7.out.go hb8)
      clear hp ho8 hb8
      go_wp2
      go_loopw [5, 42] (fun lv kv wr2 => ∃ (j : Nat) (l' : Int), j ≤ S.length ∧ kv = .int .i64 (j : Int) ∧ lv = .int .i64 l' ∧ Hid (RiseAt L (seqsAt fs) i j l') ∧ Hid (Below w8.heap.size w8 wr2)) (fun _ kv _ => S.length - (intOf kv).toNat)
      case atStart => exact ⟨0, l, Nat.zero_le _, rfl, rfl, HR, Below.refl _ _⟩
      case round =>
        obtain ⟨j, l', hj, rfl, rfl, HR2, HB2⟩ := hrel
        by_cases hlt2 : j < S.length
        · obtain ⟨⟨⟨q, cs⟩, a, z⟩, hp⟩ : ∃ p, S[j]? = some p := ⟨_, List.getElem?_eq_getElem hlt2⟩
          obtain ⟨g, u, hA8, hcc, hu, hsm⟩ := ListC.at_ (ListC.below HO8.out HB2.out) (fun _ => rfl) hp
          subst hA8
          obtain ⟨Au, cu, hform, _⟩ := hu.row hsm
          dsimp only at hform
          subst hform
          have k0 := hcc 0 (by omega)
          have k1 := hcc 1 (by omega)
          have k2 := hcc 2 (by omega)
          have k3 := hcc 3 (by omega)
          simp only [plVals, Nat.add_zero, List.getElem?_cons_zero, List.getElem?_cons_succ] at k0 k1 k2 k3
          have HQ : Hid ((seqsAt fs m)[j]? = some q) := by rw [Hid, HSQ.out, List.getElem?_map, hp]; rfl
          have HB3 := Lib.hid (HB2.out.alloc HB2.out.size (.cells #[.int .i64 q, .slice Au cs.length cu, .int .i64 (a : Int), .int .i64 (z : Int)] 56))
          have hjl : (j : Int) < (S.length : Int) := by omega
          clear hp hcc hu hsm
          by_cases hq : q ≤ l'
          · have HE := Lib.hid (rise_bad HR2.out HM.out HQ.out hq)
            have HF9 := Lib.hid (HS8.out.vd.go HB3.out).from_
            go_wp2
            go_ret
            exact ⟨by rw [HRB.out, HE.out]; rfl, HF9.out⟩
          · have HN := Lib.hid (rise_in HR2.out HM.out HQ.out hq)
            go_wp2
            go_roundw
            case rel => first | exact ⟨j + 1, q, by omega, by go_num, rfl, HN, HB3⟩ | (repeat (first | (refine ⟨?relx, rfl⟩; exact ⟨j + 1, q, by omega, by go_num, rfl, HN, HB3⟩) | (refine ⟨?relx, ?eqs⟩; (case eqs => (and_intros <;> rfl)); exact ⟨j + 1, q, by omega, by go_num, rfl, HN, HB3⟩) | apply Exists.intro))
            case measure => simp [intOf]; omega
        · obtain rfl : j = S.length := by omega
          have HN := Lib.hid (rise_next HR2.out HM.out (by rw [HSQ.out, List.length_map]; exact Nat.le_refl _))
          have HS9 := Lib.hid (HS8.out.go HB2.out)
          go_wp2
          go_roundw
          case rel => first | exact ⟨i + 1, l', by omega, by go_num, rfl, HN, HS9⟩ | (repeat (first | (refine ⟨?relx, rfl⟩; exact ⟨i + 1, l', by omega, by go_num, rfl, HN, HS9⟩) | (refine ⟨?relx, ?eqs⟩; (case eqs => (and_intros <;> rfl)); exact ⟨i + 1, l', by omega, by go_num, rfl, HN, HS9⟩) | apply Exists.intro))
          case measure => simp [intOf]; omega
    · obtain rfl : i = L.length := by omega
      have HE := Lib.hid (rise_end HR.out (Nat.le_refl _))
      go_wp2
      go_ret
      exact ⟨by rw [HRB.out, HE.out]; rfl, HS.out.vd.from_⟩
end Go.Proofs.YticnhfflppkpoaaGreatDoor

namespace Go.Proofs.YticnhfflppkpoaaGreatDoor
set_option linter.unusedVariables false
set_option linter.unusedSimpArgs false
open Go.RowKit

/-- A spot: its key, segment, place, sequence number. -/
abbrev SpotD := ByteArray × Int × Int × Int
def spBytes (x : SpotD) : List UInt8 := shortB (ub x.1) ++ (varBytes x.2.1.toNat ++ (varBytes x.2.2.1.toNat ++ varBytes x.2.2.2.toNat))
def spsBytes (ds : List SpotD) : List UInt8 := (ds.map spBytes).flatten
def spOkB (x : SpotD) : Bool := inR (x.1.size : Int) 1 20 && inR x.2.1 0 99 && inR x.2.2.1 0 20000 && inR x.2.2.2 0 1000000000
/-- The spot at i, and its key against the one ahead of it. -/
def spAt (ds : List SpotD) (i : Nat) : Bool := match ds[i]? with
  | none => true
  | some x => spOkB x && (match i with
    | 0 => true
    | j + 1 => match ds[j]? with
      | none => true
      | some p => Op.bytesLess p.1.toList x.1.toList)
def dirOkB (ds : List SpotD) : Bool := ((List.range ds.length).all fun i => spAt ds i) && decide (ds.length ≤ 200)
def hintInner (ds : List SpotD) : List UInt8 := varBytes ds.length ++ spsBytes ds
def hintText (ds : List SpotD) : Option (List UInt8) := if dirOkB ds = true then some (hintInner ds ++ sum4 (hintInner ds)) else none
def IsHint (s : ByteArray) (ds : List SpotD) : Prop := hintText ds = some (ub s)
theorem isHint_parts {s : ByteArray} {ds : List SpotD} (h : IsHint s ds) : dirOkB ds = true ∧ ub s = hintInner ds ++ sum4 (hintInner ds) := by
  unfold IsHint hintText at h
  split at h
  · rename_i hc
    exact ⟨hc, (Option.some.inj h).symm⟩
  · cases h
theorem inR_iff {n lo hi : Int} : inR n lo hi = true ↔ lo ≤ n ∧ n ≤ hi := by
  unfold inR
  simp [Bool.and_eq_true]
theorem spOk_parts {x : SpotD} (h : spOkB x = true) : (1 ≤ x.1.size ∧ x.1.size ≤ 20) ∧ (0 ≤ x.2.1 ∧ x.2.1 ≤ 99) ∧ (0 ≤ x.2.2.1 ∧ x.2.2.1 ≤ 20000) ∧ (0 ≤ x.2.2.2 ∧ x.2.2.2 ≤ 1000000000) := by
  unfold spOkB at h
  simp only [Bool.and_eq_true, inR_iff] at h
  obtain ⟨⟨⟨h1, h2⟩, h3⟩, h4⟩ := h
  exact ⟨by omega, h2, h3, h4⟩
theorem dirOk_parts {ds : List SpotD} (h : dirOkB ds = true) : ds.length ≤ 200 ∧ ∀ x ∈ ds, spOkB x = true := by
  unfold dirOkB at h
  simp only [Bool.and_eq_true, decide_eq_true_eq] at h
  refine ⟨h.2, fun x hx => ?_⟩
  obtain ⟨i, hi, e⟩ := List.mem_iff_getElem.1 hx
  have h1 := List.all_eq_true.1 h.1 i (List.mem_range.2 hi)
  unfold spAt at h1
  rw [List.getElem?_eq_getElem hi, e] at h1
  simp only [Bool.and_eq_true] at h1
  exact h1.1
theorem spBytes_len {x : SpotD} (h : spOkB x = true) : (spBytes x).length ≤ 60 := by
  obtain ⟨h1, h2, h3, h4⟩ := spOk_parts h
  have q1 := shortB_len x.1 (by omega)
  have q2 := varBytes_length 8 x.2.1.toNat (by omega)
  have q3 := varBytes_length 8 x.2.2.1.toNat (by omega)
  have q4 := varBytes_length 8 x.2.2.2.toNat (by omega)
  unfold spBytes
  simp only [List.length_append]
  omega
theorem spsBytes_len : ∀ (ds : List SpotD), (∀ x ∈ ds, spOkB x = true) → (spsBytes ds).length ≤ 60 * ds.length
  | [], _ => by simp [spsBytes]
  | x :: ds, h => by
    have h1 := spBytes_len (h x (by simp))
    have h2 := spsBytes_len ds fun y hy => h y (by simp [hy])
    have e : spsBytes (x :: ds) = spBytes x ++ spsBytes ds := by simp [spsBytes]
    rw [e, List.length_append, List.length_cons]
    omega
theorem hintInner_len {ds : List SpotD} (h : dirOkB ds = true) : (hintInner ds).length ≤ 12009 := by
  obtain ⟨h1, h2⟩ := dirOk_parts h
  have q := varBytes_length 8 ds.length (by omega)
  have q2 := spsBytes_len ds h2
  unfold hintInner
  rw [List.length_append]
  omega
theorem unsealed_hint {s : ByteArray} {ds : List SpotD} (h : IsHint s ds) : unsealed (ub s) = some (hintInner ds) ∧ s.size ≤ 12013 := by
  obtain ⟨h1, h2⟩ := isHint_parts h
  have hl := hintInner_len h1
  have hn : (ub s).length = (hintInner ds).length + 4 := by rw [h2, List.length_append, sum4_len]
  have e : (ub s).length - 4 = (hintInner ds).length := by omega
  have ht : (ub s).take ((ub s).length - 4) = hintInner ds := by rw [e, h2, List.take_left' rfl]
  have hd : (ub s).drop ((ub s).length - 4) = sum4 (hintInner ds) := by rw [e, h2, List.drop_left' rfl]
  refine ⟨?_, by rw [← ub_length]; omega⟩
  unfold unsealed
  rw [ht, hd, if_pos ⟨by omega, by omega, rfl⟩]
theorem unsealed_took {l t : List UInt8} (h : unsealed l = some t) : l = t ++ sum4 t := by
  unfold unsealed at h
  split at h
  · rename_i hc
    have e := Option.some.inj h
    rw [← e, ← hc.2.2, List.take_append_drop]
  · cases h
/-! ### The program's reading -/
def htK (s : ByteArray) (a : Nat) (b : Bool) : List UInt8 × Nat × Bool := rText s a b
def htS (s : ByteArray) (a : Nat) (b : Bool) : Nat × Nat × Bool := rNum s (htK s a b).2.1 (htK s a b).2.2
def htA (s : ByteArray) (a : Nat) (b : Bool) : Nat × Nat × Bool := rNum s (htS s a b).2.1 (htS s a b).2.2
def htQ (s : ByteArray) (a : Nat) (b : Bool) : Nat × Nat × Bool := rNum s (htA s a b).2.1 (htA s a b).2.2
def spI (s : ByteArray) (a : Nat) : SpotD × Nat × Bool := ((bs (htK s a false).1, ((htS s a false).1 : Int), ((htA s a false).1 : Int), ((htQ s a false).1 : Int)), (htQ s a false).2)
def hiN (t : ByteArray) : Nat × Nat × Bool := rNum t 0 false
def hiX (t : ByteArray) : List SpotD × Nat × Bool := itemsBy (spI t) (hiN t).1 (hiN t).2.1 (hiN t).2.2
def readHintI (s : ByteArray) : Option (List SpotD) := match unsealed (ub s) with
  | none => none
  | some t => if s.size ≤ 20000 ∧ rDone (bs t) (hiX (bs t)).2.1 (hiX (bs t)).2.2 = true ∧ dirOkB (hiX (bs t)).1 = true then some (hiX (bs t)).1 else none
/-! ### The reference's reading -/
def hsK (s : ByteArray) (a : Nat) (b : Bool) : List UInt8 × Nat × Bool := cShort s a b
def hsS (s : ByteArray) (a : Nat) (b : Bool) : Nat × Nat × Bool := rNum s (hsK s a b).2.1 (hsK s a b).2.2
def hsA (s : ByteArray) (a : Nat) (b : Bool) : Nat × Nat × Bool := rNum s (hsS s a b).2.1 (hsS s a b).2.2
def hsQ (s : ByteArray) (a : Nat) (b : Bool) : Nat × Nat × Bool := rNum s (hsA s a b).2.1 (hsA s a b).2.2
def spS (s : ByteArray) (a : Nat) : SpotD × Nat × Bool := ((bs (hsK s a false).1, ((hsS s a false).1 : Int), ((hsA s a false).1 : Int), ((hsQ s a false).1 : Int)), (hsQ s a false).2)
/-- The text under the seal, and whether there is none. -/
def hsT (s : ByteArray) : ByteArray × Bool := match unsealed (ub s) with
  | some t => (bs t, false)
  | none => (⟨#[]⟩, true)
def hsN (s : ByteArray) : Nat × Nat × Bool := rNum (hsT s).1 0 (hsT s).2
def hsX (s : ByteArray) : List SpotD × Nat × Bool := itemsBy (spS (hsT s).1) (min (hsN s).1 300) (hsN s).2.1 (hsN s).2.2
def readHintS (s : ByteArray) : Option (List SpotD) := if (hsX s).2.2 = false ∧ hintText (hsX s).1 = some (ub s) then some (hsX s).1 else none

theorem spI_put {s : ByteArray} (a : Nat) (x : SpotD) (l : List UInt8) (_ : a ≤ s.size) (hx : spOkB x = true) (h : tail_ s a = spBytes x ++ l) : spI s a = (x, a + (spBytes x).length, false) := by
  obtain ⟨h1, h2, h3, h4⟩ := spOk_parts hx
  obtain ⟨k, g, p, q⟩ := x
  dsimp only at h1 h2 h3 h4
  obtain ⟨g, rfl⟩ := Int.eq_ofNat_of_zero_le h2.1
  obtain ⟨p, rfl⟩ := Int.eq_ofNat_of_zero_le h3.1
  obtain ⟨q, rfl⟩ := Int.eq_ofNat_of_zero_le h4.1
  have h0 : tail_ s a = shortB (ub k) ++ (varBytes g ++ (varBytes p ++ (varBytes q ++ l))) := by rw [h]; simp [spBytes, List.append_assoc]
  have e1 : htK s a false = (ub k, a + (shortB (ub k)).length, false) := rText_put (by rw [ub_length]; omega) h0
  have l1 := tail_le ‹_› h0
  have e2 : htS s a false = (g, a + (shortB (ub k)).length + (varBytes g).length, false) := by
    unfold htS
    rw [e1]
    exact rNum_put (by omega) l1.2
  have l2 := tail_le l1.1 l1.2
  have e3 : htA s a false = (p, a + (shortB (ub k)).length + (varBytes g).length + (varBytes p).length, false) := by
    unfold htA
    rw [e2]
    exact rNum_put (by omega) l2.2
  have l3 := tail_le l2.1 l2.2
  have e4 : htQ s a false = (q, a + (shortB (ub k)).length + (varBytes g).length + (varBytes p).length + (varBytes q).length, false) := by
    unfold htQ
    rw [e3]
    exact rNum_put (by omega) l3.2
  unfold spI
  rw [e1, e2, e3, e4, bs_ub]
  simp [spBytes]
  omega
theorem spS_put {s : ByteArray} (a : Nat) (x : SpotD) (l : List UInt8) (ha : a ≤ s.size) (hx : spOkB x = true) (h : tail_ s a = spBytes x ++ l) : spS s a = (x, a + (spBytes x).length, false) := by
  obtain ⟨h1, h2, h3, h4⟩ := spOk_parts hx
  obtain ⟨k, g, p, q⟩ := x
  dsimp only at h1 h2 h3 h4
  obtain ⟨g, rfl⟩ := Int.eq_ofNat_of_zero_le h2.1
  obtain ⟨p, rfl⟩ := Int.eq_ofNat_of_zero_le h3.1
  obtain ⟨q, rfl⟩ := Int.eq_ofNat_of_zero_le h4.1
  have h0 : tail_ s a = shortB (ub k) ++ (varBytes g ++ (varBytes p ++ (varBytes q ++ l))) := by rw [h]; simp [spBytes, List.append_assoc]
  have e1 : hsK s a false = (ub k, a + (shortB (ub k)).length, false) := cShort_put ha (by rw [ub_length]; omega) h0
  have l1 := tail_le ‹_› h0
  have e2 : hsS s a false = (g, a + (shortB (ub k)).length + (varBytes g).length, false) := by
    unfold hsS
    rw [e1]
    exact rNum_put (by omega) l1.2
  have l2 := tail_le l1.1 l1.2
  have e3 : hsA s a false = (p, a + (shortB (ub k)).length + (varBytes g).length + (varBytes p).length, false) := by
    unfold hsA
    rw [e2]
    exact rNum_put (by omega) l2.2
  have l3 := tail_le l2.1 l2.2
  have e4 : hsQ s a false = (q, a + (shortB (ub k)).length + (varBytes g).length + (varBytes p).length + (varBytes q).length, false) := by
    unfold hsQ
    rw [e3]
    exact rNum_put (by omega) l3.2
  unfold spS
  rw [e1, e2, e3, e4, bs_ub]
  simp [spBytes]
  omega
theorem spI_took {s : ByteArray} (a : Nat) (x : SpotD) (a' : Nat) (ha : a ≤ s.size) (h : spI s a = (x, a', false)) : Took s a (spBytes x) a' := by
  unfold spI at h
  simp only [Prod.mk.injEq] at h
  obtain ⟨rfl, h2⟩ := h
  have a1 : (htK s a false).2.1 ≤ s.size := (rText_le s _ ha).1
  have a2 : (htS s a false).2.1 ≤ s.size := (rNum_le s _ _ a1).2.1
  have a3 : (htA s a false).2.1 ≤ s.size := (rNum_le s _ _ a2).2.1
  obtain ⟨b3, _, t4⟩ := rNum_took a3 (n := (htQ s a false).1) (a' := a') (b := (htA s a false).2.2) (Prod.ext rfl h2)
  obtain ⟨b2, _, t3⟩ := rNum_took a2 (n := (htA s a false).1) (a' := (htA s a false).2.1) (b := (htS s a false).2.2) (Prod.ext rfl (Prod.ext rfl b3))
  obtain ⟨b1, _, t2⟩ := rNum_took a1 (n := (htS s a false).1) (a' := (htS s a false).2.1) (b := (htK s a false).2.2) (Prod.ext rfl (Prod.ext rfl b2))
  obtain ⟨_, _, t1⟩ := rText_took ha (x := (htK s a false).1) (a' := (htK s a false).2.1) (b := false) (Prod.ext rfl (Prod.ext rfl b1))
  have := ((t1.trans t2).trans t3).trans t4
  rw [List.append_assoc, List.append_assoc] at this
  unfold spBytes
  rw [ub_bs]
  exact this
theorem readHintI_put {s : ByteArray} {ds : List SpotD} (h : IsHint s ds) : readHintI s = some ds := by
  obtain ⟨hu, hsz⟩ := unsealed_hint h
  obtain ⟨hok, _⟩ := isHint_parts h
  obtain ⟨hn, hx⟩ := dirOk_parts hok
  have h0 : tail_ (bs (hintInner ds)) 0 = varBytes ds.length ++ (spsBytes ds ++ []) := by rw [tail_zero, ub_bs, hintInner, List.append_nil]
  have e1 : hiN (bs (hintInner ds)) = (ds.length, 0 + (varBytes ds.length).length, false) := rNum_put (by omega) h0
  have l1 := tail_le (Nat.zero_le _) h0
  have e2 : hiX (bs (hintInner ds)) = (ds, 0 + (varBytes ds.length).length + (spsBytes ds).length, false) := by
    unfold hiX
    rw [e1]
    exact itemsBy_put (f := spI (bs (hintInner ds))) (enc := spBytes) (good := fun x => spOkB x = true) (fun a x l ha hg hh => spI_put a x l ha hg hh) ds _ [] l1.1 hx l1.2
  have l2 := tail_le l1.1 l1.2
  have hend := (tail_nil l2.1).1 l2.2
  unfold readHintI
  rw [hu]
  dsimp only
  rw [e2, if_pos ⟨by omega, by rw [hend]; simp [rDone], hok⟩]
theorem hsT_put {s : ByteArray} {ds : List SpotD} (h : IsHint s ds) : hsT s = (bs (hintInner ds), false) := by
  unfold hsT
  rw [(unsealed_hint h).1]
theorem readHintS_put {s : ByteArray} {ds : List SpotD} (h : IsHint s ds) : readHintS s = some ds := by
  obtain ⟨hok, _⟩ := isHint_parts h
  obtain ⟨hn, hx⟩ := dirOk_parts hok
  have h0 : tail_ (bs (hintInner ds)) 0 = varBytes ds.length ++ (spsBytes ds ++ []) := by rw [tail_zero, ub_bs, hintInner, List.append_nil]
  have e1 : hsN s = (ds.length, 0 + (varBytes ds.length).length, false) := by
    unfold hsN
    rw [hsT_put h]
    exact rNum_put (by omega) h0
  have l1 := tail_le (Nat.zero_le _) h0
  have e2 : hsX s = (ds, 0 + (varBytes ds.length).length + (spsBytes ds).length, false) := by
    unfold hsX
    rw [e1, hsT_put h, show min ds.length 300 = ds.length by omega]
    exact itemsBy_put (f := spS (bs (hintInner ds))) (enc := spBytes) (good := fun x => spOkB x = true) (fun a x l ha hg hh => spS_put a x l ha hg hh) ds _ [] l1.1 hx l1.2
  unfold readHintS
  rw [e2, if_pos ⟨rfl, h⟩]
theorem readHintS_is {s : ByteArray} {ds : List SpotD} (h : readHintS s = some ds) : IsHint s ds := by
  unfold readHintS at h
  split at h
  · rename_i hc
    obtain rfl := Option.some.inj h
    exact hc.2
  · cases h
theorem readHintI_is {s : ByteArray} {ds : List SpotD} (h : readHintI s = some ds) : IsHint s ds := by
  unfold readHintI at h
  split at h
  · cases h
  · rename_i t ht
    split at h
    · rename_i hc
      obtain rfl := Option.some.inj h
      obtain ⟨_, hd, hok⟩ := hc
      simp only [rDone, Bool.and_eq_true, Bool.not_eq_true', decide_eq_true_eq] at hd
      obtain ⟨hb, hend⟩ := hd
      have a1 : (hiN (bs t)).2.1 ≤ (bs t).size := (rNum_le (bs t) 0 false (Nat.zero_le _)).2.1
      obtain ⟨b1, hlen, t2⟩ := itemsBy_took (f := spI (bs t)) (enc := spBytes) (fun a x a' ha hh => spI_took a x a' ha hh) (hiN (bs t)).1 (hiN (bs t)).2.1 (hiN (bs t)).2.2 (hiX (bs t)).1 (hiX (bs t)).2.1 a1 (Prod.ext rfl (Prod.ext rfl hb))
      obtain ⟨_, _, t1⟩ := rNum_took (s := bs t) (a := 0) (Nat.zero_le _) (n := (hiN (bs t)).1) (a' := (hiN (bs t)).2.1) (b := false) (Prod.ext rfl (Prod.ext rfl b1))
      have := (t1.trans t2).2
      rw [tail_zero, ub_bs, (tail_nil t2.1).2 hend, List.append_nil] at this
      have hin : hintInner (hiX (bs t)).1 = t := by rw [hintInner, hlen]; exact this.symm
      unfold IsHint hintText
      rw [if_pos hok, hin, ← unsealed_took ht]
    · cases h
theorem readHint_same (s : ByteArray) : readHintI s = readHintS s := by
  cases h : readHintS s with
  | some d => exact readHintI_put (readHintS_is h)
  | none =>
    cases h2 : readHintI s with
    | none => rfl
    | some d => rw [readHintS_put (readHintI_is h2)] at h; cases h
end Go.Proofs.YticnhfflppkpoaaGreatDoor

namespace Go.Proofs.YticnhfflppkpoaaGreatDoor
set_option linter.unusedVariables false
set_option linter.unusedSimpArgs false
open Go.RowKit
attribute [local go_sem] bs_size List.length_cons List.length_nil List.length_append

def spVals (x : SpotD) : List Value := [.string x.1, .int .i64 x.2.1, .int .i64 x.2.2.1, .int .i64 x.2.2.2]
def spFlat (ds : List SpotD) : List Value := (ds.map spVals).flatten
theorem spFlat_len (ds : List SpotD) : (spFlat ds).length = ds.length * 4 := flat_len (f := spVals) (m := 4) (fun _ => rfl) ds
theorem spFlat_snoc (ds : List SpotD) (x : SpotD) : spFlat (ds ++ [x]) = spFlat ds ++ spVals x := by simp [spFlat]
/-- A slice's value reads as these spots. -/
def SpRow (w : World) (A : Option Addr) (c : Nat) (ds : List SpotD) : Prop :=
  ds.length ≤ c ∧ c ≤ 9223372036854775807 ∧ (∀ x ∈ ds, x.1.size ≤ 9223372036854775807) ∧
  (0 < ds.length → ∃ ad : Addr, A = some ad ∧ ad.block < w.heap.size ∧ ∀ j x, ds[j]? = some x → w.cell? (ad.add (j * 4)) = some (.string x.1) ∧ w.cell? ⟨(ad.add (j * 4)).block, (ad.add (j * 4)).off + 1, none⟩ = some (.int .i64 x.2.1) ∧ w.cell? ⟨(ad.add (j * 4)).block, (ad.add (j * 4)).off + 2, none⟩ = some (.int .i64 x.2.2.1) ∧ w.cell? ⟨(ad.add (j * 4)).block, (ad.add (j * 4)).off + 3, none⟩ = some (.int .i64 x.2.2.2))
theorem SpRow.below {w w' : World} {A : Option Addr} {c : Nat} {ds : List SpotD} (h : SpRow w A c ds) (hb : Below w.heap.size w w') : SpRow w' A c ds :=
  ⟨h.1, h.2.1, h.2.2.1, fun hp => by
    obtain ⟨ad, e, hl, hc⟩ := h.2.2.2 hp
    refine ⟨ad, e, Nat.lt_of_lt_of_le hl hb.size, fun j x hx => ?_⟩
    obtain ⟨h0, h1, h2, h3⟩ := hc j x hx
    have q : (ad.add (j * 4)).block < w.heap.size := by rw [add_block]; exact hl
    exact ⟨(hb.cell q).trans h0, (hb.cell (by show (ad.add (j * 4)).block < _; exact q)).trans h1, (hb.cell (by show (ad.add (j * 4)).block < _; exact q)).trans h2, (hb.cell (by show (ad.add (j * 4)).block < _; exact q)).trans h3⟩⟩
theorem SpRow.len {w : World} {A : Option Addr} {c : Nat} {ds : List SpotD} (h : SpRow w A c ds) : ds.length ≤ 9223372036854775807 := Nat.le_trans h.1 h.2.1
theorem SpRow.at_ {w : World} {A : Option Addr} {c : Nat} {ds : List SpotD} (h : SpRow w A c ds) {k : Nat} (hk : k < ds.length) :
    ∃ (ad : Addr) (x : SpotD), A = some ad ∧ Hid (ds[k]? = some x) ∧ x.1.size ≤ 9223372036854775807 ∧ w.cell? (ad.add (k * 4)) = some (.string x.1) ∧ w.cell? ⟨(ad.add (k * 4)).block, (ad.add (k * 4)).off + 1, none⟩ = some (.int .i64 x.2.1) ∧ w.cell? ⟨(ad.add (k * 4)).block, (ad.add (k * 4)).off + 2, none⟩ = some (.int .i64 x.2.2.1) ∧ w.cell? ⟨(ad.add (k * 4)).block, (ad.add (k * 4)).off + 3, none⟩ = some (.int .i64 x.2.2.2) := by
  obtain ⟨ad, e, _, hc⟩ := h.2.2.2 (by omega)
  have hx : ds[k]? = some ds[k] := List.getElem?_eq_getElem hk
  exact ⟨ad, _, e, hx, h.2.2.1 _ (List.mem_of_getElem? hx), hc k _ hx⟩
theorem spAt_bad {ds : List SpotD} {i : Nat} {x : SpotD} (h : ds[i]? = some x) (hx : spOkB x = false) : spAt ds i = false := by
  unfold spAt
  rw [h]
  simp [hx]
theorem spAt_zero {ds : List SpotD} {x : SpotD} (h : ds[0]? = some x) (hx : spOkB x = true) : spAt ds 0 = true := by
  unfold spAt
  rw [h]
  simp [hx]
theorem spAt_succ {ds : List SpotD} {j : Nat} {x p : SpotD} (h : ds[j + 1]? = some x) (hp : ds[j]? = some p) (hx : spOkB x = true) : spAt ds (j + 1) = Op.bytesLess p.1.toList x.1.toList := by
  unfold spAt
  rw [h]
  simp [hx, hp]
theorem spAt_prev {ds : List SpotD} {j : Nat} {x p : SpotD} (h : ds[j + 1]? = some x) (hp : ds[j]? = some p) (hl : Op.bytesLess p.1.toList x.1.toList = false) : spAt ds (j + 1) = false := by
  unfold spAt
  rw [h]
  simp [hp, hl]
theorem dirOk_bad {ds : List SpotD} {i : Nat} (hi : i < ds.length) (h : spAt ds i = false) : dirOkB ds = false := by
  unfold dirOkB
  rw [List.all_eq_false.2 ⟨i, List.mem_range.2 hi, by simp [h]⟩]
  rfl
theorem dirOk_all {ds : List SpotD} (h : ∀ j, j < ds.length → spAt ds j = true) : dirOkB ds = decide (ds.length ≤ 200) := by
  unfold dirOkB
  rw [List.all_eq_true.2 fun i hi => h i (List.mem_range.1 hi)]
  simp
theorem spOk_1 {x : SpotD} (h : inR (x.1.size : Int) 1 20 = false) : spOkB x = false := by unfold spOkB; rw [h]; rfl
theorem spOk_2 {x : SpotD} (h : inR x.2.1 0 99 = false) : spOkB x = false := by unfold spOkB; rw [h]; simp
theorem spOk_3 {x : SpotD} (h : inR x.2.2.1 0 20000 = false) : spOkB x = false := by unfold spOkB; rw [h]; simp
theorem spOk_4 {x : SpotD} (h : inR x.2.2.2 0 1000000000 = false) : spOkB x = false := by unfold spOkB; rw [h]; simp
theorem spOk_yes {x : SpotD} (h1 : inR (x.1.size : Int) 1 20 = true) (h2 : inR x.2.1 0 99 = true) (h3 : inR x.2.2.1 0 20000 = true) (h4 : inR x.2.2.2 0 1000000000 = true) : spOkB x = true := by unfold spOkB; rw [h1, h2, h3, h4]; rfl
theorem sp_step {ds : List SpotD} {i : Nat} (h : ∀ j, j < i → spAt ds j = true) (hi : spAt ds i = true) : ∀ j, j < i + 1 → spAt ds j = true := by
  intro j hj
  by_cases e : j = i
  · subst e; exact hi
  · exact h j (by omega)
theorem within_sp (n lo hi : Int) (w : World) {b : Bool} (h : inR n lo hi = b) : Calls Tryz.prog 47 #[.int .i64 n, .int .i64 lo, .int .i64 hi] w fun e w' => e = .returned (.bool b) ∧ w' = w := by
  subst h
  exact (impl_within_calls n lo hi w).mono fun e w' ⟨he, hw⟩ => ⟨he, hw.symm⟩
theorem l01In_is (n lo hi : Int) (w : World) {b : Bool} (h : inR n lo hi = b) : Calls Tryz.prog 53 #[.int .i64 n, .int .i64 lo, .int .i64 hi] w fun e w' => e = .returned (.bool b) ∧ w' = w := by
  subst h
  exact (spec_l01In_calls n lo hi w).mono fun e w' ⟨he, hw⟩ => ⟨he, hw.symm⟩
theorem impl_keyOk_at (s : ByteArray) (w : World) (hs : s.size ≤ 9223372036854775807) {b : Bool} (h : inR (s.size : Int) 1 20 = b) : Calls Tryz.prog 136 #[.string s] w fun e w' => e = .returned (.bool b) ∧ w' = w := by
  subst h
  go_enter Tryz.func136, Tryz.ntmps136
  go_wp2_with (go_at_call 47; refine (impl_within_calls _ _ _ _).mono ?_; rintro e w' ⟨rfl, rfl⟩)
  go_ret
  exact ⟨rfl, rfl⟩
end Go.Proofs.YticnhfflppkpoaaGreatDoor

namespace Go.Proofs.YticnhfflppkpoaaGreatDoor
set_option linter.unusedVariables false
set_option linter.unusedSimpArgs false
open Go.RowKit
attribute [local go_sem] bs_size List.length_cons List.length_nil List.length_append

theorem info_sp : (Tryz.prog.info? 65).map (fun i => (i.zero, i.size, i.bytes)) = some (some (.agg #[.string ⟨#[]⟩, .int .i64 0, .int .i64 0, .int .i64 0]), 4, 40) := by kernel_rfl
/-- A row of spots of the call's own, made from block B on. -/
def SpOwn (w : World) (B : Nat) (v : Value) (ds : List SpotD) : Prop := w.ownsRow B 65 4 v ds.length (spFlat ds)
theorem SpOwn.row {w : World} {B : Nat} {v : Value} {ds : List SpotD} (h : SpOwn w B v ds) (hs : ∀ x ∈ ds, x.1.size ≤ 9223372036854775807) : ∃ A c, v = .slice A ds.length c ∧ SpRow w A c ds := by
  rcases own_cells (f := spVals) (m := 4) (fun _ => rfl) h with ⟨rfl, rfl⟩ | ⟨g, cap, rfl, _, hg, hn, hm, hc⟩
  · exact ⟨none, 0, rfl, by simp, by simp, hs, fun h0 => by simp at h0⟩
  · refine ⟨_, cap, rfl, hn, hm, hs, fun _ => ⟨_, rfl, hg, fun j x hx => ?_⟩⟩
    rw [add_plain]
    exact ⟨hc j x 0 hx (by omega), hc j x 1 hx (by omega), hc j x 2 hx (by omega), hc j x 3 hx (by omega)⟩
theorem SpOwn.below {w w' : World} {B : Nat} {v : Value} {ds : List SpotD} (h : SpOwn w B v ds) (hb : Below w.heap.size w w') : SpOwn w' B v ds := own_keep h hb
end Go.Proofs.YticnhfflppkpoaaGreatDoor

namespace Go.Proofs.YticnhfflppkpoaaGreatDoor
set_option linter.unusedVariables false
set_option linter.unusedSimpArgs false
open Go.RowKit
attribute [local go_sem] bs_size List.length_cons List.length_nil List.length_append

def ltSp (y x : SpotD) : Bool := Op.bytesLess y.1.toList x.1.toList
def gtSp (y x : SpotD) : Bool := !(Op.bytesLess y.1.toList x.1.toList || y.1.toList == x.1.toList)
def setLo (ds : List SpotD) (x : SpotD) : List SpotD := ds.filter fun y => ltSp y x
def setMid (ds : List SpotD) (x : SpotD) (g : Bool) : List SpotD := setLo ds x ++ (if g = true then [] else [x])
def setB (ds : List SpotD) (x : SpotD) (g : Bool) : List SpotD := setMid ds x g ++ ds.filter fun y => gtSp y x
theorem setB_len (ds : List SpotD) (x : SpotD) (g : Bool) : (setB ds x g).length ≤ ds.length + 1 := by
  have h : (ds.filter fun y => ltSp y x).length + (ds.filter fun y => gtSp y x).length ≤ ds.length := by
    induction ds with
    | nil => simp
    | cons y ds ih =>
      rw [List.filter_cons, List.filter_cons, List.length_cons]
      by_cases hl : ltSp y x = true
      · have hg : gtSp y x = false := by
          unfold gtSp ltSp at *
          rw [hl]
          rfl
        rw [if_pos hl, if_neg (by rw [hg]; exact Bool.false_ne_true), List.length_cons]
        omega
      · rw [if_neg hl]
        split
        · rw [List.length_cons]; omega
        · omega
  unfold setB setMid setLo
  cases g <;> simp <;> omega
theorem setB_mem {ds : List SpotD} {x y : SpotD} {g : Bool} (h : y ∈ setB ds x g) : y ∈ ds ∨ y = x := by
  unfold setB setMid setLo at h
  rcases List.mem_append.1 h with h | h
  · rcases List.mem_append.1 h with h | h
    · exact .inl (List.mem_filter.1 h).1
    · split at h
      · simp at h
      · exact .inr (List.mem_singleton.1 h)
  · exact .inl (List.mem_filter.1 h).1
theorem filter_yes {p : SpotD → Bool} {ds : List SpotD} {i : Nat} {y : SpotD} (h : ds[i]? = some y) (hp : p y = true) : (ds.take (i + 1)).filter p = (ds.take i).filter p ++ [y] := by
  rw [take_snoc h, List.filter_append]
  simp [hp]
theorem filter_no {p : SpotD → Bool} {ds : List SpotD} {i : Nat} {y : SpotD} (h : ds[i]? = some y) (hp : p y = false) : (ds.take (i + 1)).filter p = (ds.take i).filter p := by
  rw [take_snoc h, List.filter_append]
  simp [hp]
theorem SpOwn.form {w : World} {B : Nat} {v : Value} {ds : List SpotD} (h : SpOwn w B v ds) : ∃ A c, v = .slice A ds.length c := by
  rcases h.2 with ⟨rfl, h0⟩ | ⟨g, cap, cur, rfl, _⟩
  · exact ⟨none, 0, by rw [h0]⟩
  · exact ⟨_, _, rfl⟩
theorem SpOwn.lt {w : World} {B : Nat} {v : Value} {ds : List SpotD} (h : SpOwn w B v ds) : ∀ k, v.ownBlock = some k → B ≤ k ∧ k < w.heap.size := World.ownsRow.lt h
theorem SpOwn.mono {w : World} {B B' : Nat} {v : Value} {ds : List SpotD} (h : SpOwn w B v ds) (hb : B' ≤ B) : SpOwn w B' v ds := own_low h hb
/-- The spot in its box, and the row under way. -/
structure SX (w : World) (x : SpotD) (v : Value) (ds : List SpotD) (W : World) : Prop where
  b : Below (w.heap.size + 1) (w.alloc (.cells (spVals x).toArray 65)) W
  own : SpOwn W (w.heap.size + 1) v ds
section
variable {w W W' : World} {x : SpotD} {v : Value} {ds : List SpotD}
theorem SX.from_ (h : SX w x v ds W) : Below w.heap.size w W := ((Below.refl _ _).alloc (Nat.le_refl _) _).trans (h.b.mono (by omega))
theorem SX.size (h : SX w x v ds W) : w.heap.size + 1 ≤ W.heap.size := by have := h.b.size; simpa using this
theorem SX.box (h : SX w x v ds W) : W.heap[w.heap.size]? = some (.cells (spVals x).toArray 65 (0, 0)) := (h.b.block _ (by omega)).trans (blk_new w _)
theorem SX.go (h : SX w x v ds W) (hb : Below W.heap.size W W') : SX w x v ds W' := ⟨h.b.trans (hb.mono h.size), own_keep h.own hb⟩
theorem SX.put {v' : Value} {ds' : List SpotD} (h : SX w x v ds W) (hg : W.grownBy W' v.ownBlock) (ho : SpOwn W' (w.heap.size + 1) v' ds') : SX w x v' ds' W' := ⟨h.b.grown hg h.size fun k e => (h.own.lt k e).1, ho⟩
end
set_option maxHeartbeats 8000000 in
set_option maxRecDepth 100000 in
theorem spec_l07Set_calls (A : Option Addr) (c : Nat) (ds : List SpotD) (key : ByteArray) (seg at_ sq : Int) (g : Bool) (w : World) (h : SpRow w A c ds) (hn : ds.length ≤ 1000000000) :
    Calls Tryz.prog 29 #[.slice A ds.length c, .agg #[.string key, .int .i64 seg, .int .i64 at_, .int .i64 sq], .bool g] w fun e w' => ∃ v, e = .returned v ∧ SpOwn w' w.heap.size v (setB ds (key, seg, at_, sq) g) ∧ Below w.heap.size w w' := by
  obtain ⟨i0, hi0, hz, hsz, hby⟩ := info_parts info_sp
  have HR := Lib.hid h
  have hs1 : (w.alloc (.cells #[.string key, .int .i64 seg, .int .i64 at_, .int .i64 sq] 65)).heap.size = w.heap.size + 1 := by simp
  have HS0 : Hid (SX w (key, seg, at_, sq) (.slice (some ⟨w.heap.size + 1, 0, none⟩) 0 0) [] ((w.alloc (.cells #[.string key, .int .i64 seg, .int .i64 at_, .int .i64 sq] 65)).alloc (.cells #[] 65))) := ⟨(Below.refl _ _).alloc (by simp) _, by
    have : ((w.alloc (.cells #[.string key, .int .i64 seg, .int .i64 at_, .int .i64 sq] 65)).alloc (.cells #[] 65)).ownsRow (w.heap.size + 1) 65 4 (.slice (some ⟨(w.alloc (.cells #[.string key, .int .i64 seg, .int .i64 at_, .int .i64 sq] 65)).heap.size, 0, none⟩) 0 0) 0 [] := World.ownsRow_made (w := w.alloc (.cells #[.string key, .int .i64 seg, .int .i64 at_, .int .i64 sq] 65)) #[] 0 (by rw [hs1]; exact Nat.le_refl _) (Nat.zero_le _) rfl
    rw [hs1] at this
    exact this⟩
  clear h hs1
  go_enter Tryz.func29, Tryz.ntmps29
  go_wp2
  go_loopw [7, 8] (fun ov iv wr => ∃ i : Nat, i ≤ ds.length ∧ iv = .int .i64 (i : Int) ∧ Hid (SX w (key, seg, at_, sq) ov ((ds.take i).filter fun y => ltSp y (key, seg, at_, sq)) wr)) (fun _ iv _ => ds.length - (intOf iv).toNat)
  case atStart => exact ⟨0, Nat.zero_le _, rfl, HS0⟩
  case round =>
    obtain ⟨i, hi, rfl, HS⟩ := hrel
    by_cases hlt : i < ds.length
    · obtain ⟨ad, y, hA, HY, hy1, hc0, hc1, hc2, hc3⟩ := (HR.out.below HS.out.from_).at_ hlt
      cases hA
      obtain ⟨yk, ys, ya, yq⟩ := y
      dsimp only at hy1 hc0 hc1 hc2 hc3
      have k0 := blk_cell HS.out.box 0
      obtain ⟨A2, c2, hv⟩ := HS.out.own.form
      subst hv
      have hfl : ((ds.take i).filter fun y => ltSp y (key, seg, at_, sq)).length ≤ i := by
        have h1 := List.length_filter_le (fun y => ltSp y (key, seg, at_, sq)) (ds.take i)
        have h2 : (ds.take i).length ≤ i := by rw [List.length_take]; omega
        omega
      have HFL := Lib.hid hfl
      have HCC := Lib.hid (And.intro hc0 (And.intro hc1 (And.intro hc2 hc3)))
      have HSD := Lib.hid (HS.out.go (Below.drew (Below.refl _ _)))
      have hli : (i : Int) < (ds.length : Int) := by omega
      have HFY := Lib.hid (fun hp => filter_yes (p := fun y => ltSp y (key, seg, at_, sq)) HY.out hp)
      have HFN := Lib.hid (fun hp => filter_no (p := fun y => ltSp y (key, seg, at_, sq)) HY.out hp)
      obtain ⟨lt, hlt2⟩ : ∃ b, ltSp (yk, ys, ya, yq) (key, seg, at_, sq) = b := ⟨_, rfl⟩
      have hll : Op.bytesLess yk.toList key.toList = lt := hlt2
      rw [hlt2] at HFY HFN
      clear hlt2 hfl
      generalize ((ds.take i).filter fun y => ltSp y (key, seg, at_, sq)) = F at HS HFL HSD HFY HFN ⊢
      go_wp2_with fail
      go_region_held3 (fun w' => w'.cell? (ad.add (i * 4)) = some (.string yk) ∧ w'.cell? ⟨w.heap.size, 0, none⟩ = some (.string key) ∧ Hid (SX w (key, seg, at_, sq) (.slice A2 F.length c2) F w')) (first | exact ⟨HCC.out.1, k0, HSD.out⟩) (fail)
      have HS2 := (‹_ ∧ _ ∧ Hid (SX w (key, seg, at_, sq) (.slice A2 F.length c2) F _)›).2.2
      cases lt
      · have HF2 := Lib.hid (HFN.out rfl)
        clear HFY HFN
        go_wp2
        go_roundw
        case rel => first | exact ⟨i + 1, by omega, by go_num, by rw [HF2.out]; exact HS2⟩ | (repeat (first | (refine ⟨?relx, rfl⟩; exact ⟨i + 1, by omega, by go_num, by rw [HF2.out]; exact HS2⟩) | (refine ⟨?relx, ?eqs⟩; (case eqs => (and_intros <;> rfl)); exact ⟨i + 1, by omega, by go_num, by rw [HF2.out]; exact HS2⟩) | apply Exists.intro))
        case measure => simp [intOf]; omega
      · have HF2 := Lib.hid (HFY.out rfl)
        clear HFY HFN
        have HC4 : Hid (wr.drew.cell? (ad.add (i * 4)) = some (.string yk) ∧ wr.drew.cell? ⟨(ad.add (i * 4)).block, (ad.add (i * 4)).off + 1, none⟩ = some (.int .i64 ys) ∧ wr.drew.cell? ⟨(ad.add (i * 4)).block, (ad.add (i * 4)).off + 2, none⟩ = some (.int .i64 ya) ∧ wr.drew.cell? ⟨(ad.add (i * 4)).block, (ad.add (i * 4)).off + 3, none⟩ = some (.int .i64 yq)) := HCC.out
        clear hc0 hc1 hc2 hc3 k0 HCC HSD
        have HSW := HS2
        have hfl := HFL.out
        generalize wr.drew = wd at HS2 HSW HC4 ⊢
        obtain ⟨hc0, hc1, hc2, hc3⟩ := HC4.out
        have HAL9 : Hid (Below wd.heap.size wd (wd.alloc (.cells #[.string yk, .int .i64 ys, .int .i64 ya, .int .i64 yq] 65))) := (Below.refl _ _).alloc (Nat.le_refl _) _
        have HS9 := Lib.hid (HSW.out.go HAL9.out)
        have HOWN := Lib.hid HS9.out.own
        have HBASE := Lib.hid HS9.out.size
        have HNEWS : Hid (∀ j u, (spVals (yk, ys, ya, yq))[j]? = some u → (wd.alloc (.cells #[.string yk, .int .i64 ys, .int .i64 ya, .int .i64 yq] 65)).cell? ((⟨wd.heap.size, 0, none⟩ : Addr).add j) = some u) := World.news_of_block (heap_alloc_new wd _)
        go_wp2_with (at_builtin; refine wpList_append_lies _ rfl _ _ _ rfl (w.heap.size + 1) 65 i0 (.agg #[.string ⟨#[]⟩, .int .i64 0, .int .i64 0, .int .i64 0]) 4 40 Tryz.underlying33 hi0 hz hsz hby rfl (by omega) (.slice A2 F.length c2) F.length (spFlat F) rfl HOWN.out ⟨wd.heap.size, 0, none⟩ 1 1 (spVals (yk, ys, ya, yq)) rfl rfl HNEWS.out (by simp [Value.oneCell', spVals]) (by omega) (by unfold maxLen; omega) (by omega) HBASE.out _ rfl ?_; intro gg cap w7 hown hgrow hat hlt2)
        have HPU : Hid (SpOwn w7 (w.heap.size + 1) (.slice (some ⟨gg, 0, none⟩) (F.length + 1) cap) (F ++ [(yk, ys, ya, yq)])) := by
          rw [Hid, SpOwn, spFlat_snoc, List.length_append]
          exact hown
        have HS7 := Lib.hid (HS9.out.put hgrow HPU.out)
        clear hown hgrow hat
        go_wp2
        go_roundw
        case rel => first | exact ⟨i + 1, by omega, by go_num, by rw [HF2.out]; exact HS7⟩ | (repeat (first | (refine ⟨?relx, rfl⟩; exact ⟨i + 1, by omega, by go_num, by rw [HF2.out]; exact HS7⟩) | (refine ⟨?relx, ?eqs⟩; (case eqs => (and_intros <;> rfl)); exact ⟨i + 1, by omega, by go_num, by rw [HF2.out]; exact HS7⟩) | apply Exists.intro))
        case measure => simp [intOf]; omega
    · obtain rfl : i = ds.length := by omega
      rw [List.take_length] at HS
      have hll : (ds.filter fun y => ltSp y (key, seg, at_, sq)).length ≤ ds.length := List.length_filter_le _ _
      obtain ⟨A2, c2, hv⟩ := HS.out.own.form
      subst hv
      have HMT : Hid (g = true → setMid ds (key, seg, at_, sq) g = ds.filter fun y => ltSp y (key, seg, at_, sq)) := fun h => by unfold setMid setLo; rw [if_pos h, List.append_nil]
      have HMF : Hid (g = false → setMid ds (key, seg, at_, sq) g = (ds.filter fun y => ltSp y (key, seg, at_, sq)) ++ [(key, seg, at_, sq)]) := fun h => by unfold setMid setLo; rw [if_neg (by simp [h])]
      have HML : Hid ((setMid ds (key, seg, at_, sq) g).length ≤ ds.length + 1) := by
        rw [Hid]
        unfold setMid setLo
        rw [List.length_append]
        cases g <;> simp <;> omega
      have HSB : Hid (setB ds (key, seg, at_, sq) g = setMid ds (key, seg, at_, sq) g ++ ds.filter fun y => gtSp y (key, seg, at_, sq)) := rfl
      generalize (ds.filter fun y => ltSp y (key, seg, at_, sq)) = F at HS hll HMT HMF ⊢
      generalize setMid ds (key, seg, at_, sq) g = M at HMT HMF HML HSB
      have hnl : ¬ (ds.length : Int) < (ds.length : Int) := by omega
      go_upto_if 33 with (fail)
      go_cut [7] from 10 to 59 (fun ov wx => Hid (SX w (key, seg, at_, sq) ov M wx))
      case first =>
        cases g
        · have HM := Lib.hid (HMF.out rfl)
          have k0 := blk_cell HS.out.box 0
          have k1 := blk_cell HS.out.box 1
          have k2 := blk_cell HS.out.box 2
          have k3 := blk_cell HS.out.box 3
          have HSW := HS
          simp only [spVals] at k0 k1 k2 k3
          have HAL9 : Hid (Below wr.heap.size wr (wr.alloc (.cells #[.string key, .int .i64 seg, .int .i64 at_, .int .i64 sq] 65))) := (Below.refl _ _).alloc (Nat.le_refl _) _
          have HS9 := Lib.hid (HSW.out.go HAL9.out)
          have HOWN := Lib.hid HS9.out.own
          have HBASE := Lib.hid HS9.out.size
          have HNEWS : Hid (∀ j u, (spVals (key, seg, at_, sq))[j]? = some u → (wr.alloc (.cells #[.string key, .int .i64 seg, .int .i64 at_, .int .i64 sq] 65)).cell? ((⟨wr.heap.size, 0, none⟩ : Addr).add j) = some u) := World.news_of_block (heap_alloc_new wr _)
          go_wp2_with (at_builtin; refine wpList_append_lies _ rfl _ _ _ rfl (w.heap.size + 1) 65 i0 (.agg #[.string ⟨#[]⟩, .int .i64 0, .int .i64 0, .int .i64 0]) 4 40 Tryz.underlying33 hi0 hz hsz hby rfl (by omega) (.slice A2 F.length c2) F.length (spFlat F) rfl HOWN.out ⟨wr.heap.size, 0, none⟩ 1 1 (spVals (key, seg, at_, sq)) rfl rfl HNEWS.out (by simp [Value.oneCell', spVals]) (by omega) (by unfold maxLen; omega) (by omega) HBASE.out _ rfl ?_; intro gg cap w7 hown hgrow hat hlt2)
          have HPU : Hid (SpOwn w7 (w.heap.size + 1) (.slice (some ⟨gg, 0, none⟩) (F.length + 1) cap) (F ++ [(key, seg, at_, sq)])) := by
            rw [Hid, SpOwn, spFlat_snoc, List.length_append]
            exact hown
          have HS7 := Lib.hid (HS9.out.put hgrow HPU.out)
          clear hown hgrow hat
          go_wp2
          go_meet
          case rel => rw [HM.out]; exact HS7
        · have HM := Lib.hid (HMT.out rfl)
          go_wp2
          go_meet
          case rel => rw [HM.out]; exact HS
      case rest =>
        clear HMT HMF hnl hll
        go_wp2
        go_loopw [7, 9] (fun ov iv wr => ∃ i : Nat, i ≤ ds.length ∧ iv = .int .i64 (i : Int) ∧ Hid (SX w (key, seg, at_, sq) ov (M ++ (ds.take i).filter fun y => gtSp y (key, seg, at_, sq)) wr)) (fun _ iv _ => ds.length - (intOf iv).toNat)
        case atStart => exact ⟨0, Nat.zero_le _, rfl, by rw [List.take_zero, List.filter_nil, List.append_nil]; exact hcut⟩
        case round =>
          clear hcut HS
          obtain ⟨i, hi, rfl, HS⟩ := hrel
          by_cases hlt : i < ds.length
          · obtain ⟨ad, y, hA, HY, hy1, hc0, hc1, hc2, hc3⟩ := (HR.out.below HS.out.from_).at_ hlt
            cases hA
            obtain ⟨yk, ys, ya, yq⟩ := y
            dsimp only at hy1 hc0 hc1 hc2 hc3
            have k0 := blk_cell HS.out.box 0
            obtain ⟨A2, c2, hv⟩ := HS.out.own.form
            subst hv
            have hfl : (M ++ (ds.take i).filter fun y => gtSp y (key, seg, at_, sq)).length ≤ ds.length + 1 + i := by
              have h3 := HML.out
              rw [List.length_append]
              have h1 := List.length_filter_le (fun y => gtSp y (key, seg, at_, sq)) (ds.take i)
              have h2 : (ds.take i).length ≤ i := by rw [List.length_take]; omega
              omega
            have HFL := Lib.hid hfl
            have HCC := Lib.hid (And.intro hc0 (And.intro hc1 (And.intro hc2 hc3)))
            have HSD := Lib.hid (HS.out.go (Below.drew (Below.refl _ _)))
            have hli : (i : Int) < (ds.length : Int) := by omega
            have HFY := Lib.hid (fun hp => congrArg (M ++ ·) (filter_yes (p := fun y => gtSp y (key, seg, at_, sq)) HY.out hp))
            have HFN := Lib.hid (fun hp => congrArg (M ++ ·) (filter_no (p := fun y => gtSp y (key, seg, at_, sq)) HY.out hp))
            obtain ⟨lt, hlt2⟩ : ∃ b, gtSp (yk, ys, ya, yq) (key, seg, at_, sq) = b := ⟨_, rfl⟩
            have hll : (!(Op.bytesLess yk.toList key.toList || yk.toList == key.toList)) = lt := hlt2
            rw [hlt2] at HFY HFN
            rw [← List.append_assoc] at HFY
            clear hlt2 hfl
            generalize (M ++ (ds.take i).filter fun y => gtSp y (key, seg, at_, sq)) = F at HS HFL HSD HFY HFN ⊢
            go_wp2_with fail
            go_region_held3 (fun w' => w'.cell? (ad.add (i * 4)) = some (.string yk) ∧ w'.cell? ⟨w.heap.size, 0, none⟩ = some (.string key) ∧ Hid (SX w (key, seg, at_, sq) (.slice A2 F.length c2) F w')) (first | exact ⟨HCC.out.1, k0, HSD.out⟩) (fail)
            have HS2 := (‹_ ∧ _ ∧ Hid (SX w (key, seg, at_, sq) (.slice A2 F.length c2) F _)›).2.2
            cases lt
            · have HF2 := Lib.hid (HFN.out rfl)
              clear HFY HFN
              go_wp2
              go_roundw
              case rel => first | exact ⟨i + 1, by omega, by go_num, by rw [HF2.out]; exact HS2⟩ | (repeat (first | (refine ⟨?relx, rfl⟩; exact ⟨i + 1, by omega, by go_num, by rw [HF2.out]; exact HS2⟩) | (refine ⟨?relx, ?eqs⟩; (case eqs => (and_intros <;> rfl)); exact ⟨i + 1, by omega, by go_num, by rw [HF2.out]; exact HS2⟩) | apply Exists.intro))
              case measure => simp [intOf]; omega
            · have HF2 := Lib.hid (HFY.out rfl)
              clear HFY HFN
              have HC4 : Hid (wr.drew.cell? (ad.add (i * 4)) = some (.string yk) ∧ wr.drew.cell? ⟨(ad.add (i * 4)).block, (ad.add (i * 4)).off + 1, none⟩ = some (.int .i64 ys) ∧ wr.drew.cell? ⟨(ad.add (i * 4)).block, (ad.add (i * 4)).off + 2, none⟩ = some (.int .i64 ya) ∧ wr.drew.cell? ⟨(ad.add (i * 4)).block, (ad.add (i * 4)).off + 3, none⟩ = some (.int .i64 yq)) := HCC.out
              clear hc0 hc1 hc2 hc3 k0 HCC HSD
              have HSW := HS2
              have hfl := HFL.out
              generalize wr.drew = wd at HS2 HSW HC4 ⊢
              obtain ⟨hc0, hc1, hc2, hc3⟩ := HC4.out
              have HAL9 : Hid (Below wd.heap.size wd (wd.alloc (.cells #[.string yk, .int .i64 ys, .int .i64 ya, .int .i64 yq] 65))) := (Below.refl _ _).alloc (Nat.le_refl _) _
              have HS9 := Lib.hid (HSW.out.go HAL9.out)
              have HOWN := Lib.hid HS9.out.own
              have HBASE := Lib.hid HS9.out.size
              have HNEWS : Hid (∀ j u, (spVals (yk, ys, ya, yq))[j]? = some u → (wd.alloc (.cells #[.string yk, .int .i64 ys, .int .i64 ya, .int .i64 yq] 65)).cell? ((⟨wd.heap.size, 0, none⟩ : Addr).add j) = some u) := World.news_of_block (heap_alloc_new wd _)
              go_wp2_with (at_builtin; refine wpList_append_lies _ rfl _ _ _ rfl (w.heap.size + 1) 65 i0 (.agg #[.string ⟨#[]⟩, .int .i64 0, .int .i64 0, .int .i64 0]) 4 40 Tryz.underlying33 hi0 hz hsz hby rfl (by omega) (.slice A2 F.length c2) F.length (spFlat F) rfl HOWN.out ⟨wd.heap.size, 0, none⟩ 1 1 (spVals (yk, ys, ya, yq)) rfl rfl HNEWS.out (by simp [Value.oneCell', spVals]) (by omega) (by unfold maxLen; omega) (by omega) HBASE.out _ rfl ?_; intro gg cap w7 hown hgrow hat hlt2)
              have HPU : Hid (SpOwn w7 (w.heap.size + 1) (.slice (some ⟨gg, 0, none⟩) (F.length + 1) cap) (F ++ [(yk, ys, ya, yq)])) := by
                rw [Hid, SpOwn, spFlat_snoc, List.length_append]
                exact hown
              have HS7 := Lib.hid (HS9.out.put hgrow HPU.out)
              clear hown hgrow hat
              go_wp2
              go_roundw
              case rel => first | exact ⟨i + 1, by omega, by go_num, by rw [HF2.out]; exact HS7⟩ | (repeat (first | (refine ⟨?relx, rfl⟩; exact ⟨i + 1, by omega, by go_num, by rw [HF2.out]; exact HS7⟩) | (refine ⟨?relx, ?eqs⟩; (case eqs => (and_intros <;> rfl)); exact ⟨i + 1, by omega, by go_num, by rw [HF2.out]; exact HS7⟩) | apply Exists.intro))
              case measure => simp [intOf]; omega
          · obtain rfl : i = ds.length := by omega
            rw [List.take_length] at HS
            go_wp2
            go_ret
            exact ⟨_, rfl, by rw [HSB.out]; exact HS.out.own.mono (Nat.le_succ _), HS.out.from_⟩
end Go.Proofs.YticnhfflppkpoaaGreatDoor

namespace Go.Proofs.YticnhfflppkpoaaGreatDoor
set_option linter.unusedVariables false
set_option linter.unusedSimpArgs false
open Go.RowKit

def dirCh (n a q : Int) (out : List SpotD) (c : ChD) : List SpotD := setB out (c.1, n, a, q) c.2.2
def dirPl (n : Int) (out : List SpotD) (p : PlD) : List SpotD := p.1.2.foldl (dirCh n (p.2.1 : Int) p.1.1) out
def dirSeg (fs : List FiD) (out : List SpotD) (n : Nat) : List SpotD := (batsAt fs n).foldl (dirPl (n : Int)) out
def dirB (fs : List FiD) : List SpotD := (segsB fs).foldl (dirSeg fs) []
/-- Texts of a list of spots are small. -/
def SpSmall (ds : List SpotD) : Prop := ∀ x ∈ ds, x.1.size ≤ 9223372036854775807
theorem setB_small {ds : List SpotD} {x : SpotD} {g : Bool} (h : SpSmall ds) (hx : x.1.size ≤ 9223372036854775807) : SpSmall (setB ds x g) := fun y hy => by
  rcases setB_mem hy with hy | rfl
  · exact h y hy
  · exact hx
theorem foldl_snoc {α β : Type} (f : β → α → β) (b : β) (l : List α) {i : Nat} {x : α} (h : l[i]? = some x) : (l.take (i + 1)).foldl f b = f ((l.take i).foldl f b) x := by
  rw [take_snoc h, List.foldl_append]
  rfl
/-- Each batch of a segment has its text; its size is the frame's. -/
theorem placedGo_text : ∀ (rs : List ByteArray) (last : Option Int) (a : Nat), (∀ x ∈ rs, 1 ≤ x.size ∧ x.size ≤ 9000) → ∀ p ∈ placedGo last a rs, ∃ r, batText p.1 = some (ub r) ∧ (1 ≤ r.size ∧ r.size ≤ 9000) ∧ p.2.2 = frameLen r
  | [], last, a, _, p, hp => by simp [placedGo] at hp
  | r :: rs, last, a, h, p, hp => by
    have ih := fun b => placedGo_text rs (some b) (a + frameLen r) (fun x hx => h x (by simp [hx])) p
    have go : ∀ b : BatD, readBatS r = some b → p ∈ (b, a, frameLen r) :: placedGo (some b.1) (a + frameLen r) rs → ∃ r, batText p.1 = some (ub r) ∧ (1 ≤ r.size ∧ r.size ≤ 9000) ∧ p.2.2 = frameLen r := by
      intro b hb hp
      rcases List.mem_cons.1 hp with rfl | hp
      · exact ⟨r, readBatS_is hb, h r (by simp), rfl⟩
      · exact ih b.1 hp
    cases hb : readBatS r with
    | none => rw [placedGo_none hb] at hp; simp at hp
    | some b =>
      cases last with
      | none => rw [placedGo_first hb] at hp; exact go b hb hp
      | some q =>
        by_cases hq : b.1 ≤ q
        · rw [placedGo_low hb hq] at hp; simp at hp
        · rw [placedGo_next hb hq] at hp; exact go b hb hp
/-- Where the batch behind j of them begins. -/
def atOf (a : Nat) (pls : List PlD) (j : Nat) : Nat := a + ((pls.take j).map fun p => p.2.2).sum
theorem atOf_zero (a : Nat) (pls : List PlD) : atOf a pls 0 = a := by simp [atOf]
theorem atOf_step {a : Nat} {pls : List PlD} {j : Nat} {p : PlD} (h : pls[j]? = some p) : atOf a pls (j + 1) = atOf a pls j + p.2.2 := by
  unfold atOf
  rw [take_snoc h, List.map_append, List.sum_append]
  simp
  omega
theorem placedGo_at : ∀ (rs : List ByteArray) (last : Option Int) (a j : Nat) (p : PlD), (placedGo last a rs)[j]? = some p → p.2.1 = atOf a (placedGo last a rs) j
  | [], last, a, j, p, h => by simp [placedGo] at h
  | r :: rs, last, a, j, p, h => by
    have go : ∀ b : BatD, ((b, a, frameLen r) :: placedGo (some b.1) (a + frameLen r) rs)[j]? = some p → p.2.1 = atOf a ((b, a, frameLen r) :: placedGo (some b.1) (a + frameLen r) rs) j := by
      intro b hp
      cases j with
      | zero =>
        obtain rfl : (b, a, frameLen r) = p := by simpa using hp
        rw [atOf_zero]
      | succ j =>
        have := placedGo_at rs (some b.1) (a + frameLen r) j p (by simpa using hp)
        rw [this]
        unfold atOf
        rw [List.take_succ_cons, List.map_cons, List.sum_cons]
        dsimp only
        omega
    cases hb : readBatS r with
    | none => rw [placedGo_none hb] at h; simp at h
    | some b =>
      cases last with
      | none => rw [placedGo_first hb] at h ⊢; exact go b h
      | some q =>
        by_cases hq : b.1 ≤ q
        · rw [placedGo_low hb hq] at h; simp at h
        · rw [placedGo_next hb hq] at h ⊢; exact go b h
theorem segPl_pls {n : Int} {s : ByteArray} {f l : Nat} {pls : List PlD} (h : segPl n s = some (f, l, pls)) : headText n (f : Int) ≠ none ∧ (∀ L, headText n (f : Int) = some L → l = L.length) ∧ (∀ p ∈ pls, ∃ r, batText p.1 = some (ub r) ∧ (1 ≤ r.size ∧ r.size ≤ 9000) ∧ p.2.2 = frameLen r) ∧ ∀ j p, pls[j]? = some p → p.2.1 = atOf l pls j := by
  have hh : headOfB n s = some (f, l) := by
    have := segPl_head n s
    rw [h] at this
    exact this.symm
  obtain ⟨r, rs, hu, hl, hs⟩ := segPl_some hh
  rw [h] at hs
  simp only [Option.some.injEq, Prod.mk.injEq, true_and] at hs
  obtain ⟨_, _, hsm⟩ := unframeB_le s
  rw [hu] at hsm
  rw [headOf_cons hu] at hh
  cases hd : hdI n r with
  | none => rw [hd] at hh; cases hh
  | some f' =>
    rw [hd] at hh
    simp only [Option.some.injEq, Prod.mk.injEq] at hh
    obtain ⟨rfl, _⟩ := hh
    have hfr := head_frame hd
    have hr := hsm r (by simp)
    refine ⟨?_, fun L hL => by rw [hl]; exact head_len hd hL, ?_, ?_⟩
    · rw [hfr, frameB_yes (by rw [ub_length]; exact hr)]
      simp
    · rw [hs]; exact placedGo_text rs none l fun x hx => hsm x (by simp [hx])
    · rw [hs]; exact fun j p hp => placedGo_at rs none l j p hp
end Go.Proofs.YticnhfflppkpoaaGreatDoor

namespace Go.Proofs.YticnhfflppkpoaaGreatDoor
set_option linter.unusedVariables false
set_option linter.unusedSimpArgs false
open Go.RowKit Go.Maps

/-- What a spot reads as. -/
def spDat (x : SpotD) : DataW Unit := .agg [.lit (.string (ub x.1)), .lit (.int .i64 x.2.1), .lit (.int .i64 x.2.2.1), .lit (.int .i64 x.2.2.2)]
def spElem : Value → Option (DataW Unit × List MemPlace)
  | .agg cs => match cs.toList with
    | [.string k, .int .i64 a, .int .i64 b, .int .i64 c] => some (spDat (k, a, b, c), [])
    | _ => none
  | _ => none
theorem spElem_mk (x : SpotD) : spElem (.agg #[.string x.1, .int .i64 x.2.1, .int .i64 x.2.2.1, .int .i64 x.2.2.2]) = some (spDat x, []) := rfl
theorem spDat_inj {x y : SpotD} (h : spDat x = spDat y) : x = y := by
  obtain ⟨k, a, b, c⟩ := x
  obtain ⟨k', a', b', c'⟩ := y
  unfold spDat at h
  simp only [DataW.agg.injEq, List.cons.injEq, DataW.lit.injEq, Lit.string.injEq, Lit.int.injEq, true_and, and_true] at h
  obtain ⟨h1, rfl, rfl, rfl⟩ := h
  have : k = k' := by rw [← bs_ub k, h1, bs_ub]
  rw [this]
theorem spElem_inv {v : Value} {x : SpotD} {ps : List MemPlace} (h : spElem v = some (spDat x, ps)) : v = .agg #[.string x.1, .int .i64 x.2.1, .int .i64 x.2.2.1, .int .i64 x.2.2.2] := by
  unfold spElem at h
  split at h
  · rename_i cs
    split at h
    · rename_i k a b c hc
      simp only [Option.some.injEq, Prod.mk.injEq] at h
      have := spDat_inj h.1
      subst this
      have hc' : cs = #[.string k, .int .i64 a, .int .i64 b, .int .i64 c] := by
        apply Array.toList_inj.1
        rw [hc]
      rw [hc']
    · cases h
  · cases h
/-- The map whose entries are these spots. -/
def spE (G : List SpotD) : List (Lit × DataW Unit) := G.map fun x => (.string (ub x.1), spDat x)
def spM (G : List SpotD) : DataW Unit := .map (spE G)
def Srt (G : List SpotD) : Prop := G.Pairwise fun x y => ub x.1 < ub y.1
theorem less_lt : ∀ a b : List UInt8, Op.bytesLess a b = decide (a < b)
  | [], [] => by simp [Op.bytesLess]
  | [], _ :: _ => by simp [Op.bytesLess]
  | _ :: _, [] => by simp [Op.bytesLess]
  | a :: r, b :: s => by
    rw [Op.bytesLess, less_lt r s]
    by_cases h : a < b
    · simp [h, List.cons_lt_cons_iff]
    · by_cases e : a = b
      · subst e; simp [List.cons_lt_cons_iff]
      · simp [h, e, List.cons_lt_cons_iff]
theorem before_lt : ∀ a b : List UInt8, bytesBefore a b = decide (a < b)
  | [], [] => by simp [bytesBefore]
  | [], _ :: _ => by simp [bytesBefore]
  | _ :: _, [] => by simp [bytesBefore]
  | a :: r, b :: s => by
    rw [bytesBefore, before_lt r s]
    by_cases h : a < b
    · simp [h, List.cons_lt_cons_iff]
    · by_cases e : a = b
      · subst e; simp [List.cons_lt_cons_iff]
      · simp [h, e, List.cons_lt_cons_iff]
theorem toList_ub (s : ByteArray) : s.toList = ub s := by rw [ByteArray.toList_eq]; rfl
theorem ltSp_iff {y x : SpotD} : ltSp y x = true ↔ ub y.1 < ub x.1 := by unfold ltSp; rw [less_lt, toList_ub, toList_ub]; simp
theorem gtSp_iff {y x : SpotD} : gtSp y x = true ↔ ub x.1 < ub y.1 := by
  unfold gtSp
  rw [less_lt, toList_ub, toList_ub]
  simp only [Bool.not_eq_true', Bool.or_eq_false_iff, decide_eq_false_iff_not, beq_eq_false_iff_ne]
  constructor
  · rintro ⟨h1, h2⟩
    rcases List.le_iff_lt_or_eq.1 (List.not_lt.1 h1) with h | h
    · exact h
    · exact absurd h.symm h2
  · intro h
    exact ⟨fun h2 => List.lt_irrefl _ (List.lt_trans h h2), fun e => List.lt_irrefl _ (by rw [e] at h; exact h)⟩
theorem srt_filter {G : List SpotD} (h : Srt G) (p : SpotD → Bool) : Srt (G.filter p) := h.filter _
theorem srt_setB {G : List SpotD} (h : Srt G) (x : SpotD) (g : Bool) : Srt (setB G x g) := by
  unfold setB setMid setLo
  refine List.pairwise_append.2 ⟨List.pairwise_append.2 ⟨srt_filter h _, ?_, ?_⟩, srt_filter h _, ?_⟩
  · split <;> simp
  · intro a ha b hb
    split at hb
    · simp at hb
    · obtain rfl := List.mem_singleton.1 hb
      exact ltSp_iff.1 (List.mem_filter.1 ha).2
  · intro a ha b hb
    have hb2 := gtSp_iff.1 (List.mem_filter.1 hb).2
    rcases List.mem_append.1 ha with ha | ha
    · exact List.lt_trans (ltSp_iff.1 (List.mem_filter.1 ha).2) hb2
    · split at ha
      · simp at ha
      · obtain rfl := List.mem_singleton.1 ha
        exact hb2
theorem filter_ne {x : SpotD} : ∀ {G : List SpotD}, Srt G → G.filter (fun y => ltSp y x) ++ G.filter (fun y => gtSp y x) = G.filter fun y => !((ub y.1) == (ub x.1))
  | [], _ => rfl
  | y :: G, h => by
    have h' := List.pairwise_cons.1 h
    have ih := filter_ne (x := x) h'.2
    rcases Decidable.em (ub y.1 < ub x.1) with hl | hl
    · have h1 : ltSp y x = true := ltSp_iff.2 hl
      have h2 : gtSp y x = false := by
        cases hg : gtSp y x with
        | false => rfl
        | true => exact absurd (List.lt_trans hl (gtSp_iff.1 hg)) (List.lt_irrefl _)
      have h3 : (ub y.1 == ub x.1) = false := by
        cases he : ub y.1 == ub x.1 with
        | false => rfl
        | true => rw [beq_iff_eq.1 he] at hl; exact absurd hl (List.lt_irrefl _)
      simp only [List.filter_cons, h1, h2, h3, if_true, Bool.not_false, Bool.false_eq_true, if_false, List.cons_append, ih]
    · have h1 : ltSp y x = false := by
        cases hg : ltSp y x with
        | false => rfl
        | true => exact absurd (ltSp_iff.1 hg) hl
      have hlo : G.filter (fun y => ltSp y x) = [] := by
        rw [List.filter_eq_nil_iff]
        intro z hz hzl
        exact hl (List.lt_trans (h'.1 z hz) (ltSp_iff.1 hzl))
      rw [hlo, List.nil_append] at ih
      rw [List.filter_cons, h1, if_neg Bool.false_ne_true, hlo, List.nil_append, List.filter_cons, List.filter_cons, ih]
      have h4 : gtSp y x = !(ub y.1 == ub x.1) := by
        cases he : ub y.1 == ub x.1 with
        | true =>
          cases hg : gtSp y x with
          | false => rfl
          | true => have := gtSp_iff.1 hg; rw [beq_iff_eq.1 he] at this; exact absurd this (List.lt_irrefl _)
        | false =>
          rcases List.le_iff_lt_or_eq.1 (List.not_lt.1 hl) with hh | hh
          · rw [gtSp_iff.2 hh]; rfl
          · rw [hh] at he; simp at he
      rw [h4]
theorem spE_filter (G : List SpotD) (k : List UInt8) : (spE G).filter (fun p => !p.1.sameKey (.string k)) = spE (G.filter fun y => !((ub y.1) == k)) := by
  induction G with
  | nil => rfl
  | cons y G ih =>
    unfold spE at ih ⊢
    rw [List.map_cons, List.filter_cons, List.filter_cons, ih]
    show (if (!(ub y.1 == k)) = true then _ else _) = _
    split <;> rfl
theorem spM_del {G : List SpotD} (h : Srt G) (x : SpotD) : (spM G).del (.string (ub x.1)) = spM (setB G x true) := by
  unfold spM
  rw [DataW.del_eq]
  have : ChangeMaps.delKey (.string (ub x.1)) (spE G) = (spE G).filter (fun p => !p.1.sameKey (.string (ub x.1))) := rfl
  rw [this, spE_filter, ← filter_ne h]
  unfold setB setMid setLo
  rw [if_pos rfl, List.append_nil]
theorem insert_lo {x : SpotD} : ∀ (L R : List SpotD), (∀ y ∈ L, ub y.1 < ub x.1) → (∀ y ∈ R, ub x.1 < ub y.1) → DataW.insert (.string (ub x.1), spDat x) (spE (L ++ R)) = spE (L ++ x :: R)
  | [], [], _, _ => rfl
  | [], y :: R, _, h => by
    have h1 := h y (by simp)
    show (if (Lit.string (ub x.1)).before (.string (ub y.1)) then _ else _) = _
    rw [if_pos (by rw [Lit.before, before_lt]; simpa using h1)]
    rfl
  | y :: L, R, hL, hR => by
    have h1 := hL y (by simp)
    have ih := insert_lo L R (fun z hz => hL z (by simp [hz])) hR
    show (if (Lit.string (ub x.1)).before (.string (ub y.1)) then _ else _) = _
    rw [if_neg (by rw [Lit.before, before_lt]; simpa using List.not_lt.1 (fun h2 => List.lt_irrefl _ (List.lt_trans h1 h2)))]
    show _ :: DataW.insert (.string (ub x.1), spDat x) (spE (L ++ R)) = _
    rw [ih]
    rfl
theorem spM_put {G : List SpotD} (h : Srt G) (x : SpotD) : (spM G).put (.string (ub x.1)) (spDat x) = spM (setB G x false) := by
  unfold spM
  rw [DataW.put_eq]
  have : ChangeMaps.putKey (.string (ub x.1)) (spDat x) (spE G) = DataW.insert (.string (ub x.1), spDat x) ((spE G).filter (fun p => !p.1.sameKey (.string (ub x.1)))) := rfl
  rw [this, spE_filter, ← filter_ne h, insert_lo _ _ (fun y hy => ltSp_iff.1 (List.mem_filter.1 hy).2) (fun y hy => gtSp_iff.1 (List.mem_filter.1 hy).2)]
  unfold setB setMid setLo
  rw [if_neg Bool.false_ne_true, List.append_assoc]
  rfl
theorem spM_at {x : SpotD} (z : DataW Unit) : ∀ {G : List SpotD}, Srt G → x ∈ G → (spM G).atKey (.string (ub x.1)) z = spDat x
  | [], _, hx => by simp at hx
  | y :: G, h, hx => by
    have h' := List.pairwise_cons.1 h
    have e : (spM (y :: G)).atKey (.string (ub x.1)) z = if (ub y.1 == ub x.1) = true then spDat y else (spM G).atKey (.string (ub x.1)) z := by
      unfold spM DataW.atKey spE
      dsimp only
      rw [List.map_cons, List.find?_cons]
      have : (Lit.string (ub y.1)).sameKey (.string (ub x.1)) = (ub y.1 == ub x.1) := rfl
      rw [this]
      cases ub y.1 == ub x.1 <;> rfl
    rw [e]
    rcases List.mem_cons.1 hx with rfl | hx
    · rw [beq_self_eq_true, if_pos rfl]
    · have hne : (ub y.1 == ub x.1) = false := by
        cases he : ub y.1 == ub x.1 with
        | false => rfl
        | true => have := h'.1 x hx; rw [beq_iff_eq.1 he] at this; exact absurd this (List.lt_irrefl _)
      rw [hne, if_neg Bool.false_ne_true]
      exact spM_at z h'.2 hx
theorem spM_keys (G : List SpotD) : strKeys (spM G) = G.map fun x => ub x.1 := by
  show (spE G).map (fun p => strOf p.1) = _
  unfold spE
  rw [List.map_map]
  rfl
theorem spM_size (G : List SpotD) : Maps.size (spM G) = G.length := by
  show (spE G).length = _
  unfold spE
  rw [List.length_map]
theorem spM_sort {G : List SpotD} (h : Srt G) {ss : List (List UInt8)} (hp : ss.Perm (strKeys (spM G))) : ss.mergeSort leB = G.map fun x => ub x.1 := by
  rw [mergeSort_of_perm hp, spM_keys]
  refine List.mergeSort_of_pairwise ?_
  refine List.pairwise_map.2 (h.imp fun {a b} hab => ?_)
  simpa [leB] using List.le_of_lt hab
theorem srt_nil : Srt [] := List.Pairwise.nil
theorem srt_fold {α : Type} {f : List SpotD → α → List SpotD} (hf : ∀ G a, Srt G → Srt (f G a)) : ∀ (l : List α) (G : List SpotD), Srt G → Srt (l.foldl f G)
  | [], _, h => h
  | a :: l, G, h => srt_fold hf l _ (hf G a h)
theorem srt_ch (n a q : Int) (G : List SpotD) (c : ChD) (h : Srt G) : Srt (dirCh n a q G c) := srt_setB h _ _
theorem srt_pl (n : Int) (G : List SpotD) (p : PlD) (h : Srt G) : Srt (dirPl n G p) := srt_fold (srt_ch n _ _) _ _ h
theorem srt_seg (fs : List FiD) (G : List SpotD) (n : Nat) (h : Srt G) : Srt (dirSeg fs G n) := srt_fold (srt_pl _) _ _ h
theorem spM_ch {G : List SpotD} (h : Srt G) (n a q : Int) (c : ChD) : (if c.2.2 = true then (spM G).del (.string (ub c.1)) else (spM G).put (.string (ub c.1)) (spDat (c.1, n, a, q))) = spM (dirCh n a q G c) := by
  unfold dirCh
  cases hg : c.2.2
  · rw [if_neg Bool.false_ne_true]; exact spM_put h (c.1, n, a, q)
  · rw [if_pos rfl]; exact spM_del h (c.1, n, a, q)
end Go.Proofs.YticnhfflppkpoaaGreatDoor

namespace Go.Proofs.YticnhfflppkpoaaGreatDoor
set_option linter.unusedVariables false
set_option linter.unusedSimpArgs false
open Go.RowKit
attribute [local go_sem] bs_size List.length_cons List.length_nil List.length_append

set_option maxRecDepth 100000 in
theorem spec_l07Size_calls (q : Int) (A : Option Addr) (c : Nat) (cs : List ChD) (r : ByteArray) (w : World) (h : ChRow w A c cs) (ht : batText (q, cs) = some (ub r)) (hr : 1 ≤ r.size ∧ r.size ≤ 9000) :
    Calls Tryz.prog 30 #[.agg #[.int .i64 q, .slice A cs.length c]] w fun e w' => e = .returned (.int .i64 (frameLen r : Int)) ∧ Below w.heap.size w w' := by
  have HAL : Hid (Below w.heap.size w (w.alloc (.cells #[.int .i64 q, .slice A cs.length c] 47))) := (Below.refl _ _).alloc (Nat.le_refl _) _
  have HR := Lib.hid (h.below HAL.out)
  have HT : Hid (varRes (batText (q, cs)) = .tuple #[.string r, .bool true]) := by rw [Hid, ht]; show Value.tuple #[.string (bs (ub r)), .bool true] = _; rw [bs_ub]
  have hfr : frameB (ub r) = some (varBytes r.size ++ (sum4 (ub r) ++ ub r)) := by rw [frameB_yes (by rw [ub_length]; exact hr), ub_length]
  obtain ⟨L, hL1, hL2⟩ : ∃ L, frameB (ub r) = some L ∧ frameLen r = L.length := ⟨_, hfr, by unfold frameLen; rw [hfr]⟩
  have HF : Hid (varRes (frameB (ub r)) = .tuple #[.string (bs L), .bool true]) := by rw [Hid, hL1]; rfl
  have HL := Lib.hid hL2
  clear h ht hfr hL1 hL2
  go_enter Tryz.func30, Tryz.ntmps30
  go_wp2_with fail
  go_at_call 60
  refine (spec_BatchText_calls q A c cs _ HR.out).mono ?_
  rw [HT.out]
  rintro e w1 ⟨rfl, hb1⟩
  have HB1 := Lib.hid (HAL.out.trans (hb1.mono HAL.out.size))
  clear hb1
  go_wp2_with fail
  go_at_call 57
  refine (spec_Frame_calls r _ (by omega)).mono ?_
  rw [HF.out]
  rintro e w2 ⟨rfl, hb2⟩
  have HB2 := Lib.hid (HB1.out.trans (hb2.mono HB1.out.size))
  clear hb2
  go_wp2
  go_ret
  exact ⟨by rw [HL.out]; rfl, HB2.out⟩
/-- What ReadSegment and HeadText give of a segment of a right disk, in one form. -/
theorem segUni (fs : List FiD) (m : Nat) (hm : m ≤ 99) : ∃ (f l en : Nat) (pls : List PlD) (ok : Bool) (Lh : List UInt8), batsAt fs m = pls ∧
    (∀ (w : World) (e : Ending) (w' : World), SegPost w (segPl (m : Int) ((fileB fs (segNm (m : Int))).getD ⟨#[]⟩)) e w' → ∃ v, e = .returned (.tuple #[.int .i64 (f : Int), v, .int .i64 (en : Int), .bool ok]) ∧ BatsOwn w' w.heap.size v (pls.map Prod.fst) ∧ Below w.heap.size w w') ∧
    headText (m : Int) (f : Int) = some Lh ∧ l = Lh.length ∧ l ≤ 9020 ∧ pls.length ≤ 20000 ∧
    (∀ p ∈ pls, p.2.1 ≤ 200000000 ∧ ∃ r, batText p.1 = some (ub r) ∧ (1 ≤ r.size ∧ r.size ≤ 9000) ∧ p.2.2 = frameLen r) ∧ ∀ j p, pls[j]? = some p → p.2.1 = atOf l pls j := by
  unfold batsAt
  cases hs : segPl (m : Int) ((fileB fs (segNm (m : Int))).getD ⟨#[]⟩) with
  | none =>
    have h1 := headBytes_len (n := m) (f := 0) (by omega) (by omega)
    have hfr : frameB (headBytes m 0) = some (varBytes (headBytes m 0).length ++ (sum4 (headBytes m 0) ++ headBytes m 0)) := frameB_yes ⟨h1.1, by omega⟩
    have hv := var_len (n := (headBytes m 0).length) (by omega)
    have h4 := sum4_len (headBytes m 0)
    have hh : headText (m : Int) ((0 : Nat) : Int) = some (varBytes (headBytes m 0).length ++ (sum4 (headBytes m 0) ++ headBytes m 0)) := by rw [headText_yes hm (Nat.zero_le _), hfr]
    refine ⟨0, _, 0, [], false, _, rfl, fun w e w' hp => ?_, hh, rfl, by simp only [List.length_append]; omega, by simp, fun p hp => by simp at hp, fun j p hp => by simp at hp⟩
    obtain ⟨hb, v, he, ho⟩ := hp
    exact ⟨v, he, ho, hb⟩
  | some x =>
    obtain ⟨f, l, pls⟩ := x
    obtain ⟨h1, h2, h3, h4⟩ := segPl_pls hs
    obtain ⟨h5, h6, h7⟩ := segPl_bound hs
    cases hh : headText (m : Int) (f : Int) with
    | none => exact absurd hh h1
    | some Lh =>
      have hl9 : l ≤ 9020 := by
        obtain ⟨r, rs, hu, hl, _⟩ := segPl_some h5
        obtain ⟨_, _, hsm⟩ := unframeB_le ((fileB fs (segNm (m : Int))).getD ⟨#[]⟩)
        rw [hu] at hsm
        rw [hl]
        exact frameLen_le (hsm r (by simp)).2
      refine ⟨f, l, endOf l pls, pls, true, Lh, rfl, fun w e w' hp => ?_, hh, h2 Lh hh, hl9, h6, fun p hp => ⟨(h7 p hp).1, h3 p hp⟩, h4⟩
      obtain ⟨hb, v, he, ho⟩ := hp
      exact ⟨v, he, ho, hb⟩
theorem dirSeg_eq {fs : List FiD} {n : Nat} {pls : List PlD} (h : batsAt fs n = pls) (out : List SpotD) : dirSeg fs out n = pls.foldl (dirPl (n : Int)) out := by unfold dirSeg; rw [h]
theorem keep5 {W W' : World} {a0 a1 a2 a3 a4 : Addr} {x0 x1 x2 x3 x4 : Value} (h : W.cell? a0 = some x0 ∧ W.cell? a1 = some x1 ∧ W.cell? a2 = some x2 ∧ W.cell? a3 = some x3 ∧ W.cell? a4 = some x4) (hb : Below W.heap.size W W') : W'.cell? a0 = some x0 ∧ W'.cell? a1 = some x1 ∧ W'.cell? a2 = some x2 ∧ W'.cell? a3 = some x3 ∧ W'.cell? a4 = some x4 ∧ Hid (Below W.heap.size W W') := by
  have k : ∀ {a v}, W.cell? a = some v → W'.cell? a = some v := fun h => (hb.cell (World.block_lt_of_cell? W _ h)).trans h
  exact ⟨k h.1, k h.2.1, k h.2.2.1, k h.2.2.2.1, k h.2.2.2.2, hb⟩
theorem keepL {w W W' : World} {A : Option Addr} {n c b1 i : Nat} {v : Value} (hv : VD w A n c W) (hc : W.cell? ⟨b1, i, none⟩ = some v) (hb : Below W.heap.size W W') : W'.cell? ⟨w.heap.size, 0, none⟩ = some (.slice A n c) ∧ W'.cell? ⟨b1, i, none⟩ = some v ∧ Hid (Below W.heap.size W W') := ⟨(hv.go hb).cell, (hb.cell (World.block_lt_of_cell? W _ hc)).trans hc, hb⟩
def DirPost (w : World) (fs : List FiD) (e : Ending) (w' : World) : Prop := ∃ v, e = .returned (.tuple #[v, .bool (!(segsB fs).isEmpty)]) ∧ SpOwn w' w.heap.size v (dirB fs) ∧ Below w.heap.size w w'
theorem spOwn_eq {w : World} {B : Nat} {v : Value} {ds ds' : List SpotD} (h : ds' = ds) (ho : SpOwn w B v ds) : SpOwn w B v ds' := by rw [h]; exact ho
theorem SpOwn.below' {w w' : World} {B : Nat} {v : Value} {ds : List SpotD} (h : SpOwn w B v ds) (hb : Below w.heap.size w w') : SpOwn w' B v ds := own_keep h hb
set_option maxHeartbeats 8000000 in
set_option maxRecDepth 100000 in
theorem spec_DirOf_calls (A : Option Addr) (c : Nat) (fs : List FiD) (w : World) (h : FiRow w A c fs) :
    Calls Tryz.prog 10 #[.agg #[.slice A fs.length c]] w (DirPost w fs) := by
  have HF := Lib.hid h
  have HV := Lib.hid (vd_start w A fs.length c)
  have HV0 := Lib.hid (HV.out.alloc (.cells #[] 65))
  have p0 := HV0.out.cell
  have hw5 : (W5 w A fs.length c).heap.size = w.heap.size + 1 := by simp
  have HO0 : Hid (SpOwn ((W5 w A fs.length c).alloc (.cells #[] 65)) (w.heap.size + 1) (.slice (some ⟨w.heap.size + 1, 0, none⟩) 0 0) []) := by
    have : ((W5 w A fs.length c).alloc (.cells #[] 65)).ownsRow (w.heap.size + 1) 65 4 (.slice (some ⟨(W5 w A fs.length c).heap.size, 0, none⟩) 0 0) 0 [] := World.ownsRow_made (w := W5 w A fs.length c) #[] 0 (by rw [hw5]; exact Nat.le_refl _) (Nat.zero_le _) rfl
    rw [hw5] at this
    exact this
  have HSP := Lib.hid (spec_Segments_calls A c fs _ (HF.out.below HV0.out.from_))
  unfold SegsPost at HSP
  have HDS : Hid (∀ i n, (segsB fs)[i]? = some n → diskOkB fs = true ∧ n ≤ 99) := fun i n hi => by
    have hm := List.mem_of_getElem? hi
    refine ⟨?_, by have := (segs_lt hm).1; omega⟩
    cases hd : diskOkB fs with
    | true => rfl
    | false => rw [segs_no hd] at hm; simp at hm
  have hsl := segs_len fs
  have HDP : Hid (∀ e w', (∃ v, e = .returned (.tuple #[v, .bool (!(segsB fs).isEmpty)]) ∧ SpOwn w' w.heap.size v ((segsB fs).foldl (dirSeg fs) []) ∧ Below w.heap.size w w') → DirPost w fs e w') := fun e w' h => h
  generalize segsB fs = L at HSP HDS hsl HDP
  clear h
  go_enter Tryz.func10, Tryz.ntmps10
  go_wp2_with fail
  go_at_call 17
  refine HSP.out.mono ?_
  rintro e w1 ⟨v1, rfl, ho1, hb1⟩
  obtain ⟨A1, c1, hv1⟩ := ho1.form
  rw [List.length_map] at hv1
  subst hv1
  have HV1 := Lib.hid (HV0.out.go hb1)
  have HR1 := Lib.hid (ho1.mono (B' := w.heap.size + 1) (by simp))
  have HO1 := Lib.hid (HO0.out.below' hb1)
  clear ho1 hb1 p0 HSP hw5
  cases hLe : L.isEmpty
  · have hpos : 0 < L.length := by
      cases L with
      | nil => cases hLe
      | cons m L => simp
    go_wp2
    go_loopw [4, 7] (fun ov iv wr => ∃ i : Nat, i ≤ L.length ∧ iv = .int .i64 (i : Int) ∧ Hid (((L.take i).foldl (dirSeg fs) []).length ≤ 800000 * i) ∧ Hid (SpSmall ((L.take i).foldl (dirSeg fs) [])) ∧ Hid (SpOwn wr (w.heap.size + 1) ov ((L.take i).foldl (dirSeg fs) [])) ∧ Hid (Below w1.heap.size w1 wr)) (fun _ iv _ => L.length - (intOf iv).toNat)
    case atStart => exact ⟨0, Nat.zero_le _, rfl, Nat.zero_le _, (fun x hx => by simp at hx), HO1, Below.refl _ _⟩
    case round =>
      obtain ⟨i, hi, rfl, HLN, HSM, HOW, HBL⟩ := hrel
      by_cases hlt : i < L.length
      · obtain ⟨m, hm⟩ : ∃ m, L[i]? = some m := ⟨_, List.getElem?_eq_getElem hlt⟩
        have hdm := HDS.out i m hm
        have HNX := Lib.hid (foldl_snoc (dirSeg fs) [] L hm)
        obtain ⟨f, l, en, pls, ok, Lh, hba, hsg, hht, hlL, hl9, hpl, htx, hat⟩ := segUni fs m hdm.2
        have HDE := Lib.hid (fun out => dirSeg_eq (fs := fs) (n := m) hba out)
        have HSG := Lib.hid hsg
        have HHT := Lib.hid hht
        have HTX := Lib.hid htx
        have HAT := Lib.hid hat
        have hts := show ((fileB fs (segNm (m : Int))).getD ⟨#[]⟩).size ≤ 20000 from by
          cases hf : fileB fs (segNm (m : Int)) with
          | none => decide
          | some t => exact fileB_small hdm.1 hf
        have HRES := Lib.hid (show fiRes (fileB fs (segNm (m : Int))) = .tuple #[.string ((fileB fs (segNm (m : Int))).getD ⟨#[]⟩), .bool (fileB fs (segNm (m : Int))).isSome] from by cases fileB fs (segNm (m : Int)) <;> rfl)
        generalize (fileB fs (segNm (m : Int))).getD ⟨#[]⟩ = t at hts HRES HSG
        generalize (fileB fs (segNm (m : Int))).isSome = ob at HRES
        have HLHL := Lib.hid hlL
        clear hba hsg hht htx hat hlL
        obtain ⟨b1, hA1, hc1⟩ := (HR1.out.below HBL.out).at_ (j := i) (x := (m : Int)) (by rw [List.getElem?_map, hm]; rfl)
        subst hA1
        have hm99 := hdm.2
        have HM := Lib.hid hm
        have HVD := Lib.hid ((HV1.out.go HBL.out).drew)
        have HBD : Hid (Below wr.heap.size wr wr.drew) := Below.drew (Below.refl _ _)
        have HC1 := Lib.hid hc1
        clear hm hdm hc1
        have hil : (i : Int) < (L.length : Int) := by omega
        go_wp2_with fail
        have HCD : Hid (wr.drew.cell? ⟨b1, i, none⟩ = some (.int .i64 (m : Int))) := HC1.out
        go_region_held3 (fun w' => w'.cell? ⟨w.heap.size, 0, none⟩ = some (.slice A fs.length c) ∧ w'.cell? ⟨b1, i, none⟩ = some (.int .i64 (m : Int)) ∧ Hid (Below wr.drew.heap.size wr.drew w')) (first | exact keepL HVD.out HCD.out (Below.refl _ _) | exact keepL HVD.out HCD.out hbA | exact keepL HVD.out HCD.out (hbA.trans (hbB.mono hbA.size))) (first | (go_at_call 26; refine (spec_SegNm_calls (m : Int) _).mono ?_; rintro e w2 ⟨rfl, hbA⟩) | (go_at_call 25; refine (spec_FileAt_calls (segNm (m : Int)) A c fs _ (HF.out.below (HVD.out.go hbA).from_)).mono ?_; rw [HRES.out]; rintro e w3 ⟨rfl, hbB⟩))
        obtain ⟨_, hc3, HBW⟩ := ‹_ ∧ _ ∧ Hid (Below wr.drew.heap.size wr.drew _)›
        have HB3 := Lib.hid (HBL.out.trans ((HBD.out.trans (HBW.out.mono HBD.out.size)).mono HBL.out.size))
        have HO3 := Lib.hid (HOW.out.below' (HBD.out.trans (HBW.out.mono HBD.out.size)))
        have HC3 := Lib.hid hc3
        clear hbA hbB
        go_wp2_with fail
        go_at_call 27
        refine (spec_ReadSegment_calls (m : Int) t _ (by omega)).mono ?_
        rintro e w4 hp
        obtain ⟨v4, rfl, ho4, hb4⟩ := HSG.out _ _ _ hp
        obtain ⟨A4, c4, hv4⟩ := ListC.form ho4
        rw [List.length_map] at hv4
        subst hv4
        have HO4 := Lib.hid ho4
        have HB4 := Lib.hid (HB3.out.trans (hb4.mono HB3.out.size))
        have HW4 := Lib.hid (HO3.out.below' hb4)
        have hc4 : w4.cell? ⟨b1, i, none⟩ = some (.int .i64 (m : Int)) := (hb4.cell (World.block_lt_of_cell? w3 _ HC3.out)).trans HC3.out
        have HC4 := Lib.hid hc4
        clear hp ho4 hb4 hc3
        go_wp2_with fail
        go_at_call 28
        refine (spec_HeadText_calls (m : Int) (f : Int) _).mono ?_
        rw [HHT.out]
        simp only [varRes]
        rintro e w5 ⟨rfl, hb5⟩
        have HB5 := Lib.hid (HB4.out.trans (hb5.mono HB4.out.size))
        have HW5 := Lib.hid (HW4.out.below' hb5)
        have HO5 := Lib.hid (ListC.below HO4.out hb5)
        have hc5 : w5.cell? ⟨b1, i, none⟩ = some (.int .i64 (m : Int)) := (hb5.cell (World.block_lt_of_cell? w4 _ hc4)).trans hc4
        have HC5 := Lib.hid hc5
        have hll : (Lh.length : Int) = (l : Int) := by rw [HLHL.out]
        clear hb5 hc4 hc5
        go_wp2
        generalize (L.take i).foldl (dirSeg fs) [] = D at HLN HSM HW5 HNX HOW HO3 HW4
        go_loopw [4, 16, 17] (fun ov av kv wr2 => ∃ k : Nat, k ≤ pls.length ∧ kv = .int .i64 (k : Int) ∧ av = .int .i64 (atOf l pls k : Int) ∧ Hid (((pls.take k).foldl (dirPl (m : Int)) D).length ≤ 800000 * i + 40 * k) ∧ Hid (SpSmall ((pls.take k).foldl (dirPl (m : Int)) D)) ∧ Hid (SpOwn wr2 (w.heap.size + 1) ov ((pls.take k).foldl (dirPl (m : Int)) D)) ∧ Hid (Below w5.heap.size w5 wr2)) (fun _ _ kv _ => pls.length - (intOf kv).toNat)
        case atStart => exact ⟨0, Nat.zero_le _, rfl, by rw [atOf_zero], HLN.out, HSM, HW5, Below.refl _ _⟩
        case round =>
          obtain ⟨k, hk, rfl, rfl, HLN2, HSM2, HOW2, HBL2⟩ := hrel
          rename World => w6
          by_cases hlt2 : k < pls.length
          · obtain ⟨⟨⟨q, cs⟩, a, z⟩, hp⟩ : ∃ p, pls[k]? = some p := ⟨_, List.getElem?_eq_getElem hlt2⟩
            have hz := HAT.out k _ hp
            obtain ⟨ha2, r, hbt, hrs, hzr⟩ := HTX.out _ (List.mem_of_getElem? hp)
            have hst := atOf_step (a := l) hp
            dsimp only at hz ha2 hbt hzr hst
            subst hz
            obtain ⟨g4, u, hA4, hcc, hu, hsm⟩ := ListC.at_ (ListC.below HO5.out HBL2.out) (fun _ => rfl) (j := k) (x := (q, cs)) (by rw [List.getElem?_map, hp]; rfl)
            subst hA4
            obtain ⟨Au, cu, hform, hrow⟩ := hu.row hsm
            dsimp only at hform hrow
            subst hform
            have k0 := hcc 0 (by omega)
            have k1 := hcc 1 (by omega)
            simp only [batVals, Nat.add_zero, List.getElem?_cons_zero, List.getElem?_cons_succ] at k0 k1
            have hcl : cs.length ≤ 40 := (batOk_parts (isBat_parts (show IsBat r (q, cs) from hbt)).1).2.1
            have HNX2 := Lib.hid (foldl_snoc (dirPl (m : Int)) D pls hp)
            have HAL : Hid (Below w6.heap.size w6 (w6.alloc (.cells #[.int .i64 q, .slice Au cs.length cu] 47))) := (Below.refl _ _).alloc (Nat.le_refl _) _
            have HBX : Hid ((w6.alloc (.cells #[.int .i64 q, .slice Au cs.length cu] 47)).heap[w6.heap.size]? = some (.cells #[.int .i64 q, .slice Au cs.length cu] 47 (0, 0))) := blk_new _ _
            have HCR := Lib.hid (hrow.below HAL.out)
            have HOW3 := Lib.hid (HOW2.out.below' HAL.out)
            have HC6 : Hid ((w6.alloc (.cells #[.int .i64 q, .slice Au cs.length cu] 47)).cell? ⟨b1, i, none⟩ = some (.int .i64 (m : Int))) := cell_new ((HBL2.out.cell (World.block_lt_of_cell? w5 _ HC5.out)).trans HC5.out) _
            have HB6 := Lib.hid (HBL2.out.trans (HAL.out.mono HBL2.out.size))
            have HBT := Lib.hid hbt
            have HST := Lib.hid hst
            have HZR := Lib.hid hzr
            have hrs1 := hrs
            clear hp hcc hu hsm hrow hbt hst hzr
            generalize (pls.take k).foldl (dirPl (m : Int)) D = E at HLN2 HSM2 HOW2 HNX2 HOW3
            go_wp2
            generalize w6.alloc (.cells #[.int .i64 q, .slice Au cs.length cu] 47) = wb at HAL HBX HCR HOW3 HC6 HB6 ⊢
            generalize w6.heap.size = gx at HBX ⊢
            clear HAL HOW2 HBL2 k0 k1
            go_loopw [4, 19] (fun ov jv wr3 => ∃ j : Nat, j ≤ cs.length ∧ jv = .int .i64 (j : Int) ∧ Hid (((cs.take j).foldl (dirCh (m : Int) (atOf l pls k : Int) q) E).length ≤ 800000 * i + 40 * k + j) ∧ Hid (SpSmall ((cs.take j).foldl (dirCh (m : Int) (atOf l pls k : Int) q) E)) ∧ Hid (SpOwn wr3 (w.heap.size + 1) ov ((cs.take j).foldl (dirCh (m : Int) (atOf l pls k : Int) q) E)) ∧ Hid (Below wb.heap.size wb wr3)) (fun _ jv _ => cs.length - (intOf jv).toNat)
            case atStart => exact ⟨0, Nat.zero_le _, rfl, HLN2.out, HSM2, HOW3, Below.refl _ _⟩
            case round =>
              obtain ⟨j, hj, rfl, HLN3, HSM3, HOW4, HBL3⟩ := hrel
              rename World => w7
              have HBX7 := Lib.hid (blk_below HBX.out HBL3.out)
              have x0 := blk_cell HBX7.out 0
              have x1 := blk_cell HBX7.out 1
              by_cases hlt3 : j < cs.length
              · obtain ⟨ad, y, hA, HY, hy1, _, hd0, _, hd2⟩ := (HCR.out.below HBL3.out).at_ hlt3
                cases hA
                obtain ⟨ck, cv, cg⟩ := y
                dsimp only at hy1 hd0 hd2
                have HNX3 := Lib.hid (foldl_snoc (dirCh (m : Int) (atOf l pls k : Int) q) E cs HY.out)
                generalize (cs.take j).foldl (dirCh (m : Int) (atOf l pls k : Int) q) E = G at HLN3 HSM3 HOW4 HNX3
                obtain ⟨A5, c5, hv5, hrow5⟩ := HOW4.out.row HSM3.out
                subst hv5
                have hgl : G.length ≤ 1000000000 := by have := HLN3.out; omega
                have HROW5 := Lib.hid hrow5
                have hjl : (j : Int) < (cs.length : Int) := by omega
                have hc7 : w7.cell? ⟨b1, i, none⟩ = some (.int .i64 (m : Int)) := (HBL3.out.cell (World.block_lt_of_cell? wb _ HC6.out)).trans HC6.out
                have H5 : Hid (w7.drew.cell? ⟨gx, 0, none⟩ = some (.int .i64 q) ∧ w7.drew.cell? ⟨gx, 1, none⟩ = some (.slice (some ad) cs.length cu) ∧ w7.drew.cell? (ad.add (j * 3)) = some (.string ck) ∧ w7.drew.cell? ⟨(ad.add (j * 3)).block, (ad.add (j * 3)).off + 2, none⟩ = some (.bool cg) ∧ w7.drew.cell? ⟨b1, i, none⟩ = some (.int .i64 (m : Int))) := ⟨x0, x1, hd0, hd2, hc7⟩
                have HSL : Hid (SpSmall (setB G (ck, (m : Int), (atOf l pls k : Int), q) cg)) := setB_small HSM3.out hy1
                have HSN : Hid ((setB G (ck, (m : Int), (atOf l pls k : Int), q) cg).length ≤ 800000 * i + 40 * k + (j + 1)) := by have h1 := setB_len G (ck, (m : Int), (atOf l pls k : Int), q) cg; have h2 := HLN3.out; rw [Hid]; omega
                have HNY : Hid ((cs.take (j + 1)).foldl (dirCh (m : Int) (atOf l pls k : Int) q) E = setB G (ck, (m : Int), (atOf l pls k : Int), q) cg) := HNX3.out
                have HD7 : Hid (Below w7.heap.size w7 w7.drew) := Below.drew (Below.refl _ _)
                have HWB : Hid (w.heap.size + 1 ≤ w7.drew.heap.size) := by have h1 := HB6.out.size; have h2 := HBL3.out.size; have h3 := HV1.out.size; have h4 := HB5.out.size; show w.heap.size + 1 ≤ w7.heap.size; omega
                clear hrow5 HNX3
                go_wp2_with fail
                go_still_tail 21, (by kernel_rfl)
                change wpList _ _ _ _ _ w7.drew
                go_wp2_with fail
                go_at_call 29
                refine (spec_l07Set_calls _ _ G _ _ _ _ _ _ (HROW5.out.below HD7.out) hgl).mono ?_
                rintro e w8 ⟨v8, rfl, ho8, hb8⟩
                have HB8 := Lib.hid hb8
                have HO8 : Hid (SpOwn w8 (w.heap.size + 1) v8 ((cs.take (j + 1)).foldl (dirCh (m : Int) (atOf l pls k : Int) q) E)) := by rw [Hid, HNY.out]; exact ho8.mono HWB.out
                have HL8 : Hid (((cs.take (j + 1)).foldl (dirCh (m : Int) (atOf l pls k : Int) q) E).length ≤ 800000 * i + 40 * k + (j + 1)) := by rw [Hid, HNY.out]; exact HSN.out
                have HM8 : Hid (SpSmall ((cs.take (j + 1)).foldl (dirCh (m : Int) (atOf l pls k : Int) q) E)) := by rw [Hid, HNY.out]; exact HSL.out
                have HBL8 := Lib.hid (HBL3.out.trans ((HD7.out.trans (HB8.out.mono HD7.out.size)).mono HBL3.out.size))
                clear ho8 hb8
                go_wp2
                go_roundw
                case rel => first | exact ⟨j + 1, by omega, by go_num, HL8, HM8, HO8, HBL8⟩ | (repeat (first | (refine ⟨?relx, rfl⟩; exact ⟨j + 1, by omega, by go_num, HL8, HM8, HO8, HBL8⟩) | (refine ⟨?relx, ?eqs⟩; (case eqs => (and_intros <;> rfl)); exact ⟨j + 1, by omega, by go_num, HL8, HM8, HO8, HBL8⟩) | apply Exists.intro))
                case measure => simp [intOf]; omega
              · obtain rfl : j = cs.length := by omega
                rw [List.take_length] at HOW4 HLN3 HSM3
                have hjl : ¬ (cs.length : Int) < (cs.length : Int) := by omega
                have HCR7 := Lib.hid (HCR.out.below HBL3.out)
                go_wp2_with fail
                go_at_call 30
                refine (spec_l07Size_calls q Au cu cs r _ HCR7.out HBT.out hrs1).mono ?_
                rintro e w8 ⟨rfl, hb8⟩
                have HB8 := Lib.hid (HBL3.out.trans (hb8.mono HBL3.out.size))
                have HNY : Hid ((pls.take (k + 1)).foldl (dirPl (m : Int)) D = cs.foldl (dirCh (m : Int) (atOf l pls k : Int) q) E) := HNX2.out
                have HO8 := Lib.hid (spOwn_eq HNY.out (HOW4.out.below' hb8))
                have HL8 : Hid (((pls.take (k + 1)).foldl (dirPl (m : Int)) D).length ≤ 800000 * i + 40 * (k + 1)) := by rw [Hid, HNY.out]; have := HLN3.out; omega
                have HM8 : Hid (SpSmall ((pls.take (k + 1)).foldl (dirPl (m : Int)) D)) := by rw [Hid, HNY.out]; exact HSM3.out
                have HBL8 := Lib.hid (HB6.out.trans (HB8.out.mono HB6.out.size))
                have hat9 : (atOf l pls k : Int) + (frameLen r : Int) = ((atOf l pls (k + 1) : Nat) : Int) := by rw [HST.out, HZR.out]; omega
                have hfl9 := frameLen_le hrs1.2
                clear hb8
                go_wp2
                go_roundw
                case rel => first | exact ⟨k + 1, by omega, by go_num, by go_num, HL8, HM8, HO8, HBL8⟩ | (repeat (first | (refine ⟨?relx, rfl⟩; exact ⟨k + 1, by omega, by go_num, by go_num, HL8, HM8, HO8, HBL8⟩) | (refine ⟨?relx, ?eqs⟩; (case eqs => (and_intros <;> rfl)); exact ⟨k + 1, by omega, by go_num, by go_num, HL8, HM8, HO8, HBL8⟩) | apply Exists.intro))
                case measure => simp [intOf]; omega
          · obtain rfl : k = pls.length := by omega
            rw [List.take_length] at HOW2 HLN2 HSM2
            have HNY : Hid ((L.take (i + 1)).foldl (dirSeg fs) [] = pls.foldl (dirPl (m : Int)) D) := by rw [Hid, HNX.out]; exact HDE.out D
            have HL8 : Hid (((L.take (i + 1)).foldl (dirSeg fs) []).length ≤ 800000 * (i + 1)) := by rw [Hid, HNY.out]; have := HLN2.out; omega
            have HM8 : Hid (SpSmall ((L.take (i + 1)).foldl (dirSeg fs) [])) := by rw [Hid, HNY.out]; exact HSM2.out
            have HBL8 := Lib.hid (HB5.out.trans (HBL2.out.mono HB5.out.size))
            have HO8 := Lib.hid (spOwn_eq HNY.out HOW2.out)
            have hkl : ¬ (pls.length : Int) < (pls.length : Int) := by omega
            go_wp2
            go_roundw
            case rel => first | exact ⟨i + 1, by omega, by go_num, HL8, HM8, HO8, HBL8⟩ | (repeat (first | (refine ⟨?relx, rfl⟩; exact ⟨i + 1, by omega, by go_num, HL8, HM8, HO8, HBL8⟩) | (refine ⟨?relx, ?eqs⟩; (case eqs => (and_intros <;> rfl)); exact ⟨i + 1, by omega, by go_num, HL8, HM8, HO8, HBL8⟩) | apply Exists.intro))
            case measure => simp [intOf]; omega
      · obtain rfl : i = L.length := by omega
        rw [List.take_length] at HOW
        have hnl : ¬ (L.length : Int) < (L.length : Int) := by omega
        have HVE := Lib.hid ((HV1.out.go HBL.out).from_)
        go_wp2
        go_ret2
        refine HDP.out _ _ ⟨_, ?_, HOW.out.mono (Nat.le_succ _), HVE.out⟩
        rw [hLe]
        rfl
  · obtain rfl : L = [] := List.isEmpty_iff.1 hLe
    go_wp2
    go_ret2
    exact HDP.out _ _ ⟨_, rfl, HO1.out.mono (Nat.le_succ _), HV1.out.from_⟩
end Go.Proofs.YticnhfflppkpoaaGreatDoor

namespace Go.Proofs.YticnhfflppkpoaaGreatDoor
set_option linter.unusedVariables false
set_option linter.unusedSimpArgs false
open Go.RowKit

theorem dirChs_len (n a q : Int) : ∀ (cs : List ChD) (out : List SpotD), (cs.foldl (dirCh n a q) out).length ≤ out.length + cs.length
  | [], out => by simp
  | c :: cs, out => by
    have h1 := dirChs_len n a q cs (dirCh n a q out c)
    have h2 := setB_len out (c.1, n, a, q) c.2.2
    rw [List.foldl_cons, List.length_cons]
    unfold dirCh at h1 ⊢
    omega
theorem dirPls_len (n : Int) : ∀ (pls : List PlD) (out : List SpotD), (∀ p ∈ pls, p.1.2.length ≤ 40) → (pls.foldl (dirPl n) out).length ≤ out.length + 40 * pls.length
  | [], out, _ => by simp
  | p :: pls, out, h => by
    have h1 := dirPls_len n pls (dirPl n out p) (fun x hx => h x (by simp [hx]))
    have h2 := dirChs_len n (p.2.1 : Int) p.1.1 p.1.2 out
    have h3 := h p (by simp)
    rw [List.foldl_cons, List.length_cons]
    unfold dirPl at h1 ⊢
    omega
theorem pl_parts {fs : List FiD} {m : Nat} (hm : m ≤ 99) : (batsAt fs m).length ≤ 20000 ∧ ∀ p ∈ batsAt fs m, p.1.2.length ≤ 40 ∧ ∀ c ∈ p.1.2, c.1.size ≤ 20 := by
  obtain ⟨f, l, en, pls, ok, Lh, hba, _, _, _, _, hpl, htx, _⟩ := segUni fs m hm
  rw [hba]
  refine ⟨hpl, fun p hp => ?_⟩
  obtain ⟨_, r, hb, _⟩ := htx p hp
  obtain ⟨_, h2, h3⟩ := batOk_parts (isBat_parts (show IsBat r p.1 from hb)).1
  exact ⟨h2, fun c hc => (h3 c hc).1⟩
theorem dirSegs_len (fs : List FiD) : ∀ (L : List Nat) (out : List SpotD), (∀ m ∈ L, m ≤ 99) → (L.foldl (dirSeg fs) out).length ≤ out.length + 800000 * L.length
  | [], out, _ => by simp
  | m :: L, out, h => by
    have h1 := dirSegs_len fs L (dirSeg fs out m) (fun x hx => h x (by simp [hx]))
    obtain ⟨h2, h3⟩ := pl_parts (fs := fs) (h m (by simp))
    have h4 := dirPls_len (m : Int) (batsAt fs m) out (fun p hp => (h3 p hp).1)
    rw [List.foldl_cons, List.length_cons]
    unfold dirSeg at h1 ⊢
    omega
theorem dirB_len (fs : List FiD) : (dirB fs).length ≤ 80000000 := by
  have h := dirSegs_len fs (segsB fs) [] (fun m hm => by have := (segs_lt hm).1; omega)
  have h2 := segs_len fs
  unfold dirB
  simp only [List.length_nil] at h
  omega
def Sp20 (ds : List SpotD) : Prop := ∀ x ∈ ds, x.1.size ≤ 20
theorem sp20_chs (n a q : Int) : ∀ (cs : List ChD) (out : List SpotD), Sp20 out → (∀ c ∈ cs, c.1.size ≤ 20) → Sp20 (cs.foldl (dirCh n a q) out)
  | [], _, h, _ => h
  | c :: cs, out, h, hc => by
    rw [List.foldl_cons]
    refine sp20_chs n a q cs _ (fun x hx => ?_) (fun y hy => hc y (by simp [hy]))
    unfold dirCh at hx
    rcases setB_mem hx with hx | rfl
    · exact h x hx
    · exact hc c (by simp)
theorem sp20_pls (n : Int) : ∀ (pls : List PlD) (out : List SpotD), Sp20 out → (∀ p ∈ pls, ∀ c ∈ p.1.2, c.1.size ≤ 20) → Sp20 (pls.foldl (dirPl n) out)
  | [], _, h, _ => h
  | p :: pls, out, h, hc => by
    rw [List.foldl_cons]
    exact sp20_pls n pls _ (sp20_chs n _ _ _ _ h (hc p (by simp))) fun y hy => hc y (by simp [hy])
theorem sp20_segs (fs : List FiD) : ∀ (L : List Nat) (out : List SpotD), Sp20 out → (∀ m ∈ L, m ≤ 99) → Sp20 (L.foldl (dirSeg fs) out)
  | [], _, h, _ => h
  | m :: L, out, h, hm => by
    rw [List.foldl_cons]
    exact sp20_segs fs L _ (sp20_pls _ _ _ h fun p hp => ((pl_parts (hm m (by simp))).2 p hp).2) fun x hx => hm x (by simp [hx])
theorem dirB_small (fs : List FiD) : Sp20 (dirB fs) := sp20_segs fs (segsB fs) [] (fun x hx => by simp at hx) fun m hm => by have := (segs_lt hm).1; omega
end Go.Proofs.YticnhfflppkpoaaGreatDoor

namespace Go.Proofs.YticnhfflppkpoaaGreatDoor
set_option linter.unusedVariables false
set_option linter.unusedSimpArgs false
open Go.RowKit Go.Maps
attribute [local go_sem] bs_size List.length_cons List.length_nil List.length_append

abbrev ownsSp (W : World) (b n : Nat) (G : List SpotD) : Prop := W.ownsMap Tryz.prog 9 spElem b n (spM G)
/-- The map of spots under way: its block is the one behind w1. -/
structure MX (w1 : World) (n : Nat) (G : List SpotD) (W : World) : Prop where
  b : Below w1.heap.size w1 W
  m : ownsSp W w1.heap.size n G
  srt : Srt G
  sm : Sp20 G
section
variable {w1 W W' : World} {n : Nat} {G : List SpotD}
theorem MX.lt (h : MX w1 n G W) : w1.heap.size < W.heap.size := h.m.lt
theorem MX.go (h : MX w1 n G W) (hb : Below W.heap.size W W') : MX w1 n G W' := ⟨h.b.trans (hb.mono h.b.size), h.m.kept (grown_of_below (r := none) hb) (by simp), h.srt, h.sm⟩
theorem MX.alloc (h : MX w1 n G W) (o : Obj) : MX w1 n G (W.alloc o) := h.go ((Below.refl _ _).alloc (Nat.le_refl _) o)
theorem MX.same {n' : Nat} {G' : List SpotD} (h : MX w1 n G W) (hn : n ≤ n') (hG : G' = G) : MX w1 n' G' W := by subst hG; exact ⟨h.b, h.m.mono hn, h.srt, h.sm⟩
theorem MX.put {x : SpotD} (h : MX w1 n G W) (hx : x.1.size ≤ 20) (ho : W'.ownsMap Tryz.prog 9 spElem w1.heap.size (n + 1) ((spM G).put (.string (ub x.1)) (spDat x))) (hg : W.grownBy W' (some w1.heap.size)) : MX w1 (n + 1) (setB G x false) W' :=
  ⟨h.b.grown hg h.b.size (fun k e => by cases e; exact Nat.le_refl _), by rw [spM_put h.srt] at ho; exact ho, srt_setB h.srt _ _, fun y hy => by
    rcases setB_mem hy with hy | rfl
    · exact h.sm y hy
    · exact hx⟩
theorem MX.del {x : SpotD} (h : MX w1 n G W) (hx : x.1.size ≤ 20) (ho : W'.ownsMap Tryz.prog 9 spElem w1.heap.size n ((spM G).del (.string (ub x.1)))) (hg : W.grownBy W' (some w1.heap.size)) : MX w1 (n + 1) (setB G x true) W' :=
  ⟨h.b.grown hg h.b.size (fun k e => by cases e; exact Nat.le_refl _), by rw [spM_del h.srt] at ho; exact ho.mono (Nat.le_succ _), srt_setB h.srt _ _, fun y hy => by
    rcases setB_mem hy with hy | rfl
    · exact h.sm y hy
    · exact hx⟩
theorem MX.len (h : MX w1 n G W) : G.length ≤ n := by have := h.m.size_le; rwa [spM_size] at this
end
theorem mx_start (w1 : World) : MX w1 0 [] (w1.alloc (.map #[] 0)) := ⟨(Below.refl _ _).alloc (Nat.le_refl _) _, World.ownsMap_made w1 _ _ _, srt_nil, fun x hx => by simp at hx⟩
theorem encStr_bs (l : List UInt8) : encStr l = Value.string (bs l) := rfl
/-- What slices.Sorted of the map's keys gives. -/
theorem sortedKeys {gm n : Nat} {G : List SpotD} {w : World} (hown : ownsSp w gm n G) (hs : Srt G) (hn : G.length ≤ 1000000000) :
    Calls Tryz.prog 31 #[.func (.func 63) #[] #[.pointer (some ⟨w.heap.size, 0, none⟩)]] (w.alloc (.cells #[.map (some gm)] 67)) fun e w' => ∃ v, e = .returned v ∧ OwnS w' w.heap.size v (G.map fun x => x.1) ∧ Below w.heap.size w w' := by
  have h := Tryz.slices_Sorted_keys_31_32 gm n (spM G) spElem w hown (by rw [spM_size]; unfold maxLen; omega) (by rw [spM_size]; omega)
  refine ((callsIn_wide (n := 5)).1 h).mono ?_
  rintro e w' ⟨v, ss, rfl, hp, hrow, _, hb⟩
  have hsz : (w.alloc (.cells #[.map (some gm)] 67)).heap.size = w.heap.size + 1 := by simp
  have hl : ss.length = G.length := by
    have := hp.length_eq
    rw [spM_keys, List.length_map] at this
    exact this
  refine ⟨v, rfl, ?_, ((Below.refl _ w).alloc (Nat.le_refl _) _).trans (hb.mono (by simp))⟩
  have e1 : ss.mergeSort (fun x y => decide (x ≤ y)) = G.map fun x => ub x.1 := spM_sort hs hp
  rw [e1, hl, hsz] at hrow
  have e2 : (G.map fun x => ub x.1).map encStr = (G.map fun x => x.1).map Value.string := by
    rw [List.map_map, List.map_map]
    refine List.map_congr_left fun x _ => ?_
    show encStr (ub x.1) = Value.string x.1
    rw [encStr_bs, bs_ub]
  rw [e2] at hrow
  unfold OwnS
  rw [List.length_map]
  exact own_low hrow (Nat.le_succ _)
theorem keysOf (mb : Option Nat) (w : World) : Calls Tryz.prog 32 #[.map mb] w fun e w' => e = .returned (.func (.func 63) #[] #[.pointer (some ⟨w.heap.size, 0, none⟩)]) ∧ w' = w.alloc (.cells #[.map mb] 67) :=
  (callsIn_wide (n := 5)).1 (Tryz.maps_Keys_32 mb w)
/-- A look-up at a key that is there. -/
theorem look_sp {gm n : Nat} {G : List SpotD} {w : World} (hown : ownsSp w gm n G) (hs : Srt G) {x : SpotD} (hx : x ∈ G) (hz : x.1.size ≤ 20) :
    (Instr.lookup 67 (.map (some gm)) (.string x.1) false).run Tryz.prog w = .ok (.agg #[.string x.1, .int .i64 x.2.1, .int .i64 x.2.2.1, .int .i64 x.2.2.2]) w := by
  obtain ⟨v, ps, hrun, hv⟩ := hown.lookup (string_keyed Tryz.underlying9) Tryz.underlying67 (Tryz.zeroValue65 w) (spElem_mk (⟨#[]⟩, 0, 0, 0)) (WideMaps.keyOf_string_mk Tryz.underlying9 (s := x.1) (by unfold maxLen; omega))
  rw [show x.1.data.toList = ub x.1 from rfl, spM_at _ hs hx] at hv
  rw [hrun, spElem_inv hv]
set_option maxHeartbeats 16000000 in
set_option maxRecDepth 100000 in
theorem impl_DirOf_calls (A : Option Addr) (c : Nat) (fs : List FiD) (w : World) (h : FiRow w A c fs) (hP : Pow w) (hE : Sent w) :
    Calls Tryz.prog 11 #[.agg #[.slice A fs.length c]] w (DirPost w fs) := by
  obtain ⟨i0, hi0, hz, hsz, hby⟩ := info_parts info_sp
  have hmm := @run_makeMap Tryz.prog
  have HF := Lib.hid h
  have HPW := Lib.hid hP
  have HV := Lib.hid (vd_start w A fs.length c)
  have p0 := HV.out.cell
  have HDS : Hid (∀ i n, (segsB fs)[i]? = some n → diskOkB fs = true ∧ n ≤ 99) := fun i n hi => segs_disk hi
  have hsl := segs_len fs
  have HSP := Lib.hid (impl_Segments_calls A c fs _ (HF.out.below HV.out.from_) (HPW.out.below HV.out.from_) (sentB hE HV.out.from_))
  unfold SegsPost at HSP
  have HDP : Hid (∀ e w', (∃ v, e = .returned (.tuple #[v, .bool (!(segsB fs).isEmpty)]) ∧ SpOwn w' w.heap.size v ((segsB fs).foldl (dirSeg fs) []) ∧ Below w.heap.size w w') → DirPost w fs e w') := fun e w' h => h
  generalize segsB fs = L at HDS hsl HSP HDP
  clear h hP hE
  go_enter Tryz.func11, Tryz.ntmps11
  go_wp2_with fail
  go_at_call 20
  refine HSP.out.mono ?_
  rintro e w1 ⟨v1, rfl, ho1, hb1⟩
  obtain ⟨A1, c1, hv1⟩ := ho1.form
  rw [List.length_map] at hv1
  subst hv1
  have HV1 := Lib.hid (HV.out.go hb1)
  have HR1 := Lib.hid ho1
  clear ho1 hb1 p0 HSP
  cases hLe : L.isEmpty
  · have HX0 := Lib.hid (mx_start w1)
    have HL : Hid ((!L.isEmpty) = true) := by rw [Hid, hLe]; rfl
    clear hLe
    go_wp2
    go_loopw [31] (fun iv wr => ∃ i : Nat, i ≤ L.length ∧ iv = .int .i64 (i : Int) ∧ Hid (MX w1 (800000 * i) ((L.take i).foldl (dirSeg fs) []) wr)) (fun iv _ => L.length - (intOf iv).toNat)
    case atStart => exact ⟨0, Nat.zero_le _, rfl, HX0⟩
    case round =>
      clear HX0
      obtain ⟨i, hi, rfl, HX⟩ := hrel
      rename World => wa
      by_cases hlt : i < L.length
      · obtain ⟨m, hm⟩ : ∃ m, L[i]? = some m := ⟨_, List.getElem?_eq_getElem hlt⟩
        have hdm := HDS.out i m hm
        have HNX := Lib.hid (foldl_snoc (dirSeg fs) [] L hm)
        obtain ⟨b1, hA1, hc1⟩ := (HR1.out.below HX.out.b).at_ (j := i) (x := (m : Int)) (by rw [List.getElem?_map, hm]; rfl)
        subst hA1
        have HVD := Lib.hid ((HV1.out.go HX.out.b).drew)
        have HPP := Lib.hid (HPW.out.below HVD.out.from_)
        have HXD : Hid (MX w1 (800000 * i) ((L.take i).foldl (dirSeg fs) []) wa.drew) := HX.out.go (Below.drew (Below.refl _ _))
        obtain ⟨t, ht⟩ : ∃ t, (fileB fs (segNm (m : Int))).getD ⟨#[]⟩ = t := ⟨_, rfl⟩
        have hts : t.size ≤ 20000 := by rw [← ht]; exact get_small hdm.1
        obtain ⟨f, okp, hpl⟩ := plUni fs m t ht
        have HPL := Lib.hid hpl
        have hres := fiRes_get (fileB fs (segNm (m : Int)))
        rw [ht] at hres
        generalize (fileB fs (segNm (m : Int))).isSome = ob at hres
        have HRES := Lib.hid hres
        obtain ⟨hbl, hcs⟩ := pl_parts (fs := fs) hdm.2
        have HDE : Hid (∀ out, dirSeg fs out m = (batsAt fs m).foldl (dirPl (m : Int)) out) := fun out => rfl
        generalize batsAt fs m = pls at hbl hcs HDE HPL
        have HCS := Lib.hid hcs
        have hm99 := hdm.2
        have hil : (i : Int) < (L.length : Int) := by omega
        clear hm hdm ht hpl hres hcs HX
        generalize (L.take i).foldl (dirSeg fs) [] = D at HXD HNX
        go_wp2_with fail
        go_region_held3 (fun w' => w'.cell? ⟨w.heap.size, 0, none⟩ = some (.slice A fs.length c) ∧ Hid (MX w1 (800000 * i) D w' ∧ VD w A fs.length c w')) (first | exact ⟨HVD.out.cell, HXD.out, HVD.out⟩ | exact ⟨(HVD.out.go (by assumption)).cell, HXD.out.go (by assumption), HVD.out.go (by assumption)⟩ | exact ⟨((HVD.out.go (by assumption)).go (by assumption)).cell, (HXD.out.go (by assumption)).go (by assumption), (HVD.out.go (by assumption)).go (by assumption)⟩) (first | (go_at_call 22; refine (impl_SegNm_calls (m : Int) _ HPP.out).mono ?_; rintro e w' ⟨rfl, hb⟩) | (go_at_call 21; refine (impl_FileAt_calls (segNm (m : Int)) A c fs _ (HF.out.below (HVD.out.go (by assumption)).from_)).mono ?_; rw [HRES.out]; rintro e w'' ⟨rfl, hb⟩))
        obtain ⟨_, HXV⟩ := ‹_ ∧ Hid (MX w1 (800000 * i) D _ ∧ VD w A fs.length c _)›
        have HX3 := Lib.hid HXV.out.1
        have HLT3 := Lib.hid HX3.out.lt
        clear HXV HXD HVD
        go_wp2_with fail
        go_at_call 23
        refine (impl_placedIn_calls (m : Int) t _ (by omega)).mono ?_
        rintro e w8 hp
        obtain ⟨v8, rfl, ho8, hb8⟩ := HPL.out _ _ _ hp
        obtain ⟨A8, c8, hv8⟩ := ListC.form ho8
        subst hv8
        have HO8 := Lib.hid (ListC.mono ho8 HLT3.out)
        have HX8 := Lib.hid (HX3.out.go hb8)
        clear hp ho8 hb8 HX3 HLT3
        go_wp2
        go_loopw [51] (fun kv wr2 => ∃ k : Nat, k ≤ pls.length ∧ kv = .int .i64 (k : Int) ∧ Hid (MX w1 (800000 * i + 40 * k) ((pls.take k).foldl (dirPl (m : Int)) D) wr2) ∧ Hid (w8.grownBy wr2 (some w1.heap.size))) (fun kv _ => pls.length - (intOf kv).toNat)
        case atStart => exact ⟨0, Nat.zero_le _, rfl, HX8, World.grownBy.refl _ _⟩
        case round =>
          clear HX8
          obtain ⟨k, hk, rfl, HX2, HG2⟩ := hrel
          rename World => w6
          by_cases hlt2 : k < pls.length
          · obtain ⟨⟨⟨q, cs⟩, a, z⟩, hp⟩ : ∃ p, pls[k]? = some p := ⟨_, List.getElem?_eq_getElem hlt2⟩
            obtain ⟨g, u, hA8, hcc, hu, hsm⟩ := ListC.at_ (ListC.kept HO8.out HG2.out (fun j e => by cases e; exact .inr (Nat.lt_succ_self _))) (fun _ => rfl) hp
            subst hA8
            obtain ⟨Au, cu, hform, _⟩ := hu.row hsm
            dsimp only at hform hu hsm
            subst hform
            have k0 := hcc 0 (by omega)
            have k1 := hcc 1 (by omega)
            have k2 := hcc 2 (by omega)
            have k3 := hcc 3 (by omega)
            simp only [plVals, Nat.add_zero, List.getElem?_cons_zero, List.getElem?_cons_succ] at k0 k1 k2 k3
            obtain ⟨hcl, hck⟩ := HCS.out _ (List.mem_of_getElem? hp)
            dsimp only at hcl hck
            have HCK := Lib.hid hck
            have HSM := Lib.hid hsm
            have HNX2 := Lib.hid (foldl_snoc (dirPl (m : Int)) D pls hp)
            have HAL : Hid (Below w6.heap.size w6 (w6.alloc (.cells #[.int .i64 q, .slice Au cs.length cu, .int .i64 (a : Int), .int .i64 (z : Int)] 56))) := (Below.refl _ _).alloc (Nat.le_refl _) _
            have HBX : Hid ((w6.alloc (.cells #[.int .i64 q, .slice Au cs.length cu, .int .i64 (a : Int), .int .i64 (z : Int)] 56)).heap[w6.heap.size]? = some (.cells #[.int .i64 q, .slice Au cs.length cu, .int .i64 (a : Int), .int .i64 (z : Int)] 56 (0, 0))) := blk_new _ _
            have HU : Hid (ChOwn (w6.alloc (.cells #[.int .i64 q, .slice Au cs.length cu, .int .i64 (a : Int), .int .i64 (z : Int)] 56)) (w1.heap.size + 1) (.slice Au cs.length cu) cs) := own_keep hu HAL.out
            have HXB := Lib.hid (HX2.out.go HAL.out)
            have HGB : Hid (w8.grownBy (w6.alloc (.cells #[.int .i64 q, .slice Au cs.length cu, .int .i64 (a : Int), .int .i64 (z : Int)] 56)) (some w1.heap.size)) := gr_trans HG2.out (World.grownBy_alloc _ _ _)
            have HNE : Hid (w6.heap.size ≠ w1.heap.size) := Nat.ne_of_gt HX2.out.lt
            have hkl : (k : Int) < (pls.length : Int) := by omega
            have x1 := blk_cell HBX.out 1
            clear hp hcc hu hsm hck
            generalize (pls.take k).foldl (dirPl (m : Int)) D = E at HXB HNX2 HX2
            go_wp2
            generalize w6.alloc (.cells #[.int .i64 q, .slice Au cs.length cu, .int .i64 (a : Int), .int .i64 (z : Int)] 56) = wb at HAL HBX HU HXB HGB x1 ⊢
            generalize w6.heap.size = gx at HBX HNE x1 ⊢
            clear HAL HX2 HG2 k0 k1 k2 k3 x1
            go_loopw [59] (fun jv wr3 => ∃ j : Nat, j ≤ cs.length ∧ jv = .int .i64 (j : Int) ∧ Hid (MX w1 (800000 * i + 40 * k + j) ((cs.take j).foldl (dirCh (m : Int) (a : Int) q) E) wr3) ∧ Hid (wb.grownBy wr3 (some w1.heap.size))) (fun jv _ => cs.length - (intOf jv).toNat)
            case atStart => exact ⟨0, Nat.zero_le _, rfl, HXB, World.grownBy.refl _ _⟩
            case round =>
              clear HXB
              obtain ⟨j, hj, rfl, HX3, HG3⟩ := hrel
              rename World => w7
              by_cases hlt3 : j < cs.length
              · have HBX7 : Hid (w7.heap[gx]? = some (.cells #[.int .i64 q, .slice Au cs.length cu, .int .i64 (a : Int), .int .i64 (z : Int)] 56 (0, 0))) := (HG3.out.block gx (blk_lt HBX.out) (fun e => HNE.out (Option.some.inj e))).trans HBX.out
                obtain ⟨Ar, cr, hfr, hrow⟩ := (ChOwn.kept HU.out HG3.out (fun k hk e => by have := (HU.out.lt k hk).1; cases e; omega)).row HSM.out
                cases hfr
                obtain ⟨ad, y, hA, HY, hy1, hy2, hd0, hd1, hd2⟩ := hrow.at_ hlt3
                cases hA
                have hyk := HCK.out y (List.mem_of_getElem? HY.out)
                have HNX3 := Lib.hid (foldl_snoc (dirCh (m : Int) (a : Int) q) E cs HY.out)
                obtain ⟨ck, cv, cg⟩ := y
                dsimp only at hy1 hy2 hd0 hd1 hd2 hyk
                have HYK := Lib.hid hyk
                have HAL : Hid (Below w7.heap.size w7 (w7.alloc (.cells #[.string ck, .string cv, .bool cg] 63))) := (Below.refl _ _).alloc (Nat.le_refl _) _
                have HXC := Lib.hid (HX3.out.go HAL.out)
                have HOW := Lib.hid HXC.out.m
                have HGC : Hid (wb.grownBy (w7.alloc (.cells #[.string ck, .string cv, .bool cg] 63)) (some w1.heap.size)) := gr_trans HG3.out (World.grownBy_alloc _ _ _)
                have y0 := blk_cell (blk_new w7 (.cells #[.string ck, .string cv, .bool cg] 63)) 0
                have y2 := blk_cell (blk_new w7 (.cells #[.string ck, .string cv, .bool cg] 63)) 2
                have z0 := blk_cell (blk_below HBX7.out HAL.out) 0
                have z2 := blk_cell (blk_below HBX7.out HAL.out) 2
                have hjl : (j : Int) < (cs.length : Int) := by omega
                have HKEY : Hid (keyOf Tryz.prog 9 (.string ck) = some (.string (ub ck))) := WideMaps.keyOf_string_mk Tryz.underlying9 (s := ck) (by unfold maxLen; omega)
                have HRM : Hid (800000 * i + 40 * k + j < maxLen) := by rw [Hid]; unfold maxLen; omega
                clear hrow hyk HBX7 HX3
                generalize (cs.take j).foldl (dirCh (m : Int) (a : Int) q) E = G at HXC HNX3 HOW
                cases cg
                · go_wp2_with (at_mapUpdate; refine wpList_mapUpdate_own _ rfl _ _ _ 67 rfl 9 65 (string_keyed Tryz.underlying9) Tryz.underlying67 spElem w1.heap.size _ _ rfl HOW.out HRM.out _ _ (.string (ub ck)) rfl rfl HKEY.out (spDat (ck, (m : Int), (a : Int), q)) [] rfl ?_; intro w9 hown9 hgrow9; have HX9 := Lib.hid (HXC.out.put (x := (ck, (m : Int), (a : Int), q)) HYK.out hown9 hgrow9); have HG9 := Lib.hid (gr_trans HGC.out hgrow9); clear hown9 hgrow9)
                  go_roundw
                  case rel => first | exact ⟨j + 1, by omega, by go_num, HX9.out.same (by omega) HNX3.out, HG9⟩ | (repeat (first | (refine ⟨?relx, rfl⟩; exact ⟨j + 1, by omega, by go_num, HX9.out.same (by omega) HNX3.out, HG9⟩) | (refine ⟨?relx, ?eqs⟩; (case eqs => (and_intros <;> rfl)); exact ⟨j + 1, by omega, by go_num, HX9.out.same (by omega) HNX3.out, HG9⟩) | apply Exists.intro))
                  case measure => simp [intOf]; omega
                · go_wp2_with (at_delete; refine wpList_delete_own _ rfl _ _ 67 9 rfl 65 (string_keyed Tryz.underlying9) Tryz.underlying67 spElem w1.heap.size _ _ rfl HOW.out _ _ rfl HKEY.out ?_; intro w9 hown9 hturn9; have HX9 := Lib.hid (HXC.out.del (x := (ck, (m : Int), (a : Int), q)) HYK.out hown9 hturn9.grown); have HG9 := Lib.hid (gr_trans HGC.out hturn9.grown); clear hown9 hturn9)
                  go_roundw
                  case rel => first | exact ⟨j + 1, by omega, by go_num, HX9.out.same (by omega) HNX3.out, HG9⟩ | (repeat (first | (refine ⟨?relx, rfl⟩; exact ⟨j + 1, by omega, by go_num, HX9.out.same (by omega) HNX3.out, HG9⟩) | (refine ⟨?relx, ?eqs⟩; (case eqs => (and_intros <;> rfl)); exact ⟨j + 1, by omega, by go_num, HX9.out.same (by omega) HNX3.out, HG9⟩) | apply Exists.intro))
                  case measure => simp [intOf]; omega
              · obtain rfl : j = cs.length := by omega
                rw [List.take_length] at HX3
                have hjl : ¬ (cs.length : Int) < (cs.length : Int) := by omega
                have HG9 := Lib.hid (gr_trans HGB.out HG3.out)
                have HX9 : Hid (MX w1 (800000 * i + 40 * (k + 1)) ((pls.take (k + 1)).foldl (dirPl (m : Int)) D) w7) := HX3.out.same (by omega) HNX2.out
                go_wp2
                go_roundw
                case rel => first | exact ⟨k + 1, by omega, by go_num, HX9, HG9⟩ | (repeat (first | (refine ⟨?relx, rfl⟩; exact ⟨k + 1, by omega, by go_num, HX9, HG9⟩) | (refine ⟨?relx, ?eqs⟩; (case eqs => (and_intros <;> rfl)); exact ⟨k + 1, by omega, by go_num, HX9, HG9⟩) | apply Exists.intro))
                case measure => simp [intOf]; omega
          · obtain rfl : k = pls.length := by omega
            rw [List.take_length] at HX2
            have hkl : ¬ (pls.length : Int) < (pls.length : Int) := by omega
            have HX9 : Hid (MX w1 (800000 * (i + 1)) ((L.take (i + 1)).foldl (dirSeg fs) []) w6) := HX2.out.same (by omega) (by rw [HNX.out]; exact HDE.out D)
            go_wp2
            go_roundw
            case rel => first | exact ⟨i + 1, by omega, by go_num, HX9⟩ | (repeat (first | (refine ⟨?relx, rfl⟩; exact ⟨i + 1, by omega, by go_num, HX9⟩) | (refine ⟨?relx, ?eqs⟩; (case eqs => (and_intros <;> rfl)); exact ⟨i + 1, by omega, by go_num, HX9⟩) | apply Exists.intro))
            case measure => simp [intOf]; omega
      · obtain rfl : i = L.length := by omega
        rw [List.take_length] at HX
        have hil : ¬ (L.length : Int) < (L.length : Int) := by omega
        generalize L.foldl (dirSeg fs) [] = G at HX HDP
        have HGL := Lib.hid (Nat.le_trans HX.out.len (show 800000 * L.length ≤ 1000000000 by omega))
        go_wp2_with fail
        go_at_call 32
        refine (keysOf (some w1.heap.size) _).mono ?_
        rintro e w4 ⟨rfl, rfl⟩
        go_wp2_with fail
        go_at_call 31
        refine (sortedKeys HX.out.m HX.out.srt HGL.out).mono ?_
        rintro e w5 ⟨v5, rfl, ho5, hb5⟩
        obtain ⟨A5, c5, hv5⟩ := ho5.form
        rw [List.length_map] at hv5
        subst hv5
        have HK5 := Lib.hid ho5
        have HX5 := Lib.hid (HX.out.go hb5)
        have HWB : Hid (Below w.heap.size w w5) := (HV1.out.go HX5.out.b).from_
        clear ho5 hb5 HX
        go_wp2
        go_loopw [18, 87] (fun ov iv wr => ∃ i : Nat, i ≤ G.length ∧ iv = .int .i64 (i : Int) ∧ Hid (SpOwn wr w5.heap.size ov (G.take i)) ∧ Hid (Below w5.heap.size w5 wr)) (fun _ iv _ => G.length - (intOf iv).toNat)
        case atStart => exact ⟨0, Nat.zero_le _, rfl, World.ownsRow_nil .., Below.refl _ _⟩
        case round =>
          obtain ⟨i, hi, rfl, HO, HB⟩ := hrel
          rename World => w6
          by_cases hlt2 : i < G.length
          · obtain ⟨x, hx⟩ : ∃ x, G[i]? = some x := ⟨_, List.getElem?_eq_getElem hlt2⟩
            obtain ⟨g5, cap5, hA, hc0⟩ : ∃ g5 cap5, Value.slice A5 G.length c5 = .slice (some ⟨g5, 0, none⟩) G.length cap5 ∧ w6.cell? ⟨g5, i, none⟩ = some (.string x.1) := by
              rcases ownS_at (OwnS.below HK5.out HB.out) with ⟨_, h0⟩ | ⟨g5, cap5, hv, _, _, _, _, hc⟩
              · have := congrArg List.length h0
                rw [List.length_map] at this
                simp only [List.length_nil] at this
                omega
              · rw [List.length_map] at hv
                exact ⟨g5, cap5, hv, hc i x.1 (by rw [List.getElem?_map, hx]; rfl)⟩
            cases hA
            have hx20 := HX5.out.sm x (List.mem_of_getElem? hx)
            have hlook := look_sp (HX5.out.go HB.out).m HX5.out.srt (List.mem_of_getElem? hx) hx20
            have HT := Lib.hid (take_snoc hx)
            have HFL : Hid ((G.take i).length = i) := by rw [Hid, List.length_take]; omega
            obtain ⟨xk, xs, xa, xq⟩ := x
            dsimp only at hc0 hx20 hlook
            have hil2 : (i : Int) < (G.length : Int) := by omega
            obtain ⟨A2, c2, hv⟩ := HO.out.form
            subst hv
            have HGL2 := HGL.out
            have HAL : Hid (Below w6.heap.size w6 (w6.alloc (.cells #[.string xk, .int .i64 xs, .int .i64 xa, .int .i64 xq] 65))) := (Below.refl _ _).alloc (Nat.le_refl _) _
            have HOWN := Lib.hid (HO.out.below HAL.out)
            have HBASE := Lib.hid (Nat.le_trans HB.out.size HAL.out.size)
            have HNEWS : Hid (∀ j u, (spVals (xk, xs, xa, xq))[j]? = some u → (w6.alloc (.cells #[.string xk, .int .i64 xs, .int .i64 xa, .int .i64 xq] 65)).cell? ((⟨w6.heap.size, 0, none⟩ : Addr).add j) = some u) := World.news_of_block (heap_alloc_new w6 _)
            clear hx
            generalize G.take i = F at HO HT HFL HOWN ⊢
            have hfl : F.length ≤ 1000000000 := by rw [HFL.out]; omega
            go_wp2_with (at_builtin; refine wpList_append_lies _ rfl _ _ _ rfl w5.heap.size 65 i0 (.agg #[.string ⟨#[]⟩, .int .i64 0, .int .i64 0, .int .i64 0]) 4 40 Tryz.underlying33 hi0 hz hsz hby rfl (by omega) (.slice A2 F.length c2) F.length (spFlat F) rfl HOWN.out ⟨w6.heap.size, 0, none⟩ 1 1 (spVals (xk, xs, xa, xq)) rfl rfl HNEWS.out (by simp [Value.oneCell', spVals]) (by omega) (by unfold maxLen; omega) (by omega) HBASE.out _ rfl ?_; intro gg cap w7 hown hgrow hat hlt3; have HPU : Hid (SpOwn w7 w5.heap.size (.slice (some ⟨gg, 0, none⟩) (F.length + 1) cap) (F ++ [(xk, xs, xa, xq)])) := (by rw [Hid, SpOwn, spFlat_snoc, List.length_append]; exact hown); have HB7 := Lib.hid ((HB.out.trans (HAL.out.mono HB.out.size)).grown hgrow HBASE.out (fun k e => (HOWN.out.lt k e).1)); clear hown hgrow hat)
            go_roundw
            case rel => first | exact ⟨i + 1, by omega, by go_num, spOwn_eq HT.out HPU.out, HB7⟩ | (repeat (first | (refine ⟨?relx, rfl⟩; exact ⟨i + 1, by omega, by go_num, spOwn_eq HT.out HPU.out, HB7⟩) | (refine ⟨?relx, ?eqs⟩; (case eqs => (and_intros <;> rfl)); exact ⟨i + 1, by omega, by go_num, spOwn_eq HT.out HPU.out, HB7⟩) | apply Exists.intro))
            case measure => simp [intOf]; omega
          · obtain rfl : i = G.length := by omega
            rw [List.take_length] at HO
            have hil2 : ¬ (G.length : Int) < (G.length : Int) := by omega
            have HWF := Lib.hid (HWB.out.trans (HB.out.mono HWB.out.size))
            go_wp2
            go_ret2
            refine HDP.out _ _ ⟨_, ?_, HO.out.mono HWB.out.size, HWF.out⟩
            rw [HL.out]
            rfl
  · obtain rfl : L = [] := List.isEmpty_iff.1 hLe
    go_wp2
    go_ret2
    exact HDP.out _ _ ⟨_, rfl, World.ownsRow_nil .., HV1.out.from_⟩
end Go.Proofs.YticnhfflppkpoaaGreatDoor

namespace Go.Proofs.YticnhfflppkpoaaGreatDoor
set_option linter.unusedVariables false
set_option linter.unusedSimpArgs false
open Go.RowKit
attribute [local go_sem] bs_size List.length_cons List.length_nil List.length_append

def mText (k : Nat) : ByteArray := bs (109 :: digs k)
theorem mText_size (k : Nat) (h : k ≤ 1000000000000) : (mText k).size ≤ 40 := by
  have := digs_length 30 k (by omega)
  rw [mText, bs_size, List.length_cons]
  omega
def MkRel (n m : Nat) (s : ByteArray) : Prop := digs m ++ ub s = digs n
theorem mk_start (n : Nat) : MkRel n n ⟨#[]⟩ := by
  unfold MkRel
  rw [show ub ⟨#[]⟩ = [] from rfl, List.append_nil]
theorem mk_step {n m : Nat} {s : ByteArray} (hm : m ≠ 0) (h : MkRel n m s) : MkRel n (m / 10) (bs [48 + UInt8.ofNat (m % 10)] ++ s) := by
  unfold MkRel at h ⊢
  have e : 48 + UInt8.ofNat (m % 10) = UInt8.ofNat (48 + m % 10) := by rw [UInt8.ofNat_add]; rfl
  rw [← h, digs_step m hm, bs_app, ub_bs, e, List.append_assoc]
theorem mk_end {n : Nat} {s : ByteArray} (h : MkRel n 0 s) : (⟨#[109]⟩ : ByteArray) ++ s = mText n := by
  unfold MkRel at h
  rw [mText, ← h]
  exact bs_app s [109]
theorem mk_size {n m : Nat} {s : ByteArray} (h : MkRel n m s) (h1 : n ≤ 1000000000000) : s.size ≤ 30 := by
  have := congrArg List.length h
  rw [List.length_append, ub_length] at this
  have := digs_length 30 n (by omega)
  omega
set_option maxRecDepth 100000 in
theorem laws_markText_calls (n : Nat) (w : World) (h0 : 1 ≤ n) (h1 : n ≤ 1000000000000) :
    Calls Tryz.prog 35 #[.int .i64 (n : Int)] w fun e w' => e = .returned (.string (mText n)) ∧ Below w.heap.size w w' := by
  have kc := conv_one (P := Tryz.prog) 99 5 9 Tryz.underlying99 Tryz.underlying5 Tryz.underlying9
  go_enter Tryz.func35, Tryz.ntmps35
  go_wp2
  go_loopw [0, 3] (fun v s wr => ∃ (m : Nat) (S : ByteArray), v = .int .i64 (m : Int) ∧ s = .string S ∧ MkRel n m S ∧ m ≤ n ∧ Below w.heap.size w wr) (fun v _ _ => (intOf v).toNat)
  case atStart => exact ⟨n, _, rfl, rfl, mk_start n, Nat.le_refl _, Below.refl _ _⟩
  case round =>
    obtain ⟨m, S, rfl, rfl, hrel, hmn, hbel⟩ := hrel
    have HR := Lib.hid hrel
    have HB := Lib.hid hbel
    have hS := mk_size hrel h1
    clear hrel hbel
    by_cases hm : m = 0
    · subst hm
      go_wp2
      go_ret
      exact ⟨ret_str (mk_end HR.out), HB.out⟩
    · go_wp2
      go_roundw
      case rel => exact ⟨m / 10, _, by go_num, rfl, mk_step hm HR.out, by omega, HB.out.alloc HB.out.size _⟩
      case measure => simp [intOf]; omega

def marks (k n : Nat) : List ByteArray := (List.range n).map fun i => mText (k + i)
theorem marks_length (k n : Nat) : (marks k n).length = n := by simp [marks]
theorem marks_get {k n i : Nat} (h : i < n) : (marks k n)[i]? = some (mText (k + i)) := by simp [marks, h]
theorem marks_succ (k n : Nat) : marks k (n + 1) = marks k n ++ [mText (k + n)] := by simp [marks, List.range_succ]
theorem marks_size {k n : Nat} (h : k + n ≤ 1000000000000) : ∀ s ∈ marks k n, s.size ≤ 9223372036854775807 := by
  intro s hs
  obtain ⟨i, hi, rfl⟩ := List.mem_map.1 hs
  have := List.mem_range.1 hi
  have := mText_size (k + i) (by omega)
  omega
def MarkRel (xs : List ByteArray) (k : Nat) (b : Nat) (more : List Value) (w : World) (j : Nat) (wr : World) : Prop :=
  wr.heap[b]? = some (.cells ((marks k j ++ xs.drop j).map Value.string ++ more).toArray 9 (0, 0)) ∧ w.grownBy wr (some b)
theorem grownBy_set {w wr : World} {b : Nat} (h : w.grownBy wr (some b)) (j : Nat) (v : Value) : w.grownBy (wr.setCell ⟨b, j, none⟩ v) (some b) :=
  ⟨h.os, h.tape, h.output, by simpa using h.size, fun i hi hne => (Below.heap_setCell wr ⟨b, j, none⟩ v i (fun e => hne (by rw [e]))).trans (h.block i hi hne)⟩
theorem grownBy_below {w wr w' : World} {row : Option Nat} (h : w.grownBy wr row) (hb : Below wr.heap.size wr w') : w.grownBy w' row :=
  ⟨hb.os.trans h.os, hb.tape.trans h.tape, hb.output.trans h.output, Nat.le_trans h.size hb.size, fun i hi hne => (hb.block i (Nat.lt_of_lt_of_le hi h.size)).trans (h.block i hi hne)⟩
theorem mark_step {xs : List ByteArray} {k b j : Nat} {more : List Value} {w wr : World} (h : MarkRel xs k b more w j wr) (hj : j < xs.length) : MarkRel xs k b more w (j + 1) (wr.setCell ⟨b, j, none⟩ (.string (mText (k + j)))) := by
  refine ⟨?_, grownBy_set h.2 _ _⟩
  rw [blk_set h.1]
  congr 2
  rw [marks_succ]
  apply Array.ext'
  rw [Array.toList_setIfInBounds]
  simp only [List.map_append, List.append_assoc]
  have hl : ((marks k j).map Value.string).length = j := by rw [List.length_map, marks_length]
  rw [List.set_append_right _ _ (by omega), hl, Nat.sub_self, List.drop_eq_getElem_cons hj]
  rfl
theorem mark_cell {xs : List ByteArray} {k j : Nat} {more : List Value} (hj : j < xs.length) : ((marks k j ++ xs.drop j).map Value.string ++ more).toArray[j]? = some (.string (xs[j]'hj)) := by
  rw [List.getElem?_toArray, List.getElem?_append_left (by simp [marks_length]; omega), List.getElem?_map, List.getElem?_append_right (by rw [marks_length]; exact Nat.le_refl _), marks_length, Nat.sub_self, List.getElem?_drop]
  simp [hj]
theorem mark_below {xs : List ByteArray} {k b j : Nat} {more : List Value} {w wr w' : World} (h : MarkRel xs k b more w j wr) (hb : Below wr.heap.size wr w') : MarkRel xs k b more w j w' :=
  ⟨blk_below h.1 hb, grownBy_below h.2 hb⟩
/-- What markStringS does: the slice has the marks from k on; its block and new ones apart, nothing else is another. -/
def Marked (w : World) (B : Nat) (v : Value) (k n : Nat) (e : Ending) (w' : World) : Prop := e = .returned (.int .i64 ((k + n : Nat) : Int)) ∧ StrOwn w' B v (marks k n) ∧ w.grownBy w' v.ownBlock
theorem mark_end {xs : List ByteArray} {k b B c : Nat} {more : List Value} {w wr : World} (h : MarkRel xs k b more w xs.length wr) (hc : xs.length + more.length = c) (hm : c ≤ 9223372036854775807) (hB : B ≤ b) :
    Marked w B (.slice (some ⟨b, 0, none⟩) xs.length c) k xs.length (.returned (.int .i64 ((k + xs.length : Nat) : Int))) wr := by
  refine ⟨rfl, .inr ⟨b, c, by rw [marks_length], hB, more, ?_, by rw [marks_length]; exact hc, hm⟩, h.2⟩
  have := h.1
  rw [List.drop_length, List.append_nil] at this
  exact this
end Go.Proofs.YticnhfflppkpoaaGreatDoor

namespace Go.Proofs.YticnhfflppkpoaaGreatDoor
set_option linter.unusedVariables false
set_option linter.unusedSimpArgs false
open Go.RowKit

/-- A block under marking: the cells ahead, those of the element in hand, those behind. -/
def MkAt (w wr : World) (b : Nat) (ty : TypeId) (P M R : List Value) : Prop := wr.heap[b]? = some (.cells (P ++ (M ++ R)).toArray ty (0, 0)) ∧ w.grownBy wr (some b)
theorem MkAt.cell {w wr : World} {b : Nat} {ty : TypeId} {P M R : List Value} (h : MkAt w wr b ty P M R) (d i : Nat) (hi : i = P.length + d) (hd : d < M.length) : wr.cell? ⟨b, i, none⟩ = M[d]? := by
  subst hi
  rw [blk_cell h.1, List.getElem?_toArray, List.getElem?_append_right (Nat.le_add_right ..), Nat.add_sub_cancel_left, List.getElem?_append_left hd]
theorem MkAt.set {w wr : World} {b : Nat} {ty : TypeId} {P M R : List Value} (h : MkAt w wr b ty P M R) (d i : Nat) (hi : i = P.length + d) (hd : d < M.length) (x : Value) : MkAt w (wr.setCell ⟨b, i, none⟩ x) b ty P (M.set d x) R := by
  subst hi
  refine ⟨?_, grownBy_set h.2 _ _⟩
  rw [blk_set h.1]
  congr 2
  apply Array.ext'
  rw [Array.toList_setIfInBounds]
  show (P ++ (M ++ R)).set (P.length + d) x = P ++ (M.set d x ++ R)
  rw [List.set_append_right _ _ (Nat.le_add_right ..), Nat.add_sub_cancel_left, List.set_append_left _ _ hd]
theorem MkAt.below {w wr w' : World} {b : Nat} {ty : TypeId} {P M R : List Value} (h : MkAt w wr b ty P M R) (hb : Below wr.heap.size wr w') : MkAt w w' b ty P M R := ⟨blk_below h.1 hb, grownBy_below h.2 hb⟩
theorem MkAt.fz {w wr : World} {b : Nat} {ty : TypeId} {P M R : List Value} (h : MkAt w wr b ty P M R) (i : Nat) : wr.frozen? ⟨b, i, none⟩ = false := blk_frozen h.1 i
theorem MkAt.next {w wr : World} {b : Nat} {ty : TypeId} {P M R M' R' : List Value} (h : MkAt w wr b ty P M R) (e : R = M' ++ R') : MkAt w wr b ty (P ++ M) M' R' := by
  subst e
  unfold MkAt at h ⊢
  rw [List.append_assoc]
  exact h
end Go.Proofs.YticnhfflppkpoaaGreatDoor

namespace Go.Proofs.YticnhfflppkpoaaGreatDoor
set_option linter.unusedVariables false
set_option linter.unusedSimpArgs false
open Go.RowKit
attribute [local go_sem] bs_size List.length_cons List.length_nil List.length_append

/-- A block of n files. -/
def FBlk (w : World) (b n : Nat) : Prop := ∃ cs : Array Value, w.heap[b]? = some (.cells cs 79 (0, 0)) ∧ cs.size = n * 3
section
variable {w w' : World} {b n : Nat}
theorem FBlk.below (h : FBlk w b n) (hb : Below w.heap.size w w') : FBlk w' b n := by
  obtain ⟨cs, h1, h2⟩ := h
  exact ⟨cs, blk_below h1 hb, h2⟩
theorem FBlk.set (h : FBlk w b n) (i : Nat) (v : Value) : FBlk (w.setCell ⟨b, i, none⟩ v) b n := by
  obtain ⟨cs, h1, h2⟩ := h
  exact ⟨_, blk_set h1 i v, by simp [h2]⟩
theorem FBlk.other {g i : Nat} {v : Value} (h : FBlk w b n) (hne : b ≠ g) : FBlk (w.setCell ⟨g, i, none⟩ v) b n := by
  obtain ⟨cs, h1, h2⟩ := h
  exact ⟨cs, set_far h1 hne, h2⟩
theorem FBlk.at_ (h : FBlk w b n) {i : Nat} (hi : i < n * 3) : ∃ a, w.cell? ⟨b, i, none⟩ = some a ∧ w.frozen? ⟨b, i, none⟩ = false := by
  obtain ⟨cs, h1, h2⟩ := h
  exact ⟨cs[i]'(by omega), (blk_cell h1 i).trans (Array.getElem?_eq_getElem (by omega)), blk_frozen h1 i⟩
theorem FBlk.lt (h : FBlk w b n) : b < w.heap.size := by
  obtain ⟨cs, h1, _⟩ := h
  exact blk_lt h1
end
theorem FBlk.of {fs : List FiD} {B : Nat} {w wr : World} (h : ToF fs B w fs.length wr) : FBlk wr B fs.length := by
  obtain ⟨_, cs, h2, h3, _⟩ := h
  exact ⟨cs, h2, h3⟩
def NewFs2 (w : World) (fs : List FiD) (e : Ending) (w' : World) : Prop := ∃ b, e = .returned (.slice (some ⟨b, 0, none⟩) fs.length fs.length) ∧ w.heap.size ≤ b ∧ FiRow w' (some ⟨b, 0, none⟩) fs.length fs ∧ FBlk w' b fs.length ∧ Below w.heap.size w w'
def DiskNew2 (w : World) (fs : List FiD) (e : Ending) (w' : World) : Prop := ∃ b, e = .returned (.agg #[.slice (some ⟨b, 0, none⟩) fs.length fs.length]) ∧ w.heap.size ≤ b ∧ FiRow w' (some ⟨b, 0, none⟩) fs.length fs ∧ FBlk w' b fs.length ∧ Below w.heap.size w w'
set_option maxHeartbeats 1000000 in
set_option maxRecDepth 100000 in
theorem laws_toFileS_own (A : Option Addr) (c : Nat) (fs : List FiD) (w : World) (h : FiRow w A c fs) (hn : fs.length ≤ 1048576) :
    Calls Tryz.prog 19 #[.slice A fs.length c] w (NewFs2 w fs) := by
  obtain ⟨i0, hi0, hz, hsz, hby⟩ := info_parts info_fil
  have HR := Lib.hid h
  clear h
  have km : ∀ W : World, (Instr.makeSlice 27 (.int .i64 (fs.length : Int)) (.int .i64 (fs.length : Int))).run Tryz.prog W = .ok (.slice (some ⟨W.heap.size, 0, none⟩) fs.length fs.length) (W.alloc (.cells (madeCells #[.string ⟨#[]⟩, .string ⟨#[]⟩, .int .i64 0] (fs.length * 3)) 79)) := fun W => by
    have := run_make (P := Tryz.prog) W 27 79 i0 _ Tryz.underlying27 hi0 hz .i64 .i64 fs.length fs.length (by omega) (Int.le_refl _) (by rw [hby]; omega) (by omega)
    rw [hsz] at this
    simp only [Int.toNat_natCast] at this
    exact this
  go_enter Tryz.func19, Tryz.ntmps19
  go_wp2
  go_loopw [4] (fun i wr => ∃ k : Nat, k ≤ fs.length ∧ i = .int .i64 k ∧ Hid (ToF fs w.heap.size w k wr)) (fun i _ => fs.length - (intOf i).toNat)
  case atStart => exact ⟨0, Nat.zero_le _, rfl, (Below.refl _ _).alloc (Nat.le_refl _) _, _, blk_new w _, size_madeCells _ _, fun j x hj => by omega⟩
  case round =>
    obtain ⟨k, hk, rfl, HT⟩ := hrel
    by_cases hlt : k < fs.length
    · obtain ⟨ad, x, hA, HX, hz1, hz2, hc0, hc1, hc2⟩ := (HR.out.below HT.out.1).at_ hlt
      cases hA
      obtain ⟨n, t, g⟩ := x
      dsimp only at hz1 hz2 hc0 hc1 hc2
      go_wp2_with fail
      go_at_call 39
      refine (laws_toFile_calls n t g _).mono ?_
      rintro e w1 ⟨rfl, hb⟩
      have HT1 := Lib.hid (HT.out.below HT.out.lt (Nat.le_of_lt HT.out.lt) hb)
      obtain ⟨a0, a1, a2, d0, d1, d2, f0, f1, f2⟩ := HT1.out.cells hlt
      have HT2 := Lib.hid (HT1.out.step HX.out)
      clear hb
      go_wp2
      go_roundw
      case rel => first | exact ⟨k + 1, by omega, by go_num, HT2⟩ | (repeat (first | (refine ⟨?relx, rfl⟩; exact ⟨k + 1, by omega, by go_num, HT2⟩) | (refine ⟨?relx, ?eqs⟩; (case eqs => (and_intros <;> rfl)); exact ⟨k + 1, by omega, by go_num, HT2⟩) | apply Exists.intro))
      case measure => simp [intOf]; omega
    · obtain rfl : k = fs.length := by omega
      have hrow := HT.out.row HR.out.2.2.1 hn
      have HROW := Lib.hid hrow
      have HTB := Lib.hid (FBlk.of HT.out)
      clear hrow
      go_wp2
      go_ret
      exact ⟨_, rfl, Nat.le_refl _, HROW.out, HTB.out, HT.out.1⟩
set_option maxRecDepth 100000 in
theorem laws_toDisk_own (A : Option Addr) (c : Nat) (fs : List FiD) (w : World) (h : FiRow w A c fs) (hn : fs.length ≤ 1048576) :
    Calls Tryz.prog 7 #[.agg #[.slice A fs.length c]] w (DiskNew2 w fs) := by
  obtain ⟨fsx, hu⟩ := und_disk
  have s1 : (w.alloc (.cells #[.slice A fs.length c] 24)).heap.size = w.heap.size + 1 := by simp
  have s2 : ((w.alloc (.cells #[.slice A fs.length c] 24)).alloc zDisk).heap.size = w.heap.size + 1 + 1 := by simp
  have HAL : Hid (Below w.heap.size w (((w.alloc (.cells #[.slice A fs.length c] 24)).alloc zDisk).alloc zDisk)) := (((Below.refl _ _).alloc (Nat.le_refl _) _).alloc (by simp) _).alloc (by simp; omega) _
  have HR := Lib.hid (h.below HAL.out)
  have k1 : Hid ((((w.alloc (.cells #[.slice A fs.length c] 24)).alloc zDisk).alloc zDisk).heap[w.heap.size + 1]? = some zDisk) := by
    have := blk_new (w.alloc (.cells #[.slice A fs.length c] 24)) zDisk
    rw [s1] at this
    exact alloc_far this _
  have k2 : Hid ((((w.alloc (.cells #[.slice A fs.length c] 24)).alloc zDisk).alloc zDisk).heap[w.heap.size + 1 + 1]? = some zDisk) := by
    have := blk_new ((w.alloc (.cells #[.slice A fs.length c] 24)).alloc zDisk) zDisk
    rw [s2] at this
    exact this
  have HS : Hid ((((w.alloc (.cells #[.slice A fs.length c] 24)).alloc zDisk).alloc zDisk).heap.size = w.heap.size + 3) := by rw [Hid]; simp
  clear h s1 s2
  go_enter Tryz.func7, Tryz.ntmps7
  go_wp2_with fail
  go_at_call 19
  refine (laws_toFileS_own A c fs _ HR.out hn).mono ?_
  rintro e w1 ⟨b, rfl, hb0, hrow, hfb, hb⟩
  have HFB := Lib.hid hfb
  have K1 := Lib.hid (blk_below k1.out hb)
  have K2 := Lib.hid (blk_below k2.out hb)
  have HROW := Lib.hid hrow
  have HB0 : Hid (w.heap.size + 3 ≤ b) := by rw [Hid, ← HS.out]; exact hb0
  have HB1 := Lib.hid (HAL.out.trans (hb.mono HAL.out.size))
  have f1 := blk_frozen K1.out 0
  have c1 := blk_cell K1.out 0
  have f2 := blk_frozen K2.out 0
  have c2 := blk_cell K2.out 0
  clear hb hb0 hrow hfb
  go_wp2
  have hne : w.heap.size + 1 ≠ w.heap.size + 1 + 1 := by omega
  have hset : ((w1.setCell ⟨w.heap.size + 1 + 1, 0, none⟩ (.slice (some ⟨b, 0, none⟩) fs.length fs.length)).setCell ⟨w.heap.size + 1, 0, none⟩ (.slice (some ⟨b, 0, none⟩) fs.length fs.length)).heap[w.heap.size + 1]? = some (.cells #[.slice (some ⟨b, 0, none⟩) fs.length fs.length] 29 (0, 0)) := by
    rw [blk_set (set_far K1.out hne) 0]
    rfl
  have hb3 := HB0.out
  exact res_one rfl hset rfl hu info_dsk ⟨b, rfl, by omega, (HROW.out.set (by omega)).set (by omega), (HFB.out.other (by omega)).other (by omega), (HB1.out.setCell (by show w.heap.size ≤ w.heap.size + 1 + 1; omega) _).setCell (by show w.heap.size ≤ w.heap.size + 1; omega) _⟩
set_option maxHeartbeats 1000000 in
set_option maxRecDepth 100000 in
theorem laws_markFileS_calls (b n k : Nat) (w : World) (h : FBlk w b n) (h0 : 1 ≤ k) (h1 : k + n * 3 ≤ 1000000000) :
    Calls Tryz.prog 34 #[.slice (some ⟨b, 0, none⟩) n n, .int .i64 (k : Int)] w fun e w' => e = .returned (.int .i64 ((k + n * 3 : Nat) : Int)) ∧ w.grownBy w' (some b) := by
  have HF := Lib.hid h
  clear h
  go_enter Tryz.func34, Tryz.ntmps34
  go_wp2
  go_loopw [1, 5] (fun q i wr => ∃ j : Nat, j ≤ n ∧ i = .int .i64 j ∧ q = .int .i64 ((k + j * 3 : Nat) : Int) ∧ Hid (FBlk wr b n) ∧ Hid (w.grownBy wr (some b))) (fun _ i _ => n - (intOf i).toNat)
  case atStart => exact ⟨0, Nat.zero_le _, rfl, by go_num, HF, World.grownBy.refl _ _⟩
  case round =>
    obtain ⟨j, hj, rfl, rfl, HB, HG⟩ := hrel
    by_cases hlt : j < n
    · go_wp2_with fail
      go_at_call 35
      refine (laws_markText_calls (k + j * 3) _ (by omega) (by omega)).mono ?_
      rintro e w1 ⟨rfl, hb⟩
      have HB1 := Lib.hid (HB.out.below hb)
      have HG1 := Lib.hid (grownBy_below HG.out hb)
      obtain ⟨a0, c0, f0⟩ := HB1.out.at_ (i := j * 3) (by omega)
      have HB2 := Lib.hid (HB1.out.set (j * 3) (.string (mText (k + j * 3))))
      have HG2 := Lib.hid (grownBy_set HG1.out (j * 3) (.string (mText (k + j * 3))))
      clear hb
      go_wp2_with fail
      go_at_call 35
      rw [show (k : Int) + (j : Int) * 3 + 1 = ((k + j * 3 + 1 : Nat) : Int) by omega]
      refine (laws_markText_calls (k + j * 3 + 1) _ (by omega) (by omega)).mono ?_
      rintro e w2 ⟨rfl, hb⟩
      have HB3 := Lib.hid (HB2.out.below hb)
      have HG3 := Lib.hid (grownBy_below HG2.out hb)
      obtain ⟨a1, c1, f1⟩ := HB3.out.at_ (i := j * 3 + 1) (by omega)
      have HB4 := Lib.hid (HB3.out.set (j * 3 + 1) (.string (mText (k + j * 3 + 1))))
      have HG4 := Lib.hid (grownBy_set HG3.out (j * 3 + 1) (.string (mText (k + j * 3 + 1))))
      obtain ⟨a2, c2, f2⟩ := HB4.out.at_ (i := j * 3 + 2) (by omega)
      have HB5 := Lib.hid (fun v => HB4.out.set (j * 3 + 2) v)
      have HG5 := Lib.hid (fun v => grownBy_set HG4.out (j * 3 + 2) v)
      clear hb
      go_wp2
      go_roundw
      case rel => exact ⟨j + 1, by omega, by go_num, by go_num, HB5.out _, HG5.out _⟩
      case measure => simp [intOf]; omega
    · obtain rfl : j = n := by omega
      go_wp2
      go_ret
      exact ⟨by go_num, HG.out⟩
set_option maxRecDepth 100000 in
theorem laws_markDisk_calls (b n k : Nat) (w : World) (h : FBlk w b n) (h0 : 1 ≤ k) (h1 : k + n * 3 ≤ 1000000000) :
    Calls Tryz.prog 13 #[.agg #[.slice (some ⟨b, 0, none⟩) n n], .int .i64 (k : Int)] w fun e w' => e = .returned (.int .i64 ((k + n * 3 : Nat) : Int)) ∧ w.grownBy w' (some b) := by
  have HAL : Hid (Below w.heap.size w (w.alloc (.cells #[.slice (some ⟨b, 0, none⟩) n n] 29))) := (Below.refl _ _).alloc (Nat.le_refl _) _
  have HF := Lib.hid (h.below HAL.out)
  clear h
  go_enter Tryz.func13, Tryz.ntmps13
  go_wp2_with fail
  go_at_call 34
  refine (laws_markFileS_calls b n k _ HF.out h0 h1).mono ?_
  rintro e w1 ⟨rfl, hg⟩
  have HG := Lib.hid (gr_trans (World.grownBy_alloc w (.cells #[.slice (some ⟨b, 0, none⟩) n n] 29) (some b)) hg)
  clear hg
  go_wp2
  go_ret
  exact ⟨rfl, HG.out⟩
end Go.Proofs.YticnhfflppkpoaaGreatDoor

namespace Go.Proofs.YticnhfflppkpoaaGreatDoor
set_option linter.unusedVariables false
set_option linter.unusedSimpArgs false
open Go.RowKit
attribute [local go_sem] bs_size List.length_cons List.length_nil List.length_append

theorem laws_eqSpot_calls (k : ByteArray) (g p q : Int) (w : World) :
    Calls Tryz.prog 33 #[.agg #[.string k, .int .i64 g, .int .i64 p, .int .i64 q], .agg #[.string k, .int .i64 g, .int .i64 p, .int .i64 q]] w fun e w' => e = .returned (.bool true) ∧ Below w.heap.size w w' := by
  have h1 : (g != g) = false := by simp
  have h2 : (p != p) = false := by simp
  have h3 : (q != q) = false := by simp
  go_enter Tryz.func33, Tryz.ntmps33
  go_wp2
  go_ret
  exact ⟨rfl, ((Below.refl _ _).alloc (Nat.le_refl _) _).alloc (by simp) _⟩
theorem keep4 {w w' : World} {a b c d : Addr} {x y z u : Value} (h : w.cell? a = some x ∧ w.cell? b = some y ∧ w.cell? c = some z ∧ w.cell? d = some u) (hb : Below w.heap.size w w') : w'.cell? a = some x ∧ w'.cell? b = some y ∧ w'.cell? c = some z ∧ w'.cell? d = some u := by
  have k : ∀ {a : Addr} {x : Value}, w.cell? a = some x → w'.cell? a = some x := fun h => (hb.cell (World.block_lt_of_cell? w _ h)).trans h
  exact ⟨k h.1, k h.2.1, k h.2.2.1, k h.2.2.2⟩
/-- Four cells of a spot at an address. -/
def SpCells (w : World) (ad : Addr) (x : SpotD) : Prop := w.cell? ad = some (.string x.1) ∧ w.cell? ⟨ad.block, ad.off + 1, none⟩ = some (.int .i64 x.2.1) ∧ w.cell? ⟨ad.block, ad.off + 2, none⟩ = some (.int .i64 x.2.2.1) ∧ w.cell? ⟨ad.block, ad.off + 3, none⟩ = some (.int .i64 x.2.2.2)
set_option maxHeartbeats 4000000 in
set_option maxRecDepth 100000 in
theorem laws_eqSpotS_calls (A : Option Addr) (c : Nat) (A' : Option Addr) (c' : Nat) (ds : List SpotD) (w : World) (h : SpRow w A c ds) (h' : SpRow w A' c' ds) :
    Calls Tryz.prog 12 #[.slice A ds.length c, .slice A' ds.length c'] w fun e w' => e = .returned (.bool true) ∧ Below w.heap.size w w' := by
  have hl := h.len
  have HR := Lib.hid h
  have HR' := Lib.hid h'
  have hb2 : ((ds.length : Int) != (ds.length : Int)) = false := by simp
  clear h h'
  go_enter Tryz.func12, Tryz.ntmps12
  go_wp2
  go_loopw [5] (fun iv wr => ∃ i : Nat, i ≤ ds.length ∧ iv = .int .i64 (i : Int) ∧ Below w.heap.size w wr) (fun iv _ => ds.length - (intOf iv).toNat)
  case atStart => exact ⟨0, Nat.zero_le _, rfl, Below.refl _ _⟩
  case round =>
    obtain ⟨i, hi, rfl, hbel⟩ := hrel
    have HB := Lib.hid hbel
    by_cases hlt : i < ds.length
    · obtain ⟨ad, x, hA, HX, hz1, hc0, hc1, hc2, hc3⟩ := (HR.out.below hbel).at_ hlt
      obtain ⟨ad', y, hA', HY, _, hd0, hd1, hd2, hd3⟩ := (HR'.out.below hbel).at_ hlt
      obtain rfl : x = y := Option.some.inj (HX.out.symm.trans HY.out)
      clear hbel
      cases hA
      cases hA'
      obtain ⟨k, g, p, q⟩ := x
      dsimp only at hz1 hc0 hc1 hc2 hc3 hd0 hd1 hd2 hd3
      have hli : (i : Int) < (ds.length : Int) := by omega
      have HH0 : Hid (Below wr.heap.size wr wr.drew) := Below.drew (Below.refl _ _)
      have H8 := Lib.hid (And.intro (And.intro hc0 (And.intro hc1 (And.intro hc2 hc3))) (And.intro hd0 (And.intro hd1 (And.intro hd2 hd3))))
      go_wp2_with fail
      go_region_held3 (fun w' => (w'.cell? (ad.add (i * 4)) = some (.string k) ∧ w'.cell? ⟨(ad.add (i * 4)).block, (ad.add (i * 4)).off + 1, none⟩ = some (.int .i64 g) ∧ w'.cell? ⟨(ad.add (i * 4)).block, (ad.add (i * 4)).off + 2, none⟩ = some (.int .i64 p) ∧ w'.cell? ⟨(ad.add (i * 4)).block, (ad.add (i * 4)).off + 3, none⟩ = some (.int .i64 q)) ∧ (w'.cell? (ad'.add (i * 4)) = some (.string k) ∧ w'.cell? ⟨(ad'.add (i * 4)).block, (ad'.add (i * 4)).off + 1, none⟩ = some (.int .i64 g) ∧ w'.cell? ⟨(ad'.add (i * 4)).block, (ad'.add (i * 4)).off + 2, none⟩ = some (.int .i64 p) ∧ w'.cell? ⟨(ad'.add (i * 4)).block, (ad'.add (i * 4)).off + 3, none⟩ = some (.int .i64 q)) ∧ Hid (Below wr.heap.size wr w')) (first | exact ⟨keep4 H8.out.1 HH0.out, keep4 H8.out.2 HH0.out, HH0⟩ | exact ⟨keep4 H8.out.1 (HH0.out.trans (hb.mono (Nat.le_refl _))), keep4 H8.out.2 (HH0.out.trans (hb.mono (Nat.le_refl _))), Lib.hid (HH0.out.trans (hb.mono (Nat.le_refl _)))⟩) (first | (go_at_call 33; refine (laws_eqSpot_calls k g p q _).mono ?_; rintro e w' ⟨rfl, hb⟩))
      have HKB := And.right (And.right ‹_ ∧ _ ∧ Hid (Below wr.heap.size wr _)›)
      go_wp2
      go_roundw
      case rel => first | exact ⟨i + 1, by omega, by go_num, HB.out.trans (HKB.out.mono HB.out.size)⟩ | (repeat (first | (refine ⟨?relx, rfl⟩; exact ⟨i + 1, by omega, by go_num, HB.out.trans (HKB.out.mono HB.out.size)⟩) | (refine ⟨?relx, ?eqs⟩; (case eqs => (and_intros <;> rfl)); exact ⟨i + 1, by omega, by go_num, HB.out.trans (HKB.out.mono HB.out.size)⟩) | apply Exists.intro))
      case measure => simp [intOf]; omega
    · obtain rfl : i = ds.length := by omega
      clear hbel
      go_wp2
      go_ret
      exact ⟨rfl, HB.out⟩
def mkSp (k : Nat) : SpotD := (mText k, ((k + 1 : Nat) : Int), ((k + 2 : Nat) : Int), ((k + 3 : Nat) : Int))
def marksSp (k n : Nat) : List SpotD := (List.range n).map fun i => mkSp (k + i * 4)
theorem marksSp_length (k n : Nat) : (marksSp k n).length = n := by simp [marksSp]
theorem marksSp_get {k n i : Nat} (h : i < n) : (marksSp k n)[i]? = some (mkSp (k + i * 4)) := by simp [marksSp, h]
theorem marksSp_succ (k n : Nat) : marksSp k (n + 1) = marksSp k n ++ [mkSp (k + n * 4)] := by simp [marksSp, List.range_succ]
theorem marksSp_small {k n : Nat} (h : k + n * 4 ≤ 1000000000000) : ∀ x ∈ marksSp k n, x.1.size ≤ 9223372036854775807 := by
  intro s hs
  obtain ⟨i, hi, rfl⟩ := List.mem_map.1 hs
  have := List.mem_range.1 hi
  have h1 := mText_size (k + i * 4) (by omega)
  show (mText (k + i * 4)).size ≤ _
  omega
theorem spFlat_drop {ds : List SpotD} {j : Nat} (h : j < ds.length) (more : List Value) : spFlat (ds.drop j) ++ more = spVals ds[j] ++ (spFlat (ds.drop (j + 1)) ++ more) := by
  unfold spFlat
  rw [List.drop_eq_getElem_cons h, List.map_cons, List.flatten_cons, List.append_assoc]
/-- What markSpotS does. -/
def MarkedSp (w : World) (B : Nat) (v : Value) (k n : Nat) (e : Ending) (w' : World) : Prop := e = .returned (.int .i64 ((k + n * 4 : Nat) : Int)) ∧ SpOwn w' B v (marksSp k n) ∧ w.grownBy w' v.ownBlock
theorem markSp_next {w wr : World} {b : Nat} {ty : TypeId} {k j : Nat} {x : SpotD} {R : List Value} {v1 v2 v3 : Int} (h : MkAt w wr b ty (spFlat (marksSp k j)) (((((spVals x).set 0 (.string (mText (k + j * 4)))).set 1 (.int .i64 v1)).set 2 (.int .i64 v2)).set 3 (.int .i64 v3)) R) (h1 : v1 = ((k + j * 4 + 1 : Nat) : Int)) (h2 : v2 = ((k + j * 4 + 2 : Nat) : Int)) (h3 : v3 = ((k + j * 4 + 3 : Nat) : Int)) : MkAt w wr b ty (spFlat (marksSp k (j + 1))) [] R := by
  subst h1 h2 h3
  rw [marksSp_succ, spFlat_snoc]
  exact h.next (M' := []) rfl
theorem markSp_end {ds : List SpotD} {k b B c : Nat} {more : List Value} {w wr : World} (h : MkAt w wr b 65 (spFlat (marksSp k ds.length)) [] (spFlat (ds.drop ds.length) ++ more)) (hc : (spFlat ds ++ more).length = c * 4) (hm : c ≤ maxLen) (hB : B ≤ b) :
    MarkedSp w B (.slice (some ⟨b, 0, none⟩) ds.length c) k ds.length (.returned (.int .i64 ((k + ds.length * 4 : Nat) : Int))) wr := by
  have hl : (spFlat (marksSp k ds.length)).length = ds.length * 4 := by rw [spFlat_len, marksSp_length]
  have h1 := h.1
  rw [List.drop_length, List.nil_append, show spFlat ([] : List SpotD) = [] from rfl, List.nil_append] at h1
  rw [List.length_append, spFlat_len] at hc
  refine ⟨rfl, ⟨by rw [marksSp_length]; exact hl, .inr ⟨b, c, _, by rw [marksSp_length], hB, h1, by rw [marksSp_length]; omega, hm, by simp [hl]; omega, ?_⟩⟩, h.2⟩
  rw [marksSp_length, ← hl]
  exact List.take_left' rfl
set_option maxHeartbeats 1000000 in
set_option maxRecDepth 100000 in
theorem laws_markSpotS_calls (B : Nat) (v : Value) (ds : List SpotD) (k : Nat) (w : World) (h : SpOwn w B v ds) (h0 : 1 ≤ k) (h1 : k + ds.length * 4 ≤ 1000000000000) :
    Calls Tryz.prog 14 #[v, .int .i64 (k : Int)] w (MarkedSp w B v k ds.length) := by
  have hfl := h.1
  rcases h.2 with ⟨rfl, h00⟩ | ⟨b, c, cur, rfl, hB, hg, hn, hm, hc, ht⟩
  · obtain rfl := List.eq_nil_of_length_eq_zero h00
    go_enter Tryz.func14, Tryz.ntmps14
    go_wp2
    refine wp_loop_rounds 1 ?_
    rw [rounds_succ]
    go_wp2
    go_ret
    exact ⟨rfl, World.ownsRow_nil _ _ _ _, ⟨rfl, rfl, rfl, Nat.le_refl _, fun _ _ _ => rfl⟩⟩
  · have hl : ds.length ≤ 1000000000000 := by omega
    obtain ⟨more, hcur⟩ : ∃ more : List Value, cur.toList = spFlat ds ++ more := ⟨cur.toList.drop (ds.length * 4), by rw [← ht, List.take_append_drop]⟩
    have hblk : w.heap[b]? = some (.cells (spFlat ds ++ more).toArray 65 (0, 0)) := by rw [hg, ← hcur]
    have hst : Hid (MkAt w w b 65 (spFlat (marksSp k 0)) [] (spFlat (ds.drop 0) ++ more)) := ⟨hblk, rfl, rfl, rfl, Nat.le_refl _, fun _ _ _ => rfl⟩
    have HC : Hid ((spFlat ds ++ more).length = c * 4) := by rw [Hid, ← hcur, Array.length_toList]; exact hc
    clear hblk hc ht hcur hg hfl
    go_enter Tryz.func14, Tryz.ntmps14
    go_wp2
    go_loopw [1, 5] (fun q i wr => ∃ j : Nat, j ≤ ds.length ∧ i = .int .i64 j ∧ q = .int .i64 ((k + j * 4 : Nat) : Int) ∧ MkAt w wr b 65 (spFlat (marksSp k j)) [] (spFlat (ds.drop j) ++ more)) (fun _ i _ => ds.length - (intOf i).toNat)
    case atStart => exact ⟨0, Nat.zero_le _, rfl, by go_num, hst.out⟩
    case round =>
      obtain ⟨j, hj, rfl, rfl, hrel⟩ := hrel
      by_cases hlt : j < ds.length
      · have hrel' : MkAt w wr b 65 (spFlat (marksSp k j)) (spVals ds[j]) (spFlat (ds.drop (j + 1)) ++ more) := by
          have := hrel.next (M' := spVals ds[j]) (R' := spFlat (ds.drop (j + 1)) ++ more) (spFlat_drop hlt more)
          rwa [List.append_nil] at this
        have hPl : (spFlat (marksSp k j)).length = j * 4 := by rw [spFlat_len, marksSp_length]
        have HP := Lib.hid hPl
        have HT := Lib.hid hrel'
        clear hrel hrel' hPl
        go_wp2_with fail
        go_at_call 35
        refine (laws_markText_calls (k + j * 4) _ (by omega) (by omega)).mono ?_
        rintro e w1 ⟨rfl, hb⟩
        have HT1 := Lib.hid (HT.out.below hb)
        clear hb
        have f0 := HT1.out.fz (j * 4)
        have c0 := HT1.out.cell 0 (j * 4) (by rw [HP.out]; rfl) (by simp [spVals])
        rw [show (spVals ds[j])[0]? = some (.string ds[j].1) from rfl] at c0
        have HT2 := Lib.hid (HT1.out.set 0 (j * 4) (by rw [HP.out]; rfl) (by simp [spVals]) (.string (mText (k + j * 4))))
        have f1 := HT2.out.fz (j * 4 + 1)
        have c1 := HT2.out.cell 1 (j * 4 + 1) (by rw [HP.out]) (by simp [spVals])
        rw [show ((spVals ds[j]).set 0 (.string (mText (k + j * 4))))[1]? = some (.int .i64 ds[j].2.1) from rfl] at c1
        have HT3 := Lib.hid (HT2.out.set 1 (j * 4 + 1) (by rw [HP.out]) (by simp [spVals]) (.int .i64 ((k : Int) + (j : Int) * 4 + 1)))
        have f2 := HT3.out.fz (j * 4 + 2)
        have c2 := HT3.out.cell 2 (j * 4 + 2) (by rw [HP.out]) (by simp [spVals])
        rw [show (((spVals ds[j]).set 0 (.string (mText (k + j * 4)))).set 1 (.int .i64 ((k : Int) + (j : Int) * 4 + 1)))[2]? = some (.int .i64 ds[j].2.2.1) from rfl] at c2
        have HT4 := Lib.hid (HT3.out.set 2 (j * 4 + 2) (by rw [HP.out]) (by simp [spVals]) (.int .i64 ((k : Int) + (j : Int) * 4 + 1 + 1)))
        have f3 := HT4.out.fz (j * 4 + 3)
        have c3 := HT4.out.cell 3 (j * 4 + 3) (by rw [HP.out]) (by simp [spVals])
        rw [show ((((spVals ds[j]).set 0 (.string (mText (k + j * 4)))).set 1 (.int .i64 ((k : Int) + (j : Int) * 4 + 1))).set 2 (.int .i64 ((k : Int) + (j : Int) * 4 + 1 + 1)))[3]? = some (.int .i64 ds[j].2.2.2) from rfl] at c3
        have HT5 := Lib.hid (HT4.out.set 3 (j * 4 + 3) (by rw [HP.out]) (by simp [spVals]) (.int .i64 ((k : Int) + (j : Int) * 4 + 1 + 1 + 1)))
        have HN := Lib.hid (markSp_next HT5.out (by omega) (by omega) (by omega))
        go_wp2
        go_roundw
        case rel => exact ⟨j + 1, by omega, by go_num, by go_num, HN.out⟩
        case measure => simp [intOf]; omega
      · obtain rfl : j = ds.length := by omega
        have HT := Lib.hid hrel
        clear hrel
        go_wp2
        go_ret
        exact markSp_end HT.out HC.out hm hB
set_option maxHeartbeats 1000000 in
set_option maxRecDepth 100000 in
theorem laws_heldSpotS_calls (A : Option Addr) (c n : Nat) (k : Nat) (w : World) (h : SpRow w A c (marksSp k n)) (h0 : 1 ≤ k) (h1 : k + n * 4 ≤ 1000000000000) :
    Calls Tryz.prog 15 #[.slice A n c, .int .i64 (k : Int)] w fun e w' => e = .returned (.int .i64 ((k + n * 4 : Nat) : Int)) ∧ Below w.heap.size w w' := by
  have HR := Lib.hid h
  clear h
  go_enter Tryz.func15, Tryz.ntmps15
  go_wp2
  go_loopw [1, 5] (fun q i wr => ∃ j : Nat, j ≤ n ∧ i = .int .i64 j ∧ q = .int .i64 ((k + j * 4 : Nat) : Int) ∧ Below w.heap.size w wr) (fun _ i _ => n - (intOf i).toNat)
  case atStart => exact ⟨0, Nat.zero_le _, rfl, by go_num, Below.refl _ _⟩
  case round =>
    obtain ⟨j, hj, rfl, rfl, hbel⟩ := hrel
    have HB := Lib.hid hbel
    by_cases hlt : j < n
    · obtain ⟨ad, x, hA, HX, hz1, hc0, hc1, hc2, hc3⟩ := (HR.out.below hbel).at_ (k := j) (by rw [marksSp_length]; exact hlt)
      obtain rfl : mkSp (k + j * 4) = x := by
        have := HX.out
        rw [marksSp_get hlt] at this
        exact Option.some.inj this
      clear HX hbel
      cases hA
      unfold mkSp at hz1 hc0 hc1 hc2 hc3
      dsimp only at hz1 hc0 hc1 hc2 hc3
      rw [show ((k + j * 4 + 1 : Nat) : Int) = ((k : Int) + (j : Int) * 4 + 1) by omega] at hc1
      rw [show ((k + j * 4 + 2 : Nat) : Int) = ((k : Int) + (j : Int) * 4 + 1 + 1) by omega] at hc2
      rw [show ((k + j * 4 + 3 : Nat) : Int) = ((k : Int) + (j : Int) * 4 + 1 + 1 + 1) by omega] at hc3
      have H3 := Lib.hid (And.intro hc0 (And.intro hc1 (And.intro hc2 hc3)))
      have HH0 : Hid (Below wr.heap.size wr wr.drew) := Below.drew (Below.refl _ _)
      go_wp2_with fail
      go_region_held3 (fun w' => (w'.cell? (ad.add (j * 4)) = some (.string (mText (k + j * 4))) ∧ w'.cell? ⟨(ad.add (j * 4)).block, (ad.add (j * 4)).off + 1, none⟩ = some (.int .i64 ((k : Int) + (j : Int) * 4 + 1)) ∧ w'.cell? ⟨(ad.add (j * 4)).block, (ad.add (j * 4)).off + 2, none⟩ = some (.int .i64 ((k : Int) + (j : Int) * 4 + 1 + 1)) ∧ w'.cell? ⟨(ad.add (j * 4)).block, (ad.add (j * 4)).off + 3, none⟩ = some (.int .i64 ((k : Int) + (j : Int) * 4 + 1 + 1 + 1))) ∧ Hid (Below wr.heap.size wr w')) (first | exact ⟨keep4 H3.out HH0.out, HH0⟩ | exact ⟨keep4 H3.out (HH0.out.trans (hb.mono (Nat.le_refl _))), Lib.hid (HH0.out.trans (hb.mono (Nat.le_refl _)))⟩) (first | (go_at_call 35; refine (laws_markText_calls (k + j * 4) _ (by omega) (by omega)).mono ?_; rintro e w' ⟨rfl, hb⟩))
      obtain ⟨⟨k0, k1, k2, k3⟩, HKB⟩ := ‹_ ∧ Hid (Below wr.heap.size wr w')›
      have n1 : (((k : Int) + (j : Int) * 4 + 1) != ((k : Int) + (j : Int) * 4 + 1)) = false := by simp
      have n2 : (((k : Int) + (j : Int) * 4 + 1 + 1) != ((k : Int) + (j : Int) * 4 + 1 + 1)) = false := by simp
      have n3 : (((k : Int) + (j : Int) * 4 + 1 + 1 + 1) != ((k : Int) + (j : Int) * 4 + 1 + 1 + 1)) = false := by simp
      clear hb hc0 hc1 hc2 hc3
      go_wp2
      go_roundw
      case rel => exact ⟨j + 1, by omega, by go_num, by go_num, HB.out.trans (HKB.out.mono HB.out.size)⟩
      case measure => simp [intOf]; omega
    · obtain rfl : j = n := by omega
      clear hbel
      go_wp2
      go_ret
      exact ⟨rfl, HB.out⟩
end Go.Proofs.YticnhfflppkpoaaGreatDoor

namespace Go.Proofs.YticnhfflppkpoaaGreatDoor
set_option linter.unusedVariables false
set_option linter.unusedSimpArgs false
open Go.RowKit
attribute [local go_sem] bs_size List.length_cons List.length_nil List.length_append

theorem SpRow.other {w w' : World} {c' : Nat} {A : Option Addr} {v : Value} {xs : List SpotD} (h : SpRow w A c' xs) (hg : w.grownBy w' v.ownBlock) (hne : ∀ ad, A = some ad → v.ownBlock ≠ some ad.block) : SpRow w' A c' xs :=
  ⟨h.1, h.2.1, h.2.2.1, fun hp => by
    obtain ⟨ad, e, hl, hc⟩ := h.2.2.2 hp
    refine ⟨ad, e, Nat.lt_of_lt_of_le hl hg.size, fun j x hx => ?_⟩
    have := hg.block (ad.add (j * 4)).block (by rw [add_block]; exact hl) (by rw [add_block]; exact fun e2 => hne ad e e2.symm)
    obtain ⟨h0, h1, h2, h3⟩ := hc j x hx
    exact ⟨(World.cell?_of_block this).trans h0, (World.cell?_of_block (a := ⟨(ad.add (j * 4)).block, (ad.add (j * 4)).off + 1, none⟩) this).trans h1, (World.cell?_of_block (a := ⟨(ad.add (j * 4)).block, (ad.add (j * 4)).off + 2, none⟩) this).trans h2, (World.cell?_of_block (a := ⟨(ad.add (j * 4)).block, (ad.add (j * 4)).off + 3, none⟩) this).trans h3⟩⟩
theorem spMarks_row {w : World} {B n c k : Nat} {A : Option Addr} (h : SpOwn w B (.slice A n c) (marksSp k n)) (hk : k + n * 4 ≤ 1000000000000) : SpRow w A c (marksSp k n) := by
  obtain ⟨A', c', e, hr⟩ := h.row (marksSp_small hk)
  injection e with e1 e2 e3
  subst e1 e3
  exact hr
theorem sp_apart {w1 w2 : World} {B B2 n1 n2 c1 c2 : Nat} {A1 A2 : Option Addr} {xs ys : List SpotD} (h1 : SpOwn w1 B (.slice A1 n1 c1) xs) (h2 : SpOwn w2 B2 (.slice A2 n2 c2) ys) (hB : w1.heap.size ≤ B2) : ∀ ad, A1 = some ad → (Value.slice A2 n2 c2).ownBlock ≠ some ad.block := by
  intro ad e h
  have h3 := (World.ownsRow.lt h2 _ h).1
  subst e
  have h4 := (World.ownsRow.lt h1 ad.block rfl).2
  omega
/-- The law's box. -/
abbrev W6 (w : World) (A : Option Addr) (n c : Nat) : World := w.alloc (.cells #[.slice A n c] 24)
structure LD (w : World) (A : Option Addr) (n c : Nat) (W : World) : Prop where
  b : Below (W6 w A n c).heap.size (W6 w A n c) W
section
variable {w W W' : World} {A : Option Addr} {n c : Nat}
theorem LD.go (h : LD w A n c W) (hb : Below W.heap.size W W') : LD w A n c W' := ⟨h.b.trans (hb.mono h.b.size)⟩
theorem LD.from_ (h : LD w A n c W) : Below w.heap.size w W := ((Below.refl _ _).alloc (Nat.le_refl _) _).trans (h.b.mono (by simp))
theorem LD.cell (h : LD w A n c W) : W.cell? ⟨w.heap.size, 0, none⟩ = some (.slice A n c) := (h.b.cell (by simp)).trans (blk_cell (blk_new w _) 0)
theorem LD.size (h : LD w A n c W) : w.heap.size + 1 ≤ W.heap.size := by have := h.b.size; simpa using this
theorem LD.grown {row : Option Nat} (h : LD w A n c W) (hg : W.grownBy W' row) (hr : ∀ k, row = some k → w.heap.size + 1 ≤ k) : LD w A n c W' := ⟨h.b.grown hg h.b.size fun k e => by have := hr k e; simpa using this⟩
end
/-- The law's box, the two readings' rows: the reference's, and the program's own. -/
structure LY (w : World) (A : Option Addr) (n c : Nat) (A3 A5 : Option Addr) (c3 c5 B : Nat) (ds : List SpotD) (W : World) : Prop where
  d : LD w A n c W
  r3 : SpRow W A3 c3 ds
  far : ∀ ad, A3 = some ad → ad.block < B
  own : SpOwn W B (.slice A5 ds.length c5) ds
  far1 : w.heap.size + 1 ≤ B
section
variable {w W W' : World} {A : Option Addr} {n c : Nat} {A3 A5 : Option Addr} {c3 c5 B : Nat} {ds : List SpotD}
theorem LY.go (h : LY w A n c A3 A5 c3 c5 B ds W) (hb : Below W.heap.size W W') : LY w A n c A3 A5 c3 c5 B ds W' := ⟨h.d.go hb, h.r3.below hb, h.far, h.own.below hb, h.far1⟩
end
theorem keepK {W W' : World} {a b : Addr} {x y : Value} (h : W.cell? a = some x ∧ W.cell? b = some y) (hb : Below W.heap.size W W') : W'.cell? a = some x ∧ W'.cell? b = some y ∧ Hid (Below W.heap.size W W') := ⟨(hb.cell (World.block_lt_of_cell? W _ h.1)).trans h.1, (hb.cell (World.block_lt_of_cell? W _ h.2)).trans h.2, hb⟩
theorem own_block {w : World} {B : Nat} {A : Option Addr} {n c : Nat} {ds : List SpotD} (h : SpOwn w B (.slice A n c) ds) : ∀ ad, A = some ad → B ≤ ad.block ∧ ad.block < w.heap.size := fun ad e => by subst e; exact h.lt _ rfl
set_option maxHeartbeats 8000000 in
set_option maxRecDepth 100000 in
theorem walk_FnExactDirOf (A : Option Addr) (c : Nat) (fs : List FiD) (w : World) (h : FiRow w A c fs) (hP : Pow w ∧ Sent w) :
    Calls Tryz.prog 4 #[.agg #[.slice A fs.length c]] w fun e w' => e = .returned (.bool true) ∧ Below w.heap.size w w' := by
  have HF := Lib.hid h
  have HPE := Lib.hid hP
  have HV : Hid (LD w A fs.length c (W6 w A fs.length c)) := ⟨Below.refl _ _⟩
  have p0 := HV.out.cell
  clear h hP
  go_enter Tryz.func4, Tryz.ntmps4
  go_wp2_with fail
  go_at_call 5
  refine (laws_szDisk_calls A c fs 1048576 _ (HF.out.below HV.out.from_) (by omega) (by omega)).mono ?_
  rintro e w1 ⟨⟨r, rfl, hr⟩, hb⟩
  have HV1 := Lib.hid (HV.out.go hb)
  clear hb p0
  rcases hr with hr | ⟨hr0, hr1, hr2⟩
  · go_wp2
    go_ret
    exact ⟨rfl, HV1.out.from_⟩
  · have HN : Hid (fs.length ≤ 1048576) := by rw [Hid]; omega
    have hfn : 1 + fs.length * 3 ≤ 1000000000 := by omega
    have p0 := HV1.out.cell
    go_wp2_with fail
    go_at_call 7
    refine (laws_toDisk_calls A c fs _ (HF.out.below HV1.out.from_) HN.out).mono ?_
    rintro e w2 ⟨b2, rfl, hrow2, hb2⟩
    have HV2 := Lib.hid (HV1.out.go hb2)
    have HR2 := Lib.hid hrow2
    clear hb2 hrow2 p0
    have HDO := Lib.hid (fun W V => spec_DirOf_calls (some ⟨b2, 0, none⟩) fs.length fs W V)
    go_wp2_with fail
    go_at_call 10
    refine (HDO.out _ HR2.out).mono ?_
    rintro e w3 ⟨v3, rfl, ho3, hb3⟩
    have hdl := dirB_len fs
    have HSM : Hid (∀ x ∈ dirB fs, x.1.size ≤ 9223372036854775807) := fun x hx => by have := dirB_small fs x hx; omega
    have HPO : Hid (∀ W e W', DirPost W fs e W' → ∃ v, e = .returned (.tuple #[v, .bool (!(segsB fs).isEmpty)]) ∧ SpOwn W' W.heap.size v (dirB fs) ∧ Below W.heap.size W W') := fun W e W' h => h
    generalize (!(segsB fs).isEmpty) = ob at HPO
    generalize dirB fs = D at hdl HSM HPO ho3
    have hbb : (ob != ob) = false := by simp
    obtain ⟨A3, c3, hv3, hr3⟩ := ho3.row HSM.out
    subst hv3
    have HV3 := Lib.hid (HV2.out.go hb3)
    have HR3 := Lib.hid hr3
    have HO3 := Lib.hid (own_block ho3)
    have p0 := HV3.out.cell
    clear hb3 ho3 hr3 HDO HV1 HV2 HR2 HV
    go_wp2_with fail
    go_at_call 7
    refine (laws_toDisk_own A c fs _ (HF.out.below HV3.out.from_) HN.out).mono ?_
    rintro e w4 ⟨b4, rfl, hb40, hrow4, hfb4, hb4⟩
    have HAL : Hid (Below w4.heap.size w4 (w4.alloc (.cells #[.slice (some ⟨b4, 0, none⟩) fs.length fs.length] 29))) := (Below.refl _ _).alloc (Nat.le_refl _) _
    have HV4 := Lib.hid ((HV3.out.go hb4).go HAL.out)
    have HR4 := Lib.hid ((HR3.out.below hb4).below HAL.out)
    have HROW4 := Lib.hid (hrow4.below HAL.out)
    have HFB4 := Lib.hid (hfb4.below HAL.out)
    have HBX4 : Hid ((w4.alloc (.cells #[.slice (some ⟨b4, 0, none⟩) fs.length fs.length] 29)).heap[w4.heap.size]? = some (.cells #[.slice (some ⟨b4, 0, none⟩) fs.length fs.length] 29 (0, 0))) := blk_new _ _
    have HB40 := Lib.hid hb40
    have HB4L := Lib.hid hfb4.lt
    clear hb4 hrow4 hfb4 hb40 p0
    have hws : (w4.alloc (.cells #[.slice (some ⟨b4, 0, none⟩) fs.length fs.length] 29)).heap.size = w4.heap.size + 1 := by simp
    have HWS := Lib.hid hws
    clear hws
    go_wp2_with fail
    go_at_call 11
    refine (impl_DirOf_calls _ _ fs _ HROW4.out (HPE.out.1.below HV4.out.from_) (sentB HPE.out.2 HV4.out.from_)).mono ?_
    intro e w5 hp
    obtain ⟨v5, rfl, ho5, hb5⟩ := HPO.out _ _ _ hp
    obtain ⟨A5, c5, hv5, hr5⟩ := ho5.row HSM.out
    subst hv5
    have HFAR : Hid (∀ ad, A3 = some ad → ad.block < w4.heap.size) := fun ad e => by have := (HO3.out ad e).2; have := HB40.out; have := HB4L.out; omega
    have HY5 : Hid (LY w A fs.length c A3 A5 c3 c5 w4.heap.size D w5) := ⟨HV4.out.go hb5, HR4.out.below hb5, HFAR.out, ho5.mono (by rw [HWS.out]; omega), by have := HV3.out.size; have := HB40.out; have := HB4L.out; omega⟩
    have HROW5 := Lib.hid (HROW4.out.below hb5)
    have HFB5 := Lib.hid (HFB4.out.below hb5)
    have HBX5 := Lib.hid (blk_below HBX4.out hb5)
    have HR5 := Lib.hid hr5
    clear hp ho5 hb5 hr5 HROW4 HFB4 HBX4 HV4 HR4
    go_wp2_with fail
    go_at_call 12
    refine (laws_eqSpotS_calls A5 c5 A3 c3 D _ HR5.out HY5.out.r3).mono ?_
    rintro e w6 ⟨rfl, hb6⟩
    have HY6 := Lib.hid (HY5.out.go hb6)
    have HROW6 := Lib.hid (HROW5.out.below hb6)
    have HFB6 := Lib.hid (HFB5.out.below hb6)
    have HBX6 := Lib.hid (blk_below HBX5.out hb6)
    clear hb6 HY5 HROW5 HFB5 HBX5 HR5
    have HY9 := Lib.hid (HY6.out.go (Below.drew (Below.refl _ _)))
    have q0 := blk_cell HBX6.out 0
    have q1 := HY6.out.d.cell
    have HC9 : Hid (w6.cell? ⟨w4.heap.size, 0, none⟩ = some (.slice (some ⟨b4, 0, none⟩) fs.length fs.length) ∧ w6.cell? ⟨w.heap.size, 0, none⟩ = some (.slice A fs.length c)) := ⟨q0, q1⟩
    have HBD : Hid (Below w6.heap.size w6 w6.drew) := Below.drew (Below.refl _ _)
    clear q0 q1
    go_wp2_with fail
    go_region_held3 (fun w' => w'.cell? ⟨w4.heap.size, 0, none⟩ = some (.slice (some ⟨b4, 0, none⟩) fs.length fs.length) ∧ w'.cell? ⟨w.heap.size, 0, none⟩ = some (.slice A fs.length c) ∧ Hid (Below w6.heap.size w6 w')) (first | exact keepK HC9.out HBD.out | exact keepK HC9.out (HBD.out.trans (hb10.mono HBD.out.size)) | exact keepK HC9.out ((HBD.out.trans (hb10.mono HBD.out.size)).trans (hb11.mono (HBD.out.trans (hb10.mono HBD.out.size)).size))) (first | (go_at_call 7; refine (laws_toDisk_calls A c fs _ (HF.out.below (HY6.out.go HBD.out).d.from_) HN.out).mono ?_; rintro e w10 ⟨b10, rfl, hrow10, hb10⟩) | (go_at_call 9; refine (laws_eqDisk_calls _ _ _ _ fs _ (HROW6.out.below (HBD.out.trans (hb10.mono HBD.out.size))) hrow10).mono ?_; rintro e w11 ⟨rfl, hb11⟩))
    have HB11 := (‹_ ∧ _ ∧ Hid (Below w6.heap.size w6 _)›).2.2
    have HY11 := Lib.hid (HY6.out.go HB11.out)
    have HFB11 := Lib.hid (HFB6.out.below HB11.out)
    have HBX11 := Lib.hid (blk_below HBX6.out HB11.out)
    have q0 := blk_cell HBX11.out 0
    clear hb10 hb11 hrow10 HC9 HBD HB11 HY6 HY9 HROW6 HFB6 HBX6
    go_wp2_with fail
    go_at_call 13
    refine (laws_markDisk_calls b4 fs.length 1 _ HFB11.out (by omega) hfn).mono ?_
    rintro e w12 ⟨rfl, hg12⟩
    have HY12 : Hid (LY w A fs.length c A3 A5 c3 c5 w4.heap.size D w12) := ⟨HY11.out.d.grown hg12 (fun k e => by cases e; have := HV3.out.size; have := HB40.out; omega), HY11.out.r3.other (v := .slice (some ⟨b4, 0, none⟩) 0 0) hg12 (fun ad e h => by have := (HO3.out ad e).2; have := HB40.out; have h2 : b4 = ad.block := Option.some.inj h; omega), HY11.out.far, World.ownsRow.kept HY11.out.own hg12 (by
      cases hv : (Value.slice A5 D.length c5).ownBlock with
      | none => exact .inl rfl
      | some k => exact .inr fun e => by have := (HY11.out.own.lt k hv).1; have := HB4L.out; cases e; omega), HY11.out.far1⟩
    have hneg : ¬ ((1 + fs.length * 3 : Nat) : Int) < 0 := by omega
    have hneg2 : ¬ (1 + (fs.length : Int) * 3) < 0 := by omega
    obtain ⟨A5', c5', e5, hr12⟩ := HY12.out.own.row HSM.out
    cases e5
    have HR12 := Lib.hid hr12
    clear hg12 q0 HY11 HFB11 HBX11 hr12
    go_wp2_with fail
    go_at_call 12
    refine (laws_eqSpotS_calls A5 c5 A3 c3 D _ HR12.out HY12.out.r3).mono ?_
    rintro e w13 ⟨rfl, hb13⟩
    have HY13 := Lib.hid (HY12.out.go hb13)
    clear hb13 HY12 HR12
    go_wp2_with fail
    go_at_call 14
    refine (laws_markSpotS_calls _ _ D 1 _ HY13.out.own (by omega) (by omega)).mono ?_
    rintro e w14 ⟨rfl, ho14, hg14⟩
    have HV14 := Lib.hid (HY13.out.d.grown hg14 fun k e => by have := (HY13.out.own.lt k e).1; have := HY13.out.far1; omega)
    have HR14 := Lib.hid (HY13.out.r3.other hg14 fun ad e h => by have := (HY13.out.own.lt _ h).1; have := HY13.out.far ad e; omega)
    have HM14 := Lib.hid (spMarks_row ho14 (by omega))
    clear ho14 hg14 HY13
    go_wp2_with fail
    go_at_call 15
    refine (laws_heldSpotS_calls A5 c5 D.length 1 _ HM14.out (by omega) (by omega)).mono ?_
    rintro e w15 ⟨rfl, hb15⟩
    have HV15 := Lib.hid (HV14.out.go hb15)
    have HR15 := Lib.hid (HR14.out.below hb15)
    have HM15 := Lib.hid (HM14.out.below hb15)
    have p0 := HV15.out.cell
    have hneg3 : ¬ ((1 + D.length * 4 : Nat) : Int) < 0 := by omega
    have hneg4 : ¬ (1 + (D.length : Int) * 4) < 0 := by omega
    clear hb15 HV14 HR14 HM14
    go_wp2_with fail
    go_at_call 7
    refine (laws_toDisk_calls A c fs _ (HF.out.below HV15.out.from_) HN.out).mono ?_
    rintro e w16 ⟨b16, rfl, hrow16, hb16⟩
    have HV16 := Lib.hid (HV15.out.go hb16)
    have HR16 := Lib.hid (HR15.out.below hb16)
    have HM16 := Lib.hid (HM15.out.below hb16)
    have HROW16 := Lib.hid hrow16
    clear hb16 hrow16 p0 HV15 HR15 HM15
    go_wp2_with fail
    go_at_call 11
    refine (impl_DirOf_calls _ _ fs _ HROW16.out (HPE.out.1.below HV16.out.from_) (sentB HPE.out.2 HV16.out.from_)).mono ?_
    intro e w17 hp
    obtain ⟨v17, rfl, ho17, hb17⟩ := HPO.out _ _ _ hp
    obtain ⟨A17, c17, hv17, hr17⟩ := ho17.row HSM.out
    subst hv17
    have HV17 := Lib.hid (HV16.out.go hb17)
    have HR17 := Lib.hid (HR16.out.below hb17)
    have HM17 := Lib.hid (HM16.out.below hb17)
    have HS17 := Lib.hid hr17
    clear hp ho17 hb17 hr17 HV16 HR16 HM16
    go_wp2_with fail
    go_at_call 12
    refine (laws_eqSpotS_calls A17 c17 A3 c3 D _ HS17.out HR17.out).mono ?_
    rintro e w18 ⟨rfl, hb18⟩
    have HV18 := Lib.hid (HV17.out.go hb18)
    have HM18 := Lib.hid (HM17.out.below hb18)
    clear hb18 HV17 HM17 HS17
    go_wp2_with fail
    go_at_call 15
    refine (laws_heldSpotS_calls A5 c5 D.length 1 _ HM18.out (by omega) (by omega)).mono ?_
    rintro e w19 ⟨rfl, hb19⟩
    have HV19 := Lib.hid (HV18.out.go hb19)
    clear hb19
    go_wp2
    go_ret
    exact ⟨rfl, HV19.out.from_⟩
end Go.Proofs.YticnhfflppkpoaaGreatDoor

namespace Go.Proofs.YticnhfflppkpoaaGreatDoor
set_option linter.unusedVariables false
set_option linter.unusedSimpArgs false
open Go.RowKit

theorem fiRow_of_trod {H : Type} {enc : TypeId × Value → H} {P : Program} {w : World} {base : Nat} {held : Bool} {t e : TypeId} {f0 f1 f2 : Field} {fuel : Nat} {A : Option Addr} {len cap : Nat} {x : DataW H × List MemPlace}
    (ht : P.underlying t = some (.slice e)) (he : P.underlying e = some (.struct #[f0, f1, f2])) (ce : P.cellsOf e = 3) (o0 : f0.offset = 0) (o1 : f1.offset = 1) (o2 : f2.offset = 2) (c0 : P.cellsOf f0.type = 1) (c1 : P.cellsOf f1.type = 1) (c2 : P.cellsOf f2.type = 1)
    (u0 : P.underlying f0.type = some .string) (u1 : P.underlying f1.type = some .string) (u2 : P.underlying f2.type = some (.int .i64))
    (h : DataW.trod enc P w base (fun _ => true) held fuel t [.slice A len cap] = some x) : ∃ fs : List FiD, len = fs.length ∧ FiRow w A cap fs := by
  rcases Go.Deep.open_slice ht h with ⟨hcs, _⟩ | ⟨a, len', cap', m, n, D, Pl, hcs, hb, hl, hm, hmm, _, hx⟩
  · simp at hcs
    obtain ⟨rfl, rfl, rfl⟩ := hcs
    exact ⟨[], rfl, by simp, by simp, by simp, fun h0 => by simp at h0⟩
  · simp at hcs
    obtain ⟨rfl, rfl, rfl⟩ := hcs
    rw [if_pos rfl] at hmm
    have each : ∀ i, i < len → ∃ q : FiD, w.cell? (a.add (i * 3)) = some (.string q.1) ∧ w.cell? ((a.add (i * 3)).add 1) = some (.string q.2.1) ∧ w.cell? ((a.add (i * 3)).add 2) = some (.int .i64 q.2.2) ∧ q.1.size ≤ maxLen ∧ q.2.1.size ≤ maxLen := by
      intro i hi
      obtain ⟨cs', h1, h2⟩ := hx i (by omega)
      rw [ce] at h1
      obtain ⟨_, hlen, hcell⟩ := World.cells?_some h1
      obtain ⟨xs, k, hk, hxy, _, hxl, hf⟩ := DataW.trod_struct he h2
      match xs, hxl, cs', hlen with
      | [y0, y1, y2], _, [v0, v1, v2], _ =>
        have g0 := hf 0 f0 rfl
        have g1 := hf 1 f1 rfl
        have g2 := hf 2 f2 rfl
        simp [o0, o1, o2, c0, c1, c2] at g0 g1 g2
        obtain ⟨s0, e0, _, z0⟩ := DataW.trod_string u0 g0
        obtain ⟨s1, e1, _, z1⟩ := DataW.trod_string u1 g1
        obtain ⟨k2, e2, _, _⟩ := DataW.trod_int u2 g2
        have d0 := hcell 0 (by omega)
        have d1 := hcell 1 (by omega)
        have d2 := hcell 2 (by omega)
        simp at e0 e1 e2
        subst e0 e1 e2
        refine ⟨(s0, s1, k2), ?_, d1, d2, z0, z1⟩
        have : (a.add (i * 3)).add 0 = a.add (i * 3) := by simp [Addr.add]
        rwa [this] at d0
    obtain ⟨q, hq⟩ := Go.Deep.choose_lt each
    have hlen : ((List.range len).map q).length = len := by simp
    refine ⟨(List.range len).map q, hlen.symm, by rw [hlen]; exact hl, by unfold maxLen at hm; exact hm, fun y hy => ?_, fun h0 => ⟨a, rfl, ?_, fun j y hy => ?_⟩⟩
    · obtain ⟨i, hi, rfl⟩ := List.mem_map.1 hy
      have := hq i (List.mem_range.1 hi)
      unfold maxLen at this
      exact ⟨this.2.2.2.1, this.2.2.2.2⟩
    · have := World.block_lt_of_cell? w _ (hq 0 (by rw [hlen] at h0; exact h0)).1
      rwa [add_block] at this
    · have hj := (List.getElem?_eq_some_iff.1 hy).1
      rw [hlen] at hj
      simp [hj] at hy
      subst hy
      obtain ⟨d0, d1, d2, _, _⟩ := hq j hj
      refine ⟨d0, ?_, ?_⟩
      · simpa [Addr.add] using d1
      · simpa [Addr.add] using d2
set_option maxRecDepth 100000 in
theorem disk_of_trod {H : Type} {enc : TypeId × Value → H} {w : World} {base b0 : Nat} {held : Bool} {r : Reach} {v : Value} {d : DataW H} {p : List MemPlace} (hv : Value.okWide Tryz.prog w r b0 24 v) (h : DataW.Trod enc Tryz.prog w base (fun _ => true) held 24 v d p) :
    ∃ A c fs, v = .agg #[.slice A (List.length fs) c] ∧ FiRow w A c fs := by
  obtain ⟨cs, rfl, hsz⟩ := Go.WideShapes.okWide_struct Tryz.underlying24 hv
  have e1 : Tryz.prog.cellsOf 24 = 1 := by kernel_rfl
  rw [e1] at hsz
  obtain ⟨fuel, hf⟩ := h
  obtain ⟨xs, n, _, _, _, hxl, hx⟩ := DataW.trod_struct Tryz.underlying24 hf
  have g0 := hx 0 _ rfl
  obtain ⟨l⟩ := cs
  match l, hsz with
  | [v0], _ =>
    have e2 : Tryz.prog.cellsOf 22 = 1 := by kernel_rfl
    match xs, hxl with
    | [y0], _ =>
      have g1 : DataW.trod enc Tryz.prog w base (fun _ => true) held n 22 [v0] = some y0 := by
        have := g0
        simp [Value.cells, e2] at this
        exact this
      rcases Go.Deep.open_slice Tryz.underlying22 g1 with ⟨hcs, _⟩ | ⟨a, len', cap', m, n', D, Pl, hcs, _⟩
      · simp at hcs
        subst hcs
        exact ⟨none, 0, [], rfl, by simp, by simp, by simp, fun h0 => by simp at h0⟩
      · simp at hcs
        subst hcs
        obtain ⟨fs, hl, hr⟩ := fiRow_of_trod Tryz.underlying22 Tryz.underlying77 (by kernel_rfl) rfl rfl rfl (by kernel_rfl) (by kernel_rfl) (by kernel_rfl) Tryz.underlying9 Tryz.underlying9 Tryz.underlying3 g1
        subst hl
        exact ⟨_, _, fs, rfl, hr⟩
theorem laid_FnExactDirOf {W : World} (h : laidMetH Tryz.prog Rows.fnExactDirOfRow.laid W) : Pow W ∧ Sent W := by
  rw [MakeChecks.laidMetH_plain _ _ _ (by kernel_rfl)] at h
  exact ⟨pow_of_laid h.tail.tail, sent_of_laid h.tail.tail.tail⟩
end Go.Proofs.YticnhfflppkpoaaGreatDoor
