/- Segments of the program. SeqsRise: plain. SeqsRise of the reference, and of the program. SeqsRise of the program. The walk of the law FnExactSeqsRise: whatever the disk, it returns true. A disk and a spot that came in. -/
import Derived.Test.YticnhfflppkpoaaGreatDoorSortC
import Derived.Test.YticnhfflppkpoaaGreatDoorSegC
import Derived.Test.YticnhfflppkpoaaGreatDoorSegsL
import Derived.Test.YticnhfflppkpoaaGreatDoorDiskM
import Derived.Test.YticnhfflppkpoaaGreatDoorDecAll
import Derived.Deep.Slices
namespace Go.Proofs.YticnhfflppkpoaaGreatDoor
set_option linter.unusedVariables false
set_option linter.unusedSimpArgs false
open Go.RowKit
attribute [local go_sem] bs_size List.length_cons List.length_nil List.length_append

theorem diskOk_len {fs : List FiD} (h : diskOkB fs = true) : fs.length ≤ 30 := by
  unfold diskOkB at h
  rw [Bool.and_eq_true] at h
  exact of_decide_eq_true h.2
theorem fiRes_some (s : ByteArray) : fiRes (some s) = .tuple #[.string s, .bool true] := rfl
theorem hoUni (n : Nat) (t : ByteArray) : ∃ (l : Nat) (b : Bool), hoRes (headOfB (n : Int) t) = .tuple #[.int .i64 (fromOf n t : Int), .int .i64 (l : Int), .bool b] ∧ (b = true → ∃ f l, headOfB (n : Int) t = some (f, l)) ∧ (b = false → headOfB (n : Int) t = none) := by
  unfold fromOf
  cases h : headOfB (n : Int) t with
  | none => exact ⟨0, false, rfl, (fun e => by cases e), fun _ => rfl⟩
  | some p => obtain ⟨f, l⟩ := p; exact ⟨l, true, rfl, (fun _ => ⟨f, l, rfl⟩), fun e => by cases e⟩
theorem sentB {w w' : World} (h : Sent w) (hb : Below w.heap.size w w') : Sent w' := h.below hb h.big
theorem grown_set' {w wr : World} {b : Nat} (h : w.grownBy wr (some b)) (j : Nat) (v : Value) : w.grownBy (wr.setCell ⟨b, j, none⟩ v) (some b) :=
  ⟨h.os, h.tape, h.output, by simpa using h.size, fun i hi hne => (Below.heap_setCell wr ⟨b, j, none⟩ v i (fun e => hne (by rw [e]))).trans (h.block i hi hne)⟩
/-- The program's loops' memory: the disk's box, the least's cell, the row of numbers. -/
structure SI (w : World) (A : Option Addr) (n c gl : Nat) (a : Int) (v : Value) (ns : List Int) (W : World) : Prop where
  vd : VD w A n c W
  far : w.heap.size + 1 ≤ gl
  least : W.heap[gl]? = some (.cells #[.int .i64 a] 3)
  row : OwnI W (gl + 1) v ns
section
variable {w W W' : World} {A : Option Addr} {n c gl : Nat} {a : Int} {v : Value} {ns : List Int}
theorem SI.go (h : SI w A n c gl a v ns W) (hb : Below W.heap.size W W') : SI w A n c gl a v ns W' := ⟨h.vd.go hb, h.far, blk_below h.least hb, h.row.below hb⟩
theorem SI.alloc (h : SI w A n c gl a v ns W) (o : Obj) : SI w A n c gl a v ns (W.alloc o) := h.go ((Below.refl _ _).alloc (Nat.le_refl _) _)
theorem SI.same {a' : Int} {ns' : List Int} (h : SI w A n c gl a v ns W) (ha : a' = a) (hn : ns' = ns) : SI w A n c gl a' v ns' W := by subst ha hn; exact h
theorem SI.lt (h : SI w A n c gl a v ns W) : gl + 1 ≤ W.heap.size := blk_lt h.least
theorem SI.all (h : SI w A n c gl a v ns W) : W.cell? ⟨w.heap.size, 0, none⟩ = some (.slice A n c) ∧ Hid (SI w A n c gl a v ns W) := ⟨h.vd.cell, h⟩
theorem SI.set (h : SI w A n c gl a v ns W) (b : Int) : SI w A n c gl b v ns (W.setCell ⟨gl, 0, none⟩ (.int .i64 b)) := by
  have hg : W.grownBy (W.setCell ⟨gl, 0, none⟩ (.int .i64 b)) (some gl) := grown_set' (World.grownBy.refl W _) 0 _
  refine ⟨h.vd.grown hg fun k e => by cases e; exact h.far, h.far, by rw [blk_set h.least]; rfl, World.ownsRow.kept h.row hg ?_⟩
  cases hv : v.ownBlock with
  | none => exact .inl rfl
  | some k => exact .inr fun e => by have := (h.row.lt k hv).1; cases e; omega
theorem SI.put {v' : Value} {ns' : List Int} (h : SI w A n c gl a v ns W) (hg : W.grownBy W' v.ownBlock) (ho : OwnI W' (gl + 1) v' ns') : SI w A n c gl a v' ns' W' :=
  ⟨h.vd.grown hg fun k e => by have := (h.row.lt k e).1; have := h.far; omega, h.far, (hg.block gl (blk_lt h.least) (fun e => by have := (h.row.lt gl e.symm).1; omega)).trans h.least, ho⟩
end
set_option maxHeartbeats 8000000 in
set_option maxRecDepth 100000 in
theorem impl_Segments_calls (A : Option Addr) (c : Nat) (fs : List FiD) (w : World) (h : FiRow w A c fs) (hP : Pow w) (hE : Sent w) :
    Calls Tryz.prog 20 #[.agg #[.slice A fs.length c]] w (SegsPost w fs) := by
  obtain ⟨i0, hi0, hz, hsz, hby⟩ := info_parts info_int
  have hmf : ∀ (fn : Fn) (first cap : Array Value) (w : World), (Instr.makeFunc fn first cap).run Tryz.prog w = .ok (.func fn first cap) w := fun _ _ _ _ => rfl
  have HF := Lib.hid h
  have hl := h.len
  have HPW := Lib.hid hP
  have HEW := Lib.hid hE
  have HV := Lib.hid (vd_start w A fs.length c)
  have p0 := HV.out.cell
  clear h hP hE
  cases hdk : diskOkB fs
  · have HDK := Lib.hid hdk
    have HE := Lib.hid (segs_no hdk)
    clear hdk
    go_enter Tryz.func20, Tryz.ntmps20
    go_wp2_with fail
    go_at_call 40
    refine (impl_DiskOk_calls A c fs _ (HF.out.below HV.out.from_)).mono ?_
    rw [HDK.out]
    rintro e w3 ⟨rfl, hb3⟩
    have HV3 := Lib.hid (HV.out.go hb3)
    clear hb3 p0
    go_wp2
    go_ret2
    exact segsPost_no HE.out (World.ownsRow_nil _ _ _ _) HV3.out.from_
  · have HDK := Lib.hid hdk
    clear hdk
    go_enter Tryz.func20, Tryz.ntmps20
    go_wp2_with fail
    go_at_call 40
    refine (impl_DiskOk_calls A c fs _ (HF.out.below HV.out.from_)).mono ?_
    rw [HDK.out]
    rintro e w3 ⟨rfl, hb3⟩
    have HV3 := Lib.hid (HV.out.go hb3)
    have HS3 : Hid (SI w A fs.length c w3.heap.size 0 (.slice none 0 0) [] (w3.alloc (.cells #[.int .i64 0] 3))) := ⟨HV3.out.alloc _, HV3.out.size, blk_new _ _, World.ownsRow_nil _ _ _ _⟩
    have p1 := HS3.out.vd.cell
    clear hb3 p0
    go_wp2
    go_loopw [4, 25] (fun av iv wr => ∃ i : Nat, i ≤ fs.length ∧ iv = .int .i64 (i : Int) ∧ Hid (SI w A fs.length c w3.heap.size (leastI (fs.take i) : Int) av ((numsB (fs.take i)).map Int.ofNat) wr)) (fun _ iv _ => fs.length - (intOf iv).toNat)
    case atStart => exact ⟨0, Nat.zero_le _, rfl, HS3⟩
    case round =>
      obtain ⟨i, hi, rfl, HS⟩ := hrel
      clear p1
      by_cases hlt : i < fs.length
      · obtain ⟨ad, x, hA, HX, hz1, hz2, hc0, hc1, hc2⟩ := (HF.out.below HS.out.vd.from_).at_ hlt
        cases hA
        have hsm := diskOk_small HDK.out (List.mem_of_getElem? HX.out)
        have HNS := Lib.hid (nums_step HX.out)
        have HLS := Lib.hid (leastI_step HX.out)
        have hll : leastI (fs.take i) ≤ 99 := leastI_le
        have hll2 : leastI (fs.take (i + 1)) ≤ 99 := leastI_le
        have hnl := nums_len fs i
        have hf30 := diskOk_len HDK.out
        obtain ⟨nm, tx, k⟩ := x
        dsimp only at hz1 hz2 hc0 hc1 hc2 hsm HNS HLS
        have HS4 := Lib.hid (HS.out.alloc (.cells #[.string nm, .string tx, .int .i64 k] 79))
        have HBX : Hid ((wr.alloc (.cells #[.string nm, .string tx, .int .i64 k] 79)).heap[wr.heap.size]? = some (.cells #[.string nm, .string tx, .int .i64 k] 79 (0, 0))) := blk_new _ _
        have hf := HS4.out.vd.from_
        have HPP := Lib.hid (HPW.out.below hf)
        have HEE := Lib.hid (sentB HEW.out hf)
        clear hf
        go_wp2_with fail
        go_at_call 41
        refine (impl_segNumber_calls nm _ (by omega) HPP.out HEE.out).mono ?_
        rintro e w5 ⟨rfl, hb5⟩
        have HS5 := Lib.hid (HS4.out.go hb5)
        have HBX5 := Lib.hid (blk_below HBX.out hb5)
        clear hb5
        cases hno : segNo nm with
        | none =>
          have HST := Lib.hid (HS5.out.same (a' := (leastI (fs.take (i + 1)) : Int)) (ns' := (numsB (fs.take (i + 1))).map Int.ofNat) (by rw [HLS.out, hno]) (by rw [HNS.out, hno]; simp))
          have hneg : noInt none = -1 := rfl
          clear HNS HLS hno hc0 hc1 hc2
          go_wp2
          go_roundw
          case rel => first | exact ⟨i + 1, by omega, by go_num, HST⟩ | (repeat (first | (refine ⟨?relx, rfl⟩; exact ⟨i + 1, by omega, by go_num, HST⟩) | (refine ⟨?relx, ?eqs⟩; (case eqs => (and_intros <;> rfl)); exact ⟨i + 1, by omega, by go_num, HST⟩) | apply Exists.intro))
          case measure => simp [intOf]; omega
        | some m =>
          have hm99 := (segNo_some hno).1
          rw [hno] at HNS HLS
          dsimp only at HNS HLS
          obtain ⟨A2, c2, hv⟩ := HS5.out.row.form
          rw [List.length_map] at hv
          subst hv
          have HS6 := Lib.hid (HS5.out.alloc (.cells #[.int .i64 (m : Int)] 3))
          have HNEWS : Hid (∀ j u, [Value.int .i64 (m : Int)][j]? = some u → (w5.alloc (.cells #[.int .i64 (m : Int)] 3)).cell? ((⟨w5.heap.size, 0, none⟩ : Addr).add j) = some u) := World.news_of_block (heap_alloc_new w5 _)
          have HLL : Hid ((numsB (fs.take i)).length = ((numsB (fs.take i)).map Int.ofNat).length) := by rw [Hid, List.length_map]
          have x1 : w5.cell? ⟨wr.heap.size, 1, none⟩ = some (.string tx) := blk_cell HBX5.out 1
          have hmi : ¬ (m : Int) < 0 := by omega
          have HROWLT : Hid (∀ k, (Value.slice A2 (numsB (fs.take i)).length c2).ownBlock = some k → k < wr.heap.size) := fun k hk => (HS.out.row.lt k hk).2
          have HNOI : Hid (noInt (some m) = (m : Int)) := rfl
          clear hno hc0 hc1 hc2 x1
          rw [HNOI.out]
          go_wp2_with (at_builtin; refine wpList_append_lies _ rfl _ _ _ rfl (w3.heap.size + 1) 3 i0 (.int .i64 0) 1 8 Tryz.underlying40 hi0 hz hsz hby rfl (by omega) (.slice A2 (numsB (fs.take i)).length c2) (numsB (fs.take i)).length (((numsB (fs.take i)).map Int.ofNat).map (Value.int .i64)) rfl (by have := HS6.out.row; unfold OwnI at this; rwa [← HLL.out] at this) ⟨w5.heap.size, 0, none⟩ 1 1 [.int .i64 (m : Int)] rfl rfl HNEWS.out (by simp [Value.oneCell']) (by omega) (by unfold maxLen; omega) (by omega) HS6.out.lt _ rfl ?_; intro gg cap w7 hown hgrow hat hlt2; have HOWN := Lib.hid hown; have HGR := Lib.hid hgrow; have y1 : w7.cell? ⟨wr.heap.size, 1, none⟩ = some (.string tx) := blk_cell (((hgrow.block wr.heap.size (by have := blk_lt HBX5.out; simp; omega) (fun e => Nat.lt_irrefl _ (HROWLT.out _ e.symm)))).trans (blk_below HBX5.out ((Below.refl _ _).alloc (Nat.le_refl _) _))) 1; clear hown hgrow hat hlt2)
          have HPU : Hid (OwnI w7 (w3.heap.size + 1) (.slice (some ⟨gg, 0, none⟩) ((numsB (fs.take i)).length + 1) cap) ((numsB (fs.take (i + 1))).map Int.ofNat)) := by
            rw [Hid, HNS.out, OwnI, List.map_append, List.map_append, List.length_append, ← HLL.out]
            exact HOWN.out
          have HS7 := Lib.hid (HS6.out.put HGR.out HPU.out)
          clear HOWN HGR HPU
          obtain ⟨l, okh, hho, _, _⟩ := hoUni m tx
          have HHO := Lib.hid hho
          have hfm : fromOf m tx ≤ 99 := by have h1 := hll2; rw [HLS.out] at h1; exact (Nat.max_le.1 h1).2
          have HLS2 : Hid (((leastI (fs.take (i + 1)) : Nat) : Int) = max (leastI (fs.take i) : Int) (fromOf m tx : Int)) := by
            rw [Hid, HLS.out]
            rcases Nat.le_total (leastI (fs.take i)) (fromOf m tx) with h | h
            · rw [Nat.max_eq_right h, Int.max_eq_right (by omega)]
            · rw [Nat.max_eq_left h, Int.max_eq_left (by omega)]
          clear hho y1
          go_wp2_with fail
          go_at_call 42
          refine (impl_headOf_calls (m : Int) tx _ (by omega)).mono ?_
          rw [HHO.out]
          rintro e w8 ⟨rfl, hb8⟩
          have HS8 := Lib.hid (HS7.out.go hb8)
          have z0 : w8.cell? ⟨w3.heap.size, 0, none⟩ = some (.int .i64 (leastI (fs.take i) : Int)) := blk_cell HS8.out.least 0
          have zf := blk_frozen HS8.out.least 0
          clear hb8
          go_wp2
          have HS9 := Lib.hid ((HS8.out.set (max (leastI (fs.take i) : Int) (fromOf m tx : Int))).same HLS2.out rfl)
          go_roundw
          case rel => first | exact ⟨i + 1, by omega, by go_num, HS9⟩ | (repeat (first | (refine ⟨?relx, rfl⟩; exact ⟨i + 1, by omega, by go_num, HS9⟩) | (refine ⟨?relx, ?eqs⟩; (case eqs => (and_intros <;> rfl)); exact ⟨i + 1, by omega, by go_num, HS9⟩) | apply Exists.intro))
          case measure => simp [intOf]; omega
      · obtain rfl : i = fs.length := by omega
        have hll : leastI (fs.take fs.length) ≤ 99 := leastI_le
        have hnl := nums_len fs fs.length
        have hf30 := diskOk_len HDK.out
        rw [List.take_length] at HS hll hnl
        obtain ⟨a, ha⟩ : ∃ a, leastI fs = a := ⟨_, rfl⟩
        rw [ha] at HS hll
        have HQ1 : Hid (∀ m, a ≤ m → m < 100 → hasF fs m = true → badF fs m = true → segsB fs = []) := fun m h1 h2 h3 h4 => segs_bad (n := m) (by unfold allB; rw [← leastI_eq HDK.out, ha]; exact (outs_mem fs).2 ⟨h1, h2, h3⟩) h4
        have HQ2 : Hid (∀ k, k = 100 → (∀ m ∈ outsB fs a k, badF fs m = false) → segsB fs = outsB fs a k) := fun k hk h1 => by
          subst hk
          have h2 := segs_good HDK.out (by unfold allB; rw [← leastI_eq HDK.out, ha]; exact h1)
          unfold allB at h2
          rwa [← leastI_eq HDK.out, ha] at h2
        obtain ⟨k, hk⟩ : ∃ k, k = 100 := ⟨_, rfl⟩
        have HSO : Hid (((((numsB fs).map Int.ofNat).mergeSort fun x y => decide (x ≤ y)).filter fun x => !decide (x < (a : Int))) = (outsB fs a k).map Int.ofNat) := by rw [hk]; exact sorted_outs (nums_nodup HDK.out) (nums_mem HDK.out)
        have HOM : Hid (∀ m, m ∈ outsB fs a k ↔ a ≤ m ∧ m < k ∧ hasF fs m = true) := fun m => outs_mem fs
        have HOK : Hid ((∀ m ∈ outsB fs a k, badF fs m = false) → segsB fs = outsB fs a k) := HQ2.out k hk
        have hol : (outsB fs a k).length ≤ 100 := by have := outs_len fs (a := a) (k := k); omega
        have HK := Lib.hid hk
        generalize outsB fs a k = L at HSO HOM HOK hol
        clear HQ2 hk ha
        go_wp2_with fail
        go_at_call 43
        refine (sort_own HS.out.row (by rw [List.length_map]; omega)).mono ?_
        rintro e w5 ⟨rfl, ho5, hg5⟩
        have HS5 := Lib.hid (HS.out.put hg5 ho5)
        have z0 : w5.cell? ⟨w3.heap.size, 0, none⟩ = some (.int .i64 (a : Int)) := blk_cell HS5.out.least 0
        have HZ0 := Lib.hid z0
        clear ho5 hg5 z0
        go_wp2_with fail
        go_at_call 44
        refine (delete_own HS5.out.row (by rw [List.length_mergeSort, List.length_map]; omega) HZ0.out (Nat.lt_succ_self _)).mono ?_
        rw [HSO.out]
        rintro e w6 ⟨v6, rfl, ho6, hg6⟩
        have HS6 := Lib.hid (HS5.out.put hg6 ho6)
        obtain ⟨A6, c6, hv6⟩ := ho6.form
        rw [List.length_map] at hv6
        subst hv6
        clear ho6 hg6
        go_wp2
        go_loopw [57] (fun iv wr => ∃ j : Nat, j ≤ L.length ∧ iv = .int .i64 (j : Int) ∧ Hid (∀ m ∈ L.take j, badF fs m = false) ∧ Hid (SI w A fs.length c w3.heap.size (a : Int) (.slice A6 L.length c6) (L.map Int.ofNat) wr)) (fun iv _ => L.length - (intOf iv).toNat)
        case atStart => exact ⟨0, Nat.zero_le _, rfl, (fun m hm => by simp at hm), HS6⟩
        case round =>
          obtain ⟨j, hj, rfl, HG, HR⟩ := hrel
          by_cases hlt : j < L.length
          · obtain ⟨m, hm⟩ : ∃ m, L[j]? = some m := ⟨_, List.getElem?_eq_getElem hlt⟩
            obtain ⟨hma, hmk, hmf⟩ := (HOM.out m).1 (List.mem_of_getElem? hm)
            have hm100 : m < 100 := by have := HK.out; omega
            obtain ⟨b6, hA6, hc6⟩ := HR.out.row.at_ (j := j) (x := (m : Int)) (by rw [List.getElem?_map, hm]; rfl)
            subst hA6
            obtain ⟨t, hft⟩ : ∃ t, fileB fs (segNm (m : Int)) = some t := by
              unfold hasF at hmf
              cases hf : fileB fs (segNm (m : Int)) with
              | none => rw [hf] at hmf; cases hmf
              | some t => exact ⟨t, rfl⟩
            have hts := fileB_small HDK.out hft
            obtain ⟨l, okh, hho, hh1, hh2⟩ := hoUni m t
            have HHO := Lib.hid hho
            have HH1 := Lib.hid hh1
            have HH2 := Lib.hid hh2
            have HM := Lib.hid hm
            have HMA := Lib.hid hma
            have HMF := Lib.hid hmf
            have HFT := Lib.hid hft
            have HRD := Lib.hid (HR.out.go (Below.drew (Below.refl _ _)))
            have HPP := Lib.hid (HPW.out.below HRD.out.vd.from_)
            clear hho hh1 hh2 hm hma hmf hft hmk
            go_wp2_with fail
            go_region_held3 (fun w' => w'.cell? ⟨w.heap.size, 0, none⟩ = some (.slice A fs.length c) ∧ Hid (SI w A fs.length c w3.heap.size (a : Int) (.slice (some ⟨b6, 0, none⟩) L.length c6) (L.map Int.ofNat) w')) (first | exact HRD.out.all | exact (HRD.out.go (by assumption)).all | exact ((HRD.out.go (by assumption)).go (by assumption)).all) (first | (go_at_call 22; refine (impl_SegNm_calls (m : Int) _ HPP.out).mono ?_; rintro e w' ⟨rfl, hb⟩) | (go_at_call 21; refine (impl_FileAt_calls (segNm (m : Int)) A c fs _ (HF.out.below (HRD.out.go (by assumption)).vd.from_)).mono ?_; rw [HFT.out, fiRes_some]; rintro e w'' ⟨rfl, hb⟩))
            have HR2 := (‹_ ∧ Hid (SI w A fs.length c w3.heap.size (a : Int) (.slice (some ⟨b6, 0, none⟩) L.length c6) (L.map Int.ofNat) _)›).2
            go_wp2_with fail
            go_at_call 42
            refine (impl_headOf_calls (m : Int) t _ (by omega)).mono ?_
            rw [HHO.out]
            rintro e w8 ⟨rfl, hb8⟩
            have HR8 := Lib.hid (HR2.out.go hb8)
            clear hb8
            cases okh
            · have hbd := hd_bad HFT.out (HH2.out rfl)
              have HE := Lib.hid (HQ1.out m HMA.out hm100 HMF.out hbd.2.2)
              clear hbd
              go_wp2
              go_ret2
              exact segsPost_no HE.out (World.ownsRow_nil _ _ _ _) HR8.out.vd.from_
            · have HGD : Hid (badF fs m = false) := by
                obtain ⟨f, l, h⟩ := HH1.out rfl
                exact (hd_good HFT.out h).2.2
              have HG2 : Hid (∀ x ∈ L.take (j + 1), badF fs x = false) := fun x hx => by
                rw [take_snoc HM.out] at hx
                rcases List.mem_append.1 hx with hx | hx
                · exact HG.out x hx
                · obtain rfl := List.mem_singleton.1 hx
                  exact HGD.out
              go_wp2
              go_roundw
              case rel => first | exact ⟨j + 1, by omega, by go_num, HG2, HR8⟩ | (repeat (first | (refine ⟨?relx, rfl⟩; exact ⟨j + 1, by omega, by go_num, HG2, HR8⟩) | (refine ⟨?relx, ?eqs⟩; (case eqs => (and_intros <;> rfl)); exact ⟨j + 1, by omega, by go_num, HG2, HR8⟩) | apply Exists.intro))
              case measure => simp [intOf]; omega
          · obtain rfl : j = L.length := by omega
            have HE : Hid (segsB fs = L) := HOK.out (by have := HG.out; rw [List.take_length] at this; exact this)
            clear HG HOM HOK HSO HQ1 HK
            cases L with
            | nil =>
              go_wp2
              go_ret2
              exact segsPost_no HE.out (World.ownsRow_nil _ _ _ _) HR.out.vd.from_
            | cons m L =>
              have h0 : (((m :: L).length : Int) == 0) = false := by
                rw [List.length_cons]
                exact beq_eq_false_iff_ne.mpr (by omega)
              have h00 : ((L.length : Int) + 1 == 0) = false := beq_eq_false_iff_ne.mpr (by omega)
              go_wp2
              go_ret2
              refine ⟨_, ?_, by rw [HE.out]; exact HR.out.row.mono (by have := HR.out.far; omega), HR.out.vd.from_⟩
              rw [HE.out]
              rfl
end Go.Proofs.YticnhfflppkpoaaGreatDoor

namespace Go.Proofs.YticnhfflppkpoaaGreatDoor
set_option linter.unusedVariables false
set_option linter.unusedSimpArgs false
open Go.RowKit

/-- The batches of a segment of a disk. -/
def batsAt (fs : List FiD) (n : Nat) : List PlD := match segPl (n : Int) ((fileB fs (segNm (n : Int))).getD ⟨#[]⟩) with
  | none => []
  | some (_, _, pls) => pls
def seqsAt (fs : List FiD) (n : Nat) : List Int := (batsAt fs n).map fun p => p.1.1
def riseGo : Int → List Int → Option Int
  | last, [] => some last
  | last, q :: qs => if q ≤ last then none else riseGo q qs
theorem riseGo_append : ∀ (a b : List Int) (l : Int), riseGo l (a ++ b) = (riseGo l a).bind fun m => riseGo m b
  | [], b, l => rfl
  | q :: a, b, l => by
    rw [List.cons_append, riseGo, riseGo]
    split
    · rfl
    · exact riseGo_append a b q
def riseL (L : List Nat) (sq : Nat → List Int) : Bool := !L.isEmpty && (riseGo (-1) ((L.map sq).flatten)).isSome
def riseB (fs : List FiD) : Bool := riseL (segsB fs) (seqsAt fs)
/-- Behind i segments, and j batches of the next, the last number is l. -/
def RiseAt (L : List Nat) (sq : Nat → List Int) (i j : Nat) (l : Int) : Prop := riseGo (-1) ((((L).take i).map (sq)).flatten ++ (match (L)[i]? with
  | none => []
  | some n => (sq n).take j)) = some l
theorem rise_start (L : List Nat) (sq : Nat → List Int) : RiseAt L sq 0 0 (-1) := by
  unfold RiseAt
  cases (L)[0]? <;> simp [riseGo]
theorem rise_in {L : List Nat} {sq : Nat → List Int} {i j n : Nat} {l q : Int} (h : RiseAt L sq i j l) (hi : (L)[i]? = some n) (hq : (sq n)[j]? = some q) (hlt : ¬ q ≤ l) : RiseAt L sq i (j + 1) q := by
  unfold RiseAt at h ⊢
  rw [hi] at h ⊢
  dsimp only at h ⊢
  rw [take_snoc hq, ← List.append_assoc, riseGo_append, h]
  simp [riseGo, hlt]
theorem rise_next {L : List Nat} {sq : Nat → List Int} {i j n : Nat} {l : Int} (h : RiseAt L sq i j l) (hi : (L)[i]? = some n) (hj : (sq n).length ≤ j) : RiseAt L sq (i + 1) 0 l := by
  unfold RiseAt at h ⊢
  rw [hi] at h
  dsimp only at h
  rw [List.take_of_length_le hj] at h
  rw [take_snoc hi, List.map_append, List.flatten_append]
  cases (L)[i + 1]? <;> simpa using h
theorem rise_end {L : List Nat} {sq : Nat → List Int} {i : Nat} {l : Int} (h : RiseAt L sq i 0 l) (hi : (L).length ≤ i) : riseL L sq = !(L).isEmpty := by
  unfold RiseAt at h
  rw [List.getElem?_eq_none hi, List.take_of_length_le hi] at h
  simp only [List.append_nil] at h
  unfold riseL
  rw [h]
  simp
theorem rise_bad {L : List Nat} {sq : Nat → List Int} {i j n : Nat} {l q : Int} (h : RiseAt L sq i j l) (hi : (L)[i]? = some n) (hq : (sq n)[j]? = some q) (hle : q ≤ l) : riseL L sq = false := by
  obtain ⟨hil, e⟩ := List.getElem?_eq_some_iff.1 hi
  obtain ⟨hjl, e2⟩ := List.getElem?_eq_some_iff.1 hq
  have hs : L = L.take i ++ (n :: L.drop (i + 1)) := by
    rw [← e, ← List.drop_eq_getElem_cons hil, List.take_append_drop]
  have hs2 : sq n = (sq n).take j ++ (q :: (sq n).drop (j + 1)) := by
    rw [← e2, ← List.drop_eq_getElem_cons hjl, List.take_append_drop]
  unfold RiseAt at h
  rw [hi] at h
  dsimp only at h
  have : riseGo (-1) ((L.map sq).flatten) = none := by
    rw [hs, List.map_append, List.flatten_append, List.map_cons, List.flatten_cons, hs2, List.append_assoc, ← List.append_assoc, riseGo_append, h]
    simp [riseGo, hle]
  unfold riseL
  rw [this]
  simp
end Go.Proofs.YticnhfflppkpoaaGreatDoor

namespace Go.Proofs.YticnhfflppkpoaaGreatDoor
set_option linter.unusedVariables false
set_option linter.unusedSimpArgs false
open Go.RowKit
attribute [local go_sem] bs_size List.length_cons List.length_nil List.length_append

theorem fiRes_get (o : Option ByteArray) : fiRes o = .tuple #[.string (o.getD ⟨#[]⟩), .bool o.isSome] := by cases o <;> rfl
theorem get_small {fs : List FiD} {n : ByteArray} (h : diskOkB fs = true) : ((fileB fs n).getD ⟨#[]⟩).size ≤ 20000 := by
  cases hf : fileB fs n with
  | none => decide
  | some t => exact fileB_small h hf
theorem segs_disk {fs : List FiD} {i n : Nat} (h : (segsB fs)[i]? = some n) : diskOkB fs = true ∧ n ≤ 99 := by
  have hm := List.mem_of_getElem? h
  refine ⟨?_, by have := (segs_lt hm).1; omega⟩
  cases hd : diskOkB fs with
  | true => rfl
  | false => rw [segs_no hd] at hm; simp at hm
set_option maxHeartbeats 4000000 in
set_option maxRecDepth 100000 in
theorem spec_l06Batches_calls (A : Option Addr) (c : Nat) (fs : List FiD) (n : Nat) (w : World) (h : FiRow w A c fs) (hd : diskOkB fs = true) :
    Calls Tryz.prog 18 #[.agg #[.slice A fs.length c], .int .i64 (n : Int)] w fun e w' => ∃ v, e = .returned v ∧ BatsOwn w' w.heap.size v ((batsAt fs n).map Prod.fst) ∧ Below w.heap.size w w' := by
  have HF := Lib.hid h
  have HV := Lib.hid (vd_start w A fs.length c)
  have HV0 := Lib.hid HV.out.drew
  have hts := get_small (n := segNm (n : Int)) hd
  have HRES := Lib.hid (fiRes_get (fileB fs (segNm (n : Int))))
  have HBA : Hid (batsAt fs n = match segPl (n : Int) ((fileB fs (segNm (n : Int))).getD ⟨#[]⟩) with | none => [] | some (_, _, pls) => pls) := rfl
  generalize (fileB fs (segNm (n : Int))).getD ⟨#[]⟩ = t at hts HRES HBA
  generalize (fileB fs (segNm (n : Int))).isSome = ob at HRES
  clear h hd
  go_enter Tryz.func18, Tryz.ntmps18
  go_wp2_with fail
  go_region_held3 (fun w' => w'.cell? ⟨w.heap.size, 0, none⟩ = some (.slice A fs.length c) ∧ Hid (VD w A fs.length c w')) (first | exact HV0.out.all | exact (HV0.out.go (by assumption)).all | exact ((HV0.out.go (by assumption)).go (by assumption)).all) (first | (go_at_call 26; refine (spec_SegNm_calls (n : Int) _).mono ?_; rintro e w' ⟨rfl, hb⟩) | (go_at_call 25; refine (spec_FileAt_calls (segNm (n : Int)) A c fs _ (HF.out.below (HV0.out.go (by assumption)).from_)).mono ?_; rw [HRES.out]; rintro e w'' ⟨rfl, hb⟩))
  have HV1 := (‹_ ∧ Hid (VD w A fs.length c _)›).2
  have HSZ : Hid (w.heap.size ≤ w''.heap.size) := by have := HV1.out.size; rw [Hid]; omega
  go_wp2_with fail
  go_at_call 27
  refine (spec_ReadSegment_calls (n : Int) t _ (by omega)).mono ?_
  rintro e w5 hp
  cases hs : segPl (n : Int) t with
  | none =>
    rw [hs] at hp
    obtain ⟨hb5, v5, rfl, ho5⟩ := hp
    have HB5 := Lib.hid (HV1.out.go hb5)
    have HO5 := Lib.hid ho5
    have HE : Hid (batsAt fs n = []) := by rw [Hid, HBA.out, hs]
    clear hb5 ho5 hs
    go_wp2
    go_ret
    exact ⟨_, rfl, by rw [HE.out]; exact HO5.out.mono HSZ.out, HB5.out.from_⟩
  | some p =>
    obtain ⟨f, l, pls⟩ := p
    rw [hs] at hp
    obtain ⟨hb5, v5, rfl, ho5⟩ := hp
    have HB5 := Lib.hid (HV1.out.go hb5)
    have HO5 := Lib.hid ho5
    have HE : Hid (batsAt fs n = pls) := by rw [Hid, HBA.out, hs]
    clear hb5 ho5 hs
    go_wp2
    go_ret
    exact ⟨_, rfl, by rw [HE.out]; exact HO5.out.mono HSZ.out, HB5.out.from_⟩
/-- The disk's box and the list of segments. -/
structure SR (w : World) (A : Option Addr) (n c : Nat) (v : Value) (ns : List Int) (W : World) : Prop where
  vd : VD w A n c W
  row : OwnI W (w.heap.size + 1) v ns
section
variable {w W W' : World} {A : Option Addr} {n c : Nat} {v : Value} {ns : List Int}
theorem SR.go (h : SR w A n c v ns W) (hb : Below W.heap.size W W') : SR w A n c v ns W' := ⟨h.vd.go hb, h.row.below hb⟩
end
theorem BatsOwn.cells0 {w : World} {B : Nat} {A : Option Addr} {n c j : Nat} {bs : List BatD} {q : Int} {cs : List ChD} (h : BatsOwn w B (.slice A n c) bs) (hj : bs[j]? = some (q, cs)) :
    ∃ g, A = some ⟨g, 0, none⟩ ∧ w.cell? ⟨g, j * 2, none⟩ = some (.int .i64 q) := by
  obtain ⟨b, u, e, hc, _, _⟩ := ListC.at_ h (fun _ => rfl) hj
  exact ⟨b, e, by have := hc 0 (by omega); exact this⟩
theorem placedGo_len' : ∀ (rs : List ByteArray) (last : Option Int) (a : Nat), (placedGo last a rs).length ≤ rs.length := placedGo_len
theorem bats_len (fs : List FiD) (n : Nat) : (batsAt fs n).length ≤ 20000 := by
  unfold batsAt
  cases h : segPl (n : Int) ((fileB fs (segNm (n : Int))).getD ⟨#[]⟩) with
  | none => simp
  | some p => obtain ⟨f, l, pls⟩ := p; exact (segPl_bound h).2.1
set_option maxHeartbeats 8000000 in
set_option maxRecDepth 100000 in
theorem spec_SeqsRise_calls (A : Option Addr) (c : Nat) (fs : List FiD) (w : World) (h : FiRow w A c fs) :
    Calls Tryz.prog 6 #[.agg #[.slice A fs.length c]] w fun e w' => e = .returned (.bool (riseB fs)) ∧ Below w.heap.size w w' := by
  have HF := Lib.hid h
  have HV := Lib.hid (vd_start w A fs.length c)
  have p0 := HV.out.cell
  have hw5 : (W5 w A fs.length c).heap.size = w.heap.size + 1 := by simp
  have HDS : Hid (∀ i n, (segsB fs)[i]? = some n → diskOkB fs = true ∧ n ≤ 99) := fun i n hi => segs_disk hi
  have hsl := segs_len fs
  have HRB : Hid (riseB fs = riseL (segsB fs) (seqsAt fs)) := rfl
  have HFW := Lib.hid (HF.out.below HV.out.from_)
  have HSP := Lib.hid (spec_Segments_calls A c fs _ HFW.out)
  unfold SegsPost at HSP
  rw [hw5] at HSP
  generalize segsB fs = L at HDS hsl HRB HSP
  clear h hw5
  go_enter Tryz.func6, Tryz.ntmps6
  go_wp2_with fail
  go_at_call 17
  refine HSP.out.mono ?_
  rintro e w1 ⟨v1, rfl, ho1, hb1⟩
  obtain ⟨A1, c1, hv1⟩ := ho1.form
  rw [List.length_map] at hv1
  subst hv1
  have HS1 : Hid (SR w A fs.length c (.slice A1 L.length c1) (L.map Int.ofNat) w1) := ⟨HV.out.go (hb1.mono (by simp)), ho1⟩
  clear ho1 hb1 p0 HSP
  go_wp2
  go_loopw [5, 6] (fun lv iv wr => ∃ (i : Nat) (l : Int), i ≤ L.length ∧ iv = .int .i64 (i : Int) ∧ lv = .int .i64 l ∧ Hid (RiseAt L (seqsAt fs) i 0 l) ∧ Hid (SR w A fs.length c (.slice A1 L.length c1) (L.map Int.ofNat) wr)) (fun _ iv _ => L.length - (intOf iv).toNat)
  case atStart => exact ⟨0, -1, Nat.zero_le _, rfl, rfl, rise_start _ _, HS1⟩
  case round =>
    obtain ⟨i, l, hi, rfl, rfl, HR, HS⟩ := hrel
    by_cases hlt : i < L.length
    · obtain ⟨m, hm⟩ : ∃ m, L[i]? = some m := ⟨_, List.getElem?_eq_getElem hlt⟩
      have hdm := HDS.out i m hm
      obtain ⟨b1, hA1, hc1⟩ := HS.out.row.at_ (j := i) (x := (m : Int)) (by rw [List.getElem?_map, hm]; rfl)
      subst hA1
      have HM := Lib.hid hm
      have HDK := Lib.hid hdm.1
      have HSD := Lib.hid (HS.out.go (Below.drew (Below.refl _ _)))
      have HC1 : Hid (∀ W, SR w A fs.length c (.slice (some ⟨b1, 0, none⟩) L.length c1) (L.map Int.ofNat) W → W.cell? ⟨w.heap.size, 0, none⟩ = some (.slice A fs.length c) ∧ W.cell? ⟨b1, i, none⟩ = some (.int .i64 (m : Int)) ∧ Hid (SR w A fs.length c (.slice (some ⟨b1, 0, none⟩) L.length c1) (L.map Int.ofNat) W)) := fun W hW => by
        obtain ⟨b, e, hb⟩ := hW.row.at_ (j := i) (x := (m : Int)) (by rw [List.getElem?_map, HM.out]; rfl)
        cases e
        exact ⟨hW.vd.cell, hb, hW⟩
      have hil : (i : Int) < (L.length : Int) := by omega
      clear hm hdm hc1
      go_wp2_with fail
      go_region_held3 (fun w' => w'.cell? ⟨w.heap.size, 0, none⟩ = some (.slice A fs.length c) ∧ w'.cell? ⟨b1, i, none⟩ = some (.int .i64 (m : Int)) ∧ Hid (SR w A fs.length c (.slice (some ⟨b1, 0, none⟩) L.length c1) (L.map Int.ofNat) w')) (first | exact HC1.out _ HSD.out | exact HC1.out _ (HSD.out.go hb7)) (first | (go_at_call 18; refine (spec_l06Batches_calls A c fs m _ (HF.out.below HSD.out.vd.from_) HDK.out).mono ?_; rintro e w7 ⟨v7, rfl, ho7, hb7⟩))
      have HS7 := (‹_ ∧ _ ∧ Hid (SR w A fs.length c (.slice (some ⟨b1, 0, none⟩) L.length c1) (L.map Int.ofNat) _)›).2.2
      obtain ⟨A7, c7, hv7⟩ := ListC.form ho7
      rw [List.length_map] at hv7
      subst hv7
      have HO7 := Lib.hid ho7
      have hbl := bats_len fs m
      have HSQ : Hid (seqsAt fs m = (batsAt fs m).map fun p => p.1.1) := rfl
      generalize batsAt fs m = S at HO7 hbl HSQ ho7 ⊢
      clear ho7 hb7
      go_wp2
      go_loopw [5, 8] (fun lv kv wr2 => ∃ (j : Nat) (l' : Int), j ≤ S.length ∧ kv = .int .i64 (j : Int) ∧ lv = .int .i64 l' ∧ Hid (RiseAt L (seqsAt fs) i j l') ∧ Hid (Below w7.heap.size w7 wr2)) (fun _ kv _ => S.length - (intOf kv).toNat)
      case atStart => exact ⟨0, l, Nat.zero_le _, rfl, rfl, HR, Below.refl _ _⟩
      case round =>
        obtain ⟨j, l', hj, rfl, rfl, HR2, HB2⟩ := hrel
        by_cases hlt2 : j < S.length
        · obtain ⟨⟨⟨q, cs⟩, a, z⟩, hp⟩ : ∃ p, S[j]? = some p := ⟨_, List.getElem?_eq_getElem hlt2⟩
          obtain ⟨g, hA7, hcg⟩ := BatsOwn.cells0 (ListC.below HO7.out HB2.out) (j := j) (q := q) (cs := cs) (by rw [List.getElem?_map, hp]; rfl)
          subst hA7
          have HQ : Hid ((seqsAt fs m)[j]? = some q) := by rw [Hid, HSQ.out, List.getElem?_map, hp]; rfl
          have hjl : (j : Int) < (S.length : Int) := by omega
          clear hp
          by_cases hq : q ≤ l'
          · have HE := Lib.hid (rise_bad HR2.out HM.out HQ.out hq)
            have HF9 := Lib.hid (HS7.out.vd.go HB2.out).from_
            go_wp2
            go_ret
            exact ⟨by rw [HRB.out, HE.out]; rfl, HF9.out⟩
          · have HN := Lib.hid (rise_in HR2.out HM.out HQ.out hq)
            go_wp2
            go_roundw
            case rel => first | exact ⟨j + 1, q, by omega, by go_num, rfl, HN, HB2⟩ | (repeat (first | (refine ⟨?relx, rfl⟩; exact ⟨j + 1, q, by omega, by go_num, rfl, HN, HB2⟩) | (refine ⟨?relx, ?eqs⟩; (case eqs => (and_intros <;> rfl)); exact ⟨j + 1, q, by omega, by go_num, rfl, HN, HB2⟩) | apply Exists.intro))
            case measure => simp [intOf]; omega
        · obtain rfl : j = S.length := by omega
          have HN := Lib.hid (rise_next HR2.out HM.out (by rw [HSQ.out, List.length_map]; exact Nat.le_refl _))
          have HS9 := Lib.hid (HS7.out.go HB2.out)
          have hjl : ¬ (S.length : Int) < (S.length : Int) := by omega
          go_wp2
          go_roundw
          case rel => first | exact ⟨i + 1, l', by omega, by go_num, rfl, HN, HS9⟩ | (repeat (first | (refine ⟨?relx, rfl⟩; exact ⟨i + 1, l', by omega, by go_num, rfl, HN, HS9⟩) | (refine ⟨?relx, ?eqs⟩; (case eqs => (and_intros <;> rfl)); exact ⟨i + 1, l', by omega, by go_num, rfl, HN, HS9⟩) | apply Exists.intro))
          case measure => simp [intOf]; omega
    · obtain rfl : i = L.length := by omega
      have HE := Lib.hid (rise_end HR.out (Nat.le_refl _))
      go_wp2
      go_ret
      exact ⟨by rw [HRB.out, HE.out]; rfl, HS.out.vd.from_⟩
end Go.Proofs.YticnhfflppkpoaaGreatDoor

namespace Go.Proofs.YticnhfflppkpoaaGreatDoor
set_option linter.unusedVariables false
set_option linter.unusedSimpArgs false
open Go.RowKit
attribute [local go_sem] bs_size List.length_cons List.length_nil List.length_append

theorem plUni (fs : List FiD) (m : Nat) (t : ByteArray) (h : (fileB fs (segNm (m : Int))).getD ⟨#[]⟩ = t) : ∃ (f : Nat) (ok : Bool), ∀ (w : World) (e : Ending) (w' : World), PlPost w (segPl (m : Int) t) e w' → ∃ v, e = .returned (.tuple #[.int .i64 (f : Int), v, .bool ok]) ∧ PlOwn w' w.heap.size v (batsAt fs m) ∧ Below w.heap.size w w' := by
  unfold batsAt
  rw [h]
  cases hs : segPl (m : Int) t with
  | none => exact ⟨0, false, fun w e w' hp => ⟨_, hp.2, ListC.nil _ _, hp.1⟩⟩
  | some p =>
    obtain ⟨f, l, pls⟩ := p
    exact ⟨f, true, fun w e w' hp => by obtain ⟨hb, v, he, ho⟩ := hp; exact ⟨v, he, ho, hb⟩⟩
set_option maxHeartbeats 8000000 in
set_option maxRecDepth 100000 in
theorem impl_SeqsRise_calls (A : Option Addr) (c : Nat) (fs : List FiD) (w : World) (h : FiRow w A c fs) (hP : Pow w) (hE : Sent w) :
    Calls Tryz.prog 8 #[.agg #[.slice A fs.length c]] w fun e w' => e = .returned (.bool (riseB fs)) ∧ Below w.heap.size w w' := by
  have HF := Lib.hid h
  have HPW := Lib.hid hP
  have HV := Lib.hid (vd_start w A fs.length c)
  have p0 := HV.out.cell
  have hw5 : (W5 w A fs.length c).heap.size = w.heap.size + 1 := by simp
  have HDS : Hid (∀ i n, (segsB fs)[i]? = some n → diskOkB fs = true ∧ n ≤ 99) := fun i n hi => segs_disk hi
  have hsl := segs_len fs
  have HRB : Hid (riseB fs = riseL (segsB fs) (seqsAt fs)) := rfl
  have HFW := Lib.hid (HF.out.below HV.out.from_)
  have HSP := Lib.hid (impl_Segments_calls A c fs _ HFW.out (HPW.out.below HV.out.from_) (sentB hE HV.out.from_))
  unfold SegsPost at HSP
  rw [hw5] at HSP
  generalize segsB fs = L at HDS hsl HRB HSP
  clear h hw5 hP hE
  go_enter Tryz.func8, Tryz.ntmps8
  go_wp2_with fail
  go_at_call 20
  refine HSP.out.mono ?_
  rintro e w1 ⟨v1, rfl, ho1, hb1⟩
  obtain ⟨A1, c1, hv1⟩ := ho1.form
  rw [List.length_map] at hv1
  subst hv1
  have HS1 : Hid (SR w A fs.length c (.slice A1 L.length c1) (L.map Int.ofNat) w1) := ⟨HV.out.go (hb1.mono (by simp)), ho1⟩
  clear ho1 hb1 p0 HSP
  go_wp2
  go_loopw [5, 22] (fun lv iv wr => ∃ (i : Nat) (l : Int), i ≤ L.length ∧ iv = .int .i64 (i : Int) ∧ lv = .int .i64 l ∧ Hid (RiseAt L (seqsAt fs) i 0 l) ∧ Hid (SR w A fs.length c (.slice A1 L.length c1) (L.map Int.ofNat) wr)) (fun _ iv _ => L.length - (intOf iv).toNat)
  case atStart => exact ⟨0, -1, Nat.zero_le _, rfl, rfl, rise_start _ _, HS1⟩
  case round =>
    obtain ⟨i, l, hi, rfl, rfl, HR, HS⟩ := hrel
    by_cases hlt : i < L.length
    · obtain ⟨m, hm⟩ : ∃ m, L[i]? = some m := ⟨_, List.getElem?_eq_getElem hlt⟩
      have hdm := HDS.out i m hm
      obtain ⟨b1, hA1, hc1⟩ := HS.out.row.at_ (j := i) (x := (m : Int)) (by rw [List.getElem?_map, hm]; rfl)
      subst hA1
      have HM := Lib.hid hm
      have HDK := Lib.hid hdm.1
      have HSD := Lib.hid (HS.out.go (Below.drew (Below.refl _ _)))
      have HPP := Lib.hid (HPW.out.below HSD.out.vd.from_)
      obtain ⟨t, ht⟩ : ∃ t, (fileB fs (segNm (m : Int))).getD ⟨#[]⟩ = t := ⟨_, rfl⟩
      have hts : t.size ≤ 20000 := by rw [← ht]; exact get_small hdm.1
      obtain ⟨f, okp, hpl⟩ := plUni fs m t ht
      have HPL := Lib.hid hpl
      have hres := fiRes_get (fileB fs (segNm (m : Int)))
      rw [ht] at hres
      generalize (fileB fs (segNm (m : Int))).isSome = ob at hres
      have HRES := Lib.hid hres
      have hbl := bats_len fs m
      have HSQ : Hid (seqsAt fs m = (batsAt fs m).map fun p => p.1.1) := rfl
      generalize batsAt fs m = S at hbl HSQ HPL
      clear hm hdm ht hpl hres
      go_wp2_with fail
      go_region_held3 (fun w' => w'.cell? ⟨w.heap.size, 0, none⟩ = some (.slice A fs.length c) ∧ Hid (SR w A fs.length c (.slice (some ⟨b1, 0, none⟩) L.length c1) (L.map Int.ofNat) w')) (first | exact ⟨HSD.out.vd.cell, HSD.out⟩ | exact ⟨(HSD.out.go (by assumption)).vd.cell, HSD.out.go (by assumption)⟩ | exact ⟨((HSD.out.go (by assumption)).go (by assumption)).vd.cell, (HSD.out.go (by assumption)).go (by assumption)⟩) (first | (go_at_call 22; refine (impl_SegNm_calls (m : Int) _ HPP.out).mono ?_; rintro e w' ⟨rfl, hb⟩) | (go_at_call 21; refine (impl_FileAt_calls (segNm (m : Int)) A c fs _ (HF.out.below (HSD.out.go (by assumption)).vd.from_)).mono ?_; rw [HRES.out]; rintro e w'' ⟨rfl, hb⟩))
      have HS7 := (‹_ ∧ Hid (SR w A fs.length c (.slice (some ⟨b1, 0, none⟩) L.length c1) (L.map Int.ofNat) _)›).2
      go_wp2_with fail
      go_at_call 23
      refine (impl_placedIn_calls (m : Int) t _ (by omega)).mono ?_
      rintro e w8 hp
      obtain ⟨v8, rfl, ho8, hb8⟩ := HPL.out _ _ _ hp
      obtain ⟨A8, c8, hv8⟩ := ListC.form ho8
      subst hv8
      have HO8 := Lib.hid ho8
      have HS8 := Lib.hid (HS7.out.go hb8)
      clear hp ho8 hb8
      go_wp2
      go_loopw [5, 42] (fun lv kv wr2 => ∃ (j : Nat) (l' : Int), j ≤ S.length ∧ kv = .int .i64 (j : Int) ∧ lv = .int .i64 l' ∧ Hid (RiseAt L (seqsAt fs) i j l') ∧ Hid (Below w8.heap.size w8 wr2)) (fun _ kv _ => S.length - (intOf kv).toNat)
      case atStart => exact ⟨0, l, Nat.zero_le _, rfl, rfl, HR, Below.refl _ _⟩
      case round =>
        obtain ⟨j, l', hj, rfl, rfl, HR2, HB2⟩ := hrel
        by_cases hlt2 : j < S.length
        · obtain ⟨⟨⟨q, cs⟩, a, z⟩, hp⟩ : ∃ p, S[j]? = some p := ⟨_, List.getElem?_eq_getElem hlt2⟩
          obtain ⟨g, u, hA8, hcc, hu, hsm⟩ := ListC.at_ (ListC.below HO8.out HB2.out) (fun _ => rfl) hp
          subst hA8
          obtain ⟨Au, cu, hform, _⟩ := hu.row hsm
          dsimp only at hform
          subst hform
          have k0 := hcc 0 (by omega)
          have k1 := hcc 1 (by omega)
          have k2 := hcc 2 (by omega)
          have k3 := hcc 3 (by omega)
          simp only [plVals, Nat.add_zero, List.getElem?_cons_zero, List.getElem?_cons_succ] at k0 k1 k2 k3
          have HQ : Hid ((seqsAt fs m)[j]? = some q) := by rw [Hid, HSQ.out, List.getElem?_map, hp]; rfl
          have HB3 := Lib.hid (HB2.out.alloc HB2.out.size (.cells #[.int .i64 q, .slice Au cs.length cu, .int .i64 (a : Int), .int .i64 (z : Int)] 56))
          have hjl : (j : Int) < (S.length : Int) := by omega
          clear hp hcc hu hsm
          by_cases hq : q ≤ l'
          · have HE := Lib.hid (rise_bad HR2.out HM.out HQ.out hq)
            have HF9 := Lib.hid (HS8.out.vd.go HB3.out).from_
            go_wp2
            go_ret
            exact ⟨by rw [HRB.out, HE.out]; rfl, HF9.out⟩
          · have HN := Lib.hid (rise_in HR2.out HM.out HQ.out hq)
            go_wp2
            go_roundw
            case rel => first | exact ⟨j + 1, q, by omega, by go_num, rfl, HN, HB3⟩ | (repeat (first | (refine ⟨?relx, rfl⟩; exact ⟨j + 1, q, by omega, by go_num, rfl, HN, HB3⟩) | (refine ⟨?relx, ?eqs⟩; (case eqs => (and_intros <;> rfl)); exact ⟨j + 1, q, by omega, by go_num, rfl, HN, HB3⟩) | apply Exists.intro))
            case measure => simp [intOf]; omega
        · obtain rfl : j = S.length := by omega
          have HN := Lib.hid (rise_next HR2.out HM.out (by rw [HSQ.out, List.length_map]; exact Nat.le_refl _))
          have HS9 := Lib.hid (HS8.out.go HB2.out)
          go_wp2
          go_roundw
          case rel => first | exact ⟨i + 1, l', by omega, by go_num, rfl, HN, HS9⟩ | (repeat (first | (refine ⟨?relx, rfl⟩; exact ⟨i + 1, l', by omega, by go_num, rfl, HN, HS9⟩) | (refine ⟨?relx, ?eqs⟩; (case eqs => (and_intros <;> rfl)); exact ⟨i + 1, l', by omega, by go_num, rfl, HN, HS9⟩) | apply Exists.intro))
          case measure => simp [intOf]; omega
    · obtain rfl : i = L.length := by omega
      have HE := Lib.hid (rise_end HR.out (Nat.le_refl _))
      go_wp2
      go_ret
      exact ⟨by rw [HRB.out, HE.out]; rfl, HS.out.vd.from_⟩
end Go.Proofs.YticnhfflppkpoaaGreatDoor

namespace Go.Proofs.YticnhfflppkpoaaGreatDoor
set_option linter.unusedVariables false
set_option linter.unusedSimpArgs false
open Go.RowKit
attribute [local go_sem] bs_size List.length_cons List.length_nil List.length_append

/-- The law's box. -/
abbrev W6 (w : World) (A : Option Addr) (n c : Nat) : World := w.alloc (.cells #[.slice A n c] 24)
structure LD (w : World) (A : Option Addr) (n c : Nat) (W : World) : Prop where
  b : Below (W6 w A n c).heap.size (W6 w A n c) W
section
variable {w W W' : World} {A : Option Addr} {n c : Nat}
theorem LD.go (h : LD w A n c W) (hb : Below W.heap.size W W') : LD w A n c W' := ⟨h.b.trans (hb.mono h.b.size)⟩
theorem LD.from_ (h : LD w A n c W) : Below w.heap.size w W := ((Below.refl _ _).alloc (Nat.le_refl _) _).trans (h.b.mono (by simp))
theorem LD.cell (h : LD w A n c W) : W.cell? ⟨w.heap.size, 0, none⟩ = some (.slice A n c) := (h.b.cell (by simp)).trans (blk_cell (blk_new w _) 0)
end
/-- The copied disk beside it. -/
structure LX (w : World) (A : Option Addr) (n c gx b : Nat) (fs : List FiD) (W : World) : Prop where
  d : LD w A n c W
  x : W.heap[gx]? = some (.cells #[.slice (some ⟨b, 0, none⟩) fs.length fs.length] 29)
  row : FiRow W (some ⟨b, 0, none⟩) fs.length fs
section
variable {w W W' : World} {A : Option Addr} {n c gx b : Nat} {fs : List FiD}
theorem LX.go (h : LX w A n c gx b fs W) (hb : Below W.heap.size W W') : LX w A n c gx b fs W' := ⟨h.d.go hb, blk_below h.x hb, h.row.below hb⟩
theorem LX.all (h : LX w A n c gx b fs W) : W.cell? ⟨gx, 0, none⟩ = some (.slice (some ⟨b, 0, none⟩) fs.length fs.length) ∧ W.cell? ⟨w.heap.size, 0, none⟩ = some (.slice A n c) ∧ Hid (LX w A n c gx b fs W) := ⟨blk_cell h.x 0, h.d.cell, h⟩
end
set_option maxHeartbeats 4000000 in
set_option maxRecDepth 100000 in
theorem walk_FnExactSeqsRise (A : Option Addr) (c : Nat) (fs : List FiD) (w : World) (h : FiRow w A c fs) (hP : Pow w ∧ Sent w) :
    Calls Tryz.prog 3 #[.agg #[.slice A fs.length c]] w fun e w' => e = .returned (.bool true) ∧ Below w.heap.size w w' := by
  have HF := Lib.hid h
  have HPE := Lib.hid hP
  have HV : Hid (LD w A fs.length c (W6 w A fs.length c)) := ⟨Below.refl _ _⟩
  have p0 := HV.out.cell
  obtain ⟨rb, hrb⟩ : ∃ rb, riseB fs = rb := ⟨_, rfl⟩
  have HRB := Lib.hid hrb
  have q1 : (rb != rb) = false := by simp
  clear h hP hrb
  go_enter Tryz.func3, Tryz.ntmps3
  go_wp2_with fail
  go_at_call 5
  refine (laws_szDisk_calls A c fs 1048576 _ (HF.out.below HV.out.from_) (by omega) (by omega)).mono ?_
  rintro e w1 ⟨⟨r, rfl, hr⟩, hb⟩
  have HV1 := Lib.hid (HV.out.go hb)
  clear hb p0
  rcases hr with hr | ⟨hr0, hr1, hr2⟩
  · go_wp2
    go_ret
    exact ⟨rfl, HV1.out.from_⟩
  · have HN : Hid (fs.length ≤ 1048576) := by rw [Hid]; omega
    have p0 := HV1.out.cell
    go_wp2_with fail
    go_at_call 7
    refine (laws_toDisk_calls A c fs _ (HF.out.below HV1.out.from_) HN.out).mono ?_
    rintro e w2 ⟨b2, rfl, hrow2, hb2⟩
    have HV2 := Lib.hid (HV1.out.go hb2)
    have HR2 := Lib.hid hrow2
    clear hb2 hrow2 p0
    go_wp2_with fail
    go_at_call 6
    refine (spec_SeqsRise_calls _ _ fs _ HR2.out).mono ?_
    rw [HRB.out]
    rintro e w3 ⟨rfl, hb3⟩
    have HV3 := Lib.hid (HV2.out.go hb3)
    have p0 := HV3.out.cell
    clear hb3
    go_wp2_with fail
    go_at_call 7
    refine (laws_toDisk_calls A c fs _ (HF.out.below HV3.out.from_) HN.out).mono ?_
    rintro e w4 ⟨b4, rfl, hrow4, hb4⟩
    have HAL : Hid (Below w4.heap.size w4 (w4.alloc (.cells #[.slice (some ⟨b4, 0, none⟩) fs.length fs.length] 29))) := (Below.refl _ _).alloc (Nat.le_refl _) _
    have HX : Hid (LX w A fs.length c w4.heap.size b4 fs (w4.alloc (.cells #[.slice (some ⟨b4, 0, none⟩) fs.length fs.length] 29))) := ⟨(HV3.out.go hb4).go HAL.out, blk_new _ _, hrow4.below HAL.out⟩
    clear hb4 hrow4 p0
    go_wp2_with fail
    go_at_call 8
    refine (impl_SeqsRise_calls _ _ fs _ HX.out.row (HPE.out.1.below HX.out.d.from_) (sentB HPE.out.2 HX.out.d.from_)).mono ?_
    rw [HRB.out]
    rintro e w5 ⟨rfl, hb5⟩
    have HX5 := Lib.hid (HX.out.go hb5)
    have HX9 := Lib.hid (HX5.out.go (Below.drew (Below.refl _ _)))
    clear hb5
    go_wp2_with fail
    go_region_held3 (fun w' => w'.cell? ⟨w4.heap.size, 0, none⟩ = some (.slice (some ⟨b4, 0, none⟩) fs.length fs.length) ∧ w'.cell? ⟨w.heap.size, 0, none⟩ = some (.slice A fs.length c) ∧ Hid (LX w A fs.length c w4.heap.size b4 fs w')) (first | exact HX9.out.all | exact (HX9.out.go hb10).all | exact ((HX9.out.go hb10).go hb11).all) (first | (go_at_call 7; refine (laws_toDisk_calls A c fs _ (HF.out.below HX9.out.d.from_) HN.out).mono ?_; rintro e w10 ⟨b10, rfl, hrow10, hb10⟩) | (go_at_call 9; refine (laws_eqDisk_calls _ _ _ _ fs _ (HX9.out.go hb10).row hrow10).mono ?_; rintro e w11 ⟨rfl, hb11⟩))
    have HX11 := (‹_ ∧ _ ∧ Hid (LX w A fs.length c w4.heap.size b4 fs _)›).2.2
    clear hb10 hb11 hrow10
    go_wp2
    go_ret
    exact ⟨rfl, HX11.out.d.from_⟩
end Go.Proofs.YticnhfflppkpoaaGreatDoor

namespace Go.Proofs.YticnhfflppkpoaaGreatDoor
set_option linter.unusedVariables false
set_option linter.unusedSimpArgs false
open Go.RowKit

theorem fiRow_of_trod {H : Type} {enc : TypeId × Value → H} {P : Program} {w : World} {base : Nat} {held : Bool} {t e : TypeId} {f0 f1 f2 : Field} {fuel : Nat} {A : Option Addr} {len cap : Nat} {x : DataW H × List MemPlace}
    (ht : P.underlying t = some (.slice e)) (he : P.underlying e = some (.struct #[f0, f1, f2])) (ce : P.cellsOf e = 3) (o0 : f0.offset = 0) (o1 : f1.offset = 1) (o2 : f2.offset = 2) (c0 : P.cellsOf f0.type = 1) (c1 : P.cellsOf f1.type = 1) (c2 : P.cellsOf f2.type = 1)
    (u0 : P.underlying f0.type = some .string) (u1 : P.underlying f1.type = some .string) (u2 : P.underlying f2.type = some (.int .i64))
    (h : DataW.trod enc P w base (fun _ => true) held fuel t [.slice A len cap] = some x) : ∃ fs : List FiD, len = fs.length ∧ FiRow w A cap fs := by
  rcases Go.Deep.open_slice ht h with ⟨hcs, _⟩ | ⟨a, len', cap', m, n, D, Pl, hcs, hb, hl, hm, hmm, _, hx⟩
  · simp at hcs
    obtain ⟨rfl, rfl, rfl⟩ := hcs
    exact ⟨[], rfl, by simp, by simp, by simp, fun h0 => by simp at h0⟩
  · simp at hcs
    obtain ⟨rfl, rfl, rfl⟩ := hcs
    rw [if_pos rfl] at hmm
    have each : ∀ i, i < len → ∃ q : FiD, w.cell? (a.add (i * 3)) = some (.string q.1) ∧ w.cell? ((a.add (i * 3)).add 1) = some (.string q.2.1) ∧ w.cell? ((a.add (i * 3)).add 2) = some (.int .i64 q.2.2) ∧ q.1.size ≤ maxLen ∧ q.2.1.size ≤ maxLen := by
      intro i hi
      obtain ⟨cs', h1, h2⟩ := hx i (by omega)
      rw [ce] at h1
      obtain ⟨_, hlen, hcell⟩ := World.cells?_some h1
      obtain ⟨xs, k, hk, hxy, _, hxl, hf⟩ := DataW.trod_struct he h2
      match xs, hxl, cs', hlen with
      | [y0, y1, y2], _, [v0, v1, v2], _ =>
        have g0 := hf 0 f0 rfl
        have g1 := hf 1 f1 rfl
        have g2 := hf 2 f2 rfl
        simp [o0, o1, o2, c0, c1, c2] at g0 g1 g2
        obtain ⟨s0, e0, _, z0⟩ := DataW.trod_string u0 g0
        obtain ⟨s1, e1, _, z1⟩ := DataW.trod_string u1 g1
        obtain ⟨k2, e2, _, _⟩ := DataW.trod_int u2 g2
        have d0 := hcell 0 (by omega)
        have d1 := hcell 1 (by omega)
        have d2 := hcell 2 (by omega)
        simp at e0 e1 e2
        subst e0 e1 e2
        refine ⟨(s0, s1, k2), ?_, d1, d2, z0, z1⟩
        have : (a.add (i * 3)).add 0 = a.add (i * 3) := by simp [Addr.add]
        rwa [this] at d0
    obtain ⟨q, hq⟩ := Go.Deep.choose_lt each
    have hlen : ((List.range len).map q).length = len := by simp
    refine ⟨(List.range len).map q, hlen.symm, by rw [hlen]; exact hl, by unfold maxLen at hm; exact hm, fun y hy => ?_, fun h0 => ⟨a, rfl, ?_, fun j y hy => ?_⟩⟩
    · obtain ⟨i, hi, rfl⟩ := List.mem_map.1 hy
      have := hq i (List.mem_range.1 hi)
      unfold maxLen at this
      exact ⟨this.2.2.2.1, this.2.2.2.2⟩
    · have := World.block_lt_of_cell? w _ (hq 0 (by rw [hlen] at h0; exact h0)).1
      rwa [add_block] at this
    · have hj := (List.getElem?_eq_some_iff.1 hy).1
      rw [hlen] at hj
      simp [hj] at hy
      subst hy
      obtain ⟨d0, d1, d2, _, _⟩ := hq j hj
      refine ⟨d0, ?_, ?_⟩
      · simpa [Addr.add] using d1
      · simpa [Addr.add] using d2
set_option maxRecDepth 100000 in
theorem disk_of_trod {H : Type} {enc : TypeId × Value → H} {w : World} {base b0 : Nat} {held : Bool} {r : Reach} {v : Value} {d : DataW H} {p : List MemPlace} (hv : Value.okWide Tryz.prog w r b0 24 v) (h : DataW.Trod enc Tryz.prog w base (fun _ => true) held 24 v d p) :
    ∃ A c fs, v = .agg #[.slice A (List.length fs) c] ∧ FiRow w A c fs := by
  obtain ⟨cs, rfl, hsz⟩ := Go.WideShapes.okWide_struct Tryz.underlying24 hv
  have e1 : Tryz.prog.cellsOf 24 = 1 := by kernel_rfl
  rw [e1] at hsz
  obtain ⟨fuel, hf⟩ := h
  obtain ⟨xs, n, _, _, _, hxl, hx⟩ := DataW.trod_struct Tryz.underlying24 hf
  have g0 := hx 0 _ rfl
  obtain ⟨l⟩ := cs
  match l, hsz with
  | [v0], _ =>
    have e2 : Tryz.prog.cellsOf 22 = 1 := by kernel_rfl
    match xs, hxl with
    | [y0], _ =>
      have g1 : DataW.trod enc Tryz.prog w base (fun _ => true) held n 22 [v0] = some y0 := by
        have := g0
        simp [Value.cells, e2] at this
        exact this
      rcases Go.Deep.open_slice Tryz.underlying22 g1 with ⟨hcs, _⟩ | ⟨a, len', cap', m, n', D, Pl, hcs, _⟩
      · simp at hcs
        subst hcs
        exact ⟨none, 0, [], rfl, by simp, by simp, by simp, fun h0 => by simp at h0⟩
      · simp at hcs
        subst hcs
        obtain ⟨fs, hl, hr⟩ := fiRow_of_trod Tryz.underlying22 Tryz.underlying77 (by kernel_rfl) rfl rfl rfl (by kernel_rfl) (by kernel_rfl) (by kernel_rfl) Tryz.underlying9 Tryz.underlying9 Tryz.underlying3 g1
        subst hl
        exact ⟨_, _, fs, rfl, hr⟩
end Go.Proofs.YticnhfflppkpoaaGreatDoor
