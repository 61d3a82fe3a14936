/- How many bytes an engine's disk holds: plain, and the program's. How many bytes an engine's disk holds: the reference's. The walk of the law FnExactUsed: whatever the engine, it returns true. -/
import Derived.Test.YtaacpdejpcbbbaaGreatDoorOkAll
import Derived.Test.YtaacpdejpcbbbaaGreatDoorSegAll
import Derived.Test.YtaacpdejpcbbbaaGreatDoorMarkAll
import Derived.Test.YtaacpdejpcbbbaaGreatDoorDecAll
namespace Go.Proofs.YtaacpdejpcbbbaaGreatDoor
set_option linter.unusedVariables false
set_option linter.unusedSimpArgs false
open Go.RowKit
attribute [local go_sem] bs_size List.length_cons List.length_nil

def txSum (fs : List FiD) : Nat := (fs.map fun x => x.2.1.size).sum
def usedB (fs : List FiD) (room a q : Int) (ds : List SpotD) : Int := if okB fs room a q ds = true then (txSum fs : Int) else 0
theorem txSum_step {fs : List FiD} {i : Nat} {x : FiD} (h : fs[i]? = some x) : txSum (fs.take (i + 1)) = txSum (fs.take i) + x.2.1.size := by
  obtain ⟨hi, e⟩ := List.getElem?_eq_some_iff.1 h
  unfold txSum
  rw [List.take_succ_eq_append_getElem hi, List.map_append, List.sum_append, e]
  simp
theorem txSum_le {fs : List FiD} (hd : diskOkB fs = true) : ∀ i, txSum (fs.take i) ≤ 20000 * i := by
  intro i
  induction i with
  | zero => simp [txSum]
  | succ k ih =>
    cases h : fs[k]? with
    | none =>
      have : fs.length ≤ k := List.getElem?_eq_none_iff.1 h
      rw [List.take_of_length_le (by omega)] at ih ⊢
      omega
    | some x =>
      rw [txSum_step h]
      have := diskOk_small hd (List.mem_of_getElem? h)
      omega
set_option maxHeartbeats 4000000 in
set_option maxRecDepth 100000 in
theorem impl_bytesOf_calls (A : Option Addr) (c : Nat) (fs : List FiD) (w : World) (h : FiRow w A c fs) (hd : diskOkB fs = true) :
    Calls Tryz.prog 35 #[.agg #[.slice A fs.length c]] w fun e w' => e = .returned (.int .i64 (txSum fs : Int)) ∧ Below w.heap.size w w' := by
  have HR := Lib.hid h
  have HOK := Lib.hid hd
  have hl := diskOk_l30 hd
  have HV := Lib.hid (vd_start w A fs.length c)
  have p0 := HV.out.cell
  clear h hd
  go_enter Tryz.func35, Tryz.ntmps35
  go_wp2
  clear p0
  go_loopw [3, 9] (fun nv iv wr => ∃ i n : Nat, i ≤ fs.length ∧ iv = .int .i64 (i : Int) ∧ nv = .int .i64 (n : Int) ∧ n ≤ 20000 * i ∧ Hid (n = txSum (fs.take i)) ∧ Hid (VD w A fs.length c wr)) (fun _ iv _ => fs.length - (intOf iv).toNat)
  case atStart => exact ⟨0, 0, by omega, rfl, rfl, by omega, rfl, HV⟩
  case round =>
    clear HV
    obtain ⟨i, n, hi, rfl, rfl, hn, HN, HS⟩ := hrel
    rename World => w1
    by_cases hlt : i < fs.length
    · obtain ⟨ad, x, hA, HX, hz1, hz2, hc0, hc1, hc2⟩ := (HR.out.below HS.out.from_).at_ (k := i) hlt
      cases hA
      have hx2 := diskOk_small HOK.out (List.mem_of_getElem? HX.out)
      have HN2 : Hid (n + x.2.1.size = txSum (fs.take (i + 1))) := by rw [Hid, HN.out, txSum_step HX.out]
      obtain ⟨nm, t, k⟩ := x
      dsimp only at hz1 hz2 hc0 hc1 hc2 hx2 HN2
      have hli : (i : Int) < (fs.length : Int) := by omega
      have HAL1 := Lib.hid (HS.out.alloc (.cells #[.string nm, .string t, .int .i64 k] 105))
      go_wp2
      go_roundw
      case rel => first | exact ⟨i + 1, n + t.size, by omega, by go_num, by go_num, by omega, HN2, HAL1⟩ | (repeat (first | (refine ⟨?relx, rfl⟩; exact ⟨i + 1, n + t.size, by omega, by go_num, by go_num, by omega, HN2, HAL1⟩) | (refine ⟨?relx, ?eqs⟩; (case eqs => (and_intros <;> rfl)); exact ⟨i + 1, n + t.size, by omega, by go_num, by go_num, by omega, HN2, HAL1⟩) | apply Exists.intro))
      case measure => simp [intOf]; omega
    · obtain rfl : i = fs.length := by omega
      have HE : Hid (n = txSum fs) := by rw [Hid, HN.out, List.take_length]
      go_wp2
      go_ret
      exact ⟨by rw [HE.out]; rfl, HS.out.from_⟩
set_option maxRecDepth 100000 in
theorem impl_Used_calls (b c : Nat) (Ad : Option Addr) (cd : Nat) (fs : List FiD) (room a q : Int) (ds : List SpotD) (w : World) (h : FiRow w (some ⟨b, 0, none⟩) c fs) (hs : SpRow w Ad cd ds) (hP : Pow w) (hE : Sent w) :
    Calls Tryz.prog 14 #[.agg (engC (some ⟨b, 0, none⟩) fs.length c room a q Ad ds.length cd)] w fun e w' => e = .returned (.int .i64 (usedB fs room a q ds)) ∧ Below w.heap.size w w' := by
  have HAL : Hid (Below w.heap.size w (w.alloc (engCO (some ⟨b, 0, none⟩) fs.length c room a q Ad ds.length cd))) := (Below.refl _ _).alloc (Nat.le_refl _) _
  have H1 : Hid ((w.alloc (engCO (some ⟨b, 0, none⟩) fs.length c room a q Ad ds.length cd)).heap[w.heap.size]? = some (engCO (some ⟨b, 0, none⟩) fs.length c room a q Ad ds.length cd)) := blk_new _ _
  have HR := Lib.hid (h.below HAL.out)
  have HOK := Lib.hid (impl_EngineOk_calls b c Ad cd fs room a q ds _ HR.out (hs.below HAL.out) (hP.below HAL.out) (sentC hE HAL.out))
  have HU : Hid (usedB fs room a q ds = if okB fs room a q ds = true then (txSum fs : Int) else 0) := rfl
  have HDK : Hid (okB fs room a q ds = true → diskOkB fs = true) := fun h => (ok_disk h).1
  have p0 := blk_cell H1.out 0
  have p1 := blk_cell H1.out 1
  have p2 := blk_cell H1.out 2
  have p3 := blk_cell H1.out 3
  have p4 := blk_cell H1.out 4
  clear h hs hP hE
  generalize okB fs room a q ds = ok at HOK HU HDK
  generalize usedB fs room a q ds = us at HU ⊢
  go_enter Tryz.func14, Tryz.ntmps14
  go_wp2_with fail
  go_at_call 11
  refine HOK.out.mono ?_
  rintro e w1 ⟨rfl, hb⟩
  have HB1 := Lib.hid (HAL.out.trans (hb.mono HAL.out.size))
  have K1 := Lib.hid (blk_below H1.out hb)
  have HR1 := Lib.hid (HR.out.below hb)
  have q0 := blk_cell K1.out 0
  clear hb p0 p1 p2 p3 p4 HOK
  cases ok
  · have HUE : Hid (us = 0) := HU.out
    go_wp2
    go_ret
    exact ⟨by rw [HUE.out]; rfl, HB1.out⟩
  · have HUE : Hid (us = (txSum fs : Int)) := HU.out
    have HDT : Hid (diskOkB fs = true) := HDK.out rfl
    clear HDK
    go_wp2_with fail
    go_at_call 35
    refine (impl_bytesOf_calls _ c fs _ HR1.out HDT.out).mono ?_
    rintro e w2 ⟨rfl, hb⟩
    have HB2 := Lib.hid (HB1.out.trans (hb.mono HB1.out.size))
    clear hb
    go_wp2
    go_ret
    exact ⟨by rw [HUE.out]; rfl, HB2.out⟩
end Go.Proofs.YtaacpdejpcbbbaaGreatDoor

namespace Go.Proofs.YtaacpdejpcbbbaaGreatDoor
set_option linter.unusedVariables false
set_option linter.unusedSimpArgs false
open Go.RowKit
attribute [local go_sem] bs_size List.length_cons List.length_nil
set_option maxHeartbeats 4000000 in
set_option maxRecDepth 100000 in
theorem spec_l08Used_calls (A : Option Addr) (c : Nat) (fs : List FiD) (w : World) (h : FiRow w A c fs) (hd : diskOkB fs = true) :
    Calls Tryz.prog 34 #[.agg #[.slice A fs.length c]] w fun e w' => e = .returned (.int .i64 (txSum fs : Int)) ∧ Below w.heap.size w w' := by
  have HR := Lib.hid h
  have HOK := Lib.hid hd
  have hl := diskOk_l30 hd
  have HV := Lib.hid (vd_start w A fs.length c)
  have p0 := HV.out.cell
  clear h hd
  go_enter Tryz.func34, Tryz.ntmps34
  go_wp2
  clear p0
  go_loopw [3, 4] (fun nv iv wr => ∃ i n : Nat, i ≤ fs.length ∧ iv = .int .i64 (i : Int) ∧ nv = .int .i64 (n : Int) ∧ n ≤ 20000 * i ∧ Hid (n = txSum (fs.take i)) ∧ Hid (VD w A fs.length c wr)) (fun _ iv _ => fs.length - (intOf iv).toNat)
  case atStart => exact ⟨0, 0, by omega, rfl, rfl, by omega, rfl, HV⟩
  case round =>
    clear HV
    obtain ⟨i, n, hi, rfl, rfl, hn, HN, HS⟩ := hrel
    rename World => w1
    have p0 := HS.out.cell
    by_cases hlt : i < fs.length
    · obtain ⟨ad, x, hA, HX, hz1, hz2, hc0, hc1, hc2⟩ := (HR.out.below HS.out.from_).at_ (k := i) hlt
      cases hA
      have hx2 := diskOk_small HOK.out (List.mem_of_getElem? HX.out)
      have HN2 : Hid (n + x.2.1.size = txSum (fs.take (i + 1))) := by rw [Hid, HN.out, txSum_step HX.out]
      obtain ⟨nm, t, k⟩ := x
      dsimp only at hz1 hz2 hc0 hc1 hc2 hx2 HN2
      have hli : (i : Int) < (fs.length : Int) := by omega
      go_wp2
      go_roundw
      case rel => first | exact ⟨i + 1, n + t.size, by omega, by go_num, by go_num, by omega, HN2, HS⟩ | (repeat (first | (refine ⟨?relx, rfl⟩; exact ⟨i + 1, n + t.size, by omega, by go_num, by go_num, by omega, HN2, HS⟩) | (refine ⟨?relx, ?eqs⟩; (case eqs => (and_intros <;> rfl)); exact ⟨i + 1, n + t.size, by omega, by go_num, by go_num, by omega, HN2, HS⟩) | apply Exists.intro))
      case measure => simp [intOf]; omega
    · obtain rfl : i = fs.length := by omega
      have HE : Hid (n = txSum fs) := by rw [Hid, HN.out, List.take_length]
      go_wp2
      go_ret
      exact ⟨by rw [HE.out]; rfl, HS.out.from_⟩
set_option maxRecDepth 100000 in
theorem spec_Used_calls (b c : Nat) (Ad : Option Addr) (cd : Nat) (fs : List FiD) (room a q : Int) (ds : List SpotD) (w : World) (h : FiRow w (some ⟨b, 0, none⟩) c fs) (hs : SpRow w Ad cd ds) :
    Calls Tryz.prog 13 #[.agg (engC (some ⟨b, 0, none⟩) fs.length c room a q Ad ds.length cd)] w fun e w' => e = .returned (.int .i64 (usedB fs room a q ds)) ∧ Below w.heap.size w w' := by
  have HAL : Hid (Below w.heap.size w (w.alloc (engCO (some ⟨b, 0, none⟩) fs.length c room a q Ad ds.length cd))) := (Below.refl _ _).alloc (Nat.le_refl _) _
  have H1 : Hid ((w.alloc (engCO (some ⟨b, 0, none⟩) fs.length c room a q Ad ds.length cd)).heap[w.heap.size]? = some (engCO (some ⟨b, 0, none⟩) fs.length c room a q Ad ds.length cd)) := blk_new _ _
  have HR := Lib.hid (h.below HAL.out)
  have HOK := Lib.hid (spec_EngineOk_calls b c Ad cd fs room a q ds _ HR.out (hs.below HAL.out))
  have HU : Hid (usedB fs room a q ds = if okB fs room a q ds = true then (txSum fs : Int) else 0) := rfl
  have HDK : Hid (okB fs room a q ds = true → diskOkB fs = true) := fun h => (ok_disk h).1
  have p0 := blk_cell H1.out 0
  have p1 := blk_cell H1.out 1
  have p2 := blk_cell H1.out 2
  have p3 := blk_cell H1.out 3
  have p4 := blk_cell H1.out 4
  clear h hs
  generalize okB fs room a q ds = ok at HOK HU HDK
  generalize usedB fs room a q ds = us at HU ⊢
  go_enter Tryz.func13, Tryz.ntmps13
  go_wp2_with fail
  go_at_call 9
  refine HOK.out.mono ?_
  rintro e w1 ⟨rfl, hb⟩
  have HB1 := Lib.hid (HAL.out.trans (hb.mono HAL.out.size))
  have K1 := Lib.hid (blk_below H1.out hb)
  have HR1 := Lib.hid (HR.out.below hb)
  have q0 := blk_cell K1.out 0
  clear hb p0 p1 p2 p3 p4 HOK
  cases ok
  · have HUE : Hid (us = 0) := HU.out
    go_wp2
    go_ret
    exact ⟨by rw [HUE.out]; rfl, HB1.out⟩
  · have HUE : Hid (us = (txSum fs : Int)) := HU.out
    have HDT : Hid (diskOkB fs = true) := HDK.out rfl
    clear HDK
    go_wp2_with fail
    go_at_call 34
    refine (spec_l08Used_calls _ c fs _ HR1.out HDT.out).mono ?_
    rintro e w2 ⟨rfl, hb⟩
    have HB2 := Lib.hid (HB1.out.trans (hb.mono HB1.out.size))
    clear hb
    go_wp2
    go_ret
    exact ⟨by rw [HUE.out]; rfl, HB2.out⟩
end Go.Proofs.YtaacpdejpcbbbaaGreatDoor

namespace Go.Proofs.YtaacpdejpcbbbaaGreatDoor
set_option linter.unusedVariables false
set_option linter.unusedSimpArgs false
open Go.RowKit
attribute [local go_sem] bs_size List.length_cons List.length_nil
theorem keepB {W W' : World} {g g' : Nat} {v0 v1 v2 v3 v4 u0 u1 u2 u3 u4 : Value} {t t' : TypeId} (h : W.heap[g]? = some (.cells #[v0, v1, v2, v3, v4] t (0, 0))) (h' : W.heap[g']? = some (.cells #[u0, u1, u2, u3, u4] t' (0, 0))) (hb : Below W.heap.size W W') :
    W'.cell? ⟨g, 0, none⟩ = some v0 ∧ W'.cell? ⟨g, 1, none⟩ = some v1 ∧ W'.cell? ⟨g, 2, none⟩ = some v2 ∧ W'.cell? ⟨g, 3, none⟩ = some v3 ∧ W'.cell? ⟨g, 4, none⟩ = some v4 ∧ W'.cell? ⟨g', 0, none⟩ = some u0 ∧ W'.cell? ⟨g', 1, none⟩ = some u1 ∧ W'.cell? ⟨g', 2, none⟩ = some u2 ∧ W'.cell? ⟨g', 3, none⟩ = some u3 ∧ W'.cell? ⟨g', 4, none⟩ = some u4 ∧ Hid (Below W.heap.size W W') := by
  have k := blk_below h hb
  have k' := blk_below h' hb
  exact ⟨blk_cell k 0, blk_cell k 1, blk_cell k 2, blk_cell k 3, blk_cell k 4, blk_cell k' 0, blk_cell k' 1, blk_cell k' 2, blk_cell k' 3, blk_cell k' 4, hb⟩
set_option maxHeartbeats 16000000 in
set_option maxRecDepth 100000 in
theorem walk_FnExactUsed (A : Option Addr) (c : Nat) (fs : List FiD) (room a q : Int) (Ad : Option Addr) (cd : Nat) (ds : List SpotD) (w : World) (h : FiRow w A c fs) (h' : SpRow w Ad cd ds) (hP : Pow w ∧ Sent w) :
    Calls Tryz.prog 4 #[.agg (engC A fs.length c room a q Ad ds.length cd)] w fun e w' => e = .returned (.bool true) ∧ Below w.heap.size w w' := by
  have HF := Lib.hid h
  have HD := Lib.hid h'
  have HPE := Lib.hid hP
  have HA0 : Hid (Below w.heap.size w (w.alloc (.cells (engC A fs.length c room a q Ad ds.length cd) 27))) := (Below.refl _ _).alloc (Nat.le_refl _) _
  have HB0 : Hid ((w.alloc (.cells (engC A fs.length c room a q Ad ds.length cd) 27)).heap[w.heap.size]? = some (.cells (engC A fs.length c room a q Ad ds.length cd) 27 (0, 0))) := blk_new _ _
  have HSP : Hid (∀ b c' bd cd' W, FiRow W (some ⟨b, 0, none⟩) c' fs → SpRow W (some ⟨bd, 0, none⟩) cd' ds → Calls Tryz.prog 13 #[.agg (engC (some ⟨b, 0, none⟩) fs.length c' room a q (some ⟨bd, 0, none⟩) ds.length cd')] W fun e w' => e = .returned (.int .i64 (usedB fs room a q ds)) ∧ Below W.heap.size W w') := fun b c' bd cd' W h h' => spec_Used_calls b c' (some ⟨bd, 0, none⟩) cd' fs room a q ds W h h'
  have HIM : Hid (∀ b c' bd cd' W, FiRow W (some ⟨b, 0, none⟩) c' fs → SpRow W (some ⟨bd, 0, none⟩) cd' ds → Pow W → Sent W → Calls Tryz.prog 14 #[.agg (engC (some ⟨b, 0, none⟩) fs.length c' room a q (some ⟨bd, 0, none⟩) ds.length cd')] W fun e w' => e = .returned (.int .i64 (usedB fs room a q ds)) ∧ Below W.heap.size W w') := fun b c' bd cd' W h h' h1 h2 => impl_Used_calls b c' (some ⟨bd, 0, none⟩) cd' fs room a q ds W h h' h1 h2
  have x0 := blk_cell HB0.out 0
  have x1 := blk_cell HB0.out 1
  have x2 := blk_cell HB0.out 2
  have x3 := blk_cell HB0.out 3
  have x4 := blk_cell HB0.out 4
  clear h h' hP
  generalize usedB fs room a q ds = res at HSP HIM
  have hneq : (res != res) = false := by simp
  go_enter Tryz.func4, Tryz.ntmps4
  go_wp2_with fail
  go_at_call 8
  refine (laws_szEngine_calls A Ad c cd fs room a q ds 1048576 _ (HF.out.below HA0.out) (HD.out.below HA0.out) (by omega) (by omega)).mono ?_
  rintro e w1 ⟨⟨r, rfl, hr⟩, hb⟩
  have HA1 := Lib.hid (HA0.out.trans (hb.mono HA0.out.size))
  have HB1 := Lib.hid (blk_below HB0.out hb)
  clear hb x0 x1 x2 x3 x4 HA0 HB0
  rcases hr with hr | ⟨hr0, hr1, hr2, hr3⟩
  · go_wp2
    go_ret
    exact ⟨rfl, HA1.out⟩
  · have HN : Hid (fs.length ≤ 1048576) := by rw [Hid]; omega
    have HM : Hid (ds.length ≤ 1048576) := by rw [Hid]; omega
    have x0 := blk_cell HB1.out 0
    have x1 := blk_cell HB1.out 1
    have x2 := blk_cell HB1.out 2
    have x3 := blk_cell HB1.out 3
    have x4 := blk_cell HB1.out 4
    clear hr1 hr2 hr3
    go_wp2_with fail
    go_at_call 10
    refine (laws_toEngine_calls A Ad c cd fs room a q ds _ (HF.out.below HA1.out) (HD.out.below HA1.out) HN.out HM.out).mono ?_
    rintro e w2 ⟨b2, bd2, rfl, _, _, hf2, hs2, hb⟩
    have HA2 := Lib.hid (HA1.out.trans (hb.mono HA1.out.size))
    have HB2 := Lib.hid (blk_below HB1.out hb)
    have HF2 := Lib.hid hf2
    have HS2 := Lib.hid hs2
    clear hb hf2 hs2 x0 x1 x2 x3 x4 HA1 HB1
    go_wp2_with fail
    go_at_call 13
    refine (HSP.out _ _ _ _ _ HF2.out HS2.out).mono ?_
    rintro e w3 ⟨rfl, hb⟩
    have HA3 := Lib.hid (HA2.out.trans (hb.mono HA2.out.size))
    have HB3 := Lib.hid (blk_below HB2.out hb)
    clear hb HA2 HB2 HF2 HS2 HSP
    have x0 := blk_cell HB3.out 0
    have x1 := blk_cell HB3.out 1
    have x2 := blk_cell HB3.out 2
    have x3 := blk_cell HB3.out 3
    have x4 := blk_cell HB3.out 4
    go_wp2_with fail
    go_at_call 10
    refine (laws_toEngine_calls A Ad c cd fs room a q ds _ (HF.out.below HA3.out) (HD.out.below HA3.out) HN.out HM.out).mono ?_
    rintro e w4 ⟨b4, bd4, rfl, _, _, hf4, hs4, hb⟩
    have HAL : Hid (Below w4.heap.size w4 (w4.alloc (.cells (engC (some ⟨b4, 0, none⟩) fs.length fs.length room a q (some ⟨bd4, 0, none⟩) ds.length ds.length) 35))) := (Below.refl _ _).alloc (Nat.le_refl _) _
    have HA4 := Lib.hid ((HA3.out.trans (hb.mono HA3.out.size)).trans (HAL.out.mono (HA3.out.trans (hb.mono HA3.out.size)).size))
    have HB4 := Lib.hid (blk_below (blk_below HB3.out hb) HAL.out)
    have HF4 := Lib.hid (hf4.below HAL.out)
    have HS4 := Lib.hid (hs4.below HAL.out)
    have HX4 : Hid ((w4.alloc (.cells (engC (some ⟨b4, 0, none⟩) fs.length fs.length room a q (some ⟨bd4, 0, none⟩) ds.length ds.length) 35)).heap[w4.heap.size]? = some (.cells (engC (some ⟨b4, 0, none⟩) fs.length fs.length room a q (some ⟨bd4, 0, none⟩) ds.length ds.length) 35 (0, 0))) := blk_new _ _
    clear hb hf4 hs4 x0 x1 x2 x3 x4 HA3 HB3 HAL
    have y0 := blk_cell HX4.out 0
    have y1 := blk_cell HX4.out 1
    have y2 := blk_cell HX4.out 2
    have y3 := blk_cell HX4.out 3
    have y4 := blk_cell HX4.out 4
    go_wp2_with fail
    generalize w4.alloc (.cells (engC (some ⟨b4, 0, none⟩) fs.length fs.length room a q (some ⟨bd4, 0, none⟩) ds.length ds.length) 35) = W4 at HA4 HB4 HF4 HS4 HX4 y0 y1 y2 y3 y4 ⊢
    go_at_call 14
    refine (HIM.out _ _ _ _ _ HF4.out HS4.out (HPE.out.1.below HA4.out) (sentC HPE.out.2 HA4.out)).mono ?_
    rintro e w5 ⟨rfl, hb⟩
    have HA5 := Lib.hid (HA4.out.trans (hb.mono HA4.out.size))
    have HB5 := Lib.hid (blk_below HB4.out hb)
    have HX5 := Lib.hid (blk_below HX4.out hb)
    have HF5 := Lib.hid (HF4.out.below hb)
    have HS5 := Lib.hid (HS4.out.below hb)
    clear hb y0 y1 y2 y3 y4 HA4 HB4 HX4 HF4 HS4 HIM
    have HBD : Hid (Below w5.heap.size w5 w5.drew) := Below.drew (Below.refl _ _)
    go_wp2_with fail
    go_region_held3 (fun w' => w'.cell? ⟨w4.heap.size, 0, none⟩ = some (.slice (some ⟨b4, 0, none⟩) fs.length fs.length) ∧ w'.cell? ⟨w4.heap.size, 1, none⟩ = some (.int .i64 room) ∧ w'.cell? ⟨w4.heap.size, 2, none⟩ = some (.int .i64 a) ∧ w'.cell? ⟨w4.heap.size, 3, none⟩ = some (.int .i64 q) ∧ w'.cell? ⟨w4.heap.size, 4, none⟩ = some (.slice (some ⟨bd4, 0, none⟩) ds.length ds.length) ∧ w'.cell? ⟨w.heap.size, 0, none⟩ = some (.slice A fs.length c) ∧ w'.cell? ⟨w.heap.size, 1, none⟩ = some (.int .i64 room) ∧ w'.cell? ⟨w.heap.size, 2, none⟩ = some (.int .i64 a) ∧ w'.cell? ⟨w.heap.size, 3, none⟩ = some (.int .i64 q) ∧ w'.cell? ⟨w.heap.size, 4, none⟩ = some (.slice Ad ds.length cd) ∧ Hid (Below w5.heap.size w5 w')) (first | exact keepB HX5.out HB5.out HBD.out | exact keepB HX5.out HB5.out (HBD.out.trans (hb10.mono HBD.out.size)) | exact keepB HX5.out HB5.out ((HBD.out.trans (hb10.mono HBD.out.size)).trans (hb11.mono (HBD.out.trans (hb10.mono HBD.out.size)).size))) (first | (go_at_call 10; refine (laws_toEngine_calls A Ad c cd fs room a q ds _ (HF.out.below (HA5.out.trans (HBD.out.mono HA5.out.size))) (HD.out.below (HA5.out.trans (HBD.out.mono HA5.out.size))) HN.out HM.out).mono ?_; rintro e w10 ⟨b10, bd10, rfl, _, _, hrow10, hsp10, hb10⟩) | (go_at_call 12; refine (laws_eqEngine_calls _ _ _ _ _ _ _ _ fs room a q ds _ (HF5.out.below (HBD.out.trans (hb10.mono HBD.out.size))) hrow10 (HS5.out.below (HBD.out.trans (hb10.mono HBD.out.size))) hsp10).mono ?_; rintro e w11 ⟨rfl, hb11⟩))
    have HB11 := (‹_ ∧ _ ∧ _ ∧ _ ∧ _ ∧ _ ∧ _ ∧ _ ∧ _ ∧ _ ∧ Hid (Below w5.heap.size w5 _)›).2.2.2.2.2.2.2.2.2.2
    go_wp2
    go_ret
    exact ⟨rfl, HA5.out.trans (HB11.out.mono HA5.out.size)⟩
theorem laid_FnExactUsed {W : World} (h : laidMetH Tryz.prog Rows.fnExactUsedRow.laid W) : Pow W ∧ Sent W := by
  rw [MakeChecks.laidMetH_plain _ _ _ (by kernel_rfl)] at h
  exact ⟨pow_of_laid h.tail.tail, sent_of_laid h.tail.tail.tail⟩
end Go.Proofs.YtaacpdejpcbbbaaGreatDoor
