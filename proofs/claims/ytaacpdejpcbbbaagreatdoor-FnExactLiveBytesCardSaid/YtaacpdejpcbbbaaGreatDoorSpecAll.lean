/- Disks: rows of files of the call's own; l03Put of the reference. l03Without of the reference. spec.DoAct: a text is added. spec.DoAct: a file is kept. spec.DoAct: a file is moved. spec.DoAct: a file is dropped. spec.DoAct of any act of ours; spec.DoActs. Opening, the reference's: AllKept, l06Number, l08Seq. spec.l08Acts. spec.OpenEngine. -/
import Derived.Test.YtaacpdejpcbbbaaGreatDoorDiskAll
import Derived.Deep.RegionHeld3
import Derived.Deep.RegionLaw
import Derived.Laws.Cover1
import Derived.Deep.CutRange
import Derived.Test.YtaacpdejpcbbbaaGreatDoorActAll
import Derived.StillTailTactics
import Derived.Test.YtaacpdejpcbbbaaGreatDoorSegAll
import Derived.Test.YtaacpdejpcbbbaaGreatDoorDecAll
import Derived.Test.YtaacpdejpcbbbaaGreatDoorOpnAll
import Derived.Test.YtaacpdejpcbbbaaGreatDoorDirAll
namespace Go.Proofs.YtaacpdejpcbbbaaGreatDoor
set_option linter.unusedVariables false
set_option linter.unusedSimpArgs false
open Go.RowKit
attribute [local go_sem] bs_size List.length_cons List.length_nil List.length_append

/-- The boxes of the disk, of the file and of the result. -/
abbrev WP (w : World) (A : Option Addr) (n c : Nat) (x : FiD) : World := ((w.alloc (.cells #[.slice A n c] 32)).alloc (.cells #[.string x.1, .string x.2.1, .int .i64 x.2.2] 105)).alloc (.cells #[.slice none 0 0] 32)
theorem WP_size (w : World) (A : Option Addr) (n c : Nat) (x : FiD) : (WP w A n c x).heap.size = w.heap.size + 3 := by simp
/-- The boxes; out's box; the row under way. -/
structure PX (w : World) (A : Option Addr) (n c : Nat) (x : FiD) (v : Value) (fs : List FiD) (W : World) : Prop where
  b : Below (w.heap.size + 3) (WP w A n c x) W
  out : W.heap[w.heap.size + 3]? = some (.cells #[v] 32)
  own : FiOwn W (w.heap.size + 4) v fs
section
variable {w W W' : World} {A : Option Addr} {n c : Nat} {x : FiD} {v : Value} {fs : List FiD}
theorem PX.from_ (h : PX w A n c x v fs W) : Below w.heap.size w W := ((((Below.refl _ w).alloc (Nat.le_refl _) _).alloc (by simp) _).alloc (by simp; omega) _).trans (h.b.mono (by omega))
theorem PX.size (h : PX w A n c x v fs W) : w.heap.size + 4 ≤ W.heap.size := blk_lt h.out
theorem PX.dsk (h : PX w A n c x v fs W) : W.heap[w.heap.size]? = some (.cells #[.slice A n c] 32) := by
  refine (h.b.block _ (by omega)).trans ?_
  rw [Below.heap_alloc _ _ _ (by simp; omega), Below.heap_alloc _ _ _ (by simp)]
  exact blk_new _ _
theorem PX.fil (h : PX w A n c x v fs W) : W.heap[w.heap.size + 1]? = some (.cells #[.string x.1, .string x.2.1, .int .i64 x.2.2] 105) := by
  refine (h.b.block _ (by omega)).trans ?_
  rw [Below.heap_alloc _ _ _ (by simp)]
  have := blk_new (w.alloc (.cells #[.slice A n c] 32)) (.cells #[.string x.1, .string x.2.1, .int .i64 x.2.2] 105)
  simpa using this
theorem PX.res (h : PX w A n c x v fs W) : W.heap[w.heap.size + 2]? = some (.cells #[.slice none 0 0] 32) := by
  refine (h.b.block _ (by omega)).trans ?_
  have := blk_new ((w.alloc (.cells #[.slice A n c] 32)).alloc (.cells #[.string x.1, .string x.2.1, .int .i64 x.2.2] 105)) (.cells #[.slice none 0 0] 32)
  simpa using this
theorem PX.go (h : PX w A n c x v fs W) (hb : Below W.heap.size W W') : PX w A n c x v fs W' := ⟨h.b.trans (hb.mono (by have := h.size; omega)), blk_below h.out hb, h.own.below hb⟩
theorem PX.put {v' : Value} {fs' : List FiD} (h : PX w A n c x v fs W) (hg : W.grownBy W' v.ownBlock) (ho : FiOwn W' (w.heap.size + 4) v' fs') : PX w A n c x v' fs' (W'.setCell ⟨w.heap.size + 3, 0, none⟩ v') := by
  have hs := h.size
  have h1 : Below (w.heap.size + 3) (WP w A n c x) W' := h.b.grown hg (by omega) fun k e => by have := (h.own.lt k e).1; omega
  have h2 : W'.heap[w.heap.size + 3]? = some (.cells #[v] 32) := (hg.block _ (by omega) (fun e => by have := (h.own.lt _ e.symm).1; omega)).trans h.out
  refine ⟨h1.setCell (p := ⟨w.heap.size + 3, 0, none⟩) (Nat.le_refl _) _, by rw [blk_set h2]; rfl, ho.kept (gr_set W' _ 0 _) fun k e => by cases e; omega⟩
end
theorem putD_end {fn : Func} {w W : World} {A : Option Addr} {n c : Nat} {x : FiD} {v : Value} {fs fs' : List FiD} {tmps : Array Value} (hf : fn.results = #[.cell 4 32]) (h : PX w A n c x v fs W) (hp : tmps.getD 4 undef = .pointer (some ⟨w.heap.size + 2, 0, none⟩)) (he : fs = fs') :
    bodyPost Tryz.prog fn (fun e w' => ∃ v, e = .returned (.agg #[v]) ∧ FiOwn w' w.heap.size v fs' ∧ Below w.heap.size w w') .ret ⟨tmps, []⟩ (W.setCell ⟨w.heap.size + 2, 0, none⟩ v) := by
  subst he
  obtain ⟨fx, hu⟩ := und_dskP
  have hs := h.size
  refine res_box hf (g := w.heap.size + 2) (cs := #[v]) (by rw [blk_set h.res]; rfl) hp hu info_dskP ⟨v, rfl, ?_, h.from_.setCell (p := ⟨w.heap.size + 2, 0, none⟩) (by show w.heap.size ≤ w.heap.size + 2; omega) _⟩
  exact ((h.own.kept (gr_set W _ 0 _) fun k e => by cases e; omega)).mono (by omega)
set_option maxHeartbeats 8000000 in
set_option maxRecDepth 100000 in
theorem spec_l03Put_calls (A : Option Addr) (c : Nat) (fs : List FiD) (nm tx : ByteArray) (kp : Int) (w : World) (h : FiRow w A c fs) (hn : fs.length ≤ 1000000000) :
    Calls Tryz.prog 147 #[.agg #[.slice A fs.length c], .agg #[.string nm, .string tx, .int .i64 kp]] w fun e w' => ∃ v, e = .returned (.agg #[v]) ∧ FiOwn w' w.heap.size v (putF fs (nm, tx, kp)) ∧ Below w.heap.size w w' := by
  obtain ⟨i0, hi0, hz, hsz, hby⟩ := info_parts info_fi
  have HR := Lib.hid h
  have hws : (WP w A fs.length c (nm, tx, kp)).heap.size = w.heap.size + 3 := WP_size ..
  have HS0 : Hid (PX w A fs.length c (nm, tx, kp) (.slice none 0 0) [] ((WP w A fs.length c (nm, tx, kp)).alloc (.cells #[.slice none 0 0] 32))) := ⟨(Below.refl _ _).alloc (by rw [hws]; exact Nat.le_refl _) _, by rw [← hws]; exact blk_new _ _, World.ownsRow_nil ..⟩
  clear h hws
  go_enter Tryz.func147, Tryz.ntmps147
  go_wp2
  go_loopw [6] (fun iv wr => ∃ (i : Nat) (ov : Value), i ≤ fs.length ∧ iv = .int .i64 (i : Int) ∧ Hid (PX w A fs.length c (nm, tx, kp) ov ((fs.take i).filter fun y => ltFi y (nm, tx, kp)) wr)) (fun iv _ => fs.length - (intOf iv).toNat)
  case atStart => exact ⟨0, _, Nat.zero_le _, rfl, HS0⟩
  case round =>
    obtain ⟨i, ov, hi, rfl, HS⟩ := hrel
    have p0 := blk_cell HS.out.dsk 0
    by_cases hlt : i < fs.length
    · obtain ⟨ad, y, hA, HY, hy1, hy2, hc0, hc1, hc2⟩ := (HR.out.below HS.out.from_).at_ hlt
      cases hA
      obtain ⟨yn, yt, yk⟩ := y
      dsimp only at hy1 hy2 hc0 hc1 hc2
      have k0 := blk_cell HS.out.fil 0
      obtain ⟨A2, c2, hv⟩ := HS.out.own.form
      subst hv
      have hfl : ((fs.take i).filter fun y => ltFi y (nm, tx, kp)).length ≤ i := by
        have h1 := List.length_filter_le (fun y => ltFi y (nm, tx, kp)) (fs.take i)
        have h2 : (fs.take i).length ≤ i := by rw [List.length_take]; omega
        omega
      have HFL := Lib.hid hfl
      have HCC := Lib.hid (And.intro hc0 (And.intro hc1 hc2))
      have HSD := Lib.hid (HS.out.go (Below.drew (Below.refl _ _)))
      have hli : (i : Int) < (fs.length : Int) := by omega
      have HFY := Lib.hid (fun hp => fi_yes (p := fun y => ltFi y (nm, tx, kp)) HY.out hp)
      have HFN := Lib.hid (fun hp => fi_no (p := fun y => ltFi y (nm, tx, kp)) HY.out hp)
      obtain ⟨lt, hlt2⟩ : ∃ b, ltFi (yn, yt, yk) (nm, tx, kp) = b := ⟨_, rfl⟩
      have hll : Op.bytesLess yn.toList nm.toList = lt := hlt2
      rw [hlt2] at HFY HFN
      clear hlt2 hfl
      generalize ((fs.take i).filter fun y => ltFi y (nm, tx, kp)) = F at HS HFL HSD HFY HFN ⊢
      go_wp2_with fail
      go_region_held3 (fun w' => w'.cell? (ad.add (i * 3)) = some (.string yn) ∧ w'.cell? ⟨w.heap.size + 1, 0, none⟩ = some (.string nm) ∧ w'.cell? ⟨w.heap.size, 0, none⟩ = some (.slice (some ad) fs.length c) ∧ Hid (PX w (some ad) fs.length c (nm, tx, kp) (.slice A2 F.length c2) F w')) (first | exact ⟨HCC.out.1, k0, p0, HSD.out⟩) (fail)
      have HS2 := (‹_ ∧ _ ∧ _ ∧ Hid (PX w (some ad) fs.length c (nm, tx, kp) (.slice A2 F.length c2) F _)›).2.2.2
      cases lt
      · have HF2 := Lib.hid (HFN.out rfl)
        clear HFY HFN
        go_wp2
        go_roundw
        case rel => exact ⟨i + 1, _, by omega, by go_num, by rw [HF2.out]; exact HS2⟩
        case measure => simp [intOf]; omega
      · have HF2 := Lib.hid (HFY.out rfl)
        clear HFY HFN
        have HC4 : Hid (wr.drew.cell? (ad.add (i * 3)) = some (.string yn) ∧ wr.drew.cell? ⟨(ad.add (i * 3)).block, (ad.add (i * 3)).off + 1, none⟩ = some (.string yt) ∧ wr.drew.cell? ⟨(ad.add (i * 3)).block, (ad.add (i * 3)).off + 2, none⟩ = some (.int .i64 yk)) := HCC.out
        clear hc0 hc1 hc2 k0 p0 HCC HSD
        have HSW := HS2
        have hfl := HFL.out
        generalize wr.drew = wd at HS2 HSW HC4 ⊢
        obtain ⟨hc0, hc1, hc2⟩ := HC4.out
        have HAL9 : Hid (Below wd.heap.size wd (wd.alloc (.cells #[.string yn, .string yt, .int .i64 yk] 105))) := (Below.refl _ _).alloc (Nat.le_refl _) _
        have HSA := Lib.hid (HSW.out.go HAL9.out)
        have HS9 : Hid (PX w (some ad) fs.length c (nm, tx, kp) (.slice A2 F.length c2) F (wd.alloc (.cells #[.string yn, .string yt, .int .i64 yk] 105)).drew) := HSA.out.go (Below.drew (Below.refl _ _))
        have HOWN := Lib.hid HS9.out.own
        have HBASE := Lib.hid HS9.out.size
        have HNEWS : Hid (∀ j u, (fiVals (yn, yt, yk))[j]? = some u → (wd.alloc (.cells #[.string yn, .string yt, .int .i64 yk] 105)).drew.cell? ((⟨wd.heap.size, 0, none⟩ : Addr).add j) = some u) := World.news_of_block (heap_alloc_new wd _)
        have p0 := blk_cell HSW.out.dsk 0
        have p1 := blk_cell HSW.out.out 0
        have p2 := blk_cell HSA.out.out 0
        go_wp2_with fail
        go_region_law ((refine step_append_lies _ (by rfl) (.tmp 26) (.tmp 32) 30 (by rfl) (w.heap.size + 4) 105 i0 (.agg #[.string ⟨#[]⟩, .string ⟨#[]⟩, .int .i64 0]) 3 40 Tryz.underlying30 hi0 hz hsz hby rfl (by omega) (.slice A2 F.length c2) F.length (fiFlat F) (by simp [Act.eval, Act.put]) HOWN.out _ 1 1 (fiVals (yn, yt, yk)) (by simp [Act.eval, Act.put]) rfl HNEWS.out (by simp [Value.oneCell', fiVals]) (by omega) (by unfold maxLen; omega) (by omega) HBASE.out _ rfl ?_); intro gg cap wq hown hgrow hat hlt; have HPU : Hid (FiOwn wq (w.heap.size + 4) (.slice (some ⟨gg, 0, none⟩) (F.length + 1) cap) (F ++ [(yn, yt, yk)])) := (by rw [Hid, FiOwn, fiFlat_snoc, List.length_append]; exact hown); have HS7 := Lib.hid (HS9.out.put hgrow HPU.out); have p3 := blk_frozen ((hgrow.block _ (by have := HS9.out.size; omega) (fun e => by have := (HS9.out.own.lt _ e.symm).1; omega)).trans HS9.out.out) 0; have p4 := blk_cell ((hgrow.block _ (by have := HS9.out.size; omega) (fun e => by have := (HS9.out.own.lt _ e.symm).1; omega)).trans HS9.out.out) 0; clear hown hgrow hat hlt)
        all_goals
          go_wp2
          go_roundw
          case rel => exact ⟨i + 1, _, by omega, by go_num, by rw [HF2.out]; exact HS7⟩
          case measure => simp [intOf]; omega
    · obtain rfl : i = fs.length := by omega
      rw [List.take_length] at HS
      have hll : (fs.filter fun y => ltFi y (nm, tx, kp)).length ≤ fs.length := List.length_filter_le _ _
      obtain ⟨A2, c2, hv⟩ := HS.out.own.form
      subst hv
      have HPF : Hid (putF fs (nm, tx, kp) = (fs.filter fun y => ltFi y (nm, tx, kp)) ++ [(nm, tx, kp)] ++ fs.filter fun y => gtFi y (nm, tx, kp)) := rfl
      generalize (fs.filter fun y => ltFi y (nm, tx, kp)) = F at HS hll HPF ⊢
      have hnl : ¬ (fs.length : Int) < (fs.length : Int) := by omega
      have p1 := blk_cell HS.out.out 0
      have k0 := blk_cell HS.out.fil 0
      have k1 := blk_cell HS.out.fil 1
      have k2 := blk_cell HS.out.fil 2
      have HAL9 : Hid (Below wr.heap.size wr (wr.alloc (.cells #[.string nm, .string tx, .int .i64 kp] 105))) := (Below.refl _ _).alloc (Nat.le_refl _) _
      have HS9 := Lib.hid (HS.out.go HAL9.out)
      have HOWN := Lib.hid HS9.out.own
      have HBASE := Lib.hid HS9.out.size
      have HNEWS : Hid (∀ j u, (fiVals (nm, tx, kp))[j]? = some u → (wr.alloc (.cells #[.string nm, .string tx, .int .i64 kp] 105)).cell? ((⟨wr.heap.size, 0, none⟩ : Addr).add j) = some u) := World.news_of_block (heap_alloc_new wr _)
      go_wp2_with (at_builtin; refine wpList_append_lies _ rfl _ _ _ rfl (w.heap.size + 4) 105 i0 (.agg #[.string ⟨#[]⟩, .string ⟨#[]⟩, .int .i64 0]) 3 40 Tryz.underlying30 hi0 hz hsz hby rfl (by omega) (.slice A2 F.length c2) F.length (fiFlat F) rfl HOWN.out ⟨wr.heap.size, 0, none⟩ 1 1 (fiVals (nm, tx, kp)) rfl rfl HNEWS.out (by simp [Value.oneCell', fiVals]) (by omega) (by unfold maxLen; omega) (by omega) HBASE.out _ rfl ?_; intro gg cap wq hown hgrow hat hlt; have HPU : Hid (FiOwn wq (w.heap.size + 4) (.slice (some ⟨gg, 0, none⟩) (F.length + 1) cap) (F ++ [(nm, tx, kp)])) := (by rw [Hid, FiOwn, fiFlat_snoc, List.length_append]; exact hown); have HS7 := Lib.hid (HS9.out.put hgrow HPU.out); have p3 := blk_frozen ((hgrow.block _ (by have := HS9.out.size; omega) (fun e => by have := (HS9.out.own.lt _ e.symm).1; omega)).trans HS9.out.out) 0; have p4 := blk_cell ((hgrow.block _ (by have := HS9.out.size; omega) (fun e => by have := (HS9.out.own.lt _ e.symm).1; omega)).trans HS9.out.out) 0; clear hown hgrow hat hlt)
      clear p3 p4 HPU HS9 HOWN HBASE HNEWS HAL9 HS p0 p1 k0 k1 k2
      have HML : Hid ((F ++ [(nm, tx, kp)]).length ≤ fs.length + 1) := by rw [Hid, List.length_append]; show F.length + 1 ≤ _; omega
      generalize F ++ [(nm, tx, kp)] = M at HML HPF HS7
      go_loopw [7] (fun iv wr => ∃ (i : Nat) (ov : Value), i ≤ fs.length ∧ iv = .int .i64 (i : Int) ∧ Hid (PX w A fs.length c (nm, tx, kp) ov (M ++ (fs.take i).filter fun y => gtFi y (nm, tx, kp)) wr)) (fun iv _ => fs.length - (intOf iv).toNat)
      case atStart => exact ⟨0, _, Nat.zero_le _, rfl, by rw [List.take_zero, List.filter_nil, List.append_nil]; exact HS7⟩
      case round =>
        clear HS7
        obtain ⟨i, ov, hi, rfl, HS⟩ := hrel
        have p0 := blk_cell HS.out.dsk 0
        by_cases hlt : i < fs.length
        · obtain ⟨ad, y, hA, HY, hy1, hy2, hc0, hc1, hc2⟩ := (HR.out.below HS.out.from_).at_ hlt
          cases hA
          obtain ⟨yn, yt, yk⟩ := y
          dsimp only at hy1 hy2 hc0 hc1 hc2
          have k0 := blk_cell HS.out.fil 0
          obtain ⟨A2, c2, hv⟩ := HS.out.own.form
          subst hv
          have hfl : (M ++ (fs.take i).filter fun y => gtFi y (nm, tx, kp)).length ≤ fs.length + 1 + i := by
            have h1 := List.length_filter_le (fun y => gtFi y (nm, tx, kp)) (fs.take i)
            have h2 : (fs.take i).length ≤ i := by rw [List.length_take]; omega
            have h3 := HML.out
            rw [List.length_append]
            omega
          have HFL := Lib.hid hfl
          have HCC := Lib.hid (And.intro hc0 (And.intro hc1 hc2))
          have HSD := Lib.hid (HS.out.go (Below.drew (Below.refl _ _)))
          have hli : (i : Int) < (fs.length : Int) := by omega
          have HFY := Lib.hid (fun hp => congrArg (M ++ ·) (fi_yes (p := fun y => gtFi y (nm, tx, kp)) HY.out hp))
          have HFN := Lib.hid (fun hp => congrArg (M ++ ·) (fi_no (p := fun y => gtFi y (nm, tx, kp)) HY.out hp))
          obtain ⟨lt, hlt2⟩ : ∃ b, gtFi (yn, yt, yk) (nm, tx, kp) = b := ⟨_, rfl⟩
          have hll : (!(Op.bytesLess yn.toList nm.toList || yn.toList == nm.toList)) = lt := hlt2
          rw [hlt2] at HFY HFN
          rw [← List.append_assoc] at HFY
          clear hlt2 hfl
          generalize (M ++ (fs.take i).filter fun y => gtFi y (nm, tx, kp)) = F at HS HFL HSD HFY HFN ⊢
          go_wp2_with fail
          go_region_held3 (fun w' => w'.cell? (ad.add (i * 3)) = some (.string yn) ∧ w'.cell? ⟨w.heap.size + 1, 0, none⟩ = some (.string nm) ∧ w'.cell? ⟨w.heap.size, 0, none⟩ = some (.slice (some ad) fs.length c) ∧ Hid (PX w (some ad) fs.length c (nm, tx, kp) (.slice A2 F.length c2) F w')) (first | exact ⟨HCC.out.1, k0, p0, HSD.out⟩) (fail)
          have HS2 := (‹_ ∧ _ ∧ _ ∧ Hid (PX w (some ad) fs.length c (nm, tx, kp) (.slice A2 F.length c2) F _)›).2.2.2
          cases lt
          · have HF2 := Lib.hid (HFN.out rfl)
            clear HFY HFN
            go_wp2
            go_roundw
            case rel => exact ⟨i + 1, _, by omega, by go_num, by rw [HF2.out]; exact HS2⟩
            case measure => simp [intOf]; omega
          · have HF2 := Lib.hid (HFY.out rfl)
            clear HFY HFN
            have HC4 : Hid (wr.drew.cell? (ad.add (i * 3)) = some (.string yn) ∧ wr.drew.cell? ⟨(ad.add (i * 3)).block, (ad.add (i * 3)).off + 1, none⟩ = some (.string yt) ∧ wr.drew.cell? ⟨(ad.add (i * 3)).block, (ad.add (i * 3)).off + 2, none⟩ = some (.int .i64 yk)) := HCC.out
            clear hc0 hc1 hc2 k0 p0 HCC HSD
            have HSW := HS2
            have hfl := HFL.out
            generalize wr.drew = wd at HS2 HSW HC4 ⊢
            obtain ⟨hc0, hc1, hc2⟩ := HC4.out
            have HAL9 : Hid (Below wd.heap.size wd (wd.alloc (.cells #[.string yn, .string yt, .int .i64 yk] 105))) := (Below.refl _ _).alloc (Nat.le_refl _) _
            have HSA := Lib.hid (HSW.out.go HAL9.out)
            have HS9 : Hid (PX w (some ad) fs.length c (nm, tx, kp) (.slice A2 F.length c2) F (wd.alloc (.cells #[.string yn, .string yt, .int .i64 yk] 105)).drew) := HSA.out.go (Below.drew (Below.refl _ _))
            have HOWN := Lib.hid HS9.out.own
            have HBASE := Lib.hid HS9.out.size
            have HNEWS : Hid (∀ j u, (fiVals (yn, yt, yk))[j]? = some u → (wd.alloc (.cells #[.string yn, .string yt, .int .i64 yk] 105)).drew.cell? ((⟨wd.heap.size, 0, none⟩ : Addr).add j) = some u) := World.news_of_block (heap_alloc_new wd _)
            have p0 := blk_cell HSW.out.dsk 0
            have p1 := blk_cell HSW.out.out 0
            have p2 := blk_cell HSA.out.out 0
            go_wp2_with fail
            go_region_law ((refine step_append_lies _ (by rfl) (.tmp 58) (.tmp 64) 30 (by rfl) (w.heap.size + 4) 105 i0 (.agg #[.string ⟨#[]⟩, .string ⟨#[]⟩, .int .i64 0]) 3 40 Tryz.underlying30 hi0 hz hsz hby rfl (by omega) (.slice A2 F.length c2) F.length (fiFlat F) (by simp [Act.eval, Act.put]) HOWN.out _ 1 1 (fiVals (yn, yt, yk)) (by simp [Act.eval, Act.put]) rfl HNEWS.out (by simp [Value.oneCell', fiVals]) (by omega) (by unfold maxLen; omega) (by omega) HBASE.out _ rfl ?_); intro gg cap wq hown hgrow hat hlt; have HPU : Hid (FiOwn wq (w.heap.size + 4) (.slice (some ⟨gg, 0, none⟩) (F.length + 1) cap) (F ++ [(yn, yt, yk)])) := (by rw [Hid, FiOwn, fiFlat_snoc, List.length_append]; exact hown); have HS7 := Lib.hid (HS9.out.put hgrow HPU.out); have p3 := blk_frozen ((hgrow.block _ (by have := HS9.out.size; omega) (fun e => by have := (HS9.out.own.lt _ e.symm).1; omega)).trans HS9.out.out) 0; have p4 := blk_cell ((hgrow.block _ (by have := HS9.out.size; omega) (fun e => by have := (HS9.out.own.lt _ e.symm).1; omega)).trans HS9.out.out) 0; clear hown hgrow hat hlt)
            all_goals
              go_wp2
              go_roundw
              case rel => exact ⟨i + 1, _, by omega, by go_num, by rw [HF2.out]; exact HS7⟩
              case measure => simp [intOf]; omega
        · obtain rfl : i = fs.length := by omega
          rw [List.take_length] at HS
          generalize (M ++ fs.filter fun y => gtFi y (nm, tx, kp)) = F at HS HPF
          obtain ⟨A2, c2, hv⟩ := HS.out.own.form
          subst hv
          have p1 := blk_cell HS.out.out 0
          have p2 := blk_frozen HS.out.res 0
          have p3 := blk_cell HS.out.res 0
          go_wp2
          exact putD_end rfl HS.out rfl HPF.out.symm
end Go.Proofs.YtaacpdejpcbbbaaGreatDoor

namespace Go.Proofs.YtaacpdejpcbbbaaGreatDoor
set_option linter.unusedVariables false
set_option linter.unusedSimpArgs false
open Go.RowKit
attribute [local go_sem] bs_size List.length_cons List.length_nil List.length_append

/-- The disk's box, the result's box. -/
abbrev WQ (w : World) (A : Option Addr) (n c : Nat) : World := (w.alloc (.cells #[.slice A n c] 32)).alloc (.cells #[.slice none 0 0] 32)
/-- The boxes; out's box; the row under way. -/
structure QX (w : World) (A : Option Addr) (n c : Nat) (v : Value) (fs : List FiD) (W : World) : Prop where
  b : Below w.heap.size w W
  d : W.heap[w.heap.size]? = some (.cells #[.slice A n c] 32)
  r : W.heap[w.heap.size + 1]? = some (.cells #[.slice none 0 0] 32)
  out : W.heap[w.heap.size + 2]? = some (.cells #[v] 32)
  own : FiOwn W (w.heap.size + 3) v fs
section
variable {w W W' : World} {A : Option Addr} {n c : Nat} {v : Value} {fs : List FiD}
theorem QX.size (h : QX w A n c v fs W) : w.heap.size + 3 ≤ W.heap.size := blk_lt h.out
theorem QX.go (h : QX w A n c v fs W) (hb : Below W.heap.size W W') : QX w A n c v fs W' := ⟨h.b.trans (hb.mono h.b.size), blk_below h.d hb, blk_below h.r hb, blk_below h.out hb, h.own.below hb⟩
theorem QX.put {v' : Value} {fs' : List FiD} (h : QX w A n c v fs W) (hg : W.grownBy W' v.ownBlock) (ho : FiOwn W' (w.heap.size + 3) v' fs') : QX w A n c v' fs' (W'.setCell ⟨w.heap.size + 2, 0, none⟩ v') := by
  have hs := h.size
  have hlt := h.own.lt
  have h1 : Below w.heap.size w W' := h.b.grown hg h.b.size fun k e => by have := (hlt k e).1; omega
  have k : ∀ {i o}, i < w.heap.size + 3 → W.heap[i]? = some o → W'.heap[i]? = some o := fun hi hh => (hg.block _ (by omega) (fun e => by have := (hlt _ e.symm).1; omega)).trans hh
  refine ⟨h1.setCell (p := ⟨w.heap.size + 2, 0, none⟩) (by show w.heap.size ≤ w.heap.size + 2; omega) _, (gr_setne _ _ _ _ _ (by omega)).trans (k (by omega) h.d), (gr_setne _ _ _ _ _ (by omega)).trans (k (by omega) h.r), by rw [blk_set (k (by omega) h.out)]; rfl, ho.kept (gr_set W' _ 0 _) fun j e => by cases e; omega⟩
end
theorem wo_end {fn : Func} {w W : World} {A : Option Addr} {n c : Nat} {v : Value} {fs fs' : List FiD} {tmps : Array Value} (hf : fn.results = #[.cell 4 32]) (h : QX w A n c v fs W) (hp : tmps.getD 4 undef = .pointer (some ⟨w.heap.size + 1, 0, none⟩)) (he : fs = fs') :
    bodyPost Tryz.prog fn (fun e w' => ∃ v, e = .returned (.agg #[v]) ∧ FiOwn w' w.heap.size v fs' ∧ Below w.heap.size w w') .ret ⟨tmps, []⟩ (W.setCell ⟨w.heap.size + 1, 0, none⟩ v) := by
  subst he
  obtain ⟨fx, hu⟩ := und_dskP
  have hs := h.size
  refine res_box hf (g := w.heap.size + 1) (cs := #[v]) (by rw [blk_set h.r]; rfl) hp hu info_dskP ⟨v, rfl, ?_, h.b.setCell (p := ⟨w.heap.size + 1, 0, none⟩) (by show w.heap.size ≤ w.heap.size + 1; omega) _⟩
  exact ((h.own.kept (gr_set W _ 0 _) fun k e => by cases e; omega)).mono (by omega)
theorem qx_start (w : World) (A : Option Addr) (n c : Nat) : QX w A n c (.slice none 0 0) [] ((WQ w A n c).alloc (.cells #[.slice none 0 0] 32)) := by
  have h1 : (w.alloc (.cells #[.slice A n c] 32)).heap.size = w.heap.size + 1 := by simp
  have h2 : (WQ w A n c).heap.size = w.heap.size + 2 := by simp
  refine ⟨(((Below.refl _ w).alloc (Nat.le_refl _) _).alloc (by simp) _).alloc (by simp; omega) _, gr_old (gr_old (blk_new w _) _) _, ?_, ?_, World.ownsRow_nil ..⟩
  · have := blk_new (w.alloc (.cells #[.slice A n c] 32)) (.cells #[.slice none 0 0] 32)
    rw [h1] at this
    exact gr_old this _
  · have := blk_new (WQ w A n c) (.cells #[.slice none 0 0] 32)
    rwa [h2] at this
theorem drop_yes {fs : List FiD} {i : Nat} {y : FiD} {n : ByteArray} (h : fs[i]? = some y) (hp : y.1 ≠ n) : dropF (fs.take (i + 1)) n = dropF (fs.take i) n ++ [y] := fi_yes (p := fun y => decide (y.1 ≠ n)) h (by simpa using hp)
theorem drop_no {fs : List FiD} {i : Nat} {y : FiD} {n : ByteArray} (h : fs[i]? = some y) (hp : y.1 = n) : dropF (fs.take (i + 1)) n = dropF (fs.take i) n := fi_no (p := fun y => decide (y.1 ≠ n)) h (by simpa using hp)
theorem diskOk_l30' {fs : List FiD} (h : diskOkB fs = true) : fs.length ≤ 30 := by
  unfold diskOkB at h
  rw [Bool.and_eq_true, decide_eq_true_eq] at h
  exact h.2
theorem fi_apart {w : World} {B g : Nat} {v : Value} {fs : List FiD} {cs : Array Value} {ty : TypeId} {z : Nat × Nat} (h : FiOwn w B v fs) (hg : w.heap[g]? = some (.cells cs ty z)) (hty : ty ≠ 105) : v.ownBlock ≠ some g := by
  intro e
  rcases h.2 with ⟨e0, _⟩ | ⟨b, cap, cur, e0, _, hb, _⟩
  · rw [e0] at e; simp [Value.ownBlock] at e
  · rw [e0] at e
    cases e
    rw [hg] at hb
    injection hb with hb
    injection hb with _ hb _
    exact hty hb
theorem disk_kept {fs : List FiD} (h : diskOkB fs = true) {x : FiD} (hx : x ∈ fs) : x.2.2 ≤ (x.2.1.size : Int) := by
  obtain ⟨i, hi, rfl⟩ := List.getElem_of_mem hx
  unfold diskOkB at h
  rw [Bool.and_eq_true, List.all_eq_true] at h
  have h1 := h.1 i (List.mem_range.2 hi)
  by_cases hb : inR fs[i].2.2 0 (fs[i].2.1.size : Int) = true
  · unfold inR at hb; simp at hb; exact hb.2
  · have := fiAt_bad (i := i) (List.getElem?_eq_getElem hi) (fiOk_kept (n := fs[i].1) (by simpa using hb))
    rw [this] at h1
    cases h1
set_option maxHeartbeats 8000000 in
set_option maxRecDepth 100000 in
theorem spec_l03Without_calls (A : Option Addr) (c : Nat) (fs : List FiD) (nm : ByteArray) (w : World) (h : FiRow w A c fs) (hn : fs.length ≤ 1000000000) :
    Calls Tryz.prog 148 #[.agg #[.slice A fs.length c], .string nm] w fun e w' => ∃ v, e = .returned (.agg #[v]) ∧ FiOwn w' w.heap.size v (dropF fs nm) ∧ Below w.heap.size w w' := by
  obtain ⟨i0, hi0, hz, hsz, hby⟩ := info_parts info_fi
  have HR := Lib.hid h
  have HS0 := Lib.hid (qx_start w A fs.length c)
  clear h
  go_enter Tryz.func148, Tryz.ntmps148
  go_wp2
  go_loopw [6] (fun iv wr => ∃ (i : Nat) (ov : Value), i ≤ fs.length ∧ iv = .int .i64 (i : Int) ∧ Hid (QX w A fs.length c ov (dropF (fs.take i) nm) wr)) (fun iv _ => fs.length - (intOf iv).toNat)
  case atStart => exact ⟨0, _, Nat.zero_le _, rfl, HS0⟩
  case round =>
    clear HS0
    obtain ⟨i, ov, hi, rfl, HS⟩ := hrel
    have p0 := blk_cell HS.out.d 0
    obtain ⟨A2, c2, hv⟩ := HS.out.own.form
    subst hv
    by_cases hlt : i < fs.length
    · obtain ⟨ad, y, hA, HY, hy1, hy2, hc0, hc1, hc2⟩ := (HR.out.below HS.out.b).at_ hlt
      cases hA
      obtain ⟨yn, yt, yk⟩ := y
      dsimp only at hy1 hy2 hc0 hc1 hc2
      have hfl : (dropF (fs.take i) nm).length ≤ i := by
        have h1 : (dropF (fs.take i) nm).length ≤ (fs.take i).length := List.length_filter_le _ _
        have h2 : (fs.take i).length ≤ i := by rw [List.length_take]; omega
        omega
      have hli : (i : Int) < (fs.length : Int) := by omega
      have HFY := Lib.hid (fun hp => drop_yes (n := nm) HY.out hp)
      have HFN := Lib.hid (fun hp => drop_no (n := nm) HY.out hp)
      generalize (dropF (fs.take i) nm) = F at HS HFY HFN hfl ⊢
      obtain ⟨q, hq⟩ : ∃ q, (yn.toList != nm.toList) = q := ⟨_, rfl⟩
      have HQ := Lib.hid hq
      have hq2 : (yn.toList == nm.toList) = !q := by rw [← hq]; simp [bne]
      cases q
      · have HF2 := Lib.hid (HFN.out (toList_inj.1 (by simpa using hq)))
        clear HFY HFN
        go_wp2
        go_roundw
        case rel => first | exact ⟨i + 1, _, by omega, by go_num, by rw [HF2.out]; exact HS⟩ | (repeat (first | (refine ⟨?relx, rfl⟩; exact ⟨i + 1, _, by omega, by go_num, by rw [HF2.out]; exact HS⟩) | (refine ⟨?relx, ?eqs⟩; (case eqs => (and_intros <;> rfl)); exact ⟨i + 1, _, by omega, by go_num, by rw [HF2.out]; exact HS⟩) | apply Exists.intro))
        case measure => simp [intOf]; omega
      · have HF2 := Lib.hid (HFY.out (fun e => by have h9 := HQ.out; dsimp only at e; rw [e] at h9; simp at h9))
        clear HFY HFN
        have HAL9 : Hid (Below wr.heap.size wr (wr.alloc (.cells #[.string yn, .string yt, .int .i64 yk] 105))) := (Below.refl _ _).alloc (Nat.le_refl _) _
        have HSB := Lib.hid (HS.out.go HAL9.out)
        have HSA : Hid (QX w (some ad) fs.length c (.slice A2 F.length c2) F (wr.alloc (.cells #[.string yn, .string yt, .int .i64 yk] 105)).drew) := HSB.out.go (Below.drew (Below.refl _ _))
        have HOWN := Lib.hid HSA.out.own
        have HBASE := Lib.hid HSA.out.size
        have HNEWS : Hid (∀ j u, (fiVals (yn, yt, yk))[j]? = some u → (wr.alloc (.cells #[.string yn, .string yt, .int .i64 yk] 105)).drew.cell? ((⟨wr.heap.size, 0, none⟩ : Addr).add j) = some u) := World.news_of_block (heap_alloc_new wr _)
        have p1 := blk_cell HS.out.out 0
        have p2 := blk_cell HSB.out.out 0
        go_wp2_with fail
        go_region_law ((refine step_append_lies _ (by rfl) (.tmp 24) (.tmp 30) 30 (by rfl) (w.heap.size + 3) 105 i0 (.agg #[.string ⟨#[]⟩, .string ⟨#[]⟩, .int .i64 0]) 3 40 Tryz.underlying30 hi0 hz hsz hby rfl (by omega) (.slice A2 F.length c2) F.length (fiFlat F) (by simp [Act.eval, Act.put]) HOWN.out _ 1 1 (fiVals (yn, yt, yk)) (by simp [Act.eval, Act.put]) rfl HNEWS.out (by simp [Value.oneCell', fiVals]) (by omega) (by unfold maxLen; omega) (by omega) HBASE.out _ rfl ?_); intro gg cap wq hown hgrow hat hlt; have HPU : Hid (FiOwn wq (w.heap.size + 3) (.slice (some ⟨gg, 0, none⟩) (F.length + 1) cap) (F ++ [(yn, yt, yk)])) := (by rw [Hid, FiOwn, fiFlat_snoc, List.length_append]; exact hown); have HS7 := Lib.hid (HSA.out.put hgrow HPU.out); have p3 := blk_frozen ((hgrow.block _ (by have := HSA.out.size; omega) (fun e => by have := (HSA.out.own.lt _ e.symm).1; omega)).trans HSA.out.out) 0; have p4 := blk_cell ((hgrow.block _ (by have := HSA.out.size; omega) (fun e => by have := (HSA.out.own.lt _ e.symm).1; omega)).trans HSA.out.out) 0; clear hown hgrow hat hlt)
        all_goals
          go_wp2
          go_roundw
          case rel => first | exact ⟨i + 1, _, by omega, by go_num, by rw [HF2.out]; exact HS7⟩ | (repeat (first | (refine ⟨?relx, rfl⟩; exact ⟨i + 1, _, by omega, by go_num, by rw [HF2.out]; exact HS7⟩) | (refine ⟨?relx, ?eqs⟩; (case eqs => (and_intros <;> rfl)); exact ⟨i + 1, _, by omega, by go_num, by rw [HF2.out]; exact HS7⟩) | apply Exists.intro))
          case measure => simp [intOf]; omega
    · obtain rfl : i = fs.length := by omega
      rw [List.take_length] at HS
      have p1 := blk_cell HS.out.out 0
      have p2 := blk_frozen HS.out.r 0
      have p3 := blk_cell HS.out.r 0
      go_wp2
      exact wo_end rfl HS.out rfl rfl
end Go.Proofs.YtaacpdejpcbbbaaGreatDoor

namespace Go.Proofs.YtaacpdejpcbbbaaGreatDoor
set_option linter.unusedVariables false
set_option linter.unusedSimpArgs false
open Go.RowKit
attribute [local go_sem] bs_size List.length_cons List.length_nil

set_option maxHeartbeats 8000000 in
set_option maxRecDepth 100000 in
theorem spec_DoAct_add (A : Option Addr) (c : Nat) (fs : List FiD) (nm tx : ByteArray) (w : World) (h : FiRow w A c fs) (hd : diskOkB fs = true) (hn : inR (nm.size : Int) 1 8 = true) (htx : tx.size ≤ 1000000000) :
    Calls Tryz.prog 100 #[.agg #[.slice A fs.length c], .agg #[.int .i64 1, .string nm, .string tx, .string ⟨#[]⟩]] w (ActPost w (doActB fs (1, nm, tx, ⟨#[]⟩))) := by
  have HDA := Lib.hid (DA.start w (.slice A fs.length c) (1, nm, tx, ⟨#[]⟩))
  have HR := Lib.hid (h.below HDA.out.b)
  have d0 := blk_cell HDA.out.d 0
  have HOK := Lib.hid hd
  have HN := Lib.hid hn
  have hl : fs.length ≤ 30 := diskOk_l30' hd
  have HSM : Hid (∀ x ∈ fs, x.1.size ≤ 9223372036854775807 ∧ x.2.1.size ≤ 9223372036854775807) := fun x hx => by have := diskOk_small hd hx; omega
  have hnm : nm.size ≤ 8 := by unfold inR at hn; simp at hn; omega
  clear h hd hn
  go_enter Tryz.func100, Tryz.ntmps100
  go_wp2_with fail
  go_at_call 94
  refine (spec_DiskOk_calls A c fs _ HR.out).mono ?_
  rw [HOK.out]
  rintro e w1 ⟨rfl, hb⟩
  have HD1 := Lib.hid (HDA.out.go hb)
  have HR1 := Lib.hid (HR.out.below hb)
  clear d0 hb HDA HR
  have d0 := blk_cell HD1.out.d 0
  have a0 := blk_cell HD1.out.a 0
  have a1 := blk_cell HD1.out.a 1
  have a2 := blk_cell HD1.out.a 2
  have a3 := blk_cell HD1.out.a 3
  go_wp2_with fail
  go_at_call 144
  refine (l03Name_at nm _ HN.out (by omega)).mono ?_
  rintro e w2 ⟨rfl, rfl⟩
  go_wp2_with fail
  go_at_call 97
  refine (spec_l03At_calls nm A c fs _ HR1.out).mono ?_
  rintro e w3 ⟨r, rfl, hr, hb⟩
  have HD3 := Lib.hid (HD1.out.go hb)
  have HR3 := Lib.hid (HR1.out.below hb)
  have HIX := Lib.hid hr
  clear d0 a0 a1 a2 a3 hb hr HD1 HR1
  rcases ix_look (ris_ok HOK.out) HIX.out with ⟨j, x, e, hj, hx, hlk⟩ | ⟨e, hlk⟩
  · subst e
    obtain ⟨xn, xt, xk⟩ := x
    have hxn : xn = nm := hx
    subst hxn
    have hjl := (List.getElem?_eq_some_iff.1 hj).1
    have hji : (j : Int) < (fs.length : Int) := by omega
    have hj0 : ¬ ((j : Int) < 0) := by omega
    have hj1 : (0 : Int) ≤ (j : Int) := by omega
    have hts : xt.size ≤ 20000 := (diskOk_small HOK.out (List.mem_of_getElem? hj)).1
    have HJ := Lib.hid hj
    have HLK := Lib.hid hlk
    have HF0 := Lib.hid (HD3.out.alloc (.cells #[.string xn, .string ⟨#[]⟩, .int .i64 0] 105))
    have HR0 := Lib.hid (HR3.out.below ((Below.refl _ _).alloc (Nat.le_refl _) (.cells #[.string xn, .string ⟨#[]⟩, .int .i64 0] 105)))
    obtain ⟨ad, y, hA, HY, _, _, hc0, hc1, hc2⟩ := HR0.out.at_ hjl
    obtain rfl : (xn, xt, xk) = y := Option.some.inj (HJ.out.symm.trans HY.out)
    cases hA
    dsimp only at hc0 hc1 hc2
    have c3 := blk_cell HD3.out.a 1
    have d0 := blk_cell HF0.out.d 0
    have HZ1 := Lib.hid ((HD3.out.alloc (.cells #[.string xn, .string xt, .int .i64 xk] 105)).alloc (.cells #[.slice none 0 0] 32))
    have z0 := blk_cell HZ1.out.a 0
    have z1 := blk_cell HZ1.out.a 1
    have z2 := blk_cell HZ1.out.a 2
    have z3 := blk_cell HZ1.out.a 3
    clear hj hx hlk
    have HZ2 := Lib.hid ((HD3.out.alloc (.cells #[.string xn, .string (xt ++ tx), .int .i64 xk] 105)).alloc (.cells #[.slice none 0 0] 32))
    have HR4 := Lib.hid ((HR3.out.below ((Below.refl _ _).alloc (Nat.le_refl _) (.cells #[.string xn, .string (xt ++ tx), .int .i64 xk] 105))).below ((Below.refl _ _).alloc (Nat.le_refl _) (.cells #[.slice none 0 0] 32)))
    have HQ4 : Hid (((w3.alloc (.cells #[.string xn, .string (xt ++ tx), .int .i64 xk] 105)).alloc (.cells #[.slice none 0 0] 32)).heap[w3.heap.size + 1]? = some (.cells #[.slice none 0 0] 32 (0, 0))) := by
      have := blk_new (w3.alloc (.cells #[.string xn, .string (xt ++ tx), .int .i64 xk] 105)) (.cells #[.slice none 0 0] 32)
      rwa [show (w3.alloc (.cells #[.string xn, .string (xt ++ tx), .int .i64 xk] 105)).heap.size = w3.heap.size + 1 by simp] at this
    have HX4 : Hid (((w3.alloc (.cells #[.string xn, .string (xt ++ tx), .int .i64 xk] 105)).alloc (.cells #[.slice none 0 0] 32)).heap[w3.heap.size]? = some (.cells #[.string xn, .string (xt ++ tx), .int .i64 xk] 105 (0, 0))) := gr_old (blk_new w3 _) _
    have HQS : Hid (w.heap.size + 3 ≤ w3.heap.size + 1) := Nat.le_succ_of_le HD3.out.s
    have y0 := blk_cell HZ2.out.d 0
    have y1 := blk_cell HZ2.out.a 1
    have y3 := blk_cell HZ2.out.a 3
    have x0 := blk_cell HX4.out 0
    have x1 := blk_cell HX4.out 1
    have x2 := blk_cell HX4.out 2
    have HAC := Lib.hid (act_some (act_ok1 HOK.out) (act_F1 (tx := tx) HLK.out))
    dsimp only at HAC
    go_wp2_with fail
    generalize (w3.alloc (.cells #[.string xn, .string (xt ++ tx), .int .i64 xk] 105)).alloc (.cells #[.slice none 0 0] 32) = W4 at HZ2 HR4 HQ4 HX4 y0 y1 y3 x0 x1 x2 ⊢
    generalize w3.heap.size + 1 = q at HQ4 HQS ⊢
    clear y0 y1 y3 x0 x1 x2 HX4
    go_at_call 147
    refine (spec_l03Put_calls _ c fs xn (xt ++ tx) xk _ HR4.out (by omega)).mono ?_
    rintro e w5 ⟨v5, rfl, ho5, hb5⟩
    have HSM5 := Lib.hid (sm_put (x := (xn, xt ++ tx, xk)) HSM.out ⟨by show xn.size ≤ _; omega, by show (xt ++ tx).size ≤ _; rw [ap_size]; omega⟩)
    have HLE := Lib.hid (putF_len fs (xn, xt ++ tx, xk))
    generalize putF fs (xn, xt ++ tx, xk) = F at ho5 HAC HSM5 HLE
    obtain ⟨A5, c5, hv5⟩ := ho5.form
    subst hv5
    have HD5 := Lib.hid (HZ2.out.go hb5)
    have HQ5 := Lib.hid (blk_below HQ4.out hb5)
    have HD6 := Lib.hid (HD5.out.set (q := q) (i := 0) (.slice A5 F.length c5) HQS.out)
    have HQ6 : Hid ((w5.setCell ⟨q, 0, none⟩ (.slice A5 F.length c5)).heap[q]? = some (.cells #[.slice A5 F.length c5] 32 (0, 0))) := by rw [Hid, blk_set HQ5.out]; rfl
    have HO6 : Hid (FiOwn (w5.setCell ⟨q, 0, none⟩ (.slice A5 F.length c5)) (w.heap.size + 3) (.slice A5 F.length c5) F) := FiOwn.mono (World.ownsRow.kept ho5 (gr_set w5 q 0 _) (.inr (fi_apart ho5 HQ5.out (by decide)))) HZ2.out.s
    obtain ⟨A6, c6, e6, hr6⟩ := HO6.out.row HSM5.out
    cases e6
    have HR6 := Lib.hid hr6
    have q0 := blk_cell HQ5.out 0
    have qf := blk_frozen HQ5.out 0
    have q1 := blk_cell HQ6.out 0
    clear ho5 hb5 hr6
    go_wp2_with fail
    generalize w5.setCell ⟨q, 0, none⟩ (.slice A5 F.length c5) = W6 at HD6 HQ6 HO6 HR6 q1 ⊢
    clear q0 qf q1 HD5 HQ5 HZ2 HQ4
    go_at_call 94
    refine (spec_DiskOk_calls A5 c5 F _ HR6.out).mono ?_
    rintro e w7 ⟨rfl, hb⟩
    have HD7 := Lib.hid (HD6.out.go hb)
    have HQ7 := Lib.hid (blk_below HQ6.out hb)
    have HO7 := Lib.hid (HO6.out.below hb)
    clear hb HD6 HQ6 HO6 HR6
    have q0 := blk_cell HQ7.out 0
    have r0 := blk_cell HD7.out.r 0
    have rf := blk_frozen HD7.out.r 0
    obtain ⟨ok, hok⟩ : ∃ b, diskOkB F = b := ⟨_, rfl⟩
    rw [hok] at HAC ⊢
    clear hok
    cases ok
    · go_wp2
      exact act_bad rfl HD7.out HAC.out rfl rfl
    · go_wp2
      exact act_good rfl HD7.out HO7.out HAC.out rfl rfl
  · subst e
    have HLK := Lib.hid hlk
    have c3 := blk_cell HD3.out.a 1
    have HZ1 := Lib.hid ((HD3.out.alloc (.cells #[.string nm, .string ⟨#[]⟩, .int .i64 0] 105)).alloc (.cells #[.slice none 0 0] 32))
    have z0 := blk_cell HZ1.out.a 0
    have z1 := blk_cell HZ1.out.a 1
    have z2 := blk_cell HZ1.out.a 2
    have z3 := blk_cell HZ1.out.a 3
    clear hlk
    have HZ2 := Lib.hid ((HD3.out.alloc (.cells #[.string nm, .string ((⟨#[]⟩ : ByteArray) ++ tx), .int .i64 0] 105)).alloc (.cells #[.slice none 0 0] 32))
    have HR4 := Lib.hid ((HR3.out.below ((Below.refl _ _).alloc (Nat.le_refl _) (.cells #[.string nm, .string ((⟨#[]⟩ : ByteArray) ++ tx), .int .i64 0] 105))).below ((Below.refl _ _).alloc (Nat.le_refl _) (.cells #[.slice none 0 0] 32)))
    have HQ4 : Hid (((w3.alloc (.cells #[.string nm, .string ((⟨#[]⟩ : ByteArray) ++ tx), .int .i64 0] 105)).alloc (.cells #[.slice none 0 0] 32)).heap[w3.heap.size + 1]? = some (.cells #[.slice none 0 0] 32 (0, 0))) := by
      have := blk_new (w3.alloc (.cells #[.string nm, .string ((⟨#[]⟩ : ByteArray) ++ tx), .int .i64 0] 105)) (.cells #[.slice none 0 0] 32)
      rwa [show (w3.alloc (.cells #[.string nm, .string ((⟨#[]⟩ : ByteArray) ++ tx), .int .i64 0] 105)).heap.size = w3.heap.size + 1 by simp] at this
    have HX4 : Hid (((w3.alloc (.cells #[.string nm, .string ((⟨#[]⟩ : ByteArray) ++ tx), .int .i64 0] 105)).alloc (.cells #[.slice none 0 0] 32)).heap[w3.heap.size]? = some (.cells #[.string nm, .string ((⟨#[]⟩ : ByteArray) ++ tx), .int .i64 0] 105 (0, 0))) := gr_old (blk_new w3 _) _
    have HQS : Hid (w.heap.size + 3 ≤ w3.heap.size + 1) := Nat.le_succ_of_le HD3.out.s
    have y0 := blk_cell HZ2.out.d 0
    have y1 := blk_cell HZ2.out.a 1
    have y3 := blk_cell HZ2.out.a 3
    have x0 := blk_cell HX4.out 0
    have x1 := blk_cell HX4.out 1
    have x2 := blk_cell HX4.out 2
    have HAC := Lib.hid (act_some (act_ok1 HOK.out) (act_F0 (tx := tx) HLK.out))
    go_wp2_with fail
    generalize (w3.alloc (.cells #[.string nm, .string ((⟨#[]⟩ : ByteArray) ++ tx), .int .i64 0] 105)).alloc (.cells #[.slice none 0 0] 32) = W4 at HZ2 HR4 HQ4 HX4 y0 y1 y3 x0 x1 x2 ⊢
    generalize w3.heap.size + 1 = q at HQ4 HQS ⊢
    clear y0 y1 y3 x0 x1 x2 HX4
    go_at_call 147
    refine (spec_l03Put_calls _ c fs nm ((⟨#[]⟩ : ByteArray) ++ tx) 0 _ HR4.out (by omega)).mono ?_
    rintro e w5 ⟨v5, rfl, ho5, hb5⟩
    have HSM5 := Lib.hid (sm_put (x := (nm, (⟨#[]⟩ : ByteArray) ++ tx, 0)) HSM.out ⟨by show nm.size ≤ _; omega, by show ((⟨#[]⟩ : ByteArray) ++ tx).size ≤ _; rw [ap_size]; show 0 + tx.size ≤ _; omega⟩)
    have HLE := Lib.hid (putF_len fs (nm, (⟨#[]⟩ : ByteArray) ++ tx, 0))
    generalize putF fs (nm, (⟨#[]⟩ : ByteArray) ++ tx, 0) = F at ho5 HAC HSM5 HLE
    obtain ⟨A5, c5, hv5⟩ := ho5.form
    subst hv5
    have HD5 := Lib.hid (HZ2.out.go hb5)
    have HQ5 := Lib.hid (blk_below HQ4.out hb5)
    have HD6 := Lib.hid (HD5.out.set (q := q) (i := 0) (.slice A5 F.length c5) HQS.out)
    have HQ6 : Hid ((w5.setCell ⟨q, 0, none⟩ (.slice A5 F.length c5)).heap[q]? = some (.cells #[.slice A5 F.length c5] 32 (0, 0))) := by rw [Hid, blk_set HQ5.out]; rfl
    have HO6 : Hid (FiOwn (w5.setCell ⟨q, 0, none⟩ (.slice A5 F.length c5)) (w.heap.size + 3) (.slice A5 F.length c5) F) := FiOwn.mono (World.ownsRow.kept ho5 (gr_set w5 q 0 _) (.inr (fi_apart ho5 HQ5.out (by decide)))) HZ2.out.s
    obtain ⟨A6, c6, e6, hr6⟩ := HO6.out.row HSM5.out
    cases e6
    have HR6 := Lib.hid hr6
    have q0 := blk_cell HQ5.out 0
    have qf := blk_frozen HQ5.out 0
    have q1 := blk_cell HQ6.out 0
    clear ho5 hb5 hr6
    go_wp2_with fail
    generalize w5.setCell ⟨q, 0, none⟩ (.slice A5 F.length c5) = W6 at HD6 HQ6 HO6 HR6 q1 ⊢
    clear q0 qf q1 HD5 HQ5 HZ2 HQ4
    go_at_call 94
    refine (spec_DiskOk_calls A5 c5 F _ HR6.out).mono ?_
    rintro e w7 ⟨rfl, hb⟩
    have HD7 := Lib.hid (HD6.out.go hb)
    have HQ7 := Lib.hid (blk_below HQ6.out hb)
    have HO7 := Lib.hid (HO6.out.below hb)
    clear hb HD6 HQ6 HO6 HR6
    have q0 := blk_cell HQ7.out 0
    have r0 := blk_cell HD7.out.r 0
    have rf := blk_frozen HD7.out.r 0
    obtain ⟨ok, hok⟩ : ∃ b, diskOkB F = b := ⟨_, rfl⟩
    rw [hok] at HAC ⊢
    clear hok
    cases ok
    · go_wp2
      exact act_bad rfl HD7.out HAC.out rfl rfl
    · go_wp2
      exact act_good rfl HD7.out HO7.out HAC.out rfl rfl
end Go.Proofs.YtaacpdejpcbbbaaGreatDoor

namespace Go.Proofs.YtaacpdejpcbbbaaGreatDoor
set_option linter.unusedVariables false
set_option linter.unusedSimpArgs false
open Go.RowKit
attribute [local go_sem] bs_size List.length_cons List.length_nil

set_option maxHeartbeats 8000000 in
set_option maxRecDepth 100000 in
theorem spec_DoAct_keep (A : Option Addr) (c : Nat) (fs : List FiD) (nm : ByteArray) (w : World) (h : FiRow w A c fs) (hd : diskOkB fs = true) (hn : inR (nm.size : Int) 1 8 = true) :
    Calls Tryz.prog 100 #[.agg #[.slice A fs.length c], .agg #[.int .i64 2, .string nm, .string ⟨#[]⟩, .string ⟨#[]⟩]] w (ActPost w (doActB fs (2, nm, ⟨#[]⟩, ⟨#[]⟩))) := by
  have HDA := Lib.hid (DA.start w (.slice A fs.length c) (2, nm, ⟨#[]⟩, ⟨#[]⟩))
  have HR := Lib.hid (h.below HDA.out.b)
  have d0 := blk_cell HDA.out.d 0
  have HOK := Lib.hid hd
  have HN := Lib.hid hn
  have hl : fs.length ≤ 30 := diskOk_l30' hd
  have HSM : Hid (∀ x ∈ fs, x.1.size ≤ 9223372036854775807 ∧ x.2.1.size ≤ 9223372036854775807) := fun x hx => by have := diskOk_small hd hx; omega
  have hnm : nm.size ≤ 8 := by unfold inR at hn; simp at hn; omega
  clear h hd hn
  go_enter Tryz.func100, Tryz.ntmps100
  go_wp2_with fail
  go_at_call 94
  refine (spec_DiskOk_calls A c fs _ HR.out).mono ?_
  rw [HOK.out]
  rintro e w1 ⟨rfl, hb⟩
  have HD1 := Lib.hid (HDA.out.go hb)
  have HR1 := Lib.hid (HR.out.below hb)
  clear d0 hb HDA HR
  have d0 := blk_cell HD1.out.d 0
  have a0 := blk_cell HD1.out.a 0
  have a1 := blk_cell HD1.out.a 1
  have a2 := blk_cell HD1.out.a 2
  have a3 := blk_cell HD1.out.a 3
  go_wp2_with fail
  go_at_call 144
  refine (l03Name_at nm _ HN.out (by omega)).mono ?_
  rintro e w2 ⟨rfl, rfl⟩
  go_wp2_with fail
  go_at_call 97
  refine (spec_l03At_calls nm A c fs _ HR1.out).mono ?_
  rintro e w3 ⟨r, rfl, hr, hb⟩
  have HD3 := Lib.hid (HD1.out.go hb)
  have HR3 := Lib.hid (HR1.out.below hb)
  have HIX := Lib.hid hr
  clear d0 a0 a1 a2 a3 hb hr HD1 HR1
  rcases ix_look (ris_ok HOK.out) HIX.out with ⟨j, x, e, hj, hx, hlk⟩ | ⟨e, hlk⟩
  · subst e
    obtain ⟨xn, xt, xk⟩ := x
    have hxn : xn = nm := hx
    subst hxn
    have hjl := (List.getElem?_eq_some_iff.1 hj).1
    have hji : (j : Int) < (fs.length : Int) := by omega
    have hj0 : ¬ ((j : Int) < 0) := by omega
    have hj1 : (0 : Int) ≤ (j : Int) := by omega
    have hts : xt.size ≤ 20000 := (diskOk_small HOK.out (List.mem_of_getElem? hj)).1
    have HJ := Lib.hid hj
    have HLK := Lib.hid hlk
    have HF0 := Lib.hid (HD3.out.alloc (.cells #[.string xn, .string ⟨#[]⟩, .int .i64 0] 105))
    have HR0 := Lib.hid (HR3.out.below ((Below.refl _ _).alloc (Nat.le_refl _) (.cells #[.string xn, .string ⟨#[]⟩, .int .i64 0] 105)))
    obtain ⟨ad, y, hA, HY, _, _, hc0, hc1, hc2⟩ := HR0.out.at_ hjl
    obtain rfl : (xn, xt, xk) = y := Option.some.inj (HJ.out.symm.trans HY.out)
    cases hA
    dsimp only at hc0 hc1 hc2
    have c3 := blk_cell HD3.out.a 1
    have d0 := blk_cell HF0.out.d 0
    have HZ1 := Lib.hid ((HD3.out.alloc (.cells #[.string xn, .string xt, .int .i64 xk] 105)).alloc (.cells #[.slice none 0 0] 32))
    have z0 := blk_cell HZ1.out.a 0
    have z1 := blk_cell HZ1.out.a 1
    have z2 := blk_cell HZ1.out.a 2
    have z3 := blk_cell HZ1.out.a 3
    clear hj hx hlk
    have HZ2 := Lib.hid ((HD3.out.alloc (.cells #[.string xn, .string xt, .int .i64 (xt.size : Int)] 105)).alloc (.cells #[.slice none 0 0] 32))
    have HR4 := Lib.hid ((HR3.out.below ((Below.refl _ _).alloc (Nat.le_refl _) (.cells #[.string xn, .string xt, .int .i64 (xt.size : Int)] 105))).below ((Below.refl _ _).alloc (Nat.le_refl _) (.cells #[.slice none 0 0] 32)))
    have HQ4 : Hid (((w3.alloc (.cells #[.string xn, .string xt, .int .i64 (xt.size : Int)] 105)).alloc (.cells #[.slice none 0 0] 32)).heap[w3.heap.size + 1]? = some (.cells #[.slice none 0 0] 32 (0, 0))) := by
      have := blk_new (w3.alloc (.cells #[.string xn, .string xt, .int .i64 (xt.size : Int)] 105)) (.cells #[.slice none 0 0] 32)
      rwa [show (w3.alloc (.cells #[.string xn, .string xt, .int .i64 (xt.size : Int)] 105)).heap.size = w3.heap.size + 1 by simp] at this
    have HX4 : Hid (((w3.alloc (.cells #[.string xn, .string xt, .int .i64 (xt.size : Int)] 105)).alloc (.cells #[.slice none 0 0] 32)).heap[w3.heap.size]? = some (.cells #[.string xn, .string xt, .int .i64 (xt.size : Int)] 105 (0, 0))) := gr_old (blk_new w3 _) _
    have HQS : Hid (w.heap.size + 3 ≤ w3.heap.size + 1) := Nat.le_succ_of_le HD3.out.s
    have y0 := blk_cell HZ2.out.d 0
    have y1 := blk_cell HZ2.out.a 1
    have y3 := blk_cell HZ2.out.a 3
    have x0 := blk_cell HX4.out 0
    have x1 := blk_cell HX4.out 1
    have x2 := blk_cell HX4.out 2
    have HAC := Lib.hid (act_some (act_okn (n := 2) (nm := xn) (tg := ⟨#[]⟩) HOK.out (by decide) (.inr rfl)) (act_F2 HLK.out))
    dsimp only at HAC
    go_wp2_with fail
    generalize (w3.alloc (.cells #[.string xn, .string xt, .int .i64 (xt.size : Int)] 105)).alloc (.cells #[.slice none 0 0] 32) = W4 at HZ2 HR4 HQ4 HX4 y0 y1 y3 x0 x1 x2 ⊢
    generalize w3.heap.size + 1 = q at HQ4 HQS ⊢
    clear y0 y1 y3 x0 x1 x2 HX4
    go_at_call 147
    refine (spec_l03Put_calls _ c fs xn xt (xt.size : Int) _ HR4.out (by omega)).mono ?_
    rintro e w5 ⟨v5, rfl, ho5, hb5⟩
    have HSM5 := Lib.hid (sm_put (x := (xn, xt, (xt.size : Int))) HSM.out ⟨by show xn.size ≤ _; omega, by show xt.size ≤ _; omega⟩)
    have HLE := Lib.hid (putF_len fs (xn, xt, (xt.size : Int)))
    generalize putF fs (xn, xt, (xt.size : Int)) = F at ho5 HAC HSM5 HLE
    obtain ⟨A5, c5, hv5⟩ := ho5.form
    subst hv5
    have HD5 := Lib.hid (HZ2.out.go hb5)
    have HQ5 := Lib.hid (blk_below HQ4.out hb5)
    have HD6 := Lib.hid (HD5.out.set (q := q) (i := 0) (.slice A5 F.length c5) HQS.out)
    have HQ6 : Hid ((w5.setCell ⟨q, 0, none⟩ (.slice A5 F.length c5)).heap[q]? = some (.cells #[.slice A5 F.length c5] 32 (0, 0))) := by rw [Hid, blk_set HQ5.out]; rfl
    have HO6 : Hid (FiOwn (w5.setCell ⟨q, 0, none⟩ (.slice A5 F.length c5)) (w.heap.size + 3) (.slice A5 F.length c5) F) := FiOwn.mono (World.ownsRow.kept ho5 (gr_set w5 q 0 _) (.inr (fi_apart ho5 HQ5.out (by decide)))) HZ2.out.s
    obtain ⟨A6, c6, e6, hr6⟩ := HO6.out.row HSM5.out
    cases e6
    have HR6 := Lib.hid hr6
    have q0 := blk_cell HQ5.out 0
    have qf := blk_frozen HQ5.out 0
    have q1 := blk_cell HQ6.out 0
    clear ho5 hb5 hr6
    go_wp2_with fail
    generalize w5.setCell ⟨q, 0, none⟩ (.slice A5 F.length c5) = W6 at HD6 HQ6 HO6 HR6 q1 ⊢
    clear q0 qf q1 HD5 HQ5 HZ2 HQ4
    go_at_call 94
    refine (spec_DiskOk_calls A5 c5 F _ HR6.out).mono ?_
    rintro e w7 ⟨rfl, hb⟩
    have HD7 := Lib.hid (HD6.out.go hb)
    have HQ7 := Lib.hid (blk_below HQ6.out hb)
    have HO7 := Lib.hid (HO6.out.below hb)
    clear hb HD6 HQ6 HO6 HR6
    have q0 := blk_cell HQ7.out 0
    have r0 := blk_cell HD7.out.r 0
    have rf := blk_frozen HD7.out.r 0
    obtain ⟨ok, hok⟩ : ∃ b, diskOkB F = b := ⟨_, rfl⟩
    rw [hok] at HAC ⊢
    clear hok
    cases ok
    · go_wp2
      exact act_bad rfl HD7.out HAC.out rfl rfl
    · go_wp2
      exact act_good rfl HD7.out HO7.out HAC.out rfl rfl
  · subst e
    have HNO := Lib.hid (act_noF (n := 2) (tg := ⟨#[]⟩) (by decide) hlk)
    have HZ1 := Lib.hid ((HD3.out.alloc (.cells #[.string nm, .string ⟨#[]⟩, .int .i64 0] 105)).alloc (.cells #[.slice none 0 0] 32))
    have c3 := blk_cell HD3.out.a 1
    have z0 := blk_cell HZ1.out.a 0
    have r0 := blk_cell HZ1.out.r 0
    have rf := blk_frozen HZ1.out.r 0
    clear hlk
    go_wp2
    exact act_bad rfl HZ1.out HNO.out rfl rfl
end Go.Proofs.YtaacpdejpcbbbaaGreatDoor

namespace Go.Proofs.YtaacpdejpcbbbaaGreatDoor
set_option linter.unusedVariables false
set_option linter.unusedSimpArgs false
open Go.RowKit
attribute [local go_sem] bs_size List.length_cons List.length_nil

set_option maxHeartbeats 8000000 in
set_option maxRecDepth 100000 in
theorem spec_DoAct_move (A : Option Addr) (c : Nat) (fs : List FiD) (nm tg : ByteArray) (w : World) (h : FiRow w A c fs) (hd : diskOkB fs = true) (hn : inR (nm.size : Int) 1 8 = true) (hg : inR (tg.size : Int) 1 8 = true) :
    Calls Tryz.prog 100 #[.agg #[.slice A fs.length c], .agg #[.int .i64 3, .string nm, .string ⟨#[]⟩, .string tg]] w (ActPost w (doActB fs (3, nm, ⟨#[]⟩, tg))) := by
  have HDA := Lib.hid (DA.start w (.slice A fs.length c) (3, nm, ⟨#[]⟩, tg))
  have HR := Lib.hid (h.below HDA.out.b)
  have d0 := blk_cell HDA.out.d 0
  have HOK := Lib.hid hd
  have HN := Lib.hid hn
  have hl : fs.length ≤ 30 := diskOk_l30' hd
  have HSM : Hid (∀ x ∈ fs, x.1.size ≤ 9223372036854775807 ∧ x.2.1.size ≤ 9223372036854775807) := fun x hx => by have := diskOk_small hd hx; omega
  have hnm : nm.size ≤ 8 := by unfold inR at hn; simp at hn; omega
  clear h hd hn
  go_enter Tryz.func100, Tryz.ntmps100
  go_wp2_with fail
  go_at_call 94
  refine (spec_DiskOk_calls A c fs _ HR.out).mono ?_
  rw [HOK.out]
  rintro e w1 ⟨rfl, hb⟩
  have HD1 := Lib.hid (HDA.out.go hb)
  have HR1 := Lib.hid (HR.out.below hb)
  clear d0 hb HDA HR
  have d0 := blk_cell HD1.out.d 0
  have a0 := blk_cell HD1.out.a 0
  have a1 := blk_cell HD1.out.a 1
  have a2 := blk_cell HD1.out.a 2
  have a3 := blk_cell HD1.out.a 3
  go_wp2_with fail
  go_at_call 144
  refine (l03Name_at nm _ HN.out (by omega)).mono ?_
  rintro e w2 ⟨rfl, rfl⟩
  go_wp2_with fail
  go_at_call 97
  refine (spec_l03At_calls nm A c fs _ HR1.out).mono ?_
  rintro e w3 ⟨r, rfl, hr, hb⟩
  have HD3 := Lib.hid (HD1.out.go hb)
  have HR3 := Lib.hid (HR1.out.below hb)
  have HIX := Lib.hid hr
  clear d0 a0 a1 a2 a3 hb hr HD1 HR1
  rcases ix_look (ris_ok HOK.out) HIX.out with ⟨j, x, e, hj, hx, hlk⟩ | ⟨e, hlk⟩
  · subst e
    obtain ⟨xn, xt, xk⟩ := x
    have hxn : xn = nm := hx
    subst hxn
    have hjl := (List.getElem?_eq_some_iff.1 hj).1
    have hji : (j : Int) < (fs.length : Int) := by omega
    have hj0 : ¬ ((j : Int) < 0) := by omega
    have hj1 : (0 : Int) ≤ (j : Int) := by omega
    have hts : xt.size ≤ 20000 := (diskOk_small HOK.out (List.mem_of_getElem? hj)).1
    have HJ := Lib.hid hj
    have HLK := Lib.hid hlk
    have HF0 := Lib.hid (HD3.out.alloc (.cells #[.string xn, .string ⟨#[]⟩, .int .i64 0] 105))
    have HR0 := Lib.hid (HR3.out.below ((Below.refl _ _).alloc (Nat.le_refl _) (.cells #[.string xn, .string ⟨#[]⟩, .int .i64 0] 105)))
    obtain ⟨ad, y, hA, HY, _, _, hc0, hc1, hc2⟩ := HR0.out.at_ hjl
    obtain rfl : (xn, xt, xk) = y := Option.some.inj (HJ.out.symm.trans HY.out)
    cases hA
    dsimp only at hc0 hc1 hc2
    have c3 := blk_cell HD3.out.a 1
    have d0 := blk_cell HF0.out.d 0
    have HZ1 := Lib.hid ((HD3.out.alloc (.cells #[.string xn, .string xt, .int .i64 xk] 105)).alloc (.cells #[.slice none 0 0] 32))
    have z0 := blk_cell HZ1.out.a 0
    have z1 := blk_cell HZ1.out.a 1
    have z2 := blk_cell HZ1.out.a 2
    have z3 := blk_cell HZ1.out.a 3
    clear hj hx hlk
    have HZ2 := Lib.hid ((HD3.out.alloc (.cells #[.string tg, .string xt, .int .i64 xk] 105)).alloc (.cells #[.slice none 0 0] 32))
    have HR4 := Lib.hid ((HR3.out.below ((Below.refl _ _).alloc (Nat.le_refl _) (.cells #[.string tg, .string xt, .int .i64 xk] 105))).below ((Below.refl _ _).alloc (Nat.le_refl _) (.cells #[.slice none 0 0] 32)))
    have HQ4 : Hid (((w3.alloc (.cells #[.string tg, .string xt, .int .i64 xk] 105)).alloc (.cells #[.slice none 0 0] 32)).heap[w3.heap.size + 1]? = some (.cells #[.slice none 0 0] 32 (0, 0))) := by
      have := blk_new (w3.alloc (.cells #[.string tg, .string xt, .int .i64 xk] 105)) (.cells #[.slice none 0 0] 32)
      rwa [show (w3.alloc (.cells #[.string tg, .string xt, .int .i64 xk] 105)).heap.size = w3.heap.size + 1 by simp] at this
    have HX4 : Hid (((w3.alloc (.cells #[.string tg, .string xt, .int .i64 xk] 105)).alloc (.cells #[.slice none 0 0] 32)).heap[w3.heap.size]? = some (.cells #[.string tg, .string xt, .int .i64 xk] 105 (0, 0))) := gr_old (blk_new w3 _) _
    have HQS : Hid (w.heap.size + 3 ≤ w3.heap.size + 1) := Nat.le_succ_of_le HD3.out.s
    have y0 := blk_cell HZ2.out.d 0
    have y1 := blk_cell HZ2.out.a 1
    have y3 := blk_cell HZ2.out.a 3
    have x0 := blk_cell HX4.out 0
    have x1 := blk_cell HX4.out 1
    have x2 := blk_cell HX4.out 2
    have hkz : xk ≤ (xt.size : Int) := by
      have h1 := HOK.out
      exact (disk_kept h1 (List.mem_of_getElem? HJ.out))
    have HG := Lib.hid hg
    have htg : tg.size ≤ 8 := by unfold inR at hg; simp at hg; omega
    clear hg
    have r0 := blk_cell HZ1.out.r 0
    have rf := blk_frozen HZ1.out.r 0
    by_cases hkb : xk < (xt.size : Int)
    · have HNO := Lib.hid (act_F3n (tg := tg) HLK.out (.inr (by dsimp only; omega)))
      go_wp2
      exact act_bad rfl HZ1.out HNO.out rfl rfl
    obtain ⟨sm, hsm⟩ : ∃ b, (tg.toList == xn.toList) = b := ⟨_, rfl⟩
    cases sm
    rotate_left
    · have HNO := Lib.hid (act_F3n (tg := tg) HLK.out (.inl (toList_inj.1 (by simpa using hsm))))
      go_wp2
      exact act_bad rfl HZ1.out HNO.out rfl rfl
    have HNE3 : Hid (tg ≠ xn) := fun e => by rw [e] at hsm; simp at hsm
    have HAC := Lib.hid (act_some (act_okn (n := 3) (nm := xn) (tg := tg) HOK.out (by decide) (.inl rfl)) (act_F3 HLK.out HNE3.out (by dsimp only; omega)))
    dsimp only at HAC
    go_wp2_with fail
    go_at_call 144
    refine (l03Name_at tg _ HG.out (by omega)).mono ?_
    rintro e w9 ⟨rfl, hw9⟩
    subst hw9
    clear r0 rf
    go_wp2_with fail
    generalize (w3.alloc (.cells #[.string tg, .string xt, .int .i64 xk] 105)).alloc (.cells #[.slice none 0 0] 32) = W4 at HZ2 HR4 HQ4 HX4 y0 y1 y3 x0 x1 x2 ⊢
    have HQX : Hid (w3.heap.size + 1 = w3.heap.size + 1) := rfl
    have HD4 := Lib.hid HZ2.out.drew
    have HR4D := Lib.hid (HR4.out.below (w' := W4.drew) (Below.drew (Below.refl _ _)))
    have HX4D : Hid (W4.drew.heap[w3.heap.size]? = some (.cells #[.string tg, .string xt, .int .i64 xk] 105 (0, 0))) := HX4.out
    have HQ4D : Hid (W4.drew.heap[w3.heap.size + 1]? = some (.cells #[.slice none 0 0] 32 (0, 0))) := HQ4.out
    have HSM4 : Hid (∀ y ∈ dropF fs xn, y.1.size ≤ 9223372036854775807 ∧ y.2.1.size ≤ 9223372036854775807) := fun y hy => HSM.out y (dropF_mem hy)
    have hfl := dropF_len fs xn
    have HSM5 := Lib.hid (sm_put (x := (tg, xt, xk)) HSM4.out ⟨by show tg.size ≤ _; omega, by show xt.size ≤ _; omega⟩)
    have HLE := Lib.hid (putF_len (dropF fs xn) (tg, xt, xk))
    have HWO : Hid (∀ W, FiRow W (some ad) c fs → Calls Tryz.prog 148 #[.agg #[.slice (some ad) fs.length c], .string xn] W fun e w' => ∃ v, e = .returned (.agg #[v]) ∧ FiOwn w' W.heap.size v (dropF fs xn) ∧ Below W.heap.size W w') := fun W h => spec_l03Without_calls (some ad) c fs xn W h (by omega)
    generalize dropF fs xn = G at HAC HSM4 hfl HSM5 HLE HWO
    go_region_law (first | (go_simp; go_at_call 148; refine (HWO.out _ HR4D.out).mono ?_; rintro e w5 ⟨v5, rfl, ho5, hb5⟩; have HD5 := Lib.hid (HD4.out.go hb5); have HX5 := Lib.hid (blk_below HX4D.out hb5); have HQ5 := Lib.hid (blk_below HQ4D.out hb5); have HO5 := Lib.hid ho5; obtain ⟨A5, c5, e5, hr5⟩ := ho5.row HSM4.out; subst e5; have HR5 := Lib.hid hr5; have k0 := blk_cell HX5.out 0; have k1 := blk_cell HX5.out 1; have k2 := blk_cell HX5.out 2; clear ho5 hb5 hr5) | (go_simp; go_at_call 147; refine (spec_l03Put_calls A5 c5 G tg xt xk _ HR5.out (by omega)).mono ?_; rintro e w6 ⟨v6, rfl, ho6, hb6⟩; obtain ⟨A6, c6, e6⟩ := ho6.form; subst e6; have HD6 := Lib.hid (HD5.out.go hb6); have HQ6 := Lib.hid (blk_below HQ5.out hb6); have HO6 := Lib.hid ho6; have j0 := blk_cell HQ6.out 0; have jf := blk_frozen HQ6.out 0; have HZS : Hid (w.heap.size + 3 ≤ w5.heap.size) := HD5.out.s; clear ho6 hb6))
    all_goals
      clear x0 x1 x2 y0 y1 y3
      generalize putF G (tg, xt, xk) = F at HAC HSM5 HLE HO6 j0 HQ6 ⊢
      have HD7 := Lib.hid (HD6.out.set (q := w3.heap.size + 1) (i := 0) (.slice A6 F.length c6) HQS.out)
      have HQ7 : Hid ((w6.setCell ⟨w3.heap.size + 1, 0, none⟩ (.slice A6 F.length c6)).heap[w3.heap.size + 1]? = some (.cells #[.slice A6 F.length c6] 32 (0, 0))) := by rw [Hid, blk_set HQ6.out]; rfl
      have HO7 : Hid (FiOwn (w6.setCell ⟨w3.heap.size + 1, 0, none⟩ (.slice A6 F.length c6)) (w.heap.size + 3) (.slice A6 F.length c6) F) := FiOwn.mono (World.ownsRow.kept HO6.out (gr_set w6 (w3.heap.size + 1) 0 _) (.inr (fi_apart HO6.out HQ6.out (by decide)))) HZS.out
      obtain ⟨A7, c7, e7, hr7⟩ := HO7.out.row HSM5.out
      cases e7
      have HR7 := Lib.hid hr7
      have q1 := blk_cell HQ7.out 0
      clear hr7
      go_wp2_with fail
      generalize w6.setCell ⟨w3.heap.size + 1, 0, none⟩ (.slice A6 F.length c6) = W7 at HD7 HQ7 HO7 HR7 q1 ⊢
      go_at_call 94
      refine (spec_DiskOk_calls A6 c6 F _ HR7.out).mono ?_
      rintro e w8 ⟨rfl, hb⟩
      have HD8 := Lib.hid (HD7.out.go hb)
      have HQ8 := Lib.hid (blk_below HQ7.out hb)
      have HO8 := Lib.hid (HO7.out.below hb)
      clear hb q1 j0 jf
      have q0 := blk_cell HQ8.out 0
      have r0 := blk_cell HD8.out.r 0
      have rf := blk_frozen HD8.out.r 0
      obtain ⟨ok, hok⟩ : ∃ b, diskOkB F = b := ⟨_, rfl⟩
      rw [hok] at HAC ⊢
      clear hok
      cases ok
      · go_wp2
        exact act_bad rfl HD8.out HAC.out rfl rfl
      · go_wp2
        exact act_good rfl HD8.out HO8.out HAC.out rfl rfl
  · subst e
    have HNO := Lib.hid (act_noF (n := 3) (tg := tg) (by decide) hlk)
    have HZ1 := Lib.hid ((HD3.out.alloc (.cells #[.string nm, .string ⟨#[]⟩, .int .i64 0] 105)).alloc (.cells #[.slice none 0 0] 32))
    have c3 := blk_cell HD3.out.a 1
    have z0 := blk_cell HZ1.out.a 0
    have r0 := blk_cell HZ1.out.r 0
    have rf := blk_frozen HZ1.out.r 0
    clear hlk
    go_wp2
    exact act_bad rfl HZ1.out HNO.out rfl rfl
end Go.Proofs.YtaacpdejpcbbbaaGreatDoor

namespace Go.Proofs.YtaacpdejpcbbbaaGreatDoor
set_option linter.unusedVariables false
set_option linter.unusedSimpArgs false
open Go.RowKit
attribute [local go_sem] bs_size List.length_cons List.length_nil

set_option maxHeartbeats 8000000 in
set_option maxRecDepth 100000 in
theorem spec_DoAct_drop (A : Option Addr) (c : Nat) (fs : List FiD) (nm : ByteArray) (w : World) (h : FiRow w A c fs) (hd : diskOkB fs = true) (hn : inR (nm.size : Int) 1 8 = true) :
    Calls Tryz.prog 100 #[.agg #[.slice A fs.length c], .agg #[.int .i64 4, .string nm, .string ⟨#[]⟩, .string ⟨#[]⟩]] w (ActPost w (doActB fs (4, nm, ⟨#[]⟩, ⟨#[]⟩))) := by
  have HDA := Lib.hid (DA.start w (.slice A fs.length c) (4, nm, ⟨#[]⟩, ⟨#[]⟩))
  have HR := Lib.hid (h.below HDA.out.b)
  have d0 := blk_cell HDA.out.d 0
  have HOK := Lib.hid hd
  have HN := Lib.hid hn
  have hl : fs.length ≤ 30 := diskOk_l30' hd
  have HSM : Hid (∀ x ∈ fs, x.1.size ≤ 9223372036854775807 ∧ x.2.1.size ≤ 9223372036854775807) := fun x hx => by have := diskOk_small hd hx; omega
  have hnm : nm.size ≤ 8 := by unfold inR at hn; simp at hn; omega
  clear h hd hn
  go_enter Tryz.func100, Tryz.ntmps100
  go_wp2_with fail
  go_at_call 94
  refine (spec_DiskOk_calls A c fs _ HR.out).mono ?_
  rw [HOK.out]
  rintro e w1 ⟨rfl, hb⟩
  have HD1 := Lib.hid (HDA.out.go hb)
  have HR1 := Lib.hid (HR.out.below hb)
  clear d0 hb HDA HR
  have d0 := blk_cell HD1.out.d 0
  have a0 := blk_cell HD1.out.a 0
  have a1 := blk_cell HD1.out.a 1
  have a2 := blk_cell HD1.out.a 2
  have a3 := blk_cell HD1.out.a 3
  go_wp2_with fail
  go_at_call 144
  refine (l03Name_at nm _ HN.out (by omega)).mono ?_
  rintro e w2 ⟨rfl, rfl⟩
  go_wp2_with fail
  go_at_call 97
  refine (spec_l03At_calls nm A c fs _ HR1.out).mono ?_
  rintro e w3 ⟨r, rfl, hr, hb⟩
  have HD3 := Lib.hid (HD1.out.go hb)
  have HR3 := Lib.hid (HR1.out.below hb)
  have HIX := Lib.hid hr
  clear d0 a0 a1 a2 a3 hb hr HD1 HR1
  rcases ix_look (ris_ok HOK.out) HIX.out with ⟨j, x, e, hj, hx, hlk⟩ | ⟨e, hlk⟩
  · subst e
    obtain ⟨xn, xt, xk⟩ := x
    have hxn : xn = nm := hx
    subst hxn
    have hjl := (List.getElem?_eq_some_iff.1 hj).1
    have hji : (j : Int) < (fs.length : Int) := by omega
    have hj0 : ¬ ((j : Int) < 0) := by omega
    have hj1 : (0 : Int) ≤ (j : Int) := by omega
    have hts : xt.size ≤ 20000 := (diskOk_small HOK.out (List.mem_of_getElem? hj)).1
    have HJ := Lib.hid hj
    have HLK := Lib.hid hlk
    have HF0 := Lib.hid (HD3.out.alloc (.cells #[.string xn, .string ⟨#[]⟩, .int .i64 0] 105))
    have HR0 := Lib.hid (HR3.out.below ((Below.refl _ _).alloc (Nat.le_refl _) (.cells #[.string xn, .string ⟨#[]⟩, .int .i64 0] 105)))
    obtain ⟨ad, y, hA, HY, _, _, hc0, hc1, hc2⟩ := HR0.out.at_ hjl
    obtain rfl : (xn, xt, xk) = y := Option.some.inj (HJ.out.symm.trans HY.out)
    cases hA
    dsimp only at hc0 hc1 hc2
    have c3 := blk_cell HD3.out.a 1
    have d0 := blk_cell HF0.out.d 0
    have HZ1 := Lib.hid ((HD3.out.alloc (.cells #[.string xn, .string xt, .int .i64 xk] 105)).alloc (.cells #[.slice none 0 0] 32))
    have z0 := blk_cell HZ1.out.a 0
    have z1 := blk_cell HZ1.out.a 1
    have z2 := blk_cell HZ1.out.a 2
    have z3 := blk_cell HZ1.out.a 3
    clear hj hx hlk
    have HZ2 := Lib.hid ((HD3.out.alloc (.cells #[.string xn, .string xt, .int .i64 xk] 105)).alloc (.cells #[.slice none 0 0] 32))
    have HR4 := Lib.hid ((HR3.out.below ((Below.refl _ _).alloc (Nat.le_refl _) (.cells #[.string xn, .string xt, .int .i64 xk] 105))).below ((Below.refl _ _).alloc (Nat.le_refl _) (.cells #[.slice none 0 0] 32)))
    have HQ4 : Hid (((w3.alloc (.cells #[.string xn, .string xt, .int .i64 xk] 105)).alloc (.cells #[.slice none 0 0] 32)).heap[w3.heap.size + 1]? = some (.cells #[.slice none 0 0] 32 (0, 0))) := by
      have := blk_new (w3.alloc (.cells #[.string xn, .string xt, .int .i64 xk] 105)) (.cells #[.slice none 0 0] 32)
      rwa [show (w3.alloc (.cells #[.string xn, .string xt, .int .i64 xk] 105)).heap.size = w3.heap.size + 1 by simp] at this
    have HX4 : Hid (((w3.alloc (.cells #[.string xn, .string xt, .int .i64 xk] 105)).alloc (.cells #[.slice none 0 0] 32)).heap[w3.heap.size]? = some (.cells #[.string xn, .string xt, .int .i64 xk] 105 (0, 0))) := gr_old (blk_new w3 _) _
    have HQS : Hid (w.heap.size + 3 ≤ w3.heap.size + 1) := Nat.le_succ_of_le HD3.out.s
    have y0 := blk_cell HZ2.out.d 0
    have y1 := blk_cell HZ2.out.a 1
    have y3 := blk_cell HZ2.out.a 3
    have x0 := blk_cell HX4.out 0
    have x1 := blk_cell HX4.out 1
    have x2 := blk_cell HX4.out 2
    have HAC := Lib.hid (act_some (act_okn (n := 4) (nm := xn) (tg := ⟨#[]⟩) HOK.out (by decide) (.inr rfl)) (act_F4 HLK.out))
    go_wp2_with fail
    generalize (w3.alloc (.cells #[.string xn, .string xt, .int .i64 xk] 105)).alloc (.cells #[.slice none 0 0] 32) = W4 at HZ2 HR4 HQ4 HX4 y0 y1 y3 x0 x1 x2 ⊢
    generalize w3.heap.size + 1 = q at HQ4 HQS ⊢
    clear y0 y1 y3 x0 x1 x2 HX4
    go_at_call 148
    refine (spec_l03Without_calls _ c fs xn _ HR4.out (by omega)).mono ?_
    rintro e w5 ⟨v5, rfl, ho5, hb5⟩
    have HSM5 : Hid (∀ y ∈ dropF fs xn, y.1.size ≤ 9223372036854775807 ∧ y.2.1.size ≤ 9223372036854775807) := fun y hy => HSM.out y (dropF_mem hy)
    have hfl := dropF_len fs xn
    generalize dropF fs xn = F at ho5 HAC HSM5 hfl
    obtain ⟨A5, c5, hv5⟩ := ho5.form
    subst hv5
    have HD5 := Lib.hid (HZ2.out.go hb5)
    have HQ5 := Lib.hid (blk_below HQ4.out hb5)
    have HD6 := Lib.hid (HD5.out.set (q := q) (i := 0) (.slice A5 F.length c5) HQS.out)
    have HQ6 : Hid ((w5.setCell ⟨q, 0, none⟩ (.slice A5 F.length c5)).heap[q]? = some (.cells #[.slice A5 F.length c5] 32 (0, 0))) := by rw [Hid, blk_set HQ5.out]; rfl
    have HO6 : Hid (FiOwn (w5.setCell ⟨q, 0, none⟩ (.slice A5 F.length c5)) (w.heap.size + 3) (.slice A5 F.length c5) F) := FiOwn.mono (World.ownsRow.kept ho5 (gr_set w5 q 0 _) (.inr (fi_apart ho5 HQ5.out (by decide)))) HZ2.out.s
    obtain ⟨A6, c6, e6, hr6⟩ := HO6.out.row HSM5.out
    cases e6
    have HR6 := Lib.hid hr6
    have q0 := blk_cell HQ5.out 0
    have qf := blk_frozen HQ5.out 0
    have q1 := blk_cell HQ6.out 0
    clear ho5 hb5 hr6
    go_wp2_with fail
    generalize w5.setCell ⟨q, 0, none⟩ (.slice A5 F.length c5) = W6 at HD6 HQ6 HO6 HR6 q1 ⊢
    clear q0 qf q1 HD5 HQ5 HZ2 HQ4
    go_at_call 94
    refine (spec_DiskOk_calls A5 c5 F _ HR6.out).mono ?_
    rintro e w7 ⟨rfl, hb⟩
    have HD7 := Lib.hid (HD6.out.go hb)
    have HQ7 := Lib.hid (blk_below HQ6.out hb)
    have HO7 := Lib.hid (HO6.out.below hb)
    clear hb HD6 HQ6 HO6 HR6
    have q0 := blk_cell HQ7.out 0
    have r0 := blk_cell HD7.out.r 0
    have rf := blk_frozen HD7.out.r 0
    obtain ⟨ok, hok⟩ : ∃ b, diskOkB F = b := ⟨_, rfl⟩
    rw [hok] at HAC ⊢
    clear hok
    cases ok
    · go_wp2
      exact act_bad rfl HD7.out HAC.out rfl rfl
    · go_wp2
      exact act_good rfl HD7.out HO7.out HAC.out rfl rfl
  · subst e
    have HNO := Lib.hid (act_noF (n := 4) (tg := ⟨#[]⟩) (by decide) hlk)
    have HZ1 := Lib.hid ((HD3.out.alloc (.cells #[.string nm, .string ⟨#[]⟩, .int .i64 0] 105)).alloc (.cells #[.slice none 0 0] 32))
    have c3 := blk_cell HD3.out.a 1
    have z0 := blk_cell HZ1.out.a 0
    have r0 := blk_cell HZ1.out.r 0
    have rf := blk_frozen HZ1.out.r 0
    clear hlk
    go_wp2
    exact act_bad rfl HZ1.out HNO.out rfl rfl
end Go.Proofs.YtaacpdejpcbbbaaGreatDoor

namespace Go.Proofs.YtaacpdejpcbbbaaGreatDoor
set_option linter.unusedVariables false
set_option linter.unusedSimpArgs false
open Go.RowKit
attribute [local go_sem] bs_size List.length_cons List.length_nil

theorem spec_DoAct_calls (A : Option Addr) (c : Nat) (fs : List FiD) (a : ActD) (w : World) (h : FiRow w A c fs) (hd : diskOkB fs = true) (ha : ActSh a) (hg : a.1 = 3 → inR (a.2.2.2.size : Int) 1 8 = true) :
    Calls Tryz.prog 100 #[.agg #[.slice A fs.length c], .agg #[.int .i64 a.1, .string a.2.1, .string a.2.2.1, .string a.2.2.2]] w (ActPost w (doActB fs a)) := by
  obtain ⟨k, nm, tx, tg⟩ := a
  obtain ⟨hn, ha⟩ := ha
  dsimp only at hn ha hg ⊢
  rcases ha with ⟨rfl, rfl, h3⟩ | ⟨rfl, rfl, rfl⟩ | ⟨rfl, rfl, rfl⟩ | ⟨rfl, rfl, h3⟩
  · exact spec_DoAct_add A c fs nm tx w h hd hn h3
  · exact spec_DoAct_keep A c fs nm w h hd hn
  · exact spec_DoAct_drop A c fs nm w h hd hn
  · exact spec_DoAct_move A c fs nm tg w h hd hn (hg rfl)
/-- What an act gives, in one form. -/
theorem act_uni {w w' : World} {o : Option (List FiD)} {e : Ending} (h : ActPost w o e w') : ∃ A n c b, e = .returned (.tuple #[.agg #[.slice A n c], .bool b]) ∧ Hid (b = false → o = none) ∧ Hid (b = true → ∃ fs, o = some fs ∧ FiOwn w' w.heap.size (.slice A n c) fs) ∧ Below w.heap.size w w' := by
  obtain ⟨hb, hm⟩ := h
  cases o with
  | none => exact ⟨none, 0, 0, false, hm, fun _ => rfl, (fun e => by cases e), hb⟩
  | some fs =>
    obtain ⟨v, he, ho⟩ := hm
    obtain ⟨A, c, rfl⟩ := ho.form
    exact ⟨A, _, c, true, he, (fun e => by cases e), fun _ => ⟨fs, rfl, ho⟩, hb⟩
theorem DX.side {w W : World} {gr gd gs : Nat} {ov x : Value} {now : List FiD} (h : DX w gr gd ov now W) (hs : W.heap[gs]? = some (.cells #[.slice none 0 0] 32 (0, 0))) (hn : gs ≠ gd ∧ gs ≠ gr ∧ w.heap.size ≤ gs) : DX w gr gd ov now (W.setCell ⟨gs, 0, none⟩ x) := by
  obtain ⟨h1, h2, h3⟩ := hn
  exact ⟨h.b.setCell (p := ⟨gs, 0, none⟩) h3 _, (gr_setne _ _ _ _ _ (by omega)).trans h.r, (gr_setne _ _ _ _ _ (by omega)).trans h.o, World.ownsRow.kept h.own (gr_set W gs 0 _) (.inr (h.own.apart hs (by decide))), h.far⟩
theorem dx_start {w W1 w3 : World} {gg cap : Nat} {fs : List FiD} {r : Option Nat} (hb : Below w.heap.size w W1) (hx : W1.heap[w.heap.size + 1]? = some (.cells #[.slice none 0 0] 32 (0, 0))) (hz : W1.heap.size = w.heap.size + 3) (ho : w3.ownsRow w.heap.size 105 3 (.slice (some ⟨gg, 0, none⟩) fs.length cap) fs.length (fiFlat fs)) (hg : W1.grownBy w3 r) (hr : ∀ k, r = some k → w.heap.size + 2 ≤ k) :
    DX w (w.heap.size + 1) w3.heap.size (.slice (some ⟨gg, 0, none⟩) fs.length cap) fs (w3.alloc (.cells #[.slice (some ⟨gg, 0, none⟩) fs.length cap] 32)) := by
  have h1 : Below w.heap.size w w3 := hb.grown hg hb.size fun k e => by have := hr k e; omega
  have hs := hg.size
  have hb2 : Below w3.heap.size w3 (w3.alloc (.cells #[.slice (some ⟨gg, 0, none⟩) fs.length cap] 32)) := (Below.refl _ _).alloc (Nat.le_refl _) _
  exact ⟨h1.trans (hb2.mono h1.size), gr_old ((hg.block _ (by omega) (fun e => by have := hr _ e.symm; omega)).trans hx) _, blk_new w3 _, FiOwn.below ho hb2, by omega, by omega⟩
set_option maxHeartbeats 8000000 in
set_option maxRecDepth 100000 in
theorem spec_DoActs_calls (b c ca : Nat) (Ac : Option Addr) (fs : List FiD) (ls : List ActD) (w : World) (h : FiRow w (some ⟨b, 0, none⟩) c fs) (hp : 0 < fs.length) (ha : AcRow w Ac ca ls) (hs : ∀ a ∈ ls, ActSh a) (hg : ∀ a ∈ ls, a.1 = 3 → inR (a.2.2.2.size : Int) 1 8 = true) (hd : diskOkB fs = true) :
    Calls Tryz.prog 53 #[.agg #[.slice (some ⟨b, 0, none⟩) fs.length c], .slice Ac ls.length ca] w (ActsPost w (doActsB fs ls)) := by
  obtain ⟨i0, hi0, hz, hsz, hby⟩ := info_parts info_fi
  have hs1 : (w.alloc (.cells #[.slice (some ⟨b, 0, none⟩) fs.length c] 32)).heap.size = w.heap.size + 1 := by simp
  have HAL : Hid (Below w.heap.size w (((w.alloc (.cells #[.slice (some ⟨b, 0, none⟩) fs.length c] 32)).alloc (.cells #[.slice none 0 0] 32)).alloc (.cells #[] 105))) := (((Below.refl _ _).alloc (Nat.le_refl _) _).alloc (by simp) _).alloc (by simp; omega) _
  have HR := Lib.hid (h.below HAL.out)
  have HC := Lib.hid ha
  have HX : Hid ((((w.alloc (.cells #[.slice (some ⟨b, 0, none⟩) fs.length c] 32)).alloc (.cells #[.slice none 0 0] 32)).alloc (.cells #[] 105)).heap[w.heap.size + 1]? = some (.cells #[.slice none 0 0] 32 (0, 0))) := by rw [Hid, ← hs1]; exact gr_old (blk_new _ _) _
  have HZ : Hid ((((w.alloc (.cells #[.slice (some ⟨b, 0, none⟩) fs.length c] 32)).alloc (.cells #[.slice none 0 0] 32)).alloc (.cells #[] 105)).heap.size = w.heap.size + 3) := by rw [Hid]; simp
  have HZ2 : Hid (((w.alloc (.cells #[.slice (some ⟨b, 0, none⟩) fs.length c] 32)).alloc (.cells #[.slice none 0 0] 32)).heap.size = w.heap.size + 2) := by rw [Hid]; simp
  have p0 : (((w.alloc (.cells #[.slice (some ⟨b, 0, none⟩) fs.length c] 32)).alloc (.cells #[.slice none 0 0] 32)).alloc (.cells #[] 105)).cell? ⟨w.heap.size, 0, none⟩ = some (.slice (some ⟨b, 0, none⟩) fs.length c) := cell_new (cell_new (blk_cell (blk_new w _) 0) _) _
  have HM : Hid (FiOwn (((w.alloc (.cells #[.slice (some ⟨b, 0, none⟩) fs.length c] 32)).alloc (.cells #[.slice none 0 0] 32)).alloc (.cells #[] 105)) w.heap.size (.slice (some ⟨w.heap.size + 2, 0, none⟩) 0 0) []) := by
    have h9 := World.ownsRow_made (w := (w.alloc (.cells #[.slice (some ⟨b, 0, none⟩) fs.length c] 32)).alloc (.cells #[.slice none 0 0] 32)) (base := w.heap.size) (e := 105) (size := 3) #[] 0 (by rw [HZ2.out]; omega) (Nat.zero_le _) rfl
    rw [HZ2.out] at h9
    exact h9
  have HNEWS := Lib.hid HR.out.flat
  have HBASE : Hid (w.heap.size ≤ (((w.alloc (.cells #[.slice (some ⟨b, 0, none⟩) fs.length c] 32)).alloc (.cells #[.slice none 0 0] 32)).alloc (.cells #[] 105)).heap.size) := HAL.out.size
  have hl := diskOk_l30 hd
  have HSH := Lib.hid hs
  have HSG := Lib.hid hg
  have HDK := Lib.hid hd
  have hal := ha.len
  clear h ha hs hd hs1 hg
  go_enter Tryz.func53, Tryz.ntmps53
  go_wp2_with (at_builtin; go_loud (refine wpList_append_lies _ rfl _ _ _ rfl w.heap.size 105 i0 (.agg #[.string ⟨#[]⟩, .string ⟨#[]⟩, .int .i64 0]) 3 40 Tryz.underlying30 hi0 hz hsz hby rfl (by omega) (.slice (some ⟨w.heap.size + 2, 0, none⟩) 0 0) 0 [] rfl HM.out ⟨b, 0, none⟩ fs.length c (fiFlat fs) rfl (fiFlat_len fs) HNEWS.out (fiVals_one fs) hp (by unfold maxLen; omega) (by omega) HBASE.out _ rfl ?_); intro gg cap w3 hown hgrow hat hlt; rw [Nat.zero_add, List.nil_append] at hown; have HS1 := Lib.hid (dx_start HAL.out HX.out HZ.out hown hgrow (fun k e => by have h8 : w.heap.size + 2 = k := Option.some.inj e; omega)); clear hown hgrow hat hlt)
  generalize w3.alloc (.cells #[.slice (some ⟨gg, 0, none⟩) fs.length cap] 32) = W2 at HS1 ⊢
  generalize w3.heap.size = gd at HS1 ⊢
  clear HAL HR HX HZ HZ2 HM HNEWS HBASE p0
  go_loopw [7] (fun iv wr => ∃ (i : Nat) (ov : Value) (now : List FiD), i ≤ ls.length ∧ iv = .int .i64 (i : Int) ∧ Hid (ActsAt fs ls i now) ∧ Hid (diskOkB now = true) ∧ Hid (DX w (w.heap.size + 1) gd ov now wr)) (fun iv _ => ls.length - (intOf iv).toNat)
  case atStart => exact ⟨0, _, fs, Nat.zero_le _, rfl, acts_start _ _, HDK, HS1⟩
  case round =>
    clear HS1
    obtain ⟨i, ov, now, hi, rfl, HT, HN, HS⟩ := hrel
    obtain ⟨A2, c2, e2⟩ := HS.out.own.form
    subst e2
    by_cases hlt : i < ls.length
    · obtain ⟨ad, a, hA, HX, hc0, hc1, hc2, hc3⟩ := (HC.out.below HS.out.b).at_ hlt
      cases hA
      obtain ⟨k, nm, tx, tg⟩ := a
      dsimp only at hc0 hc1 hc2 hc3
      have HSA := Lib.hid (HS.out.go (Below.drew (Below.refl _ _)))
      have o0 := blk_cell HS.out.o 0
      have HSH1 := Lib.hid (HSH.out _ (List.mem_of_getElem? HX.out))
      have HSG1 := Lib.hid (HSG.out _ (List.mem_of_getElem? HX.out))
      have hli : (i : Int) < (ls.length : Int) := by omega
      obtain ⟨A9, c9, e9, hr9⟩ := HSA.out.own.row (disk_sm HN.out)
      cases e9
      have HR9 := Lib.hid hr9
      clear hr9
      go_wp2_with fail
      have HSB := Lib.hid ((HS.out.go ((Below.refl _ _).alloc (Nat.le_refl _) (.cells #[.slice none 0 0] 32))).go (Below.drew (Below.refl _ _)))
      have HR9B : Hid (FiRow (wr.alloc (.cells #[.slice none 0 0] 32)).drew A2 c2 now) := HR9.out.below (w := wr.drew) (w' := (wr.alloc (.cells #[.slice none 0 0] 32)).drew) ((Below.refl wr.drew.heap.size wr.drew).alloc (Nat.le_refl _) _)
      have HBX : Hid ((wr.alloc (.cells #[.slice none 0 0] 32)).drew.heap[wr.heap.size]? = some (.cells #[.slice none 0 0] 32 (0, 0))) := blk_new wr _
      have HNB : Hid (wr.heap.size ≠ gd ∧ wr.heap.size ≠ w.heap.size + 1 ∧ w.heap.size ≤ wr.heap.size) := ⟨by have := blk_lt HS.out.o; omega, by have := blk_lt HS.out.r; omega, HS.out.b.size⟩
      have m0 := cell_new hc0 (.cells #[.slice none 0 0] 32)
      have m1 := cell_new hc1 (.cells #[.slice none 0 0] 32)
      have m2 := cell_new hc2 (.cells #[.slice none 0 0] 32)
      have m3 := cell_new hc3 (.cells #[.slice none 0 0] 32)
      have o1 := cell_new o0 (.cells #[.slice none 0 0] 32)
      go_region_law (go_simp; go_at_call 100; refine (spec_DoAct_calls A2 c2 now (k, nm, tx, tg) _ (by first | exact HR9.out | exact HR9B.out) HN.out HSH1.out HSG1.out).mono ?_; rintro e w2 hp2; obtain ⟨A3, n3, c3, bb, rfl, H0, h1, hb⟩ := act_uni hp2; (first | (have HS2 := Lib.hid (HSA.out.go hb); have H1 : Hid (bb = true → ∃ out, doActB now (k, nm, tx, tg) = some out ∧ FiOwn w2 w.heap.size (.slice A3 n3 c3) out) := (fun e => by obtain ⟨o, ho, hv⟩ := h1.out e; exact ⟨o, ho, hv.mono HSA.out.b.size⟩)) | (have HS2 := Lib.hid (HSB.out.go hb); have H1 : Hid (bb = true → ∃ out, doActB now (k, nm, tx, tg) = some out ∧ FiOwn w2 w.heap.size (.slice A3 n3 c3) out) := (fun e => by obtain ⟨o, ho, hv⟩ := h1.out e; exact ⟨o, ho, hv.mono HSB.out.b.size⟩); have HB2 := Lib.hid (blk_below HBX.out hb); have b0 := blk_cell HB2.out 0; have bf := blk_frozen HB2.out 0)); clear hb hp2 h1)
      all_goals clear hc0 hc1 hc2 hc3 o0 m0 m1 m2 m3 o1
      all_goals
        first
        | (have HAL3 : Hid (Below w2.heap.size w2 (w2.alloc (.cells #[.slice A3 n3 c3] 32))) := (Below.refl _ _).alloc (Nat.le_refl _) _
           have HS3 := Lib.hid (HS2.out.go HAL3.out)
           have q0 := blk_cell HS3.out.o 0
           have n0 := blk_cell (blk_new w2 (.cells #[.slice A3 n3 c3] 32)) 0
           cases bb
           · have HE := Lib.hid (acts_stop HT.out HX.out (H0.out rfl))
             have r0 := blk_cell HS3.out.r 0
             have rf := blk_frozen HS3.out.r 0
             go_wp2
             exact acts_end' rfl HS3.out rfl rfl HE.out
           · obtain ⟨out, ho, hov⟩ := H1.out rfl
             have HE := Lib.hid (acts_step HT.out HX.out ho)
             have HDO := Lib.hid (doAct_ok ho).2
             have HS4 := Lib.hid (HS3.out.set (hov.below HAL3.out))
             have qf := blk_frozen HS3.out.o 0
             clear hov ho
             go_wp2
             go_roundw
             case rel => first | exact ⟨i + 1, _, out, by omega, by go_num, HE, HDO, HS4⟩ | (repeat (first | (refine ⟨?relx, rfl⟩; exact ⟨i + 1, _, out, by omega, by go_num, HE, HDO, HS4⟩) | (refine ⟨?relx, ?eqs⟩; (case eqs => (and_intros <;> rfl)); exact ⟨i + 1, _, out, by omega, by go_num, HE, HDO, HS4⟩) | apply Exists.intro))
             case measure => simp [intOf]; omega)
        | (have HS3 := Lib.hid (HS2.out.side (gs := wr.heap.size) (x := .slice A3 n3 c3) HB2.out HNB.out)
           have q0 := blk_cell HS3.out.o 0
           have n0 : (w2.setCell ⟨wr.heap.size, 0, none⟩ (.slice A3 n3 c3)).cell? ⟨wr.heap.size, 0, none⟩ = some (.slice A3 n3 c3) := by
             have := blk_cell (blk_set HB2.out 0 (.slice A3 n3 c3)) 0
             exact this
           cases bb
           · have HE := Lib.hid (acts_stop HT.out HX.out (H0.out rfl))
             have r0 := blk_cell HS3.out.r 0
             have rf := blk_frozen HS3.out.r 0
             go_wp2
             exact acts_end' rfl HS3.out rfl rfl HE.out
           · obtain ⟨out, ho, hov⟩ := H1.out rfl
             have HE := Lib.hid (acts_step HT.out HX.out ho)
             have HDO := Lib.hid (doAct_ok ho).2
             have HS4 := Lib.hid (HS3.out.set (World.ownsRow.kept hov (gr_set w2 wr.heap.size 0 _) (.inr (hov.apart HB2.out (by decide)))))
             have qf := blk_frozen HS3.out.o 0
             clear hov ho
             go_wp2
             go_roundw
             case rel => first | exact ⟨i + 1, _, out, by omega, by go_num, HE, HDO, HS4⟩ | (repeat (first | (refine ⟨?relx, rfl⟩; exact ⟨i + 1, _, out, by omega, by go_num, HE, HDO, HS4⟩) | (refine ⟨?relx, ?eqs⟩; (case eqs => (and_intros <;> rfl)); exact ⟨i + 1, _, out, by omega, by go_num, HE, HDO, HS4⟩) | apply Exists.intro))
             case measure => simp [intOf]; omega)
    · obtain rfl : i = ls.length := by omega
      have HE := Lib.hid (acts_end HT.out rfl)
      have q0 := blk_cell HS.out.o 0
      have r0 := blk_cell HS.out.r 0
      have rf := blk_frozen HS.out.r 0
      go_wp2
      exact acts_end' rfl HS.out rfl rfl HE.out
end Go.Proofs.YtaacpdejpcbbbaaGreatDoor

namespace Go.Proofs.YtaacpdejpcbbbaaGreatDoor
set_option linter.unusedVariables false
set_option linter.unusedSimpArgs false
open Go.RowKit
attribute [local go_sem] bs_size List.length_cons List.length_nil

theorem vdN {w W : World} {A : Option Addr} {n c : Nat} (h : VD w A n c W) (k : Nat) : VD w A n c (W.drewN k) := h.go (blwN (Below.refl _ _) k)
set_option maxHeartbeats 4000000 in
set_option maxRecDepth 100000 in
theorem spec_AllKept_calls (A : Option Addr) (c : Nat) (fs : List FiD) (w : World) (h : FiRow w A c fs) :
    Calls Tryz.prog 50 #[.agg #[.slice A fs.length c]] w fun e w' => e = .returned (.bool (allKeptB fs)) ∧ Below w.heap.size w w' := by
  have HR := Lib.hid h
  have HV := Lib.hid (vd_start w A fs.length c)
  have p0 := HV.out.cell
  obtain ⟨ok, hok⟩ : ∃ b, diskOkB fs = b := ⟨_, rfl⟩
  have HOK := Lib.hid hok
  clear h hok
  go_enter Tryz.func50, Tryz.ntmps50
  go_wp2_with fail
  go_at_call 94
  refine (spec_DiskOk_calls A c fs _ (HR.out.below HV.out.from_)).mono ?_
  rw [HOK.out]
  rintro e w1 ⟨rfl, hb⟩
  have HV1 := Lib.hid (HV.out.go hb)
  clear p0 hb HV
  cases ok
  · have HE : Hid (allKeptB fs = false) := by rw [Hid, allKeptB, HOK.out]; rfl
    go_wp2
    go_ret
    exact ⟨by rw [HE.out]; rfl, HV1.out.from_⟩
  · have hl := diskOk_l30 HOK.out
    have p0 := HV1.out.cell
    go_wp2
    clear p0
    go_loopw [3] (fun iv wr => ∃ i : Nat, i ≤ fs.length ∧ iv = .int .i64 (i : Int) ∧ Hid (∀ j y, j < i → fs[j]? = some y → y.2.2 = (y.2.1.size : Int)) ∧ Hid (VD w A fs.length c wr)) (fun iv _ => fs.length - (intOf iv).toNat)
    case atStart => exact ⟨0, Nat.zero_le _, rfl, fun j y hj => by omega, HV1⟩
    case round =>
      clear HV1
      obtain ⟨i, hi, rfl, HT, HS⟩ := hrel
      have p0 := HS.out.cell
      by_cases hlt : i < fs.length
      · obtain ⟨ad, x, hA, HX, hz1, hz2, hc0, hc1, hc2⟩ := (HR.out.below HS.out.from_).at_ hlt
        cases hA
        have hkz := disk_kept HOK.out (List.mem_of_getElem? HX.out)
        obtain ⟨n, t, k⟩ := x
        dsimp only at hz1 hz2 hc0 hc1 hc2 hkz
        have hli : (i : Int) < (fs.length : Int) := by omega
        by_cases hk : k < (t.size : Int)
        · have HE : Hid (allKeptB fs = false) := by
            rw [Hid, allKeptB, kept_not HX.out (by dsimp only; omega), Bool.and_false]
          have hd : decide (k < (t.size : Int)) = true := decide_eq_true hk
          have HSD := Lib.hid HS.out.drew
          go_wp2_with fail
          go_quiet (fail)
          go_wp2
          go_ret
          exact ⟨by rw [HE.out]; rfl, blwN HS.out.from_ _⟩
        · have HT2 := Lib.hid (kx_step HX.out (by dsimp only; omega) HT.out)
          have hd : decide (k < (t.size : Int)) = false := decide_eq_false hk
          go_wp2_with fail
          go_quiet (fail)
          go_wp2
          go_roundw
          case rel => first | exact ⟨i + 1, by omega, by go_num, HT2, vdN HS.out _⟩ | (repeat (first | (refine ⟨?relx, rfl⟩; exact ⟨i + 1, by omega, by go_num, HT2, vdN HS.out _⟩) | (refine ⟨?relx, ?eqs⟩; (case eqs => (and_intros <;> rfl)); exact ⟨i + 1, by omega, by go_num, HT2, vdN HS.out _⟩) | apply Exists.intro))
          case measure => simp [intOf]; omega
      · obtain rfl : i = fs.length := by omega
        have HE : Hid (allKeptB fs = true) := by rw [Hid, allKeptB, HOK.out, kept_all HT.out]; rfl
        go_wp2
        go_ret
        exact ⟨by rw [HE.out]; rfl, HS.out.from_⟩
theorem segNo_num {s : ByteArray} {n : Nat} (h2 : 2 ≤ s.size) (hd : decOf (ub (s.extract 1 s.size)) = some n) : segNo s = if segNm (n : Int) = s then some n else none := by
  split
  · rename_i e
    by_cases h9 : n ≤ 99
    · rw [← e, segNo_nm h9]
    · exfalso
      have : segNm (n : Int) = ⟨#[]⟩ := by
        unfold segNm
        rw [if_neg (by unfold inR; simp; omega)]
      rw [← e, this] at h2
      exact absurd h2 (by show ¬ 2 ≤ 0; omega)
  · rename_i e
    cases hs : segNo s with
    | none => rfl
    | some m =>
      exfalso
      obtain ⟨h9, hm⟩ := segNo_some hs
      have hu := ub_segNm h9
      rw [← hm] at hu
      have h3 : ub (s.extract 1 s.size) = Lib.itoa (m : Int) := by
        rw [ub_extract, hu, List.drop_succ_cons, List.drop_zero, List.take_of_length_le]
        have := ub_length s
        rw [hu, List.length_cons] at this
        omega
      rw [h3, decOf_some (n := m) (by omega) rfl] at hd
      obtain rfl := Option.some.inj hd
      exact e hm.symm
theorem segNo_nonum {s : ByteArray} (hd : decOf (ub (s.extract 1 s.size)) = none) : segNo s = none := by
  cases hs : segNo s with
  | none => rfl
  | some m =>
    exfalso
    obtain ⟨h9, hm⟩ := segNo_some hs
    have hu := ub_segNm h9
    rw [← hm] at hu
    have h3 : ub (s.extract 1 s.size) = Lib.itoa (m : Int) := by
      rw [ub_extract, hu, List.drop_succ_cons, List.drop_zero, List.take_of_length_le]
      have := ub_length s
      rw [hu, List.length_cons] at this
      omega
    rw [h3, decOf_some (n := m) (by omega) rfl] at hd
    cases hd
theorem segNo_short {s : ByteArray} (h : s.size < 2) : segNo s = none := by
  cases hs : segNo s with
  | none => rfl
  | some m =>
    exfalso
    obtain ⟨h9, hm⟩ := segNo_some hs
    have hu := ub_segNm h9
    rw [← hm] at hu
    have := ub_length s
    rw [hu, List.length_cons] at this
    have h2 : 1 ≤ (Lib.itoa (m : Int)).length := by
      have : ∀ k : Fin 100, 1 ≤ (Lib.itoa ((k : Nat) : Int)).length := by decide +kernel
      exact this ⟨m, by omega⟩
    omega
set_option maxRecDepth 100000 in
theorem spec_l06Number_calls (s : ByteArray) (w : World) (hs : s.size ≤ 140737488351232) :
    Calls Tryz.prog 99 #[.string s] w fun e w' => e = .returned (.int .i64 (noInt (segNo s))) ∧ Below w.heap.size w w' := by
  by_cases h2 : s.size < 2
  · have HE : Hid (segNo s = none) := segNo_short h2
    go_enter Tryz.func99, Tryz.ntmps99
    go_wp2
    go_ret
    exact ⟨by rw [HE.out]; rfl, Below.refl _ _⟩
  · have HXS : Hid ((s.extract 1 s.size).size ≤ 140737488351232) := by rw [Hid, ByteArray.size_extract]; omega
    have h1s : (1 : Int) ≤ (s.size : Int) := by omega
    have h2s : ¬ (s.size : Int) < 2 := by omega
    obtain ⟨n, b, hrd, hy, hn⟩ := rdUni (decOf (ub (s.extract 1 s.size)))
    have HRD := Lib.hid hrd
    have HY := Lib.hid hy
    have HN := Lib.hid hn
    have H2 : Hid (2 ≤ s.size) := by rw [Hid]; omega
    clear hrd hy hn
    go_enter Tryz.func99, Tryz.ntmps99
    go_wp2_with fail
    go_at_call 146
    refine (spec_ReadDecimal_calls (s.extract 1 s.size) _ HXS.out).mono ?_
    rw [HRD.out]
    rintro e w2 ⟨rfl, hb⟩
    have HB := Lib.hid hb
    clear hb
    cases b
    · have HE : Hid (segNo s = none) := segNo_nonum (HN.out rfl)
      go_wp2
      go_ret
      exact ⟨by rw [HE.out]; rfl, HB.out⟩
    · have HQ := Lib.hid (segNo_num H2.out (HY.out rfl))
      go_wp2_with fail
      go_at_call 77
      refine (spec_SegNm_calls (n : Int) _).mono ?_
      rintro e w3 ⟨rfl, hb⟩
      have HB3 := Lib.hid (HB.out.trans (hb.mono HB.out.size))
      clear hb
      obtain ⟨q, hq⟩ : ∃ q, ((segNm (n : Int)).toList == s.toList) = q := ⟨_, rfl⟩
      have hq2 : ((segNm (n : Int)).toList != s.toList) = !q := by rw [← hq]; simp [bne]
      cases q
      · have HE : Hid (segNo s = none) := by
          rw [Hid, HQ.out, if_neg]
          intro e
          rw [e] at hq
          simp at hq
        generalize segNm (n : Int) = sn at hq hq2 ⊢
        clear HQ
        go_wp2
        go_ret
        exact ⟨by rw [HE.out]; rfl, HB3.out⟩
      · have HE : Hid (segNo s = some n) := by
          rw [Hid, HQ.out, if_pos]
          exact toList_inj.1 (by simpa using hq)
        generalize segNm (n : Int) = sn at hq hq2 ⊢
        clear HQ
        go_wp2
        go_ret
        exact ⟨by rw [HE.out]; rfl, HB3.out⟩
set_option maxHeartbeats 4000000 in
set_option maxRecDepth 100000 in
theorem spec_l08Seq_calls (A Al : Option Addr) (c cl BL : Nat) (fs : List FiD) (L : List Nat) (w : World) (h : FiRow w A c fs) (hl : OwnI w BL (.slice Al (L.map Int.ofNat).length cl) (L.map Int.ofNat)) (hd : diskOkB fs = true) (h99 : ∀ n ∈ L, n ≤ 99) (hL : L.length ≤ 1000) :
    Calls Tryz.prog 55 #[.agg #[.slice A fs.length c], .slice Al L.length cl] w fun e w' => e = .returned (.int .i64 (L.foldl (seqStep fs) 0)) ∧ Below w.heap.size w w' := by
  have HF := Lib.hid h
  have HL := Lib.hid hl
  have HDK := Lib.hid hd
  have H99 := Lib.hid h99
  have HV := Lib.hid (vd_start w A fs.length c)
  clear h hl hd h99
  go_enter Tryz.func55, Tryz.ntmps55
  go_wp2
  go_loopw [5, 6] (fun qv iv wr => ∃ (i : Nat) (q : Int), i ≤ L.length ∧ iv = .int .i64 (i : Int) ∧ qv = .int .i64 q ∧ Hid (q = (L.take i).foldl (seqStep fs) 0) ∧ Hid (VD w A fs.length c wr)) (fun _ iv _ => L.length - (intOf iv).toNat)
  case atStart => exact ⟨0, 0, Nat.zero_le _, rfl, rfl, rfl, HV⟩
  case round =>
    clear HV
    obtain ⟨i, q, hi, rfl, rfl, HQ, HS⟩ := hrel
    by_cases hlt : i < L.length
    · obtain ⟨m, hm⟩ : ∃ m, L[i]? = some m := ⟨_, List.getElem?_eq_getElem hlt⟩
      obtain ⟨b1, hA1, hc1⟩ := (HL.out.below HS.out.from_).at_ (j := i) (x := (m : Int)) (by rw [List.getElem?_map, hm]; rfl)
      subst hA1
      have HM := Lib.hid hm
      have HSD := Lib.hid HS.out.drew
      have HC1 : Hid (∀ W, VD w A fs.length c W → W.cell? ⟨w.heap.size, 0, none⟩ = some (.slice A fs.length c) ∧ W.cell? ⟨b1, i, none⟩ = some (.int .i64 (m : Int)) ∧ Hid (VD w A fs.length c W)) := fun W hW => by
        obtain ⟨b, e, hb⟩ := (HL.out.below hW.from_).at_ (j := i) (x := (m : Int)) (by rw [List.getElem?_map, HM.out]; rfl)
        cases e
        exact ⟨hW.cell, hb, hW⟩
      have hil : (i : Int) < (L.length : Int) := by omega
      have HSTP := Lib.hid (foldl_snoc (seqStep fs) 0 L hm)
      clear hm hc1
      go_wp2_with fail
      go_region_held3 (fun w' => w'.cell? ⟨w.heap.size, 0, none⟩ = some (.slice A fs.length c) ∧ w'.cell? ⟨b1, i, none⟩ = some (.int .i64 (m : Int)) ∧ Hid (VD w A fs.length c w')) (first | exact HC1.out _ HSD.out | exact HC1.out _ (HSD.out.go hb7)) (first | (go_at_call 96; refine (spec_l06Batches_calls A c fs m _ (HF.out.below HSD.out.from_) HDK.out).mono ?_; rintro e w7 ⟨v7, rfl, ho7, hb7⟩))
      have HS7 := (‹_ ∧ _ ∧ Hid (VD w A fs.length c _)›).2.2
      obtain ⟨A7, c7, hv7⟩ := ListC.form ho7
      rw [List.length_map] at hv7
      have HO7 := Lib.hid ho7
      have hbl := bats_len fs m
      clear ho7 hb7
      obtain ⟨kb, hkb⟩ : ∃ kb, (batsAt fs m).length = kb := ⟨_, rfl⟩
      rw [hkb] at hv7 hbl
      subst hv7
      cases kb with
      | zero =>
        have HQ2 : Hid (q = (L.take (i + 1)).foldl (seqStep fs) 0) := by rw [Hid, HSTP.out, seq_none (List.eq_nil_of_length_eq_zero hkb), ← HQ.out]
        clear hkb
        go_wp2
        go_roundw
        case rel => first | exact ⟨i + 1, q, by omega, by go_num, rfl, HQ2, HS7⟩ | (repeat (first | (refine ⟨?relx, rfl⟩; exact ⟨i + 1, q, by omega, by go_num, rfl, HQ2, HS7⟩) | (refine ⟨?relx, ?eqs⟩; (case eqs => (and_intros <;> rfl)); exact ⟨i + 1, q, by omega, by go_num, rfl, HQ2, HS7⟩) | apply Exists.intro))
        case measure => simp [intOf]; omega
      | succ kb =>
        obtain ⟨⟨⟨sq', cs⟩, pa, pz⟩, hp⟩ : ∃ p, (batsAt fs m)[kb]? = some p := ⟨_, List.getElem?_eq_getElem (by omega)⟩
        have HQ2 : Hid (sq' = (L.take (i + 1)).foldl (seqStep fs) 0) := by rw [Hid, HSTP.out, seq_some hkb hp]
        obtain ⟨g, u, hA8, hcc, hu, hsm⟩ := ListC.at_ (x := (sq', cs)) HO7.out (fun _ => rfl) (j := kb) (by rw [List.getElem?_map, hp]; rfl)
        cases hA8
        have k0 := hcc 0 (by omega)
        simp only [batVals, Nat.add_zero, List.getElem?_cons_zero] at k0
        have hkb1 : kb ≤ 20000 := by omega
        clear hkb hp hcc hu hsm
        go_wp2
        go_roundw
        case rel => first | exact ⟨i + 1, sq', by omega, by go_num, rfl, HQ2, HS7⟩ | (repeat (first | (refine ⟨?relx, rfl⟩; exact ⟨i + 1, sq', by omega, by go_num, rfl, HQ2, HS7⟩) | (refine ⟨?relx, ?eqs⟩; (case eqs => (and_intros <;> rfl)); exact ⟨i + 1, sq', by omega, by go_num, rfl, HQ2, HS7⟩) | apply Exists.intro))
        case measure => simp [intOf]; omega
    · obtain rfl : i = L.length := by omega
      rw [List.take_length] at HQ
      go_wp2
      go_ret
      exact ⟨congrArg (fun x => Ending.returned (Value.int .i64 x)) HQ.out, HS.out.from_⟩
end Go.Proofs.YtaacpdejpcbbbaaGreatDoor

namespace Go.Proofs.YtaacpdejpcbbbaaGreatDoor
set_option linter.unusedVariables false
set_option linter.unusedSimpArgs false
open Go.RowKit
attribute [local go_sem] bs_size List.length_cons List.length_nil

def ActsOf (w : World) (o : Option (List ActD)) (e : Ending) (w' : World) : Prop := ∃ v, e = .returned (.tuple #[v, .bool o.isSome]) ∧ AcOwn w' w.heap.size v (o.getD []) ∧ Below w.heap.size w w'
theorem cLow_none {a : Nat} {x : FiD} (h : segNo x.1 = none) : cLow a x = [] := by unfold cLow; rw [h]
theorem cLow_in {a : Nat} {x : FiD} {n : Nat} (h : segNo x.1 = some n) (hn : ¬ n < a) : cLow a x = [] := by unfold cLow; rw [h]; exact if_neg hn
theorem cLow_out {a : Nat} {x : FiD} {n : Nat} (h : segNo x.1 = some n) (hn : n < a) : cLow a x = [dropA x.1] := by unfold cLow; rw [h]; exact if_pos hn
theorem ac_push3' {w : World} {B g n cap : Nat} {F : List ActD} {a1 a2 a3 : ActD} (h : w.ownsRow B 96 4 (.slice (some ⟨g, 0, none⟩) n cap) n (acFlat F ++ (acVals a1 ++ (acVals a2 ++ acVals a3)))) (hn : n = F.length + 3) : AcOwn w B (.slice (some ⟨g, 0, none⟩) n cap) (F ++ [a1, a2, a3]) := by
  subst hn
  rw [AcOwn, acFlat_app, List.length_append]
  simpa [acFlat] using h
theorem ac_empty (w : World) {B : Nat} (hB : B ≤ w.heap.size) : AcOwn (w.alloc (.cells #[] 96)) B (.slice (some ⟨w.heap.size, 0, none⟩) 0 0) [] := World.ownsRow_made (w := w) #[] 0 hB (Nat.zero_le _) rfl
set_option maxHeartbeats 16000000 in
set_option maxRecDepth 100000 in
theorem spec_l08Acts_calls (A Al : Option Addr) (c cl BL kl a : Nat) (fs : List FiD) (L : List Nat) (w : World) (h : FiRow w A c fs) (hl : OwnI w BL (.slice Al (kl + 1) cl) (L.map Int.ofNat)) (hkl : L.length = kl + 1) (ha : L[0]? = some a) (hd : diskOkB fs = true) (h99 : ∀ n ∈ L, n ≤ 99) (hinc : L.Pairwise (· < ·)) (hk99 : kl ≤ 99) :
    Calls Tryz.prog 52 #[.agg #[.slice A fs.length c], .slice Al (kl + 1) cl] w (ActsOf w ((tornGo fs (L.getLast?.getD 0) L).map (((if (fileB fs newNm).isSome = true then [dropA newNm] else []) ++ fs.flatMap (cLow a)) ++ ·))) := by
  obtain ⟨i0, hi0, hz, hsz0, hby⟩ := info_parts info_ac
  have HR := Lib.hid h
  have HL := Lib.hid hl
  have HDK := Lib.hid hd
  have H99 := Lib.hid h99
  have HINC := Lib.hid hinc
  have HKL := Lib.hid hkl
  have HA0 := Lib.hid ha
  have hfl30 := diskOk_l30 hd
  have HLAST : Hid (∀ i n, L[i]? = some n → (n = L.getLast?.getD 0 ↔ i + 1 = kl + 1)) := fun i n hn => by rw [← hkl]; exact last_iff hinc hn
  generalize L.getLast?.getD 0 = la at HLAST ⊢
  obtain ⟨b0, hA0, hc00⟩ := hl.at_ (j := 0) (x := (a : Int)) (by rw [List.getElem?_map, ha]; rfl)
  subst hA0
  have HL0 := Lib.hid hc00
  have HS0 : Hid (CLX w A fs.length c (.slice (some ⟨w.heap.size + 1, 0, none⟩) 0 0) [] ((w.alloc (.cells #[.slice A fs.length c] 32)).alloc (.cells #[] 96))) := by
    have hz1 : (w.alloc (.cells #[.slice A fs.length c] 32)).heap.size = w.heap.size + 1 := by simp
    have h2 := ac_empty (w.alloc (.cells #[.slice A fs.length c] 32)) (B := w.heap.size + 1) (by omega)
    rw [hz1] at h2
    exact ⟨((Below.refl _ _).alloc (Nat.le_refl _) _).alloc (by simp) _, gr_old (blk_new w _) _, h2⟩
  have p0 := blk_cell HS0.out.bx 0
  obtain ⟨N, hN⟩ : ∃ N, N = (if (fileB fs newNm).isSome = true then [dropA newNm] else []) := ⟨_, rfl⟩
  rw [← hN]
  have HN := Lib.hid hN
  have hN1 : N.length ≤ 1 := by rw [hN]; split <;> simp
  clear h hl hd h99 hinc hkl ha hc00 hN
  go_enter Tryz.func52, Tryz.ntmps52
  go_wp2_with fail
  go_at_call 97
  refine (spec_l03At_calls newNm A c fs _ (HR.out.below HS0.out.b)).mono ?_
  rintro e w1 ⟨r, rfl, hr, hb⟩
  have HS1 := Lib.hid (HS0.out.go hb)
  clear p0 hb HS0
  rcases hr with ⟨j, x, e, hj, hx, hf⟩ | ⟨e, hf⟩
  case' inl =>
    subst e
    have HNE : Hid (N = [] ++ [dropA newNm]) := by rw [Hid, HN.out, hf]; rfl
    have HS2 := Lib.hid (HS1.out.alloc (.cells #[.int .i64 4, .string ⟨#[109, 43]⟩, .string ⟨#[]⟩, .string ⟨#[]⟩] 96))
    have HOWN := Lib.hid HS2.out.own
    have HBASE := Lib.hid HS2.out.base
    have HNEWS : Hid (∀ j u, (acVals (dropA newNm))[j]? = some u → (w1.alloc (.cells #[.int .i64 4, .string ⟨#[109, 43]⟩, .string ⟨#[]⟩, .string ⟨#[]⟩] 96)).cell? ((⟨w1.heap.size, 0, none⟩ : Addr).add j) = some u) := World.news_of_block (heap_alloc_new _ _)
    clear hj hx hf HS1
    go_wp2_with (at_builtin; refine wpList_append_lies _ rfl _ _ _ rfl (w.heap.size + 1) 96 i0 (.agg #[.int .i64 0, .string ⟨#[]⟩, .string ⟨#[]⟩, .string ⟨#[]⟩]) 4 56 Tryz.underlying44 hi0 hz hsz0 hby rfl (by omega) (.slice (some ⟨w.heap.size + 1, 0, none⟩) 0 0) 0 (acFlat []) rfl HOWN.out ⟨w1.heap.size, 0, none⟩ 1 1 (acVals (dropA newNm)) rfl rfl HNEWS.out (acVals_one1 _) (by omega) (by unfold maxLen; omega) (by omega) HBASE.out _ rfl ?_; intro gg cap wq hown hgrow hat hlt; have HS3 : Hid (CLX w A fs.length c (.slice (some ⟨gg, 0, none⟩) (0 + 1) cap) N wq) := (by rw [HNE.out]; exact HS2.out.app hgrow (ac_push hown rfl)); clear hown hgrow hat hlt)
    clear HS2 HOWN HBASE HNEWS HNE
  case' inr =>
    subst e
    have HS3 : Hid (CLX w A fs.length c (.slice (some ⟨w.heap.size + 1, 0, none⟩) 0 0) N w1) := by
      have : N = [] := by rw [HN.out, hf]; rfl
      rw [this]
      exact HS1.out
    clear hf HS1
    go_wp2
  all_goals
    go_loopw [6, 7] (fun ov iv wr => ∃ i : Nat, i ≤ fs.length ∧ iv = .int .i64 (i : Int) ∧ Hid (CLX w A fs.length c ov (N ++ (fs.take i).flatMap (cLow a)) wr)) (fun _ iv _ => fs.length - (intOf iv).toNat)
    case atStart => exact ⟨0, Nat.zero_le _, rfl, by simpa using HS3⟩
    case round =>
      clear HS3
      obtain ⟨i, hi, rfl, HS⟩ := hrel
      rename World => w2
      have HFL2 := Lib.hid (Nat.le_trans (fm_len (cLow a) (cLow_len a) (fs.take i)) (List.length_take_le _ _))
      have p0 := blk_cell HS.out.bx 0
      by_cases hlt : i < fs.length
      · obtain ⟨ad, x, hA, HX, hz1, hz2, hc0, hc1, hc2⟩ := (HR.out.below HS.out.b).at_ (k := i) hlt
        cases hA
        obtain ⟨n, t, k⟩ := x
        dsimp only at hz1 hz2 hc0 hc1 hc2
        have HST := Lib.hid (flat_step (cLow a) HX.out)
        have HNS : Hid (n.size ≤ 140737488351232) := by have := (diskOk_small HDK.out (List.mem_of_getElem? HX.out)).2; rw [Hid]; dsimp only at this; omega
        have hli : (i : Int) < (fs.length : Int) := by omega
        go_wp2_with fail
        go_at_call 99
        refine (spec_l06Number_calls n _ HNS.out).mono ?_
        rintro e w3 ⟨rfl, hb3⟩
        have HS3 := Lib.hid (HS.out.go hb3)
        have hc0' : w3.cell? (ad.add (i * 3)) = some (.string n) := (hb3.cell (World.block_lt_of_cell? _ _ hc0)).trans hc0
        have l0 : w3.cell? ⟨b0, 0, none⟩ = some (.int .i64 (a : Int)) := (HS3.out.b.cell (World.block_lt_of_cell? _ _ HL0.out)).trans HL0.out
        obtain ⟨o, ho⟩ : ∃ o, segNo n = o := ⟨_, rfl⟩
        rw [ho]
        have HO := Lib.hid ho
        clear hb3 ho HS p0 hc0 hc1 hc2
        have p0 := blk_cell HS3.out.bx 0
        cases o with
        | none =>
          have HE : Hid (N ++ (fs.take (i + 1)).flatMap (cLow a) = N ++ (fs.take i).flatMap (cLow a)) := by rw [Hid, HST.out, cLow_none (x := (n, t, k)) HO.out, List.append_nil]
          simp only [noInt]
          go_wp2
          go_roundw
          case rel => first | exact ⟨i + 1, by omega, by go_num, by rw [HE.out]; exact HS3⟩ | (repeat (first | (refine ⟨?relx, rfl⟩; exact ⟨i + 1, by omega, by go_num, by rw [HE.out]; exact HS3⟩) | (refine ⟨?relx, ?eqs⟩; (case eqs => (and_intros <;> rfl)); exact ⟨i + 1, by omega, by go_num, by rw [HE.out]; exact HS3⟩) | apply Exists.intro))
          case measure => simp [intOf]; omega
        | some m =>
          simp only [noInt]
          have hm0 : (0 : Int) ≤ (m : Int) := by omega
          by_cases hma : m < a
          · have HE : Hid (N ++ (fs.take (i + 1)).flatMap (cLow a) = (N ++ (fs.take i).flatMap (cLow a)) ++ [dropA n]) := by rw [Hid, HST.out, cLow_out (x := (n, t, k)) HO.out hma, List.append_assoc]
            obtain ⟨A2, c2, e2⟩ := HS3.out.own.form
            subst e2
            have hfl2 : (N ++ (fs.take i).flatMap (cLow a)).length ≤ 1 + i := by rw [List.length_append]; have := HFL2.out; omega
            generalize (N ++ (fs.take i).flatMap (cLow a)) = F at HS3 HE hfl2 ⊢
            have hmi : (m : Int) < (a : Int) := by omega
            have HS5 := Lib.hid (HS3.out.alloc (.cells #[.int .i64 4, .string n, .string ⟨#[]⟩, .string ⟨#[]⟩] 96))
            have HOWN := Lib.hid HS5.out.own
            have HBASE := Lib.hid HS5.out.base
            have HNEWS : Hid (∀ j u, (acVals (dropA n))[j]? = some u → (w3.alloc (.cells #[.int .i64 4, .string n, .string ⟨#[]⟩, .string ⟨#[]⟩] 96)).cell? ((⟨w3.heap.size, 0, none⟩ : Addr).add j) = some u) := World.news_of_block (heap_alloc_new _ _)
            clear HS3
            go_wp2_with (at_builtin; refine wpList_append_lies _ rfl _ _ _ rfl (w.heap.size + 1) 96 i0 (.agg #[.int .i64 0, .string ⟨#[]⟩, .string ⟨#[]⟩, .string ⟨#[]⟩]) 4 56 Tryz.underlying44 hi0 hz hsz0 hby rfl (by omega) (.slice A2 F.length c2) F.length (acFlat F) rfl HOWN.out ⟨w3.heap.size, 0, none⟩ 1 1 (acVals (dropA n)) rfl rfl HNEWS.out (acVals_one1 _) (by omega) (by unfold maxLen; omega) (by omega) HBASE.out _ rfl ?_; intro gg cap wq hown hgrow hat hlt; have HS6 := Lib.hid (HS5.out.app hgrow (ac_push hown rfl)); clear hown hgrow hat hlt)
            go_roundw
            case rel => first | exact ⟨i + 1, by omega, by go_num, by rw [HE.out]; exact HS6⟩ | (repeat (first | (refine ⟨?relx, rfl⟩; exact ⟨i + 1, by omega, by go_num, by rw [HE.out]; exact HS6⟩) | (refine ⟨?relx, ?eqs⟩; (case eqs => (and_intros <;> rfl)); exact ⟨i + 1, by omega, by go_num, by rw [HE.out]; exact HS6⟩) | apply Exists.intro))
            case measure => simp [intOf]; omega
          · have HE : Hid (N ++ (fs.take (i + 1)).flatMap (cLow a) = N ++ (fs.take i).flatMap (cLow a)) := by rw [Hid, HST.out, cLow_in (x := (n, t, k)) HO.out hma, List.append_nil]
            have hmi : ¬ (m : Int) < (a : Int) := by omega
            go_wp2
            go_roundw
            case rel => first | exact ⟨i + 1, by omega, by go_num, by rw [HE.out]; exact HS3⟩ | (repeat (first | (refine ⟨?relx, rfl⟩; exact ⟨i + 1, by omega, by go_num, by rw [HE.out]; exact HS3⟩) | (refine ⟨?relx, ?eqs⟩; (case eqs => (and_intros <;> rfl)); exact ⟨i + 1, by omega, by go_num, by rw [HE.out]; exact HS3⟩) | apply Exists.intro))
            case measure => simp [intOf]; omega
      · obtain rfl : i = fs.length := by omega
        rw [List.take_length] at HS HFL2
        have hC : (N ++ fs.flatMap (cLow a)).length ≤ 31 := by rw [List.length_append]; have := HFL2.out; omega
        obtain ⟨C, hCE⟩ : ∃ C, N ++ fs.flatMap (cLow a) = C := ⟨_, rfl⟩
        rw [hCE] at HS hC
        have HCE := Lib.hid hCE
        clear hCE
        clear HFL2
        go_wp2
        clear p0
        go_loopw [6, 9] (fun ov iv wr => ∃ (i : Nat) (acs F : List ActD), i ≤ kl + 1 ∧ iv = .int .i64 (i : Int) ∧ Hid (TornAt fs la L i acs) ∧ Hid (acs.length ≤ 3 * i) ∧ Hid (F = C ++ acs) ∧ Hid (CLX w A fs.length c ov F wr)) (fun _ iv _ => kl + 1 - (intOf iv).toNat)
        case atStart => exact ⟨0, [], _, Nat.zero_le _, rfl, torn_start _ _ _, Nat.zero_le _, (List.append_nil _).symm, HS⟩
        case round =>
          clear HS
          obtain ⟨i, acs, F, hi, rfl, HT, HL3, HFE, HS⟩ := hrel
          rename World => wr
          obtain ⟨A2, c2, e2⟩ := HS.out.own.form
          subst e2
          have hfl : F.length ≤ 31 + 3 * i := by rw [HFE.out, List.length_append]; have := HL3.out; omega
          by_cases hlt : i < kl + 1
          · obtain ⟨n, hn⟩ : ∃ n, L[i]? = some n := ⟨_, List.getElem?_eq_getElem (by rw [HKL.out]; omega)⟩
            obtain ⟨b1, hA1, hc1⟩ := (HL.out.below HS.out.b).at_ (j := i) (x := (n : Int)) (by rw [List.getElem?_map, hn]; rfl)
            cases hA1
            have hn99 := H99.out n (List.mem_of_getElem? hn)
            have HNN := Lib.hid hn
            have HLI := Lib.hid (HLAST.out i n hn)
            obtain ⟨t, ht⟩ : ∃ t, textAt fs n = t := ⟨_, rfl⟩
            have hts : t.size ≤ 20000 := by rw [← ht]; exact get_small HDK.out
            obtain ⟨f, okp, hsu, hbl⟩ := segU fs n t ht
            have HSU := Lib.hid hsu
            have HTX := Lib.hid ht
            have HEL : Hid (endAt fs n ≤ t.size) := by rw [Hid, ← ht]; exact endAt_le fs n
            have hres := fiRes_get (fileB fs (segNm (n : Int)))
            rw [show (fileB fs (segNm (n : Int))).getD ⟨#[]⟩ = t from ht] at hres
            generalize (fileB fs (segNm (n : Int))).isSome = ob at hres
            have HRES := Lib.hid hres
            have hli : (i : Int) < ((kl + 1 : Nat) : Int) := by omega
            clear hn ht hsu hres
            go_wp2_with fail
            go_at_call 77
            refine (spec_SegNm_calls (n : Int) _).mono ?_
            rintro e w3 ⟨rfl, hb3⟩
            have HS3 := Lib.hid (HS.out.go hb3)
            clear hb3 hc1 HS
            have p0 := blk_cell HS3.out.bx 0
            go_wp2_with fail
            go_at_call 76
            refine (spec_FileAt_calls (segNm (n : Int)) A c fs _ (HR.out.below HS3.out.b)).mono ?_
            rw [HRES.out]
            rintro e w4 ⟨rfl, hb4⟩
            have HS4 := Lib.hid (HS3.out.go hb4)
            clear hb4 p0 HS3
            have hc1 : w4.cell? ⟨b0, i, none⟩ = some (.int .i64 (n : Int)) := by
              obtain ⟨b2, e, h⟩ := (HL.out.below HS4.out.b).at_ (j := i) (x := (n : Int)) (by rw [List.getElem?_map, HNN.out]; rfl)
              cases e
              exact h
            go_wp2_with fail
            go_at_call 98
            refine (spec_ReadSegment_calls (n : Int) t _ (by omega)).mono ?_
            rintro e w8 hp
            obtain ⟨v8, rfl, ho8, hb8⟩ := HSU.out _ _ _ hp
            have HS8 := Lib.hid (HS4.out.go hb8)
            clear hp ho8 hb8 HSU HS4 hc1
            by_cases hw : endAt fs n = t.size
            · have HT2 := Lib.hid (torn_whole HT.out HNN.out (hw.trans (congrArg ByteArray.size HTX.out).symm))
              have e1 : ((endAt fs n : Int) == (t.size : Int)) = true := by rw [hw]; simp
              have e2 : (endAt fs n == t.size) = true := by rw [hw]; simp
              have HL4 : Hid (acs.length ≤ 3 * (i + 1)) := by rw [Hid]; have := HL3.out; omega
              clear hw
              go_wp2
              go_roundw
              case rel => first | exact ⟨i + 1, acs, F, by omega, by go_num, HT2, HL4, HFE, HS8⟩ | (repeat (first | (refine ⟨?relx, rfl⟩; exact ⟨i + 1, acs, F, by omega, by go_num, HT2, HL4, HFE, HS8⟩) | (refine ⟨?relx, ?eqs⟩; (case eqs => (and_intros <;> rfl)); exact ⟨i + 1, acs, F, by omega, by go_num, HT2, HL4, HFE, HS8⟩) | apply Exists.intro))
              case measure => simp [intOf]; omega
            · have HW := Lib.hid (fun (e : endAt fs n = (textAt fs n).size) => hw (e.trans (congrArg ByteArray.size HTX.out)))
              have e1 : ((endAt fs n : Int) == (t.size : Int)) = false := by rw [beq_eq_false_iff_ne]; omega
              have e2 : (endAt fs n == t.size) = false := by rw [beq_eq_false_iff_ne]; exact hw
              by_cases hla : i = kl
              · have HT2 := Lib.hid (torn_last HT.out HNN.out HW.out (HLI.out.2 (by omega)))
                have HT3 : Hid (torn3 fs n = [(1, newNm, t.extract 0 (endAt fs n), ⟨#[]⟩), (2, newNm, ⟨#[]⟩, ⟨#[]⟩), (3, newNm, ⟨#[]⟩, segNm (n : Int))]) := by
                  rw [Hid]
                  unfold torn3
                  rw [HTX.out]
                have HL4 : Hid ((acs ++ torn3 fs n).length ≤ 3 * (i + 1)) := by rw [Hid, List.length_append]; have h1 := HL3.out; have h2 : (torn3 fs n).length = 3 := rfl; omega
                have HFE2 : Hid (F ++ [(1, newNm, t.extract 0 (endAt fs n), ⟨#[]⟩), (2, newNm, ⟨#[]⟩, ⟨#[]⟩), (3, newNm, ⟨#[]⟩, segNm (n : Int))] = C ++ (acs ++ torn3 fs n)) := by rw [Hid, HFE.out, HT3.out, List.append_assoc]
                have hel : (endAt fs n : Int) ≤ (t.size : Int) := by have := HEL.out; omega
                have he0 : (0 : Int) ≤ (endAt fs n : Int) := by omega
                have hi1 : ¬ ((i : Int) + 1 < (kl : Int) + 1) := by omega
                have HSY := Lib.hid (HS8.out.alloc (.cells #[.int .i64 1, .string ⟨#[109, 43]⟩, .string (t.extract 0 (endAt fs n)), .string ⟨#[]⟩, .int .i64 2, .string ⟨#[109, 43]⟩, .string ⟨#[]⟩, .string ⟨#[]⟩, .int .i64 3, .string ⟨#[109, 43]⟩, .string ⟨#[]⟩, .string (segNm (n : Int))] 96))
                have HOWN := Lib.hid HSY.out.own
                have HBASE := Lib.hid HSY.out.base
                have HNEWS : Hid (∀ j u, (acVals (1, newNm, t.extract 0 (endAt fs n), ⟨#[]⟩) ++ (acVals (2, newNm, ⟨#[]⟩, ⟨#[]⟩) ++ acVals (3, newNm, ⟨#[]⟩, segNm (n : Int))))[j]? = some u → (w8.alloc (.cells #[.int .i64 1, .string ⟨#[109, 43]⟩, .string (t.extract 0 (endAt fs n)), .string ⟨#[]⟩, .int .i64 2, .string ⟨#[109, 43]⟩, .string ⟨#[]⟩, .string ⟨#[]⟩, .int .i64 3, .string ⟨#[109, 43]⟩, .string ⟨#[]⟩, .string (segNm (n : Int))] 96)).cell? ((⟨w8.heap.size, 0, none⟩ : Addr).add j) = some u) := World.news_of_block (heap_alloc_new w8 _)
                clear hw
                go_wp2_with (at_builtin; refine wpList_append_lies _ rfl _ _ _ rfl (w.heap.size + 1) 96 i0 (.agg #[.int .i64 0, .string ⟨#[]⟩, .string ⟨#[]⟩, .string ⟨#[]⟩]) 4 56 Tryz.underlying44 hi0 hz hsz0 hby rfl (by omega) (.slice A2 F.length c2) F.length (acFlat F) rfl HOWN.out ⟨w8.heap.size, 0, none⟩ 3 3 (acVals (1, newNm, t.extract 0 (endAt fs n), ⟨#[]⟩) ++ (acVals (2, newNm, ⟨#[]⟩, ⟨#[]⟩) ++ acVals (3, newNm, ⟨#[]⟩, segNm (n : Int)))) rfl rfl HNEWS.out (by simp [Value.oneCell', acVals]) (by omega) (by unfold maxLen; omega) (by omega) HBASE.out _ rfl ?_; intro gg cap wq hown hgrow hat hlt; have HS9 := Lib.hid (HSY.out.app hgrow (ac_push3' hown rfl)); clear hown hgrow hat hlt)
                go_roundw
                case rel => first | exact ⟨i + 1, acs ++ torn3 fs n, _, by omega, by go_num, HT2, HL4, HFE2, HS9⟩ | (repeat (first | (refine ⟨?relx, rfl⟩; exact ⟨i + 1, acs ++ torn3 fs n, _, by omega, by go_num, HT2, HL4, HFE2, HS9⟩) | (refine ⟨?relx, ?eqs⟩; (case eqs => (and_intros <;> rfl)); exact ⟨i + 1, acs ++ torn3 fs n, _, by omega, by go_num, HT2, HL4, HFE2, HS9⟩) | apply Exists.intro))
                case measure => simp [intOf]; omega
              · have HB := Lib.hid (torn_bad HT.out HNN.out HW.out (fun e => hla (by have := HLI.out.1 e; omega)))
                have hi1 : (i : Int) + 1 < (kl : Int) + 1 := by omega
                have HEM := Lib.hid (ac_empty w8 HS8.out.b.size)
                have HBB := Lib.hid (HS8.out.b.alloc HS8.out.b.size (.cells #[] 96))
                clear hw
                go_wp2
                go_ret2
                exact ⟨_, by rw [HB.out]; rfl, by rw [HB.out]; exact HEM.out, HBB.out⟩
          · obtain rfl : i = kl + 1 := by omega
            have HE1 := Lib.hid (torn_end HT.out (by rw [HKL.out]; exact Nat.le_refl _))
            have HE2 : Hid ((tornGo fs la L).map ((N ++ fs.flatMap (cLow a)) ++ ·) = some F) := by rw [Hid, HE1.out, HFE.out, HCE.out]; rfl
            have HO := Lib.hid (AcOwn.mono HS.out.own (B' := w.heap.size) (by omega))
            go_wp2
            go_ret2
            exact ⟨_, by rw [HE2.out]; rfl, by rw [HE2.out]; exact HO.out, HS.out.b⟩
end Go.Proofs.YtaacpdejpcbbbaaGreatDoor

namespace Go.Proofs.YtaacpdejpcbbbaaGreatDoor
set_option linter.unusedVariables false
set_option linter.unusedSimpArgs false
open Go.RowKit
attribute [local go_sem] bs_size List.length_cons List.length_nil

/-- The disk's box, the result's box, the row of no act. -/
structure SA (w : World) (A : Option Addr) (n c : Nat) (W : World) : Prop where
  b : Below w.heap.size w W
  d : W.heap[w.heap.size]? = some (.cells #[.slice A n c] 32 (0, 0))
  r : W.heap[w.heap.size + 1]? = some (engO (.slice none 0 0) 0 0 0 (.slice none 0 0))
  no : AcOwn W w.heap.size (.slice (some ⟨w.heap.size + 2, 0, none⟩) 0 0) []
section
variable {w W W' : World} {A : Option Addr} {n c : Nat}
theorem SA.go (h : SA w A n c W) (hb : Below W.heap.size W W') : SA w A n c W' := ⟨h.b.trans (hb.mono h.b.size), blk_below h.d hb, blk_below h.r hb, h.no.below hb⟩
theorem SA.size (h : SA w A n c W) : w.heap.size + 2 ≤ W.heap.size := blk_lt h.r
theorem SA.res (h : SA w A n c W) : W.cell? ⟨w.heap.size + 1, 0, none⟩ = some (.slice none 0 0) ∧ W.cell? ⟨w.heap.size + 1, 1, none⟩ = some (.int .i64 0) ∧ W.cell? ⟨w.heap.size + 1, 2, none⟩ = some (.int .i64 0) ∧ W.cell? ⟨w.heap.size + 1, 3, none⟩ = some (.int .i64 0) ∧ W.cell? ⟨w.heap.size + 1, 4, none⟩ = some (.slice none 0 0) ∧
    W.frozen? ⟨w.heap.size + 1, 0, none⟩ = false ∧ W.frozen? ⟨w.heap.size + 1, 1, none⟩ = false ∧ W.frozen? ⟨w.heap.size + 1, 2, none⟩ = false ∧ W.frozen? ⟨w.heap.size + 1, 3, none⟩ = false ∧ W.frozen? ⟨w.heap.size + 1, 4, none⟩ = false :=
  ⟨blk_cell h.r 0, blk_cell h.r 1, blk_cell h.r 2, blk_cell h.r 3, blk_cell h.r 4, blk_frozen h.r 0, blk_frozen h.r 1, blk_frozen h.r 2, blk_frozen h.r 3, blk_frozen h.r 4⟩
end
theorem sa_start (w : World) (A : Option Addr) (n c : Nat) : SA w A n c (((w.alloc (.cells #[.slice A n c] 32)).alloc (engO (.slice none 0 0) 0 0 0 (.slice none 0 0))).alloc (.cells #[] 96)) := by
  have h1 : (w.alloc (.cells #[.slice A n c] 32)).heap.size = w.heap.size + 1 := by simp
  have h2 : ((w.alloc (.cells #[.slice A n c] 32)).alloc (engO (.slice none 0 0) 0 0 0 (.slice none 0 0))).heap.size = w.heap.size + 2 := by simp
  refine ⟨(((Below.refl _ _).alloc (Nat.le_refl _) _).alloc (by simp) _).alloc (by simp; omega) _, gr_old (gr_old (blk_new w _) _) _, ?_, ?_⟩
  · have := blk_new (w.alloc (.cells #[.slice A n c] 32)) (engO (.slice none 0 0) 0 0 0 (.slice none 0 0))
    rw [h1] at this
    exact gr_old this _
  · have := ac_empty ((w.alloc (.cells #[.slice A n c] 32)).alloc (engO (.slice none 0 0) 0 0 0 (.slice none 0 0))) (B := w.heap.size) (by omega)
    rwa [h2] at this
theorem sopen_bad {fn : Func} {w W : World} {A : Option Addr} {n c : Nat} {o : Option (EngD × List ActD)} {tmps : Array Value} (hf : fn.results = #[.cell 4 35, .tmp 5, .tmp 6]) (h : SA w A n c W) (ho : o = none) (hp : tmps.getD 4 undef = .pointer (some ⟨w.heap.size + 1, 0, none⟩)) (h5 : tmps.getD 5 undef = .slice (some ⟨w.heap.size + 2, 0, none⟩) 0 0) (h6 : tmps.getD 6 undef = .bool false) :
    bodyPost Tryz.prog fn (OpenPost w o) .ret ⟨tmps, []⟩ (set5 W (w.heap.size + 1) (.slice none 0 0) (.int .i64 0) (.int .i64 0) (.int .i64 0) (.slice none 0 0)) := by
  subst ho
  obtain ⟨fx, hu⟩ := und_eng
  have hg := set5_grown W (w.heap.size + 1) (.slice none 0 0) (.int .i64 0) (.int .i64 0) (.int .i64 0) (.slice none 0 0)
  exact res_box2 hf (g := w.heap.size + 1) (cs := #[.slice none 0 0, .int .i64 0, .int .i64 0, .int .i64 0, .slice none 0 0]) (set5_blk h.r) hp hu info_eng _ _ h5 h6 ⟨h.b.grown hg h.b.size (fun k e => by cases e; omega), _, rfl, World.ownsRow.kept h.no hg (.inr (own_apart h.no h.r (by decide)))⟩
theorem sopen_good {fn : Func} {w W : World} {A : Option Addr} {n c : Nat} {room act q : Int} {dv av v9 : Value} {ds : List SpotD} {acs : List ActD} {fs9 : List FiD} {o : Option (EngD × List ActD)} {tmps : Array Value} (hf : fn.results = #[.cell 4 35, .tmp 5, .tmp 6])
    (h : SA w A n c W) (ho9 : FiOwn W w.heap.size v9 fs9) (hsp : SpOwn W w.heap.size dv ds) (hac : AcOwn W w.heap.size av acs) (ho : o = some ((fs9, room, act, q, ds), acs)) (hp : tmps.getD 4 undef = .pointer (some ⟨w.heap.size + 1, 0, none⟩)) (h5 : tmps.getD 5 undef = av) (h6 : tmps.getD 6 undef = .bool true) :
    bodyPost Tryz.prog fn (OpenPost w o) .ret ⟨tmps, []⟩ (set5 W (w.heap.size + 1) v9 (.int .i64 room) (.int .i64 act) (.int .i64 q) dv) := by
  subst ho
  obtain ⟨fx, hu⟩ := und_eng
  have hg := set5_grown W (w.heap.size + 1) v9 (.int .i64 room) (.int .i64 act) (.int .i64 q) dv
  have keep : ∀ {B sz n : Nat} {T : TypeId} {v : Value} {fl : List Value}, W.ownsRow B T sz v n fl → 35 ≠ T → (set5 W (w.heap.size + 1) v9 (.int .i64 room) (.int .i64 act) (.int .i64 q) dv).ownsRow B T sz v n fl := fun h1 hT => World.ownsRow.kept h1 hg (.inr (own_apart h1 h.r hT))
  exact res_box2 hf (g := w.heap.size + 1) (cs := #[v9, .int .i64 room, .int .i64 act, .int .i64 q, dv]) (set5_blk h.r) hp hu info_eng _ _ h5 h6 ⟨h.b.grown hg h.b.size (fun k e => by cases e; omega), v9, dv, av, rfl, keep ho9 (by decide), keep hsp (by decide), keep hac (by decide)⟩
theorem open_gto {fs : List FiD} (hd : diskOkB fs = true) : ∀ acs, openActs fs = some acs → ∀ a ∈ acs, a.1 = 3 → inR (a.2.2.2.size : Int) 1 8 = true := by
  have h3 : ∀ (L : List Nat) (act : Nat), (∀ n ∈ L, n ≤ 99) → ∀ acs, tornGo fs act L = some acs → ∀ a ∈ acs, a.1 = 3 → inR (a.2.2.2.size : Int) 1 8 = true := by
    intro L act
    induction L with
    | nil =>
      intro _ acs h a ha
      rw [tornGo] at h
      cases h
      simp at ha
    | cons n r ih =>
      intro hL acs h a ha h3
      rw [tornGo] at h
      split at h
      · exact ih (fun m hm => hL m (by simp [hm])) acs h a ha h3
      · split at h
        · cases hr : tornGo fs act r with
          | none => rw [hr] at h; cases h
          | some acs' =>
            rw [hr] at h
            obtain rfl : torn3 fs n ++ acs' = acs := by simpa using h
            rcases List.mem_append.1 ha with h1 | h1
            · unfold torn3 at h1
              simp only [List.mem_cons, List.not_mem_nil, or_false] at h1
              rcases h1 with rfl | rfl | rfl
              · simp at h3
              · simp at h3
              · exact segNm_sz (hL n (by simp))
            · exact ih (fun m hm => hL m (by simp [hm])) acs' hr a h1 h3
        · cases h
  intro acs h a ha h4
  unfold openActs at h
  cases ht : tornGo fs (lastB fs) (segsB fs) with
  | none => rw [ht] at h; cases h
  | some acs' =>
    rw [ht] at h
    obtain rfl : cleanB fs (segsB fs) ++ acs' = acs := by simpa using h
    rcases List.mem_append.1 ha with h1 | h1
    · exfalso
      have h5 : a.1 = 4 := by
        unfold cleanB at h1
        rcases List.mem_append.1 h1 with h | h
        · obtain ⟨x, _, h⟩ := List.mem_flatMap.1 h
          unfold cNew at h
          split at h
          · obtain rfl := List.mem_singleton.1 h; rfl
          · simp at h
        · obtain ⟨x, _, h⟩ := List.mem_flatMap.1 h
          unfold cOld at h
          split at h
          · simp at h
          · split at h
            · simp at h
            · obtain rfl := List.mem_singleton.1 h; rfl
      omega
    · exact h3 _ _ segs_99 acs' ht a h1 h4
theorem openActs_sh {fs : List FiD} (hd : diskOkB fs = true) : ∀ acs, openActs fs = some acs → ∀ a ∈ acs, ActSh a := by
  intro acs h a ha
  unfold openActs at h
  cases ht : tornGo fs (lastB fs) (segsB fs) with
  | none => rw [ht] at h; cases h
  | some acs' =>
    rw [ht] at h
    obtain rfl : cleanB fs (segsB fs) ++ acs' = acs := by simpa using h
    rcases List.mem_append.1 ha with h1 | h1
    · exact clean_sh hd _ a h1
    · exact torn_sh hd _ _ segs_99 acs' ht a h1
theorem segs_pos {fs : List FiD} {a : Nat} {r : List Nat} (h : segsB fs = a :: r) : 0 < fs.length := by
  have h1 := (segs_lt (n := a) (by rw [h]; simp)).2
  cases fs with
  | nil => simp [hasF, fileB] at h1
  | cons x l => simp
set_option maxHeartbeats 16000000 in
set_option maxRecDepth 100000 in
theorem spec_OpenEngine_calls (b c : Nat) (fs : List FiD) (room : Int) (w : World) (h : FiRow w (some ⟨b, 0, none⟩) c fs) :
    Calls Tryz.prog 20 #[.agg #[.slice (some ⟨b, 0, none⟩) fs.length c], .int .i64 room] w (OpenPost w (openB fs room)) := by
  have HO0 := Lib.hid (sa_start w (some ⟨b, 0, none⟩) fs.length c)
  have HR := Lib.hid h
  obtain ⟨bk, hbk⟩ : ∃ b, inR room 100 20000 = b := ⟨_, rfl⟩
  obtain ⟨ak, hak⟩ : ∃ b, allKeptB fs = b := ⟨_, rfl⟩
  obtain ⟨rk, hrk⟩ : ∃ b, riseB fs = b := ⟨_, rfl⟩
  have HBK := Lib.hid hbk
  have HAK := Lib.hid hak
  have HRK := Lib.hid hrk
  clear h hbk hak hrk
  go_enter Tryz.func20, Tryz.ntmps20
  go_wp2_with fail
  go_at_call 48
  refine (spec_l01In_calls room 100 20000 _).mono ?_
  rw [HBK.out]
  rintro e w1 ⟨rfl, rfl⟩
  generalize ((w.alloc (.cells #[.slice (some ⟨b, 0, none⟩) fs.length c] 32)).alloc (engO (.slice none 0 0) 0 0 0 (.slice none 0 0))).alloc (.cells #[] 96) = W2 at HO0 ⊢
  cases bk
  · have HN := Lib.hid (open_no (fs := fs) (room := room) (by rw [HBK.out]; simp))
    obtain ⟨r0, r1, r2, r3, r4, t0, t1, t2, t3, t4⟩ := HO0.out.res
    go_wp2
    exact sopen_bad rfl HO0.out HN.out rfl rfl rfl
  · have p0 := blk_cell HO0.out.d 0
    go_wp2_with fail
    go_at_call 49
    refine (spec_SeqsRise_calls _ c fs _ (HR.out.below HO0.out.b)).mono ?_
    rw [HRK.out]
    rintro e w3 ⟨rfl, hb3⟩
    have HO3 := Lib.hid (HO0.out.go hb3)
    clear p0 hb3 HO0
    cases rk
    · have HN := Lib.hid (open_no (fs := fs) (room := room) (by rw [HRK.out]; simp))
      obtain ⟨r0, r1, r2, r3, r4, t0, t1, t2, t3, t4⟩ := HO3.out.res
      go_wp2
      exact sopen_bad rfl HO3.out HN.out rfl rfl rfl
    · have p0 := blk_cell HO3.out.d 0
      go_wp2_with fail
      go_at_call 50
      refine (spec_AllKept_calls _ c fs _ (HR.out.below HO3.out.b)).mono ?_
      rw [HAK.out]
      rintro e w4 ⟨rfl, hb4⟩
      have HO4 := Lib.hid (HO3.out.go hb4)
      clear p0 hb4 HO3
      cases ak
      · have HN := Lib.hid (open_no (fs := fs) (room := room) (by rw [HAK.out]; simp))
        obtain ⟨r0, r1, r2, r3, r4, t0, t1, t2, t3, t4⟩ := HO4.out.res
        go_wp2
        exact sopen_bad rfl HO4.out HN.out rfl rfl rfl
      · have p0 := blk_cell HO4.out.d 0
        obtain ⟨a0, l0, hs0⟩ := rise_ne HRK.out
        have hDK : diskOkB fs = true := by have := HAK.out; unfold allKeptB at this; rw [Bool.and_eq_true] at this; exact this.1
        obtain ⟨kl, hkl⟩ : ∃ kl, (segsB fs).length = kl + 1 := ⟨l0.length, by rw [hs0]; rfl⟩
        have hlast : ∀ n, (segsB fs)[kl]? = some n → n = lastB fs := fun n hn => (last_iff (segs_incr fs) hn).2 hkl.symm
        have hfs0 : 0 < fs.length := segs_pos hs0
        have hseq : seqB fs = (segsB fs).foldl (seqStep fs) 0 := rfl
        have hopen := open_yes HBK.out HAK.out HRK.out
        have hsl := segs_len fs
        have hsh := openActs_sh hDK
        have hgt := open_gto hDK
        have hfst : (segsB fs)[0]? = some a0 := by rw [hs0]; rfl
        have HSP := Lib.hid (fun W h1 => spec_Segments_calls (some ⟨b, 0, none⟩) c fs W h1)
        have HDP := Lib.hid (fun W h1 => spec_DirOf_calls (some ⟨b, 0, none⟩) c fs W h1)
        unfold SegsPost at HSP
        unfold DirPost at HDP
        have HAC : Hid (∀ W BL Al cl, FiRow W (some ⟨b, 0, none⟩) c fs → OwnI W BL (.slice Al (kl + 1) cl) ((segsB fs).map Int.ofNat) → Calls Tryz.prog 52 #[.agg #[.slice (some ⟨b, 0, none⟩) fs.length c], .slice Al (kl + 1) cl] W (ActsOf W (openActs fs))) := by
          intro W BL Al cl h1 h2
          have h3 := spec_l08Acts_calls (some ⟨b, 0, none⟩) Al c cl BL kl a0 fs (segsB fs) W h1 h2 hkl hfst hDK segs_99 (segs_incr fs) (by omega)
          unfold openActs
          rw [clean_eq hDK hs0]
          exact h3
        have HSQ : Hid (∀ W BL Al cl, FiRow W (some ⟨b, 0, none⟩) c fs → OwnI W BL (.slice Al (kl + 1) cl) ((segsB fs).map Int.ofNat) → Calls Tryz.prog 55 #[.agg #[.slice (some ⟨b, 0, none⟩) fs.length c], .slice Al (kl + 1) cl] W fun e w' => e = .returned (.int .i64 (seqB fs)) ∧ Below W.heap.size W w') := by
          intro W BL Al cl h1 h2
          have h3 := spec_l08Seq_calls (some ⟨b, 0, none⟩) Al c cl BL fs (segsB fs) W h1 (by rw [List.length_map, hkl]; exact h2) hDK segs_99 (by omega)
          rw [hkl] at h3
          exact h3
        have hdo : ∀ acs r, r = doActsB fs acs → openDo fs room acs = if r.2 < acs.length then none else some ((r.1, room, (lastB fs : Int), seqB fs, dirB fs), acs) := fun acs r e => by subst e; rfl
        generalize segsB fs = L at hkl hlast hseq hsl hfst HSP HDP HAC HSQ
        generalize lastB fs = la at hlast hdo
        generalize seqB fs = sq at hseq hdo HSQ
        generalize openActs fs = oa at hopen hsh hgt HAC
        have HDK := Lib.hid hDK
        have HKL := Lib.hid hkl
        have HLAST := Lib.hid hlast
        have HOP := Lib.hid hopen
        have HSH := Lib.hid hsh
        have HGT := Lib.hid hgt
        have HDO := Lib.hid hdo
        have hdl := dirB_len fs
        have hk99 : kl ≤ 99 := by omega
        clear hs0 hDK hlast hseq hopen hsh hgt hdo hkl hfst
        go_wp2_with fail
        go_at_call 51
        refine (HSP.out _ (HR.out.below HO4.out.b)).mono ?_
        rintro e w5 ⟨v5, rfl, ho5, hb5⟩
        have HO5 := Lib.hid (HO4.out.go hb5)
        obtain ⟨A5, c5, hv5⟩ := ho5.form
        rw [List.length_map, HKL.out] at hv5
        subst hv5
        obtain ⟨nl, hnl⟩ : ∃ nl, L[kl]? = some nl := ⟨_, List.getElem?_eq_getElem (by rw [HKL.out]; omega)⟩
        obtain rfl := HLAST.out nl hnl
        have HNL := Lib.hid hnl
        have HLD5 := Lib.hid (OwnI.mono ho5 (B' := w.heap.size) HO4.out.b.size)
        clear p0 hb5 ho5 hnl HSP HLAST
        have p0 := blk_cell HO5.out.d 0
        go_wp2_with fail
        go_at_call 52
        refine (HAC.out _ _ _ _ (HR.out.below HO5.out.b) HLD5.out).mono ?_
        rintro e w6 ⟨v6, rfl, ho6, hb6⟩
        obtain ⟨A6, c6, hv6⟩ := ho6.form
        subst hv6
        have HO6 := Lib.hid (HO5.out.go hb6)
        have HLD6 := Lib.hid (HLD5.out.below hb6)
        have HA6 := Lib.hid (AcOwn.mono ho6 (B' := w.heap.size) HO5.out.b.size)
        clear p0 hb6 ho6 HAC HLD5
        have HSH2 : Hid (∀ a ∈ oa.getD [], ActSh a) := by
          cases oa with
          | none => intro a ha; simp at ha
          | some acs => exact HSH.out acs rfl
        have HGT2 : Hid (∀ a ∈ oa.getD [], a.1 = 3 → inR (a.2.2.2.size : Int) 1 8 = true) := by
          cases oa with
          | none => intro a ha; simp at ha
          | some acs => exact HGT.out acs rfl
        have HSOME : Hid (oa.isSome = true → oa = some (oa.getD [])) := by
          cases oa with
          | none => intro h; cases h
          | some acs => intro _; rfl
        have HNONE : Hid (oa.isSome = false → openB fs room = none) := fun e => by
          rw [HOP.out]
          cases oa with
          | none => rfl
          | some acs => cases e
        have hopt : oa.isSome = true → openB fs room = openDo fs room (oa.getD []) := fun e => by
          rw [HOP.out]
          cases oa with
          | none => cases e
          | some acs => rfl
        have HOPT := Lib.hid hopt
        clear hopt
        generalize oa.getD [] = F at HA6 HSH2 HGT2 HOPT HSOME ⊢
        generalize oa.isSome = ob at HNONE HOPT HSOME ⊢
        obtain ⟨A7, c7, e7, hra⟩ := HA6.out.row
        cases e7
        have HRA := Lib.hid hra
        obtain ⟨r, hr⟩ : ∃ r, doActsB fs F = r := ⟨_, rfl⟩
        have HDN := Lib.hid (HDO.out F r hr.symm)
        have HRR := Lib.hid hr
        have p0 := blk_cell HO6.out.d 0
        clear hra hr
        go_wp2_with fail
        go_at_call 53
        refine (spec_DoActs_calls b c c6 A6 fs F _ (HR.out.below HO6.out.b) hfs0 HRA.out HSH2.out HGT2.out HDK.out).mono ?_
        rw [HRR.out]
        rintro e w9 ⟨v9, rfl, ho9, hb9⟩
        obtain ⟨A9, c9, hv9⟩ := ho9.form
        subst hv9
        have HAL9 : Hid (Below w9.heap.size w9 (w9.alloc (.cells #[.slice A9 r.1.length c9] 32))) := (Below.refl _ _).alloc (Nat.le_refl _) _
        have HO9 := Lib.hid ((HO6.out.go hb9).go HAL9.out)
        have HF9 := Lib.hid ((FiOwn.mono ho9 (B' := w.heap.size) HO6.out.b.size).below HAL9.out)
        have HLD9 := Lib.hid ((HLD6.out.below hb9).below HAL9.out)
        have HA9 := Lib.hid ((HA6.out.below hb9).below HAL9.out)
        have HX9 : Hid ((w9.alloc (.cells #[.slice A9 r.1.length c9] 32)).heap[w9.heap.size]? = some (.cells #[.slice A9 r.1.length c9] 32 (0, 0))) := blk_new w9 _
        clear p0 hb9 ho9 HLD6 HA6 HRA
        cases ob
        · obtain ⟨r0, r1, r2, r3, r4, t0, t1, t2, t3, t4⟩ := HO9.out.res
          have HN := Lib.hid (HNONE.out rfl)
          go_wp2
          exact sopen_bad rfl HO9.out HN.out rfl rfl rfl
        · by_cases hlt9 : r.2 < F.length
          · have HNO : Hid (openB fs room = none) := by rw [Hid, HOPT.out rfl, HDN.out, if_pos hlt9]
            obtain ⟨r0, r1, r2, r3, r4, t0, t1, t2, t3, t4⟩ := HO9.out.res
            have hl1 : (r.2 : Int) < (F.length : Int) := by omega
            go_wp2
            exact sopen_bad rfl HO9.out HNO.out rfl rfl rfl
          · have HYES : Hid (openB fs room = some ((r.1, room, (nl : Int), sq, dirB fs), F)) := by rw [Hid, HOPT.out rfl, HDN.out, if_neg hlt9]
            have hl1 : ¬ (r.2 : Int) < (F.length : Int) := by omega
            have p0 := blk_cell HO9.out.d 0
            go_wp2_with fail
            generalize w9.alloc (.cells #[.slice A9 r.1.length c9] 32) = W9 at HO9 HF9 HLD9 HA9 HX9 p0 ⊢
            generalize w9.heap.size = g9 at HX9 ⊢
            go_at_call 54
            refine (HDP.out _ (HR.out.below HO9.out.b)).mono ?_
            rintro e w10 ⟨v10, rfl, ho10, hb10⟩
            obtain ⟨Ad, cd, hv10⟩ := ho10.form
            subst hv10
            have HOA := Lib.hid (HO9.out.go hb10)
            have HFA := Lib.hid (HF9.out.below hb10)
            have HLA := Lib.hid (HLD9.out.below hb10)
            have HAA := Lib.hid (HA9.out.below hb10)
            have HXA := Lib.hid (blk_below HX9.out hb10)
            have HSA := Lib.hid (SpOwn.mono ho10 (B' := w.heap.size) HO9.out.b.size)
            obtain ⟨bl, hA5, hc5⟩ := HLA.out.at_ (j := kl) (x := (nl : Int)) (by rw [List.getElem?_map, HNL.out]; rfl)
            subst hA5
            clear p0 hb10 ho10 HO9 HF9 HLD9 HA9 HX9
            have p0 := blk_cell HOA.out.d 0
            have x0 := blk_cell HXA.out 0
            have hk1 : (kl : Int) < (kl : Int) + 1 := by omega
            have hw1 : IntKind.i64.wrap (kl : Int) = (kl : Int) := by rw [IntKind.wrap_i64]; omega
            have HOD := Lib.hid (HOA.out.go (Below.drew (Below.refl _ _)))
            go_wp2_with fail
            go_region_law (go_simp; go_at_call 55; refine (HSQ.out _ _ _ _ (HR.out.below HOD.out.b) (HLA.out.below (Below.drew (Below.refl _ _)))).mono ?_; rintro e w11 ⟨rfl, hb11⟩; have hbd : Below w10.heap.size w10 w11 := (Below.drew (Below.refl _ _)).trans (hb11.mono (Nat.le_refl _)); have HO11 := Lib.hid (HOA.out.go hbd); have HF11 := Lib.hid (HFA.out.below hbd); have HS11 := Lib.hid (HSA.out.below' hbd); have HA11 := Lib.hid (HAA.out.below hbd); have hc5' : w11.cell? ⟨bl, kl, none⟩ = some (.int .i64 (nl : Int)) := ((hbd.cell (World.block_lt_of_cell? _ _ hc5)).trans hc5); have x0' := blk_cell (blk_below HXA.out hbd) 0; have p0' := blk_cell HO11.out.d 0; obtain ⟨r0, r1, r2, r3, r4, t0, t1, t2, t3, t4⟩ := HO11.out.res; clear hb11 hbd)
            all_goals
              go_wp2
              exact sopen_good rfl HO11.out HF11.out HS11.out HA11.out HYES.out rfl rfl rfl
end Go.Proofs.YtaacpdejpcbbbaaGreatDoor
