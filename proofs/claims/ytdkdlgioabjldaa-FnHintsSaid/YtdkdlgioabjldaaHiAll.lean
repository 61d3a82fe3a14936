/- The draws: a disk of segments (l06Disk). The directory of a disk: how great it is. The draws: a pick out of a list of numbers. A row under way in a slot, read off a cursor: the cursor's block, other blocks that stay; any element type, any stride. The reader's each, at the closure of ReadHint: one spot more, in whatever memory. The program's ReadHint: what it reads (readHintI), and in what memory. Directories: the reference's HintText. The draws: a directory (l07Dir; DrawHintText, DrawReadHint). The reference's ReadHint: what it reads (readHintS), and in what memory. By wip/tools/genhreads.py. HintText of the program. The walk of the law FnHints: whatever the code, it returns true. -/
import Derived.Test.YtdkdlgioabjldaaPutD
import Derived.Test.YtdkdlgioabjldaaSegD
import Derived.Test.YtdkdlgioabjldaaFileC
import Derived.Deep.CutBlock
import Derived.Test.YtdkdlgioabjldaaSegsAll
import Derived.Test.YtdkdlgioabjldaaDraw4
import Derived.Test.YtdkdlgioabjldaaGrow
import Derived.Test.YtdkdlgioabjldaaSpO
import Derived.Test.YtdkdlgioabjldaaSh
import Derived.Deep.RegionHeldLaw
import Derived.Test.YtdkdlgioabjldaaDecS
import Derived.Test.YtdkdlgioabjldaaVars
import Derived.Test.YtdkdlgioabjldaaHelp
import Derived.Deep.CutRange
namespace Go.Proofs.Ytdkdlgioabjldaa
set_option linter.unusedVariables false
set_option linter.unusedSimpArgs false
open Go.RowKit
attribute [local go_sem] bs_size List.length_cons List.length_nil List.length_append

def FiSm (fs : List FiD) : Prop := ∀ x ∈ fs, x.1.size ≤ 1000000 ∧ x.2.1.size ≤ 1000000
theorem FiSm.big {fs : List FiD} (h : FiSm fs) : ∀ x ∈ fs, x.1.size ≤ 9223372036854775807 ∧ x.2.1.size ≤ 9223372036854775807 := fun x hx => by have := h x hx; omega
theorem FiSm.put {fs : List FiD} {x : FiD} (h : FiSm fs) (h1 : x.1.size ≤ 1000000) (h2 : x.2.1.size ≤ 1000000) : FiSm (putF fs x) := fun y hy => by
  rcases putF_mem hy with hy | rfl
  · exact h y hy
  · exact ⟨h1, h2⟩
/-- The result's box, the disk's box, the row under way. -/
structure DX (w : World) (g : Nat) (v : Value) (fs : List FiD) (W : World) : Prop where
  drawn : Drawn w g W
  res : W.heap[w.heap.size]? = some (.cells #[.slice none 0 0] 58)
  dsk : W.heap[w.heap.size + 1]? = some (.cells #[v] 58)
  own : FiOwn W (w.heap.size + 2) v fs
  sm : FiSm fs
section
variable {w W W' : World} {g : Nat} {v : Value} {fs : List FiD}
theorem DX.size (h : DX w g v fs W) : w.heap.size + 2 ≤ W.heap.size := blk_lt h.dsk
theorem DX.draw (h : DX w g v fs W) (hg : g < w.heap.size) (hd : Drawn W g W') : DX w g v fs W' :=
  ⟨h.drawn.trans hd, (hd.2.block _ (blk_lt h.res) (by intro e; have := Option.some.inj e; omega)).trans h.res, (hd.2.block _ (blk_lt h.dsk) (by intro e; have := Option.some.inj e; omega)).trans h.dsk, h.own.kept hd.2 (fun k e => by cases e; omega), h.sm⟩
theorem DX.below (h : DX w g v fs W) (hg : g < w.heap.size) (hb : Below W.heap.size W W') : DX w g v fs W' :=
  ⟨h.drawn.below hg hb, blk_below h.res hb, blk_below h.dsk hb, h.own.below hb, h.sm⟩
theorem DX.drew (h : DX w g v fs W) (hg : g < w.heap.size) : DX w g v fs W.drew := h.below hg (Below.drew (Below.refl _ _))
theorem DX.row (h : DX w g v fs W) : ∃ A c, v = .slice A fs.length c ∧ FiRow W A c fs := h.own.row h.sm.big
theorem DX.put {v' : Value} {x : FiD} (h : DX w g v fs W) (hg : g < w.heap.size) (hb : Below W.heap.size W W') (ho : FiOwn W' W.heap.size v' (putF fs x)) (h1 : x.1.size ≤ 1000000) (h2 : x.2.1.size ≤ 1000000) : DX w g v' (putF fs x) (W'.setCell ⟨w.heap.size + 1, 0, none⟩ v') := by
  have hs := h.size
  have k := h.below hg hb
  have hgs := grown_set' (World.grownBy.refl W' (some (w.heap.size + 1))) 0 v'
  have hbs := hb.size
  refine ⟨k.drawn.grown hg hgs (fun j e => by cases e; omega), ?_, by rw [blk_set k.dsk]; rfl, (ho.kept hgs fun j e => by cases e; omega).mono (by omega), h.sm.put h1 h2⟩
  exact (Below.heap_setCell W' ⟨w.heap.size + 1, 0, none⟩ v' w.heap.size (by show w.heap.size ≠ w.heap.size + 1; omega)).trans k.res
end
def DiskPost (w : World) (g : Nat) (e : Ending) (w' : World) : Prop := ∃ v fs, e = .returned (.agg #[v]) ∧ FiOwn w' w.heap.size v fs ∧ FiSm fs ∧ Drawn w g w'
theorem disk_end {fn : Func} {w W : World} {g : Nat} {v : Value} {fs : List FiD} {tmps : Array Value} (hg : g < w.heap.size) (hf : fn.results = #[.cell 2 58]) (h : DX w g v fs W) (hp : tmps.getD 2 undef = .pointer (some ⟨w.heap.size, 0, none⟩)) :
    bodyPost Try.prog fn (DiskPost w g) .ret ⟨tmps, []⟩ (W.setCell ⟨w.heap.size, 0, none⟩ v) := by
  obtain ⟨fx, hu⟩ := und_dsk
  have hs := h.size
  have hgs := grown_set' (World.grownBy.refl W (some w.heap.size)) 0 v
  refine res_box hf (g := w.heap.size) (cs := #[v]) (by rw [blk_set h.res]; rfl) hp hu info_dsk ⟨v, fs, rfl, ?_, h.sm, h.drawn.grown hg hgs fun j e => by cases e; omega⟩
  exact (h.own.kept hgs fun k e => by cases e; omega).mono (by omega)
set_option maxHeartbeats 8000000 in
set_option maxRecDepth 100000 in
theorem spec_l06Disk_calls (g : Nat) (w : World) (h : Cu w g) : Calls Try.prog 33 #[.pointer (some ⟨g, 0, none⟩)] w (DiskPost w g) := by
  have HGL := Lib.hid h.lt
  have hs1 : (w.alloc (.cells #[.slice none 0 0] 58)).heap.size = w.heap.size + 1 := by simp
  have HX0 : Hid (DX w g (.slice none 0 0) [] ((w.alloc (.cells #[.slice none 0 0] 58)).alloc (.cells #[.slice none 0 0] 58))) :=
    ⟨(Drawn.alloc h _).alloc' h.lt _, by rw [Below.heap_alloc _ _ _ (by simp)]; exact blk_new _ _, by rw [← hs1]; exact blk_new _ _, World.ownsRow_nil .., fun x hx => by simp at hx⟩
  clear h hs1
  go_enter Try.func33, Try.ntmps33
  go_wp2
  go_loopw [4, 5, 6] (fun qv nv iv wr => ∃ (q : Int) (n i : Nat) (v : Value) (fs : List FiD), qv = .int .i64 q ∧ nv = .int .i64 (n : Int) ∧ iv = .int .i64 (i : Int) ∧ i ≤ 4 ∧ n ≤ 3 * i ∧ 0 ≤ q ∧ q ≤ 1 + 6 * i ∧ Hid (fs.length ≤ i) ∧ Hid (DX w g v fs wr)) (fun _ _ iv _ => 5 - (intOf iv).toNat)
  case atStart => exact ⟨1, 0, 0, _, [], rfl, rfl, rfl, by omega, by omega, by omega, by omega, Nat.zero_le _, HX0⟩
  case round =>
    obtain ⟨q, n, i, v, fs, rfl, rfl, rfl, hi4, hn3, hq0, hq1, HLN, HX⟩ := hrel
    rename World => w6
    go_wp2_with fail
    go_at_call 34
    refine (spec_l01Below_calls g 4 _ HX.out.drawn.1 (by omega)).mono ?_
    rintro e w1 ⟨x, rfl, hx0, hx1, _, hd⟩
    have hx1 := hx1 (by omega)
    have HX1 := Lib.hid (HX.out.draw HGL.out hd)
    clear hd HX
    by_cases hlt : (i : Int) < 1 + x
    · go_wp2_with fail
      go_at_call 34
      refine (spec_l01Below_calls g 3 _ HX1.out.drawn.1 (by omega)).mono ?_
      rintro e w2 ⟨y, rfl, hy0, hy1, _, hd⟩
      have hy1 := hy1 (by omega)
      obtain ⟨y, rfl⟩ := Int.eq_ofNat_of_zero_le hy0
      have HX2 := Lib.hid (HX1.out.draw HGL.out hd)
      clear hd HX1
      have HNY : Hid (((n : Int) + (y : Int)) = ((n + y : Nat) : Int)) := by rw [Hid]; omega
      go_wp2_with fail
      go_at_call 59
      rw [HNY.out]
      refine (spec_l06File_calls g (n + y) q _ HX2.out.drawn.1 (by omega) hq0 (by omega)).mono ?_
      rintro e w3 ⟨s, r, f, rs, ds, q', rfl, hst, hq2, hq3, hd⟩
      have hss := hst.small
      have HX3 := Lib.hid (HX2.out.draw HGL.out hd)
      clear hd HX2 hst
      go_upto_if 30 with (go_at_call 27; refine (spec_l01Once_calls g 20 _ HX3.out.drawn.1 (by omega)).mono ?_; rintro e w4 ⟨b, rfl, hd⟩)
      have HX4 := Lib.hid (HX3.out.draw HGL.out hd)
      clear hd HX3
      go_cut [4] from 10 to 51 (fun qv wx => ∃ (q2 : Int), qv = .int .i64 q2 ∧ 0 ≤ q2 ∧ q2 ≤ 1 + 6 * (i + 1) ∧ Hid (DX w g v fs wx))
      case first =>
        cases b
        · go_wp2
          go_meet
          case rel => exact ⟨q', rfl, by omega, by omega, HX4⟩
        · go_wp2
          go_meet
          case rel => exact ⟨1, rfl, by omega, by omega, HX4⟩
      case rest =>
        clear HX4
        obtain ⟨q2, rfl, hq20, hq21, HX4⟩ := hcut
        rename World => w7
        go_wp2_with fail
        go_at_call 34
        refine (spec_l01Below_calls g 30 _ HX4.out.drawn.1 (by omega)).mono ?_
        rintro e w5 ⟨z, rfl, hz0, _, _, hd⟩
        have HX5 := Lib.hid (HX4.out.draw HGL.out hd)
        clear hd HX4
        go_upto_block 2 with fail
        go_cut [7] from 10 to 51 (fun tv wx => ∃ (t : ByteArray), tv = .string t ∧ t.size ≤ 20000 ∧ Hid (DX w g v fs wx))
        case first =>
          obtain rfl | rfl | hz2 : z = 0 ∨ z = 1 ∨ 2 ≤ z := by omega
          · have hll : ¬ (9223372036854775807 < s.size + 4) := by omega
            go_wp2
            go_meet
            case rel => exact ⟨_, rfl, by rw [ByteArray.size_append]; show s.size + 4 ≤ 20000; omega, HX5⟩
          · go_wp2_with fail
            go_at_call 29
            refine (spec_l02Spoilt_calls g s _ HX5.out.drawn.1 (by omega)).mono ?_
            rintro e w8 ⟨t, rfl, ht, hd⟩
            have HX8 := Lib.hid (HX5.out.draw HGL.out hd)
            clear hd
            go_wp2
            go_meet
            case rel => exact ⟨t, rfl, by omega, HX8⟩
          · have n0 : ¬ z = 0 := by omega
            have n1 : ¬ z = 1 := by omega
            go_wp2
            go_meet
            case rel => exact ⟨s, rfl, by omega, HX5⟩
        case rest =>
          clear HX5
          obtain ⟨t, rfl, ht, HX⟩ := hcut
          rename World => w9
          obtain ⟨A, c, hv, _⟩ := HX.out.row
          subst hv
          have hnm := segNm_size ((n + y : Nat) : Int)
          have c3 := blk_cell HX.out.dsk 0
          have HG := Lib.hid (HX.out.drew HGL.out)
          clear HX
          go_wp2_with fail
          go_region_law (first | (go_simp; go_at_call 54; refine (spec_SegNm_calls ((n + y : Nat) : Int) _).mono ?_; rintro e w10 ⟨rfl, hb⟩; have HG := Lib.hid (HG.out.below HGL.out hb); have c3 := blk_cell HG.out.dsk 0; clear hb) | (go_simp; go_at_call 60; refine (spec_l03Put_calls A c fs (segNm ((n + y : Nat) : Int)) t (t.size : Int) _ (by obtain ⟨A', c', e, hr⟩ := HG.out.row; cases e; exact hr) (by have := HLN.out; omega)).mono ?_; rintro e w11 ⟨v6, rfl, ho, hb⟩; obtain ⟨A6, c6, hv6⟩ := ho.form; subst hv6; have HP := Lib.hid (HG.out.put HGL.out hb ho (Nat.le_trans hnm (by omega)) (Nat.le_trans ht (by omega))); have f3 := blk_frozen (HG.out.below HGL.out hb).dsk 0; have c4 := blk_cell (HG.out.below HGL.out hb).dsk 0; clear ho hb))
          all_goals
            go_wp2
            go_roundw
            case rel => exact ⟨q2, n + y + 1, i + 1, _, _, rfl, by go_num, by go_num, by omega, by omega, by omega, by omega, Lib.hid (Nat.le_trans (putF_len _ _) (Nat.succ_le_succ HLN.out)), HP⟩
            case measure => simp [intOf]; omega
    · go_wp2_with fail
      go_at_call 34
      refine (spec_l01Below_calls g 12 _ HX1.out.drawn.1 (by omega)).mono ?_
      rintro e w2 ⟨z, rfl, hz0, _, _, hd⟩
      have HX2 := Lib.hid (HX1.out.draw HGL.out hd)
      clear hd HX1
      go_upto_block 3 with fail
      go_cut [] from 54 (fun wx => ∃ (v : Value) (fs : List FiD), Hid (DX w g v fs wx))
      case first =>
        obtain ⟨A, c, hv, _⟩ := HX2.out.row
        subst hv
        obtain rfl | rfl | hz2 : z = 0 ∨ z = 1 ∨ 2 ≤ z := by omega
        · have c3 := blk_cell HX2.out.dsk 0
          go_wp2_with fail
          go_at_call 60
          refine (spec_l03Put_calls A c fs _ _ _ _ (by obtain ⟨A', c', e, hr⟩ := HX2.out.row; cases e; exact hr) (by have := HLN.out; omega)).mono ?_
          rintro e w11 ⟨v6, rfl, ho, hb⟩
          obtain ⟨A6, c6, hv6⟩ := ho.form
          subst hv6
          have HP := Lib.hid (HX2.out.put HGL.out hb ho (by decide) (by decide))
          have f3 := blk_frozen (HX2.out.below HGL.out hb).dsk 0
          have c4 := blk_cell (HX2.out.below HGL.out hb).dsk 0
          clear ho hb
          go_wp2
          go_meet
          case rel => exact ⟨_, _, HP⟩
        · have c3 := blk_cell HX2.out.dsk 0
          have HG := Lib.hid (HX2.out.drew HGL.out)
          go_wp2_with fail
          go_region_law (first | (go_simp; go_at_call 34; refine (spec_l01Below_calls g 9 _ HG.out.drawn.1 (by omega)).mono ?_; rintro e w9 ⟨y, rfl, hy0, hy1, _, hd⟩; have HG := Lib.hid (HG.out.draw HGL.out hd); have c3 := blk_cell HG.out.dsk 0; clear hd hy1) | (go_simp; go_at_call 54; refine (spec_SegNm_calls y _).mono ?_; rintro e w10 ⟨rfl, hb⟩; have hnm := segNm_size y; have HG := Lib.hid (HG.out.below HGL.out hb); have c3 := blk_cell HG.out.dsk 0; clear hb) | (go_simp; go_at_call 60; refine (spec_l03Put_calls A c fs (segNm y) _ _ _ (by obtain ⟨A', c', e, hr⟩ := HG.out.row; cases e; exact hr) (by have := HLN.out; omega)).mono ?_; rintro e w11 ⟨v6, rfl, ho, hb⟩; obtain ⟨A6, c6, hv6⟩ := ho.form; subst hv6; have HP := Lib.hid (HG.out.put HGL.out hb ho (Nat.le_trans hnm (by omega)) (show ByteArray.size ⟨#[120]⟩ ≤ 1000000 by decide)); have f3 := blk_frozen (HG.out.below HGL.out hb).dsk 0; have c4 := blk_cell (HG.out.below HGL.out hb).dsk 0; clear ho hb))
          all_goals
            go_wp2
            go_meet
            case rel => exact ⟨_, _, HP⟩
        · have n0 : ¬ z = 0 := by omega
          have n1 : ¬ z = 1 := by omega
          go_wp2
          go_meet
          case rel => exact ⟨_, _, HX2⟩
      case rest =>
        clear HX2
        obtain ⟨v, fs, HX⟩ := hcut
        obtain ⟨A, c, hv⟩ := HX.out.own.form
        subst hv
        have c3 := blk_cell HX.out.dsk 0
        have c4 := blk_cell HX.out.res 0
        have f4 := blk_frozen HX.out.res 0
        go_wp2
        exact disk_end HGL.out rfl HX.out rfl
end Go.Proofs.Ytdkdlgioabjldaa

namespace Go.Proofs.Ytdkdlgioabjldaa
set_option linter.unusedVariables false
set_option linter.unusedSimpArgs false
open Go.RowKit

theorem dirChs_len (n a q : Int) : ∀ (cs : List ChD) (out : List SpotD), (cs.foldl (dirCh n a q) out).length ≤ out.length + cs.length
  | [], out => by simp
  | c :: cs, out => by
    have h1 := dirChs_len n a q cs (dirCh n a q out c)
    have h2 := setB_len out (c.1, n, a, q) c.2.2
    rw [List.foldl_cons, List.length_cons]
    unfold dirCh at h1 ⊢
    omega
theorem dirPls_len (n : Int) : ∀ (pls : List PlD) (out : List SpotD), (∀ p ∈ pls, p.1.2.length ≤ 40) → (pls.foldl (dirPl n) out).length ≤ out.length + 40 * pls.length
  | [], out, _ => by simp
  | p :: pls, out, h => by
    have h1 := dirPls_len n pls (dirPl n out p) (fun x hx => h x (by simp [hx]))
    have h2 := dirChs_len n (p.2.1 : Int) p.1.1 p.1.2 out
    have h3 := h p (by simp)
    rw [List.foldl_cons, List.length_cons]
    unfold dirPl at h1 ⊢
    omega
theorem pl_parts {fs : List FiD} {m : Nat} (hm : m ≤ 99) : (batsAt fs m).length ≤ 20000 ∧ ∀ p ∈ batsAt fs m, p.1.2.length ≤ 40 ∧ ∀ c ∈ p.1.2, c.1.size ≤ 20 := by
  obtain ⟨f, l, en, pls, ok, Lh, hba, _, _, _, _, hpl, htx, _⟩ := segUni fs m hm
  rw [hba]
  refine ⟨hpl, fun p hp => ?_⟩
  obtain ⟨_, r, hb, _⟩ := htx p hp
  obtain ⟨_, h2, h3⟩ := batOk_parts (isBat_parts (show IsBat r p.1 from hb)).1
  exact ⟨h2, fun c hc => (h3 c hc).1⟩
theorem dirSegs_len (fs : List FiD) : ∀ (L : List Nat) (out : List SpotD), (∀ m ∈ L, m ≤ 99) → (L.foldl (dirSeg fs) out).length ≤ out.length + 800000 * L.length
  | [], out, _ => by simp
  | m :: L, out, h => by
    have h1 := dirSegs_len fs L (dirSeg fs out m) (fun x hx => h x (by simp [hx]))
    obtain ⟨h2, h3⟩ := pl_parts (fs := fs) (h m (by simp))
    have h4 := dirPls_len (m : Int) (batsAt fs m) out (fun p hp => (h3 p hp).1)
    rw [List.foldl_cons, List.length_cons]
    unfold dirSeg at h1 ⊢
    omega
theorem dirB_len (fs : List FiD) : (dirB fs).length ≤ 80000000 := by
  have h := dirSegs_len fs (segsB fs) [] (fun m hm => by have := (segs_lt hm).1; omega)
  have h2 := segs_len fs
  unfold dirB
  simp only [List.length_nil] at h
  omega
def Sp20 (ds : List SpotD) : Prop := ∀ x ∈ ds, x.1.size ≤ 20
theorem sp20_chs (n a q : Int) : ∀ (cs : List ChD) (out : List SpotD), Sp20 out → (∀ c ∈ cs, c.1.size ≤ 20) → Sp20 (cs.foldl (dirCh n a q) out)
  | [], _, h, _ => h
  | c :: cs, out, h, hc => by
    rw [List.foldl_cons]
    refine sp20_chs n a q cs _ (fun x hx => ?_) (fun y hy => hc y (by simp [hy]))
    unfold dirCh at hx
    rcases setB_mem hx with hx | rfl
    · exact h x hx
    · exact hc c (by simp)
theorem sp20_pls (n : Int) : ∀ (pls : List PlD) (out : List SpotD), Sp20 out → (∀ p ∈ pls, ∀ c ∈ p.1.2, c.1.size ≤ 20) → Sp20 (pls.foldl (dirPl n) out)
  | [], _, h, _ => h
  | p :: pls, out, h, hc => by
    rw [List.foldl_cons]
    exact sp20_pls n pls _ (sp20_chs n _ _ _ _ h (hc p (by simp))) fun y hy => hc y (by simp [hy])
theorem sp20_segs (fs : List FiD) : ∀ (L : List Nat) (out : List SpotD), Sp20 out → (∀ m ∈ L, m ≤ 99) → Sp20 (L.foldl (dirSeg fs) out)
  | [], _, h, _ => h
  | m :: L, out, h, hm => by
    rw [List.foldl_cons]
    exact sp20_segs fs L _ (sp20_pls _ _ _ h fun p hp => ((pl_parts (hm m (by simp))).2 p hp).2) fun x hx => hm x (by simp [hx])
theorem dirB_small (fs : List FiD) : Sp20 (dirB fs) := sp20_segs fs (segsB fs) [] (fun x hx => by simp at hx) fun m hm => by have := (segs_lt hm).1; omega
end Go.Proofs.Ytdkdlgioabjldaa

namespace Go.Proofs.Ytdkdlgioabjldaa
set_option linter.unusedVariables false
set_option linter.unusedSimpArgs false
open Go.RowKit
attribute [local go_sem] bs_size List.length_cons List.length_nil List.length_append

theorem pickInt_at (g b n c : Nat) (zs : List Int) (W : World) (h : Cu W g) (hb : W.heap[b]? = some (.cells (zs.map (Value.int .i64)).toArray 3)) (hbg : b ≠ g) (hn : n = zs.length) (hc : c = zs.length) (hp : 0 < zs.length) (hl : zs.length ≤ 1000) :
    Calls Try.prog 37 #[.pointer (some ⟨g, 0, none⟩), .slice (some ⟨b, 0, none⟩) n c] W fun e w' => ∃ x ∈ zs, e = .returned (.int .i64 x) ∧ Drawn W g w' := by
  subst hn hc
  have HC := Lib.hid h
  have HBK := Lib.hid hb
  have HNE := Lib.hid hbg
  clear h hb hbg
  go_enter Try.func37, Try.ntmps37
  go_wp2_with fail
  go_at_call 34
  refine (spec_l01Below_calls g zs.length _ HC.out (by omega)).mono ?_
  rintro e w1 ⟨k, rfl, hk0, hk1, _, hd⟩
  obtain ⟨j, rfl⟩ := Int.eq_ofNat_of_zero_le hk0
  have hj : j < zs.length := by have := hk1 (by omega); omega
  have HD := Lib.hid hd
  obtain ⟨x, hx⟩ : ∃ x, zs[j]? = some x := ⟨_, List.getElem?_eq_getElem hj⟩
  have hb : w1.heap[b]? = some (.cells (zs.map (Value.int .i64)).toArray 3) := (hd.2.block _ (blk_lt HBK.out) (by intro e2; have := Option.some.inj e2; exact HNE.out this)).trans HBK.out
  have hc' : w1.cell? ⟨b, j, none⟩ = some (.int .i64 x) := by
    rw [blk_cell hb j, List.getElem?_toArray, List.getElem?_map, hx]
    rfl
  have HM := Lib.hid (List.mem_of_getElem? hx)
  have hji : (j : Int) < (zs.length : Int) := by omega
  clear hd hk1 hx hb HBK HC
  go_wp2
  go_ret
  exact ⟨x, HM.out, rfl, HD.out⟩
theorem pickInt_lit (g n c : Nat) (zs : List Int) (cs : Array Value) (w : World) (h : Cu w g) (hcs : cs = (zs.map (Value.int .i64)).toArray) (hn : n = zs.length) (hc : c = zs.length) (hp : 0 < zs.length) (hl : zs.length ≤ 1000) :
    Calls Try.prog 37 #[.pointer (some ⟨g, 0, none⟩), .slice (some ⟨w.heap.size, 0, none⟩) n c] (w.alloc (.cells cs 3)) fun e w' => ∃ x ∈ zs, e = .returned (.int .i64 x) ∧ Drawn w g w' := by
  subst hcs
  refine (pickInt_at g _ n c zs _ (h.alloc _) (blk_new w _) (by have := h.lt; omega) hn hc hp hl).mono ?_
  rintro e w' ⟨x, hx, he, hd⟩
  exact ⟨x, hx, he, (Drawn.alloc h _).trans hd⟩
end Go.Proofs.Ytdkdlgioabjldaa

namespace Go.Proofs.Ytdkdlgioabjldaa
set_option linter.unusedVariables false
set_option linter.unusedSimpArgs false
open Go.RowKit

/-- tr: the cursor's type · te, sz: the slice's element and its cells · os: blocks that stay. -/
structure RSt (tr te : TypeId) (sz B gr : Nat) (os : List (Nat × Obj)) (s : ByteArray) (n : Nat) (fl : List Value) (v : Value) (a : Nat) (bad : Bool) (w0 w : World) : Prop where
  bel : Below B w0 w
  rd : RdAt tr w gr s a bad
  own : w.ownsRow B te sz v n fl
  oth : ∀ p ∈ os, B ≤ p.1 ∧ w.heap[p.1]? = some p.2 ∧ p.1 ≠ gr ∧ v.ownBlock ≠ some p.1
  ne : v.ownBlock ≠ some gr
  far : B ≤ gr
section
variable {tr te : TypeId} {sz B gr : Nat} {os : List (Nat × Obj)} {s : ByteArray} {n : Nat} {fl : List Value} {v : Value} {a a' : Nat} {bad bad' : Bool} {w0 w w' w2 : World}
theorem RSt.base (h : RSt tr te sz B gr os s n fl v a bad w0 w) : B ≤ w.heap.size := Nat.le_trans h.far (Nat.le_of_lt h.rd.lt)
theorem RSt.read (h : RSt tr te sz B gr os s n fl v a bad w0 w) (hr : RdAt tr w' gr s a' bad') (hg : w.grownBy w' (some gr)) : RSt tr te sz B gr os s n fl v a' bad' w0 w' := by
  have hf := h.far
  refine ⟨gr_below h.bel hg h.base (fun k e => by cases e; exact hf), hr, h.own.kept hg (.inr h.ne), fun p hp => ?_, h.ne, hf⟩
  obtain ⟨h1, h2, h4, h5⟩ := h.oth p hp
  exact ⟨h1, (hg.block p.1 (blk_lt h2) (by simp; omega)).trans h2, h4, h5⟩
theorem RSt.below (h : RSt tr te sz B gr os s n fl v a bad w0 w) (hb : Below w.heap.size w w') : RSt tr te sz B gr os s n fl v a bad w0 w' := by
  refine ⟨h.bel.trans (hb.mono h.base), h.rd.below hb, ?_, fun p hp => ?_, h.ne, h.far⟩
  · refine h.own.kept (grown_of_below (r := none) hb) ?_
    cases v.ownBlock
    · exact .inl rfl
    · exact .inr (by simp)
  · obtain ⟨h1, h2, h3⟩ := h.oth p hp
    exact ⟨h1, (hb.block p.1 (blk_lt h2)).trans h2, h3⟩
theorem RSt.alloc (h : RSt tr te sz B gr os s n fl v a bad w0 w) (o : Obj) : RSt tr te sz B gr os s n fl v a bad w0 (w.alloc o) := h.below ((Below.refl _ _).alloc (Nat.le_refl _) o)
theorem RSt.drew (h : RSt tr te sz B gr os s n fl v a bad w0 w) : RSt tr te sz B gr os s n fl v a bad w0 w.drew := h.below (Below.drew (Below.refl _ _))
theorem RSt.at_ {g : Nat} {o : Obj} (h : RSt tr te sz B gr os s n fl v a bad w0 w) (hm : (g, o) ∈ os) : w.heap[g]? = some o := (h.oth _ hm).2.1
theorem RSt.push (h : RSt tr te sz B gr os s n fl v a bad w0 w) (o : Obj) : RSt tr te sz B gr ((w.heap.size, o) :: os) s n fl v a bad w0 (w.alloc o) := by
  have h1 := h.alloc o
  refine ⟨h1.bel, h1.rd, h1.own, fun p hp => ?_, h1.ne, h1.far⟩
  rcases List.mem_cons.1 hp with rfl | hp
  · have l2 := h.rd.lt
    exact ⟨h.base, heap_alloc_new w o, by show w.heap.size ≠ gr; omega, fun e => by have := (h.own.lt _ e).2; omega⟩
  · exact h1.oth p hp
theorem RSt.pop {p : Nat × Obj} (h : RSt tr te sz B gr (p :: os) s n fl v a bad w0 w) : RSt tr te sz B gr os s n fl v a bad w0 w :=
  ⟨h.bel, h.rd, h.own, fun q hq => h.oth q (List.mem_cons_of_mem _ hq), h.ne, h.far⟩
theorem RSt.setTop {c : Nat} {cs : Array Value} {ty : TypeId} (h : RSt tr te sz B gr ((c, .cells cs ty) :: os) s n fl v a bad w0 w) (hd : ∀ p ∈ os, p.1 ≠ c) (j : Nat) (x : Value) : RSt tr te sz B gr ((c, .cells (cs.setIfInBounds j x) ty) :: os) s n fl v a bad w0 (w.setCell ⟨c, j, none⟩ x) := by
  obtain ⟨q1, q2, q4, q5⟩ := h.oth _ (List.mem_cons_self ..)
  have hg := gr_set w c j x
  have hf := h.far
  have l2 := h.rd.lt
  refine ⟨gr_below h.bel hg h.base (fun k e => by cases e; exact q1), (hg.block gr l2 (by simp at q4 ⊢; omega)).trans h.rd, h.own.kept hg (.inr q5), fun p hp => ?_, h.ne, hf⟩
  rcases List.mem_cons.1 hp with rfl | hp
  · exact ⟨q1, blk_set q2 j x, q4, q5⟩
  · obtain ⟨r1, r2, r3⟩ := h.oth p (List.mem_cons_of_mem _ hp)
    exact ⟨r1, (hg.block p.1 (blk_lt r2) (by have := hd p hp; simp; omega)).trans r2, r3⟩
/-- Behind an append. -/
theorem RSt.app {m g cap : Nat} {fl' : List Value} (h : RSt tr te sz B gr os s n fl v a bad w0 w) (hown : w2.ownsRow B te sz (.slice (some ⟨g, 0, none⟩) m cap) m fl') (hgrow : w.grownBy w2 v.ownBlock) (hat : v.ownBlock = some g ∨ g = w.heap.size) :
    RSt tr te sz B gr os s m fl' (.slice (some ⟨g, 0, none⟩) m cap) a bad w0 w2 := by
  have hf := h.far
  have l2 := h.rd.lt
  refine ⟨gr_below h.bel hgrow h.base (fun k e => (h.own.lt k e).1), (hgrow.block gr l2 (fun e => h.ne e.symm)).trans h.rd, hown, fun p hp => ?_, ?_, hf⟩
  · obtain ⟨q1, q2, q4, q5⟩ := h.oth p hp
    have l3 := blk_lt q2
    refine ⟨q1, (hgrow.block p.1 l3 (fun e => q5 e.symm)).trans q2, q4, ?_⟩
    simp only [Value.ownBlock, ne_eq, Option.some.injEq]
    rcases hat with e | e
    · rw [e] at q5; simpa using q5
    · omega
  · simp only [Value.ownBlock, ne_eq, Option.some.injEq]
    rcases hat with e | e
    · have := h.ne
      rw [e] at this
      simpa using this
    · omega
end
end Go.Proofs.Ytdkdlgioabjldaa

namespace Go.Proofs.Ytdkdlgioabjldaa
set_option linter.unusedVariables false
set_option linter.unusedSimpArgs false
open Go.RowKit
attribute [local go_sem] bs_size List.length_cons List.length_nil List.length_append

abbrev hpObj (ty : TypeId) (gr : Nat) : Obj := .cells #[.pointer (some ⟨gr, 0, none⟩)] ty
/-- A directory under way: a block of one cell. -/
abbrev HSt (B gp gv gr : Nat) (s : ByteArray) (ds : List SpotD) (v : Value) (a : Nat) (bad : Bool) (w0 w : World) : Prop :=
  GSt 42 24 31 4 B gv gr [(gp, hpObj 40 gr)] s [] ds.length (spFlat ds) v a bad w0 w
set_option maxRecDepth 100000 in
theorem impl_ReadHint1_calls (B gp gv gr : Nat) (s : ByteArray) (ds : List SpotD) (v : Value) (a : Nat) (w0 w : World) (h : HSt B gp gv gr s ds v a false w0 w) (ha : a ≤ s.size) (hs : s.size ≤ 1099511627776) (hn : ds.length ≤ 1099511627776) :
    Calls Try.prog 19 #[.pointer (some ⟨gp, 0, none⟩), .pointer (some ⟨gv, 0, none⟩)] w fun e w' => e = .returned (.tuple #[]) ∧ ∃ v', HSt B gp gv gr s (ds ++ [(spI s a).1]) v' (spI s a).2.1 (spI s a).2.2 w0 w' := by
  obtain ⟨i0, hi, hz, hsz, hby⟩ := info_parts info_sp
  have H0 := Lib.hid h
  clear h
  have a1 : (htK s a false).2.1 ≤ s.size := (rText_le s false ha).1
  have a2 : (htS s a false).2.1 ≤ s.size := (rNum_le s _ _ a1).2.1
  have a3 : (htA s a false).2.1 ≤ s.size := (rNum_le s _ _ a2).2.1
  have cp : w.cell? ⟨gp, 0, none⟩ = some (.pointer (some ⟨gr, 0, none⟩)) := blk_cell (H0.out.at_ (g := gp) (o := hpObj 40 gr) (by simp)) 0
  go_enter Try.func19, Try.ntmps19
  go_wp2_with fail
  go_at_call 20
  refine (impl_text_calls gr s a false _ H0.out.rd ha (by omega)).mono ?_
  rw [show rText s a false = htK s a false from rfl]
  rintro e w1 ⟨rfl, hr, hg⟩
  have HL := Lib.hid (H0.out.read hr hg).lt_
  have HD : Hid (∀ p ∈ [(gp, hpObj 40 gr)], p.1 ≠ w1.heap.size) := fun p hp e => by have := HL.out p hp; omega
  have H1 := Lib.hid ((H0.out.read hr hg).push (.cells #[.string (bs (htK s a false).1), .int .i64 0, .int .i64 0, .int .i64 0] 31))
  clear hr hg cp
  have cp : (w1.alloc (.cells #[.string (bs (htK s a false).1), .int .i64 0, .int .i64 0, .int .i64 0] 31)).cell? ⟨gp, 0, none⟩ = some (.pointer (some ⟨gr, 0, none⟩)) := blk_cell (H1.out.at_ (g := gp) (o := hpObj 40 gr) (by simp)) 0
  go_wp2_with fail
  go_at_call 21
  refine (impl_num_calls gr s _ _ _ H1.out.rd a1 (by omega)).mono ?_
  rw [show rNum s (htK s a false).2.1 (htK s a false).2.2 = htS s a false from rfl]
  rintro e w2 ⟨rfl, hr, hg⟩
  have H2 := Lib.hid (H1.out.read hr hg)
  have d1 : w2.cell? ⟨w1.heap.size, 1, none⟩ = some (.int .i64 0) := blk_cell (H2.out.at_ (List.mem_cons_self ..)) 1
  have f1 := gr_frozen (H2.out.at_ (List.mem_cons_self ..)) 1
  have H3 := Lib.hid (H2.out.setTop HD.out 1 (.int .i64 ((htS s a false).1 : Int)))
  clear hr hg cp
  have cp : (w2.setCell ⟨w1.heap.size, 1, none⟩ (.int .i64 ((htS s a false).1 : Int))).cell? ⟨gp, 0, none⟩ = some (.pointer (some ⟨gr, 0, none⟩)) := blk_cell (H3.out.at_ (g := gp) (o := hpObj 40 gr) (by simp)) 0
  go_wp2_with fail
  go_at_call 21
  refine (impl_num_calls gr s _ _ _ H3.out.rd a2 (by omega)).mono ?_
  rw [show rNum s (htS s a false).2.1 (htS s a false).2.2 = htA s a false from rfl]
  rintro e w3 ⟨rfl, hr, hg⟩
  have H4 := Lib.hid (H3.out.read hr hg)
  have d2 : w3.cell? ⟨w1.heap.size, 2, none⟩ = some (.int .i64 0) := blk_cell (H4.out.at_ (List.mem_cons_self ..)) 2
  have f2 := gr_frozen (H4.out.at_ (List.mem_cons_self ..)) 2
  have H5 := Lib.hid (H4.out.setTop HD.out 2 (.int .i64 ((htA s a false).1 : Int)))
  clear hr hg cp
  have cp : (w3.setCell ⟨w1.heap.size, 2, none⟩ (.int .i64 ((htA s a false).1 : Int))).cell? ⟨gp, 0, none⟩ = some (.pointer (some ⟨gr, 0, none⟩)) := blk_cell (H5.out.at_ (g := gp) (o := hpObj 40 gr) (by simp)) 0
  go_wp2_with fail
  go_at_call 21
  refine (impl_num_calls gr s _ _ _ H5.out.rd a3 (by omega)).mono ?_
  rw [show rNum s (htA s a false).2.1 (htA s a false).2.2 = htQ s a false from rfl]
  rintro e w4 ⟨rfl, hr, hg⟩
  have H6 := Lib.hid (H5.out.read hr hg)
  have d3 : w4.cell? ⟨w1.heap.size, 3, none⟩ = some (.int .i64 0) := blk_cell (H6.out.at_ (List.mem_cons_self ..)) 3
  have f3 := gr_frozen (H6.out.at_ (List.mem_cons_self ..)) 3
  have H7 := Lib.hid (H6.out.setTop HD.out 3 (.int .i64 ((htQ s a false).1 : Int)))
  clear hr hg cp
  generalize hw5 : w4.setCell ⟨w1.heap.size, 3, none⟩ (.int .i64 ((htQ s a false).1 : Int)) = w5 at H7
  have x0 : w5.cell? ⟨w1.heap.size, 0, none⟩ = some (.string (bs (htK s a false).1)) := blk_cell (H7.out.at_ (List.mem_cons_self ..)) 0
  have x1 : w5.cell? ⟨w1.heap.size, 1, none⟩ = some (.int .i64 ((htS s a false).1 : Int)) := blk_cell (H7.out.at_ (List.mem_cons_self ..)) 1
  have x2 : w5.cell? ⟨w1.heap.size, 2, none⟩ = some (.int .i64 ((htA s a false).1 : Int)) := blk_cell (H7.out.at_ (List.mem_cons_self ..)) 2
  have x3 : w5.cell? ⟨w1.heap.size, 3, none⟩ = some (.int .i64 ((htQ s a false).1 : Int)) := blk_cell (H7.out.at_ (List.mem_cons_self ..)) 3
  have cv : w5.cell? ⟨gv, 0, none⟩ = some v := H7.out.cv 0
  have H8 := Lib.hid (H7.out.pop.alloc (.cells (spVals (spI s a).1).toArray 31))
  have HOWN := Lib.hid H8.out.own
  have HBASE := Lib.hid H8.out.base
  have HNEWS : Hid (∀ j u, (spVals (spI s a).1)[j]? = some u → (w5.alloc (.cells (spVals (spI s a).1).toArray 31)).cell? ((⟨w5.heap.size, 0, none⟩ : Addr).add j) = some u) := World.news_of_block (heap_alloc_new w5 _)
  go_wp2_with (at_builtin; refine wpList_append_lies _ rfl _ _ _ rfl B 31 i0 (.agg #[.string ⟨#[]⟩, .int .i64 0, .int .i64 0, .int .i64 0]) 4 40 Try.underlying24 hi hz hsz hby rfl (by omega) v ds.length (spFlat ds) rfl HOWN.out ⟨w5.heap.size, 0, none⟩ 1 1 (spVals (spI s a).1) rfl rfl HNEWS.out (by simp [Value.oneCell', spVals]) (by omega) (by unfold maxLen; omega) (by omega) HBASE.out _ rfl ?_; intro g cap w6 hown hgrow hat hlt; have HA := Lib.hid (H8.out.app hown hgrow hat); clear hown hgrow hat hlt; have c6 : w6.cell? ⟨gv, 0, none⟩ = some v := HA.out.cv 0; have f6 := gr_frozen HA.out.hv 0)
  all_goals
    go_end0
    have HF := HA.out.stored 0 rfl
    rw [← spFlat_snoc, show ds.length + 1 = (ds ++ [(spI s a).1]).length by simp] at HF
    rw [show ds.length + 1 = (ds ++ [(spI s a).1]).length by simp]
    exact ⟨rfl, _, HF⟩
theorem spI_le (s : ByteArray) {a : Nat} (h : a ≤ s.size) : (spI s a).2.1 ≤ s.size := (rNum_le s _ _ (rNum_le s _ _ (rNum_le s _ _ (rText_le s false h).1).2.1).2.1).2.1
set_option maxRecDepth 100000 in
theorem impl_each_ReadHint_calls (B gp gv gr : Nat) (s : ByteArray) (v : Value) (a : Nat) (bad : Bool) (w0 w : World) (h : HSt B gp gv gr s [] v a bad w0 w) (ha : a ≤ s.size) (hs : s.size ≤ 1099511627776) :
    Calls Try.prog 18 #[.pointer (some ⟨gr, 0, none⟩), .func (.func 19) #[] #[.pointer (some ⟨gp, 0, none⟩), .pointer (some ⟨gv, 0, none⟩)]] w fun e w' => e = .returned (.tuple #[]) ∧
      ∃ v', HSt B gp gv gr s (itemsBy (spI s) (rNum s a bad).1 (rNum s a bad).2.1 (rNum s a bad).2.2).1 v' (itemsBy (spI s) (rNum s a bad).1 (rNum s a bad).2.1 (rNum s a bad).2.2).2.1 (itemsBy (spI s) (rNum s a bad).1 (rNum s a bad).2.1 (rNum s a bad).2.2).2.2 w0 w' := by
  obtain ⟨hn, ha1, _⟩ := rNum_le s a bad ha
  have HR := Lib.hid h
  have HW := Lib.hid (Reads.start (spI s) (rNum s a bad).1 (rNum s a bad).2.1 (rNum s a bad).2.2)
  generalize hW : itemsBy (spI s) (rNum s a bad).1 (rNum s a bad).2.1 (rNum s a bad).2.2 = W at HW ⊢
  clear h hW
  go_enter Try.func18, Try.ntmps18
  go_wp2_with fail
  go_at_call 21
  refine (impl_num_calls gr s a bad _ HR.out.rd ha (by omega)).mono ?_
  rintro e w1 ⟨rfl, hr, hg⟩
  have HV := Lib.hid (HR.out.read hr hg)
  clear hr hg
  generalize rNum s a bad = r at HW HV hn ha1 ⊢
  go_wp2
  go_loopw [5] (fun iv wr => ∃ (i : Nat) (acc : List SpotD) (v : Value) (a : Nat) (bad : Bool), i ≤ r.1 ∧ iv = .int .i64 (i : Int) ∧ acc.length = i ∧ a ≤ s.size ∧ Reads (spI s) r.1 W i acc a bad ∧ HSt B gp gv gr s acc v a bad w0 wr) (fun iv _ => r.1 - (intOf iv).toNat)
  case atStart => exact ⟨0, [], v, r.2.1, r.2.2, Nat.zero_le _, rfl, rfl, ha1, HW.out, HV.out⟩
  case round =>
    obtain ⟨i, acc, v, a, bad, hi, rfl, hacc, ha, hrd, hst⟩ := hrel
    have HQ := Lib.hid hrd
    have HS := Lib.hid hst
    have c2 := hst.rd.c2
    clear hrd hst
    by_cases hlt : i < r.1
    · cases bad
      · go_wp2_with fail
        go_at_call 19
        refine (impl_ReadHint1_calls B gp gv gr s acc v a w0 _ HS.out ha hs (by omega)).mono ?_
        rintro e w' ⟨rfl, v', hv⟩
        have HV2 := Lib.hid hv
        clear hv
        go_wp2
        go_roundw
        case rel => first | exact ⟨i + 1, acc ++ [(spI s a).1], v', (spI s a).2.1, (spI s a).2.2, by omega, by go_num, by simp; omega, spI_le s ha, HQ.out.step hlt, HV2.out⟩ | (repeat (first | (refine ⟨?relx, rfl⟩; exact ⟨i + 1, acc ++ [(spI s a).1], v', (spI s a).2.1, (spI s a).2.2, by omega, by go_num, by simp; omega, spI_le s ha, HQ.out.step hlt, HV2.out⟩) | (refine ⟨?relx, ?eqs⟩; (case eqs => (and_intros <;> rfl)); exact ⟨i + 1, acc ++ [(spI s a).1], v', (spI s a).2.1, (spI s a).2.2, by omega, by go_num, by simp; omega, spI_le s ha, HQ.out.step hlt, HV2.out⟩) | apply Exists.intro))
        case measure => simp [intOf]; omega
      · go_wp2
        go_end0
        obtain rfl := HQ.out.stop (by simp)
        exact ⟨rfl, v, HS.out⟩
    · obtain rfl : i = r.1 := by omega
      go_wp2
      go_end0
      obtain rfl := HQ.out.stop (by simp)
      exact ⟨rfl, v, HS.out⟩
end Go.Proofs.Ytdkdlgioabjldaa

namespace Go.Proofs.Ytdkdlgioabjldaa
set_option linter.unusedVariables false
set_option linter.unusedSimpArgs false
open Go.RowKit
attribute [local go_sem] bs_size List.length_cons List.length_nil List.length_append

/-- What ReadHint leaves. -/
def HintPost (w : World) (o : Option (List SpotD)) (e : Ending) (w' : World) : Prop := Below w.heap.size w w' ∧ match o with
  | none => ∃ v, e = .returned (.tuple #[v, .bool false]) ∧ SpOwn w' w.heap.size v []
  | some ds => ∃ v, e = .returned (.tuple #[v, .bool true]) ∧ SpOwn w' w.heap.size v ds
theorem hpost_nil {w w' : World} (h : Below w.heap.size w w') {o : Option (List SpotD)} (ho : o = none) : HintPost w o (.returned (.tuple #[.slice none 0 0, .bool false])) w' := by
  subst ho
  exact ⟨h, _, rfl, World.ownsRow_nil _ _ _ _⟩
abbrev hOut : Obj := .cells #[.slice none 0 0] 24
theorem hst_start (s : ByteArray) (w : World) :
    HSt w.heap.size (w.heap.size + 1 + 1) w.heap.size (w.heap.size + 1) s [] (.slice none 0 0) 0 false w (((w.alloc hOut).alloc (.cells #[.string s, .int .i64 0, .bool false] 42)).alloc (hpObj 40 (w.heap.size + 1))) := by
  have hb : Below w.heap.size w (((w.alloc hOut).alloc (.cells #[.string s, .int .i64 0, .bool false] 42)).alloc (hpObj 40 (w.heap.size + 1))) := (((Below.refl _ _).alloc (Nat.le_refl _) _).alloc (by simp) _).alloc (by simp; omega) _
  refine ⟨hb, gr_old (gr_old (blk_new w _) _) _, ?_, World.ownsRow_nil _ _ _ _, fun p hp => ?_, by simp [Value.ownBlock], by omega⟩
  · refine gr_old ?_ _
    have := blk_new (w.alloc hOut) (.cells #[.string s, .int .i64 0, .bool false] 42)
    simpa using this
  · obtain rfl := List.mem_singleton.1 hp
    refine ⟨by show w.heap.size ≤ w.heap.size + 1 + 1; omega, ?_, by show w.heap.size + 1 + 1 ≠ w.heap.size; omega, by show w.heap.size + 1 + 1 ≠ w.heap.size + 1; omega, by simp [Value.ownBlock]⟩
    have := blk_new ((w.alloc hOut).alloc (.cells #[.string s, .int .i64 0, .bool false] 42)) (hpObj 40 (w.heap.size + 1))
    simpa using this
theorem hiX_small (t : ByteArray) : ∀ x ∈ (hiX t).1, x.1.size ≤ 9223372036854775807 := items_all (fun a => by
  have h1 := hText_len t a false
  show (bs (htK t a false).1).size ≤ _
  rw [bs_size]
  unfold htK
  omega) _ _ _
theorem readHintI_none {s : ByteArray} (h : unsealed (ub s) = none) : readHintI s = none := by unfold readHintI; rw [h]
theorem readHintI_some {s : ByteArray} {t : List UInt8} (h : unsealed (ub s) = some t) : readHintI s = if s.size ≤ 20000 ∧ rDone (bs t) (hiX (bs t)).2.1 (hiX (bs t)).2.2 = true ∧ dirOkB (hiX (bs t)).1 = true then some (hiX (bs t)).1 else none := by unfold readHintI; rw [h]
theorem unsealed_len {l t : List UInt8} (h : unsealed l = some t) : t.length ≤ 20000 := by
  unfold unsealed at h
  split at h
  · rename_i hc
    rw [← Option.some.inj h, List.length_take]
    omega
  · cases h
set_option maxHeartbeats 4000000 in
set_option maxRecDepth 100000 in
theorem impl_ReadHint_calls (s : ByteArray) (w : World) (hs : s.size ≤ 1099511627776) : Calls Try.prog 7 #[.string s] w (HintPost w (readHintI s)) := by
  have hmf : ∀ (fn : Fn) (first cap : Array Value) (w : World), (Instr.makeFunc fn first cap).run Try.prog w = .ok (.func fn first cap) w := fun _ _ _ _ => rfl
  cases hu : unsealed (ub s)
  · have HU := Lib.hid hu
    have HE := Lib.hid (readHintI_none hu)
    clear hu
    go_enter Try.func7, Try.ntmps7
    go_wp2_with fail
    go_at_call 17
    refine (impl_Unsealed_calls s _ (by omega)).mono ?_
    rw [HU.out]
    rintro e w1 ⟨rfl, hb⟩
    simp only [varRes]
    go_wp2
    go_ret2
    exact hpost_nil hb HE.out
  · rename_i t
    have HU := Lib.hid hu
    have HES := Lib.hid (readHintI_some hu)
    have hts : (bs t).size ≤ 20000 := by rw [bs_size]; exact unsealed_len hu
    clear hu
    by_cases hbig : 20000 < s.size
    · have HE : Hid (readHintI s = none) := by rw [Hid, HES.out, if_neg (by omega)]
      go_enter Try.func7, Try.ntmps7
      go_wp2_with fail
      go_at_call 17
      refine (impl_Unsealed_calls s _ (by omega)).mono ?_
      rw [HU.out]
      rintro e w1 ⟨rfl, hb⟩
      simp only [varRes]
      go_wp2
      go_ret2
      exact hpost_nil hb HE.out
    · generalize hT : bs t = T at hts HES
      go_enter Try.func7, Try.ntmps7
      go_wp2_with fail
      go_at_call 17
      refine (impl_Unsealed_calls s _ (by omega)).mono ?_
      rw [HU.out]
      rintro e w1 ⟨rfl, hb⟩
      simp only [varRes]
      rw [hT]
      have HB1 := Lib.hid hb
      have HV1 := Lib.hid (hst_start T w1)
      have a1 : (hiN T).2.1 ≤ T.size := (rNum_le T _ _ (Nat.zero_le _)).2.1
      have a2 : (hiX T).2.1 ≤ T.size := items_le (f := spI T) (fun a h => spI_le T h) _ _ _ a1
      clear hb
      have cp : (((w1.alloc hOut).alloc (.cells #[.string T, .int .i64 0, .bool false] 42)).alloc (hpObj 40 (w1.heap.size + 1))).cell? ⟨w1.heap.size + 1 + 1, 0, none⟩ = some (.pointer (some ⟨w1.heap.size + 1, 0, none⟩)) := blk_cell (HV1.out.at_ (List.mem_cons_self ..)) 0
      go_wp2_with fail
      go_at_call 18
      refine (impl_each_ReadHint_calls _ _ _ _ T _ _ _ _ _ HV1.out (Nat.zero_le _) (by omega)).mono ?_
      rw [show rNum T 0 false = hiN T from rfl, show itemsBy (spI T) (hiN T).1 (hiN T).2.1 (hiN T).2.2 = hiX T from rfl]
      rintro e w2 ⟨rfl, v, hv⟩
      obtain ⟨A, c, rfl, hrow⟩ := SpOwn.row hv.own (hiX_small T)
      have HV2 := Lib.hid hv
      have HRW := Lib.hid hrow
      clear hv hrow cp
      have cp : w2.cell? ⟨w1.heap.size + 1 + 1, 0, none⟩ = some (.pointer (some ⟨w1.heap.size + 1, 0, none⟩)) := blk_cell (HV2.out.at_ (List.mem_cons_self ..)) 0
      go_wp2_with fail
      go_at_call 22
      refine (impl_done_calls _ T _ _ _ HV2.out.rd a2 (by omega)).mono ?_
      rintro e w3 ⟨rfl, hb⟩
      have HV3 := Lib.hid (HV2.out.below hb)
      have HRW3 := Lib.hid (HRW.out.below hb)
      have x0 : w3.cell? ⟨w1.heap.size, 0, none⟩ = some (.slice A (hiX T).1.length c) := HV3.out.cv 0
      clear hb cp
      cases hd : rDone T (hiX T).2.1 (hiX T).2.2
      · have HE : Hid (readHintI s = none) := by rw [Hid, HES.out, hd, if_neg (by simp)]
        clear hd
        go_wp2
        go_ret2
        exact hpost_nil (HB1.out.trans (HV3.out.bel.mono HB1.out.size)) HE.out
      · cases hok : dirOkB (hiX T).1
        · have HE : Hid (readHintI s = none) := by rw [Hid, HES.out, hok, if_neg (by simp)]
          have HO := Lib.hid hok
          clear hd hok
          go_wp2_with fail
          go_at_call 13
          refine (impl_DirOk_calls A c _ _ HRW3.out).mono ?_
          rw [HO.out]
          rintro e w4 ⟨rfl, hb⟩
          have HV4 := Lib.hid (HV3.out.below hb)
          have x1 : w4.cell? ⟨w1.heap.size, 0, none⟩ = some (.slice A (hiX T).1.length c) := HV4.out.cv 0
          clear hb
          go_wp2
          go_ret2
          exact hpost_nil (HB1.out.trans (HV4.out.bel.mono HB1.out.size)) HE.out
        · have HE : Hid (readHintI s = some (hiX T).1) := by rw [Hid, HES.out, hok, hd, if_pos ⟨by omega, rfl, rfl⟩]
          have HO := Lib.hid hok
          clear hd hok
          go_wp2_with fail
          go_at_call 13
          refine (impl_DirOk_calls A c _ _ HRW3.out).mono ?_
          rw [HO.out]
          rintro e w4 ⟨rfl, hb⟩
          have HV4 := Lib.hid (HV3.out.below hb)
          have x1 : w4.cell? ⟨w1.heap.size, 0, none⟩ = some (.slice A (hiX T).1.length c) := HV4.out.cv 0
          clear hb
          go_wp2
          go_ret2
          exact ⟨HB1.out.trans (HV4.out.bel.mono HB1.out.size), by rw [HE.out]; exact ⟨_, rfl, own_low HV4.out.own HB1.out.size⟩⟩
end Go.Proofs.Ytdkdlgioabjldaa

namespace Go.Proofs.Ytdkdlgioabjldaa
set_option linter.unusedVariables false
set_option linter.unusedSimpArgs false
open Go.RowKit
attribute [local go_sem] bs_size List.length_cons List.length_nil List.length_append

theorem spsBytes_snoc {ds : List SpotD} {i : Nat} {x : SpotD} (h : ds[i]? = some x) : spsBytes (ds.take (i + 1)) = spsBytes (ds.take i) ++ spBytes x := by
  rw [take_snoc h]
  simp [spsBytes]
theorem hbytes_cells (w : World) (s : ByteArray) : ∀ j u, (vB (ub s))[j]? = some u → (Lib.bytesWorld w 5 s).cell? ((⟨w.heap.size, 0, none⟩ : Addr).add j) = some u := by
  intro j u hu
  have hj : j < s.size := by
    have := (List.getElem?_eq_some_iff.1 hu).1
    rw [vB_length, ub_length] at this
    exact this
  rw [add_plain, Lib.bytesWorld_cell w 5 s j hj]
  have h' : j < s.data.toList.length := by rw [Array.length_toList]; exact hj
  simp only [vB, ub, List.getElem?_map, List.getElem?_eq_getElem h', Option.map_some, Option.some.injEq] at hu
  rw [← hu, List.getD_eq_getElem?_getD, List.getElem?_eq_getElem h']
  rfl
theorem hb_call {a W W' : World} (h : Below a.heap.size a W) (hb : Below W.heap.size W W') : Below a.heap.size a W' := h.trans (hb.mono h.size)
theorem hb_bytes {a W : World} (h : Below a.heap.size a W) (s : ByteArray) : Below a.heap.size a (Lib.bytesWorld W 5 s) := bytes_below h h.size s
theorem step_appH {ops : Array Oper} {o : Oper} {a : Act} {w : World} {K : Act → World → Prop} {Q : Exit → Act → World → Prop} {E : Prop} (hgd : o.guard = none) (sl x : Operand)
    (ho : o.op = .call { callee := .builtin .append, args := #[sl, x], argTypes := #[22, 22] }) (base : Nat) (v : Value) (l : List UInt8) (hs : a.eval sl = v) (hown : OwnB w base v l)
    (ad : Addr) (c : Nat) (k : List UInt8) (hx : a.eval x = .slice (some ad) k.length c) (hnews : ∀ j u, (vB k)[j]? = some u → w.cell? (ad.add j) = some u) (hbytes : l.length + k.length ≤ 140737488355328) (hbase : base ≤ w.heap.size)
    (hK : ∀ v' w', OwnB w' base v' (l ++ k) → w.grownBy w' v.ownBlock → K (a.put o.dst v') w') :
    if Region.wanted o (yielded ops a.tmps) = true then Oper.wp Try.prog o a w K Q else E := by
  have hw : Region.wanted o (yielded ops a.tmps) = true := by simp [Region.wanted, hgd]
  rw [if_pos hw]
  obtain ⟨v', w', hr, h2, h3⟩ := run_append_B w base o.type v l hown ad c k hnews hbytes hbase
  unfold Oper.wp execOp
  simp only [ho, resolve, invoke, builtin, Sem.run_bind, Sem.run_pure, Result.andThen_ok, List.map_toArray, List.map_cons, List.map_nil, hs, hx, hr]
  exact hK _ _ h2 h3
theorem keepH {w w' : World} {g : Nat} {r : Option Nat} {x y z u : Value} (h1 : w.cell? ⟨g, 0, none⟩ = some x) (h2 : w.cell? ⟨g, 1, none⟩ = some y) (h3 : w.cell? ⟨g, 2, none⟩ = some z) (h4 : w.cell? ⟨g, 3, none⟩ = some u) (hne : ∀ k, r = some k → k ≠ g) (hg : w.grownBy w' r) : w'.cell? ⟨g, 0, none⟩ = some x ∧ w'.cell? ⟨g, 1, none⟩ = some y ∧ w'.cell? ⟨g, 2, none⟩ = some z ∧ w'.cell? ⟨g, 3, none⟩ = some u ∧ Hid (w.grownBy w' r) :=
  ⟨hg.cell h1 (fun e => hne g e.symm rfl), hg.cell h2 (fun e => hne g e.symm rfl), hg.cell h3 (fun e => hne g e.symm rfl), hg.cell h4 (fun e => hne g e.symm rfl), hg⟩
theorem sp_text (k : ByteArray) (g p q : Nat) : bs (shortB (ub k)) ++ bs (varBytes g) ++ bs (varBytes p) ++ bs (varBytes q) = bs (spBytes (k, (g : Int), (p : Int), (q : Int))) := by
  rw [bs_append, bs_append, bs_append, spBytes]
  simp [List.append_assoc]
set_option maxHeartbeats 4000000 in
set_option maxRecDepth 100000 in
theorem spec_HintText_calls (A : Option Addr) (c : Nat) (ds : List SpotD) (w : World) (h : SpRow w A c ds) :
    Calls Try.prog 8 #[.slice A ds.length c] w fun e w' => e = .returned (varRes (hintText ds)) ∧ Below w.heap.size w w' := by
  have hl := h.len
  have HR := Lib.hid h
  clear h
  cases hok : dirOkB ds
  · have HE : Hid (hintText ds = none) := by rw [Hid, hintText, hok]; simp
    have HK := Lib.hid hok
    clear hok
    go_enter Try.func8, Try.ntmps8
    go_wp2_with fail
    go_at_call 23
    refine (spec_DirOk_calls A c ds _ HR.out).mono ?_
    rw [HK.out]
    rintro e w1 ⟨rfl, hb⟩
    go_wp2
    go_ret2
    exact ⟨by rw [HE.out]; rfl, hb⟩
  · obtain ⟨hn, hx⟩ := dirOk_parts hok
    have HX := Lib.hid hx
    have HK := Lib.hid hok
    have HIL := Lib.hid (hintInner_len hok)
    have HE : Hid (hintText ds = some (hintInner ds ++ sum4 (hintInner ds))) := by rw [Hid, hintText, if_pos hok]
    clear hok hx
    have kb := run_bytes
    go_enter Try.func8, Try.ntmps8
    go_wp2_with fail
    go_at_call 23
    refine (spec_DirOk_calls A c ds _ HR.out).mono ?_
    rw [HK.out]
    rintro e w1 ⟨rfl, hb⟩
    have HB1 := Lib.hid hb
    have HR1 := Lib.hid (HR.out.below hb)
    clear hb
    have hvn := var_len (n := ds.length) (by omega)
    go_wp2_with fail
    go_at_call 24
    refine (spec_l01Var_calls _ _ (by omega)).mono ?_
    rintro e w2 ⟨rfl, hb⟩
    have HB2 := Lib.hid hb
    clear hb
    have HBX : Hid (Below w1.heap.size w1 (Lib.bytesWorld w2 5 (bs (varBytes ds.length)))) := hb_bytes HB2.out _
    have HOB : Hid (OwnB (Lib.bytesWorld w2 5 (bs (varBytes ds.length))) w1.heap.size (.slice (some ⟨w2.heap.size, 0, none⟩) (varBytes ds.length).length (grownCap w2 (varBytes ds.length).length 0 5)) (varBytes ds.length)) := by
      have h := ownB_bytes w2 w1.heap.size (bs (varBytes ds.length)) HB2.out.size (by rw [bs_size]; unfold maxLen; omega)
      rw [ub_bs, bs_size] at h
      exact h
    go_wp2
    generalize Lib.bytesWorld w2 5 (bs (varBytes ds.length)) = W2 at HOB HBX ⊢
    generalize Value.slice (some ⟨w2.heap.size, 0, none⟩) (varBytes ds.length).length (grownCap w2 (varBytes ds.length).length 0 5) = v0 at HOB ⊢
    go_loopw [4, 5] (fun av iv wr => ∃ (i : Nat) (v0 : Value), i ≤ ds.length ∧ iv = .int .i64 (i : Int) ∧ v0 = av ∧ Hid (OwnB wr w1.heap.size v0 (varBytes ds.length ++ spsBytes (ds.take i))) ∧ Hid (Below w1.heap.size w1 wr)) (fun _ iv _ => ds.length - (intOf iv).toNat)
    case atStart => exact ⟨0, _, Nat.zero_le _, rfl, rfl, by have h := HOB.out; simpa [Hid, spsBytes] using h, HBX⟩
    case round =>
      obtain ⟨i, v0, hi, rfl, rfl, HO, HBE⟩ := hrel
      have hlb : (varBytes ds.length ++ spsBytes (ds.take i)).length ≤ 90000 := by
        have h1 := spsBytes_len (ds.take i) fun x hx => HX.out x (List.mem_of_mem_take hx)
        have h2 : (ds.take i).length ≤ 200 := by rw [List.length_take]; omega
        rw [List.length_append]
        omega
      by_cases hlt : i < ds.length
      · obtain ⟨ad, x, hA, HXI, hz1, hc0, hc1, hc2, hc3⟩ := (HR1.out.below HBE.out).at_ hlt
        cases hA
        have hsm := spOk_parts (HX.out x (List.mem_of_getElem? HXI.out))
        have HSL := Lib.hid (spBytes_len (HX.out x (List.mem_of_getElem? HXI.out)))
        have HSN := Lib.hid (spsBytes_snoc HXI.out)
        obtain ⟨k, g, p, q⟩ := x
        dsimp only at hz1 hc0 hc1 hc2 hc3 hsm
        obtain ⟨hsk, hsg, hsp, hsq⟩ := hsm
        obtain ⟨g, rfl⟩ := Int.eq_ofNat_of_zero_le hsg.1
        obtain ⟨p, rfl⟩ := Int.eq_ofNat_of_zero_le hsp.1
        obtain ⟨q, rfl⟩ := Int.eq_ofNat_of_zero_le hsq.1
        have hk20 : k.size ≤ 1125899906842624 := by omega
        have hg20 : g ≤ 9223372036854775807 := by omega
        have hp20 : p ≤ 9223372036854775807 := by omega
        have hq20 : q ≤ 9223372036854775807 := by omega
        have hk := shortB_len k (by omega)
        have hg := var_len hg20
        have hp := var_len hp20
        have hq := var_len hq20
        have hli : (i : Int) < (ds.length : Int) := by omega
        have HCT := Lib.hid (sp_text k g p q)
        have f0 : (wr.alloc (.cells #[.string k, .int .i64 (g : Int), .int .i64 (p : Int), .int .i64 (q : Int)] 31)).cell? ⟨wr.heap.size, 0, none⟩ = some (.string k) := blk_cell (blk_new wr _) 0
        have f1 : (wr.alloc (.cells #[.string k, .int .i64 (g : Int), .int .i64 (p : Int), .int .i64 (q : Int)] 31)).cell? ⟨wr.heap.size, 1, none⟩ = some (.int .i64 (g : Int)) := blk_cell (blk_new wr _) 1
        have f2 : (wr.alloc (.cells #[.string k, .int .i64 (g : Int), .int .i64 (p : Int), .int .i64 (q : Int)] 31)).cell? ⟨wr.heap.size, 2, none⟩ = some (.int .i64 (p : Int)) := blk_cell (blk_new wr _) 2
        have f3 : (wr.alloc (.cells #[.string k, .int .i64 (g : Int), .int .i64 (p : Int), .int .i64 (q : Int)] 31)).cell? ⟨wr.heap.size, 3, none⟩ = some (.int .i64 (q : Int)) := blk_cell (blk_new wr _) 3
        have HBA : Hid (Below w1.heap.size w1 (wr.alloc (.cells #[.string k, .int .i64 (g : Int), .int .i64 (p : Int), .int .i64 (q : Int)] 31))) := HBE.out.alloc HBE.out.size _
        have HOA := Lib.hid (HO.out.alloc (.cells #[.string k, .int .i64 (g : Int), .int .i64 (p : Int), .int .i64 (q : Int)] 31))
        have HNE := Lib.hid (fun b hb => Nat.ne_of_lt (HO.out.lt b hb).2)
        have s1 : (9223372036854775807 < (shortB (ub k)).length + (varBytes g).length) = False := eq_false (by omega)
        have s2 : (9223372036854775807 < (shortB (ub k)).length + (varBytes g).length + (varBytes p).length) = False := eq_false (by omega)
        have s3 : (9223372036854775807 < (shortB (ub k)).length + (varBytes g).length + (varBytes p).length + (varBytes q).length) = False := eq_false (by omega)
        have HKL : Hid ((spBytes (k, (g : Int), (p : Int), (q : Int))).length = (shortB (ub k)).length + (varBytes g).length + (varBytes p).length + (varBytes q).length) := by rw [Hid, spBytes]; simp; omega
        have HNW : Hid (∀ (w' : World) j u, (vB (spBytes (k, (g : Int), (p : Int), (q : Int))))[j]? = some u → (Lib.bytesWorld w' 5 (bs (shortB (ub k)) ++ bs (varBytes g) ++ bs (varBytes p) ++ bs (varBytes q))).cell? ((⟨w'.heap.size, 0, none⟩ : Addr).add j) = some u) := fun w' => by rw [HCT.out]; have h := hbytes_cells w' (bs (spBytes (k, (g : Int), (p : Int), (q : Int)))); rw [ub_bs] at h; exact h
        go_wp2_with fail
        generalize hWA : wr.alloc (.cells #[.string k, .int .i64 (g : Int), .int .i64 (p : Int), .int .i64 (q : Int)] 31) = WA at f0 f1 f2 f3 HBA HOA ⊢
        clear hWA hc0 hc1 hc2 hc3
        have HBC : Hid (Below WA.heap.size WA WA.drew) := Below.drew (Below.refl _ _)
        go_region_held_law (fun w' => w'.cell? ⟨wr.heap.size, 0, none⟩ = some (.string k) ∧ w'.cell? ⟨wr.heap.size, 1, none⟩ = some (.int .i64 (g : Int)) ∧ w'.cell? ⟨wr.heap.size, 2, none⟩ = some (.int .i64 (p : Int)) ∧ w'.cell? ⟨wr.heap.size, 3, none⟩ = some (.int .i64 (q : Int)) ∧ Hid (WA.grownBy w' v0.ownBlock)) (first | exact keepH f0 f1 f2 f3 HNE.out (grown_of_below HBC.out) | exact keepH f0 f1 f2 f3 HNE.out (grown_of_below (hb_bytes HBC.out _)) | exact keepH f0 f1 f2 f3 HNE.out ((grown_of_below (hb_bytes HBC.out _)).trans hgrow4)) (first | (go_simp; go_at_call 25; refine (spec_l05Short_calls _ _ (by assumption)).mono ?_; rintro e w' ⟨rfl, hb⟩; have HBC := Lib.hid (hb_call HBC.out hb)) | (go_simp; go_at_call 24; refine (spec_l01Var_calls _ _ (by assumption)).mono ?_; rintro e w' ⟨rfl, hb⟩; have HBC := Lib.hid (hb_call HBC.out hb)) | (refine step_appH (by rfl) (.tmp 24) (.tmp 40) (by rfl) w1.heap.size v0 _ (by simp [Act.eval, Act.put]) (HOA.out.below (hb_bytes HBC.out _)) ⟨w'.heap.size, 0, none⟩ (grownCap w' ((shortB (ub k)).length + (varBytes g).length + (varBytes p).length + (varBytes q).length) 0 5) (spBytes (k, (g : Int), (p : Int), (q : Int))) (by rw [HKL.out]; simp [Act.eval, Act.put]) (HNW.out w') (by have := HSL.out; omega) (Nat.le_trans HBA.out.size (hb_bytes HBC.out _).size) ?_; intro v4 w4 hown4 hgrow4))
        have HON : Hid (OwnB w4 w1.heap.size v4 (varBytes ds.length ++ spsBytes (ds.take (i + 1)))) := by rw [Hid, HSN.out, ← List.append_assoc]; exact hown4
        have hbw := HBA.out.trans ((hb_bytes HBC.out (bs (shortB (ub k)) ++ bs (varBytes g) ++ bs (varBytes p) ++ bs (varBytes q))).mono HBA.out.size)
        have HBN : Hid (Below w1.heap.size w1 w4) := hbw.grown hgrow4 hbw.size fun b hb => (HOA.out.lt b hb).1
        clear hown4 hgrow4 hbw
        go_wp2
        go_roundw
        case rel => first | exact ⟨i + 1, v4, by omega, by go_num, rfl, HON, HBN⟩ | (repeat (first | (refine ⟨?relx, rfl⟩; exact ⟨i + 1, v4, by omega, by go_num, rfl, HON, HBN⟩) | (refine ⟨?relx, ?eqs⟩; (case eqs => (and_intros <;> rfl)); exact ⟨i + 1, v4, by omega, by go_num, rfl, HON, HBN⟩) | apply Exists.intro))
        case measure => simp [intOf]; omega
      · obtain rfl : i = ds.length := by omega
        have HOE : Hid (OwnB wr w1.heap.size v0 (hintInner ds)) := by have h := HO.out; rw [List.take_length] at h; exact h
        have HBF := Lib.hid (HB1.out.trans (HBE.out.mono HB1.out.size))
        have hil := HIL.out
        have HS : Hid (sealedB (ub (bs (hintInner ds))) = some (hintInner ds ++ sum4 (hintInner ds))) := by rw [Hid, ub_bs, sealedB_yes (by omega)]
        clear hlb
        generalize hintInner ds ++ sum4 (hintInner ds) = RR at HE HS
        generalize hintInner ds = BB at HOE HS hil
        obtain ⟨A', c', rfl⟩ := HOE.out.slice
        have hcv := HOE.out.string
        have hni : ¬ (ds.length : Int) < (ds.length : Int) := by omega
        go_wp2_with fail
        go_at_call 26
        refine (spec_Sealed_calls (bs BB) _ (by rw [bs_size]; omega)).mono ?_
        rw [HS.out]
        rintro e w5 ⟨rfl, hb⟩
        simp only [varRes]
        go_wp2
        go_ret2
        exact ⟨by rw [HE.out]; rfl, hb_call HBF.out hb⟩
end Go.Proofs.Ytdkdlgioabjldaa

namespace Go.Proofs.Ytdkdlgioabjldaa
set_option linter.unusedVariables false
set_option linter.unusedSimpArgs false
open Go.RowKit
attribute [local go_sem] bs_size List.length_cons List.length_nil List.length_append

theorem own_setS {w : World} {B : Nat} {te : TypeId} {m n n' g cap : Nat} {v : Value} {fl : List Value} (h : w.ownsRow B te m v n fl) (hv : v = .slice (some ⟨g, 0, none⟩) n' cap) (j : Nat) (x : Value) : (w.setCell ⟨g, j, none⟩ x).ownsRow B te m v n (fl.set j x) := by
  refine ⟨by rw [List.length_set]; exact h.1, ?_⟩
  rcases h.2 with ⟨h1, _⟩ | ⟨g', cap', cur, h1, h2, h3, h4, h5, h6, h7⟩
  · rw [hv] at h1; cases h1
  · rw [hv] at h1
    cases h1
    refine .inr ⟨g, cap, cur.setIfInBounds j x, hv, h2, blk_set h3 j x, h4, h5, by simp [h6], ?_⟩
    rw [Array.toList_setIfInBounds, List.take_set, h7]
theorem flat_setS {α β : Type} {f : α → List β} {m : Nat} (hf : ∀ x, (f x).length = m) : ∀ (xs : List α) (j d : Nat) (x x' : α) (y : β), xs[j]? = some x → d < m → (f x).set d y = f x' → ((xs.map f).flatten).set (j * m + d) y = ((xs.set j x').map f).flatten
  | [], j, d, x, x', y, h, _, _ => by simp at h
  | z :: xs, 0, d, x, x', y, h, hd, he => by
    obtain rfl : z = x := by simpa using h
    rw [List.map_cons, List.flatten_cons, Nat.zero_mul, Nat.zero_add, List.set_append_left _ _ (by rw [hf]; exact hd), he]
    rfl
  | z :: xs, j + 1, d, x, x', y, h, hd, he => by
    have e : (j + 1) * m + d = (f z).length + (j * m + d) := by rw [hf, Nat.add_mul]; omega
    rw [List.map_cons, List.flatten_cons, e, List.set_append_right _ _ (Nat.le_add_right ..), Nat.add_sub_cancel_left, flat_setS hf xs j d x x' y (by simpa using h) hd he]
    rfl
theorem pick3S (g : Nat) (s1 s2 : ByteArray) (W : World) (h : Cu W g) (h1 : s1.size ≤ 21) (h2 : s2.size ≤ 21) :
    Calls Try.prog 35 #[.pointer (some ⟨g, 0, none⟩), .slice (some ⟨W.heap.size, 0, none⟩) 3 3] (W.alloc (.cells #[.string ⟨#[]⟩, .string s1, .string s2] 9)) fun e w' => ∃ x, e = .returned (.string x) ∧ x.size ≤ 25 ∧ Drawn W g w' := by
  have hsz : ∀ s ∈ [⟨#[]⟩, s1, s2], s.size ≤ 21 := by
    intro s hs
    simp only [List.mem_cons, List.not_mem_nil, or_false] at hs
    rcases hs with rfl | rfl | rfl
    · decide
    · exact h1
    · exact h2
  have hblk : StrBlk (W.alloc (.cells #[.string ⟨#[]⟩, .string s1, .string s2] 9)) W.heap.size 3 [⟨#[]⟩, s1, s2] := ⟨[], by rw [blk_new]; rfl, rfl, by omega⟩
  refine (spec_l01Pick_calls g (some ⟨W.heap.size, 0, none⟩) 3 [⟨#[]⟩, s1, s2] _ (h.alloc _) (hblk.row fun s hs => by have := hsz s hs; omega) (by simp) (by simp) ?_).mono ?_
  · intro ad e
    have := h.lt
    cases e
    show W.heap.size ≠ g
    omega
  · rintro e w' ⟨x, hx, rfl, hd⟩
    exact ⟨x, rfl, by have := hsz x hx; omega, (Drawn.alloc h _).trans hd⟩
/-- append of spots to a row of one's own that is not nil. -/
theorem wpList_appSp {ops : Array Oper} {rest : List Oper} {o : Oper} {a : Act} {w : World} {Q : Exit → Act → World → Prop} (hgd : o.guard = none) (sl x : Operand)
    (ho : o.op = .call { callee := .builtin .append, args := #[sl, x], argTypes := #[24, 24] }) (B b cc : Nat) (xs ws : List SpotD) (n : Nat) (hs : a.eval sl = .slice (some ⟨b, 0, none⟩) n cc) (hn : n = xs.length) (hown : SpOwn w B (.slice (some ⟨b, 0, none⟩) n cc) xs)
    (ad : Addr) (m c : Nat) (hx : a.eval x = .slice (some ad) m c) (hm : m = ws.length) (hnews : ∀ j u, (spFlat ws)[j]? = some u → w.cell? (ad.add j) = some u) (hlen : xs.length + ws.length ≤ 1000000000) (hbase : B ≤ w.heap.size)
    (h : ∀ g cap w', SpOwn w' B (.slice (some ⟨g, 0, none⟩) (xs ++ ws).length cap) (xs ++ ws) → w.grownBy w' (some b) → wpList Try.prog ops Q rest (a.put o.dst (.slice (some ⟨g, 0, none⟩) (xs ++ ws).length cap)) w') :
    wpList Try.prog ops Q (o :: rest) a w := by
  obtain ⟨i0, hi, hz, hsz, hby⟩ := info_parts info_sp
  subst hm hn
  refine wpList_append_own (P := Try.prog) w hgd sl x 24 ho B 31 i0 (.agg #[.string ⟨#[]⟩, .int .i64 0, .int .i64 0, .int .i64 0]) 4 40 Try.underlying24 hi hz hsz hby rfl (by omega) _ xs.length (spFlat xs) hs hown ad ws.length c (spFlat ws) hx (spFlat_len ws) hnews ?_ (by unfold maxLen; omega) (by omega) hbase ?_
  · intro u hu
    unfold spFlat at hu
    obtain ⟨l, hl, hu⟩ := List.mem_flatten.1 hu
    obtain ⟨y, _, rfl⟩ := List.mem_map.1 hl
    unfold spVals at hu
    simp only [List.mem_cons, List.not_mem_nil, or_false] at hu
    rcases hu with rfl | rfl | rfl | rfl <;> rfl
  intro v' w' hown' hgrow hiff
  have ho' : SpOwn w' B v' (xs ++ ws) := by
    unfold SpOwn
    rw [List.length_append, show spFlat (xs ++ ws) = spFlat xs ++ spFlat ws by simp [spFlat]]
    exact hown'
  obtain ⟨A, cap, rfl⟩ := ho'.form
  cases A with
  | none =>
    exfalso
    rcases ho'.2 with ⟨e, h0⟩ | ⟨g, c2, cur, e, _⟩
    · have := (hiff.1 e).1
      cases this
    · cases e
  | some ad' =>
    rcases ho'.2 with ⟨e, h0⟩ | ⟨g, c2, cur, e, _⟩
    · cases e
    · injection e with e1 e2 e3
      obtain rfl := Option.some.inj e1
      exact h g cap w' ho' hgrow
/-- The row under way. -/
structure KX (w : World) (g b cap : Nat) (ds : List SpotD) (W : World) : Prop where
  drawn : Drawn w g W
  own : SpOwn W w.heap.size (.slice (some ⟨b, 0, none⟩) ds.length cap) ds
  sm : ∀ x ∈ ds, x.1.size ≤ 1000
  len : ds.length ≤ 100000000
section
variable {w W W' : World} {g b cap : Nat} {ds : List SpotD}
theorem KX.ge (h : KX w g b cap ds W) : w.heap.size ≤ b := (h.own.lt b rfl).1
theorem KX.base (h : KX w g b cap ds W) : w.heap.size ≤ W.heap.size := h.drawn.2.size
theorem KX.draw (h : KX w g b cap ds W) (hg : g < w.heap.size) (hd : Drawn W g W') : KX w g b cap ds W' :=
  ⟨h.drawn.trans hd, World.ownsRow.kept h.own hd.2 (.inr fun e => by have := h.ge; have e : b = g := Option.some.inj e; omega), h.sm, h.len⟩
theorem KX.below (h : KX w g b cap ds W) (hg : g < w.heap.size) (hb : Below W.heap.size W W') : KX w g b cap ds W' := ⟨h.drawn.below hg hb, h.own.below hb, h.sm, h.len⟩
theorem KX.alloc (h : KX w g b cap ds W) (hg : g < w.heap.size) (o : Obj) : KX w g b cap ds (W.alloc o) := h.below hg ((Below.refl _ _).alloc (Nat.le_refl _) o)
theorem KX.app {b' cap' : Nat} {x : SpotD} (h : KX w g b cap ds W) (hg : g < w.heap.size) (ho : SpOwn W' w.heap.size (.slice (some ⟨b', 0, none⟩) (ds ++ [x]).length cap') (ds ++ [x])) (hgr : W.grownBy W' (some b)) (hx : x.1.size ≤ 1000) (hl : ds.length < 100000000) : KX w g b' cap' (ds ++ [x]) W' :=
  ⟨h.drawn.grown hg hgr (fun k e => by have := h.ge; cases e; omega), ho, fun y hy => by
    rcases List.mem_append.1 hy with hy | hy
    · exact h.sm y hy
    · obtain rfl := List.mem_singleton.1 hy; exact hx, by rw [List.length_append]; exact hl⟩
theorem KX.set {k d : Nat} {x x' : SpotD} {y : Value} (h : KX w g b cap ds W) (hg : g < w.heap.size) (hk : ds[k]? = some x) (hd : d < 4) (he : (spVals x).set d y = spVals x') (hs : x'.1.size ≤ 1000) : KX w g b cap (ds.set k x') (W.setCell ⟨b, k * 4 + d, none⟩ y) := by
  have hge := h.ge
  have h1 := own_setS h.own rfl (k * 4 + d) y
  unfold spFlat at h1
  rw [flat_setS (f := spVals) (m := 4) (fun _ => rfl) ds k d x x' y hk hd he] at h1
  refine ⟨h.drawn.grown hg (gr_set W b (k * 4 + d) y) (fun k e => by cases e; omega), by unfold SpOwn; rw [List.length_set]; exact h1, fun z hz => ?_, by rw [List.length_set]; exact h.len⟩
  rcases List.mem_or_eq_of_mem_set hz with hz | rfl
  · exact h.sm z hz
  · exact hs
theorem KX.cells {k : Nat} {x : SpotD} (h : KX w g b cap ds W) (hx : ds[k]? = some x) : W.cell? ⟨b, k * 4, none⟩ = some (.string x.1) ∧ W.cell? ⟨b, k * 4 + 1, none⟩ = some (.int .i64 x.2.1) ∧ W.cell? ⟨b, k * 4 + 2, none⟩ = some (.int .i64 x.2.2.1) ∧ W.cell? ⟨b, k * 4 + 3, none⟩ = some (.int .i64 x.2.2.2) := by
  rcases own_cells (f := spVals) (m := 4) (fun _ => rfl) h.own with ⟨h1, _⟩ | ⟨b', cap, h1, _, _, _, _, hc⟩
  · cases h1
  · cases h1
    exact ⟨hc k x 0 hx (by omega), hc k x 1 hx (by omega), hc k x 2 hx (by omega), hc k x 3 hx (by omega)⟩
theorem KX.frozen (h : KX w g b cap ds W) (j : Nat) : W.frozen? ⟨b, j, none⟩ = false := by
  rcases h.own.2 with ⟨h1, _⟩ | ⟨b', cap, cur, h1, _, hb, _⟩
  · cases h1
  · cases h1
    exact blk_frozen hb j
end
def SpPost (w : World) (g : Nat) (e : Ending) (w' : World) : Prop := ∃ v ds, e = .returned v ∧ SpOwn w' w.heap.size v ds ∧ (∀ x ∈ ds, x.1.size ≤ 1000) ∧ Drawn w g w'
theorem kx_end {w W : World} {g b cap : Nat} {ds : List SpotD} (h : KX w g b cap ds W) : SpPost w g (.returned (.slice (some ⟨b, 0, none⟩) ds.length cap)) W := ⟨_, ds, rfl, h.own, h.sm, h.drawn⟩
theorem kT_small (i : Nat) (h : i ≤ 300) : (bs (Lib.itoa (1000 + (i : Int)))).size ≤ 31 := by
  rw [bs_size]
  exact itoa_len _ (by omega) (by omega)
set_option maxHeartbeats 8000000 in
set_option maxRecDepth 100000 in
theorem spec_l07Dir_calls (g : Nat) (w : World) (h : Cu w g) : Calls Try.prog 11 #[.pointer (some ⟨g, 0, none⟩)] w (SpPost w g) := by
  have HGL := Lib.hid h.lt
  have HC := Lib.hid h
  clear h
  go_enter Try.func11, Try.ntmps11
  go_wp2_with fail
  go_at_call 33
  refine (spec_l06Disk_calls g w HC.out).mono ?_
  rintro e w1 ⟨v1, fs, rfl, ho, hsm, hd⟩
  obtain ⟨A1, c1, hv1, hr1⟩ := ho.row hsm.big
  subst hv1
  have HD1 := Lib.hid hd
  have HR1 := Lib.hid hr1
  clear ho hsm hd hr1
  go_wp2_with fail
  go_at_call 32
  refine (spec_DirOf_calls A1 c1 fs _ HR1.out).mono ?_
  rintro e w2 ⟨v2, rfl, ho2, hb2⟩
  have hdl := dirB_len fs
  have hds := dirB_small fs
  have HO2 := Lib.hid ho2
  have HD2 := Lib.hid (HD1.out.below HGL.out hb2)
  have HSZ := Lib.hid (Nat.le_trans HD1.out.2.size hb2.size)
  generalize dirB fs = D at hdl hds HO2
  generalize (!(segsB fs).isEmpty) = ob
  clear ho2 hb2 HR1 HD1
  have HSM : Hid (∀ x ∈ D, x.1.size ≤ 1000) := fun x hx => by have := hds x hx; omega
  clear hds
  have HN0 : Hid (SpOwn (w2.alloc (.cells #[] 31)) w.heap.size (.slice (some ⟨w2.heap.size, 0, none⟩) 0 0) []) := World.ownsRow_made (w := w2) #[] 0 HSZ.out (Nat.zero_le _) rfl
  have HAL : Hid (Below w2.heap.size w2 (w2.alloc (.cells #[] 31))) := (Below.refl _ _).alloc (Nat.le_refl _) _
  rcases own_cells (f := spVals) (m := 4) (fun _ => rfl) HO2.out with ⟨hv2, hD0⟩ | ⟨g2, cap2, hv2, _, hg2, hn2, hm2, hc2⟩
  · subst hv2 hD0
    have HE : Hid (KX w g w2.heap.size 0 [] (w2.alloc (.cells #[] 31))) := ⟨HD2.out.below HGL.out HAL.out, HN0.out, fun x hx => by simp at hx, by simp⟩
    go_wp2
    go_ret
    exact kx_end HE.out
  · subst hv2
    have HNEWS : Hid (∀ j u, (spFlat D)[j]? = some u → (w2.alloc (.cells #[] 31)).cell? ((⟨g2, 0, none⟩ : Addr).add j) = some u) := fun j u hu => World.ownsRow.cells (own_keep HO2.out HAL.out) rfl j u hu
    clear hg2 hn2 hm2 hc2
    go_upto_if 18 with (at_builtin; refine wpList_appSp rfl _ _ rfl w.heap.size w2.heap.size 0 [] D 0 rfl rfl HN0.out ⟨g2, 0, none⟩ D.length cap2 rfl rfl HNEWS.out (by simp; omega) (Nat.le_trans HSZ.out HAL.out.size) ?_; intro b3 cap3 w3 ho3 hgr3; rw [List.nil_append] at ho3 ⊢; have HX3 : Hid (KX w g b3 cap3 D w3) := ⟨(HD2.out.below HGL.out HAL.out).grown HGL.out hgr3 (fun k e => (by cases e; exact HSZ.out)), ho3, HSM.out, by omega⟩; clear ho3 hgr3)
    clear HN0 HAL HNEWS HO2 HD2
    by_cases hD : D.length = 0
    · have hD2 : (D.length : Int) = 0 := by omega
      go_wp2
      go_ret
      exact kx_end HX3.out
    · have hD2 : ¬ (D.length : Int) = 0 := by omega
      go_wp2_with fail
      go_at_call 34
      refine (spec_l01Below_calls g (D.length : Int) _ HX3.out.drawn.1 (by omega)).mono ?_
      rintro e w4 ⟨k', rfl, hk0, hk1, _, hd⟩
      obtain ⟨k, rfl⟩ : ∃ k : Nat, k' = (k : Int) := ⟨k'.toNat, by omega⟩
      have hkl : (k : Int) < (D.length : Int) := hk1 (by omega)
      have HX4 := Lib.hid (HX3.out.draw HGL.out hd)
      clear hd hk1 HX3
      go_wp2_with fail
      go_at_call 34
      refine (spec_l01Below_calls g 20 _ HX4.out.drawn.1 (by omega)).mono ?_
      rintro e w5 ⟨x, rfl, hx0, _, _, hd⟩
      have HX5 := Lib.hid (HX4.out.draw HGL.out hd)
      clear hd HX4
      obtain ⟨y, hy⟩ : ∃ y, D[k]? = some y := ⟨_, List.getElem?_eq_getElem (by omega)⟩
      have HY := Lib.hid hy
      have HYS := Lib.hid (HSM.out y (List.mem_of_getElem? hy))
      obtain ⟨yn, ys, ya, yq⟩ := y
      clear hy
      go_upto_block 0 with fail
      go_cut [3] from 7 (fun dv wx => ∃ (b cap n : Nat) (ds : List SpotD), dv = .slice (some ⟨b, 0, none⟩) n cap ∧ n = ds.length ∧ Hid (KX w g b cap ds wx))
      case first =>
        obtain rfl | rfl | rfl | rfl | rfl | rfl | hx6 : x = 0 ∨ x = 1 ∨ x = 2 ∨ x = 3 ∨ x = 4 ∨ x = 5 ∨ 6 ≤ x := by omega
        · go_wp2_with fail
          go_at_call 36
          refine (spec_l01Long_calls 21 65 65 _ rfl (by omega)).mono ?_
          rintro e w6 ⟨z, rfl, hz, hb⟩
          have HX6 := Lib.hid (HX5.out.below HGL.out hb)
          clear hb HX5
          go_wp2_with fail
          go_at_call 35
          refine (pick3S g ⟨#[122, 122]⟩ z _ HX6.out.drawn.1 (by decide) (by omega)).mono ?_
          rintro e w7 ⟨s, rfl, hs, hd⟩
          have HX7 := Lib.hid (HX6.out.draw HGL.out hd)
          have k0 := (HX7.out.cells HY.out).1
          have f0 := HX7.out.frozen (k * 4)
          clear hd HX6
          go_wp2
          go_meet
          case rel => exact ⟨_, _, _, D.set k (s, ys, ya, yq), rfl, (List.length_set ..).symm, HX7.out.set (d := 0) HGL.out HY.out (by omega) rfl (by show s.size ≤ 1000; omega)⟩
        · go_wp2_with fail
          go_at_call 37
          refine (pickInt_lit g _ _ [-1, 99, 100] _ _ HX5.out.drawn.1 (by rfl) (by rfl) (by rfl) (by decide) (by decide)).mono ?_
          rintro e w7 ⟨z, _, rfl, hd⟩
          have HX7 := Lib.hid (HX5.out.draw HGL.out hd)
          have k0 := (HX7.out.cells HY.out).2.1
          have f0 := HX7.out.frozen (k * 4 + 1)
          clear hd HX5
          go_wp2
          go_meet
          case rel => exact ⟨_, _, _, D.set k (yn, z, ya, yq), rfl, (List.length_set ..).symm, HX7.out.set (d := 1) HGL.out HY.out (by omega) rfl HYS.out⟩
        · go_wp2_with fail
          go_at_call 37
          refine (pickInt_lit g _ _ [-1, 20000, 20001] _ _ HX5.out.drawn.1 (by rfl) (by rfl) (by rfl) (by decide) (by decide)).mono ?_
          rintro e w7 ⟨z, _, rfl, hd⟩
          have HX7 := Lib.hid (HX5.out.draw HGL.out hd)
          have k0 := (HX7.out.cells HY.out).2.2.1
          have f0 := HX7.out.frozen (k * 4 + 2)
          clear hd HX5
          go_wp2
          go_meet
          case rel => exact ⟨_, _, _, D.set k (yn, ys, z, yq), rfl, (List.length_set ..).symm, HX7.out.set (d := 2) HGL.out HY.out (by omega) rfl HYS.out⟩
        · go_wp2_with fail
          go_at_call 37
          refine (pickInt_lit g _ _ [-1, 1000000000, 1000000001] _ _ HX5.out.drawn.1 (by rfl) (by rfl) (by rfl) (by decide) (by decide)).mono ?_
          rintro e w7 ⟨z, _, rfl, hd⟩
          have HX7 := Lib.hid (HX5.out.draw HGL.out hd)
          have k0 := (HX7.out.cells HY.out).2.2.2
          have f0 := HX7.out.frozen (k * 4 + 3)
          clear hd HX5
          go_wp2
          go_meet
          case rel => exact ⟨_, _, _, D.set k (yn, ys, ya, z), rfl, (List.length_set ..).symm, HX7.out.set (d := 3) HGL.out HY.out (by omega) rfl HYS.out⟩
        · obtain ⟨k0, k1, k2, k3⟩ := HX5.out.cells HY.out
          have HA := Lib.hid (HX5.out.alloc HGL.out (.cells #[.string yn, .int .i64 ys, .int .i64 ya, .int .i64 yq] 31))
          have HNEWS : Hid (∀ j u, (spFlat [(yn, ys, ya, yq)])[j]? = some u → (w5.alloc (.cells #[.string yn, .int .i64 ys, .int .i64 ya, .int .i64 yq] 31)).cell? ((⟨w5.heap.size, 0, none⟩ : Addr).add j) = some u) := World.news_of_block (heap_alloc_new w5 _)
          go_wp2_with (at_builtin; refine wpList_appSp rfl _ _ rfl w.heap.size b3 cap3 D [(yn, ys, ya, yq)] D.length rfl rfl HA.out.own ⟨w5.heap.size, 0, none⟩ 1 1 rfl rfl HNEWS.out (by simp; omega) HA.out.base ?_; intro b7 cap7 w7 ho7 hgr7; have HX7 := Lib.hid (HA.out.app HGL.out ho7 hgr7 HYS.out (by omega)); clear ho7 hgr7)
          go_meet
          case rel => exact ⟨_, _, _, _, rfl, (by simp), HX7⟩
        · have HE : Hid (KX w g w5.heap.size 0 [] (w5.alloc (.cells #[] 31))) := ⟨(HX5.out.alloc HGL.out _).drawn, World.ownsRow_made (w := w5) #[] 0 HX5.out.base (Nat.zero_le _) rfl, fun x hx => by simp at hx, by simp⟩
          clear HX5 HSM HY HYS
          go_wp2
          go_loopw [3, 6] (fun dv iv wr => ∃ (i b cap : Nat) (ds : List SpotD), iv = .int .i64 (i : Int) ∧ i ≤ 201 ∧ dv = .slice (some ⟨b, 0, none⟩) i cap ∧ Hid (ds.length = i) ∧ Hid (KX w g b cap ds wr)) (fun _ iv _ => 202 - (intOf iv).toNat)
          case atStart => exact ⟨0, _, _, [], rfl, by omega, rfl, rfl, HE⟩
          case round =>
            clear HE
            obtain ⟨i, b, cap, ds, rfl, hi, rfl, HLN, HX⟩ := hrel
            rename World => w8
            go_wp2_with fail
            go_at_call 34
            refine (spec_l01Below_calls g 2 _ HX.out.drawn.1 (by omega)).mono ?_
            rintro e w9 ⟨y, rfl, hy0, hy1, _, hd⟩
            have hy1 := hy1 (by omega)
            have HX9 := Lib.hid (HX.out.draw HGL.out hd)
            clear hd HX
            by_cases hlt : (i : Int) < 200 + y
            · go_wp2_with fail
              go_at_call 38
              refine (spec_Decimal_calls (1000 + (i : Int)) _ (by omega) (by omega)).mono ?_
              rintro e w10 ⟨rfl, hb⟩
              have HX10 := Lib.hid (HX9.out.below HGL.out hb)
              have hks := kT_small i (by omega)
              have hks2 : (Lib.itoa (1000 + (i : Int))).length ≤ 31 := by rw [bs_size] at hks; exact hks
              have hks3 : ¬ (9223372036854775807 < 1 + (Lib.itoa (1000 + (i : Int))).length) := by omega
              have HKS : Hid (((⟨#[107]⟩ : ByteArray) ++ bs (Lib.itoa (1000 + (i : Int)))).size ≤ 1000) := by rw [Hid, ByteArray.size_append]; show 1 + _ ≤ 1000; omega
              have HA := Lib.hid (HX10.out.alloc HGL.out (.cells #[.string ((⟨#[107]⟩ : ByteArray) ++ bs (Lib.itoa (1000 + (i : Int)))), .int .i64 0, .int .i64 0, .int .i64 0] 31))
              have HNEWS : Hid (∀ j u, (spFlat [(((⟨#[107]⟩ : ByteArray) ++ bs (Lib.itoa (1000 + (i : Int)))), 0, 0, 0)])[j]? = some u → (w10.alloc (.cells #[.string ((⟨#[107]⟩ : ByteArray) ++ bs (Lib.itoa (1000 + (i : Int)))), .int .i64 0, .int .i64 0, .int .i64 0] 31)).cell? ((⟨w10.heap.size, 0, none⟩ : Addr).add j) = some u) := World.news_of_block (heap_alloc_new w10 _)
              have HOWN : Hid (SpOwn (w10.alloc (.cells #[.string ((⟨#[107]⟩ : ByteArray) ++ bs (Lib.itoa (1000 + (i : Int)))), .int .i64 0, .int .i64 0, .int .i64 0] 31)) w.heap.size (.slice (some ⟨b, 0, none⟩) i cap) ds) := by have := HA.out.own; rw [HLN.out] at this; exact this
              clear hb HX9
              go_wp2_with (at_builtin; refine wpList_appSp rfl _ _ rfl w.heap.size b cap ds [(((⟨#[107]⟩ : ByteArray) ++ bs (Lib.itoa (1000 + (i : Int)))), 0, 0, 0)] i rfl HLN.out.symm HOWN.out ⟨w10.heap.size, 0, none⟩ 1 1 rfl rfl HNEWS.out (by rw [HLN.out]; simp; omega) HA.out.base ?_; intro b7 cap7 w7 ho7 hgr7; have HX7 := Lib.hid (HA.out.app HGL.out ho7 hgr7 HKS.out (by rw [HLN.out]; omega)); clear ho7 hgr7)
              go_roundw
              case rel => exact ⟨i + 1, b7, cap7, _, by go_num, by omega, by rw [HLN.out], by rw [Hid, List.length_append, HLN.out]; rfl, HX7⟩
              case measure => simp [intOf]; omega
            · go_wp2
              go_meet
              case rel => exact ⟨b, cap, i, ds, rfl, HLN.out.symm, HX9⟩
        · have n0 : ¬ x = 0 := by omega
          have n1 : ¬ x = 1 := by omega
          have n2 : ¬ x = 2 := by omega
          have n3 : ¬ x = 3 := by omega
          have n4 : ¬ x = 4 := by omega
          have n5 : ¬ x = 5 := by omega
          go_wp2
          go_meet
          case rel => exact ⟨_, _, _, _, rfl, rfl, HX5⟩
      case rest =>
        clear HX5 HY HYS
        obtain ⟨b, cap, n, ds, rfl, rfl, HX⟩ := hcut
        go_wp2
        go_ret
        exact kx_end HX.out
set_option maxRecDepth 100000 in
theorem spec_DrawHintText_calls (A : Option Addr) (c n : Nat) (w : World) (h : ByRow w A n) :
    Calls Try.prog 5 #[.slice A n c] w fun e w' => ∃ A' c' ds, e = .returned (.slice A' ds.length c') ∧ SpRow w' A' c' ds ∧ Below w.heap.size w w' := by
  have HBR := Lib.hid h
  clear h
  go_enter Try.func5, Try.ntmps5
  go_wp2_with fail
  go_at_call 12
  refine (spec_l01New_calls A c n _ HBR.out).mono ?_
  rintro e w1 ⟨g, rfl, hg, hcu, hb⟩
  have HG := Lib.hid hg
  have HC := Lib.hid hcu
  have HB1 := Lib.hid hb
  clear hg hcu hb
  go_wp2_with fail
  go_at_call 11
  refine (spec_l07Dir_calls g _ HC.out).mono ?_
  rintro e w2 ⟨v, ds, rfl, ho, hs, hd⟩
  obtain ⟨A', c', hv, hr⟩ := ho.row (fun x hx => by have := hs x hx; omega)
  subst hv
  have HR := Lib.hid hr
  have HD := Lib.hid (hd.seen HB1.out HG.out)
  clear ho hs hd hr
  go_wp2
  go_ret
  exact ⟨A', c', ds, rfl, HR.out, HD.out⟩
theorem hintUni (ds : List SpotD) : ∃ (s : ByteArray) (b : Bool), varRes (hintText ds) = .tuple #[.string s, .bool b] ∧ s.size ≤ 20000 ∧ (b = true → hintText ds = some (ub s)) ∧ (b = false → hintText ds = none) := by
  cases h : hintText ds with
  | none => exact ⟨⟨#[]⟩, false, rfl, by decide, (fun e => by cases e), fun _ => rfl⟩
  | some l =>
    refine ⟨bs l, true, rfl, ?_, (fun _ => by rw [ub_bs]), fun e => by cases e⟩
    have := unsealed_hint (s := bs l) (ds := ds) (by unfold IsHint; rw [ub_bs]; exact h)
    omega
theorem unsUni (s : ByteArray) (hs : s.size ≤ 30000) : ∃ (t : ByteArray) (b : Bool), varRes (unsealed (ub s)) = .tuple #[.string t, .bool b] ∧ t.size ≤ 30000 := by
  cases h : unsealed (ub s) with
  | none => exact ⟨⟨#[]⟩, false, rfl, by decide⟩
  | some l =>
    refine ⟨bs l, true, rfl, ?_⟩
    have := congrArg List.length (unsealed_took h)
    rw [List.length_append, ub_length] at this
    rw [bs_size]
    omega
theorem seaUni (s : ByteArray) : ∃ (t : ByteArray) (b : Bool), varRes (sealedB (ub s)) = .tuple #[.string t, .bool b] ∧ t.size ≤ 30000 := by
  by_cases h : (ub s).length ≤ 20000
  · rw [sealedB_yes h]
    refine ⟨_, true, rfl, ?_⟩
    rw [bs_size, List.length_append, sum4_len]
    omega
  · have : sealedB (ub s) = none := by unfold sealedB; rw [if_neg (by simpa using h)]
    rw [this]
    exact ⟨⟨#[]⟩, false, rfl, by decide⟩
set_option maxRecDepth 100000 in
theorem spec_DrawReadHint_calls (A : Option Addr) (c n : Nat) (w : World) (h : ByRow w A n) :
    Calls Try.prog 9 #[.slice A n c] w fun e w' => ∃ s, e = .returned (.string s) ∧ s.size ≤ 30001 ∧ Below w.heap.size w w' := by
  have HBR := Lib.hid h
  clear h
  go_enter Try.func9, Try.ntmps9
  go_wp2_with fail
  go_at_call 12
  refine (spec_l01New_calls A c n _ HBR.out).mono ?_
  rintro e w1 ⟨g, rfl, hg, hcu, hb⟩
  have HG := Lib.hid hg
  have HC := Lib.hid hcu
  have HB1 := Lib.hid hb
  clear hg hcu hb
  go_wp2_with fail
  go_at_call 11
  refine (spec_l07Dir_calls g _ HC.out).mono ?_
  rintro e w2 ⟨v, ds, rfl, ho, hs, hd⟩
  obtain ⟨A', c', hv, hr⟩ := ho.row (fun x hx => by have := hs x hx; omega)
  subst hv
  have HR := Lib.hid hr
  have HD := Lib.hid hd
  obtain ⟨s, b, hvt, hsz, _, _⟩ := hintUni ds
  have HVT := Lib.hid hvt
  clear ho hs hd hr hvt
  go_wp2_with fail
  go_at_call 8
  refine (spec_HintText_calls A' c' ds _ HR.out).mono ?_
  rw [HVT.out]
  rintro e w3 ⟨rfl, hb⟩
  have HD3 := Lib.hid (HD.out.trans (HD.out.1.below hb))
  clear hb
  go_wp2_with fail
  go_at_call 27
  refine (spec_l01Once_calls g 3 _ HD3.out.1 (by omega)).mono ?_
  rintro e w4 ⟨b3, rfl, hd⟩
  have HD4 := Lib.hid (HD3.out.trans hd)
  clear hd
  cases b3
  · go_wp2_with fail
    go_at_call 29
    refine (spec_l02Spoilt_calls g s _ HD4.out.1 (by omega)).mono ?_
    rintro e w5 ⟨x, rfl, hx, hd⟩
    have HD5 := Lib.hid (HD4.out.trans hd)
    clear hd
    go_wp2
    go_ret
    exact ⟨x, rfl, by omega, HD5.out.seen HB1.out HG.out⟩
  · obtain ⟨t, b4, hut, hts⟩ := unsUni s (by omega)
    have HUT := Lib.hid hut
    clear hut
    go_wp2_with fail
    go_at_call 28
    refine (spec_Unsealed_calls s _ (by omega)).mono ?_
    rw [HUT.out]
    rintro e w5 ⟨rfl, hb⟩
    have HD5 := Lib.hid (HD4.out.trans (HD4.out.1.below hb))
    clear hb
    cases b4
    · go_wp2
      go_ret
      exact ⟨s, rfl, by omega, HD5.out.seen HB1.out HG.out⟩
    · go_wp2_with fail
      go_at_call 29
      refine (spec_l02Spoilt_calls g t _ HD5.out.1 (by omega)).mono ?_
      rintro e w6 ⟨x, rfl, hx, hd⟩
      have HD6 := Lib.hid (HD5.out.trans hd)
      obtain ⟨u, b6, hst, hus⟩ := seaUni x
      have HST := Lib.hid hst
      clear hd hst
      go_wp2_with fail
      go_at_call 26
      refine (spec_Sealed_calls x _ (by omega)).mono ?_
      rw [HST.out]
      rintro e w7 ⟨rfl, hb⟩
      have HD7 := Lib.hid (HD6.out.trans (HD6.out.1.below hb))
      clear hb
      go_wp2
      go_ret
      exact ⟨u, rfl, by omega, HD7.out.seen HB1.out HG.out⟩
end Go.Proofs.Ytdkdlgioabjldaa

namespace Go.Proofs.Ytdkdlgioabjldaa
set_option linter.unusedVariables false
set_option linter.unusedSimpArgs false
open Go.RowKit
attribute [local go_sem] bs_size List.length_cons List.length_nil List.length_append

abbrev HCt (B gr : Nat) (s : ByteArray) (ds : List SpotD) (v : Value) (a : Nat) (bad : Bool) (w0 w : World) : Prop := RSt 52 31 4 B gr [] s ds.length (spFlat ds) v a bad w0 w
theorem hct_start (s : ByteArray) (bad : Bool) (w : World) : HCt w.heap.size w.heap.size s [] (.slice (some ⟨w.heap.size + 1, 0, none⟩) 0 0) 0 bad w ((w.alloc (.cells #[.string s, .int .i64 0, .bool bad] 52)).alloc (.cells #[] 31)) := by
  refine ⟨((Below.refl _ _).alloc (Nat.le_refl _) _).alloc (by simp) _, gr_old (blk_new w _) _, ?_, fun p hp => (by simp at hp), by simp [Value.ownBlock], Nat.le_refl _⟩
  have := World.ownsRow_made (w := w.alloc (.cells #[.string s, .int .i64 0, .bool bad] 52)) (base := w.heap.size) (e := 31) (size := 4) #[] 0 (by simp) (Nat.zero_le _) rfl
  simpa [spFlat] using this
theorem sShort_len (s : ByteArray) (a : Nat) (b : Bool) : (cShort s a b).1.length ≤ s.size := by
  unfold cShort cTake
  split
  · show ((tail_ s _).take _).length ≤ _
    rw [List.length_take, tail_len]
    omega
  · simp
theorem hsX_small (s : ByteArray) (hs : (hsT s).1.size ≤ 20000) : ∀ x ∈ (hsX s).1, x.1.size ≤ 9223372036854775807 := items_all (fun a => by
  have h1 := sShort_len (hsT s).1 a false
  show (bs (hsK (hsT s).1 a false).1).size ≤ _
  rw [bs_size]
  unfold hsK
  omega) _ _ _
theorem hsT_len (s : ByteArray) : (hsT s).1.size ≤ 20000 := by
  unfold hsT
  cases h : unsealed (ub s) with
  | none => exact Nat.zero_le _
  | some t => show (bs t).size ≤ _; rw [bs_size]; exact unsealed_len h
theorem hsT_res (s : ByteArray) : varRes (unsealed (ub s)) = .tuple #[.string (hsT s).1, .bool (!(hsT s).2)] := by
  unfold hsT
  cases unsealed (ub s) <;> rfl
theorem readHintS_no {s : ByteArray} (h : ¬ ((hsX s).2.2 = false ∧ hintText (hsX s).1 = some (ub s))) : readHintS s = none := if_neg h
theorem readHintS_yes {s : ByteArray} (h2 : (hsX s).2.2 = false) (h3 : hintText (hsX s).1 = some (ub s)) : readHintS s = some (hsX s).1 := if_pos ⟨h2, h3⟩
theorem spS_le (s : ByteArray) {a : Nat} (h : a ≤ s.size) : (spS s a).2.1 ≤ s.size := (rNum_le s _ _ (rNum_le s _ _ (rNum_le s _ _ (cShort_le s false h).1).2.1).2.1).2.1
/-- The end without a directory: an empty row is made. -/
theorem hpost_made {w W : World} (h : Below w.heap.size w W) {o : Option (List SpotD)} (ho : o = none) : HintPost w o (.returned (.tuple #[.slice (some ⟨W.heap.size, 0, none⟩) 0 0, .bool false])) (W.alloc (.cells #[] 31)) := by
  subst ho
  exact ⟨h.alloc h.size _, _, rfl, World.ownsRow_made (w := W) #[] 0 h.size (Nat.zero_le _) rfl⟩
set_option maxHeartbeats 8000000 in
set_option maxRecDepth 100000 in
theorem spec_ReadHint_calls (s : ByteArray) (w : World) (hs : s.size ≤ 1099511627776) : Calls Try.prog 10 #[.string s] w (HintPost w (readHintS s)) := by
  obtain ⟨i0, hi, hz, hsz, hby⟩ := info_parts info_sp
  have hts := hsT_len s
  have HSM := Lib.hid (hsX_small s hts)
  have HUR := Lib.hid (hsT_res s)
  have hW : itemsBy (spS (hsT s).1) (min (hsN s).1 300) (hsN s).2.1 (hsN s).2.2 = hsX s := rfl
  have hN : rNum (hsT s).1 0 (hsT s).2 = hsN s := rfl
  generalize (hsT s).1 = T at hts HUR hW hN
  generalize (hsT s).2 = bd at HUR hN
  have HW := Lib.hid (Reads.start (spS T) (min (hsN s).1 300) (hsN s).2.1 (hsN s).2.2)
  rw [hW] at HW
  have a1 : (hsN s).2.1 ≤ T.size := by rw [← hN]; exact (rNum_le T _ _ (Nat.zero_le _)).2.1
  have HN := Lib.hid hN
  clear hW hN
  go_enter Try.func10, Try.ntmps10
  go_wp2_with fail
  go_at_call 28
  refine (spec_Unsealed_calls s _ (by omega)).mono ?_
  rw [HUR.out]
  rintro e w1 ⟨rfl, hb⟩
  have HB1 := Lib.hid hb
  have HC0 := Lib.hid (hct_start T bd w1)
  clear hb
  go_wp2_with fail
  go_at_call 30
  refine (spec_num_calls _ T _ _ _ HC0.out.rd (Nat.zero_le _) (by omega)).mono ?_
  rw [HN.out]
  rintro e w3 ⟨rfl, hr, hg⟩
  have HC4 := Lib.hid (HC0.out.read hr hg)
  clear hr hg
  generalize (hsN s).1 = n at HW ⊢
  go_wp2
  go_loopw [7, 9] (fun vv iv wr => ∃ (i : Nat) (acc : List SpotD) (v : Value) (a : Nat) (bad : Bool), i ≤ min n 300 ∧ iv = .int .i64 (i : Int) ∧ v = vv ∧ acc.length = i ∧ a ≤ T.size ∧ Reads (spS T) (min n 300) (hsX s) i acc a bad ∧ HCt w1.heap.size w1.heap.size T acc v a bad w1 wr) (fun _ iv _ => min n 300 - (intOf iv).toNat)
  case atStart => exact ⟨0, [], _, (hsN s).2.1, (hsN s).2.2, Nat.zero_le _, rfl, rfl, rfl, a1, HW.out, HC4.out⟩
  case round =>
    obtain ⟨i, acc, v, a, bad, hi', rfl, rfl, hacc, ha, hrd, hst⟩ := hrel
    have HQ := Lib.hid hrd
    have HC5 := Lib.hid hst
    have c2 := hst.rd.c2
    have hal : acc.length ≤ 300 := by omega
    have HAC := Lib.hid hacc
    clear hrd hst hacc
    by_cases hlt : i < min n 300
    · cases bad
      · have hlt1 : i < n := by omega
        have hlt2 : i < 300 := by omega
        have b1 : (hsK T a false).2.1 ≤ T.size := (cShort_le T _ ha).1
        have b2 : (hsS T a false).2.1 ≤ T.size := (rNum_le T _ _ b1).2.1
        have b3 : (hsA T a false).2.1 ≤ T.size := (rNum_le T _ _ b2).2.1
        go_wp2_with fail
        go_at_call 31
        refine (spec_Short_calls _ T _ _ _ HC5.out.rd ha (by omega)).mono ?_
        rw [show cShort T a false = hsK T a false from rfl]
        rintro e w4 ⟨rfl, hr, hg⟩
        have H1 := Lib.hid ((HC5.out.read hr hg).push (.cells #[.string (bs (hsK T a false).1), .int .i64 0, .int .i64 0, .int .i64 0] 31))
        clear hr hg c2
        go_wp2_with fail
        go_at_call 30
        refine (spec_num_calls _ T _ _ _ H1.out.rd b1 (by omega)).mono ?_
        rw [show rNum T (hsK T a false).2.1 (hsK T a false).2.2 = hsS T a false from rfl]
        rintro e w5 ⟨rfl, hr, hg⟩
        have H2 := Lib.hid (H1.out.read hr hg)
        have d1 : w5.cell? ⟨w4.heap.size, 1, none⟩ = some (.int .i64 0) := blk_cell (H2.out.at_ (List.mem_cons_self ..)) 1
        have f1 := gr_frozen (H2.out.at_ (List.mem_cons_self ..)) 1
        have H3 := Lib.hid (H2.out.setTop (fun p hp => by simp at hp) 1 (.int .i64 ((hsS T a false).1 : Int)))
        clear hr hg
        go_wp2_with fail
        go_at_call 30
        refine (spec_num_calls _ T _ _ _ H3.out.rd b2 (by omega)).mono ?_
        rw [show rNum T (hsS T a false).2.1 (hsS T a false).2.2 = hsA T a false from rfl]
        rintro e w6 ⟨rfl, hr, hg⟩
        have H4 := Lib.hid (H3.out.read hr hg)
        have d2 : w6.cell? ⟨w4.heap.size, 2, none⟩ = some (.int .i64 0) := blk_cell (H4.out.at_ (List.mem_cons_self ..)) 2
        have f2 := gr_frozen (H4.out.at_ (List.mem_cons_self ..)) 2
        have H5 := Lib.hid (H4.out.setTop (fun p hp => by simp at hp) 2 (.int .i64 ((hsA T a false).1 : Int)))
        clear hr hg
        go_wp2_with fail
        go_at_call 30
        refine (spec_num_calls _ T _ _ _ H5.out.rd b3 (by omega)).mono ?_
        rw [show rNum T (hsA T a false).2.1 (hsA T a false).2.2 = hsQ T a false from rfl]
        rintro e w7 ⟨rfl, hr, hg⟩
        have H6 := Lib.hid (H5.out.read hr hg)
        have d3 : w7.cell? ⟨w4.heap.size, 3, none⟩ = some (.int .i64 0) := blk_cell (H6.out.at_ (List.mem_cons_self ..)) 3
        have f3 := gr_frozen (H6.out.at_ (List.mem_cons_self ..)) 3
        have H7 := Lib.hid (H6.out.setTop (fun p hp => by simp at hp) 3 (.int .i64 ((hsQ T a false).1 : Int)))
        clear hr hg
        generalize hw8 : w7.setCell ⟨w4.heap.size, 3, none⟩ (.int .i64 ((hsQ T a false).1 : Int)) = w8 at H7
        have x0 : w8.cell? ⟨w4.heap.size, 0, none⟩ = some (.string (bs (hsK T a false).1)) := blk_cell (H7.out.at_ (List.mem_cons_self ..)) 0
        have x1 : w8.cell? ⟨w4.heap.size, 1, none⟩ = some (.int .i64 ((hsS T a false).1 : Int)) := blk_cell (H7.out.at_ (List.mem_cons_self ..)) 1
        have x2 : w8.cell? ⟨w4.heap.size, 2, none⟩ = some (.int .i64 ((hsA T a false).1 : Int)) := blk_cell (H7.out.at_ (List.mem_cons_self ..)) 2
        have x3 : w8.cell? ⟨w4.heap.size, 3, none⟩ = some (.int .i64 ((hsQ T a false).1 : Int)) := blk_cell (H7.out.at_ (List.mem_cons_self ..)) 3
        have H8 := Lib.hid (H7.out.pop.alloc (.cells (spVals (spS T a).1).toArray 31))
        have HOWN := Lib.hid H8.out.own
        have HBASE := Lib.hid H8.out.base
        have HNEWS : Hid (∀ j u, (spVals (spS T a).1)[j]? = some u → (w8.alloc (.cells (spVals (spS T a).1).toArray 31)).cell? ((⟨w8.heap.size, 0, none⟩ : Addr).add j) = some u) := World.news_of_block (heap_alloc_new w8 _)
        go_wp2_with (at_builtin; refine wpList_append_lies _ rfl _ _ _ rfl w1.heap.size 31 i0 (.agg #[.string ⟨#[]⟩, .int .i64 0, .int .i64 0, .int .i64 0]) 4 40 Try.underlying24 hi hz hsz hby rfl (by omega) v acc.length (spFlat acc) rfl HOWN.out ⟨w8.heap.size, 0, none⟩ 1 1 (spVals (spS T a).1) rfl rfl HNEWS.out (by simp [Value.oneCell', spVals]) (by omega) (by unfold maxLen; omega) (by omega) HBASE.out _ rfl ?_; intro g cap w9 hown hgrow hat hlt; have HA := Lib.hid (H8.out.app hown hgrow hat); clear hown hgrow hat hlt)
        all_goals
          have HF := HA.out
          rw [← spFlat_snoc, show acc.length + 1 = (acc ++ [(spS T a).1]).length by simp] at HF
          have HF2 := Lib.hid HF
          clear HF
          go_roundw
          case rel => first | exact ⟨i + 1, acc ++ [(spS T a).1], _, (spS T a).2.1, (spS T a).2.2, by omega, by go_num, rfl, by rw [List.length_append, HAC.out]; rfl, spS_le T ha, HQ.out.step hlt, by have h := HF2.out; unfold HCt; rw [show (acc ++ [(spS T a).1]).length = acc.length + 1 by simp] at h ⊢; exact h⟩ | (repeat (first | (refine ⟨?relx, rfl⟩; exact ⟨i + 1, acc ++ [(spS T a).1], _, (spS T a).2.1, (spS T a).2.2, by omega, by go_num, rfl, by rw [List.length_append, HAC.out]; rfl, spS_le T ha, HQ.out.step hlt, by have h := HF2.out; unfold HCt; rw [show (acc ++ [(spS T a).1]).length = acc.length + 1 by simp] at h ⊢; exact h⟩) | (refine ⟨?relx, ?eqs⟩; (case eqs => (and_intros <;> rfl)); exact ⟨i + 1, acc ++ [(spS T a).1], _, (spS T a).2.1, (spS T a).2.2, by omega, by go_num, rfl, by rw [List.length_append, HAC.out]; rfl, spS_le T ha, HQ.out.step hlt, by have h := HF2.out; unfold HCt; rw [show (acc ++ [(spS T a).1]).length = acc.length + 1 by simp] at h ⊢; exact h⟩) | apply Exists.intro))
          case measure => simp [intOf]; omega
      · have hlt1 : i < n := by omega
        have hlt2 : i < 300 := by omega
        have hW := HQ.out.stop (by simp)
        obtain ⟨A, c, rfl, hrow⟩ := SpOwn.row HC5.out.own (by have := HSM.out; rw [hW] at this; exact this)
        have HRW := Lib.hid hrow
        have HWX := Lib.hid hW
        clear hrow
        have HE := Lib.hid (readHintS_no (s := s) (fun hh => by rw [HWX.out] at hh; cases hh.1))
        clear hW
        cases ho : hintText acc
        all_goals
          have HO := Lib.hid ho
          clear ho
          go_wp2_with fail
          go_at_call 8
          refine (spec_HintText_calls A c acc _ HRW.out).mono ?_
          rw [HO.out]
          rintro e w9 ⟨rfl, hb⟩
          have HC9 := Lib.hid (HC5.out.below hb)
          have cb := HC9.out.rd.c2
          clear hb
          simp only [varRes]
          go_wp2
          go_ret2
          exact hpost_made (HB1.out.trans (HC9.out.bel.mono HB1.out.size)) HE.out
    · obtain rfl : i = min n 300 := by omega
      by_cases h100 : n ≤ 300
      · have hlt1 : ¬ ((min n 300 : Nat) : Int) < (n : Int) := by omega
        cases bad
        · have hW := HQ.out.stop (by simp)
          obtain ⟨A, c, rfl, hrow⟩ := SpOwn.row HC5.out.own (by have := HSM.out; rw [hW] at this; exact this)
          have HRW := Lib.hid hrow
          have HWX := Lib.hid hW
          clear hrow
          cases ho : hintText acc
          · have HO := Lib.hid ho
            have HE := Lib.hid (readHintS_no (s := s) (fun hh => by have h2 := hh.2; rw [hW] at h2; rw [ho] at h2; cases h2))
            clear ho hW
            go_wp2_with fail
            go_at_call 8
            refine (spec_HintText_calls A c acc _ HRW.out).mono ?_
            rw [HO.out]
            rintro e w9 ⟨rfl, hb⟩
            have HC9 := Lib.hid (HC5.out.below hb)
            have cb := HC9.out.rd.c2
            clear hb
            simp only [varRes]
            go_wp2
            go_ret2
            exact hpost_made (HB1.out.trans (HC9.out.bel.mono HB1.out.size)) HE.out
          · rename_i l
            have HO := Lib.hid ho
            by_cases hl : l = ub s
            · have HE : Hid (readHintS s = some acc) := by have h := readHintS_yes (s := s) (by rw [hW]) (by rw [hW]; exact ho.trans (by rw [hl])); rw [hW] at h; exact h
              have hq : ((bs l).toList == s.toList) = true := by rw [hl, bs_ub]; simp
              clear ho hW hl
              go_wp2_with fail
              go_at_call 8
              refine (spec_HintText_calls A c acc _ HRW.out).mono ?_
              rw [HO.out]
              rintro e w9 ⟨rfl, hb⟩
              have HC9 := Lib.hid (HC5.out.below hb)
              have cb := HC9.out.rd.c2
              clear hb
              simp only [varRes]
              go_wp2
              go_ret2
              exact ⟨HB1.out.trans (HC9.out.bel.mono HB1.out.size), by rw [HE.out]; exact ⟨_, rfl, own_low HC9.out.own HB1.out.size⟩⟩
            · have HE := Lib.hid (readHintS_no (s := s) (fun hh => by have h2 := hh.2; rw [hW] at h2; rw [ho] at h2; exact hl (Option.some.inj h2)))
              have hq : ((bs l).toList == s.toList) = false := beq_eq_false_iff_ne.mpr fun z => hl (by rw [← toList_inj.mp z, ub_bs])
              clear ho hW hl
              go_wp2_with fail
              go_at_call 8
              refine (spec_HintText_calls A c acc _ HRW.out).mono ?_
              rw [HO.out]
              rintro e w9 ⟨rfl, hb⟩
              have HC9 := Lib.hid (HC5.out.below hb)
              have cb := HC9.out.rd.c2
              clear hb
              simp only [varRes]
              go_wp2
              go_ret2
              exact hpost_made (HB1.out.trans (HC9.out.bel.mono HB1.out.size)) HE.out
        · have hW := HQ.out.stop (by simp)
          obtain ⟨A, c, rfl, hrow⟩ := SpOwn.row HC5.out.own (by have := HSM.out; rw [hW] at this; exact this)
          have HRW := Lib.hid hrow
          have HWX := Lib.hid hW
          clear hrow
          have HE := Lib.hid (readHintS_no (s := s) (fun hh => by rw [HWX.out] at hh; cases hh.1))
          clear hW
          cases ho : hintText acc
          all_goals
            have HO := Lib.hid ho
            clear ho
            go_wp2_with fail
            go_at_call 8
            refine (spec_HintText_calls A c acc _ HRW.out).mono ?_
            rw [HO.out]
            rintro e w9 ⟨rfl, hb⟩
            have HC9 := Lib.hid (HC5.out.below hb)
            have cb := HC9.out.rd.c2
            clear hb
            simp only [varRes]
            go_wp2
            go_ret2
            exact hpost_made (HB1.out.trans (HC9.out.bel.mono HB1.out.size)) HE.out
      · have hlt1 : ((min n 300 : Nat) : Int) < (n : Int) := by omega
        have hlt2 : ¬ ((min n 300 : Nat) : Int) < 300 := by omega
        cases bad
        · have hW := HQ.out.stop (by simp)
          obtain ⟨A, c, rfl, hrow⟩ := SpOwn.row HC5.out.own (by have := HSM.out; rw [hW] at this; exact this)
          have HRW := Lib.hid hrow
          have HWX := Lib.hid hW
          clear hrow
          cases ho : hintText acc
          · have HO := Lib.hid ho
            have HE := Lib.hid (readHintS_no (s := s) (fun hh => by have h2 := hh.2; rw [hW] at h2; rw [ho] at h2; cases h2))
            clear ho hW
            go_wp2_with fail
            go_at_call 8
            refine (spec_HintText_calls A c acc _ HRW.out).mono ?_
            rw [HO.out]
            rintro e w9 ⟨rfl, hb⟩
            have HC9 := Lib.hid (HC5.out.below hb)
            have cb := HC9.out.rd.c2
            clear hb
            simp only [varRes]
            go_wp2
            go_ret2
            exact hpost_made (HB1.out.trans (HC9.out.bel.mono HB1.out.size)) HE.out
          · rename_i l
            have HO := Lib.hid ho
            by_cases hl : l = ub s
            · have HE : Hid (readHintS s = some acc) := by have h := readHintS_yes (s := s) (by rw [hW]) (by rw [hW]; exact ho.trans (by rw [hl])); rw [hW] at h; exact h
              have hq : ((bs l).toList == s.toList) = true := by rw [hl, bs_ub]; simp
              clear ho hW hl
              go_wp2_with fail
              go_at_call 8
              refine (spec_HintText_calls A c acc _ HRW.out).mono ?_
              rw [HO.out]
              rintro e w9 ⟨rfl, hb⟩
              have HC9 := Lib.hid (HC5.out.below hb)
              have cb := HC9.out.rd.c2
              clear hb
              simp only [varRes]
              go_wp2
              go_ret2
              exact ⟨HB1.out.trans (HC9.out.bel.mono HB1.out.size), by rw [HE.out]; exact ⟨_, rfl, own_low HC9.out.own HB1.out.size⟩⟩
            · have HE := Lib.hid (readHintS_no (s := s) (fun hh => by have h2 := hh.2; rw [hW] at h2; rw [ho] at h2; exact hl (Option.some.inj h2)))
              have hq : ((bs l).toList == s.toList) = false := beq_eq_false_iff_ne.mpr fun z => hl (by rw [← toList_inj.mp z, ub_bs])
              clear ho hW hl
              go_wp2_with fail
              go_at_call 8
              refine (spec_HintText_calls A c acc _ HRW.out).mono ?_
              rw [HO.out]
              rintro e w9 ⟨rfl, hb⟩
              have HC9 := Lib.hid (HC5.out.below hb)
              have cb := HC9.out.rd.c2
              clear hb
              simp only [varRes]
              go_wp2
              go_ret2
              exact hpost_made (HB1.out.trans (HC9.out.bel.mono HB1.out.size)) HE.out
        · have hW := HQ.out.stop (by simp)
          obtain ⟨A, c, rfl, hrow⟩ := SpOwn.row HC5.out.own (by have := HSM.out; rw [hW] at this; exact this)
          have HRW := Lib.hid hrow
          have HWX := Lib.hid hW
          clear hrow
          have HE := Lib.hid (readHintS_no (s := s) (fun hh => by rw [HWX.out] at hh; cases hh.1))
          clear hW
          cases ho : hintText acc
          all_goals
            have HO := Lib.hid ho
            clear ho
            go_wp2_with fail
            go_at_call 8
            refine (spec_HintText_calls A c acc _ HRW.out).mono ?_
            rw [HO.out]
            rintro e w9 ⟨rfl, hb⟩
            have HC9 := Lib.hid (HC5.out.below hb)
            have cb := HC9.out.rd.c2
            clear hb
            simp only [varRes]
            go_wp2
            go_ret2
            exact hpost_made (HB1.out.trans (HC9.out.bel.mono HB1.out.size)) HE.out
end Go.Proofs.Ytdkdlgioabjldaa

namespace Go.Proofs.Ytdkdlgioabjldaa
set_option linter.unusedVariables false
set_option linter.unusedSimpArgs false
open Go.RowKit
attribute [local go_sem] bs_size List.length_cons List.length_nil List.length_append

theorem natRow_one (w : World) (a : Nat) : NatRow (w.alloc (.cells #[.int .i64 (a : Int)] 3)) w.heap.size [a] := by
  intro j n hj
  have hb := blk_cell (blk_new w (.cells #[.int .i64 (a : Int)] 3)) j
  rw [hb]
  match j with
  | 0 => obtain rfl : a = n := by simpa using hj
         rfl
  | j + 1 => simp at hj
theorem natRow_three (w : World) (a b c : Nat) : NatRow (w.alloc (.cells #[.int .i64 (a : Int), .int .i64 (b : Int), .int .i64 (c : Int)] 3)) w.heap.size [a, b, c] := by
  intro j n hj
  have hb := blk_cell (blk_new w (.cells #[.int .i64 (a : Int), .int .i64 (b : Int), .int .i64 (c : Int)] 3)) j
  rw [hb]
  match j with
  | 0 => obtain rfl : a = n := by simpa using hj
         rfl
  | 1 => obtain rfl : b = n := by simpa using hj
         rfl
  | 2 => obtain rfl : c = n := by simpa using hj
         rfl
  | j + 3 => simp at hj
theorem sp_join (L : List UInt8) (key : ByteArray) (a b c : Nat) : bs L ++ (bs (shortB (ub key)) ++ bs (varsB [a, b, c])) = bs (L ++ spBytes (key, (a : Int), (b : Int), (c : Int))) := by
  rw [bs_append, bs_append]
  congr 1
  simp [spBytes, varsB]
set_option maxHeartbeats 4000000 in
set_option maxRecDepth 100000 in
theorem impl_HintText_calls (A : Option Addr) (c : Nat) (ds : List SpotD) (w : World) (h : SpRow w A c ds) :
    Calls Try.prog 6 #[.slice A ds.length c] w fun e w' => e = .returned (varRes (hintText ds)) ∧ Below w.heap.size w w' := by
  have HR := Lib.hid h
  have hlen := h.len
  clear h
  cases hok : dirOkB ds
  · have HE : Hid (hintText ds = none) := by rw [Hid, hintText, if_neg (by simp [hok])]
    have HK := Lib.hid hok
    clear hok
    go_enter Try.func6, Try.ntmps6
    go_wp2_with fail
    go_at_call 13
    refine (impl_DirOk_calls A c ds _ HR.out).mono ?_
    rw [HK.out]
    rintro e w1 ⟨rfl, hb⟩
    go_wp2
    go_ret2
    exact ⟨by rw [HE.out]; rfl, hb⟩
  · obtain ⟨h200, hsp⟩ := dirOk_parts hok
    have hil := hintInner_len hok
    have HE : Hid (hintText ds = some (hintInner ds ++ sum4 (hintInner ds))) := by rw [Hid, hintText, if_pos hok]
    have HK := Lib.hid hok
    have HSP := Lib.hid hsp
    clear hok hsp
    go_enter Try.func6, Try.ntmps6
    go_wp2_with fail
    go_at_call 13
    refine (impl_DirOk_calls A c ds _ HR.out).mono ?_
    rw [HK.out]
    rintro e w1 ⟨rfl, hb1⟩
    have HB1 := Lib.hid hb1
    have HN1 := Lib.hid (natRow_one w1 ds.length)
    clear hb1
    go_wp2_with fail
    go_at_call 14
    refine (impl_vars_calls w1.heap.size 1 [ds.length] _ HN1.out (by intro n hn; simp at hn; omega) (by simp)).mono ?_
    rintro e w2 ⟨rfl, hb2⟩
    have HB2 := Lib.hid (HB1.out.trans (((Below.refl _ _).alloc (Nat.le_refl _) _).trans (hb2.mono (by simp)) |>.mono HB1.out.size))
    clear hb2
    go_wp2
    go_loopw [4, 24] (fun ov iv wr => ∃ i : Nat, i ≤ ds.length ∧ iv = .int .i64 (i : Int) ∧ ov = .string (bs (varBytes ds.length ++ spsBytes (ds.take i))) ∧ Hid (Below w.heap.size w wr)) (fun _ iv _ => ds.length - (intOf iv).toNat)
    case atStart => exact ⟨0, Nat.zero_le _, rfl, by simp [varsB, spsBytes], HB2⟩
    case round =>
      obtain ⟨i, hi, rfl, rfl, HB⟩ := hrel
      by_cases hlt : i < ds.length
      · obtain ⟨ad, x, hA, HX, hz1, hc0, hc1, hc2, hc3⟩ := (HR.out.below HB.out).at_ hlt
        cases hA
        have hxs := spOk_parts (HSP.out _ (List.mem_of_getElem? HX.out))
        have hsn := spsBytes_snoc HX.out
        have hbl : (varBytes ds.length ++ spsBytes (ds.take i)).length ≤ 12100 := by
          have h1 := var_len (n := ds.length) (by omega)
          have h2 := spsBytes_len (ds.take i) (fun y hy => HSP.out y (List.mem_of_mem_take hy))
          rw [List.length_take] at h2
          rw [List.length_append]
          omega
        obtain ⟨key, seg, at_, sq⟩ := x
        dsimp only at hz1 hc0 hc1 hc2 hc3 hxs
        obtain ⟨⟨hk1, hk2⟩, ⟨hs0, hs1⟩, ⟨ha0, ha1⟩, ⟨hq0, hq1⟩⟩ := hxs
        obtain ⟨a, rfl⟩ := Int.eq_ofNat_of_zero_le hs0
        obtain ⟨b, rfl⟩ := Int.eq_ofNat_of_zero_le ha0
        obtain ⟨q, rfl⟩ := Int.eq_ofNat_of_zero_le hq0
        have HSN := Lib.hid hsn
        have HJ := Lib.hid (sp_join (varBytes ds.length ++ spsBytes (ds.take i)) key a b q)
        have HNXT : Hid (bs (varBytes ds.length ++ spsBytes (ds.take i) ++ spBytes (key, (a : Int), (b : Int), (q : Int))) = bs (varBytes ds.length ++ spsBytes (ds.take (i + 1)))) := by rw [Hid, hsn, List.append_assoc]
        have hk3 := var_len (n := key.size) (by omega)
        have hsl : (shortB (ub key)).length ≤ 40 := by unfold shortB; rw [List.length_append, ub_length]; omega
        have hvl : (varsB [a, b, q]).length ≤ 27 := varsB_len [a, b, q] (by intro n hn; simp at hn; omega)
        generalize varBytes ds.length ++ spsBytes (ds.take i) = V at hbl HJ HNXT ⊢
        have HAL : Hid (Below wr.heap.size wr ((wr.alloc (.cells #[.string key, .int .i64 (a : Int), .int .i64 (b : Int), .int .i64 (q : Int)] 31)).alloc (.cells #[.int .i64 (a : Int), .int .i64 (b : Int), .int .i64 (q : Int)] 3))) := ((Below.refl _ _).alloc (Nat.le_refl _) _).alloc (by simp) _
        have HNR := Lib.hid (natRow_three (wr.alloc (.cells #[.string key, .int .i64 (a : Int), .int .i64 (b : Int), .int .i64 (q : Int)] 31)) a b q)
        have HBX : Hid (((wr.alloc (.cells #[.string key, .int .i64 (a : Int), .int .i64 (b : Int), .int .i64 (q : Int)] 31)).alloc (.cells #[.int .i64 (a : Int), .int .i64 (b : Int), .int .i64 (q : Int)] 3)).cell? ⟨wr.heap.size, 0, none⟩ = some (.string key)) := cell_new (blk_cell (blk_new wr _) 0) _
        have hsz1 : (wr.alloc (.cells #[.string key, .int .i64 (a : Int), .int .i64 (b : Int), .int .i64 (q : Int)] 31)).heap.size = wr.heap.size + 1 := by simp
        rw [hsz1] at HNR
        clear hsn hsz1
        go_wp2_with fail
        go_at_call 14
        refine (impl_vars_calls (wr.heap.size + 1) 3 [a, b, q] _ HNR.out (by intro n hn; simp at hn; omega) (by simp)).mono ?_
        rintro e w3 ⟨rfl, hb3⟩
        have HB3 := Lib.hid (HB.out.trans ((HAL.out.trans (hb3.mono HAL.out.size)).mono HB.out.size))
        have x0 : w3.cell? ⟨wr.heap.size, 0, none⟩ = some (.string key) := (hb3.cell (World.block_lt_of_cell? _ _ HBX.out)).trans HBX.out
        clear hb3 hc0 hc1 hc2 hc3
        go_wp2_with fail
        go_at_call 15
        refine (impl_short_calls key _ (by omega)).mono ?_
        rintro e w4 ⟨rfl, hb4⟩
        have HB4 := Lib.hid (HB3.out.trans (hb4.mono HB3.out.size))
        clear hb4 x0
        go_wp2
        go_roundw
        case rel => first | exact ⟨i + 1, by omega, by go_num, by rw [HJ.out, HNXT.out], HB4⟩ | (repeat (first | (refine ⟨?relx, rfl⟩; exact ⟨i + 1, by omega, by go_num, by rw [HJ.out, HNXT.out], HB4⟩) | (refine ⟨?relx, ?eqs⟩; (case eqs => (and_intros <;> rfl)); exact ⟨i + 1, by omega, by go_num, by rw [HJ.out, HNXT.out], HB4⟩) | apply Exists.intro))
        case measure => simp [intOf]; omega
      · obtain rfl : i = ds.length := by omega
        rw [List.take_length]
        have HSL : Hid (varRes (sealedB (ub (bs (varBytes ds.length ++ spsBytes ds)))) = .tuple #[.string (bs (hintInner ds ++ sum4 (hintInner ds))), .bool true]) := by
          rw [Hid, ub_bs, show varBytes ds.length ++ spsBytes ds = hintInner ds from rfl, sealedB_yes (by omega)]
          rfl
        have hvl : (varBytes ds.length ++ spsBytes ds).length ≤ 12009 := hil
        have hrl : (hintInner ds ++ sum4 (hintInner ds)).length ≤ 12013 := by rw [List.length_append, sum4_len]; omega
        generalize hintInner ds ++ sum4 (hintInner ds) = RR at HE HSL hrl
        have hrr : ¬ 20000 < RR.length := by omega
        generalize varBytes ds.length ++ spsBytes ds = BB at HSL hvl ⊢
        go_wp2_with fail
        go_at_call 16
        refine (impl_Sealed_calls (bs BB) _ (by rw [bs_size]; omega)).mono ?_
        rw [HSL.out]
        rintro e w5 ⟨rfl, hb5⟩
        have HB5 := Lib.hid (HB.out.trans (hb5.mono HB.out.size))
        clear hb5
        go_wp2
        go_ret2
        exact ⟨by rw [HE.out]; rfl, HB5.out⟩
end Go.Proofs.Ytdkdlgioabjldaa

namespace Go.Proofs.Ytdkdlgioabjldaa
set_option linter.unusedVariables false
set_option linter.unusedSimpArgs false
open Go.RowKit
attribute [local go_sem] bs_size List.length_cons List.length_nil List.length_append

theorem byRow_hi {w w' : World} {A : Option Addr} {n : Nat} (h : ByRow w A n) (hb : Below w.heap.size w w') : ByRow w' A n := by
  refine ⟨h.1, fun h0 => ?_⟩
  obtain ⟨ad, e, hl, hc⟩ := h.2 h0
  refine ⟨ad, e, Nat.lt_of_lt_of_le hl hb.size, fun j hj => ?_⟩
  obtain ⟨z, h0, h1, h2⟩ := hc j hj
  exact ⟨z, h0, h1, (hb.cell (by rw [add_block]; exact hl)).trans h2⟩
/-- What a reading gives, in one form. -/
theorem readUniH (s : ByteArray) : ∃ (xs : List SpotD) (b : Bool) (S : ByteArray) (b2 : Bool), (∀ x ∈ xs, x.1.size ≤ 9223372036854775807) ∧
    (∀ (w : World) (e : Ending) (w' : World), HintPost w (readHintI s) e w' → Below w.heap.size w w' ∧ ∃ v, e = .returned (.tuple #[v, .bool b]) ∧ SpOwn w' w.heap.size v xs) ∧
    varRes (hintText xs) = .tuple #[.string S, .bool b2] ∧ (b = true → S = s) ∧ (∀ d, readHintI s = some d → b = true ∧ d = xs) := by
  cases h : readHintI s with
  | none =>
    obtain ⟨S, b2, h1, _⟩ := hintUni []
    exact ⟨[], false, S, b2, by simp, fun w e w' hp => ⟨hp.1, hp.2⟩, h1, (fun e => by cases e), (fun d e => by cases e)⟩
  | some d =>
    have hI := readHintI_is h
    have hsp := (dirOk_parts (isHint_parts hI).1).2
    refine ⟨d, true, s, true, fun x hx => by have := spOk_parts (hsp x hx); omega, fun w e w' hp => ⟨hp.1, hp.2⟩, ?_, fun _ => rfl, fun d' e => ⟨rfl, (Option.some.inj e).symm⟩⟩
    rw [show hintText d = some (ub s) from hI]
    show Value.tuple #[.string (bs (ub s)), .bool true] = _
    rw [bs_ub]
set_option maxHeartbeats 8000000 in
set_option maxRecDepth 100000 in
theorem walk_FnHints (A : Option Addr) (n c : Nat) (w : World) (h : ByRow w A n) :
    Calls Try.prog 3 #[.slice A n c] w fun e w' => e = .returned (.bool true) ∧ Below w.heap.size w w' := by
  have hn := h.1
  have HBR := Lib.hid h
  clear h
  by_cases hbig : 1048576 < n
  · have hd : decide (1048576 < n) = true := decide_eq_true hbig
    go_enter Try.func3, Try.ntmps3
    go_wp2_with fail
    go_at_call 4
    refine (laws_big_calls A c n _ hn).mono ?_
    rw [hd]
    rintro e w1 ⟨rfl, rfl⟩
    go_wp2
    go_ret
    exact ⟨rfl, Below.refl _ _⟩
  · have hd : decide (1048576 < n) = false := decide_eq_false hbig
    go_enter Try.func3, Try.ntmps3
    go_wp2_with fail
    go_at_call 4
    refine (laws_big_calls A c n _ hn).mono ?_
    rw [hd]
    rintro e w1 ⟨rfl, rfl⟩
    clear hd hbig hn
    go_wp2_with fail
    go_at_call 5
    refine (spec_DrawHintText_calls A c n _ HBR.out).mono ?_
    rintro e w1 ⟨A1, c1, ds, rfl, hr, hb⟩
    have HR1 := Lib.hid hr
    have HB1 := Lib.hid hb
    have hdl := hr.len
    clear hr hb
    obtain ⟨s, b, hvt, hss, hyes, hno⟩ := hintUni ds
    have HVT := Lib.hid hvt
    go_wp2_with fail
    go_at_call 6
    refine (impl_HintText_calls A1 c1 ds _ HR1.out).mono ?_
    rw [HVT.out]
    rintro e w2 ⟨rfl, hb⟩
    have HB2 := Lib.hid (HB1.out.trans (hb.mono HB1.out.size))
    have HR2 := Lib.hid (HR1.out.below hb)
    clear hb HR1 hvt
    obtain ⟨xs, b2, S, b3, hxs, hpost, _, _, hput⟩ := readUniH s
    have HP := Lib.hid hpost
    have HXS := Lib.hid hxs
    clear hxs hpost
    have HQ : Hid (b = true → b2 = true ∧ ds = xs) := fun hb => hput ds (readHintI_put (hyes hb))
    clear hput hyes hno
    go_wp2_with fail
    go_at_call 7
    refine (impl_ReadHint_calls s _ (by omega)).mono ?_
    rintro e w3 hp
    obtain ⟨hb, v, rfl, ho⟩ := HP.out _ _ _ hp
    obtain ⟨A3, c3, hv, hr⟩ := ho.row HXS.out
    subst hv
    have HB3 := Lib.hid (HB2.out.trans (hb.mono HB2.out.size))
    have HR3 := Lib.hid (HR2.out.below hb)
    have HX3 := Lib.hid hr
    clear hp hb ho hr HP
    go_wp2_with fail
    go_at_call 8
    refine (spec_HintText_calls A1 c1 ds _ HR3.out).mono ?_
    rw [HVT.out]
    rintro e w4 ⟨rfl, hb⟩
    have HBX := Lib.hid (HB3.out.trans (hb.mono HB3.out.size))
    have HR4 := Lib.hid (HR3.out.below hb)
    have HX4 := Lib.hid (HX3.out.below hb)
    clear hb HR3 HX3 HR2 HB3 HB2 HB1
    cases b
    · clear HQ
      go_wp2_with fail
      go_loopw [10] (fun iv wr => iv = .int .i64 0 ∧ wr = w4) (fun _ _ => 0)
      case atStart => exact ⟨rfl, rfl⟩
      case round =>
        obtain ⟨rfl, rfl⟩ := hrel
        by_cases hx : 0 < xs.length
        · have hxi : (0 : Int) < (xs.length : Int) := by omega
          go_wp2_with fail
          go_at_call 9
          refine (spec_DrawReadHint_calls A c n _ (byRow_hi HBR.out HBX.out)).mono ?_
          rintro e w5 ⟨t, rfl, hts, hb⟩
          have HB5 := Lib.hid (HBX.out.trans (hb.mono HBX.out.size))
          obtain ⟨xs, b2, S, b3, hxs, hpost, htx, heq, _⟩ := readUniH t
          have HP2 := Lib.hid hpost
          have HXS := Lib.hid hxs
          have HTX := Lib.hid htx
          have HEQ := Lib.hid heq
          clear hb hxs hpost htx heq
          go_wp2_with fail
          go_at_call 7
          refine (impl_ReadHint_calls t _ (by omega)).mono ?_
          rintro e w6 hp
          obtain ⟨hb, v, rfl, ho⟩ := HP2.out _ _ _ hp
          obtain ⟨A6, c6, hv, hr⟩ := ho.row HXS.out
          subst hv
          have HB6 := Lib.hid (HB5.out.trans (hb.mono HB5.out.size))
          have HR6 := Lib.hid hr
          clear hp hb ho hr
          go_wp2_with fail
          go_at_call 10
          refine (spec_ReadHint_calls t _ (by omega)).mono ?_
          rw [← readHint_same]
          rintro e w7 hp
          obtain ⟨hb, v7, rfl, _⟩ := HP2.out _ _ _ hp
          have HB7 := Lib.hid (HB6.out.trans (hb.mono HB6.out.size))
          have HR7 := Lib.hid (HR6.out.below hb)
          clear hp hb
          go_wp2_with fail
          go_at_call 6
          refine (impl_HintText_calls A6 c6 xs _ HR7.out).mono ?_
          rw [HTX.out]
          rintro e w8 ⟨rfl, hb⟩
          have HB8 := Lib.hid (HB7.out.trans (hb.mono HB7.out.size))
          clear hb
          cases b2
          · go_wp2
            go_ret
            exact ⟨rfl, HB8.out⟩
          · obtain rfl := HEQ.out rfl
            go_wp2
            go_ret
            exact ⟨rfl, HB8.out⟩
        · have hxi : ¬ (0 : Int) < (xs.length : Int) := by omega
          go_wp2_with fail
          go_at_call 9
          refine (spec_DrawReadHint_calls A c n _ (byRow_hi HBR.out HBX.out)).mono ?_
          rintro e w5 ⟨t, rfl, hts, hb⟩
          have HB5 := Lib.hid (HBX.out.trans (hb.mono HBX.out.size))
          obtain ⟨xs, b2, S, b3, hxs, hpost, htx, heq, _⟩ := readUniH t
          have HP2 := Lib.hid hpost
          have HXS := Lib.hid hxs
          have HTX := Lib.hid htx
          have HEQ := Lib.hid heq
          clear hb hxs hpost htx heq
          go_wp2_with fail
          go_at_call 7
          refine (impl_ReadHint_calls t _ (by omega)).mono ?_
          rintro e w6 hp
          obtain ⟨hb, v, rfl, ho⟩ := HP2.out _ _ _ hp
          obtain ⟨A6, c6, hv, hr⟩ := ho.row HXS.out
          subst hv
          have HB6 := Lib.hid (HB5.out.trans (hb.mono HB5.out.size))
          have HR6 := Lib.hid hr
          clear hp hb ho hr
          go_wp2_with fail
          go_at_call 10
          refine (spec_ReadHint_calls t _ (by omega)).mono ?_
          rw [← readHint_same]
          rintro e w7 hp
          obtain ⟨hb, v7, rfl, _⟩ := HP2.out _ _ _ hp
          have HB7 := Lib.hid (HB6.out.trans (hb.mono HB6.out.size))
          have HR7 := Lib.hid (HR6.out.below hb)
          clear hp hb
          go_wp2_with fail
          go_at_call 6
          refine (impl_HintText_calls A6 c6 xs _ HR7.out).mono ?_
          rw [HTX.out]
          rintro e w8 ⟨rfl, hb⟩
          have HB8 := Lib.hid (HB7.out.trans (hb.mono HB7.out.size))
          clear hb
          cases b2
          · go_wp2
            go_ret
            exact ⟨rfl, HB8.out⟩
          · obtain rfl := HEQ.out rfl
            go_wp2
            go_ret
            exact ⟨rfl, HB8.out⟩
    · obtain ⟨hb2, hds⟩ := HQ.out rfl
      subst hb2 hds
      clear HQ
      have hll : ((ds.length : Int) != (ds.length : Int)) = false := by simp
      go_wp2_with fail
      go_loopw [10] (fun iv wr => ∃ i : Nat, i ≤ ds.length ∧ iv = .int .i64 (i : Int) ∧ Hid (Below w4.heap.size w4 wr)) (fun iv _ => ds.length - (intOf iv).toNat)
      case atStart => exact ⟨0, Nat.zero_le _, rfl, Below.refl _ _⟩
      case round =>
        obtain ⟨i, hi, rfl, HBL⟩ := hrel
        rename World => wz
        by_cases hlt : i < ds.length
        · obtain ⟨ad, x, hA, HXI, hz1, hc0, hc1, hc2, hc3⟩ := (HR4.out.below HBL.out).at_ hlt
          obtain ⟨ad', y, hA', HYI, _, hd0, hd1, hd2, hd3⟩ := (HX4.out.below HBL.out).at_ hlt
          obtain rfl : x = y := Option.some.inj (HXI.out.symm.trans HYI.out)
          cases hA
          cases hA'
          obtain ⟨xk, xs, xa, xq⟩ := x
          dsimp only at hz1 hc0 hc1 hc2 hc3 hd0 hd1 hd2 hd3
          have hli : (i : Int) < (ds.length : Int) := by omega
          go_wp2
          go_quiet (fail)
          go_wp2
          go_roundw
          case rel => first | exact ⟨i + 1, by omega, by go_num, blwN HBL.out _⟩ | (repeat (first | (refine ⟨?relx, rfl⟩; exact ⟨i + 1, by omega, by go_num, blwN HBL.out _⟩) | (refine ⟨?relx, ?eqs⟩; (case eqs => (and_intros <;> rfl)); exact ⟨i + 1, by omega, by go_num, blwN HBL.out _⟩) | apply Exists.intro))
          case measure => simp [intOf]; omega
        · obtain rfl : i = ds.length := by omega
          have HBX := Lib.hid (HBX.out.trans (HBL.out.mono HBX.out.size))
          go_wp2_with fail
          go_at_call 9
          refine (spec_DrawReadHint_calls A c n _ (byRow_hi HBR.out HBX.out)).mono ?_
          rintro e w5 ⟨t, rfl, hts, hb⟩
          have HB5 := Lib.hid (HBX.out.trans (hb.mono HBX.out.size))
          obtain ⟨xs, b2, S, b3, hxs, hpost, htx, heq, _⟩ := readUniH t
          have HP2 := Lib.hid hpost
          have HXS := Lib.hid hxs
          have HTX := Lib.hid htx
          have HEQ := Lib.hid heq
          clear hb hxs hpost htx heq
          go_wp2_with fail
          go_at_call 7
          refine (impl_ReadHint_calls t _ (by omega)).mono ?_
          rintro e w6 hp
          obtain ⟨hb, v, rfl, ho⟩ := HP2.out _ _ _ hp
          obtain ⟨A6, c6, hv, hr⟩ := ho.row HXS.out
          subst hv
          have HB6 := Lib.hid (HB5.out.trans (hb.mono HB5.out.size))
          have HR6 := Lib.hid hr
          clear hp hb ho hr
          go_wp2_with fail
          go_at_call 10
          refine (spec_ReadHint_calls t _ (by omega)).mono ?_
          rw [← readHint_same]
          rintro e w7 hp
          obtain ⟨hb, v7, rfl, _⟩ := HP2.out _ _ _ hp
          have HB7 := Lib.hid (HB6.out.trans (hb.mono HB6.out.size))
          have HR7 := Lib.hid (HR6.out.below hb)
          clear hp hb
          go_wp2_with fail
          go_at_call 6
          refine (impl_HintText_calls A6 c6 xs _ HR7.out).mono ?_
          rw [HTX.out]
          rintro e w8 ⟨rfl, hb⟩
          have HB8 := Lib.hid (HB7.out.trans (hb.mono HB7.out.size))
          clear hb
          cases b2
          · go_wp2
            go_ret
            exact ⟨rfl, HB8.out⟩
          · obtain rfl := HEQ.out rfl
            go_wp2
            go_ret
            exact ⟨rfl, HB8.out⟩
end Go.Proofs.Ytdkdlgioabjldaa
