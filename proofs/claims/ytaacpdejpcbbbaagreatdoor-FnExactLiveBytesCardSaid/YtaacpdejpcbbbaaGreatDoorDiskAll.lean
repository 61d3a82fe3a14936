/- The laws' helpers on disks and spots: sz, to, eq. The laws' helpers on disks: toDisk, eqDisk. A disk and a spot that came in. Files put in their place, taken out, looked up: plain. AllKept of the program. Rows of files of the call's own. copy and clear on rows of things of k cells each; blocks of cells of the call's own, part of which is written anew. slices.Insert of one file into a row of files of the call's own. slices.Delete of one file out of a row of files of the call's own. Acts on a disk: plain. Rows of acts. impl.putFile: a file into a disk of one's own. impl.copyDisk. Directories: l07Set of the reference. The directory of a disk: plain. -/
import Derived.Test.YtaacpdejpcbbbaaGreatDoorSegsL
import Derived.Deep.RegionHeld3
import Derived.Deep.Slices
import Derived.Test.YtaacpdejpcbbbaaGreatDoorFileB
import Derived.Test.YtaacpdejpcbbbaaGreatDoorFileA
import Derived.Test.YtaacpdejpcbbbaaGreatDoorGrow
import Derived.Laws.IdiomCopy
import Derived.Lib.SliceRun
import Derived.Deep.RegionLaw
import Derived.Lib.AppendZerosOnto
import Derived.Lib.Overlaps
import Derived.Lib.JoinLaws
import Derived.Laws.Externs
import Derived.Laws.NewBlocks
import Derived.Test.YtaacpdejpcbbbaaGreatDoorSegAll
import Derived.Laws.Cover1
import Derived.StillTailTactics
import Derived.BigQuiet
import Derived.Deep.CutRange
namespace Go.Proofs.YtaacpdejpcbbbaaGreatDoor
set_option linter.unusedVariables false
set_option linter.unusedSimpArgs false
open Go.RowKit
attribute [local go_sem] bs_size List.length_cons List.length_nil List.length_append

def SzLe (left m : Int) (e : Ending) : Prop := ∃ r : Int, e = .returned (.int .i64 r) ∧ (r < 0 ∨ (0 ≤ r ∧ r ≤ left ∧ m ≤ left))
theorem szLe_neg (left m r : Int) (h : r < 0) : SzLe left m (.returned (.int .i64 r)) := ⟨r, rfl, .inl h⟩
/-- One struct held in a result's block. -/
theorem res_one {fn : Func} {p : Tmp} {ty : TypeId} {W : World} {g : Nat} {cs : Array Value} {tmps : Array Value} {post : Ending → World → Prop} {fx : Array Field} (hf : fn.results = #[.cell p ty]) (hg : W.heap[g]? = some (.cells cs ty (0, 0))) (hp : tmps.getD p undef = .pointer (some ⟨g, 0, none⟩))
    (hu : Tryz.prog.underlying ty = some (.struct fx)) (hi : (Tryz.prog.info? ty).map (·.size) = some cs.size) (hpost : post (.returned (.agg cs)) W) : bodyPost Tryz.prog fn post .ret ⟨tmps, []⟩ W := by
  have hp' : tmps[p]?.getD undef = .pointer (some ⟨g, 0, none⟩) := by simpa using hp
  have hr : (results fn tmps).run Tryz.prog W = .ok (.agg cs) W := by
    simp only [results, hf]
    simp [Sem.run_bind, hp', asAddr, Result.andThen, run_loadVar_row W g ty ty cs (0, 0) (.struct fx) hg hu rfl hi]
  exact bodyPost_ret hr rfl hpost
theorem set_far {w : World} {g g' i : Nat} {u : Value} {o : Obj} (h : w.heap[g]? = some o) (hne : g ≠ g') : (w.setCell ⟨g', i, none⟩ u).heap[g]? = some o := (Below.heap_setCell w ⟨g', i, none⟩ u g (fun e => hne e)).trans h
theorem alloc_far {w : World} {g : Nat} {o : Obj} (h : w.heap[g]? = some o) (o' : Obj) : (w.alloc o').heap[g]? = some o := blk_below h ((Below.refl _ _).alloc (Nat.le_refl _) o')
theorem laws_szFile_calls (n t : ByteArray) (k left : Int) (w : World) (h0 : 0 ≤ left) (h1 : left ≤ 1048576) (hn : n.size ≤ 9223372036854775807) (ht : t.size ≤ 9223372036854775807) :
    Calls Tryz.prog 95 #[.agg #[.string n, .string t, .int .i64 k], .int .i64 left] w fun e w' => SzLe left 0 e ∧ Below w.heap.size w w' := by
  have HAL : Hid (Below w.heap.size w (w.alloc (.cells #[.string n, .string t, .int .i64 k] 124))) := (Below.refl _ _).alloc (Nat.le_refl _) _
  by_cases c1 : left - (n.size : Int) < 0
  · go_enter Tryz.func95, Tryz.ntmps95
    go_wp2
    go_ret
    exact ⟨szLe_neg _ _ _ (by omega), HAL.out⟩
  · by_cases c2 : left - (n.size : Int) - (t.size : Int) < 0
    · go_enter Tryz.func95, Tryz.ntmps95
      go_wp2
      go_ret
      exact ⟨szLe_neg _ _ _ (by omega), HAL.out⟩
    · go_enter Tryz.func95, Tryz.ntmps95
      go_wp2
      go_ret
      exact ⟨⟨_, rfl, .inr ⟨by omega, by omega, h0⟩⟩, HAL.out⟩
set_option maxRecDepth 100000 in
theorem laws_szFileS_calls (A : Option Addr) (c : Nat) (fs : List FiD) (left : Int) (w : World) (h : FiRow w A c fs) (h0 : 0 ≤ left) (h1 : left ≤ 1048576) :
    Calls Tryz.prog 47 #[.slice A fs.length c, .int .i64 left] w fun e w' => SzLe left fs.length e ∧ Below w.heap.size w w' := by
  have hl := h.len
  have HR := Lib.hid h
  clear h
  by_cases hn : left - (fs.length : Int) < 0
  · go_enter Tryz.func47, Tryz.ntmps47
    go_wp2
    go_ret
    exact ⟨szLe_neg _ _ _ (by omega), Below.refl _ _⟩
  · have HLE : Hid ((fs.length : Int) ≤ left) := by rw [Hid]; omega
    go_enter Tryz.func47, Tryz.ntmps47
    go_wp2
    go_loopw [1, 5] (fun v i wr => ∃ (k : Nat) (r : Int), k ≤ fs.length ∧ i = .int .i64 k ∧ v = .int .i64 r ∧ 0 ≤ r ∧ r ≤ left ∧ Hid (Below w.heap.size w wr)) (fun _ i _ => fs.length - (intOf i).toNat)
    case atStart => exact ⟨0, _, Nat.zero_le _, rfl, rfl, by omega, by omega, Below.refl _ _⟩
    case round =>
      obtain ⟨k, r, hk, rfl, rfl, hr0, hr1, HB⟩ := hrel
      by_cases hlt : k < fs.length
      · obtain ⟨ad, x, hA, HX, hz1, hz2, hc0, hc1, hc2⟩ := (HR.out.below HB.out).at_ hlt
        cases hA
        obtain ⟨n, t, g⟩ := x
        dsimp only at hz1 hz2 hc0 hc1 hc2
        go_wp2_with fail
        go_at_call 95
        refine (laws_szFile_calls n t g r _ hr0 (by omega) hz1 hz2).mono ?_
        rintro e w1 ⟨⟨y, rfl, hy⟩, hb⟩
        have HB1 := Lib.hid (HB.out.trans (hb.mono HB.out.size))
        clear hb
        rcases hy with hy | ⟨hy0, hy1, _⟩
        · go_wp2
          go_ret
          exact ⟨szLe_neg _ _ _ (by omega), HB1.out⟩
        · go_wp2
          go_roundw
          case rel => first | exact ⟨k + 1, y, by omega, by go_num, rfl, by omega, by omega, HB1⟩ | (repeat (first | (refine ⟨?relx, rfl⟩; exact ⟨k + 1, y, by omega, by go_num, rfl, by omega, by omega, HB1⟩) | (refine ⟨?relx, ?eqs⟩; (case eqs => (and_intros <;> rfl)); exact ⟨k + 1, y, by omega, by go_num, rfl, by omega, by omega, HB1⟩) | apply Exists.intro))
          case measure => simp [intOf]; omega
      · obtain rfl : k = fs.length := by omega
        go_wp2
        go_ret
        exact ⟨⟨r, rfl, .inr ⟨hr0, hr1, HLE.out⟩⟩, HB.out⟩
theorem laws_szDisk_calls (A : Option Addr) (c : Nat) (fs : List FiD) (left : Int) (w : World) (h : FiRow w A c fs) (h0 : 0 ≤ left) (h1 : left ≤ 1048576) :
    Calls Tryz.prog 19 #[.agg #[.slice A fs.length c], .int .i64 left] w fun e w' => SzLe left fs.length e ∧ Below w.heap.size w w' := by
  have HAL : Hid (Below w.heap.size w (w.alloc (.cells #[.slice A fs.length c] 24))) := (Below.refl _ _).alloc (Nat.le_refl _) _
  have HR := Lib.hid (h.below HAL.out)
  clear h
  go_enter Tryz.func19, Tryz.ntmps19
  go_wp2_with fail
  go_at_call 47
  refine (laws_szFileS_calls A c fs left _ HR.out h0 h1).mono ?_
  rintro e w1 ⟨⟨y, rfl, hy⟩, hb⟩
  have HB1 := Lib.hid (HAL.out.trans (hb.mono HAL.out.size))
  clear hb
  rcases hy with hy | hy
  · go_wp2
    go_ret
    exact ⟨szLe_neg _ _ _ (by omega), HB1.out⟩
  · have hy0 := hy.1
    go_wp2
    go_ret
    exact ⟨⟨y, rfl, .inr hy⟩, HB1.out⟩
theorem laws_szSpot_calls (key : ByteArray) (seg at_ sq left : Int) (w : World) (h0 : 0 ≤ left) (h1 : left ≤ 1048576) (hn : key.size ≤ 9223372036854775807) :
    Calls Tryz.prog 71 #[.agg #[.string key, .int .i64 seg, .int .i64 at_, .int .i64 sq], .int .i64 left] w fun e w' => SzLe left 0 e ∧ Below w.heap.size w w' := by
  have HAL : Hid (Below w.heap.size w (w.alloc (.cells #[.string key, .int .i64 seg, .int .i64 at_, .int .i64 sq] 102))) := (Below.refl _ _).alloc (Nat.le_refl _) _
  by_cases c1 : left - (key.size : Int) < 0
  · go_enter Tryz.func71, Tryz.ntmps71
    go_wp2
    go_ret
    exact ⟨szLe_neg _ _ _ (by omega), HAL.out⟩
  · go_enter Tryz.func71, Tryz.ntmps71
    go_wp2
    go_ret
    exact ⟨⟨_, rfl, .inr ⟨by omega, by omega, h0⟩⟩, HAL.out⟩
theorem und_file : ∃ fs, Tryz.prog.underlying 105 = some (.struct fs) := ⟨_, Tryz.underlying105⟩
theorem info_file : (Tryz.prog.info? 105).map (·.size) = some 3 := by kernel_rfl
theorem laws_toFile_calls (n t : ByteArray) (k : Int) (w : World) :
    Calls Tryz.prog 103 #[.agg #[.string n, .string t, .int .i64 k]] w fun e w' => e = .returned (.agg #[.string n, .string t, .int .i64 k]) ∧ Below w.heap.size w w' := by
  obtain ⟨fsx, hu⟩ := und_file
  have s1 : (w.alloc (.cells #[.string n, .string t, .int .i64 k] 124)).heap.size = w.heap.size + 1 := by simp
  go_enter Tryz.func103, Tryz.ntmps103
  go_wp2
  have hg : (((w.alloc (.cells #[.string n, .string t, .int .i64 k] 124)).alloc (.cells #[.string n, .string t, .int .i64 k] 105)).alloc (.cells #[.string n, .string t, .int .i64 k] 105)).heap[w.heap.size + 1]? = some (.cells #[.string n, .string t, .int .i64 k] 105 (0, 0)) := by
    have := blk_new (w.alloc (.cells #[.string n, .string t, .int .i64 k] 124)) (.cells #[.string n, .string t, .int .i64 k] 105)
    rw [s1] at this
    exact alloc_far this _
  exact res_one rfl hg rfl hu info_file ⟨rfl, (((Below.refl _ _).alloc (Nat.le_refl _) _).alloc (by simp) _).alloc (by simp; omega) _⟩
theorem und_spot : ∃ fs, Tryz.prog.underlying 56 = some (.struct fs) := ⟨_, Tryz.underlying56⟩
theorem info_spt : (Tryz.prog.info? 56).map (·.size) = some 4 := by kernel_rfl
theorem laws_toSpot_calls (n : ByteArray) (k l m : Int) (w : World) :
    Calls Tryz.prog 72 #[.agg #[.string n, .int .i64 k, .int .i64 l, .int .i64 m]] w fun e w' => e = .returned (.agg #[.string n, .int .i64 k, .int .i64 l, .int .i64 m]) ∧ Below w.heap.size w w' := by
  obtain ⟨fsx, hu⟩ := und_spot
  have s1 : (w.alloc (.cells #[.string n, .int .i64 k, .int .i64 l, .int .i64 m] 102)).heap.size = w.heap.size + 1 := by simp
  go_enter Tryz.func72, Tryz.ntmps72
  go_wp2
  have hg : (((w.alloc (.cells #[.string n, .int .i64 k, .int .i64 l, .int .i64 m] 102)).alloc (.cells #[.string n, .int .i64 k, .int .i64 l, .int .i64 m] 56)).alloc (.cells #[.string n, .int .i64 k, .int .i64 l, .int .i64 m] 56)).heap[w.heap.size + 1]? = some (.cells #[.string n, .int .i64 k, .int .i64 l, .int .i64 m] 56 (0, 0)) := by
    have := blk_new (w.alloc (.cells #[.string n, .int .i64 k, .int .i64 l, .int .i64 m] 102)) (.cells #[.string n, .int .i64 k, .int .i64 l, .int .i64 m] 56)
    rw [s1] at this
    exact alloc_far this _
  exact res_one rfl hg rfl hu info_spt ⟨rfl, (((Below.refl _ _).alloc (Nat.le_refl _) _).alloc (by simp) _).alloc (by simp; omega) _⟩
/-- The files copied so far. -/
def ToF (fs : List FiD) (B : Nat) (w : World) (k : Nat) (wr : World) : Prop := Below B w wr ∧ ∃ cs : Array Value, wr.heap[B]? = some (.cells cs 105 (0, 0)) ∧ cs.size = fs.length * 3 ∧ ∀ j x, j < k → fs[j]? = some x → cs[j * 3]? = some (.string x.1) ∧ cs[j * 3 + 1]? = some (.string x.2.1) ∧ cs[j * 3 + 2]? = some (.int .i64 x.2.2)
theorem ToF.below {fs : List FiD} {B k : Nat} {w wr w' : World} (h : ToF fs B w k wr) (hB : B < wr.heap.size) (hBw : B ≤ wr.heap.size) (hb : Below wr.heap.size wr w') : ToF fs B w k w' := by
  obtain ⟨h1, cs, h2, h3⟩ := h
  exact ⟨h1.trans (hb.mono hBw), cs, blk_below h2 hb, h3⟩
theorem ToF.step {fs : List FiD} {B k : Nat} {w wr : World} {x : FiD} (h : ToF fs B w k wr) (hx : fs[k]? = some x) :
    ToF fs B w (k + 1) (((wr.setCell ⟨B, k * 3, none⟩ (.string x.1)).setCell ⟨B, k * 3 + 1, none⟩ (.string x.2.1)).setCell ⟨B, k * 3 + 2, none⟩ (.int .i64 x.2.2)) := by
  obtain ⟨h1, cs, h2, h3, h4⟩ := h
  have hk := (List.getElem?_eq_some_iff.1 hx).1
  refine ⟨((h1.setCell (Nat.le_refl _) _).setCell (Nat.le_refl _) _).setCell (Nat.le_refl _) _, _, blk_set (blk_set (blk_set h2 _ _) _ _) _ _, by simp [h3], fun j y hj hy => ?_⟩
  by_cases e : j = k
  · subst e
    rw [hx] at hy
    cases hy
    refine ⟨?_, ?_, ?_⟩ <;> simp [Array.getElem?_setIfInBounds] <;> omega
  · obtain ⟨a0, a1, a2⟩ := h4 j y (by omega) hy
    refine ⟨?_, ?_, ?_⟩
    · rw [Array.getElem?_setIfInBounds_ne (by omega), Array.getElem?_setIfInBounds_ne (by omega), Array.getElem?_setIfInBounds_ne (by omega), a0]
    · rw [Array.getElem?_setIfInBounds_ne (by omega), Array.getElem?_setIfInBounds_ne (by omega), Array.getElem?_setIfInBounds_ne (by omega), a1]
    · rw [Array.getElem?_setIfInBounds_ne (by omega), Array.getElem?_setIfInBounds_ne (by omega), Array.getElem?_setIfInBounds_ne (by omega), a2]
theorem ToF.row {fs : List FiD} {B : Nat} {w wr : World} (h : ToF fs B w fs.length wr) (hs : ∀ x ∈ fs, x.1.size ≤ 9223372036854775807 ∧ x.2.1.size ≤ 9223372036854775807) (hn : fs.length ≤ 1048576) : FiRow wr (some ⟨B, 0, none⟩) fs.length fs := by
  obtain ⟨h1, cs, h2, h3, h4⟩ := h
  refine ⟨Nat.le_refl _, by omega, hs, fun _ => ⟨_, rfl, blk_lt h2, fun j x hx => ?_⟩⟩
  obtain ⟨a0, a1, a2⟩ := h4 j x (List.getElem?_eq_some_iff.1 hx).1 hx
  rw [add_plain]
  exact ⟨(blk_cell h2 _).trans a0, (blk_cell h2 _).trans a1, (blk_cell h2 _).trans a2⟩
theorem ToF.cells {fs : List FiD} {B k : Nat} {w wr : World} (h : ToF fs B w k wr) {j : Nat} (hj : j < fs.length) : ∃ a0 a1 a2, wr.cell? ⟨B, j * 3, none⟩ = some a0 ∧ wr.cell? ⟨B, j * 3 + 1, none⟩ = some a1 ∧ wr.cell? ⟨B, j * 3 + 2, none⟩ = some a2 ∧ wr.frozen? ⟨B, j * 3, none⟩ = false ∧ wr.frozen? ⟨B, j * 3 + 1, none⟩ = false ∧ wr.frozen? ⟨B, j * 3 + 2, none⟩ = false := by
  obtain ⟨_, cs, h2, h3, _⟩ := h
  have g : ∀ i, i < cs.size → ∃ a, cs[i]? = some a := fun i hi => ⟨_, Array.getElem?_eq_getElem hi⟩
  obtain ⟨a0, h0⟩ := g (j * 3) (by omega)
  obtain ⟨a1, h1⟩ := g (j * 3 + 1) (by omega)
  obtain ⟨a2, h2'⟩ := g (j * 3 + 2) (by omega)
  exact ⟨a0, a1, a2, (blk_cell h2 _).trans h0, (blk_cell h2 _).trans h1, (blk_cell h2 _).trans h2', blk_frozen h2 _, blk_frozen h2 _, blk_frozen h2 _⟩
theorem ToF.lt {fs : List FiD} {B k : Nat} {w wr : World} (h : ToF fs B w k wr) : B < wr.heap.size := by
  obtain ⟨_, cs, h2, _⟩ := h
  exact blk_lt h2
def NewFs (w : World) (fs : List FiD) (e : Ending) (w' : World) : Prop := ∃ b, e = .returned (.slice (some ⟨b, 0, none⟩) fs.length fs.length) ∧ w.heap.size ≤ b ∧ FiRow w' (some ⟨b, 0, none⟩) fs.length fs ∧ Below w.heap.size w w'
theorem info_fil : (Tryz.prog.info? 105).map (fun i => (i.zero, i.size, i.bytes)) = some (some (.agg #[.string ⟨#[]⟩, .string ⟨#[]⟩, .int .i64 0]), 3, 40) := by kernel_rfl
set_option maxHeartbeats 1000000 in
set_option maxRecDepth 100000 in
theorem laws_toFileS_calls (A : Option Addr) (c : Nat) (fs : List FiD) (w : World) (h : FiRow w A c fs) (hn : fs.length ≤ 1048576) :
    Calls Tryz.prog 56 #[.slice A fs.length c] w (NewFs w fs) := by
  obtain ⟨i0, hi0, hz, hsz, hby⟩ := info_parts info_fil
  have HR := Lib.hid h
  clear h
  have km : ∀ W : World, (Instr.makeSlice 30 (.int .i64 (fs.length : Int)) (.int .i64 (fs.length : Int))).run Tryz.prog W = .ok (.slice (some ⟨W.heap.size, 0, none⟩) fs.length fs.length) (W.alloc (.cells (madeCells #[.string ⟨#[]⟩, .string ⟨#[]⟩, .int .i64 0] (fs.length * 3)) 105)) := fun W => by
    have := run_make (P := Tryz.prog) W 30 105 i0 _ Tryz.underlying30 hi0 hz .i64 .i64 fs.length fs.length (by omega) (Int.le_refl _) (by rw [hby]; omega) (by omega)
    rw [hsz] at this
    simp only [Int.toNat_natCast] at this
    exact this
  go_enter Tryz.func56, Tryz.ntmps56
  go_wp2
  go_loopw [4] (fun i wr => ∃ k : Nat, k ≤ fs.length ∧ i = .int .i64 k ∧ Hid (ToF fs w.heap.size w k wr)) (fun i _ => fs.length - (intOf i).toNat)
  case atStart => exact ⟨0, Nat.zero_le _, rfl, (Below.refl _ _).alloc (Nat.le_refl _) _, _, blk_new w _, size_madeCells _ _, fun j x hj => by omega⟩
  case round =>
    obtain ⟨k, hk, rfl, HT⟩ := hrel
    by_cases hlt : k < fs.length
    · obtain ⟨ad, x, hA, HX, hz1, hz2, hc0, hc1, hc2⟩ := (HR.out.below HT.out.1).at_ hlt
      cases hA
      obtain ⟨n, t, g⟩ := x
      dsimp only at hz1 hz2 hc0 hc1 hc2
      go_wp2_with fail
      go_at_call 103
      refine (laws_toFile_calls n t g _).mono ?_
      rintro e w1 ⟨rfl, hb⟩
      have HT1 := Lib.hid (HT.out.below HT.out.lt (Nat.le_of_lt HT.out.lt) hb)
      obtain ⟨a0, a1, a2, d0, d1, d2, f0, f1, f2⟩ := HT1.out.cells hlt
      have HT2 := Lib.hid (HT1.out.step HX.out)
      clear hb
      go_wp2
      go_roundw
      case rel => first | exact ⟨k + 1, by omega, by go_num, HT2⟩ | (repeat (first | (refine ⟨?relx, rfl⟩; exact ⟨k + 1, by omega, by go_num, HT2⟩) | (refine ⟨?relx, ?eqs⟩; (case eqs => (and_intros <;> rfl)); exact ⟨k + 1, by omega, by go_num, HT2⟩) | apply Exists.intro))
      case measure => simp [intOf]; omega
    · obtain rfl : k = fs.length := by omega
      have hrow := HT.out.row HR.out.2.2.1 hn
      have HROW := Lib.hid hrow
      clear hrow
      go_wp2
      go_ret
      exact ⟨_, rfl, Nat.le_refl _, HROW.out, HT.out.1⟩
end Go.Proofs.YtaacpdejpcbbbaaGreatDoor

namespace Go.Proofs.YtaacpdejpcbbbaaGreatDoor
set_option linter.unusedVariables false
set_option linter.unusedSimpArgs false
open Go.RowKit
attribute [local go_sem] bs_size List.length_cons List.length_nil List.length_append

theorem FiRow.set {w : World} {b c g i : Nat} {fs : List FiD} {u : Value} (h : FiRow w (some ⟨b, 0, none⟩) c fs) (hne : b ≠ g) : FiRow (w.setCell ⟨g, i, none⟩ u) (some ⟨b, 0, none⟩) c fs :=
  ⟨h.1, h.2.1, h.2.2.1, fun hp => by
    obtain ⟨ad, e, hl, hc⟩ := h.2.2.2 hp
    cases e
    refine ⟨_, rfl, by simpa using hl, fun j x hx => ?_⟩
    obtain ⟨h0, h1, h2⟩ := hc j x hx
    rw [add_plain] at h0 h1 h2 ⊢
    have hb : (w.setCell ⟨g, i, none⟩ u).heap[b]? = w.heap[b]? := Below.heap_setCell w ⟨g, i, none⟩ u b (fun e => hne e)
    exact ⟨(World.cell?_of_block hb).trans h0, (World.cell?_of_block hb).trans h1, (World.cell?_of_block hb).trans h2⟩⟩
def DiskNew (w : World) (fs : List FiD) (e : Ending) (w' : World) : Prop := ∃ b, e = .returned (.agg #[.slice (some ⟨b, 0, none⟩) fs.length fs.length]) ∧ FiRow w' (some ⟨b, 0, none⟩) fs.length fs ∧ Below w.heap.size w w'
theorem und_disk : ∃ fs, Tryz.prog.underlying 32 = some (.struct fs) := ⟨_, Tryz.underlying32⟩
theorem info_dsk : (Tryz.prog.info? 32).map (·.size) = some 1 := by kernel_rfl
abbrev zDisk : Obj := .cells #[.slice none 0 0] 32
set_option maxRecDepth 100000 in
theorem laws_toDisk_calls (A : Option Addr) (c : Nat) (fs : List FiD) (w : World) (h : FiRow w A c fs) (hn : fs.length ≤ 1048576) :
    Calls Tryz.prog 21 #[.agg #[.slice A fs.length c]] w (DiskNew w fs) := by
  obtain ⟨fsx, hu⟩ := und_disk
  have s1 : (w.alloc (.cells #[.slice A fs.length c] 24)).heap.size = w.heap.size + 1 := by simp
  have s2 : ((w.alloc (.cells #[.slice A fs.length c] 24)).alloc zDisk).heap.size = w.heap.size + 1 + 1 := by simp
  have HAL : Hid (Below w.heap.size w (((w.alloc (.cells #[.slice A fs.length c] 24)).alloc zDisk).alloc zDisk)) := (((Below.refl _ _).alloc (Nat.le_refl _) _).alloc (by simp) _).alloc (by simp; omega) _
  have HR := Lib.hid (h.below HAL.out)
  have k1 : Hid ((((w.alloc (.cells #[.slice A fs.length c] 24)).alloc zDisk).alloc zDisk).heap[w.heap.size + 1]? = some zDisk) := by
    have := blk_new (w.alloc (.cells #[.slice A fs.length c] 24)) zDisk
    rw [s1] at this
    exact alloc_far this _
  have k2 : Hid ((((w.alloc (.cells #[.slice A fs.length c] 24)).alloc zDisk).alloc zDisk).heap[w.heap.size + 1 + 1]? = some zDisk) := by
    have := blk_new ((w.alloc (.cells #[.slice A fs.length c] 24)).alloc zDisk) zDisk
    rw [s2] at this
    exact this
  have HS : Hid ((((w.alloc (.cells #[.slice A fs.length c] 24)).alloc zDisk).alloc zDisk).heap.size = w.heap.size + 3) := by rw [Hid]; simp
  clear h s1 s2
  go_enter Tryz.func21, Tryz.ntmps21
  go_wp2_with fail
  go_at_call 56
  refine (laws_toFileS_calls A c fs _ HR.out hn).mono ?_
  rintro e w1 ⟨b, rfl, hb0, hrow, hb⟩
  have K1 := Lib.hid (blk_below k1.out hb)
  have K2 := Lib.hid (blk_below k2.out hb)
  have HROW := Lib.hid hrow
  have HB0 : Hid (w.heap.size + 3 ≤ b) := by rw [Hid, ← HS.out]; exact hb0
  have HB1 := Lib.hid (HAL.out.trans (hb.mono HAL.out.size))
  have f1 := blk_frozen K1.out 0
  have c1 := blk_cell K1.out 0
  have f2 := blk_frozen K2.out 0
  have c2 := blk_cell K2.out 0
  clear hb hb0 hrow
  go_wp2
  have hne : w.heap.size + 1 ≠ w.heap.size + 1 + 1 := by omega
  have hset : ((w1.setCell ⟨w.heap.size + 1 + 1, 0, none⟩ (.slice (some ⟨b, 0, none⟩) fs.length fs.length)).setCell ⟨w.heap.size + 1, 0, none⟩ (.slice (some ⟨b, 0, none⟩) fs.length fs.length)).heap[w.heap.size + 1]? = some (.cells #[.slice (some ⟨b, 0, none⟩) fs.length fs.length] 32 (0, 0)) := by
    rw [blk_set (set_far K1.out hne) 0]
    rfl
  have hb3 := HB0.out
  exact res_one rfl hset rfl hu info_dsk ⟨b, rfl, (HROW.out.set (by omega)).set (by omega), (HB1.out.setCell (by show w.heap.size ≤ w.heap.size + 1 + 1; omega) _).setCell (by show w.heap.size ≤ w.heap.size + 1; omega) _⟩
theorem laws_eqFile_calls (n t : ByteArray) (k : Int) (w : World) :
    Calls Tryz.prog 111 #[.agg #[.string n, .string t, .int .i64 k], .agg #[.string n, .string t, .int .i64 k]] w fun e w' => e = .returned (.bool true) ∧ Below w.heap.size w w' := by
  have e3 : (k != k) = false := by simp
  have e4 : (n.toList != n.toList) = false := by simp
  have e5 : (t.toList != t.toList) = false := by simp
  have HAL : Hid (Below w.heap.size w ((w.alloc (.cells #[.string n, .string t, .int .i64 k] 105)).alloc (.cells #[.string n, .string t, .int .i64 k] 105))) := ((Below.refl _ _).alloc (Nat.le_refl _) _).alloc (by simp) _
  go_enter Tryz.func111, Tryz.ntmps111
  go_wp2
  go_ret
  exact ⟨rfl, HAL.out⟩
theorem keep6 {w w' : World} {a b : Addr} {x0 x1 x2 : Value} (h : (w.cell? a = some x0 ∧ w.cell? ⟨a.block, a.off + 1, none⟩ = some x1 ∧ w.cell? ⟨a.block, a.off + 2, none⟩ = some x2) ∧ (w.cell? b = some x0 ∧ w.cell? ⟨b.block, b.off + 1, none⟩ = some x1 ∧ w.cell? ⟨b.block, b.off + 2, none⟩ = some x2)) (hb : Below w.heap.size w w') :
    (w'.cell? a = some x0 ∧ w'.cell? ⟨a.block, a.off + 1, none⟩ = some x1 ∧ w'.cell? ⟨a.block, a.off + 2, none⟩ = some x2) ∧ (w'.cell? b = some x0 ∧ w'.cell? ⟨b.block, b.off + 1, none⟩ = some x1 ∧ w'.cell? ⟨b.block, b.off + 2, none⟩ = some x2) ∧ Hid (Below w.heap.size w w') := by
  have k : ∀ {a v}, w.cell? a = some v → w'.cell? a = some v := fun h => (hb.cell (World.block_lt_of_cell? w _ h)).trans h
  exact ⟨⟨k h.1.1, k h.1.2.1, k h.1.2.2⟩, ⟨k h.2.1, k h.2.2.1, k h.2.2.2⟩, hb⟩
set_option maxHeartbeats 1000000 in
set_option maxRecDepth 100000 in
theorem laws_eqFileS_calls (A : Option Addr) (c : Nat) (A' : Option Addr) (c' : Nat) (fs : List FiD) (w : World) (h : FiRow w A c fs) (h' : FiRow w A' c' fs) :
    Calls Tryz.prog 65 #[.slice A fs.length c, .slice A' fs.length c'] w fun e w' => e = .returned (.bool true) ∧ Below w.heap.size w w' := by
  have hl := h.len
  have HR := Lib.hid h
  have HR' := Lib.hid h'
  have hb1 : ((fs.length : Int) != (fs.length : Int)) = false := by simp
  clear h h'
  go_enter Tryz.func65, Tryz.ntmps65
  go_wp2
  go_loopw [5] (fun iv wr => ∃ j : Nat, j ≤ fs.length ∧ iv = .int .i64 (j : Int) ∧ Below w.heap.size w wr) (fun iv _ => fs.length - (intOf iv).toNat)
  case atStart => exact ⟨0, Nat.zero_le _, rfl, Below.refl _ _⟩
  case round =>
    obtain ⟨j, hj, rfl, hbel⟩ := hrel
    have HB := Lib.hid hbel
    by_cases hlt : j < fs.length
    · obtain ⟨ad, x, hA, HX, _, _, hc0, hc1, hc2⟩ := (HR.out.below hbel).at_ hlt
      obtain ⟨ad', y, hA', HY, _, _, hd0, hd1, hd2⟩ := (HR'.out.below hbel).at_ hlt
      obtain rfl : x = y := Option.some.inj (HX.out.symm.trans HY.out)
      clear hbel
      cases hA
      cases hA'
      obtain ⟨n, t, k⟩ := x
      dsimp only at hc0 hc1 hc2 hd0 hd1 hd2
      have H6 := Lib.hid (And.intro (And.intro hc0 (And.intro hc1 hc2)) (And.intro hd0 (And.intro hd1 hd2)))
      have HH0 : Hid (Below wr.heap.size wr wr.drew) := Below.drew (Below.refl _ _)
      have hli : (j : Int) < (fs.length : Int) := by omega
      clear hc0 hc1 hc2 hd0 hd1 hd2
      go_wp2_with fail
      go_region_held3 (fun w' => (w'.cell? (ad.add (j * 3)) = some (.string n) ∧ w'.cell? ⟨(ad.add (j * 3)).block, (ad.add (j * 3)).off + 1, none⟩ = some (.string t) ∧ w'.cell? ⟨(ad.add (j * 3)).block, (ad.add (j * 3)).off + 2, none⟩ = some (.int .i64 k)) ∧ (w'.cell? (ad'.add (j * 3)) = some (.string n) ∧ w'.cell? ⟨(ad'.add (j * 3)).block, (ad'.add (j * 3)).off + 1, none⟩ = some (.string t) ∧ w'.cell? ⟨(ad'.add (j * 3)).block, (ad'.add (j * 3)).off + 2, none⟩ = some (.int .i64 k)) ∧ Hid (Below wr.heap.size wr w')) (first | exact keep6 H6.out HH0.out | exact keep6 H6.out (HH0.out.trans (hb.mono (Nat.le_refl _)))) (first | (go_at_call 111; refine (laws_eqFile_calls n t k _).mono ?_; rintro e w' ⟨rfl, hb⟩))
      have HK := And.right (And.right ‹_ ∧ _ ∧ Hid (Below wr.heap.size wr _)›)
      go_wp2
      go_roundw
      case rel => first | exact ⟨j + 1, by omega, by go_num, HB.out.trans (HK.out.mono HB.out.size)⟩ | (repeat (first | (refine ⟨?relx, rfl⟩; exact ⟨j + 1, by omega, by go_num, HB.out.trans (HK.out.mono HB.out.size)⟩) | (refine ⟨?relx, ?eqs⟩; (case eqs => (and_intros <;> rfl)); exact ⟨j + 1, by omega, by go_num, HB.out.trans (HK.out.mono HB.out.size)⟩) | apply Exists.intro))
      case measure => simp [intOf]; omega
    · obtain rfl : j = fs.length := by omega
      clear hbel
      go_wp2
      go_ret
      exact ⟨rfl, HB.out⟩
theorem laws_eqDisk_calls (A : Option Addr) (c : Nat) (A' : Option Addr) (c' : Nat) (fs : List FiD) (w : World) (h : FiRow w A c fs) (h' : FiRow w A' c' fs) :
    Calls Tryz.prog 24 #[.agg #[.slice A fs.length c], .agg #[.slice A' fs.length c']] w fun e w' => e = .returned (.bool true) ∧ Below w.heap.size w w' := by
  have HAL : Hid (Below w.heap.size w ((w.alloc (.cells #[.slice A fs.length c] 32)).alloc (.cells #[.slice A' fs.length c'] 32))) := ((Below.refl _ _).alloc (Nat.le_refl _) _).alloc (by simp) _
  have HR := Lib.hid (h.below HAL.out)
  have HR' := Lib.hid (h'.below HAL.out)
  clear h h'
  go_enter Tryz.func24, Tryz.ntmps24
  go_wp2_with fail
  go_at_call 65
  refine (laws_eqFileS_calls A c A' c' fs _ HR.out HR'.out).mono ?_
  rintro e w1 ⟨rfl, hb⟩
  have HB1 := Lib.hid (HAL.out.trans (hb.mono HAL.out.size))
  clear hb
  go_wp2
  go_ret
  exact ⟨rfl, HB1.out⟩
end Go.Proofs.YtaacpdejpcbbbaaGreatDoor

namespace Go.Proofs.YtaacpdejpcbbbaaGreatDoor
set_option linter.unusedVariables false
set_option linter.unusedSimpArgs false
open Go.RowKit

theorem fiRow_of_trod {H : Type} {enc : TypeId × Value → H} {P : Program} {w : World} {base : Nat} {held : Bool} {t e : TypeId} {f0 f1 f2 : Field} {fuel : Nat} {A : Option Addr} {len cap : Nat} {x : DataW H × List MemPlace}
    (ht : P.underlying t = some (.slice e)) (he : P.underlying e = some (.struct #[f0, f1, f2])) (ce : P.cellsOf e = 3) (o0 : f0.offset = 0) (o1 : f1.offset = 1) (o2 : f2.offset = 2) (c0 : P.cellsOf f0.type = 1) (c1 : P.cellsOf f1.type = 1) (c2 : P.cellsOf f2.type = 1)
    (u0 : P.underlying f0.type = some .string) (u1 : P.underlying f1.type = some .string) (u2 : P.underlying f2.type = some (.int .i64))
    (h : DataW.trod enc P w base (fun _ => true) held fuel t [.slice A len cap] = some x) : ∃ fs : List FiD, len = fs.length ∧ FiRow w A cap fs := by
  rcases Go.Deep.open_slice ht h with ⟨hcs, _⟩ | ⟨a, len', cap', m, n, D, Pl, hcs, hb, hl, hm, hmm, _, hx⟩
  · simp at hcs
    obtain ⟨rfl, rfl, rfl⟩ := hcs
    exact ⟨[], rfl, by simp, by simp, by simp, fun h0 => by simp at h0⟩
  · simp at hcs
    obtain ⟨rfl, rfl, rfl⟩ := hcs
    rw [if_pos rfl] at hmm
    have each : ∀ i, i < len → ∃ q : FiD, w.cell? (a.add (i * 3)) = some (.string q.1) ∧ w.cell? ((a.add (i * 3)).add 1) = some (.string q.2.1) ∧ w.cell? ((a.add (i * 3)).add 2) = some (.int .i64 q.2.2) ∧ q.1.size ≤ maxLen ∧ q.2.1.size ≤ maxLen := by
      intro i hi
      obtain ⟨cs', h1, h2⟩ := hx i (by omega)
      rw [ce] at h1
      obtain ⟨_, hlen, hcell⟩ := World.cells?_some h1
      obtain ⟨xs, k, hk, hxy, _, hxl, hf⟩ := DataW.trod_struct he h2
      match xs, hxl, cs', hlen with
      | [y0, y1, y2], _, [v0, v1, v2], _ =>
        have g0 := hf 0 f0 rfl
        have g1 := hf 1 f1 rfl
        have g2 := hf 2 f2 rfl
        simp [o0, o1, o2, c0, c1, c2] at g0 g1 g2
        obtain ⟨s0, e0, _, z0⟩ := DataW.trod_string u0 g0
        obtain ⟨s1, e1, _, z1⟩ := DataW.trod_string u1 g1
        obtain ⟨k2, e2, _, _⟩ := DataW.trod_int u2 g2
        have d0 := hcell 0 (by omega)
        have d1 := hcell 1 (by omega)
        have d2 := hcell 2 (by omega)
        simp at e0 e1 e2
        subst e0 e1 e2
        refine ⟨(s0, s1, k2), ?_, d1, d2, z0, z1⟩
        have : (a.add (i * 3)).add 0 = a.add (i * 3) := by simp [Addr.add]
        rwa [this] at d0
    obtain ⟨q, hq⟩ := Go.Deep.choose_lt each
    have hlen : ((List.range len).map q).length = len := by simp
    refine ⟨(List.range len).map q, hlen.symm, by rw [hlen]; exact hl, by unfold maxLen at hm; exact hm, fun y hy => ?_, fun h0 => ⟨a, rfl, ?_, fun j y hy => ?_⟩⟩
    · obtain ⟨i, hi, rfl⟩ := List.mem_map.1 hy
      have := hq i (List.mem_range.1 hi)
      unfold maxLen at this
      exact ⟨this.2.2.2.1, this.2.2.2.2⟩
    · have := World.block_lt_of_cell? w _ (hq 0 (by rw [hlen] at h0; exact h0)).1
      rwa [add_block] at this
    · have hj := (List.getElem?_eq_some_iff.1 hy).1
      rw [hlen] at hj
      simp [hj] at hy
      subst hy
      obtain ⟨d0, d1, d2, _, _⟩ := hq j hj
      refine ⟨d0, ?_, ?_⟩
      · simpa [Addr.add] using d1
      · simpa [Addr.add] using d2
set_option maxRecDepth 100000 in
theorem disk_of_trod {H : Type} {enc : TypeId × Value → H} {w : World} {base b0 : Nat} {held : Bool} {r : Reach} {v : Value} {d : DataW H} {p : List MemPlace} (hv : Value.okWide Tryz.prog w r b0 24 v) (h : DataW.Trod enc Tryz.prog w base (fun _ => true) held 24 v d p) :
    ∃ A c fs, v = .agg #[.slice A (List.length fs) c] ∧ FiRow w A c fs := by
  obtain ⟨cs, rfl, hsz⟩ := Go.WideShapes.okWide_struct Tryz.underlying24 hv
  have e1 : Tryz.prog.cellsOf 24 = 1 := by kernel_rfl
  rw [e1] at hsz
  obtain ⟨fuel, hf⟩ := h
  obtain ⟨xs, n, _, _, _, hxl, hx⟩ := DataW.trod_struct Tryz.underlying24 hf
  have g0 := hx 0 _ rfl
  obtain ⟨l⟩ := cs
  match l, hsz with
  | [v0], _ =>
    have e2 : Tryz.prog.cellsOf 22 = 1 := by kernel_rfl
    match xs, hxl with
    | [y0], _ =>
      have g1 : DataW.trod enc Tryz.prog w base (fun _ => true) held n 22 [v0] = some y0 := by
        have := g0
        simp [Value.cells, e2] at this
        exact this
      rcases Go.Deep.open_slice Tryz.underlying22 g1 with ⟨hcs, _⟩ | ⟨a, len', cap', m, n', D, Pl, hcs, _⟩
      · simp at hcs
        subst hcs
        exact ⟨none, 0, [], rfl, by simp, by simp, by simp, fun h0 => by simp at h0⟩
      · simp at hcs
        subst hcs
        obtain ⟨fs, hl, hr⟩ := fiRow_of_trod Tryz.underlying22 Tryz.underlying124 (by kernel_rfl) rfl rfl rfl (by kernel_rfl) (by kernel_rfl) (by kernel_rfl) Tryz.underlying9 Tryz.underlying9 Tryz.underlying3 g1
        subst hl
        exact ⟨_, _, fs, rfl, hr⟩
set_option maxRecDepth 100000 in
theorem spot_of_trod {H : Type} {enc : TypeId × Value → H} {w : World} {base b0 : Nat} {held : Bool} {r : Reach} {v : Value} {d : DataW H} {p : List MemPlace} (hv : Value.okWide Tryz.prog w r b0 102 v) (h : DataW.Trod enc Tryz.prog w base (fun _ => true) held 102 v d p) :
    ∃ (key : ByteArray) (seg at_ sq : Int), v = .agg #[.string key, .int .i64 seg, .int .i64 at_, .int .i64 sq] ∧ key.size ≤ 9223372036854775807 := by
  obtain ⟨cs, rfl, hsz⟩ := Go.WideShapes.okWide_struct Tryz.underlying102 hv
  have e1 : Tryz.prog.cellsOf 102 = 4 := by kernel_rfl
  rw [e1] at hsz
  obtain ⟨fuel, hf⟩ := h
  obtain ⟨xs, n, _, _, _, hxl, hx⟩ := DataW.trod_struct Tryz.underlying102 hf
  have g0 := hx 0 _ rfl
  have g1 := hx 1 _ rfl
  have g2 := hx 2 _ rfl
  have g3 := hx 3 _ rfl
  obtain ⟨l⟩ := cs
  have es : Tryz.prog.cellsOf 9 = 1 := by kernel_rfl
  have ei : Tryz.prog.cellsOf 3 = 1 := by kernel_rfl
  match l, hsz with
  | [v0, v1, v2, v3], _ =>
    match xs, hxl with
    | [y0, y1, y2, y3], _ =>
      simp [Value.cells, es, ei] at g0 g1 g2 g3
      obtain ⟨s0, e0, _, z0⟩ := DataW.trod_string Tryz.underlying9 g0
      obtain ⟨k1, e1', _, _⟩ := DataW.trod_int Tryz.underlying3 g1
      obtain ⟨k2, e2', _, _⟩ := DataW.trod_int Tryz.underlying3 g2
      obtain ⟨k3, e3', _, _⟩ := DataW.trod_int Tryz.underlying3 g3
      simp at e0 e1' e2' e3'
      subst e0 e1' e2' e3'
      exact ⟨s0, k1, k2, k3, rfl, by unfold maxLen at z0; exact z0⟩
end Go.Proofs.YtaacpdejpcbbbaaGreatDoor

namespace Go.Proofs.YtaacpdejpcbbbaaGreatDoor
set_option linter.unusedVariables false
set_option linter.unusedSimpArgs false
open Go.RowKit

def ltFi (y x : FiD) : Bool := Op.bytesLess y.1.toList x.1.toList
def gtFi (y x : FiD) : Bool := !(Op.bytesLess y.1.toList x.1.toList || y.1.toList == x.1.toList)
/-- The files with one put in its place. -/
def putF (fs : List FiD) (x : FiD) : List FiD := (fs.filter fun y => ltFi y x) ++ [x] ++ fs.filter fun y => gtFi y x
theorem putF_mem {fs : List FiD} {x y : FiD} (h : y ∈ putF fs x) : y ∈ fs ∨ y = x := by
  unfold putF at h
  rcases List.mem_append.1 h with h | h
  · rcases List.mem_append.1 h with h | h
    · exact .inl (List.mem_filter.1 h).1
    · exact .inr (List.mem_singleton.1 h)
  · exact .inl (List.mem_filter.1 h).1
theorem putF_len (fs : List FiD) (x : FiD) : (putF fs x).length ≤ fs.length + 1 := by
  have h : (fs.filter fun y => ltFi y x).length + (fs.filter fun y => gtFi y x).length ≤ fs.length := by
    induction fs with
    | nil => simp
    | cons y fs ih =>
      rw [List.filter_cons, List.filter_cons, List.length_cons]
      by_cases hl : ltFi y x = true
      · have hg : gtFi y x = false := by
          unfold gtFi ltFi at *
          rw [hl]
          rfl
        rw [if_pos hl, if_neg (by rw [hg]; exact Bool.false_ne_true), List.length_cons]
        omega
      · rw [if_neg hl]
        split
        · rw [List.length_cons]; omega
        · omega
  unfold putF
  simp
  omega
theorem fi_yes {p : FiD → Bool} {fs : List FiD} {i : Nat} {y : FiD} (h : fs[i]? = some y) (hp : p y = true) : (fs.take (i + 1)).filter p = (fs.take i).filter p ++ [y] := by
  rw [take_snoc h, List.filter_append]
  simp [hp]
theorem fi_no {p : FiD → Bool} {fs : List FiD} {i : Nat} {y : FiD} (h : fs[i]? = some y) (hp : p y = false) : (fs.take (i + 1)).filter p = (fs.take i).filter p := by
  rw [take_snoc h, List.filter_append]
  simp [hp]
end Go.Proofs.YtaacpdejpcbbbaaGreatDoor

namespace Go.Proofs.YtaacpdejpcbbbaaGreatDoor
set_option linter.unusedVariables false
set_option linter.unusedSimpArgs false
open Go.RowKit
attribute [local go_sem] bs_size List.length_cons List.length_nil List.length_append

/-- Every file is kept whole. -/
def keptF (fs : List FiD) : Bool := fs.all fun x => decide (x.2.2 = (x.2.1.size : Int))
def allKeptB (fs : List FiD) : Bool := diskOkB fs && keptF fs
theorem kept_all {fs : List FiD} (h : ∀ i y, i < fs.length → fs[i]? = some y → y.2.2 = (y.2.1.size : Int)) : keptF fs = true := by
  unfold keptF
  rw [List.all_eq_true]
  intro x hx
  obtain ⟨i, hi⟩ := List.getElem?_of_mem hx
  exact decide_eq_true (h i x (List.getElem?_eq_some_iff.1 hi).1 hi)
theorem kept_not {fs : List FiD} {i : Nat} {x : FiD} (hi : fs[i]? = some x) (hx : x.2.2 ≠ (x.2.1.size : Int)) : keptF fs = false := by
  unfold keptF
  rw [List.all_eq_false]
  exact ⟨x, List.mem_of_getElem? hi, by simpa using hx⟩
def KxPost (fs : List FiD) (r : Int) : Prop := (keptF fs = false ∧ 0 ≤ r ∧ r ≤ 9223372036854775807) ∨ (keptF fs = true ∧ r = -1)
theorem kx_step {fs : List FiD} {j : Nat} {x : FiD} (hj : fs[j]? = some x) (hx : x.2.2 = (x.2.1.size : Int)) (h : ∀ i y, i < j → fs[i]? = some y → y.2.2 = (y.2.1.size : Int)) : ∀ i y, i < j + 1 → fs[i]? = some y → y.2.2 = (y.2.1.size : Int) := fun i y hi hy => by
  by_cases e : i = j
  · subst e
    rw [hj] at hy
    cases hy
    exact hx
  · exact h i y (by omega) hy
set_option maxRecDepth 100000 in
theorem impl_AllKept1_calls (n t : ByteArray) (k : Int) (w : World) (b : Bool) (hb : (k != (t.size : Int)) = b) (ht : t.size ≤ 9223372036854775807) :
    Calls Tryz.prog 105 #[.agg #[.string n, .string t, .int .i64 k]] w fun e w' => e = .returned (.bool b) ∧ Below w.heap.size w w' := by
  have HAL : Hid (Below w.heap.size w (w.alloc (.cells #[.string n, .string t, .int .i64 k] 105))) := (Below.refl _ _).alloc (Nat.le_refl _) _
  have HBB := Lib.hid hb
  clear hb
  go_enter Tryz.func105, Tryz.ntmps105
  go_wp2
  go_ret
  exact ⟨ret_bool HBB.out, HAL.out⟩
set_option maxRecDepth 100000 in
theorem index_Kept_calls (A : Option Addr) (c : Nat) (fs : List FiD) (w : World) (h : FiRow w A c fs) :
    Calls Tryz.prog 133 #[.slice A fs.length c, .func (.func 105) #[] #[]] w fun e w' => ∃ r : Int, e = .returned (.int .i64 r) ∧ KxPost fs r ∧ Below w.heap.size w w' := by
  have hl := h.len
  have HR := Lib.hid h
  clear h
  go_enter Tryz.func133, Tryz.ntmps133
  go_wp2
  go_loopw [8] (fun iv wr => ∃ i : Nat, i ≤ fs.length ∧ iv = .int .i64 (i : Int) ∧ Hid (∀ j y, j < i → fs[j]? = some y → y.2.2 = (y.2.1.size : Int)) ∧ Hid (Below w.heap.size w wr)) (fun iv _ => fs.length - (intOf iv).toNat)
  case atStart => exact ⟨0, Nat.zero_le _, rfl, fun j y hj => by omega, Below.refl _ _⟩
  case round =>
    obtain ⟨i, hi, rfl, HT, HB⟩ := hrel
    by_cases hlt : i < fs.length
    · obtain ⟨ad, x, hA, HX, hz1, hz2, hc0, hc1, hc2⟩ := (HR.out.below HB.out).at_ hlt
      cases hA
      obtain ⟨n, t, k⟩ := x
      dsimp only at hz1 hz2 hc0 hc1 hc2
      by_cases hn : k = (t.size : Int)
      · have HE := Lib.hid (kx_step HX.out hn HT.out)
        have HQ : Hid ((k != (t.size : Int)) = false) := by rw [Hid, hn]; simp
        clear hn
        go_wp2_with fail
        go_at_call 105
        refine (impl_AllKept1_calls n t k _ false HQ.out hz2).mono ?_
        rintro e w' ⟨rfl, hb⟩
        have HB2 := Lib.hid (HB.out.trans (hb.mono HB.out.size))
        clear hb
        go_wp2
        go_roundw
        case rel => first | exact ⟨i + 1, by omega, by go_num, HE, HB2⟩ | (repeat (first | (refine ⟨?relx, rfl⟩; exact ⟨i + 1, by omega, by go_num, HE, HB2⟩) | (refine ⟨?relx, ?eqs⟩; (case eqs => (and_intros <;> rfl)); exact ⟨i + 1, by omega, by go_num, HE, HB2⟩) | apply Exists.intro))
        case measure => simp [intOf]; omega
      · have HE : Hid (KxPost fs (i : Int)) := .inl ⟨kept_not HX.out hn, by omega, by omega⟩
        have HQ : Hid ((k != (t.size : Int)) = true) := by rw [Hid]; simpa using hn
        clear hn
        go_wp2_with fail
        go_at_call 105
        refine (impl_AllKept1_calls n t k _ true HQ.out hz2).mono ?_
        rintro e w' ⟨rfl, hb⟩
        go_wp2
        go_ret
        exact ⟨_, rfl, HE.out, HB.out.trans (hb.mono HB.out.size)⟩
    · obtain rfl : i = fs.length := by omega
      have HE : Hid (KxPost fs (-1)) := .inr ⟨kept_all HT.out, rfl⟩
      go_wp2
      go_ret
      exact ⟨_, rfl, HE.out, HB.out⟩
set_option maxRecDepth 100000 in
theorem contains_Kept_calls (A : Option Addr) (c : Nat) (fs : List FiD) (w : World) (h : FiRow w A c fs) :
    Calls Tryz.prog 104 #[.slice A fs.length c, .func (.func 105) #[] #[]] w fun e w' => e = .returned (.bool (!keptF fs)) ∧ Below w.heap.size w w' := by
  have HR := Lib.hid h
  clear h
  go_enter Tryz.func104, Tryz.ntmps104
  go_wp2_with fail
  go_at_call 133
  refine (index_Kept_calls A c fs _ HR.out).mono ?_
  rintro e w' ⟨r, rfl, hr, hb⟩
  have HB := Lib.hid hb
  rcases hr with ⟨hk, h0, _⟩ | ⟨hk, rfl⟩
  · have HK := Lib.hid hk
    clear hk
    go_wp2
    go_ret
    exact ⟨by rw [HK.out]; exact ret_bool (by simp), HB.out⟩
  · have HK := Lib.hid hk
    clear hk
    go_wp2
    go_ret
    exact ⟨by rw [HK.out]; rfl, HB.out⟩
set_option maxRecDepth 100000 in
theorem impl_AllKept_calls (A : Option Addr) (c : Nat) (fs : List FiD) (w : World) (h : FiRow w A c fs) :
    Calls Tryz.prog 58 #[.agg #[.slice A fs.length c]] w fun e w' => e = .returned (.bool (allKeptB fs)) ∧ Below w.heap.size w w' := by
  have hmf : ∀ (fn : Fn) (first cap : Array Value) (w : World), (Instr.makeFunc fn first cap).run Tryz.prog w = .ok (.func fn first cap) w := fun _ _ _ _ => rfl
  have HAL : Hid (Below w.heap.size w (w.alloc (.cells #[.slice A fs.length c] 32))) := (Below.refl _ _).alloc (Nat.le_refl _) _
  have HR := Lib.hid (h.below HAL.out)
  have hc0 : (w.alloc (.cells #[.slice A fs.length c] 32)).cell? ⟨w.heap.size, 0, none⟩ = some (.slice A fs.length c) := blk_cell (blk_new w _) 0
  clear h
  cases hd : diskOkB fs
  · have HD := Lib.hid hd
    clear hd
    go_enter Tryz.func58, Tryz.ntmps58
    go_wp2_with fail
    go_at_call 82
    refine (impl_DiskOk_calls A c fs _ HR.out).mono ?_
    rw [HD.out]
    rintro e w1 ⟨rfl, hb⟩
    have HB := Lib.hid (HAL.out.trans (hb.mono HAL.out.size))
    clear hb
    go_wp2
    go_ret
    exact ⟨by unfold allKeptB; rw [HD.out]; rfl, HB.out⟩
  · have HD := Lib.hid hd
    clear hd
    go_enter Tryz.func58, Tryz.ntmps58
    go_wp2_with fail
    go_at_call 82
    refine (impl_DiskOk_calls A c fs _ HR.out).mono ?_
    rw [HD.out]
    rintro e w1 ⟨rfl, hb⟩
    have HB := Lib.hid (HAL.out.trans (hb.mono HAL.out.size))
    have HR1 := Lib.hid (HR.out.below hb)
    have p0 : w1.cell? ⟨w.heap.size, 0, none⟩ = some (.slice A fs.length c) := (hb.cell (World.block_lt_of_cell? _ _ hc0)).trans hc0
    clear hb
    go_wp2_with fail
    go_at_call 104
    refine (contains_Kept_calls A c fs _ HR1.out).mono ?_
    rintro e w2 ⟨rfl, hb⟩
    have HB2 := Lib.hid (HB.out.trans (hb.mono HB.out.size))
    have HE : Hid (allKeptB fs = keptF fs) := by unfold allKeptB; rw [HD.out]; rfl
    clear hb
    generalize keptF fs = kb at HE
    go_wp2
    go_ret
    exact ⟨by rw [HE.out]; cases kb <;> rfl, HB2.out⟩
end Go.Proofs.YtaacpdejpcbbbaaGreatDoor

namespace Go.Proofs.YtaacpdejpcbbbaaGreatDoor
set_option linter.unusedVariables false
set_option linter.unusedSimpArgs false
open Go.RowKit

def fiVals (x : FiD) : List Value := [.string x.1, .string x.2.1, .int .i64 x.2.2]
def fiFlat (fs : List FiD) : List Value := (fs.map fiVals).flatten
theorem fiFlat_snoc (fs : List FiD) (x : FiD) : fiFlat (fs ++ [x]) = fiFlat fs ++ fiVals x := by simp [fiFlat]
theorem info_fi : (Tryz.prog.info? 105).map (fun i => (i.zero, i.size, i.bytes)) = some (some (.agg #[.string ⟨#[]⟩, .string ⟨#[]⟩, .int .i64 0]), 3, 40) := by kernel_rfl
/-- A row of files of the call's own, made from block B on. -/
def FiOwn (w : World) (B : Nat) (v : Value) (fs : List FiD) : Prop := w.ownsRow B 105 3 v fs.length (fiFlat fs)
theorem FiOwn.row {w : World} {B : Nat} {v : Value} {fs : List FiD} (h : FiOwn w B v fs) (hs : ∀ x ∈ fs, x.1.size ≤ 9223372036854775807 ∧ x.2.1.size ≤ 9223372036854775807) : ∃ A c, v = .slice A fs.length c ∧ FiRow w A c fs := by
  rcases own_cells (f := fiVals) (m := 3) (fun _ => rfl) h with ⟨rfl, rfl⟩ | ⟨g, cap, rfl, _, hg, hn, hm, hc⟩
  · exact ⟨none, 0, rfl, by simp, by simp, hs, fun h0 => by simp at h0⟩
  · refine ⟨_, cap, rfl, hn, hm, hs, fun _ => ⟨_, rfl, hg, fun j x hx => ?_⟩⟩
    rw [add_plain]
    exact ⟨hc j x 0 hx (by omega), hc j x 1 hx (by omega), hc j x 2 hx (by omega)⟩
theorem FiOwn.below {w w' : World} {B : Nat} {v : Value} {fs : List FiD} (h : FiOwn w B v fs) (hb : Below w.heap.size w w') : FiOwn w' B v fs := own_keep h hb
theorem FiOwn.form {w : World} {B : Nat} {v : Value} {fs : List FiD} (h : FiOwn w B v fs) : ∃ A c, v = .slice A fs.length c := by
  rcases h.2 with ⟨rfl, h0⟩ | ⟨g, cap, cur, rfl, _⟩
  · exact ⟨none, 0, by rw [h0]⟩
  · exact ⟨_, _, rfl⟩
theorem FiOwn.lt {w : World} {B : Nat} {v : Value} {fs : List FiD} (h : FiOwn w B v fs) : ∀ k, v.ownBlock = some k → B ≤ k ∧ k < w.heap.size := World.ownsRow.lt h
theorem FiOwn.mono {w : World} {B B' : Nat} {v : Value} {fs : List FiD} (h : FiOwn w B v fs) (hb : B' ≤ B) : FiOwn w B' v fs := own_low h hb
theorem FiOwn.kept {w w' : World} {B : Nat} {v : Value} {fs : List FiD} {row : Option Nat} (h : FiOwn w B v fs) (hg : w.grownBy w' row) (hr : ∀ k, row = some k → k < B) : FiOwn w' B v fs := by
  refine World.ownsRow.kept h hg ?_
  cases hv : v.ownBlock with
  | none => exact .inl rfl
  | some k => exact .inr fun e => by have := (h.lt k hv).1; have := hr k e.symm; omega

theorem fiFlat_len (fs : List FiD) : (fiFlat fs).length = fs.length * 3 := flat_len (f := fiVals) (m := 3) (fun _ => rfl) fs
theorem flat_cell {α : Type} {f : α → List Value} {m : Nat} (hf : ∀ x, (f x).length = m) {w : World} {ad : Addr} : ∀ (xs : List α) (o : Nat), (∀ j x d, xs[j]? = some x → d < m → w.cell? (ad.add (o + (j * m + d))) = (f x)[d]?) → ∀ j u, ((xs.map f).flatten)[j]? = some u → w.cell? (ad.add (o + j)) = some u
  | [], _, _, j, u, h => by simp at h
  | x :: xs, o, hc, j, u, h => by
    rw [List.map_cons, List.flatten_cons] at h
    by_cases hj : j < m
    · rw [List.getElem?_append_left (by rw [hf]; exact hj)] at h
      have := hc 0 x j rfl hj
      rw [Nat.zero_mul, Nat.zero_add] at this
      rw [this, h]
    · rw [List.getElem?_append_right (by rw [hf]; omega), hf] at h
      have := flat_cell hf xs (o + m) (fun i y d hi hd => by
        have := hc (i + 1) y d (by simpa using hi) hd
        rw [Nat.add_mul, Nat.one_mul] at this
        rw [show o + m + (i * m + d) = o + (i * m + m + d) by omega]
        exact this) (j - m) u h
      rwa [show o + m + (j - m) = o + j by omega] at this
theorem FiRow.flat {w : World} {b c : Nat} {fs : List FiD} (h : FiRow w (some ⟨b, 0, none⟩) c fs) : ∀ j u, (fiFlat fs)[j]? = some u → w.cell? ((⟨b, 0, none⟩ : Addr).add j) = some u := by
  intro j u hj
  rcases Nat.eq_zero_or_pos fs.length with h0 | h0
  · obtain rfl := List.eq_nil_of_length_eq_zero h0
    simp [fiFlat] at hj
  · obtain ⟨ad', e, _, hc⟩ := h.2.2.2 h0
    cases e
    have := flat_cell (f := fiVals) (m := 3) (fun _ => rfl) (w := w) (ad := ⟨b, 0, none⟩) fs 0 (fun i x d hi hd => by
      obtain ⟨h0, h1, h2⟩ := hc i x hi
      rw [add_plain] at h0 h1 h2 ⊢
      rw [Nat.zero_add]
      match d, hd with
      | 0, _ => exact h0
      | 1, _ => exact h1
      | 2, _ => exact h2) j u hj
    rwa [Nat.zero_add] at this
theorem fiVals_one (fs : List FiD) : ∀ u ∈ fiFlat fs, u.oneCell' = true := by
  intro u hu
  unfold fiFlat at hu
  obtain ⟨l, hl, hu⟩ := List.mem_flatten.1 hu
  obtain ⟨y, _, rfl⟩ := List.mem_map.1 hl
  unfold fiVals at hu
  simp only [List.mem_cons, List.not_mem_nil, or_false] at hu
  rcases hu with rfl | rfl | rfl <;> rfl
/-- One struct held in a result's block; behind it one result in a slot, or two. -/
theorem res_box {fn : Func} {p : Tmp} {ty : TypeId} {W : World} {g : Nat} {cs : Array Value} {tmps : Array Value} {post : Ending → World → Prop} {fx : Array Field} (hf : fn.results = #[.cell p ty]) (hg : W.heap[g]? = some (.cells cs ty (0, 0))) (hp : tmps.getD p undef = .pointer (some ⟨g, 0, none⟩))
    (hu : Tryz.prog.underlying ty = some (.struct fx)) (hi : (Tryz.prog.info? ty).map (·.size) = some cs.size) (hpost : post (.returned (.agg cs)) W) : bodyPost Tryz.prog fn post .ret ⟨tmps, []⟩ W := by
  have hp' : tmps[p]?.getD undef = .pointer (some ⟨g, 0, none⟩) := by simpa using hp
  have hr : (results fn tmps).run Tryz.prog W = .ok (.agg cs) W := by
    simp only [results, hf]
    simp [Sem.run_bind, hp', asAddr, Result.andThen, run_loadVar_row W g ty ty cs (0, 0) (.struct fx) hg hu rfl hi]
  exact bodyPost_ret hr rfl hpost
theorem res_box1 {fn : Func} {p t : Tmp} {ty : TypeId} {W : World} {g : Nat} {cs : Array Value} {tmps : Array Value} {post : Ending → World → Prop} {fx : Array Field} (hf : fn.results = #[.cell p ty, .tmp t]) (hg : W.heap[g]? = some (.cells cs ty (0, 0))) (hp : tmps.getD p undef = .pointer (some ⟨g, 0, none⟩))
    (hu : Tryz.prog.underlying ty = some (.struct fx)) (hi : (Tryz.prog.info? ty).map (·.size) = some cs.size) (v : Value) (hv : tmps.getD t undef = v) (hpost : post (.returned (.tuple #[.agg cs, v])) W) : bodyPost Tryz.prog fn post .ret ⟨tmps, []⟩ W := by
  have hp' : tmps[p]?.getD undef = .pointer (some ⟨g, 0, none⟩) := by simpa using hp
  have hv' : tmps[t]?.getD undef = v := by simpa using hv
  have hr : (results fn tmps).run Tryz.prog W = .ok (.tuple #[.agg cs, v]) W := by
    simp only [results, hf]
    simp [Sem.run_bind, hp', hv', asAddr, Result.andThen, run_loadVar_row W g ty ty cs (0, 0) (.struct fx) hg hu rfl hi]
  exact bodyPost_ret hr rfl hpost
theorem res_box2 {fn : Func} {p t t2 : Tmp} {ty : TypeId} {W : World} {g : Nat} {cs : Array Value} {tmps : Array Value} {post : Ending → World → Prop} {fx : Array Field} (hf : fn.results = #[.cell p ty, .tmp t, .tmp t2]) (hg : W.heap[g]? = some (.cells cs ty (0, 0))) (hp : tmps.getD p undef = .pointer (some ⟨g, 0, none⟩))
    (hu : Tryz.prog.underlying ty = some (.struct fx)) (hi : (Tryz.prog.info? ty).map (·.size) = some cs.size) (v v2 : Value) (hv : tmps.getD t undef = v) (hv2 : tmps.getD t2 undef = v2) (hpost : post (.returned (.tuple #[.agg cs, v, v2])) W) : bodyPost Tryz.prog fn post .ret ⟨tmps, []⟩ W := by
  have hp' : tmps[p]?.getD undef = .pointer (some ⟨g, 0, none⟩) := by simpa using hp
  have hv' : tmps[t]?.getD undef = v := by simpa using hv
  have hv2' : tmps[t2]?.getD undef = v2 := by simpa using hv2
  have hr : (results fn tmps).run Tryz.prog W = .ok (.tuple #[.agg cs, v, v2]) W := by
    simp only [results, hf]
    simp [Sem.run_bind, hp', hv', hv2', asAddr, Result.andThen, run_loadVar_row W g ty ty cs (0, 0) (.struct fx) hg hu rfl hi]
  exact bodyPost_ret hr rfl hpost
theorem und_dskP : ∃ fs, Tryz.prog.underlying 32 = some (.struct fs) := ⟨_, Tryz.underlying32⟩
theorem info_dskP : (Tryz.prog.info? 32).map (·.size) = some 1 := by kernel_rfl
end Go.Proofs.YtaacpdejpcbbbaaGreatDoor

namespace Go.Proofs.YtaacpdejpcbbbaaGreatDoor
set_option linter.unusedVariables false
set_option linter.unusedSimpArgs false
open Go.RowKit

theorem run_copy_k (w : World) (dT sT ty elem : TypeId) (b o dLen dCap : Nat) (a : Addr) (sLen sCap n k : Nat) (cs : List Value)
    (hu : Tryz.prog.underlying dT = some (.slice elem)) (hs : (Tryz.prog.info? elem).map (·.size) = some k) (hn : Nat.min sLen dLen = n) (hl : cs.length = n * k)
    (hsrc : ∀ j v, cs[j]? = some v → w.cell? (a.add j) = some v) (hc : ∀ j, j < cs.length → (w.cell? ⟨b, o + j, none⟩).isSome = true) (hf : ∀ j, j < cs.length → w.frozen? ⟨b, o + j, none⟩ = false) (h1 : ∀ v ∈ cs, v.oneCell' = true) :
    (Builtin.copy_ #[dT, sT] ty #[.slice (some ⟨b, o, none⟩) dLen dCap, .slice (some a) sLen sCap]).run Tryz.prog w = .ok (goInt n) (w.setCells b o cs) := by
  have hll := run_loadCells_list (P := Tryz.prog) w a cs hsrc
  have hst := run_storeCells_cells (P := Tryz.prog) b o cs 0 w (by simpa using hc) (by simpa using hf) h1
  cases hq : Tryz.prog.info? elem with
  | none => simp [hq] at hs
  | some i =>
    have hi : i.size = k := by simpa [hq] using hs
    rw [hl] at hll
    simp [Builtin.copy_, run_underlying hu, Builtin.lenOf, Builtin.firstCells, sizeOf, typeInfo, hq, hi, hn, hll, hst]
theorem run_clear_k (w : World) (t e ty : TypeId) (z : Value) (zs : List Value) (ht : Tryz.prog.underlying t = some (.slice e)) (hv : ∀ w, (zeroValue e).run Tryz.prog w = .ok z w) (n : Nat) (hz : (Builtin.zeroCells z.cells n).toList = zs) (h1 : ∀ v ∈ zs, v.oneCell' = true) (b o c : Nat) (hn : 0 < n)
    (hc : ∀ j, j < zs.length → (w.cell? ⟨b, o + j, none⟩).isSome = true) (hf : ∀ j, j < zs.length → w.frozen? ⟨b, o + j, none⟩ = false) :
    (Builtin.clear_ #[t] ty #[.slice (some ⟨b, o, none⟩) n c]).run Tryz.prog w = .ok (.tuple #[]) (w.setCells b o zs) := by
  have hst := run_storeCells_cells (P := Tryz.prog) b o zs 0 w (by simpa using hc) (by simpa using hf) h1
  simp only [Nat.add_zero] at hst
  obtain ⟨m, rfl⟩ : ∃ m, n = m + 1 := ⟨n - 1, by omega⟩
  simp [Builtin.clear_, run_underlying ht, hv, hz, hst]
/-- The operation 'copy(d, s)', its run known by an equation. -/
theorem wpList_copy_at (w : World) {ops : Array Oper} {rest : List Oper} {o : Oper} {a : Act} {Q : Exit → Act → World → Prop} (hgd : o.guard = none) (d s : Operand) (t t' : TypeId)
    (ho : o.op = .call { callee := .builtin .copy, args := #[d, s], argTypes := #[t, t'] }) (v u : Value) (hd : a.eval d = v) (hs : a.eval s = u) {v' : Value} {w' : World}
    (hr : (Builtin.copy_ #[t, t'] o.type #[v, u]).run Tryz.prog w = .ok v' w') (h : wpList Tryz.prog ops Q rest (a.put o.dst v') w') : wpList Tryz.prog ops Q (o :: rest) a w :=
  wpList_plain hgd fun _ hK => by
    unfold Oper.wp execOp
    simp only [ho, resolve, invoke, builtin, Sem.run_bind, Sem.run_pure, Result.andThen_ok, List.map_toArray, List.map_cons, List.map_nil, hd, hs, hr]
    exact hK _ _ h
theorem step_copy_at {ops : Array Oper} {o : Oper} {a : Act} {w : World} {K : Act → World → Prop} {Q : Exit → Act → World → Prop} {E : Prop}
    (hg : o.guard = none) (d x : Operand) (dT sT : TypeId) (hop : o.op = Op.call { callee := Callee.builtin Builtin.copy, args := #[d, x], argTypes := #[dT, sT] })
    (v u : Value) (hd : a.eval d = v) (hx : a.eval x = u) {v' : Value} {w' : World} (hr : (Builtin.copy_ #[dT, sT] o.type #[v, u]).run Tryz.prog w = .ok v' w') (hK : K (a.put o.dst v') w') :
    if Region.wanted o (yielded ops a.tmps) = true then Oper.wp Tryz.prog o a w K Q else E := by
  have hw : Region.wanted o (yielded ops a.tmps) = true := by simp [Region.wanted, hg]
  rw [if_pos hw]
  unfold Oper.wp
  simp [execOp, hop, resolve, invoke, builtin, hd, hx, hr, Result.andThen]
  exact hK
theorem setCells_size (b : Nat) : ∀ (vs : List Value) (o : Nat) (w : World), (w.setCells b o vs).heap.size = w.heap.size
  | [], _, _ => rfl
  | v :: r, o, w => by rw [World.setCells, setCells_size b r]; simp [World.setCell]
theorem setCells_grown (b : Nat) : ∀ (vs : List Value) (o : Nat) (w : World), w.grownBy (w.setCells b o vs) (some b)
  | [], _, w => World.grownBy.refl w _
  | v :: r, o, w => gr_trans (gr_set w b o v) (setCells_grown b r (o + 1) _)
/-- The cells of a block, some of them written anew. -/
def overL (cur : List Value) (o : Nat) (vs : List Value) : List Value := cur.take o ++ vs ++ cur.drop (o + vs.length)
theorem overL_len {cur : List Value} {o : Nat} {vs : List Value} (h : o + vs.length ≤ cur.length) : (overL cur o vs).length = cur.length := by
  unfold overL
  simp
  omega
theorem setCells_blk {b : Nat} {ty : TypeId} : ∀ (vs : List Value) (o : Nat) (w : World) (cur : Array Value), w.heap[b]? = some (.cells cur ty (0, 0)) → o + vs.length ≤ cur.size → (w.setCells b o vs).heap[b]? = some (.cells (overL cur.toList o vs).toArray ty (0, 0))
  | [], o, w, cur, h, _ => by
    unfold overL
    simpa [World.setCells] using h
  | v :: r, o, w, cur, h, hl => by
    rw [List.length_cons] at hl
    have h1 : (w.setCell ⟨b, o, none⟩ v).heap[b]? = some (.cells (cur.setIfInBounds o v) ty (0, 0)) := blk_set h o v
    rw [World.setCells, setCells_blk r (o + 1) _ _ h1 (by rw [Array.size_setIfInBounds]; omega)]
    congr 3
    unfold overL
    rw [Array.toList_setIfInBounds, List.length_cons]
    have ho : o < cur.toList.length := by rw [Array.length_toList]; omega
    rw [List.take_set, List.drop_set_of_lt (by omega), show o + 1 + r.length = o + (r.length + 1) by omega, List.take_add_one, List.getElem?_eq_getElem ho]
    simp only [Option.toList_some]
    rw [List.set_append_right _ _ (by rw [List.length_take]; omega), List.length_take, Nat.min_eq_left (by omega), Nat.sub_self]
    simp
end Go.Proofs.YtaacpdejpcbbbaaGreatDoor

namespace Go.Proofs.YtaacpdejpcbbbaaGreatDoor
set_option linter.unusedVariables false
set_option linter.unusedSimpArgs false
open Go.RowKit
attribute [local go_sem] bs_size List.length_cons List.length_nil List.length_append

/-- One more among the files. -/
def insF (fs : List FiD) (i : Nat) (x : FiD) : List FiD := fs.take i ++ x :: fs.drop i
theorem insF_end (fs : List FiD) (x : FiD) : insF fs fs.length x = fs ++ [x] := by simp [insF]
theorem insF_len {fs : List FiD} {i : Nat} {x : FiD} (hi : i ≤ fs.length) : (insF fs i x).length = fs.length + 1 := by simp [insF]; omega
/-- What Insert leaves. -/
def InsPost (w : World) (B : Nat) (v : Value) (fs : List FiD) (e : Ending) (w' : World) : Prop := ∃ v', e = .returned v' ∧ FiOwn w' B v' fs ∧ w.grownBy w' v.ownBlock ∧ ∀ k, v'.ownBlock = some k → v.ownBlock = some k ∨ w.heap.size ≤ k
theorem ins_at {w : World} {v : Value} {gg n cap : Nat} (hat : v.ownBlock = some gg ∨ gg = w.heap.size) : ∀ k, (Value.slice (some ⟨gg, 0, none⟩) n cap).ownBlock = some k → v.ownBlock = some k ∨ w.heap.size ≤ k := by
  intro k e
  obtain rfl : gg = k := Option.some.inj e
  exact hat.imp id fun h => by omega
set_option maxHeartbeats 4000000 in
set_option maxRecDepth 100000 in
theorem insert_end (B vb : Nat) (v : Value) (fs : List FiD) (nm tx : ByteArray) (kp : Int) (w : World) (ho : FiOwn w B v fs) (hB : B ≤ w.heap.size) (hl : fs.length ≤ 1000000)
    (hx : w.heap[vb]? = some (.cells #[.string nm, .string tx, .int .i64 kp] 105 (0, 0))) :
    Calls Tryz.prog 180 #[v, .int .i64 fs.length, .slice (some ⟨vb, 0, none⟩) 1 1] w fun e w' => InsPost w B v (fs ++ [(nm, tx, kp)]) e w' := by
  obtain ⟨i0, hi0, hz, hsz, hby⟩ := info_parts info_fi
  have HOWN := Lib.hid ho
  have HNEWS : Hid (∀ j u, (fiVals (nm, tx, kp))[j]? = some u → w.cell? ((⟨vb, 0, none⟩ : Addr).add j) = some u) := World.news_of_block hx
  rcases ho.2 with ⟨rfl, h0⟩ | ⟨g, cap, cur, rfl, hgB, hg, hn, hm, hcs, ht⟩
  · obtain rfl := List.eq_nil_of_length_eq_zero h0
    clear ho hx h0
    go_enter Tryz.func180, Tryz.ntmps180
    go_wp2_with (at_builtin; refine wpList_append_lies _ rfl _ _ _ rfl B 105 i0 (.agg #[.string ⟨#[]⟩, .string ⟨#[]⟩, .int .i64 0]) 3 40 Tryz.underlying30 hi0 hz hsz hby rfl (by omega) (.slice none 0 0) 0 (fiFlat []) rfl HOWN.out ⟨vb, 0, none⟩ 1 1 (fiVals (nm, tx, kp)) rfl rfl HNEWS.out (by simp [Value.oneCell', fiVals]) (by omega) (by unfold maxLen; omega) (by omega) hB _ rfl ?_; intro gg cap wq hown hgrow hat hlt; have HPU : Hid (FiOwn wq B (.slice (some ⟨gg, 0, none⟩) 1 cap) [(nm, tx, kp)]) := hown; have HG := Lib.hid hgrow; have HAT := Lib.hid hat; clear hown hgrow hat hlt)
    go_ret
    exact ⟨_, rfl, HPU.out, HG.out, ins_at HAT.out⟩
  · clear hx hg ht hcs
    have HOW : Hid (w.ownsRow B 105 3 (.slice (some ⟨g, 0, none⟩) fs.length cap) fs.length (fiFlat fs)) := ho
    obtain ⟨n, hnn⟩ : ∃ n, fs.length = n := ⟨_, rfl⟩
    rw [hnn] at hl hn HOW ⊢
    have HNN := Lib.hid hnn
    clear hnn ho HOWN
    have hcc : cap = n ∨ cap ≠ n := Decidable.em _
    rcases hcc with rfl | hcn
    all_goals
      go_enter Tryz.func180, Tryz.ntmps180
      go_wp2_with (at_builtin; refine wpList_append_lies _ rfl _ _ _ rfl B 105 i0 (.agg #[.string ⟨#[]⟩, .string ⟨#[]⟩, .int .i64 0]) 3 40 Tryz.underlying30 hi0 hz hsz hby rfl (by omega) _ _ (fiFlat fs) rfl HOW.out ⟨vb, 0, none⟩ 1 1 (fiVals (nm, tx, kp)) rfl rfl HNEWS.out (by simp [Value.oneCell', fiVals]) (by omega) (by unfold maxLen; omega) (by omega) hB _ rfl ?_; intro gg cap2 wq hown hgrow hat hlt; have HPU : Hid (FiOwn wq B (.slice (some ⟨gg, 0, none⟩) (_ + 1) cap2) (fs ++ [(nm, tx, kp)])) := (by rw [Hid, FiOwn, fiFlat_snoc, List.length_append, HNN.out]; exact hown); have HG := Lib.hid hgrow; have HAT := Lib.hid hat; clear hown hgrow hat hlt)
      go_ret
      exact ⟨_, rfl, HPU.out, HG.out, ins_at HAT.out⟩
theorem overlaps_no (w : World) (vb g la ca ob lb cb : Nat) (tA tB : TypeId) (kA kB : Nat) (hne : vb ≠ g) (hsa : w.shape? vb = some (tA, kA)) (hsb : w.shape? g = some (tB, kB)) (hkB : kB ≠ 0) (hfa : w.frozen? ⟨vb, 0, none⟩ = false) (hfe : w.frozen? ⟨vb, kA, none⟩ = false) :
    (callFunc 202 #[.slice (some ⟨vb, 0, none⟩) la ca, .slice (some ⟨g, ob, none⟩) lb cb]).run Tryz.prog w = .ok (.value (.bool false)) w := by
  have hsz : ∀ w, (Go.sizeOf 105).run Tryz.prog w = .ok 3 w := fun w => by
    obtain ⟨i0, hi0, _, hs, _⟩ := info_parts info_fi
    simp [Go.sizeOf, typeInfo, hi0, hs]
  rw [run_callFunc_extern Tryz.func202 (by kernel_rfl) (by kernel_rfl) (by kernel_rfl) (e := Extern.SlicesOverlaps.overlaps #[30, 30] #[4]) (by kernel_rfl),
    Lib.run_overlaps_apart w 30 4 105 Tryz.underlying30 3 hsz ⟨vb, 0, none⟩ ⟨g, ob, none⟩ la ca lb cb hne tA tB kA kB hsa hsb hkB hfa hfe]
  rfl
theorem shape_of {w : World} {g : Nat} {cs : Array Value} {t : TypeId} {fz : Nat × Nat} (h : w.heap[g]? = some (.cells cs t fz)) : w.shape? g = some (t, cs.size) := by
  simp [World.shape?, h]
set_option maxHeartbeats 4000000 in
set_option maxRecDepth 100000 in
/-- Room, i < n: in place. -/
theorem insert_shift (g cap n i vb : Nat) (D V : List Value) (w W1 : World) (hi : i < n) (hn : n + 1 ≤ cap) (hm : cap ≤ 9223372036854775807) (hl : n ≤ 1000000)
    (HOV : Hid (∀ la ca ob lb cb, (callFunc 202 #[.slice (some ⟨vb, 0, none⟩) la ca, .slice (some ⟨g, ob, none⟩) lb cb]).run Tryz.prog w = .ok (.value (.bool false)) w))
    (HC1 : Hid (∀ ty la lb dc sc, Nat.min lb la = n - i → (Builtin.copy_ #[30, 30] ty #[.slice (some ⟨g, (i + 1) * 3, none⟩) la dc, .slice (some ⟨g, i * 3, none⟩) lb sc]).run Tryz.prog w.drew = .ok (goInt ((n - i : Nat) : Int)) W1))
    (HC2 : Hid (∀ ty la dc, 1 ≤ la → (Builtin.copy_ #[30, 30] ty #[.slice (some ⟨g, i * 3, none⟩) la dc, .slice (some ⟨vb, 0, none⟩) 1 1]).run Tryz.prog W1 = .ok (goInt 1) (W1.setCells g (i * 3) V))) :
    Calls Tryz.prog 180 #[.slice (some ⟨g, 0, none⟩) n cap, .int .i64 i, .slice (some ⟨vb, 0, none⟩) 1 1] w fun e w' => e = .returned (.slice (some ⟨g, 0, none⟩) (n + 1) cap) ∧ w' = W1.setCells g (i * 3) V := by
  have hz2 : ¬ ((i : Int) = (n : Int)) := by omega
  have hw1 : IntKind.i64.wrap ((i : Int) + 1) = (i : Int) + 1 := by rw [IntKind.wrap_i64]; omega
  have hb1 : (0 : Int) ≤ (i : Int) + 1 := by omega
  have hb2 : ¬ (cap = i + 1) := by omega
  have hb4 : ¬ (cap = i) := by omega
  have hb3 : (i : Int) ≤ (n : Int) + 1 := by omega
  have htn : ((i : Int) + 1).toNat = i + 1 := by omega
  have hin : i ≤ n := by omega
  have hmin : Nat.min (n + 1 - i) (n - i) = n - i := by simp only [Nat.min_def]; split <;> omega
  have hmin2 : 1 ≤ n + 1 - i := by omega
  go_enter Tryz.func180, Tryz.ntmps180
  go_wp2_with (simp only [HOV.out])
  go_region_law (refine step_copy_at rfl _ _ 30 30 rfl (.slice (some ⟨g, (i + 1) * 3, none⟩) (n - i) (cap - (i + 1))) (.slice (some ⟨g, i * 3, none⟩) (n + 1 - i) (cap - i)) (by simp [Act.eval, Act.put]) (by simp [Act.eval, Act.put]) (HC1.out 3 (n - i) (n + 1 - i) (cap - (i + 1)) (cap - i) hmin) ?_)
  go_wp2_with (refine wpList_copy_at _ rfl _ _ 30 30 rfl (.slice (some ⟨g, i * 3, none⟩) (n + 1 - i) (cap - i)) (.slice (some ⟨vb, 0, none⟩) 1 1) rfl rfl (HC2.out 3 (n + 1 - i) (cap - i) hmin2) ?_)
  go_ret
  exact ⟨rfl, rfl⟩
set_option maxHeartbeats 4000000 in
set_option maxRecDepth 100000 in
/-- No room, i < n: a new row. -/
theorem insert_grow (g N G cap n i vb : Nat) (w W1 W2 W3 : World) (hi : i < n) (hn : cap < n + 1) (hc : n ≤ cap) (hm : cap ≤ 9223372036854775807) (hl : n ≤ 1000000) (hG : n + 1 ≤ G) (hG2 : G ≤ 9223372036854775807)
    (HRZ : Hid (∀ ty, (Builtin.append_ #[30, 3] ty #[.slice (some ⟨g, 0, none⟩) i cap, .int .i64 ((n : Int) + 1 - (i : Int))]).run Tryz.prog w = .ok (.slice (some ⟨N, 0, none⟩) (n + 1) G) W1))
    (HCA : Hid (∀ ty la dc, 1 ≤ la → (Builtin.copy_ #[30, 30] ty #[.slice (some ⟨N, i * 3, none⟩) la dc, .slice (some ⟨vb, 0, none⟩) 1 1]).run Tryz.prog W1 = .ok (goInt 1) W2))
    (HCB : Hid (∀ ty la lb dc sc, Nat.min lb la = n - i → (Builtin.copy_ #[30, 30] ty #[.slice (some ⟨N, (i + 1) * 3, none⟩) la dc, .slice (some ⟨g, i * 3, none⟩) lb sc]).run Tryz.prog W2.drew = .ok (goInt ((n - i : Nat) : Int)) W3)) :
    Calls Tryz.prog 180 #[.slice (some ⟨g, 0, none⟩) n cap, .int .i64 i, .slice (some ⟨vb, 0, none⟩) 1 1] w fun e w' => e = .returned (.slice (some ⟨N, 0, none⟩) (n + 1) G) ∧ w' = W3 := by
  have hz2 : ¬ ((i : Int) = (n : Int)) := by omega
  have hz3 : (cap : Int) < (n : Int) + 1 := by omega
  have hw1 : IntKind.i64.wrap ((i : Int) + 1) = (i : Int) + 1 := by rw [IntKind.wrap_i64]; omega
  have hb1 : (0 : Int) ≤ (i : Int) + 1 := by omega
  have hb2 : ¬ (G = i + 1) := by omega
  have hb4 : ¬ (cap = i) := by omega
  have hb5 : ¬ (G = i) := by omega
  have hb3 : (i : Int) ≤ (n : Int) := by omega
  have htn : ((i : Int) + 1).toNat = i + 1 := by omega
  have hin : i ≤ n := by omega
  have hmin : Nat.min (n - i) (n - i) = n - i := Nat.min_self _
  have hmin2 : 1 ≤ n + 1 - i := by omega
  go_enter Tryz.func180, Tryz.ntmps180
  go_wp2_with (first
    | (at_builtin; refine Lib.wpList_append_run _ rfl _ _ _ _ rfl _ _ rfl rfl _ _ (HRZ.out _) ?_)
    | (refine wpList_copy_at _ rfl _ _ 30 30 rfl (.slice (some ⟨N, i * 3, none⟩) (n + 1 - i) (G - i)) (.slice (some ⟨vb, 0, none⟩) 1 1) rfl rfl (HCA.out 3 (n + 1 - i) (G - i) hmin2) ?_))
  go_region_law (refine step_copy_at rfl _ _ 30 30 rfl (.slice (some ⟨N, (i + 1) * 3, none⟩) (n - i) (G - (i + 1))) (.slice (some ⟨g, i * 3, none⟩) (n - i) (cap - i)) (by simp [Act.eval, Act.put]) (by simp [Act.eval, Act.put]) (HCB.out 3 (n - i) (n - i) (G - (i + 1)) (cap - i) hmin) ?_)
  go_wp2
  go_ret
  exact ⟨rfl, rfl⟩
theorem ov2 {A D R V : List Value} (hV : V.length = 3) (hR : 3 ≤ R.length) : (overL (overL (A ++ D ++ R) (A.length + 3) D) A.length V).take (A.length + 3 + D.length) = A ++ V ++ D := by
  have h1 : ((A ++ D ++ R).take (A.length + 3)).length = A.length + 3 := by simp; omega
  have h2 : ((A ++ D ++ R).take (A.length + 3)).take A.length = A := by
    rw [List.take_take, Nat.min_eq_left (by omega), List.append_assoc, List.take_left']
    rfl
  have h3 : (overL (A ++ D ++ R) (A.length + 3) D).take A.length = A := by
    unfold overL
    rw [List.append_assoc, List.take_append_of_le_length (by omega), h2]
  have h4 : ∃ T, (overL (A ++ D ++ R) (A.length + 3) D).drop (A.length + V.length) = D ++ T := by
    refine ⟨(A ++ D ++ R).drop (A.length + 3 + D.length), ?_⟩
    unfold overL
    rw [hV, List.append_assoc]
    exact List.drop_left' h1
  obtain ⟨T, h4⟩ := h4
  rw [overL, h3, h4, ← List.append_assoc]
  exact List.take_left' (by simp [hV]; omega)
theorem ov3 {A Z D V : List Value} (hV : V.length = 3) (hZ : 3 + D.length ≤ Z.length) : (overL (overL (A ++ Z) A.length V) (A.length + 3) D).take (A.length + 3 + D.length) = A ++ V ++ D := by
  have h1 : overL (A ++ Z) A.length V = A ++ V ++ Z.drop 3 := by
    unfold overL
    rw [List.take_left' rfl, hV, List.drop_append, List.drop_eq_nil_of_le (by omega), List.nil_append, Nat.add_sub_cancel_left]
  rw [h1, overL, List.take_left' (by simp [hV]), List.take_left' (by simp [hV])]
theorem fiFlat_app (a b : List FiD) : fiFlat (a ++ b) = fiFlat a ++ fiFlat b := by simp [fiFlat]
theorem gr_drew (w : World) (r : Option Nat) : w.grownBy w.drew r := ⟨rfl, rfl, rfl, Nat.le_refl _, fun _ _ _ => rfl⟩
theorem fiFlat_take (fs : List FiD) (i : Nat) (hi : i ≤ fs.length) : fiFlat (fs.take i) = (fiFlat fs).take (i * 3) := by
  have h : fiFlat fs = fiFlat (fs.take i) ++ fiFlat (fs.drop i) := by rw [← fiFlat_app, List.take_append_drop]
  rw [h, List.take_left' (by rw [fiFlat_len, List.length_take, Nat.min_eq_left hi])]
theorem fiFlat_drop (fs : List FiD) (i : Nat) (hi : i ≤ fs.length) : fiFlat (fs.drop i) = (fiFlat fs).drop (i * 3) := by
  have h : fiFlat fs = fiFlat (fs.take i) ++ fiFlat (fs.drop i) := by rw [← fiFlat_app, List.take_append_drop]
  rw [h, List.drop_left' (by rw [fiFlat_len, List.length_take, Nat.min_eq_left hi])]
theorem fiFlat_ins (fs : List FiD) (i : Nat) (x : FiD) : fiFlat (insF fs i x) = fiFlat (fs.take i) ++ fiVals x ++ fiFlat (fs.drop i) := by simp [fiFlat, insF]
theorem fi_size : (Tryz.prog.info? 105).map (·.size) = some 3 := by kernel_rfl
theorem insert_File_calls (B vb i : Nat) (v : Value) (fs : List FiD) (x : FiD) (w : World) (ho : FiOwn w B v fs) (hB : B ≤ w.heap.size) (hi : i ≤ fs.length) (hl : fs.length ≤ 1000000)
    (hx : w.heap[vb]? = some (.cells #[.string x.1, .string x.2.1, .int .i64 x.2.2] 105 (0, 0))) (hne : v.ownBlock ≠ some vb) :
    Calls Tryz.prog 180 #[v, .int .i64 i, .slice (some ⟨vb, 0, none⟩) 1 1] w fun e w' => InsPost w B v (insF fs i x) e w' := by
  obtain ⟨nm, tx, kp⟩ := x
  rcases Nat.lt_or_ge i fs.length with hin | hin
  · rcases ho.2 with ⟨_, h0⟩ | ⟨g, cap, cur, rfl, hgB, hg, hn, hm, hcs, ht⟩
    · omega
    have hgv : vb ≠ g := fun e => hne (by rw [e]; rfl)
    have hA : (fiFlat (fs.take i)).length = i * 3 := by rw [fiFlat_len, List.length_take, Nat.min_eq_left hi]
    have hD : (fiFlat (fs.drop i)).length = (fs.length - i) * 3 := by rw [fiFlat_len, List.length_drop]
    have hV : (fiVals (nm, tx, kp)).length = 3 := rfl
    have hF : fiFlat fs = fiFlat (fs.take i) ++ fiFlat (fs.drop i) := by rw [← fiFlat_app, List.take_append_drop]
    have hm' : cap ≤ 9223372036854775807 := hm
    have hcl : cur.toList.length = cap * 3 := by rw [Array.length_toList, hcs]
    obtain ⟨R, hR⟩ : ∃ R, cur.toList = fiFlat (fs.take i) ++ fiFlat (fs.drop i) ++ R := ⟨cur.toList.drop (fs.length * 3), by rw [← hF, ← ht, List.take_append_drop]⟩
    have hRl : R.length = (cap - fs.length) * 3 := by
      have := congrArg List.length hR
      rw [hcl, List.length_append, List.length_append, hA, hD] at this
      omega
    have hD1 : ∀ u ∈ fiFlat (fs.drop i), u.oneCell' = true := fiVals_one _
    have hV1 : ∀ u ∈ fiVals (nm, tx, kp), u.oneCell' = true := by simp [Value.oneCell', fiVals]
    have hsrc : ∀ j u, (fiFlat (fs.drop i))[j]? = some u → w.cell? ⟨g, i * 3 + j, none⟩ = some u := fun j u hj => by
      rw [blk_cell hg, ← Array.getElem?_toList, hR, List.append_assoc, List.getElem?_append_right (by omega), hA, Nat.add_sub_cancel_left, List.getElem?_append_left (List.getElem?_eq_some_iff.1 hj).1]
      exact hj
    have hvs : ∀ j u, (fiVals (nm, tx, kp))[j]? = some u → w.cell? ⟨vb, j, none⟩ = some u := fun j u hj => by
      rw [blk_cell hx, ← Array.getElem?_toList]
      exact hj
    rcases Nat.lt_or_ge cap (fs.length + 1) with hroom | hroom
    · obtain ⟨i0, hi0, hz, hsz, hby⟩ := info_parts info_fi
      obtain ⟨G, hG⟩ : ∃ G, G = grownCap w (fs.length + 1) cap 105 := ⟨_, rfl⟩
      have hGn : fs.length + 1 ≤ G := by rw [hG]; exact grownCap_ge w _ _ _
      have hG63 : G ≤ 9223372036854775807 := by
        have := grownCap_le_maxLen w (fs.length + 1) cap 105 (by unfold maxLen; omega)
        rw [← hG] at this
        exact this
      obtain ⟨z, hzz⟩ : ∃ z : Value, z = .agg #[.string ⟨#[]⟩, .string ⟨#[]⟩, .int .i64 0] := ⟨_, rfl⟩
      rw [← hzz] at hz
      have hzs : z.cells.size = 3 := by rw [hzz]; rfl
      have hold : (Builtin.firstCells i0.size i (.slice (some ⟨g, 0, none⟩) i cap)).run Tryz.prog w.drew = .ok (fiFlat (fs.take i)).toArray w.drew := by
        rw [hsz]
        exact run_firstCells_some w.drew 3 i ⟨g, 0, none⟩ i cap _ hA (fun j u hj => by
          rw [add_plain]
          show w.cell? _ = _
          rw [blk_cell hg, ← Array.getElem?_toList, hR, List.append_assoc, List.getElem?_append_left (List.getElem?_eq_some_iff.1 hj).1]
          exact hj)
      have hrun := fun ty => Lib.run_append_grow_zeros w 30 3 ty 105 i0 z .i64 .i64 Tryz.underlying30 Tryz.underlying3 hi0 hz (some ⟨g, 0, none⟩) i cap _ hold (fs.length + 1 - i) (by omega) (by omega) (by omega) (by omega) (by rw [hby]; omega) (by rw [hby, show i + (fs.length + 1 - i) = fs.length + 1 by omega]; exact growslice_fits hroom (by omega))
      rw [show i + (fs.length + 1 - i) = fs.length + 1 by omega, ← hG, show ((fs.length + 1 - i : Nat) : Int) = (fs.length : Int) + 1 - (i : Int) by omega] at hrun
      obtain ⟨Z, hZ⟩ : ∃ Z, Z = Builtin.zeroCells z.cells (fs.length + 1 - i) ++ Builtin.zeroCells z.cells (G - (fs.length + 1)) := ⟨_, rfl⟩
      have hZl : Z.toList.length = (G - i) * 3 := by rw [hZ, Array.length_toList, Array.size_append, size_zeroCells, size_zeroCells, hzs]; omega
      rw [Array.append_assoc, ← hZ] at hrun
      obtain ⟨ROW, hROW⟩ : ∃ ROW, ROW = (fiFlat (fs.take i)).toArray ++ Z := ⟨_, rfl⟩
      rw [← hROW] at hrun
      have hRT : ROW.toList = fiFlat (fs.take i) ++ Z.toList := by rw [hROW]; simp
      have hRS : ROW.size = G * 3 := by rw [← Array.length_toList, hRT, List.length_append, hA, hZl]; omega
      obtain ⟨W1, hW1⟩ : ∃ W1, W1 = w.drew.alloc (.cells ROW 105) := ⟨_, rfl⟩
      rw [← hW1] at hrun
      have hb1 : W1.heap[w.heap.size]? = some (.cells ROW 105 (0, 0)) := by rw [hW1]; exact heap_alloc_new w.drew _
      have hgl := blk_lt hg
      have hvl := blk_lt hx
      have hgr1 : w.grownBy W1 none := by rw [hW1]; exact gr_trans (gr_drew w none) (World.grownBy_alloc w.drew _ none)
      obtain ⟨W2, hW2⟩ : ∃ W2, W2 = W1.setCells w.heap.size (i * 3) (fiVals (nm, tx, kp)) := ⟨_, rfl⟩
      have hb2 : W2.heap[w.heap.size]? = some (.cells (overL ROW.toList (i * 3) (fiVals (nm, tx, kp))).toArray 105 (0, 0)) := by rw [hW2]; exact setCells_blk _ _ _ _ hb1 (by rw [hV, hRS]; omega)
      have hl2 : (overL ROW.toList (i * 3) (fiVals (nm, tx, kp))).length = G * 3 := by
        have h1 : ROW.toList.length = G * 3 := by rw [Array.length_toList, hRS]
        rw [overL_len (by omega), h1]
      have hgr2 : W1.grownBy W2 (some w.heap.size) := by rw [hW2]; exact setCells_grown _ _ _ _
      obtain ⟨W3, hW3⟩ : ∃ W3, W3 = W2.drew.setCells w.heap.size ((i + 1) * 3) (fiFlat (fs.drop i)) := ⟨_, rfl⟩
      have hb3 : W3.heap[w.heap.size]? = some (.cells (overL (overL ROW.toList (i * 3) (fiVals (nm, tx, kp))) ((i + 1) * 3) (fiFlat (fs.drop i))).toArray 105 (0, 0)) := by
        rw [hW3, setCells_blk _ _ _ _ (show W2.drew.heap[w.heap.size]? = _ from hb2) (by rw [List.size_toArray, hl2]; omega)]
      have hgr3 : W2.grownBy W3 (some w.heap.size) := by rw [hW3]; exact gr_trans (gr_drew _ _) (setCells_grown _ _ _ _)
      have hgr : w.grownBy W3 none := ⟨hgr3.os.trans (hgr2.os.trans hgr1.os), hgr3.tape.trans (hgr2.tape.trans hgr1.tape), hgr3.output.trans (hgr2.output.trans hgr1.output), Nat.le_trans hgr1.size (Nat.le_trans hgr2.size hgr3.size), fun k hk hne => by
        have h1 := hgr1.size
        have h2 := hgr2.size
        exact (hgr3.block k (by omega) (by simp; omega)).trans ((hgr2.block k (by omega) (by simp; omega)).trans (hgr1.block k hk hne))⟩
      have s1 := hgr1.size
      refine (insert_grow g w.heap.size G cap fs.length i vb w W1 W2 W3 hin hroom hn hm' hl hGn hG63 hrun (fun ty la dc h1 => ?_) (fun ty la lb dc sc h1 => ?_)).mono ?_
      · rw [hW2]
        refine run_copy_k W1 _ _ ty 105 w.heap.size (i * 3) la dc ⟨vb, 0, none⟩ 1 1 1 3 _ Tryz.underlying30 fi_size (Nat.min_eq_left h1) rfl (fun j u hj => ?_) (fun j hj => ?_) (fun j _ => blk_frozen hb1 _) hV1
        · rw [add_plain, World.cell?_of_block (w := w) (hgr1.block vb hvl (by simp))]
          exact hvs j u hj
        · rw [blk_cell hb1, Array.getElem?_eq_getElem (by rw [hV] at hj; omega)]
          rfl
      · rw [hW3]
        refine run_copy_k W2.drew _ _ ty 105 w.heap.size ((i + 1) * 3) la dc ⟨g, i * 3, none⟩ lb sc (fs.length - i) 3 _ Tryz.underlying30 fi_size h1 hD (fun j u hj => ?_) (fun j hj => ?_) (fun j _ => blk_frozen (w := W2.drew) hb2 _) hD1
        · rw [Addr.add_lit]
          show W2.cell? _ = _
          rw [World.cell?_of_block (w := W1) (hgr2.block g (by omega) (by simp; omega)), World.cell?_of_block (w := w) (hgr1.block g hgl (by simp))]
          exact hsrc j u hj
        · rw [blk_cell (w := W2.drew) hb2, Array.getElem?_eq_getElem (by rw [List.size_toArray, hl2]; omega)]
          rfl
      · rintro e w' ⟨rfl, rfl⟩
        refine ⟨_, rfl, ⟨by rw [fiFlat_len], .inr ⟨w.heap.size, G, _, by rw [insF_len hi], hB, hb3, by rw [insF_len hi]; exact hGn, hG63, ?_, ?_⟩⟩, ⟨hgr.os, hgr.tape, hgr.output, hgr.size, fun k hk _ => hgr.block k hk (by simp)⟩, fun k e => ?_⟩
        · rw [List.size_toArray, overL_len (by rw [hl2]; omega), hl2]
        · rw [insF_len hi, fiFlat_ins]
          show (overL _ _ _).take _ = _
          rw [show (fs.length + 1) * 3 = (fiFlat (fs.take i)).length + 3 + (fiFlat (fs.drop i)).length by omega, show (i + 1) * 3 = (fiFlat (fs.take i)).length + 3 by omega, show i * 3 = (fiFlat (fs.take i)).length by omega, hRT]
          exact ov3 hV (by omega)
        · exact .inr (Nat.le_of_eq (Option.some.inj e))
    · obtain ⟨W1, hW1⟩ : ∃ W1, W1 = w.drew.setCells g ((i + 1) * 3) (fiFlat (fs.drop i)) := ⟨_, rfl⟩
      have hb1 : W1.heap[g]? = some (.cells (overL cur.toList ((i + 1) * 3) (fiFlat (fs.drop i))).toArray 105 (0, 0)) := by rw [hW1]; exact setCells_blk _ _ w.drew _ hg (by omega)
      have hl1 : (overL cur.toList ((i + 1) * 3) (fiFlat (fs.drop i))).length = cap * 3 := by rw [overL_len (by omega), hcl]
      have hgr1 : w.grownBy W1 (some g) := by rw [hW1]; exact gr_trans (gr_drew _ _) (setCells_grown _ _ _ _)
      have hb2 := setCells_blk (fiVals (nm, tx, kp)) (i * 3) W1 _ hb1 (by rw [List.size_toArray, hl1]; omega)
      have hgr2 : W1.grownBy (W1.setCells g (i * 3) (fiVals (nm, tx, kp))) (some g) := setCells_grown _ _ _ _
      refine (insert_shift g cap fs.length i vb (fiFlat (fs.drop i)) (fiVals (nm, tx, kp)) w W1 hin hroom hm' hl (fun la ca ob lb cb => ?_) (fun ty la lb dc sc h1 => ?_) (fun ty la dc h1 => ?_)).mono ?_
      · exact overlaps_no w vb g la ca ob lb cb _ _ _ _ hgv (shape_of hx) (shape_of hg) (by omega) (blk_frozen hx _) (blk_frozen hx _)
      · rw [hW1]
        refine run_copy_k w.drew _ _ ty 105 g ((i + 1) * 3) la dc ⟨g, i * 3, none⟩ lb sc (fs.length - i) 3 _ Tryz.underlying30 fi_size h1 hD (fun j u hj => ?_) (fun j hj => ?_) (fun j _ => blk_frozen (w := w.drew) hg _) hD1
        · rw [Addr.add_lit]
          exact hsrc j u hj
        · rw [blk_cell (w := w.drew) hg, Array.getElem?_eq_getElem (by omega)]
          rfl
      · refine run_copy_k W1 _ _ ty 105 g (i * 3) la dc ⟨vb, 0, none⟩ 1 1 1 3 _ Tryz.underlying30 fi_size (Nat.min_eq_left h1) rfl (fun j u hj => ?_) (fun j hj => ?_) (fun j _ => blk_frozen hb1 _) hV1
        · rw [add_plain, World.cell?_of_block (w := w) (hgr1.block vb (blk_lt hx) (by simp; omega))]
          exact hvs j u hj
        · rw [blk_cell hb1, Array.getElem?_eq_getElem (by rw [List.size_toArray, hl1]; rw [hV] at hj; omega)]
          rfl
      · rintro e w' ⟨rfl, rfl⟩
        refine ⟨_, rfl, ⟨by rw [fiFlat_len], .inr ⟨g, cap, _, by rw [insF_len hi], hgB, hb2, by rw [insF_len hi]; exact hroom, hm, ?_, ?_⟩⟩, gr_trans hgr1 hgr2, fun k e => .inl e⟩
        · rw [List.size_toArray, overL_len (by rw [List.toList_toArray, hl1]; omega), List.toList_toArray, hl1]
        · rw [insF_len hi, fiFlat_ins]
          show (overL _ _ _).take _ = _
          rw [List.toList_toArray, show (fs.length + 1) * 3 = (fiFlat (fs.take i)).length + 3 + (fiFlat (fs.drop i)).length by omega, show (i + 1) * 3 = (fiFlat (fs.take i)).length + 3 by omega, show i * 3 = (fiFlat (fs.take i)).length by omega, hR]
          exact ov2 hV (by omega)
  · obtain rfl : i = fs.length := by omega
    rw [insF_end]
    exact insert_end B vb v fs nm tx kp w ho hB hl hx
end Go.Proofs.YtaacpdejpcbbbaaGreatDoor

namespace Go.Proofs.YtaacpdejpcbbbaaGreatDoor
set_option linter.unusedVariables false
set_option linter.unusedSimpArgs false
open Go.RowKit
attribute [local go_sem] bs_size List.length_cons List.length_nil List.length_append

theorem wpList_clear_at (w : World) {ops : Array Oper} {rest : List Oper} {o : Oper} {a : Act} {Q : Exit → Act → World → Prop} (hgd : o.guard = none) (s : Operand) (t : TypeId)
    (ho : o.op = .call { callee := .builtin .clear, args := #[s], argTypes := #[t] }) (v : Value) (hs : a.eval s = v) {v' : Value} {w' : World}
    (hr : (Builtin.clear_ #[t] o.type #[v]).run Tryz.prog w = .ok v' w') (h : wpList Tryz.prog ops Q rest (a.put o.dst v') w') : wpList Tryz.prog ops Q (o :: rest) a w :=
  wpList_plain hgd fun _ hK => by
    unfold Oper.wp execOp
    simp only [ho, resolve, invoke, builtin, Sem.run_bind, Sem.run_pure, Result.andThen_ok, List.map_toArray, List.map_cons, List.map_nil, hs, hr]
    exact hK _ _ h
/-- The files without the one at a place. -/
def delF (fs : List FiD) (i : Nat) : List FiD := fs.take i ++ fs.drop (i + 1)
theorem delF_len {fs : List FiD} {i : Nat} (hi : i < fs.length) : (delF fs i).length = fs.length - 1 := by simp [delF]; omega
set_option maxHeartbeats 4000000 in
set_option maxRecDepth 100000 in
theorem delete_walk (g cap n i : Nat) (D : List Value) (w W1 W2 : World) (hi : i < n) (hn : n ≤ cap) (hm : cap ≤ 9223372036854775807) (hl : n ≤ 1000000)
    (hD : D.length = (n - (i + 1)) * 3) (HS : Hid (∀ j u, D[j]? = some u → w.drew.cell? ⟨g, (i + 1) * 3 + j, none⟩ = some u)) (H1 : Hid (∀ u ∈ D, u.oneCell' = true))
    (HSP : Hid (∀ j, j < D.length → (w.drew.cell? ⟨g, 0 + i * 3 + j, none⟩).isSome = true ∧ w.drew.frozen? ⟨g, 0 + i * 3 + j, none⟩ = false)) (HW1 : Hid (W1 = w.drew.setCells g (0 + i * 3) D))
    (HCL : Hid (∀ ty dc, (Builtin.clear_ #[30] ty #[.slice (some ⟨g, (n - 1) * 3, none⟩) 1 dc]).run Tryz.prog W1 = .ok (.tuple #[]) W2)) :
    Calls Tryz.prog 154 #[.slice (some ⟨g, 0, none⟩) n cap, .int .i64 i, .int .i64 ((i : Int) + 1)] w fun e w' => e = .returned (.slice (some ⟨g, 0, none⟩) (n - 1) cap) ∧ w' = W2 := by
  obtain ⟨i0, hi0, hz, hsz, hby⟩ := info_parts info_fi
  have hb1 : (0 : Int) ≤ (i : Int) + 1 := by omega
  have htn : ((i : Int) + 1).toNat = i + 1 := by omega
  have hne : ¬ ((i : Int) = (i : Int) + 1) := by omega
  have hic : i ≤ cap := by omega
  have hjc : i + 1 ≤ cap := by omega
  have hin : i ≤ n := by omega
  have hin1 : (i : Int) + 1 ≤ (n : Int) := by omega
  have hD0 : cap = i + 1 → D = [] := fun h => List.eq_nil_of_length_eq_zero (by omega)
  have HCL2 : (Builtin.clear_ #[30] 0 #[.slice (some ⟨g, (i + (n - (i + 1))) * 3, none⟩) (n - (i + (n - (i + 1)))) (cap - (i + (n - (i + 1))))]).run Tryz.prog W1 = .ok (.tuple #[]) W2 := by
    have h := HCL.out 0 (cap - (i + (n - (i + 1))))
    rw [show n - 1 = i + (n - (i + 1)) by omega] at h
    rw [show n - (i + (n - (i + 1))) = 1 by omega]
    exact h
  have hcc : cap = i + 1 ∨ cap ≠ i + 1 := Decidable.em _
  rcases hcc with hcc | hcc
  · have hd0 := hD0 hcc
    have hni : n = i + 1 := by omega
    subst hcc
    subst hni
    subst hd0
    clear hD0 HCL2 hD HS hin1 hn hi
    have hii : (i : Int) ≤ (i : Int) + 1 := by omega
    go_enter Tryz.func154, Tryz.ntmps154
    go_wp2_with fail
    go_region_law (refine step_append_room rfl (.tmp 22) (.tmp 25) 30 rfl 105 i0 3 Tryz.underlying30 hi0 hsz g 0 i (i + 1) (by simp [Act.eval, Act.put]) ⟨g, 0, none⟩ 0 0 [] (by simp [Act.eval, Act.put]) rfl (fun j u hj => by simp at hj) H1.out (by omega) HSP.out ?_; rw [← HW1.out])
    go_wp2_with (refine wpList_clear_at _ rfl _ 30 rfl _ rfl (HCL.out _ _) ?_)
    go_ret
    exact ⟨rfl, rfl⟩
  · have hli : ¬ (cap = i + (n - (i + 1))) := by omega
    have hli2 : (i : Int) + ((n - (i + 1) : Nat) : Int) ≤ (n : Int) := by omega
    clear hD0
    go_enter Tryz.func154, Tryz.ntmps154
    go_wp2_with fail
    go_region_law (refine step_append_room rfl (.tmp 22) (.tmp 25) 30 rfl 105 i0 3 Tryz.underlying30 hi0 hsz g 0 i cap (by simp [Act.eval, Act.put]) ⟨g, (i + 1) * 3, none⟩ (n - (i + 1)) (cap - (i + 1)) D (by simp [Act.eval, Act.put]) hD (fun j u hj => by rw [Addr.add_lit]; exact HS.out j u hj) H1.out (by omega) HSP.out ?_; rw [← HW1.out])
    go_wp2_with (refine wpList_clear_at _ rfl _ 30 rfl (.slice (some ⟨g, (i + (n - (i + 1))) * 3, none⟩) (n - (i + (n - (i + 1)))) (cap - (i + (n - (i + 1))))) rfl HCL2 ?_)
    go_ret
    exact ⟨by rw [show n - 1 = i + (n - (i + 1)) by omega]; rfl, rfl⟩
theorem ov4 {A V D R Z : List Value} : (overL (overL (A ++ V ++ D ++ R) A.length D) (A.length + D.length) Z).take (A.length + D.length) = A ++ D := by
  have h1 : overL (A ++ V ++ D ++ R) A.length D = A ++ D ++ (A ++ V ++ D ++ R).drop (A.length + D.length) := by
    unfold overL
    rw [List.append_assoc A, List.append_assoc A, List.take_left' rfl]
  have h2 : ∀ T : List Value, (A ++ D ++ T).take (A.length + D.length) = A ++ D := fun T => List.take_left' (by simp)
  rw [h1, overL, h2, List.append_assoc (A ++ D), h2]
theorem fiFlat_one (x : FiD) : fiFlat [x] = fiVals x := by simp [fiFlat]
theorem drop_one {fs : List FiD} {i : Nat} {x : FiD} (h : fs[i]? = some x) : fs.drop i = x :: fs.drop (i + 1) := by
  obtain ⟨hl, hx⟩ := List.getElem?_eq_some_iff.1 h
  rw [List.drop_eq_getElem_cons hl, hx]
theorem delete_File_calls (B i : Nat) (v : Value) (fs : List FiD) (w : World) (ho : FiOwn w B v fs) (hi : i < fs.length) (hl : fs.length ≤ 1000000) :
    Calls Tryz.prog 154 #[v, .int .i64 i, .int .i64 ((i : Int) + 1)] w fun e w' => InsPost w B v (delF fs i) e w' := by
  rcases ho.2 with ⟨_, h0⟩ | ⟨g, cap, cur, rfl, hgB, hg, hn, hm, hcs, ht⟩
  · omega
  obtain ⟨x, hx⟩ : ∃ x, fs[i]? = some x := ⟨_, List.getElem?_eq_getElem hi⟩
  obtain ⟨i0, hi0, hz, hsz, hby⟩ := info_parts info_fi
  have hv : ∀ w, (zeroValue 105).run Tryz.prog w = .ok (.agg #[.string ⟨#[]⟩, .string ⟨#[]⟩, .int .i64 0]) w := fun w => by simp [zeroValue, typeInfo, hi0, hz]
  have hA : (fiFlat (fs.take i)).length = i * 3 := by rw [fiFlat_len, List.length_take, Nat.min_eq_left (by omega)]
  have hD : (fiFlat (fs.drop (i + 1))).length = (fs.length - (i + 1)) * 3 := by rw [fiFlat_len, List.length_drop]
  have hF : fiFlat fs = fiFlat (fs.take i) ++ fiVals x ++ fiFlat (fs.drop (i + 1)) := by
    conv => lhs; rw [← List.take_append_drop i fs, drop_one hx]
    simp [fiFlat]
  have hm' : cap ≤ 9223372036854775807 := hm
  have hV : (fiVals x).length = 3 := rfl
  have hcl : cur.toList.length = cap * 3 := by rw [Array.length_toList, hcs]
  obtain ⟨R, hR⟩ : ∃ R, cur.toList = fiFlat (fs.take i) ++ fiVals x ++ fiFlat (fs.drop (i + 1)) ++ R := ⟨cur.toList.drop (fs.length * 3), by rw [← hF, ← ht, List.take_append_drop]⟩
  obtain ⟨zs, hzs⟩ : ∃ zs, (Builtin.zeroCells (Value.agg #[.string ⟨#[]⟩, .string ⟨#[]⟩, .int .i64 0]).cells 1).toList = zs := ⟨_, rfl⟩
  have hzl : zs.length = 3 := by rw [← hzs, Array.length_toList, size_zeroCells]; rfl
  have hz1 : ∀ u ∈ zs, u.oneCell' = true := by
    intro u hu
    rw [← hzs] at hu
    simp [Builtin.zeroCells, Value.cells] at hu
    obtain ⟨a, ha, rfl⟩ := hu
    match a, ha with
    | 0, _ => rfl
    | 1, _ => rfl
    | 2, _ => rfl
  obtain ⟨W1, hW1⟩ : ∃ W1, W1 = w.drew.setCells g (0 + i * 3) (fiFlat (fs.drop (i + 1))) := ⟨_, rfl⟩
  have hb1 : W1.heap[g]? = some (.cells (overL cur.toList (i * 3) (fiFlat (fs.drop (i + 1)))).toArray 105 (0, 0)) := by rw [hW1, Nat.zero_add]; exact setCells_blk _ _ w.drew _ hg (by omega)
  have hl1 : (overL cur.toList (i * 3) (fiFlat (fs.drop (i + 1)))).length = cap * 3 := by rw [overL_len (by omega), hcl]
  have hgr1 : w.grownBy W1 (some g) := by rw [hW1]; exact gr_trans (gr_drew _ _) (setCells_grown _ _ _ _)
  have hb2 := setCells_blk zs ((fs.length - 1) * 3) W1 _ hb1 (by rw [List.size_toArray, hl1]; omega)
  have hgr2 : W1.grownBy (W1.setCells g ((fs.length - 1) * 3) zs) (some g) := setCells_grown _ _ _ _
  refine (delete_walk g cap fs.length i (fiFlat (fs.drop (i + 1))) w W1 (W1.setCells g ((fs.length - 1) * 3) zs) hi hn hm' hl hD (fun j u hj => ?_) (fiVals_one _) (fun j hj => ⟨?_, blk_frozen (w := w.drew) hg _⟩) hW1 (fun ty dc => ?_)).mono ?_
  · rw [blk_cell (w := w.drew) hg, ← Array.getElem?_toList, hR, List.append_assoc, List.getElem?_append_right (by rw [List.length_append, hA, hV]; omega), List.length_append, hA, hV, show (i + 1) * 3 + j - (i * 3 + 3) = j by omega, List.getElem?_append_left (List.getElem?_eq_some_iff.1 hj).1]
    exact hj
  · rw [blk_cell (w := w.drew) hg, Array.getElem?_eq_getElem (by omega)]
    rfl
  · exact run_clear_k W1 _ _ ty _ zs Tryz.underlying30 hv 1 hzs hz1 g ((fs.length - 1) * 3) dc (by omega) (fun j hj => by rw [blk_cell hb1, Array.getElem?_eq_getElem (by rw [List.size_toArray, hl1]; omega)]; rfl) (fun j _ => blk_frozen hb1 _)
  · rintro e w' ⟨rfl, rfl⟩
    refine ⟨_, rfl, ⟨by rw [fiFlat_len], .inr ⟨g, cap, _, by rw [delF_len hi], hgB, hb2, by rw [delF_len hi]; omega, hm, ?_, ?_⟩⟩, gr_trans hgr1 hgr2, fun k e => .inl e⟩
    · rw [List.size_toArray, overL_len (by rw [List.toList_toArray, hl1]; omega), List.toList_toArray, hl1]
    · rw [delF_len hi, delF, fiFlat_app]
      show (overL _ _ _).take _ = _
      rw [List.toList_toArray, show (fs.length - 1) * 3 = (fiFlat (fs.take i)).length + (fiFlat (fs.drop (i + 1))).length by omega, show i * 3 = (fiFlat (fs.take i)).length by omega, hR]
      exact ov4
end Go.Proofs.YtaacpdejpcbbbaaGreatDoor

namespace Go.Proofs.YtaacpdejpcbbbaaGreatDoor
set_option linter.unusedVariables false
set_option linter.unusedSimpArgs false
open Go.RowKit

/-- The names rise. -/
def Ris (fs : List FiD) : Prop := fs.Pairwise fun x y => ltFi x y = true
theorem ris_ok {fs : List FiD} (h : diskOkB fs = true) : Ris fs := by
  unfold Ris
  rw [List.pairwise_iff_getElem]
  intro i j hi hj hij
  exact names_rise h i j _ _ hij (List.getElem?_eq_getElem hi) (List.getElem?_eq_getElem hj)
theorem gt_not_lt {y x : FiD} (h : gtFi y x = true) : ltFi y x = false := by
  unfold gtFi at h
  unfold ltFi
  cases hl : Op.bytesLess y.1.toList x.1.toList
  · rfl
  · rw [hl] at h; simp at h
theorem not_gt {y x : FiD} (h : gtFi y x = false) (hn : y.1 ≠ x.1) : ltFi y x = true := by
  unfold gtFi at h
  unfold ltFi
  have h2 : (y.1.toList == x.1.toList) = false := list_eq_no hn
  rw [h2, Bool.or_false] at h
  simpa using h
theorem lt_asym {y x : FiD} (h : ltFi y x = true) : ltFi x y = false := by
  unfold ltFi at *
  cases hl : Op.bytesLess x.1.toList y.1.toList
  · rfl
  · have := less_trans h hl
    rw [less_irr] at this
    exact this.symm
theorem gt_of_lt {y x : FiD} (h : ltFi x y = true) : gtFi y x = true := by
  have h1 := lt_asym h
  unfold gtFi
  unfold ltFi at h h1
  rw [h1, Bool.false_or]
  have : y.1.toList ≠ x.1.toList := fun e => by rw [e, less_irr] at h; exact Bool.false_ne_true h
  simp [this]
theorem lt_not_gt {y x : FiD} (h : ltFi y x = true) : gtFi y x = false := by
  unfold gtFi
  unfold ltFi at h
  rw [h]
  rfl
theorem eq_not_lt {y x : FiD} (h : y.1 = x.1) : ltFi y x = false := by unfold ltFi; rw [h]; exact less_irr _
theorem eq_not_gt {y x : FiD} (h : y.1 = x.1) : gtFi y x = false := by unfold gtFi; rw [h]; simp
theorem lt_eq {x y z : FiD} (h : ltFi y z = true) (e : y.1 = x.1) : ltFi x z = true := by unfold ltFi at *; rw [← e]; exact h
theorem eq_lt {x y z : FiD} (h : ltFi z y = true) (e : y.1 = x.1) : ltFi z x = true := by unfold ltFi at *; rw [← e]; exact h
theorem put_cons_lt {z x : FiD} {r : List FiD} (h : ltFi z x = true) : putF (z :: r) x = z :: putF r x := by
  unfold putF
  rw [List.filter_cons, List.filter_cons, if_pos h, if_neg (by rw [lt_not_gt h]; exact Bool.false_ne_true)]
  rfl
theorem filter_gt_all {r : List FiD} {x : FiD} (h : ∀ z ∈ r, gtFi z x = true) : (r.filter fun y => ltFi y x) = [] ∧ (r.filter fun y => gtFi y x) = r := by
  constructor
  · rw [List.filter_eq_nil_iff]
    intro z hz
    rw [gt_not_lt (h z hz)]
    exact Bool.false_ne_true
  · rw [List.filter_eq_self]
    exact h
theorem put_set : ∀ {fs : List FiD} {j : Nat} {x y : FiD}, Ris fs → fs[j]? = some y → y.1 = x.1 → putF fs x = fs.set j x
  | [], _, _, _, _, h, _ => by simp at h
  | z :: r, 0, x, y, hp, h, he => by
    obtain rfl : z = y := by simpa using h
    have hz := List.pairwise_cons.1 hp
    have hr := filter_gt_all (r := r) (x := x) fun u hu => gt_of_lt (lt_eq (hz.1 u hu) he)
    unfold putF
    rw [List.filter_cons, List.filter_cons, if_neg (by rw [eq_not_lt he]; exact Bool.false_ne_true), if_neg (by rw [eq_not_gt he]; exact Bool.false_ne_true), hr.1, hr.2]
    rfl
  | z :: r, j + 1, x, y, hp, h, he => by
    have hz := List.pairwise_cons.1 hp
    have hj : r[j]? = some y := by simpa using h
    rw [put_cons_lt (eq_lt (hz.1 y (List.mem_of_getElem? hj)) he), put_set hz.2 hj he]
    rfl
theorem put_ins : ∀ {fs : List FiD} {k : Nat} {x : FiD}, Ris fs → (∀ y ∈ fs, y.1 ≠ x.1) → k ≤ fs.length → (∀ i y, i < k → fs[i]? = some y → gtFi y x = false) → (∀ y, fs[k]? = some y → gtFi y x = true) → putF fs x = insF fs k x
  | [], k, x, _, _, hk, _, _ => by
    obtain rfl : k = 0 := by simpa using hk
    rfl
  | z :: r, 0, x, hp, _, _, _, hg => by
    have hz := List.pairwise_cons.1 hp
    have h0 := hg z rfl
    have hr := filter_gt_all (r := z :: r) (x := x) fun u hu => by
      rcases List.mem_cons.1 hu with rfl | hu
      · exact h0
      · have h1 := hz.1 u hu
        cases hgu : gtFi u x
        · by_cases e : u.1 = x.1
          · have := eq_lt h1 e
            rw [gt_not_lt h0] at this
            exact this
          · have h2 := not_gt hgu e
            have h3 : ltFi z x = true := less_trans h1 h2
            rw [gt_not_lt h0] at h3
            exact h3
        · rfl
    unfold putF
    rw [hr.1, hr.2]
    rfl
  | z :: r, k + 1, x, hp, hn, hk, hl, hg => by
    have hz := List.pairwise_cons.1 hp
    rw [put_cons_lt (not_gt (hl 0 z (by omega) rfl) (hn z (by simp))), put_ins hz.2 (fun y hy => hn y (by simp [hy])) (by simpa using hk) (fun i y hi hy => hl (i + 1) y (by omega) (by simpa using hy)) (fun y hy => hg y (by simpa using hy))]
    rfl
/-- The files of other names. -/
def dropF (fs : List FiD) (n : ByteArray) : List FiD := fs.filter fun y => decide (y.1 ≠ n)
theorem dropF_cons_ne {z : FiD} {r : List FiD} {n : ByteArray} (h : z.1 ≠ n) : dropF (z :: r) n = z :: dropF r n := by
  unfold dropF
  rw [List.filter_cons, if_pos (by simpa using h)]
theorem dropF_all {r : List FiD} {n : ByteArray} (h : ∀ z ∈ r, z.1 ≠ n) : dropF r n = r := by
  unfold dropF
  rw [List.filter_eq_self]
  exact fun z hz => by simpa using h z hz
theorem lt_ne {x y : FiD} (h : ltFi x y = true) : y.1 ≠ x.1 := fun e => by rw [eq_not_lt e.symm] at h; exact Bool.false_ne_true h
theorem lt_ne' {x y : FiD} (h : ltFi x y = true) : x.1 ≠ y.1 := fun e => lt_ne h e.symm
theorem del_drop : ∀ {fs : List FiD} {j : Nat} {y : FiD}, Ris fs → fs[j]? = some y → delF fs j = dropF fs y.1
  | [], _, _, _, h => by simp at h
  | z :: r, 0, y, hp, h => by
    obtain rfl : z = y := by simpa using h
    have hz := List.pairwise_cons.1 hp
    have h1 := dropF_all (r := r) (n := z.1) fun u hu => lt_ne (hz.1 u hu)
    have h2 : dropF (z :: r) z.1 = dropF r z.1 := by
      unfold dropF
      rw [List.filter_cons, if_neg (by simp)]
    rw [h2, h1]
    rfl
  | z :: r, j + 1, y, hp, h => by
    have hz := List.pairwise_cons.1 hp
    have hj : r[j]? = some y := by simpa using h
    rw [dropF_cons_ne (lt_ne' (hz.1 y (List.mem_of_getElem? hj))), ← del_drop hz.2 hj]
    rfl
theorem ris_drop {fs : List FiD} (h : Ris fs) (n : ByteArray) : Ris (dropF fs n) := List.Pairwise.filter _ h
/-- The file of a name. -/
def lookF (fs : List FiD) (n : ByteArray) : Option FiD := fs.find? fun y => decide (y.1 = n)
theorem look_at : ∀ {fs : List FiD} {j : Nat} {y : FiD}, Ris fs → fs[j]? = some y → lookF fs y.1 = some y
  | [], _, _, _, h => by simp at h
  | z :: r, 0, y, _, h => by
    obtain rfl : z = y := by simpa using h
    simp [lookF]
  | z :: r, j + 1, y, hp, h => by
    have hz := List.pairwise_cons.1 hp
    have hj : r[j]? = some y := by simpa using h
    have h1 := look_at hz.2 hj
    have h2 := lt_ne' (hz.1 y (List.mem_of_getElem? hj))
    unfold lookF at h1 ⊢
    rw [List.find?_cons, decide_eq_false h2]
    exact h1
theorem look_none : ∀ {fs : List FiD} {n : ByteArray}, fileB fs n = none → lookF fs n = none
  | [], _, _ => rfl
  | z :: r, n, h => by
    unfold fileB at h
    split at h
    · cases h
    · rename_i hz
      have h1 := look_none h
      unfold lookF at h1 ⊢
      rw [List.find?_cons, decide_eq_false hz]
      exact h1
theorem file_ne : ∀ {fs : List FiD} {n : ByteArray}, fileB fs n = none → ∀ y ∈ fs, y.1 ≠ n
  | [], _, _, y, hy => by simp at hy
  | z :: r, n, h, y, hy => by
    unfold fileB at h
    split at h
    · cases h
    · rename_i hz
      rcases List.mem_cons.1 hy with rfl | hy
      · exact hz
      · exact file_ne h y hy
/-- An act: its kind, name, text, other name. -/
abbrev ActD := Int × ByteArray × ByteArray × ByteArray
def actF (fs : List FiD) (a : ActD) : Option (List FiD) :=
  if a.1 = 1 then some (putF fs (match lookF fs a.2.1 with | none => (a.2.1, a.2.2.1, 0) | some x => (a.2.1, x.2.1 ++ a.2.2.1, x.2.2)))
  else match lookF fs a.2.1 with
    | none => none
    | some x =>
      if a.1 = 2 then some (putF fs (x.1, x.2.1, (x.2.1.size : Int)))
      else if a.1 = 3 then (if a.2.2.2 = a.2.1 ∨ x.2.2 ≠ (x.2.1.size : Int) then none else some (putF (dropF fs a.2.1) (a.2.2.2, x.2.1, x.2.2)))
      else if a.1 = 4 then some (dropF fs a.2.1)
      else none
/-- Is the act one that can be? -/
def actOk (fs : List FiD) (a : ActD) : Bool := diskOkB fs && decide (a.1 = 3 ∨ a.2.2.2 = ⟨#[]⟩) && decide (a.1 = 1 ∨ a.2.2.1 = ⟨#[]⟩)
def doActB (fs : List FiD) (a : ActD) : Option (List FiD) := if actOk fs a then (match actF fs a with | none => none | some out => if diskOkB out then some out else none) else none
/-- The acts one by one: the last right disk, and how many were done. -/
def doActsB (fs : List FiD) : List ActD → List FiD × Nat
  | [] => (fs, 0)
  | a :: r => match doActB fs a with
    | none => (fs, 0)
    | some out => ((doActsB out r).1, (doActsB out r).2 + 1)
end Go.Proofs.YtaacpdejpcbbbaaGreatDoor

namespace Go.Proofs.YtaacpdejpcbbbaaGreatDoor
set_option linter.unusedVariables false
set_option linter.unusedSimpArgs false
open Go.RowKit

def acVals (x : ActD) : List Value := [.int .i64 x.1, .string x.2.1, .string x.2.2.1, .string x.2.2.2]
def acFlat (ls : List ActD) : List Value := (ls.map acVals).flatten
theorem acFlat_snoc (ls : List ActD) (x : ActD) : acFlat (ls ++ [x]) = acFlat ls ++ acVals x := by simp [acFlat]
theorem acFlat_app (ls bs : List ActD) : acFlat (ls ++ bs) = acFlat ls ++ acFlat bs := by simp [acFlat]
theorem info_ac : (Tryz.prog.info? 96).map (fun i => (i.zero, i.size, i.bytes)) = some (some (.agg #[.int .i64 0, .string ⟨#[]⟩, .string ⟨#[]⟩, .string ⟨#[]⟩]), 4, 56) := by kernel_rfl
/-- A row of acts. -/
def AcRow (w : World) (A : Option Addr) (c : Nat) (ls : List ActD) : Prop :=
  ls.length ≤ c ∧ c ≤ 9223372036854775807 ∧
  (0 < ls.length → ∃ ad : Addr, A = some ad ∧ ad.block < w.heap.size ∧ ∀ j x, ls[j]? = some x → w.cell? (ad.add (j * 4)) = some (.int .i64 x.1) ∧ w.cell? ⟨(ad.add (j * 4)).block, (ad.add (j * 4)).off + 1, none⟩ = some (.string x.2.1) ∧ w.cell? ⟨(ad.add (j * 4)).block, (ad.add (j * 4)).off + 2, none⟩ = some (.string x.2.2.1) ∧ w.cell? ⟨(ad.add (j * 4)).block, (ad.add (j * 4)).off + 3, none⟩ = some (.string x.2.2.2))
theorem AcRow.below {w w' : World} {A : Option Addr} {c : Nat} {ls : List ActD} (h : AcRow w A c ls) (hb : Below w.heap.size w w') : AcRow w' A c ls :=
  ⟨h.1, h.2.1, fun hp => by
    obtain ⟨ad, e, hl, hc⟩ := h.2.2 hp
    refine ⟨ad, e, Nat.lt_of_lt_of_le hl hb.size, fun j x hx => ?_⟩
    obtain ⟨h0, h1, h2, h3⟩ := hc j x hx
    exact ⟨(hb.cell (by rw [add_block]; exact hl)).trans h0, (hb.cell (by show (ad.add (j * 4)).block < _; rw [add_block]; exact hl)).trans h1, (hb.cell (by show (ad.add (j * 4)).block < _; rw [add_block]; exact hl)).trans h2, (hb.cell (by show (ad.add (j * 4)).block < _; rw [add_block]; exact hl)).trans h3⟩⟩
theorem AcRow.len {w : World} {A : Option Addr} {c : Nat} {ls : List ActD} (h : AcRow w A c ls) : ls.length ≤ 9223372036854775807 := Nat.le_trans h.1 h.2.1
theorem AcRow.at_ {w : World} {A : Option Addr} {c : Nat} {ls : List ActD} (h : AcRow w A c ls) {k : Nat} (hk : k < ls.length) :
    ∃ (ad : Addr) (x : ActD), A = some ad ∧ Hid (ls[k]? = some x) ∧ w.cell? (ad.add (k * 4)) = some (.int .i64 x.1) ∧ w.cell? ⟨(ad.add (k * 4)).block, (ad.add (k * 4)).off + 1, none⟩ = some (.string x.2.1) ∧ w.cell? ⟨(ad.add (k * 4)).block, (ad.add (k * 4)).off + 2, none⟩ = some (.string x.2.2.1) ∧ w.cell? ⟨(ad.add (k * 4)).block, (ad.add (k * 4)).off + 3, none⟩ = some (.string x.2.2.2) := by
  obtain ⟨ad, e, _, hc⟩ := h.2.2 (by omega)
  have hx : ls[k]? = some ls[k] := List.getElem?_eq_getElem hk
  exact ⟨ad, _, e, hx, hc k _ hx⟩
/-- A row of acts of the call's own, made from block B on. -/
def AcOwn (w : World) (B : Nat) (v : Value) (ls : List ActD) : Prop := w.ownsRow B 96 4 v ls.length (acFlat ls)
theorem AcOwn.row {w : World} {B : Nat} {v : Value} {ls : List ActD} (h : AcOwn w B v ls) : ∃ A c, v = .slice A ls.length c ∧ AcRow w A c ls := by
  rcases own_cells (f := acVals) (m := 4) (fun _ => rfl) h with ⟨rfl, rfl⟩ | ⟨g, cap, rfl, _, hg, hn, hm, hc⟩
  · exact ⟨none, 0, rfl, by simp, by simp, fun h0 => by simp at h0⟩
  · refine ⟨_, cap, rfl, hn, hm, fun _ => ⟨_, rfl, hg, fun j x hx => ?_⟩⟩
    rw [add_plain]
    exact ⟨hc j x 0 hx (by omega), hc j x 1 hx (by omega), hc j x 2 hx (by omega), hc j x 3 hx (by omega)⟩
theorem AcOwn.below {w w' : World} {B : Nat} {v : Value} {ls : List ActD} (h : AcOwn w B v ls) (hb : Below w.heap.size w w') : AcOwn w' B v ls := own_keep h hb
theorem AcOwn.form {w : World} {B : Nat} {v : Value} {ls : List ActD} (h : AcOwn w B v ls) : ∃ A c, v = .slice A ls.length c := by
  rcases h.2 with ⟨rfl, h0⟩ | ⟨g, cap, cur, rfl, _⟩
  · exact ⟨none, 0, by rw [h0]⟩
  · exact ⟨_, _, rfl⟩
theorem AcOwn.lt {w : World} {B : Nat} {v : Value} {ls : List ActD} (h : AcOwn w B v ls) : ∀ k, v.ownBlock = some k → B ≤ k ∧ k < w.heap.size := World.ownsRow.lt h
theorem AcOwn.mono {w : World} {B B' : Nat} {v : Value} {ls : List ActD} (h : AcOwn w B v ls) (hb : B' ≤ B) : AcOwn w B' v ls := own_low h hb
theorem acVals_one (ls : List ActD) : ∀ u ∈ acFlat ls, u.oneCell' = true := by
  intro u hu
  unfold acFlat at hu
  obtain ⟨l, hl, hu⟩ := List.mem_flatten.1 hu
  obtain ⟨y, _, rfl⟩ := List.mem_map.1 hl
  unfold acVals at hu
  simp only [List.mem_cons, List.not_mem_nil, or_false] at hu
  rcases hu with rfl | rfl | rfl | rfl <;> rfl
end Go.Proofs.YtaacpdejpcbbbaaGreatDoor

namespace Go.Proofs.YtaacpdejpcbbbaaGreatDoor
set_option linter.unusedVariables false
set_option linter.unusedSimpArgs false
open Go.RowKit
attribute [local go_sem] bs_size List.length_cons List.length_nil List.length_append

/-- Two blocks written, others made. -/
structure Kp (w w' : World) (q : Nat) (r : Option Nat) : Prop where
  os : w'.os = w.os
  tape : w'.tape = w.tape
  output : w'.output = w.output
  size : w.heap.size ≤ w'.heap.size
  block : ∀ k, k < w.heap.size → k ≠ q → some k ≠ r → w'.heap[k]? = w.heap[k]?
theorem Kp.below {w w1 w' : World} {q : Nat} {r : Option Nat} (h : Kp w1 w' q r) {B : Nat} (hb : Below B w w1) (hB : B ≤ w1.heap.size) (hq : B ≤ q) (hr : ∀ k, r = some k → B ≤ k) : Below B w w' :=
  hb.trans ⟨h.os, h.tape, h.output, h.size, fun k hk => h.block k (Nat.lt_of_lt_of_le hk hB) (by omega) (fun e => by have := hr k e.symm; omega)⟩
theorem Kp.of_below {w w1 w' : World} {q : Nat} {r : Option Nat} (hb : Below w.heap.size w w1) (h : Kp w1 w' q r) : Kp w w' q r :=
  ⟨h.os.trans hb.os, h.tape.trans hb.tape, h.output.trans hb.output, Nat.le_trans hb.size h.size, fun k hk h1 h2 => (h.block k (Nat.lt_of_lt_of_le hk hb.size) h1 h2).trans (hb.block k hk)⟩
theorem Kp.grown {w w1 : World} {q : Nat} {r : Option Nat} (h : w.grownBy w1 r) (v : Value) (i : Nat) : Kp w (w1.setCell ⟨q, i, none⟩ v) q r := by
  have hs : (w1.setCell ⟨q, i, none⟩ v).heap.size = w1.heap.size := by simp [World.setCell]
  exact ⟨h.os, h.tape, h.output, by rw [hs]; exact h.size, fun k hk h1 h2 => (gr_setne w1 q i k v h1).trans (h.block k hk h2)⟩
theorem Kp.own {w w' : World} {q : Nat} {r : Option Nat} (h : w.grownBy w' r) : Kp w w' q r := ⟨h.os, h.tape, h.output, h.size, fun k hk _ h2 => h.block k hk h2⟩
/-- The place behind the files that come ahead. -/
def PxPost (fs : List FiD) (n : ByteArray) (r : Int) : Prop := (∃ j y, r = ((j : Nat) : Int) ∧ fs[j]? = some y ∧ gtFi y (n, ⟨#[]⟩, 0) = true ∧ ∀ i z, i < j → fs[i]? = some z → gtFi z (n, ⟨#[]⟩, 0) = false) ∨ (r = -1 ∧ ∀ i z, i < fs.length → fs[i]? = some z → gtFi z (n, ⟨#[]⟩, 0) = false)
theorem px_step {fs : List FiD} {n : ByteArray} {j : Nat} {x : FiD} (hj : fs[j]? = some x) (hx : gtFi x (n, ⟨#[]⟩, 0) = false) (h : ∀ i y, i < j → fs[i]? = some y → gtFi y (n, ⟨#[]⟩, 0) = false) : ∀ i y, i < j + 1 → fs[i]? = some y → gtFi y (n, ⟨#[]⟩, 0) = false := fun i y hi hy => by
  by_cases e : i = j
  · subst e
    rw [hj] at hy
    cases hy
    exact hx
  · exact h i y (by omega) hy
set_option maxRecDepth 100000 in
theorem impl_putFile1_calls (gp : Nat) (n t m : ByteArray) (k : Int) (w : World) (hc : w.cell? ⟨gp, 0, none⟩ = some (.string m)) (b : Bool) (hb : (!(Op.bytesLess n.toList m.toList || n.toList == m.toList)) = b) :
    Calls Tryz.prog 179 #[.agg #[.string n, .string t, .int .i64 k], .pointer (some ⟨gp, 0, none⟩)] w fun e w' => e = .returned (.bool b) ∧ Below w.heap.size w w' := by
  have h1 := cell_new hc (.cells #[.string n, .string t, .int .i64 k] 105)
  have HAL : Hid (Below w.heap.size w (w.alloc (.cells #[.string n, .string t, .int .i64 k] 105))) := (Below.refl _ _).alloc (Nat.le_refl _) _
  have HBB := Lib.hid hb
  clear hc hb
  go_enter Tryz.func179, Tryz.ntmps179
  go_wp2
  go_ret
  exact ⟨ret_bool ((Bool.not_or _ _).symm.trans HBB.out), HAL.out⟩
set_option maxRecDepth 100000 in
theorem index_Put_calls (gp : Nat) (m : ByteArray) (A : Option Addr) (c : Nat) (fs : List FiD) (w : World) (h : FiRow w A c fs) (hc : w.cell? ⟨gp, 0, none⟩ = some (.string m)) :
    Calls Tryz.prog 133 #[.slice A fs.length c, .func (.func 179) #[] #[.pointer (some ⟨gp, 0, none⟩)]] w fun e w' => ∃ r : Int, e = .returned (.int .i64 r) ∧ PxPost fs m r ∧ Below w.heap.size w w' := by
  have hl := h.len
  have HR := Lib.hid h
  have HM := Lib.hid hc
  clear h hc
  go_enter Tryz.func133, Tryz.ntmps133
  go_wp2
  go_loopw [8] (fun iv wr => ∃ i : Nat, i ≤ fs.length ∧ iv = .int .i64 (i : Int) ∧ Hid (∀ j y, j < i → fs[j]? = some y → gtFi y (m, ⟨#[]⟩, 0) = false) ∧ Hid (Below w.heap.size w wr)) (fun iv _ => fs.length - (intOf iv).toNat)
  case atStart => exact ⟨0, Nat.zero_le _, rfl, fun j y hj => by omega, Below.refl _ _⟩
  case round =>
    obtain ⟨i, hi, rfl, HT, HB⟩ := hrel
    by_cases hlt : i < fs.length
    · obtain ⟨ad, x, hA, HX, hz1, hz2, hc0, hc1, hc2⟩ := (HR.out.below HB.out).at_ hlt
      cases hA
      obtain ⟨n, t, k⟩ := x
      dsimp only at hz1 hz2 hc0 hc1 hc2
      have HM2 : Hid (wr.cell? ⟨gp, 0, none⟩ = some (.string m)) := (HB.out.cell (World.block_lt_of_cell? w _ HM.out)).trans HM.out
      obtain ⟨g, hg⟩ : ∃ g, gtFi (n, t, k) (m, ⟨#[]⟩, 0) = g := ⟨_, rfl⟩
      have HG := Lib.hid hg
      have HQ : Hid ((!(Op.bytesLess n.toList m.toList || n.toList == m.toList)) = g) := hg
      clear hg
      cases g
      · have HE := Lib.hid (px_step HX.out HG.out HT.out)
        go_wp2_with fail
        go_at_call 179
        refine (impl_putFile1_calls gp n t m k _ HM2.out false HQ.out).mono ?_
        rintro e w' ⟨rfl, hb⟩
        have HB2 := Lib.hid (HB.out.trans (hb.mono HB.out.size))
        clear hb
        go_wp2
        go_roundw
        case rel => first | exact ⟨i + 1, by omega, by go_num, HE, HB2⟩ | (repeat (first | (refine ⟨?relx, rfl⟩; exact ⟨i + 1, by omega, by go_num, HE, HB2⟩) | (refine ⟨?relx, ?eqs⟩; (case eqs => (and_intros <;> rfl)); exact ⟨i + 1, by omega, by go_num, HE, HB2⟩) | apply Exists.intro))
        case measure => simp [intOf]; omega
      · go_wp2_with fail
        go_at_call 179
        refine (impl_putFile1_calls gp n t m k _ HM2.out true HQ.out).mono ?_
        rintro e w' ⟨rfl, hb⟩
        go_wp2
        go_ret
        exact ⟨_, rfl, .inl ⟨i, _, rfl, HX.out, HG.out, HT.out⟩, HB.out.trans (hb.mono HB.out.size)⟩
    · obtain rfl : i = fs.length := by omega
      go_wp2
      go_ret
      exact ⟨_, rfl, .inr ⟨rfl, HT.out⟩, HB.out⟩
theorem fiFlat_set {fs : List FiD} {j : Nat} {x : FiD} (hj : j < fs.length) : fiFlat (fs.set j x) = fiFlat (fs.take j) ++ fiVals x ++ fiFlat (fs.drop (j + 1)) := by
  rw [List.set_eq_take_append_cons_drop, if_pos hj, fiFlat_app]
  simp [fiFlat]
theorem ov5 {A V D R X : List Value} (h : X.length = V.length) : (overL (A ++ V ++ D ++ R) A.length X).take (A.length + V.length + D.length) = A ++ X ++ D := by
  have h1 : overL (A ++ V ++ D ++ R) A.length X = A ++ X ++ D ++ R := by
    unfold overL
    rw [List.append_assoc A, List.append_assoc A, List.append_assoc A, List.take_left' rfl, h, ← List.append_assoc, ← List.append_assoc, List.append_assoc (A ++ V), List.drop_left' (by simp)]
    simp
  rw [h1]
  exact List.take_left' (by simp [h]; omega)
/-- A file of an own row is written anew. -/
theorem FiOwn.set {w : World} {B g j n cap : Nat} {fs : List FiD} (x : FiD) (h : FiOwn w B (.slice (some ⟨g, 0, none⟩) n cap) fs) (hj : j < fs.length) : FiOwn (w.setCells g (j * 3) (fiVals x)) B (.slice (some ⟨g, 0, none⟩) n cap) (fs.set j x) := by
  refine ⟨by rw [fiFlat_len], ?_⟩
  rcases h.2 with ⟨e, _⟩ | ⟨g', cap', cur, e, hgB, hg, hn, hm, hcs, ht⟩
  · cases e
  · cases e
    obtain ⟨y, hy⟩ : ∃ y, fs[j]? = some y := ⟨_, List.getElem?_eq_getElem hj⟩
    have hV : (fiVals x).length = 3 := rfl
    have hA : (fiFlat (fs.take j)).length = j * 3 := by rw [fiFlat_len, List.length_take, Nat.min_eq_left (by omega)]
    have hD : (fiFlat (fs.drop (j + 1))).length = (fs.length - (j + 1)) * 3 := by rw [fiFlat_len, List.length_drop]
    have hF : fiFlat fs = fiFlat (fs.take j) ++ fiVals y ++ fiFlat (fs.drop (j + 1)) := by
      conv => lhs; rw [← List.take_append_drop j fs, drop_one hy]
      simp [fiFlat]
    have hcl : cur.toList.length = cap * 3 := by rw [Array.length_toList, hcs]
    obtain ⟨R, hR⟩ : ∃ R, cur.toList = fiFlat (fs.take j) ++ fiVals y ++ fiFlat (fs.drop (j + 1)) ++ R := ⟨cur.toList.drop (fs.length * 3), by rw [← hF, ← ht, List.take_append_drop]⟩
    have hb := setCells_blk (fiVals x) (j * 3) w cur hg (by omega)
    refine .inr ⟨g, cap, _, by rw [List.length_set], hgB, hb, by rw [List.length_set]; exact hn, hm, by rw [List.size_toArray, overL_len (by omega), hcl], ?_⟩
    rw [List.length_set, fiFlat_set hj]
    show (overL _ _ _).take _ = _
    rw [show fs.length * 3 = (fiFlat (fs.take j)).length + (fiVals y).length + (fiFlat (fs.drop (j + 1))).length by rw [hA, hD]; show _ = j * 3 + 3 + _; omega, show j * 3 = (fiFlat (fs.take j)).length by omega, hR]
    exact ov5 rfl
def PutPost (w : World) (B q : Nat) (v : Value) (fs : List FiD) (e : Ending) (w' : World) : Prop := e = .returned (.tuple #[]) ∧ ∃ v', w'.heap[q]? = some (.cells #[v'] 32 (0, 0)) ∧ FiOwn w' B v' fs ∧ Kp w w' q v.ownBlock ∧ ∀ k, v'.ownBlock = some k → v.ownBlock = some k ∨ w.heap.size ≤ k
theorem px_ins {fs : List FiD} {x : FiD} {r : Int} (hs : Ris fs) (hn : fileB fs x.1 = none) (h : PxPost fs x.1 r) : (∃ k : Nat, r = (k : Int) ∧ k ≤ fs.length ∧ putF fs x = insF fs k x) ∨ (r = -1 ∧ putF fs x = insF fs fs.length x) := by
  have hne : ∀ y ∈ fs, y.1 ≠ x.1 := file_ne hn
  have hg : ∀ z : FiD, gtFi z (x.1, ⟨#[]⟩, 0) = gtFi z x := fun _ => rfl
  rcases h with ⟨j, y, rfl, hj, hgt, hl⟩ | ⟨rfl, hl⟩
  · refine .inl ⟨j, rfl, Nat.le_of_lt (List.getElem?_eq_some_iff.1 hj).1, put_ins hs hne (Nat.le_of_lt (List.getElem?_eq_some_iff.1 hj).1) (fun i z hi hz => by rw [← hg]; exact hl i z hi hz) fun z hz => ?_⟩
    obtain rfl : y = z := Option.some.inj (hj.symm.trans hz)
    rw [← hg]
    exact hgt
  · refine .inr ⟨rfl, put_ins hs hne (Nat.le_refl _) (fun i z hi hz => by rw [← hg]; exact hl i z hi hz) fun z hz => ?_⟩
    rw [List.getElem?_eq_none (Nat.le_refl _)] at hz
    cases hz
theorem keep2 {W w' : World} {a1 a2 : Addr} {v1 v2 : Value} (h1 : W.cell? a1 = some v1) (h2 : W.cell? a2 = some v2) (hb : Below W.heap.size W w') : w'.cell? a1 = some v1 ∧ w'.cell? a2 = some v2 ∧ Hid (Below W.heap.size W w') :=
  ⟨(hb.cell (World.block_lt_of_cell? _ _ h1)).trans h1, (hb.cell (World.block_lt_of_cell? _ _ h2)).trans h2, hb⟩
theorem putP {w W : World} {q : Nat} {v : Value} (h : w.heap[q]? = some (.cells #[v] 32 (0, 0))) (hb : Below w.heap.size w W) : W.cell? ⟨q, 0, none⟩ = some v := blk_cell (blk_below h hb) 0
set_option maxHeartbeats 8000000 in
set_option maxRecDepth 100000 in
theorem impl_putFile_calls (B q : Nat) (v : Value) (fs : List FiD) (nm tx : ByteArray) (kp : Int) (w : World) (hq : w.heap[q]? = some (.cells #[v] 32 (0, 0))) (ho : FiOwn w B v fs) (hB : B ≤ w.heap.size) (hne : v.ownBlock ≠ some q) (hs : Ris fs) (hl : fs.length ≤ 1000000)
    (hsm : ∀ x ∈ fs, x.1.size ≤ 9223372036854775807 ∧ x.2.1.size ≤ 9223372036854775807) :
    Calls Tryz.prog 153 #[.pointer (some ⟨q, 0, none⟩), .agg #[.string nm, .string tx, .int .i64 kp]] w fun e w' => PutPost w B q v (putF fs (nm, tx, kp)) e w' := by
  obtain ⟨A, c, rfl, hrow⟩ := ho.row hsm
  have HAL : Hid (Below w.heap.size w (w.alloc (.cells #[.string nm, .string tx, .int .i64 kp] 105))) := (Below.refl _ _).alloc (Nat.le_refl _) _
  have HX : Hid ((w.alloc (.cells #[.string nm, .string tx, .int .i64 kp] 105)).heap[w.heap.size]? = some (.cells #[.string nm, .string tx, .int .i64 kp] 105 (0, 0))) := blk_new w _
  have HQ := Lib.hid (blk_below hq HAL.out)
  have HO := Lib.hid (ho.below HAL.out)
  have HR := Lib.hid (hrow.below HAL.out)
  have HQL : Hid (q < w.heap.size) := blk_lt hq
  have HSZ : Hid ((w.alloc (.cells #[.string nm, .string tx, .int .i64 kp] 105)).heap.size = w.heap.size + 1) := by rw [Hid]; simp
  have HNE := Lib.hid hne
  have HRI := Lib.hid hs
  clear hq ho hrow hs hne
  go_enter Tryz.func153, Tryz.ntmps153
  go_wp2_with fail
  generalize w.alloc (.cells #[.string nm, .string tx, .int .i64 kp] 105) = W at HAL HX HQ HO HR HSZ ⊢
  generalize w.heap.size = gx at HX HQL HSZ ⊢
  have HRD : Hid (FiRow W.drew A c fs) := HR.out.below (Below.drew (Below.refl _ _))
  have HQ0 : Hid (W.drew.cell? ⟨q, 0, none⟩ = some (.slice A fs.length c)) := blk_cell HQ.out 0
  have HX0 : Hid (W.drew.cell? ⟨gx, 0, none⟩ = some (.string nm)) := blk_cell HX.out 0
  go_region_held3 (fun w' => w'.cell? ⟨q, 0, none⟩ = some (.slice A fs.length c) ∧ w'.cell? ⟨gx, 0, none⟩ = some (.string nm) ∧ Hid (Below W.drew.heap.size W.drew w')) (first | exact keep2 HQ0.out HX0.out (Below.refl _ _) | exact keep2 HQ0.out HX0.out hbA) (first | (go_at_call 88; refine (impl_fileAt_calls nm A c fs _ HRD.out).mono ?_; rintro e wx ⟨r, rfl, hr, hbA⟩))
  clear ‹_ ∧ _ ∧ _›
  have HB := Lib.hid ((Below.drew (Below.refl W.heap.size W)).trans (hbA.mono (Nat.le_refl _)))
  clear hbA
  have HQX := Lib.hid (blk_below HQ.out HB.out)
  have HXX := Lib.hid (blk_below HX.out HB.out)
  have HOX := Lib.hid (HO.out.below HB.out)
  have HRX := Lib.hid (HR.out.below HB.out)
  have HBW := Lib.hid (HAL.out.trans (HB.out.mono HAL.out.size))
  have x0 := blk_cell HXX.out 0
  have x1 := blk_cell HXX.out 1
  have x2 := blk_cell HXX.out 2
  have q0 := blk_cell HQX.out 0
  clear HQ HX HO HR HRD HQ0 HX0
  rcases hr with ⟨j, y, rfl, hj, hy, hf⟩ | ⟨rfl, hf⟩
  · have hjl := (List.getElem?_eq_some_iff.1 hj).1
    rcases HOX.out.2 with ⟨e, h0⟩ | ⟨g, cap, cur, e, hgB, hg, _, _, hcs, _⟩
    · omega
    cases e
    have HSET := Lib.hid (put_set (x := (nm, tx, kp)) HRI.out hj hy)
    have HOS := Lib.hid (FiOwn.set (nm, tx, kp) (w := wx.drew) (HOX.out.below (Below.drew (Below.refl _ _))) hjl)
    have hsz : j * 3 + 2 < cur.size := by omega
    have HCZ : Hid (∀ d, d < 3 → ∃ u, wx.cell? ⟨g, j * 3 + d, none⟩ = some u) := fun d hd => ⟨cur[j * 3 + d], by rw [blk_cell hg, Array.getElem?_eq_getElem (by omega)]⟩
    obtain ⟨u0, c0⟩ := HCZ.out 0 (by omega)
    obtain ⟨u1, c1⟩ := HCZ.out 1 (by omega)
    obtain ⟨u2, c2⟩ := HCZ.out 2 (by omega)
    have f0 := blk_frozen hg (j * 3)
    have f1 := blk_frozen hg (j * 3 + 1)
    have f2 := blk_frozen hg (j * 3 + 2)
    have HGR : Hid (wx.grownBy (wx.drew.setCells g (j * 3) (fiVals (nm, tx, kp))) (some g)) := gr_trans (gr_drew _ _) (setCells_grown _ _ _ _)
    rw [Nat.add_zero] at c0
    clear hj hy hf hg hcs HCZ
    go_wp2
    go_still_tail 6, (by kernel_rfl)
    change wpList _ _ _ _ _ wx.drew
    go_wp2
    go_end0
    refine ⟨rfl, _, (HGR.out.block q (blk_lt HQX.out) (fun e => HNE.out e.symm)).trans HQX.out, ?_, Kp.of_below HBW.out (Kp.own HGR.out), fun k e => .inl e⟩
    rw [HSET.out]
    exact HOS.out
  · have hmf : ∀ (fn : Fn) (first cap : Array Value) (w : World), (Instr.makeFunc fn first cap).run Tryz.prog w = .ok (.func fn first cap) w := fun _ _ _ _ => rfl
    have HF := Lib.hid hf
    clear hf
    go_wp2_with fail
    go_at_call 133
    refine (index_Put_calls gx nm A c fs _ HRX.out x0).mono ?_
    rintro e w2 ⟨r, rfl, hr, hb⟩
    have HB2 := Lib.hid (HB.out.trans (hb.mono HB.out.size))
    have HBW2 := Lib.hid (HBW.out.trans (hb.mono HBW.out.size))
    have HQ2 := Lib.hid (blk_below HQX.out hb)
    have HX2 := Lib.hid (blk_below HXX.out hb)
    have HO2 := Lib.hid (HOX.out.below hb)
    have HI := Lib.hid (px_ins (x := (nm, tx, kp)) HRI.out HF.out hr)
    clear x0 x1 x2 q0 hb hr HOX HRX HXX HQX HBW HB hmf
    have x0 := blk_cell HX2.out 0
    have x1 := blk_cell HX2.out 1
    have x2 := blk_cell HX2.out 2
    have q0 := blk_cell HQ2.out 0
    have HWD : Hid (Below w2.heap.size w2 (w2.drew.alloc (.cells #[.string nm, .string tx, .int .i64 kp] 105))) := (Below.drew (Below.refl _ _)).alloc (Nat.le_refl _) _
    have HO3 := Lib.hid (HO2.out.below HWD.out)
    have HQ3 := Lib.hid (blk_below HQ2.out HWD.out)
    have HV3 : Hid ((w2.drew.alloc (.cells #[.string nm, .string tx, .int .i64 kp] 105)).heap[w2.heap.size]? = some (.cells #[.string nm, .string tx, .int .i64 kp] 105 (0, 0))) := blk_new w2.drew _
    have HB3 : Hid (B ≤ (w2.drew.alloc (.cells #[.string nm, .string tx, .int .i64 kp] 105)).heap.size) := Nat.le_trans hB (Nat.le_trans HBW2.out.size HWD.out.size)
    have HN3 : Hid ((Value.slice A fs.length c).ownBlock ≠ some w2.heap.size) := fun e => by have := (HO2.out.lt _ e).2; omega
    have HEND : Hid (∀ w4 v4 F, InsPost (w2.drew.alloc (.cells #[.string nm, .string tx, .int .i64 kp] 105)) B (.slice A fs.length c) F (.returned v4) w4 → (∃ A4 n4 c4, v4 = .slice A4 n4 c4) ∧ w4.heap[q]? = some (.cells #[.slice A fs.length c] 32 (0, 0)) ∧ PutPost w B q (.slice A fs.length c) F (.returned (.tuple #[])) (w4.setCell ⟨q, 0, none⟩ v4)) := fun w4 v4 F hp => by
      obtain ⟨v5, e5, ho, hg, hlt⟩ := hp
      cases e5
      have hq4 := (hg.block q (blk_lt HQ3.out) (fun e => HNE.out e.symm)).trans HQ3.out
      have hne : v4.ownBlock ≠ some q := fun e => by
        rcases hlt q e with h | h
        · exact HNE.out h
        · have := blk_lt HQ3.out; omega
      refine ⟨by obtain ⟨A4, c4, e4⟩ := ho.form; exact ⟨A4, _, c4, e4⟩, hq4, rfl, v4, by rw [blk_set hq4]; rfl, World.ownsRow.kept ho (gr_set w4 q 0 v4) (.inr hne), Kp.of_below (HBW2.out.trans (HWD.out.mono HBW2.out.size)) (Kp.grown hg v4 0), fun k e => ?_⟩
      rcases hlt k e with h | h
      · exact .inl h
      · have h1 := HWD.out.size
        have h2 := HBW2.out.size
        exact .inr (by omega)
    have hq9 : fs.length < 9223372036854775807 := by omega
    rcases HI.out with ⟨k, e, hk, hpf⟩ | ⟨e, hpf⟩
    · subst e
      have HPF := Lib.hid hpf
      clear HI hpf
      go_wp2_with fail
      have q0n := cell_new q0 (.cells #[.string nm, .string tx, .int .i64 kp] 105)
      go_region_law (go_simp; go_at_call 180; refine (insert_File_calls B _ k _ fs (nm, tx, kp) _ HO3.out HB3.out hk hl HV3.out HN3.out).mono ?_; rintro e w4 ⟨v4, rfl, hp⟩; obtain ⟨⟨A4, n4, c4, e4⟩, hq4, hpo⟩ := HEND.out w4 v4 _ ⟨v4, rfl, hp⟩; subst e4; have q4 := blk_cell hq4 0; have f4 := blk_frozen hq4 0; have HPO := Lib.hid hpo; clear hp hq4 hpo)
      all_goals
        go_wp2
        go_end0
        rw [HPF.out]
        exact HPO.out
    · subst e
      have HPF := Lib.hid hpf
      clear HI hpf
      go_wp2_with fail
      have q0n := cell_new q0 (.cells #[.string nm, .string tx, .int .i64 kp] 105)
      go_region_law (go_simp; go_at_call 180; refine (insert_File_calls B _ fs.length _ fs (nm, tx, kp) _ HO3.out HB3.out (Nat.le_refl _) hl HV3.out HN3.out).mono ?_; rintro e w4 ⟨v4, rfl, hp⟩; obtain ⟨⟨A4, n4, c4, e4⟩, hq4, hpo⟩ := HEND.out w4 v4 _ ⟨v4, rfl, hp⟩; subst e4; have q4 := blk_cell hq4 0; have f4 := blk_frozen hq4 0; have HPO := Lib.hid hpo; clear hp hq4 hpo)
      all_goals
        go_wp2
        go_end0
        rw [HPF.out]
        exact HPO.out
end Go.Proofs.YtaacpdejpcbbbaaGreatDoor

namespace Go.Proofs.YtaacpdejpcbbbaaGreatDoor
set_option linter.unusedVariables false
set_option linter.unusedSimpArgs false
open Go.RowKit
attribute [local go_sem] bs_size List.length_cons List.length_nil List.length_append

set_option maxRecDepth 100000 in
theorem impl_copyDisk_calls (b c : Nat) (fs : List FiD) (w : World) (h : FiRow w (some ⟨b, 0, none⟩) c fs) (hp : 0 < fs.length) (hl : fs.length ≤ 1000000) :
    Calls Tryz.prog 109 #[.agg #[.slice (some ⟨b, 0, none⟩) fs.length c]] w fun e w' => ∃ b' c', e = .returned (.agg #[.slice (some ⟨b', 0, none⟩) fs.length c']) ∧ FiOwn w' w.heap.size (.slice (some ⟨b', 0, none⟩) fs.length c') fs ∧ Below w.heap.size w w' := by
  obtain ⟨i0, hi0, hz, hsz, hby⟩ := info_parts info_fi
  obtain ⟨fx, hu⟩ := und_dskP
  have hs1 : (w.alloc (.cells #[.slice (some ⟨b, 0, none⟩) fs.length c] 32)).heap.size = w.heap.size + 1 := by simp
  have HAL : Hid (Below w.heap.size w ((w.alloc (.cells #[.slice (some ⟨b, 0, none⟩) fs.length c] 32)).alloc (.cells #[.slice none 0 0] 32))) := ((Below.refl _ _).alloc (Nat.le_refl _) _).alloc (by simp) _
  have HR := Lib.hid (h.below HAL.out)
  have HX : Hid (((w.alloc (.cells #[.slice (some ⟨b, 0, none⟩) fs.length c] 32)).alloc (.cells #[.slice none 0 0] 32)).heap[w.heap.size + 1]? = some (.cells #[.slice none 0 0] 32 (0, 0))) := by rw [Hid, ← hs1]; exact blk_new _ _
  have p0 : ((w.alloc (.cells #[.slice (some ⟨b, 0, none⟩) fs.length c] 32)).alloc (.cells #[.slice none 0 0] 32)).cell? ⟨w.heap.size, 0, none⟩ = some (.slice (some ⟨b, 0, none⟩) fs.length c) := cell_new (blk_cell (blk_new w _) 0) _
  have HNEWS := Lib.hid HR.out.flat
  have HSZ : Hid (((w.alloc (.cells #[.slice (some ⟨b, 0, none⟩) fs.length c] 32)).alloc (.cells #[.slice none 0 0] 32)).heap.size = w.heap.size + 2) := by rw [Hid]; simp
  clear h hs1
  go_enter Tryz.func109, Tryz.ntmps109
  go_wp2_with (at_builtin; go_loud (refine wpList_append_lies _ rfl _ _ _ rfl w.heap.size 105 i0 (.agg #[.string ⟨#[]⟩, .string ⟨#[]⟩, .int .i64 0]) 3 40 Tryz.underlying30 hi0 hz hsz hby rfl (by omega) (.slice none 0 0) 0 [] rfl (World.ownsRow_nil ..) ⟨b, 0, none⟩ fs.length c (fiFlat fs) rfl (fiFlat_len fs) HNEWS.out (fiVals_one fs) hp (by unfold maxLen; omega) (by omega) HAL.out.size _ rfl ?_); intro gg cap w3 hown hgrow hat hlt; rw [Nat.zero_add, List.nil_append] at hown; have HX3 := Lib.hid ((hgrow.block _ (by rw [HSZ.out]; omega) (by simp [Value.ownBlock])).trans HX.out); have HB3 := Lib.hid (HAL.out.grown hgrow HAL.out.size (fun k e => by simp [Value.ownBlock] at e)); have HO3 : Hid (FiOwn w3 w.heap.size (.slice (some ⟨gg, 0, none⟩) fs.length cap) fs) := hown; have q0 := blk_frozen HX3.out 0; have q1 := blk_cell HX3.out 0; have HNG : Hid (gg ≠ w.heap.size + 1) := (fun e => (by cases hat with | inl h1 => (simp [Value.ownBlock] at h1) | inr h1 => (rw [HSZ.out] at h1; omega))); clear hown hgrow hat hlt)
  refine res_box (g := w.heap.size + 1) (cs := #[.slice (some ⟨gg, 0, none⟩) fs.length cap]) rfl (by rw [blk_set HX3.out]; rfl) rfl hu info_dskP ⟨gg, cap, rfl, ?_, HB3.out.setCell (p := ⟨w.heap.size + 1, 0, none⟩) (by show w.heap.size ≤ w.heap.size + 1; omega) _⟩
  exact World.ownsRow.kept HO3.out (gr_set w3 (w.heap.size + 1) 0 _) (.inr fun e => HNG.out (Option.some.inj e))
set_option maxRecDepth 100000 in
theorem impl_copyDisk_nil (A : Option Addr) (c : Nat) (w : World) : Calls Tryz.prog 109 #[.agg #[.slice A 0 c]] w fun e w' => e = .returned (.agg #[.slice none 0 0]) ∧ Below w.heap.size w w' := by
  obtain ⟨fx, hu⟩ := und_dskP
  have hs1 : (w.alloc (.cells #[.slice A 0 c] 32)).heap.size = w.heap.size + 1 := by simp
  have HAL : Hid (Below w.heap.size w ((w.alloc (.cells #[.slice A 0 c] 32)).alloc (.cells #[.slice none 0 0] 32))) := ((Below.refl _ _).alloc (Nat.le_refl _) _).alloc (by simp) _
  have HX : Hid (((w.alloc (.cells #[.slice A 0 c] 32)).alloc (.cells #[.slice none 0 0] 32)).heap[w.heap.size + 1]? = some (.cells #[.slice none 0 0] 32 (0, 0))) := by rw [Hid, ← hs1]; exact blk_new _ _
  have p0 : ((w.alloc (.cells #[.slice A 0 c] 32)).alloc (.cells #[.slice none 0 0] 32)).cell? ⟨w.heap.size, 0, none⟩ = some (.slice A 0 c) := cell_new (blk_cell (blk_new w _) 0) _
  have q0 := blk_frozen HX.out 0
  have q1 := blk_cell HX.out 0
  clear hs1
  go_enter Tryz.func109, Tryz.ntmps109
  cases A with
  | none =>
    go_wp2
    exact res_box (g := w.heap.size + 1) (cs := #[.slice none 0 0]) rfl HX.out rfl hu info_dskP ⟨rfl, HAL.out⟩
  | some ad =>
    go_wp2
    exact res_box (g := w.heap.size + 1) (cs := #[.slice none 0 0]) rfl HX.out rfl hu info_dskP ⟨rfl, HAL.out⟩
/-- A copy of a disk of one's own. -/
theorem impl_copyDisk_any (B : Nat) (A : Option Addr) (n c : Nat) (fs : List FiD) (w : World) (h : FiOwn w B (.slice A n c) fs) (hsm : ∀ x ∈ fs, x.1.size ≤ 9223372036854775807 ∧ x.2.1.size ≤ 9223372036854775807) (hl : fs.length ≤ 1000000) :
    Calls Tryz.prog 109 #[.agg #[.slice A n c]] w fun e w' => ∃ v', e = .returned (.agg #[v']) ∧ FiOwn w' w.heap.size v' fs ∧ Below w.heap.size w w' := by
  obtain ⟨A', c', e, hrow⟩ := h.row hsm
  cases e
  rcases Nat.eq_zero_or_pos fs.length with h0 | h0
  · have e0 := List.eq_nil_of_length_eq_zero h0
    subst e0
    exact (impl_copyDisk_nil A c w).mono fun e w' ⟨h1, h2⟩ => ⟨_, h1, World.ownsRow_nil .., h2⟩
  · rcases h.2 with ⟨_, h1⟩ | ⟨g, cap, cur, e, _⟩
    · omega
    · injection e with e1 e2 e3
      subst e1
      exact (impl_copyDisk_calls g c fs w hrow h0 hl).mono fun e w' ⟨b', c', h1, h2, h3⟩ => ⟨_, h1, h2, h3⟩
end Go.Proofs.YtaacpdejpcbbbaaGreatDoor

namespace Go.Proofs.YtaacpdejpcbbbaaGreatDoor
set_option linter.unusedVariables false
set_option linter.unusedSimpArgs false
open Go.RowKit
attribute [local go_sem] bs_size List.length_cons List.length_nil List.length_append

def ltSp (y x : SpotD) : Bool := Op.bytesLess y.1.toList x.1.toList
def gtSp (y x : SpotD) : Bool := !(Op.bytesLess y.1.toList x.1.toList || y.1.toList == x.1.toList)
def setLo (ds : List SpotD) (x : SpotD) : List SpotD := ds.filter fun y => ltSp y x
def setMid (ds : List SpotD) (x : SpotD) (g : Bool) : List SpotD := setLo ds x ++ (if g = true then [] else [x])
def setB (ds : List SpotD) (x : SpotD) (g : Bool) : List SpotD := setMid ds x g ++ ds.filter fun y => gtSp y x
theorem setB_len (ds : List SpotD) (x : SpotD) (g : Bool) : (setB ds x g).length ≤ ds.length + 1 := by
  have h : (ds.filter fun y => ltSp y x).length + (ds.filter fun y => gtSp y x).length ≤ ds.length := by
    induction ds with
    | nil => simp
    | cons y ds ih =>
      rw [List.filter_cons, List.filter_cons, List.length_cons]
      by_cases hl : ltSp y x = true
      · have hg : gtSp y x = false := by
          unfold gtSp ltSp at *
          rw [hl]
          rfl
        rw [if_pos hl, if_neg (by rw [hg]; exact Bool.false_ne_true), List.length_cons]
        omega
      · rw [if_neg hl]
        split
        · rw [List.length_cons]; omega
        · omega
  unfold setB setMid setLo
  cases g <;> simp <;> omega
theorem setB_mem {ds : List SpotD} {x y : SpotD} {g : Bool} (h : y ∈ setB ds x g) : y ∈ ds ∨ y = x := by
  unfold setB setMid setLo at h
  rcases List.mem_append.1 h with h | h
  · rcases List.mem_append.1 h with h | h
    · exact .inl (List.mem_filter.1 h).1
    · split at h
      · simp at h
      · exact .inr (List.mem_singleton.1 h)
  · exact .inl (List.mem_filter.1 h).1
theorem filter_yes {p : SpotD → Bool} {ds : List SpotD} {i : Nat} {y : SpotD} (h : ds[i]? = some y) (hp : p y = true) : (ds.take (i + 1)).filter p = (ds.take i).filter p ++ [y] := by
  rw [take_snoc h, List.filter_append]
  simp [hp]
theorem filter_no {p : SpotD → Bool} {ds : List SpotD} {i : Nat} {y : SpotD} (h : ds[i]? = some y) (hp : p y = false) : (ds.take (i + 1)).filter p = (ds.take i).filter p := by
  rw [take_snoc h, List.filter_append]
  simp [hp]
theorem SpOwn.form {w : World} {B : Nat} {v : Value} {ds : List SpotD} (h : SpOwn w B v ds) : ∃ A c, v = .slice A ds.length c := by
  rcases h.2 with ⟨rfl, h0⟩ | ⟨g, cap, cur, rfl, _⟩
  · exact ⟨none, 0, by rw [h0]⟩
  · exact ⟨_, _, rfl⟩
theorem SpOwn.lt {w : World} {B : Nat} {v : Value} {ds : List SpotD} (h : SpOwn w B v ds) : ∀ k, v.ownBlock = some k → B ≤ k ∧ k < w.heap.size := World.ownsRow.lt h
theorem SpOwn.mono {w : World} {B B' : Nat} {v : Value} {ds : List SpotD} (h : SpOwn w B v ds) (hb : B' ≤ B) : SpOwn w B' v ds := own_low h hb
/-- The spot in its box, and the row under way. -/
structure SX (w : World) (x : SpotD) (v : Value) (ds : List SpotD) (W : World) : Prop where
  b : Below (w.heap.size + 1) (w.alloc (.cells (spVals x).toArray 56)) W
  own : SpOwn W (w.heap.size + 1) v ds
section
variable {w W W' : World} {x : SpotD} {v : Value} {ds : List SpotD}
theorem SX.from_ (h : SX w x v ds W) : Below w.heap.size w W := ((Below.refl _ _).alloc (Nat.le_refl _) _).trans (h.b.mono (by omega))
theorem SX.size (h : SX w x v ds W) : w.heap.size + 1 ≤ W.heap.size := by have := h.b.size; simpa using this
theorem SX.box (h : SX w x v ds W) : W.heap[w.heap.size]? = some (.cells (spVals x).toArray 56 (0, 0)) := (h.b.block _ (by omega)).trans (blk_new w _)
theorem SX.go (h : SX w x v ds W) (hb : Below W.heap.size W W') : SX w x v ds W' := ⟨h.b.trans (hb.mono h.size), own_keep h.own hb⟩
theorem SX.put {v' : Value} {ds' : List SpotD} (h : SX w x v ds W) (hg : W.grownBy W' v.ownBlock) (ho : SpOwn W' (w.heap.size + 1) v' ds') : SX w x v' ds' W' := ⟨h.b.grown hg h.size fun k e => (h.own.lt k e).1, ho⟩
end
set_option maxHeartbeats 8000000 in
set_option maxRecDepth 100000 in
theorem spec_l07Set_calls (A : Option Addr) (c : Nat) (ds : List SpotD) (key : ByteArray) (seg at_ sq : Int) (g : Bool) (w : World) (h : SpRow w A c ds) (hn : ds.length ≤ 1000000000) :
    Calls Tryz.prog 102 #[.slice A ds.length c, .agg #[.string key, .int .i64 seg, .int .i64 at_, .int .i64 sq], .bool g] w fun e w' => ∃ v, e = .returned v ∧ SpOwn w' w.heap.size v (setB ds (key, seg, at_, sq) g) ∧ Below w.heap.size w w' := by
  obtain ⟨i0, hi0, hz, hsz, hby⟩ := info_parts info_sp
  have HR := Lib.hid h
  have hs1 : (w.alloc (.cells #[.string key, .int .i64 seg, .int .i64 at_, .int .i64 sq] 56)).heap.size = w.heap.size + 1 := by simp
  have HS0 : Hid (SX w (key, seg, at_, sq) (.slice (some ⟨w.heap.size + 1, 0, none⟩) 0 0) [] ((w.alloc (.cells #[.string key, .int .i64 seg, .int .i64 at_, .int .i64 sq] 56)).alloc (.cells #[] 56))) := ⟨(Below.refl _ _).alloc (by simp) _, by
    have : ((w.alloc (.cells #[.string key, .int .i64 seg, .int .i64 at_, .int .i64 sq] 56)).alloc (.cells #[] 56)).ownsRow (w.heap.size + 1) 56 4 (.slice (some ⟨(w.alloc (.cells #[.string key, .int .i64 seg, .int .i64 at_, .int .i64 sq] 56)).heap.size, 0, none⟩) 0 0) 0 [] := World.ownsRow_made (w := w.alloc (.cells #[.string key, .int .i64 seg, .int .i64 at_, .int .i64 sq] 56)) #[] 0 (by rw [hs1]; exact Nat.le_refl _) (Nat.zero_le _) rfl
    rw [hs1] at this
    exact this⟩
  clear h hs1
  go_enter Tryz.func102, Tryz.ntmps102
  go_wp2
  go_loopw [7, 8] (fun ov iv wr => ∃ i : Nat, i ≤ ds.length ∧ iv = .int .i64 (i : Int) ∧ Hid (SX w (key, seg, at_, sq) ov ((ds.take i).filter fun y => ltSp y (key, seg, at_, sq)) wr)) (fun _ iv _ => ds.length - (intOf iv).toNat)
  case atStart => exact ⟨0, Nat.zero_le _, rfl, HS0⟩
  case round =>
    obtain ⟨i, hi, rfl, HS⟩ := hrel
    by_cases hlt : i < ds.length
    · obtain ⟨ad, y, hA, HY, hy1, hc0, hc1, hc2, hc3⟩ := (HR.out.below HS.out.from_).at_ hlt
      cases hA
      obtain ⟨yk, ys, ya, yq⟩ := y
      dsimp only at hy1 hc0 hc1 hc2 hc3
      have k0 := blk_cell HS.out.box 0
      obtain ⟨A2, c2, hv⟩ := HS.out.own.form
      subst hv
      have hfl : ((ds.take i).filter fun y => ltSp y (key, seg, at_, sq)).length ≤ i := by
        have h1 := List.length_filter_le (fun y => ltSp y (key, seg, at_, sq)) (ds.take i)
        have h2 : (ds.take i).length ≤ i := by rw [List.length_take]; omega
        omega
      have HFL := Lib.hid hfl
      have HCC := Lib.hid (And.intro hc0 (And.intro hc1 (And.intro hc2 hc3)))
      have HSD := Lib.hid (HS.out.go (Below.drew (Below.refl _ _)))
      have hli : (i : Int) < (ds.length : Int) := by omega
      have HFY := Lib.hid (fun hp => filter_yes (p := fun y => ltSp y (key, seg, at_, sq)) HY.out hp)
      have HFN := Lib.hid (fun hp => filter_no (p := fun y => ltSp y (key, seg, at_, sq)) HY.out hp)
      obtain ⟨lt, hlt2⟩ : ∃ b, ltSp (yk, ys, ya, yq) (key, seg, at_, sq) = b := ⟨_, rfl⟩
      have hll : Op.bytesLess yk.toList key.toList = lt := hlt2
      rw [hlt2] at HFY HFN
      clear hlt2 hfl
      generalize ((ds.take i).filter fun y => ltSp y (key, seg, at_, sq)) = F at HS HFL HSD HFY HFN ⊢
      go_wp2_with fail
      go_region_held3 (fun w' => w'.cell? (ad.add (i * 4)) = some (.string yk) ∧ w'.cell? ⟨w.heap.size, 0, none⟩ = some (.string key) ∧ Hid (SX w (key, seg, at_, sq) (.slice A2 F.length c2) F w')) (first | exact ⟨HCC.out.1, k0, HSD.out⟩) (fail)
      have HS2 := (‹_ ∧ _ ∧ Hid (SX w (key, seg, at_, sq) (.slice A2 F.length c2) F _)›).2.2
      cases lt
      · have HF2 := Lib.hid (HFN.out rfl)
        clear HFY HFN
        go_wp2
        go_roundw
        case rel => first | exact ⟨i + 1, by omega, by go_num, by rw [HF2.out]; exact HS2⟩ | (repeat (first | (refine ⟨?relx, rfl⟩; exact ⟨i + 1, by omega, by go_num, by rw [HF2.out]; exact HS2⟩) | (refine ⟨?relx, ?eqs⟩; (case eqs => (and_intros <;> rfl)); exact ⟨i + 1, by omega, by go_num, by rw [HF2.out]; exact HS2⟩) | apply Exists.intro))
        case measure => simp [intOf]; omega
      · have HF2 := Lib.hid (HFY.out rfl)
        clear HFY HFN
        have HC4 : Hid (wr.drew.cell? (ad.add (i * 4)) = some (.string yk) ∧ wr.drew.cell? ⟨(ad.add (i * 4)).block, (ad.add (i * 4)).off + 1, none⟩ = some (.int .i64 ys) ∧ wr.drew.cell? ⟨(ad.add (i * 4)).block, (ad.add (i * 4)).off + 2, none⟩ = some (.int .i64 ya) ∧ wr.drew.cell? ⟨(ad.add (i * 4)).block, (ad.add (i * 4)).off + 3, none⟩ = some (.int .i64 yq)) := HCC.out
        clear hc0 hc1 hc2 hc3 k0 HCC HSD
        have HSW := HS2
        have hfl := HFL.out
        generalize wr.drew = wd at HS2 HSW HC4 ⊢
        obtain ⟨hc0, hc1, hc2, hc3⟩ := HC4.out
        have HAL9 : Hid (Below wd.heap.size wd (wd.alloc (.cells #[.string yk, .int .i64 ys, .int .i64 ya, .int .i64 yq] 56))) := (Below.refl _ _).alloc (Nat.le_refl _) _
        have HS9 := Lib.hid (HSW.out.go HAL9.out)
        have HOWN := Lib.hid HS9.out.own
        have HBASE := Lib.hid HS9.out.size
        have HNEWS : Hid (∀ j u, (spVals (yk, ys, ya, yq))[j]? = some u → (wd.alloc (.cells #[.string yk, .int .i64 ys, .int .i64 ya, .int .i64 yq] 56)).cell? ((⟨wd.heap.size, 0, none⟩ : Addr).add j) = some u) := World.news_of_block (heap_alloc_new wd _)
        go_wp2_with (at_builtin; refine wpList_append_lies _ rfl _ _ _ rfl (w.heap.size + 1) 56 i0 (.agg #[.string ⟨#[]⟩, .int .i64 0, .int .i64 0, .int .i64 0]) 4 40 Tryz.underlying33 hi0 hz hsz hby rfl (by omega) (.slice A2 F.length c2) F.length (spFlat F) rfl HOWN.out ⟨wd.heap.size, 0, none⟩ 1 1 (spVals (yk, ys, ya, yq)) rfl rfl HNEWS.out (by simp [Value.oneCell', spVals]) (by omega) (by unfold maxLen; omega) (by omega) HBASE.out _ rfl ?_; intro gg cap w7 hown hgrow hat hlt2)
        have HPU : Hid (SpOwn w7 (w.heap.size + 1) (.slice (some ⟨gg, 0, none⟩) (F.length + 1) cap) (F ++ [(yk, ys, ya, yq)])) := by
          rw [Hid, SpOwn, spFlat_snoc, List.length_append]
          exact hown
        have HS7 := Lib.hid (HS9.out.put hgrow HPU.out)
        clear hown hgrow hat
        go_wp2
        go_roundw
        case rel => first | exact ⟨i + 1, by omega, by go_num, by rw [HF2.out]; exact HS7⟩ | (repeat (first | (refine ⟨?relx, rfl⟩; exact ⟨i + 1, by omega, by go_num, by rw [HF2.out]; exact HS7⟩) | (refine ⟨?relx, ?eqs⟩; (case eqs => (and_intros <;> rfl)); exact ⟨i + 1, by omega, by go_num, by rw [HF2.out]; exact HS7⟩) | apply Exists.intro))
        case measure => simp [intOf]; omega
    · obtain rfl : i = ds.length := by omega
      rw [List.take_length] at HS
      have hll : (ds.filter fun y => ltSp y (key, seg, at_, sq)).length ≤ ds.length := List.length_filter_le _ _
      obtain ⟨A2, c2, hv⟩ := HS.out.own.form
      subst hv
      have HMT : Hid (g = true → setMid ds (key, seg, at_, sq) g = ds.filter fun y => ltSp y (key, seg, at_, sq)) := fun h => by unfold setMid setLo; rw [if_pos h, List.append_nil]
      have HMF : Hid (g = false → setMid ds (key, seg, at_, sq) g = (ds.filter fun y => ltSp y (key, seg, at_, sq)) ++ [(key, seg, at_, sq)]) := fun h => by unfold setMid setLo; rw [if_neg (by simp [h])]
      have HML : Hid ((setMid ds (key, seg, at_, sq) g).length ≤ ds.length + 1) := by
        rw [Hid]
        unfold setMid setLo
        rw [List.length_append]
        cases g <;> simp <;> omega
      have HSB : Hid (setB ds (key, seg, at_, sq) g = setMid ds (key, seg, at_, sq) g ++ ds.filter fun y => gtSp y (key, seg, at_, sq)) := rfl
      generalize (ds.filter fun y => ltSp y (key, seg, at_, sq)) = F at HS hll HMT HMF ⊢
      generalize setMid ds (key, seg, at_, sq) g = M at HMT HMF HML HSB
      have hnl : ¬ (ds.length : Int) < (ds.length : Int) := by omega
      go_upto_if 33 with (fail)
      go_cut [7] from 10 to 59 (fun ov wx => Hid (SX w (key, seg, at_, sq) ov M wx))
      case first =>
        cases g
        · have HM := Lib.hid (HMF.out rfl)
          have k0 := blk_cell HS.out.box 0
          have k1 := blk_cell HS.out.box 1
          have k2 := blk_cell HS.out.box 2
          have k3 := blk_cell HS.out.box 3
          have HSW := HS
          simp only [spVals] at k0 k1 k2 k3
          have HAL9 : Hid (Below wr.heap.size wr (wr.alloc (.cells #[.string key, .int .i64 seg, .int .i64 at_, .int .i64 sq] 56))) := (Below.refl _ _).alloc (Nat.le_refl _) _
          have HS9 := Lib.hid (HSW.out.go HAL9.out)
          have HOWN := Lib.hid HS9.out.own
          have HBASE := Lib.hid HS9.out.size
          have HNEWS : Hid (∀ j u, (spVals (key, seg, at_, sq))[j]? = some u → (wr.alloc (.cells #[.string key, .int .i64 seg, .int .i64 at_, .int .i64 sq] 56)).cell? ((⟨wr.heap.size, 0, none⟩ : Addr).add j) = some u) := World.news_of_block (heap_alloc_new wr _)
          go_wp2_with (at_builtin; refine wpList_append_lies _ rfl _ _ _ rfl (w.heap.size + 1) 56 i0 (.agg #[.string ⟨#[]⟩, .int .i64 0, .int .i64 0, .int .i64 0]) 4 40 Tryz.underlying33 hi0 hz hsz hby rfl (by omega) (.slice A2 F.length c2) F.length (spFlat F) rfl HOWN.out ⟨wr.heap.size, 0, none⟩ 1 1 (spVals (key, seg, at_, sq)) rfl rfl HNEWS.out (by simp [Value.oneCell', spVals]) (by omega) (by unfold maxLen; omega) (by omega) HBASE.out _ rfl ?_; intro gg cap w7 hown hgrow hat hlt2)
          have HPU : Hid (SpOwn w7 (w.heap.size + 1) (.slice (some ⟨gg, 0, none⟩) (F.length + 1) cap) (F ++ [(key, seg, at_, sq)])) := by
            rw [Hid, SpOwn, spFlat_snoc, List.length_append]
            exact hown
          have HS7 := Lib.hid (HS9.out.put hgrow HPU.out)
          clear hown hgrow hat
          go_wp2
          go_meet
          case rel => rw [HM.out]; exact HS7
        · have HM := Lib.hid (HMT.out rfl)
          go_wp2
          go_meet
          case rel => rw [HM.out]; exact HS
      case rest =>
        clear HMT HMF hnl hll
        go_wp2
        go_loopw [7, 9] (fun ov iv wr => ∃ i : Nat, i ≤ ds.length ∧ iv = .int .i64 (i : Int) ∧ Hid (SX w (key, seg, at_, sq) ov (M ++ (ds.take i).filter fun y => gtSp y (key, seg, at_, sq)) wr)) (fun _ iv _ => ds.length - (intOf iv).toNat)
        case atStart => exact ⟨0, Nat.zero_le _, rfl, by rw [List.take_zero, List.filter_nil, List.append_nil]; exact hcut⟩
        case round =>
          clear hcut HS
          obtain ⟨i, hi, rfl, HS⟩ := hrel
          by_cases hlt : i < ds.length
          · obtain ⟨ad, y, hA, HY, hy1, hc0, hc1, hc2, hc3⟩ := (HR.out.below HS.out.from_).at_ hlt
            cases hA
            obtain ⟨yk, ys, ya, yq⟩ := y
            dsimp only at hy1 hc0 hc1 hc2 hc3
            have k0 := blk_cell HS.out.box 0
            obtain ⟨A2, c2, hv⟩ := HS.out.own.form
            subst hv
            have hfl : (M ++ (ds.take i).filter fun y => gtSp y (key, seg, at_, sq)).length ≤ ds.length + 1 + i := by
              have h3 := HML.out
              rw [List.length_append]
              have h1 := List.length_filter_le (fun y => gtSp y (key, seg, at_, sq)) (ds.take i)
              have h2 : (ds.take i).length ≤ i := by rw [List.length_take]; omega
              omega
            have HFL := Lib.hid hfl
            have HCC := Lib.hid (And.intro hc0 (And.intro hc1 (And.intro hc2 hc3)))
            have HSD := Lib.hid (HS.out.go (Below.drew (Below.refl _ _)))
            have hli : (i : Int) < (ds.length : Int) := by omega
            have HFY := Lib.hid (fun hp => congrArg (M ++ ·) (filter_yes (p := fun y => gtSp y (key, seg, at_, sq)) HY.out hp))
            have HFN := Lib.hid (fun hp => congrArg (M ++ ·) (filter_no (p := fun y => gtSp y (key, seg, at_, sq)) HY.out hp))
            obtain ⟨lt, hlt2⟩ : ∃ b, gtSp (yk, ys, ya, yq) (key, seg, at_, sq) = b := ⟨_, rfl⟩
            have hll : (!(Op.bytesLess yk.toList key.toList || yk.toList == key.toList)) = lt := hlt2
            rw [hlt2] at HFY HFN
            rw [← List.append_assoc] at HFY
            clear hlt2 hfl
            generalize (M ++ (ds.take i).filter fun y => gtSp y (key, seg, at_, sq)) = F at HS HFL HSD HFY HFN ⊢
            go_wp2_with fail
            go_region_held3 (fun w' => w'.cell? (ad.add (i * 4)) = some (.string yk) ∧ w'.cell? ⟨w.heap.size, 0, none⟩ = some (.string key) ∧ Hid (SX w (key, seg, at_, sq) (.slice A2 F.length c2) F w')) (first | exact ⟨HCC.out.1, k0, HSD.out⟩) (fail)
            have HS2 := (‹_ ∧ _ ∧ Hid (SX w (key, seg, at_, sq) (.slice A2 F.length c2) F _)›).2.2
            cases lt
            · have HF2 := Lib.hid (HFN.out rfl)
              clear HFY HFN
              go_wp2
              go_roundw
              case rel => first | exact ⟨i + 1, by omega, by go_num, by rw [HF2.out]; exact HS2⟩ | (repeat (first | (refine ⟨?relx, rfl⟩; exact ⟨i + 1, by omega, by go_num, by rw [HF2.out]; exact HS2⟩) | (refine ⟨?relx, ?eqs⟩; (case eqs => (and_intros <;> rfl)); exact ⟨i + 1, by omega, by go_num, by rw [HF2.out]; exact HS2⟩) | apply Exists.intro))
              case measure => simp [intOf]; omega
            · have HF2 := Lib.hid (HFY.out rfl)
              clear HFY HFN
              have HC4 : Hid (wr.drew.cell? (ad.add (i * 4)) = some (.string yk) ∧ wr.drew.cell? ⟨(ad.add (i * 4)).block, (ad.add (i * 4)).off + 1, none⟩ = some (.int .i64 ys) ∧ wr.drew.cell? ⟨(ad.add (i * 4)).block, (ad.add (i * 4)).off + 2, none⟩ = some (.int .i64 ya) ∧ wr.drew.cell? ⟨(ad.add (i * 4)).block, (ad.add (i * 4)).off + 3, none⟩ = some (.int .i64 yq)) := HCC.out
              clear hc0 hc1 hc2 hc3 k0 HCC HSD
              have HSW := HS2
              have hfl := HFL.out
              generalize wr.drew = wd at HS2 HSW HC4 ⊢
              obtain ⟨hc0, hc1, hc2, hc3⟩ := HC4.out
              have HAL9 : Hid (Below wd.heap.size wd (wd.alloc (.cells #[.string yk, .int .i64 ys, .int .i64 ya, .int .i64 yq] 56))) := (Below.refl _ _).alloc (Nat.le_refl _) _
              have HS9 := Lib.hid (HSW.out.go HAL9.out)
              have HOWN := Lib.hid HS9.out.own
              have HBASE := Lib.hid HS9.out.size
              have HNEWS : Hid (∀ j u, (spVals (yk, ys, ya, yq))[j]? = some u → (wd.alloc (.cells #[.string yk, .int .i64 ys, .int .i64 ya, .int .i64 yq] 56)).cell? ((⟨wd.heap.size, 0, none⟩ : Addr).add j) = some u) := World.news_of_block (heap_alloc_new wd _)
              go_wp2_with (at_builtin; refine wpList_append_lies _ rfl _ _ _ rfl (w.heap.size + 1) 56 i0 (.agg #[.string ⟨#[]⟩, .int .i64 0, .int .i64 0, .int .i64 0]) 4 40 Tryz.underlying33 hi0 hz hsz hby rfl (by omega) (.slice A2 F.length c2) F.length (spFlat F) rfl HOWN.out ⟨wd.heap.size, 0, none⟩ 1 1 (spVals (yk, ys, ya, yq)) rfl rfl HNEWS.out (by simp [Value.oneCell', spVals]) (by omega) (by unfold maxLen; omega) (by omega) HBASE.out _ rfl ?_; intro gg cap w7 hown hgrow hat hlt2)
              have HPU : Hid (SpOwn w7 (w.heap.size + 1) (.slice (some ⟨gg, 0, none⟩) (F.length + 1) cap) (F ++ [(yk, ys, ya, yq)])) := by
                rw [Hid, SpOwn, spFlat_snoc, List.length_append]
                exact hown
              have HS7 := Lib.hid (HS9.out.put hgrow HPU.out)
              clear hown hgrow hat
              go_wp2
              go_roundw
              case rel => first | exact ⟨i + 1, by omega, by go_num, by rw [HF2.out]; exact HS7⟩ | (repeat (first | (refine ⟨?relx, rfl⟩; exact ⟨i + 1, by omega, by go_num, by rw [HF2.out]; exact HS7⟩) | (refine ⟨?relx, ?eqs⟩; (case eqs => (and_intros <;> rfl)); exact ⟨i + 1, by omega, by go_num, by rw [HF2.out]; exact HS7⟩) | apply Exists.intro))
              case measure => simp [intOf]; omega
          · obtain rfl : i = ds.length := by omega
            rw [List.take_length] at HS
            go_wp2
            go_ret
            exact ⟨_, rfl, by rw [HSB.out]; exact HS.out.own.mono (Nat.le_succ _), HS.out.from_⟩
end Go.Proofs.YtaacpdejpcbbbaaGreatDoor

namespace Go.Proofs.YtaacpdejpcbbbaaGreatDoor
set_option linter.unusedVariables false
set_option linter.unusedSimpArgs false
open Go.RowKit

def dirCh (n a q : Int) (out : List SpotD) (c : ChD) : List SpotD := setB out (c.1, n, a, q) c.2.2
def dirPl (n : Int) (out : List SpotD) (p : PlD) : List SpotD := p.1.2.foldl (dirCh n (p.2.1 : Int) p.1.1) out
def dirSeg (fs : List FiD) (out : List SpotD) (n : Nat) : List SpotD := (batsAt fs n).foldl (dirPl (n : Int)) out
def dirB (fs : List FiD) : List SpotD := (segsB fs).foldl (dirSeg fs) []
/-- Texts of a list of spots are small. -/
def SpSmall (ds : List SpotD) : Prop := ∀ x ∈ ds, x.1.size ≤ 9223372036854775807
theorem setB_small {ds : List SpotD} {x : SpotD} {g : Bool} (h : SpSmall ds) (hx : x.1.size ≤ 9223372036854775807) : SpSmall (setB ds x g) := fun y hy => by
  rcases setB_mem hy with hy | rfl
  · exact h y hy
  · exact hx
theorem foldl_snoc {α β : Type} (f : β → α → β) (b : β) (l : List α) {i : Nat} {x : α} (h : l[i]? = some x) : (l.take (i + 1)).foldl f b = f ((l.take i).foldl f b) x := by
  rw [take_snoc h, List.foldl_append]
  rfl
/-- Each batch of a segment has its text; its size is the frame's. -/
theorem placedGo_text : ∀ (rs : List ByteArray) (last : Option Int) (a : Nat), (∀ x ∈ rs, 1 ≤ x.size ∧ x.size ≤ 9000) → ∀ p ∈ placedGo last a rs, ∃ r, batText p.1 = some (ub r) ∧ (1 ≤ r.size ∧ r.size ≤ 9000) ∧ p.2.2 = frameLen r
  | [], last, a, _, p, hp => by simp [placedGo] at hp
  | r :: rs, last, a, h, p, hp => by
    have ih := fun b => placedGo_text rs (some b) (a + frameLen r) (fun x hx => h x (by simp [hx])) p
    have go : ∀ b : BatD, readBatS r = some b → p ∈ (b, a, frameLen r) :: placedGo (some b.1) (a + frameLen r) rs → ∃ r, batText p.1 = some (ub r) ∧ (1 ≤ r.size ∧ r.size ≤ 9000) ∧ p.2.2 = frameLen r := by
      intro b hb hp
      rcases List.mem_cons.1 hp with rfl | hp
      · exact ⟨r, readBatS_is hb, h r (by simp), rfl⟩
      · exact ih b.1 hp
    cases hb : readBatS r with
    | none => rw [placedGo_none hb] at hp; simp at hp
    | some b =>
      cases last with
      | none => rw [placedGo_first hb] at hp; exact go b hb hp
      | some q =>
        by_cases hq : b.1 ≤ q
        · rw [placedGo_low hb hq] at hp; simp at hp
        · rw [placedGo_next hb hq] at hp; exact go b hb hp
/-- Where the batch behind j of them begins. -/
def atOf (a : Nat) (pls : List PlD) (j : Nat) : Nat := a + ((pls.take j).map fun p => p.2.2).sum
theorem atOf_zero (a : Nat) (pls : List PlD) : atOf a pls 0 = a := by simp [atOf]
theorem atOf_step {a : Nat} {pls : List PlD} {j : Nat} {p : PlD} (h : pls[j]? = some p) : atOf a pls (j + 1) = atOf a pls j + p.2.2 := by
  unfold atOf
  rw [take_snoc h, List.map_append, List.sum_append]
  simp
  omega
theorem placedGo_at : ∀ (rs : List ByteArray) (last : Option Int) (a j : Nat) (p : PlD), (placedGo last a rs)[j]? = some p → p.2.1 = atOf a (placedGo last a rs) j
  | [], last, a, j, p, h => by simp [placedGo] at h
  | r :: rs, last, a, j, p, h => by
    have go : ∀ b : BatD, ((b, a, frameLen r) :: placedGo (some b.1) (a + frameLen r) rs)[j]? = some p → p.2.1 = atOf a ((b, a, frameLen r) :: placedGo (some b.1) (a + frameLen r) rs) j := by
      intro b hp
      cases j with
      | zero =>
        obtain rfl : (b, a, frameLen r) = p := by simpa using hp
        rw [atOf_zero]
      | succ j =>
        have := placedGo_at rs (some b.1) (a + frameLen r) j p (by simpa using hp)
        rw [this]
        unfold atOf
        rw [List.take_succ_cons, List.map_cons, List.sum_cons]
        dsimp only
        omega
    cases hb : readBatS r with
    | none => rw [placedGo_none hb] at h; simp at h
    | some b =>
      cases last with
      | none => rw [placedGo_first hb] at h ⊢; exact go b h
      | some q =>
        by_cases hq : b.1 ≤ q
        · rw [placedGo_low hb hq] at h; simp at h
        · rw [placedGo_next hb hq] at h ⊢; exact go b h
theorem segPl_pls {n : Int} {s : ByteArray} {f l : Nat} {pls : List PlD} (h : segPl n s = some (f, l, pls)) : headText n (f : Int) ≠ none ∧ (∀ L, headText n (f : Int) = some L → l = L.length) ∧ (∀ p ∈ pls, ∃ r, batText p.1 = some (ub r) ∧ (1 ≤ r.size ∧ r.size ≤ 9000) ∧ p.2.2 = frameLen r) ∧ ∀ j p, pls[j]? = some p → p.2.1 = atOf l pls j := by
  have hh : headOfB n s = some (f, l) := by
    have := segPl_head n s
    rw [h] at this
    exact this.symm
  obtain ⟨r, rs, hu, hl, hs⟩ := segPl_some hh
  rw [h] at hs
  simp only [Option.some.injEq, Prod.mk.injEq, true_and] at hs
  obtain ⟨_, _, hsm⟩ := unframeB_le s
  rw [hu] at hsm
  rw [headOf_cons hu] at hh
  cases hd : hdI n r with
  | none => rw [hd] at hh; cases hh
  | some f' =>
    rw [hd] at hh
    simp only [Option.some.injEq, Prod.mk.injEq] at hh
    obtain ⟨rfl, _⟩ := hh
    have hfr := head_frame hd
    have hr := hsm r (by simp)
    refine ⟨?_, fun L hL => by rw [hl]; exact head_len hd hL, ?_, ?_⟩
    · rw [hfr, frameB_yes (by rw [ub_length]; exact hr)]
      simp
    · rw [hs]; exact placedGo_text rs none l fun x hx => hsm x (by simp [hx])
    · rw [hs]; exact fun j p hp => placedGo_at rs none l j p hp
end Go.Proofs.YtaacpdejpcbbbaaGreatDoor
