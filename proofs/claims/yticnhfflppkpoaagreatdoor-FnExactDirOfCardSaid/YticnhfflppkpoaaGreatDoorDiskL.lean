/- The laws' helpers on disks and spots: sz, to, eq. -/
import Derived.Test.YticnhfflppkpoaaGreatDoorSegsL
import Derived.Deep.RegionHeld3
namespace Go.Proofs.YticnhfflppkpoaaGreatDoor
set_option linter.unusedVariables false
set_option linter.unusedSimpArgs false
open Go.RowKit
attribute [local go_sem] bs_size List.length_cons List.length_nil List.length_append

def SzLe (left m : Int) (e : Ending) : Prop := ∃ r : Int, e = .returned (.int .i64 r) ∧ (r < 0 ∨ (0 ≤ r ∧ r ≤ left ∧ m ≤ left))
theorem szLe_neg (left m r : Int) (h : r < 0) : SzLe left m (.returned (.int .i64 r)) := ⟨r, rfl, .inl h⟩
/-- One struct held in a result's block. -/
theorem res_one {fn : Func} {p : Tmp} {ty : TypeId} {W : World} {g : Nat} {cs : Array Value} {tmps : Array Value} {post : Ending → World → Prop} {fx : Array Field} (hf : fn.results = #[.cell p ty]) (hg : W.heap[g]? = some (.cells cs ty (0, 0))) (hp : tmps.getD p undef = .pointer (some ⟨g, 0, none⟩))
    (hu : Tryz.prog.underlying ty = some (.struct fx)) (hi : (Tryz.prog.info? ty).map (·.size) = some cs.size) (hpost : post (.returned (.agg cs)) W) : bodyPost Tryz.prog fn post .ret ⟨tmps, []⟩ W := by
  have hp' : tmps[p]?.getD undef = .pointer (some ⟨g, 0, none⟩) := by simpa using hp
  have hr : (results fn tmps).run Tryz.prog W = .ok (.agg cs) W := by
    simp only [results, hf]
    simp [Sem.run_bind, hp', asAddr, Result.andThen, run_loadVar_row W g ty ty cs (0, 0) (.struct fx) hg hu rfl hi]
  exact bodyPost_ret hr rfl hpost
theorem set_far {w : World} {g g' i : Nat} {u : Value} {o : Obj} (h : w.heap[g]? = some o) (hne : g ≠ g') : (w.setCell ⟨g', i, none⟩ u).heap[g]? = some o := (Below.heap_setCell w ⟨g', i, none⟩ u g (fun e => hne e)).trans h
theorem alloc_far {w : World} {g : Nat} {o : Obj} (h : w.heap[g]? = some o) (o' : Obj) : (w.alloc o').heap[g]? = some o := blk_below h ((Below.refl _ _).alloc (Nat.le_refl _) o')
theorem laws_szFile_calls (n t : ByteArray) (k left : Int) (w : World) (h0 : 0 ≤ left) (h1 : left ≤ 1048576) (hn : n.size ≤ 9223372036854775807) (ht : t.size ≤ 9223372036854775807) :
    Calls Tryz.prog 36 #[.agg #[.string n, .string t, .int .i64 k], .int .i64 left] w fun e w' => SzLe left 0 e ∧ Below w.heap.size w w' := by
  have HAL : Hid (Below w.heap.size w (w.alloc (.cells #[.string n, .string t, .int .i64 k] 77))) := (Below.refl _ _).alloc (Nat.le_refl _) _
  by_cases c1 : left - (n.size : Int) < 0
  · go_enter Tryz.func36, Tryz.ntmps36
    go_wp2
    go_ret
    exact ⟨szLe_neg _ _ _ (by omega), HAL.out⟩
  · by_cases c2 : left - (n.size : Int) - (t.size : Int) < 0
    · go_enter Tryz.func36, Tryz.ntmps36
      go_wp2
      go_ret
      exact ⟨szLe_neg _ _ _ (by omega), HAL.out⟩
    · go_enter Tryz.func36, Tryz.ntmps36
      go_wp2
      go_ret
      exact ⟨⟨_, rfl, .inr ⟨by omega, by omega, h0⟩⟩, HAL.out⟩
set_option maxRecDepth 100000 in
theorem laws_szFileS_calls (A : Option Addr) (c : Nat) (fs : List FiD) (left : Int) (w : World) (h : FiRow w A c fs) (h0 : 0 ≤ left) (h1 : left ≤ 1048576) :
    Calls Tryz.prog 16 #[.slice A fs.length c, .int .i64 left] w fun e w' => SzLe left fs.length e ∧ Below w.heap.size w w' := by
  have hl := h.len
  have HR := Lib.hid h
  clear h
  by_cases hn : left - (fs.length : Int) < 0
  · go_enter Tryz.func16, Tryz.ntmps16
    go_wp2
    go_ret
    exact ⟨szLe_neg _ _ _ (by omega), Below.refl _ _⟩
  · have HLE : Hid ((fs.length : Int) ≤ left) := by rw [Hid]; omega
    go_enter Tryz.func16, Tryz.ntmps16
    go_wp2
    go_loopw [1, 5] (fun v i wr => ∃ (k : Nat) (r : Int), k ≤ fs.length ∧ i = .int .i64 k ∧ v = .int .i64 r ∧ 0 ≤ r ∧ r ≤ left ∧ Hid (Below w.heap.size w wr)) (fun _ i _ => fs.length - (intOf i).toNat)
    case atStart => exact ⟨0, _, Nat.zero_le _, rfl, rfl, by omega, by omega, Below.refl _ _⟩
    case round =>
      obtain ⟨k, r, hk, rfl, rfl, hr0, hr1, HB⟩ := hrel
      by_cases hlt : k < fs.length
      · obtain ⟨ad, x, hA, HX, hz1, hz2, hc0, hc1, hc2⟩ := (HR.out.below HB.out).at_ hlt
        cases hA
        obtain ⟨n, t, g⟩ := x
        dsimp only at hz1 hz2 hc0 hc1 hc2
        go_wp2_with fail
        go_at_call 36
        refine (laws_szFile_calls n t g r _ hr0 (by omega) hz1 hz2).mono ?_
        rintro e w1 ⟨⟨y, rfl, hy⟩, hb⟩
        have HB1 := Lib.hid (HB.out.trans (hb.mono HB.out.size))
        clear hb
        rcases hy with hy | ⟨hy0, hy1, _⟩
        · go_wp2
          go_ret
          exact ⟨szLe_neg _ _ _ (by omega), HB1.out⟩
        · go_wp2
          go_roundw
          case rel => first | exact ⟨k + 1, y, by omega, by go_num, rfl, by omega, by omega, HB1⟩ | (repeat (first | (refine ⟨?relx, rfl⟩; exact ⟨k + 1, y, by omega, by go_num, rfl, by omega, by omega, HB1⟩) | (refine ⟨?relx, ?eqs⟩; (case eqs => (and_intros <;> rfl)); exact ⟨k + 1, y, by omega, by go_num, rfl, by omega, by omega, HB1⟩) | apply Exists.intro))
          case measure => simp [intOf]; omega
      · obtain rfl : k = fs.length := by omega
        go_wp2
        go_ret
        exact ⟨⟨r, rfl, .inr ⟨hr0, hr1, HLE.out⟩⟩, HB.out⟩
theorem laws_szDisk_calls (A : Option Addr) (c : Nat) (fs : List FiD) (left : Int) (w : World) (h : FiRow w A c fs) (h0 : 0 ≤ left) (h1 : left ≤ 1048576) :
    Calls Tryz.prog 5 #[.agg #[.slice A fs.length c], .int .i64 left] w fun e w' => SzLe left fs.length e ∧ Below w.heap.size w w' := by
  have HAL : Hid (Below w.heap.size w (w.alloc (.cells #[.slice A fs.length c] 24))) := (Below.refl _ _).alloc (Nat.le_refl _) _
  have HR := Lib.hid (h.below HAL.out)
  clear h
  go_enter Tryz.func5, Tryz.ntmps5
  go_wp2_with fail
  go_at_call 16
  refine (laws_szFileS_calls A c fs left _ HR.out h0 h1).mono ?_
  rintro e w1 ⟨⟨y, rfl, hy⟩, hb⟩
  have HB1 := Lib.hid (HAL.out.trans (hb.mono HAL.out.size))
  clear hb
  rcases hy with hy | hy
  · go_wp2
    go_ret
    exact ⟨szLe_neg _ _ _ (by omega), HB1.out⟩
  · have hy0 := hy.1
    go_wp2
    go_ret
    exact ⟨⟨y, rfl, .inr hy⟩, HB1.out⟩
theorem und_file : ∃ fs, Tryz.prog.underlying 79 = some (.struct fs) := ⟨_, Tryz.underlying79⟩
theorem info_file : (Tryz.prog.info? 79).map (·.size) = some 3 := by kernel_rfl
theorem laws_toFile_calls (n t : ByteArray) (k : Int) (w : World) :
    Calls Tryz.prog 39 #[.agg #[.string n, .string t, .int .i64 k]] w fun e w' => e = .returned (.agg #[.string n, .string t, .int .i64 k]) ∧ Below w.heap.size w w' := by
  obtain ⟨fsx, hu⟩ := und_file
  have s1 : (w.alloc (.cells #[.string n, .string t, .int .i64 k] 77)).heap.size = w.heap.size + 1 := by simp
  go_enter Tryz.func39, Tryz.ntmps39
  go_wp2
  have hg : (((w.alloc (.cells #[.string n, .string t, .int .i64 k] 77)).alloc (.cells #[.string n, .string t, .int .i64 k] 79)).alloc (.cells #[.string n, .string t, .int .i64 k] 79)).heap[w.heap.size + 1]? = some (.cells #[.string n, .string t, .int .i64 k] 79 (0, 0)) := by
    have := blk_new (w.alloc (.cells #[.string n, .string t, .int .i64 k] 77)) (.cells #[.string n, .string t, .int .i64 k] 79)
    rw [s1] at this
    exact alloc_far this _
  exact res_one rfl hg rfl hu info_file ⟨rfl, (((Below.refl _ _).alloc (Nat.le_refl _) _).alloc (by simp) _).alloc (by simp; omega) _⟩
/-- The files copied so far. -/
def ToF (fs : List FiD) (B : Nat) (w : World) (k : Nat) (wr : World) : Prop := Below B w wr ∧ ∃ cs : Array Value, wr.heap[B]? = some (.cells cs 79 (0, 0)) ∧ cs.size = fs.length * 3 ∧ ∀ j x, j < k → fs[j]? = some x → cs[j * 3]? = some (.string x.1) ∧ cs[j * 3 + 1]? = some (.string x.2.1) ∧ cs[j * 3 + 2]? = some (.int .i64 x.2.2)
theorem ToF.below {fs : List FiD} {B k : Nat} {w wr w' : World} (h : ToF fs B w k wr) (hB : B < wr.heap.size) (hBw : B ≤ wr.heap.size) (hb : Below wr.heap.size wr w') : ToF fs B w k w' := by
  obtain ⟨h1, cs, h2, h3⟩ := h
  exact ⟨h1.trans (hb.mono hBw), cs, blk_below h2 hb, h3⟩
theorem ToF.step {fs : List FiD} {B k : Nat} {w wr : World} {x : FiD} (h : ToF fs B w k wr) (hx : fs[k]? = some x) :
    ToF fs B w (k + 1) (((wr.setCell ⟨B, k * 3, none⟩ (.string x.1)).setCell ⟨B, k * 3 + 1, none⟩ (.string x.2.1)).setCell ⟨B, k * 3 + 2, none⟩ (.int .i64 x.2.2)) := by
  obtain ⟨h1, cs, h2, h3, h4⟩ := h
  have hk := (List.getElem?_eq_some_iff.1 hx).1
  refine ⟨((h1.setCell (Nat.le_refl _) _).setCell (Nat.le_refl _) _).setCell (Nat.le_refl _) _, _, blk_set (blk_set (blk_set h2 _ _) _ _) _ _, by simp [h3], fun j y hj hy => ?_⟩
  by_cases e : j = k
  · subst e
    rw [hx] at hy
    cases hy
    refine ⟨?_, ?_, ?_⟩ <;> simp [Array.getElem?_setIfInBounds] <;> omega
  · obtain ⟨a0, a1, a2⟩ := h4 j y (by omega) hy
    refine ⟨?_, ?_, ?_⟩
    · rw [Array.getElem?_setIfInBounds_ne (by omega), Array.getElem?_setIfInBounds_ne (by omega), Array.getElem?_setIfInBounds_ne (by omega), a0]
    · rw [Array.getElem?_setIfInBounds_ne (by omega), Array.getElem?_setIfInBounds_ne (by omega), Array.getElem?_setIfInBounds_ne (by omega), a1]
    · rw [Array.getElem?_setIfInBounds_ne (by omega), Array.getElem?_setIfInBounds_ne (by omega), Array.getElem?_setIfInBounds_ne (by omega), a2]
theorem ToF.row {fs : List FiD} {B : Nat} {w wr : World} (h : ToF fs B w fs.length wr) (hs : ∀ x ∈ fs, x.1.size ≤ 9223372036854775807 ∧ x.2.1.size ≤ 9223372036854775807) (hn : fs.length ≤ 1048576) : FiRow wr (some ⟨B, 0, none⟩) fs.length fs := by
  obtain ⟨h1, cs, h2, h3, h4⟩ := h
  refine ⟨Nat.le_refl _, by omega, hs, fun _ => ⟨_, rfl, blk_lt h2, fun j x hx => ?_⟩⟩
  obtain ⟨a0, a1, a2⟩ := h4 j x (List.getElem?_eq_some_iff.1 hx).1 hx
  rw [add_plain]
  exact ⟨(blk_cell h2 _).trans a0, (blk_cell h2 _).trans a1, (blk_cell h2 _).trans a2⟩
theorem ToF.cells {fs : List FiD} {B k : Nat} {w wr : World} (h : ToF fs B w k wr) {j : Nat} (hj : j < fs.length) : ∃ a0 a1 a2, wr.cell? ⟨B, j * 3, none⟩ = some a0 ∧ wr.cell? ⟨B, j * 3 + 1, none⟩ = some a1 ∧ wr.cell? ⟨B, j * 3 + 2, none⟩ = some a2 ∧ wr.frozen? ⟨B, j * 3, none⟩ = false ∧ wr.frozen? ⟨B, j * 3 + 1, none⟩ = false ∧ wr.frozen? ⟨B, j * 3 + 2, none⟩ = false := by
  obtain ⟨_, cs, h2, h3, _⟩ := h
  have g : ∀ i, i < cs.size → ∃ a, cs[i]? = some a := fun i hi => ⟨_, Array.getElem?_eq_getElem hi⟩
  obtain ⟨a0, h0⟩ := g (j * 3) (by omega)
  obtain ⟨a1, h1⟩ := g (j * 3 + 1) (by omega)
  obtain ⟨a2, h2'⟩ := g (j * 3 + 2) (by omega)
  exact ⟨a0, a1, a2, (blk_cell h2 _).trans h0, (blk_cell h2 _).trans h1, (blk_cell h2 _).trans h2', blk_frozen h2 _, blk_frozen h2 _, blk_frozen h2 _⟩
theorem ToF.lt {fs : List FiD} {B k : Nat} {w wr : World} (h : ToF fs B w k wr) : B < wr.heap.size := by
  obtain ⟨_, cs, h2, _⟩ := h
  exact blk_lt h2
def NewFs (w : World) (fs : List FiD) (e : Ending) (w' : World) : Prop := ∃ b, e = .returned (.slice (some ⟨b, 0, none⟩) fs.length fs.length) ∧ w.heap.size ≤ b ∧ FiRow w' (some ⟨b, 0, none⟩) fs.length fs ∧ Below w.heap.size w w'
theorem info_fil : (Tryz.prog.info? 79).map (fun i => (i.zero, i.size, i.bytes)) = some (some (.agg #[.string ⟨#[]⟩, .string ⟨#[]⟩, .int .i64 0]), 3, 40) := by kernel_rfl
set_option maxHeartbeats 1000000 in
set_option maxRecDepth 100000 in
theorem laws_toFileS_calls (A : Option Addr) (c : Nat) (fs : List FiD) (w : World) (h : FiRow w A c fs) (hn : fs.length ≤ 1048576) :
    Calls Tryz.prog 19 #[.slice A fs.length c] w (NewFs w fs) := by
  obtain ⟨i0, hi0, hz, hsz, hby⟩ := info_parts info_fil
  have HR := Lib.hid h
  clear h
  have km : ∀ W : World, (Instr.makeSlice 27 (.int .i64 (fs.length : Int)) (.int .i64 (fs.length : Int))).run Tryz.prog W = .ok (.slice (some ⟨W.heap.size, 0, none⟩) fs.length fs.length) (W.alloc (.cells (madeCells #[.string ⟨#[]⟩, .string ⟨#[]⟩, .int .i64 0] (fs.length * 3)) 79)) := fun W => by
    have := run_make (P := Tryz.prog) W 27 79 i0 _ Tryz.underlying27 hi0 hz .i64 .i64 fs.length fs.length (by omega) (Int.le_refl _) (by rw [hby]; omega) (by omega)
    rw [hsz] at this
    simp only [Int.toNat_natCast] at this
    exact this
  go_enter Tryz.func19, Tryz.ntmps19
  go_wp2
  go_loopw [4] (fun i wr => ∃ k : Nat, k ≤ fs.length ∧ i = .int .i64 k ∧ Hid (ToF fs w.heap.size w k wr)) (fun i _ => fs.length - (intOf i).toNat)
  case atStart => exact ⟨0, Nat.zero_le _, rfl, (Below.refl _ _).alloc (Nat.le_refl _) _, _, blk_new w _, size_madeCells _ _, fun j x hj => by omega⟩
  case round =>
    obtain ⟨k, hk, rfl, HT⟩ := hrel
    by_cases hlt : k < fs.length
    · obtain ⟨ad, x, hA, HX, hz1, hz2, hc0, hc1, hc2⟩ := (HR.out.below HT.out.1).at_ hlt
      cases hA
      obtain ⟨n, t, g⟩ := x
      dsimp only at hz1 hz2 hc0 hc1 hc2
      go_wp2_with fail
      go_at_call 39
      refine (laws_toFile_calls n t g _).mono ?_
      rintro e w1 ⟨rfl, hb⟩
      have HT1 := Lib.hid (HT.out.below HT.out.lt (Nat.le_of_lt HT.out.lt) hb)
      obtain ⟨a0, a1, a2, d0, d1, d2, f0, f1, f2⟩ := HT1.out.cells hlt
      have HT2 := Lib.hid (HT1.out.step HX.out)
      clear hb
      go_wp2
      go_roundw
      case rel => first | exact ⟨k + 1, by omega, by go_num, HT2⟩ | (repeat (first | (refine ⟨?relx, rfl⟩; exact ⟨k + 1, by omega, by go_num, HT2⟩) | (refine ⟨?relx, ?eqs⟩; (case eqs => (and_intros <;> rfl)); exact ⟨k + 1, by omega, by go_num, HT2⟩) | apply Exists.intro))
      case measure => simp [intOf]; omega
    · obtain rfl : k = fs.length := by omega
      have hrow := HT.out.row HR.out.2.2.1 hn
      have HROW := Lib.hid hrow
      clear hrow
      go_wp2
      go_ret
      exact ⟨_, rfl, Nat.le_refl _, HROW.out, HT.out.1⟩
end Go.Proofs.YticnhfflppkpoaaGreatDoor
