/- The reader's each, at the closure of ReadVal: one text more behind the value's items, in whatever memory. -/
import Derived.Test.YtekhfplbhcfdmaaReadL
import Derived.Test.YtekhfplbhcfdmaaVal2
import Derived.Test.YtekhfplbhcfdmaaOwn
import Derived.Deep.AppendLies
import Derived.Deep.RegionLaw
namespace Go.Proofs.Ytekhfplbhcfdmaa
set_option linter.unusedVariables false
set_option linter.unusedSimpArgs false
open Go.RowKit
attribute [local go_sem] bs_size List.length_cons List.length_nil List.length_append

theorem below_grown {B : Nat} {a w w' : World} {row : Option Nat} (h : Below B a w) (hg : w.grownBy w' row) (hB : B ≤ w.heap.size) (hr : ∀ k, row = some k → B ≤ k) : Below B a w' :=
  h.trans ⟨hg.os, hg.tape, hg.output, hg.size, fun i hi => hg.block i (Nat.lt_of_lt_of_le hi hB) (fun e => by have := hr i e.symm; omega)⟩
/-- The one-cell block of a pointer variable. -/
def PtrAt (w : World) (gp : Nat) (ty : TypeId) (gr : Nat) : Prop := w.heap[gp]? = some (.cells #[.pointer (some ⟨gr, 0, none⟩)] ty (0, 0))
/-- A value under way, in a block: its items are a row of the call's own. -/
structure VSt (B gp gv gr : Nat) (s : ByteArray) (k u : Int) (t : ByteArray) (xs : List ByteArray) (v : Value) (a : Nat) (bad : Bool) (w0 w : World) : Prop where
  bel : Below B w0 w
  hp : PtrAt w gp 68 gr
  hv : w.heap[gv]? = some (.cells #[.int .i64 k, .int .i64 u, .string t, v] 39 (0, 0))
  rd : RdAt 70 w gr s a bad
  own : w.ownsRow B 9 1 v xs.length (xs.map Value.string)
  ne : v.ownBlock ≠ some gp ∧ v.ownBlock ≠ some gv ∧ v.ownBlock ≠ some gr
  far : B ≤ gp ∧ B ≤ gv ∧ B ≤ gr ∧ gp ≠ gv ∧ gp ≠ gr ∧ gv ≠ gr
theorem VSt.cp {B gp gv gr : Nat} {s : ByteArray} {k u : Int} {t : ByteArray} {xs : List ByteArray} {v : Value} {a : Nat} {bad : Bool} {w0 w : World} (h : VSt B gp gv gr s k u t xs v a bad w0 w) : w.cell? ⟨gp, 0, none⟩ = some (.pointer (some ⟨gr, 0, none⟩)) := by
  rw [cell_of_row w gp 0 _ _ (0, 0) h.hp]; rfl
theorem VSt.c3 {B gp gv gr : Nat} {s : ByteArray} {k u : Int} {t : ByteArray} {xs : List ByteArray} {v : Value} {a : Nat} {bad : Bool} {w0 w : World} (h : VSt B gp gv gr s k u t xs v a bad w0 w) : w.cell? ⟨gv, 3, none⟩ = some v := by
  rw [cell_of_row w gv 3 _ _ (0, 0) h.hv]; rfl
theorem vst_c3 {B gp gv gr : Nat} {s : ByteArray} {k u : Int} {t : ByteArray} {xs : List ByteArray} {v : Value} {a : Nat} {bad : Bool} {w0 w w' : World} (h : VSt B gp gv gr s k u t xs v a bad w0 w) (hg : w.grownBy w' (some gr)) : w'.cell? ⟨gv, 3, none⟩ = some v :=
  hg.cell h.c3 (by have := h.far; simp; omega)
theorem vst_base {B : Nat} {w w' : World} {row : Option Nat} (h : B ≤ w.heap.size) (hg : w.grownBy w' row) (o : Obj) : B ≤ (w'.alloc o).heap.size := by
  have := hg.size
  simp
  omega
theorem vst_own {B gp gv gr : Nat} {s : ByteArray} {k u : Int} {t : ByteArray} {xs : List ByteArray} {v : Value} {a : Nat} {bad : Bool} {w0 w w' : World} (h : VSt B gp gv gr s k u t xs v a bad w0 w) (hg : w.grownBy w' (some gr)) (o : Obj) : (w'.alloc o).ownsRow B 9 1 v xs.length (xs.map Value.string) :=
  (h.own.kept hg (.inr h.ne.2.2)).alloc o
theorem frozen_blk {w : World} {g : Nat} {cs : Array Value} {ty : TypeId} (h : w.heap[g]? = some (.cells cs ty (0, 0))) (j : Nat) : w.frozen? ⟨g, j, none⟩ = false := by
  simp [World.frozen?, h]
theorem vst_hv {B gp gv gr : Nat} {s : ByteArray} {k u : Int} {t : ByteArray} {xs : List ByteArray} {v : Value} {a : Nat} {bad : Bool} {w0 w w' w2 : World} {o : Obj} (h : VSt B gp gv gr s k u t xs v a bad w0 w) (hg : w.grownBy w' (some gr)) (hg2 : (w'.alloc o).grownBy w2 v.ownBlock) :
    w2.heap[gv]? = some (.cells #[.int .i64 k, .int .i64 u, .string t, v] 39 (0, 0)) ∧ PtrAt w2 gp 68 gr := by
  have hf := h.far
  have l1 : gv < w.heap.size := (Array.getElem?_eq_some_iff.1 h.hv).1
  have l2 : gp < w.heap.size := (Array.getElem?_eq_some_iff.1 h.hp).1
  have hs := hg.size
  refine ⟨?_, ?_⟩
  · rw [hg2.block gv (by simp; omega) (fun e => h.ne.2.1 e.symm), heap_alloc_old w' o (by omega), hg.block gv l1 (by simp; omega)]
    exact h.hv
  · unfold PtrAt
    rw [hg2.block gp (by simp; omega) (fun e => h.ne.1 e.symm), heap_alloc_old w' o (by omega), hg.block gp l2 (by simp; omega)]
    exact h.hp
theorem vst_cell {B gp gv gr : Nat} {s : ByteArray} {k u : Int} {t : ByteArray} {xs : List ByteArray} {v : Value} {a : Nat} {bad : Bool} {w0 w w' w2 : World} {o : Obj} (h : VSt B gp gv gr s k u t xs v a bad w0 w) (hg : w.grownBy w' (some gr)) (hg2 : (w'.alloc o).grownBy w2 v.ownBlock) : w2.cell? ⟨gv, 3, none⟩ = some v := by
  rw [cell_of_row w2 gv 3 _ _ (0, 0) (vst_hv h hg hg2).1]; rfl
theorem vst_frozen {B gp gv gr : Nat} {s : ByteArray} {k u : Int} {t : ByteArray} {xs : List ByteArray} {v : Value} {a : Nat} {bad : Bool} {w0 w w' w2 : World} {o : Obj} (h : VSt B gp gv gr s k u t xs v a bad w0 w) (hg : w.grownBy w' (some gr)) (hg2 : (w'.alloc o).grownBy w2 v.ownBlock) : w2.frozen? ⟨gv, 3, none⟩ = false :=
  frozen_blk (vst_hv h hg hg2).1 3
theorem heap_set_ne (w : World) (g j i : Nat) (v : Value) (h : i ≠ g) : (w.setCell ⟨g, j, none⟩ v).heap[i]? = w.heap[i]? := Below.heap_setCell w ⟨g, j, none⟩ v i h
theorem VSt.pushed {B gp gv gr : Nat} {s : ByteArray} {k u : Int} {t : ByteArray} {xs : List ByteArray} {v : Value} {a a' : Nat} {bad bad' : Bool} {w0 w w' w2 : World} {o : Obj} {g cap : Nat} {x : ByteArray} (h : VSt B gp gv gr s k u t xs v a bad w0 w) (hrd : RdAt 70 w' gr s a' bad') (hg : w.grownBy w' (some gr))
    (hown : w2.ownsRow B 9 1 (.slice (some ⟨g, 0, none⟩) (xs.length + 1) cap) (xs.length + 1) (xs.map Value.string ++ [.string x])) (hgrow : (w'.alloc o).grownBy w2 v.ownBlock) (hat : v.ownBlock = some g ∨ g = (w'.alloc o).heap.size) :
    VSt B gp gv gr s k u t (xs ++ [x]) (.slice (some ⟨g, 0, none⟩) (xs.length + 1) cap) a' bad' w0 (w2.setCell ⟨gv, 3, none⟩ (.slice (some ⟨g, 0, none⟩) (xs.length + 1) cap)) := by
  have hf := h.far
  have l1 : gv < w.heap.size := (Array.getElem?_eq_some_iff.1 h.hv).1
  have l2 : gp < w.heap.size := (Array.getElem?_eq_some_iff.1 h.hp).1
  have l3 := h.rd.lt
  have hs := hg.size
  have hsa : (w'.alloc o).heap.size = w'.heap.size + 1 := by simp
  have hs2 := hgrow.size
  obtain ⟨hv2, hp2⟩ := vst_hv h hg hgrow
  have hne : g ≠ gp ∧ g ≠ gv ∧ g ≠ gr := by
    rcases hat with hat | hat
    · have := h.ne
      rw [hat] at this
      simp at this
      exact ⟨this.1, this.2.1, this.2.2⟩
    · omega
  have hset : w2.grownBy (w2.setCell ⟨gv, 3, none⟩ (.slice (some ⟨g, 0, none⟩) (xs.length + 1) cap)) (some gv) := grown_set (World.grownBy.refl w2 _) 3 _
  have hrd2 : RdAt 70 w2 gr s a' bad' := by
    unfold RdAt at hrd ⊢
    rw [hgrow.block gr (by omega) (fun e => h.ne.2.2 e.symm), heap_alloc_old w' o (by omega)]
    exact hrd
  refine ⟨?_, ?_, ?_, ?_, ?_, ?_, hf⟩
  · refine below_grown (below_grown ((below_grown h.bel hg (by omega) (fun k e => by cases e; omega)).alloc (by omega) o) hgrow (by omega) (fun k e => (h.own.lt k e).1)) hset (by omega) (fun k e => by cases e; omega)
  · exact (heap_set_ne w2 gv 3 gp _ (by omega)).trans hp2
  · rw [blk_set hv2]; rfl
  · exact (heap_set_ne w2 gv 3 gr _ (by omega)).trans hrd2
  · have h1 := hown.kept hset (.inr (by simp [Value.ownBlock]; omega))
    rw [List.map_append, List.length_append]
    exact h1
  · simp only [Value.ownBlock, ne_eq, Option.some.injEq]
    exact hne
set_option maxRecDepth 100000 in
theorem impl_ReadVal1_calls (B gp gv gr : Nat) (s : ByteArray) (k u : Int) (t : ByteArray) (xs : List ByteArray) (v : Value) (a : Nat) (bad : Bool) (w0 w : World) (h : VSt B gp gv gr s k u t xs v a bad w0 w) (ha : a ≤ s.size) (hs : s.size ≤ 1099511627776) (hn : xs.length ≤ 1099511627776) :
    Calls Try.prog 66 #[.pointer (some ⟨gv, 0, none⟩), .pointer (some ⟨gp, 0, none⟩)] w fun e w' => e = .returned (.tuple #[]) ∧ ∃ v', VSt B gp gv gr s k u t (xs ++ [bs (rText s a bad).1]) v' (rText s a bad).2.1 (rText s a bad).2.2 w0 w' := by
  obtain ⟨i0, hi, hz, hsz, hby⟩ := info_parts info_str
  have HR := Lib.hid h
  have HRD : Hid (RdAt 70 w.drew gr s a bad) := h.rd
  have cp := h.cp
  have c3 := h.c3
  have hbase : B ≤ w.heap.size := Nat.le_trans h.far.1 (Nat.le_of_lt (Array.getElem?_eq_some_iff.1 h.hp).1)
  clear h
  go_enter Try.func66, Try.ntmps66
  go_wp2
  go_region_law (first | ((refine step_append_lies _ (by rfl) (.tmp 3) (.tmp 6) 37 (by rfl) B 9 i0 (.string ByteArray.empty) 1 16 Try.underlying37 hi hz hsz hby rfl (by omega) v xs.length (xs.map Value.string) (by simp [Act.eval, Act.put]) HOWN.out _ 1 1 [.string (bs (rText s a bad).1)] (by simp [Act.eval, Act.put]) rfl HNEWS.out (by simp [Value.oneCell']) (by omega) (by unfold maxLen; omega) (by omega) HBASE.out _ rfl ?_); intro g cap w2 hown hgrow hat hlt; have HOWN2 := Lib.hid hown; have HGROW := Lib.hid hgrow; have HAT := Lib.hid hat; have HLT := Lib.hid hlt; clear hown hgrow hat hlt; have f2 := vst_frozen HR.out HG.out HGROW.out; have c4 := vst_cell HR.out HG.out HGROW.out) | (go_simp; go_at_call 50; refine (impl_text_calls gr s a bad _ HRD.out ha (by omega)).mono ?_; rintro e w' ⟨rfl, hrd, hg⟩; have HRD2 := Lib.hid hrd; have HG : Hid (w.grownBy w' (some gr)) := ⟨hg.os, hg.tape, hg.output, hg.size, hg.block⟩; clear hrd hg; have c3' := vst_c3 HR.out HG.out; have c3a := cell_new c3' (.cells #[.string (bs (rText s a bad).1)] 9); have HBASE : Hid (B ≤ (w'.alloc (.cells #[.string (bs (rText s a bad).1)] 9)).heap.size) := vst_base hbase HG.out _; have HOWN : Hid ((w'.alloc (.cells #[.string (bs (rText s a bad).1)] 9)).ownsRow B 9 1 v xs.length (xs.map Value.string)) := vst_own HR.out HG.out _; have HNEWS : Hid (∀ j u, [Value.string (bs (rText s a bad).1)][j]? = some u → (w'.alloc (.cells #[.string (bs (rText s a bad).1)] 9)).cell? ((⟨w'.heap.size, 0, none⟩ : Addr).add j) = some u) := World.news_of_block (heap_alloc_new w' _)))
  all_goals
    go_end0
    exact ⟨rfl, _, HR.out.pushed HRD2.out HG.out HOWN2.out HGROW.out HAT.out⟩
theorem VSt.read {B gp gv gr : Nat} {s : ByteArray} {k u : Int} {t : ByteArray} {xs : List ByteArray} {v : Value} {a a' : Nat} {bad bad' : Bool} {w0 w w' : World} (h : VSt B gp gv gr s k u t xs v a bad w0 w) (hr : RdAt 70 w' gr s a' bad') (hg : w.grownBy w' (some gr)) : VSt B gp gv gr s k u t xs v a' bad' w0 w' := by
  have hf := h.far
  have l1 : gv < w.heap.size := (Array.getElem?_eq_some_iff.1 h.hv).1
  have l2 : gp < w.heap.size := (Array.getElem?_eq_some_iff.1 h.hp).1
  refine ⟨below_grown h.bel hg (by omega) (fun k e => by cases e; exact hf.2.2.1), ?_, ?_, hr, h.own.kept hg (.inr h.ne.2.2), h.ne, hf⟩
  · exact (hg.block gp l2 (by simp; omega)).trans h.hp
  · exact (hg.block gv l1 (by simp; omega)).trans h.hv
set_option maxRecDepth 100000 in
theorem impl_each_ReadVal_calls (B gp gv gr : Nat) (s : ByteArray) (k u : Int) (t : ByteArray) (v : Value) (a : Nat) (bad : Bool) (w0 w : World) (h : VSt B gp gv gr s k u t [] v a bad w0 w) (ha : a ≤ s.size) (hs : s.size ≤ 1099511627776) :
    Calls Try.prog 48 #[.pointer (some ⟨gr, 0, none⟩), .func (.func 66) #[] #[.pointer (some ⟨gv, 0, none⟩), .pointer (some ⟨gp, 0, none⟩)]] w fun e w' => e = .returned (.tuple #[]) ∧
      ∃ v', VSt B gp gv gr s k u t (itemsBy (itI s) (rNum s a bad).1 (rNum s a bad).2.1 (rNum s a bad).2.2).1 v' (itemsBy (itI s) (rNum s a bad).1 (rNum s a bad).2.1 (rNum s a bad).2.2).2.1 (itemsBy (itI s) (rNum s a bad).1 (rNum s a bad).2.1 (rNum s a bad).2.2).2.2 w0 w' := by
  obtain ⟨hn, ha1, _⟩ := rNum_le s a bad ha
  have HR := Lib.hid h
  have HW := Lib.hid (Reads.start (itI s) (rNum s a bad).1 (rNum s a bad).2.1 (rNum s a bad).2.2)
  generalize hW : itemsBy (itI s) (rNum s a bad).1 (rNum s a bad).2.1 (rNum s a bad).2.2 = W at HW ⊢
  clear h hW
  go_enter Try.func48, Try.ntmps48
  go_wp2_with fail
  go_at_call 51
  refine (impl_num_calls gr s a bad _ HR.out.rd ha (by omega)).mono ?_
  rintro e w1 ⟨rfl, hr, hg⟩
  have HV := Lib.hid (HR.out.read hr hg)
  clear hr hg
  generalize rNum s a bad = r at HW HV hn ha1 ⊢
  go_wp2
  go_loopw [5] (fun iv wr => ∃ (i : Nat) (acc : List ByteArray) (v : Value) (a : Nat) (bad : Bool), i ≤ r.1 ∧ iv = .int .i64 (i : Int) ∧ acc.length = i ∧ a ≤ s.size ∧ Reads (itI s) r.1 W i acc a bad ∧ VSt B gp gv gr s k u t acc v a bad w0 wr) (fun iv _ => r.1 - (intOf iv).toNat)
  case atStart => exact ⟨0, [], v, r.2.1, r.2.2, Nat.zero_le _, rfl, rfl, ha1, HW.out, HV.out⟩
  case round =>
    obtain ⟨i, acc, v, a, bad, hi, rfl, hacc, ha, hrd, hst⟩ := hrel
    have HQ := Lib.hid hrd
    have HS := Lib.hid hst
    have c2 := hst.rd.c2
    clear hrd hst
    by_cases hlt : i < r.1
    · cases bad
      · go_wp2_with fail
        go_at_call 66
        refine (impl_ReadVal1_calls B gp gv gr s k u t acc v a false w0 _ HS.out ha hs (by omega)).mono ?_
        rintro e w' ⟨rfl, v', hv⟩
        have HV2 := Lib.hid hv
        clear hv
        go_wp2
        go_roundw
        case rel => first | exact ⟨i + 1, acc ++ [bs (rText s a false).1], v', (rText s a false).2.1, (rText s a false).2.2, by omega, by go_num, by simp; omega, (rText_le s false ha).1, HQ.out.step hlt, HV2.out⟩ | (repeat (first | (refine ⟨?relx, rfl⟩; exact ⟨i + 1, acc ++ [bs (rText s a false).1], v', (rText s a false).2.1, (rText s a false).2.2, by omega, by go_num, by simp; omega, (rText_le s false ha).1, HQ.out.step hlt, HV2.out⟩) | (refine ⟨?relx, ?eqs⟩; (case eqs => (and_intros <;> rfl)); exact ⟨i + 1, acc ++ [bs (rText s a false).1], v', (rText s a false).2.1, (rText s a false).2.2, by omega, by go_num, by simp; omega, (rText_le s false ha).1, HQ.out.step hlt, HV2.out⟩) | apply Exists.intro))
        case measure => simp [intOf]; omega
      · go_wp2
        go_end0
        obtain rfl := HQ.out.stop (by simp)
        exact ⟨rfl, v, HS.out⟩
    · obtain rfl : i = r.1 := by omega
      go_wp2
      go_end0
      obtain rfl := HQ.out.stop (by simp)
      exact ⟨rfl, v, HS.out⟩
end Go.Proofs.Ytekhfplbhcfdmaa
