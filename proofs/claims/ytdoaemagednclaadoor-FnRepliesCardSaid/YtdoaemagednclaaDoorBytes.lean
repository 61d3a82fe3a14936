/- Rows of bytes of the call's own ('out := []byte(s)', 'out = append(out, ..)'): OwnB tells what such a row holds; a conversion's mark beyond the row's end does no harm. Laws for append of a row, of a text, of one byte; the conversion back to a text. -/
import Derived.Test.YtdoaemagednclaaDoorBase
import Derived.Lib.FrozenHead
import Derived.Lib.AppendStr
import Derived.Laws.CopyRow
namespace Go.Proofs.YtdoaemagednclaaDoor
set_option linter.unusedVariables false
set_option linter.unusedSimpArgs false
open Go.RowKit

def vB (l : List UInt8) : List Value := l.map fun b => Value.int .u8 b.toNat
theorem vB_length (l : List UInt8) : (vB l).length = l.length := by simp [vB]
theorem vB_append (a b : List UInt8) : vB (a ++ b) = vB a ++ vB b := by simp [vB]
theorem vB_one (l : List UInt8) : ∀ u ∈ vB l, u.oneCell' = true := by
  intro u hu
  obtain ⟨b, _, rfl⟩ := List.mem_map.1 hu
  rfl

/-- v is a row of bytes of the call's own (from block base on): it holds l. -/
def OwnB (w : World) (base : Nat) (v : Value) (l : List UInt8) : Prop :=
  (v = .slice none 0 0 ∧ l = []) ∨
  ∃ g cap cur fz, v = .slice (some ⟨g, 0, none⟩) l.length cap ∧ base ≤ g ∧ w.heap[g]? = some (.cells cur 5 fz) ∧ l.length ≤ cap ∧ cap ≤ maxLen ∧ cur.size = cap ∧ cur.toList.take l.length = vB l ∧ (fz.2 = 0 ∨ cap ≤ fz.1)
theorem OwnB.nil (w : World) (base : Nat) : OwnB w base (.slice none 0 0) [] := .inl ⟨rfl, rfl⟩
theorem OwnB.lt {w : World} {base : Nat} {v : Value} {l : List UInt8} (h : OwnB w base v l) : ∀ k, v.ownBlock = some k → base ≤ k ∧ k < w.heap.size := by
  intro k hk
  rcases h with ⟨rfl, _⟩ | ⟨g, cap, cur, fz, rfl, hb, hg, _⟩
  · simp [Value.ownBlock] at hk
  · simp [Value.ownBlock] at hk
    subst hk
    exact ⟨hb, (Array.getElem?_eq_some_iff.1 hg).1⟩
theorem OwnB.kept {w w' : World} {base : Nat} {v : Value} {l : List UInt8} {row : Option Nat} (h : OwnB w base v l) (hg : w.grownBy w' row) (hne : v.ownBlock = none ∨ v.ownBlock ≠ row) : OwnB w' base v l := by
  rcases h with hn | ⟨g, cap, cur, fz, rfl, hb, hgg, rest⟩
  · exact .inl hn
  · refine .inr ⟨g, cap, cur, fz, rfl, hb, ?_, rest⟩
    rw [hg.block g (Array.getElem?_eq_some_iff.1 hgg).1 (by simpa [Value.ownBlock] using hne)]
    exact hgg
theorem OwnB.below {w w' : World} {base : Nat} {v : Value} {l : List UInt8} (h : OwnB w base v l) (hb : Below w.heap.size w w') : OwnB w' base v l := by
  rcases h with hn | ⟨g, cap, cur, fz, rfl, hbg, hgg, rest⟩
  · exact .inl hn
  · exact .inr ⟨g, cap, cur, fz, rfl, hbg, (hb.block g (Array.getElem?_eq_some_iff.1 hgg).1).trans hgg, rest⟩
theorem OwnB.alloc {w : World} {base : Nat} {v : Value} {l : List UInt8} (h : OwnB w base v l) (o : Obj) : OwnB (w.alloc o) base v l := h.below ((Below.refl _ _).alloc (Nat.le_refl _) _)
theorem OwnB.drewN {w : World} {base : Nat} {v : Value} {l : List UInt8} (h : OwnB w base v l) (n : Nat) : OwnB (w.drewN n) base v l := h.below (blwN (Below.refl _ _) n)
theorem OwnB.lower {w : World} {base base' : Nat} {v : Value} {l : List UInt8} (h : OwnB w base v l) (hb : base' ≤ base) : OwnB w base' v l := by
  rcases h with hn | ⟨g, cap, cur, fz, e, hbg, rest⟩
  · exact .inl hn
  · exact .inr ⟨g, cap, cur, fz, e, by omega, rest⟩
theorem OwnB.cells {w : World} {base : Nat} {v : Value} {l : List UInt8} (h : OwnB w base v l) {g : Nat} (hg : v.ownBlock = some g) : ∀ j u, (vB l)[j]? = some u → w.cell? ((⟨g, 0, none⟩ : Addr).add j) = some u := by
  intro j u hu
  rcases h with ⟨rfl, _⟩ | ⟨g', cap, cur, fz, rfl, _, hgg, _, _, _, htake, _⟩
  · simp [Value.ownBlock] at hg
  · simp [Value.ownBlock] at hg
    subst hg
    have hadd : (⟨g', 0, none⟩ : Addr).add j = ⟨g', j, none⟩ := by unfold Addr.add; split <;> simp_all
    rw [hadd, cell_of_row w g' j cur 5 fz hgg]
    rw [← htake, List.getElem?_take] at hu
    split at hu
    · simpa using hu
    · cases hu
/-- The row is a slice of its length. -/
theorem OwnB.slice {w : World} {base : Nat} {v : Value} {l : List UInt8} (h : OwnB w base v l) : ∃ A c, v = .slice A l.length c := by
  rcases h with ⟨rfl, rfl⟩ | ⟨g, cap, cur, fz, rfl, _⟩
  · exact ⟨none, 0, rfl⟩
  · exact ⟨_, _, rfl⟩
/-- 'string(out)'. -/
theorem OwnB.string {w : World} {base : Nat} {v : Value} {l : List UInt8} (h : OwnB w base v l) :
    (convert 22 9 v).run Tryd.prog w = .ok (.string (bs l)) w := by
  have key : strOfNums (l.map fun b => ((b.toNat : Nat) : Int)) = bs l := by
    unfold strOfNums bs
    congr 2
    rw [List.map_map]
    conv => rhs; rw [← List.map_id l]
    exact List.map_congr_left fun b _ => by simp
  rcases h with ⟨rfl, rfl⟩ | ⟨g, cap, cur, fz, rfl, hb, hgg, hl, hm, hs, ht, hz⟩
  · exact run_convert_bytes_nil w 22 5 Tryd.underlying22 Tryd.underlying5 0 0 9 Tryd.underlying9
  · rw [← key]
    refine run_convert_bytes_arg w 22 5 Tryd.underlying22 Tryd.underlying5 g 0 l.length cap _ (by simp) (fun i hi => ?_) 9 Tryd.underlying9
    have hx : (vB l)[i]? = some (.int .u8 (l[i].toNat : Nat)) := by simp [vB, hi]
    have := OwnB.cells (.inr ⟨g, cap, cur, fz, rfl, hb, hgg, hl, hm, hs, ht, hz⟩ : OwnB w base (.slice (some ⟨g, 0, none⟩) l.length cap) l) (g := g) rfl i _ hx
    have hadd : (⟨g, 0, none⟩ : Addr).add i = ⟨g, 0 + i, none⟩ := by unfold Addr.add; split <;> simp_all
    rw [hadd] at this
    rw [this]
    simp [List.getD_eq_getElem?_getD, hi]
/-- '[]byte(s)' makes such a row. -/
theorem ownB_bytes (w : World) (base : Nat) (s : ByteArray) (hb : base ≤ w.heap.size) (hs : s.size ≤ maxLen) : OwnB (Lib.bytesWorld w 5 s) base (.slice (some ⟨w.heap.size, 0, none⟩) s.size (grownCap w s.size 0 5)) (ub s) := by
  have hge := grownCap_ge w s.size 0 5
  have hz : (Lib.bytesCells w 5 s).size = grownCap w s.size 0 5 := by
    have : s.data.size = s.size := rfl
    simp only [Lib.bytesCells, Array.size_append, Array.size_map, Array.size_replicate, this]
    omega
  refine .inr ⟨w.heap.size, _, _, _, by rw [ub_length], hb, Lib.bytesWorld_at_new w 5 s, by rw [ub_length]; exact hge, grownCap_le_maxLen w _ _ _ hs, hz, ?_, .inr (by simp only [hz]; exact Nat.le_refl _)⟩
  have hl : (vB (ub s)).length = (ub s).length := vB_length _
  have e : (Lib.bytesCells w 5 s).toList = vB (ub s) ++ List.replicate (grownCap w s.size 0 5 - s.size) (.int .u8 0) := by
    simp [Lib.bytesCells, vB, ub]
  rw [e, ← hl]
  exact List.take_left
theorem run_bytes (s : ByteArray) (W : World) : (convert 9 22 (.string s)).run Tryd.prog W = .ok (.slice (some ⟨W.heap.size, 0, none⟩) s.size (grownCap W s.size 0 5)) (Lib.bytesWorld W 5 s) :=
  Lib.run_convert_string_bytes W 9 22 5 s Tryd.underlying9 Tryd.underlying22 Tryd.underlying5
theorem bytes_below {B : Nat} {w W : World} (h : Below B w W) (hB : B ≤ W.heap.size) (s : ByteArray) : Below B w (Lib.bytesWorld W 5 s) :=
  h.trans ⟨rfl, rfl, rfl, by rw [Lib.bytesWorld_size]; omega, fun i hi => Lib.bytesWorld_at_old W 5 s i (by omega)⟩

theorem run_storeCells_atM (P : Program) (g o : Nat) (t : TypeId) (fz : Nat × Nat) : ∀ (vs : List Value) (i : Nat) (cur : Array Value) (w : World), w.heap[g]? = some (.cells cur t fz) → (fz.2 = 0 ∨ cur.size ≤ fz.1) → o + i + vs.length ≤ cur.size → (∀ v ∈ vs, v.oneCell' = true) →
    (storeCells ⟨g, o, none⟩ vs i).run P w = .ok () (w.setRow g (cur.toList.take (o + i) ++ vs ++ cur.toList.drop (o + i + vs.length)).toArray)
  | [], i, cur, w, hg, _, _, _ => by
    simp only [storeCells, List.append_nil, List.length_nil, Nat.add_zero, List.take_append_drop, Array.toArray_toList]
    rw [setRow_self w g cur t fz hg]
    rfl
  | v :: rest, i, cur, w, hg, hfz, hl, h1 => by
    have hi : o + i < cur.size := by simp at hl; omega
    have hadd : (⟨g, o, none⟩ : Addr).add i = ⟨g, o + i, none⟩ := by unfold Addr.add; split <;> simp_all
    have hcell : w.cell? ⟨g, o + i, none⟩ = some cur[o + i] := by simp [World.cell?, hg, hi]
    have hfro : w.frozen? ⟨g, o + i, none⟩ = false := by
      obtain ⟨lo, hi'⟩ := fz
      simp only [World.frozen?, hg, Bool.and_eq_false_iff, decide_eq_false_iff_not]
      simp only at hfz
      omega
    have hst : (store ((⟨g, o, none⟩ : Addr).add i) v).run P w = .ok () (w.setRow g (cur.setIfInBounds (o + i) v)) := by
      rw [hadd, run_store P w _ v _ (h1 v (by simp)), hcell]
      simp [hfro, setCell_eq_setRow w g (o + i) cur t fz v hg]
    have ih := run_storeCells_atM P g o t fz rest (i + 1) (cur.setIfInBounds (o + i) v) (w.setRow g (cur.setIfInBounds (o + i) v)) (setRow_heap w g cur _ t _ hg) (by simpa using hfz) (by simp at hl ⊢; omega) (fun x hx => h1 x (by simp [hx]))
    simp only [storeCells, Sem.run_bind, hst, Result.andThen_ok, ih, setRow_setRow]
    congr 3
    have e := list_seg_step cur.toList (o + i) v rest (by simp at hl ⊢; omega)
    simpa [Array.toList_setIfInBounds, Nat.add_assoc] using e

section
open Go.Lib (strCells run_firstCells_string run_append_own_string run_append_grow_string)
variable (w : World)
theorem infoB : ∃ i, Tryd.prog.info? 5 = some i ∧ i.zero = some (.int .u8 0) ∧ i.size = 1 ∧ i.bytes = 1 := by
  have h : (Tryd.prog.info? 5).map (fun i => (i.zero, i.size, i.bytes)) = some (some (.int .u8 0), 1, 1) := by kernel_rfl
  obtain ⟨i, hi, he⟩ := Option.map_eq_some_iff.1 h
  simp only [Prod.mk.injEq] at he
  exact ⟨i, hi, he⟩
theorem grownB (base : Nat) (l k : List UInt8) (old : Nat) (h63 : l.length + k.length ≤ maxLen) (hbase : base ≤ w.heap.size) (z : Array Value) (hz : z = #[.int .u8 0]) (row : Option Nat) :
    OwnB (w.drew.alloc (.cells ((vB l).toArray ++ (vB k).toArray ++ Builtin.zeroCells z (grownCap w (l.length + k.length) old 5 - (l.length + k.length))) 5)) base
      (.slice (some ⟨w.heap.size, 0, none⟩) (l.length + k.length) (grownCap w (l.length + k.length) old 5)) (l ++ k) ∧
    w.grownBy (w.drew.alloc (.cells ((vB l).toArray ++ (vB k).toArray ++ Builtin.zeroCells z (grownCap w (l.length + k.length) old 5 - (l.length + k.length))) 5)) row := by
  subst hz
  have hge := grownCap_ge w (l.length + k.length) old 5
  have hcm := grownCap_le_maxLen w (l.length + k.length) old 5 h63
  refine ⟨.inr ⟨w.heap.size, _, _, (0, 0), by rw [List.length_append], hbase, heap_alloc_new w.drew _, by rw [List.length_append]; exact hge, hcm, ?_, ?_, .inl rfl⟩, ⟨rfl, rfl, rfl, by simp, fun k hk _ => heap_alloc_old w.drew _ hk⟩⟩
  · simp only [Array.size_append, List.size_toArray, size_zeroCells, vB_length, List.size_toArray, List.length_cons, List.length_nil]
    omega
  · simp only [Array.toList_append]
    rw [← vB_append, ← vB_length (l ++ k)]
    exact List.take_left
/-- 'append(out, xs...)', xs a row of bytes that can be read. -/
theorem run_append_B (base : Nat) (ty : TypeId) (v : Value) (l : List UInt8) (hown : OwnB w base v l) (ad : Addr) (c : Nat) (k : List UInt8)
    (hnews : ∀ j u, (vB k)[j]? = some u → w.cell? (ad.add j) = some u) (hbytes : l.length + k.length ≤ 140737488355328) (hbase : base ≤ w.heap.size) :
    ∃ v' w', (Builtin.append_ #[22, 22] ty #[v, .slice (some ad) k.length c]).run Tryd.prog w = .ok v' w' ∧ OwnB w' base v' (l ++ k) ∧ w.grownBy w' v.ownBlock := by
  obtain ⟨i, hi, hz, hs1, hb1⟩ := infoB
  have h63 : l.length + k.length ≤ maxLen := by unfold maxLen; omega
  have hkl : (vB k).length = k.length * i.size := by rw [vB_length, hs1, Nat.mul_one]
  have hzc : (Value.int IntKind.u8 0).cells = #[.int .u8 0] := rfl
  rcases hown with ⟨rfl, rfl⟩ | ⟨g, cap, cur, fz, rfl, hbg, hg, hlc, hcm, hcs, htake, hfz⟩
  · by_cases hm : k.length = 0
    · obtain rfl : k = [] := List.eq_nil_of_length_eq_zero hm
      refine ⟨.slice none 0 0, w, ?_, .inl ⟨rfl, rfl⟩, ⟨rfl, rfl, rfl, Nat.le_refl _, fun _ _ _ => rfl⟩⟩
      simp [Builtin.append_, run_underlying Tryd.underlying22, sizeOf, typeInfo, hi, Builtin.lenOf, Builtin.firstCells, loadCells, loadCellsFrom]
    · have hr := run_append_nil (P := Tryd.prog) w 22 ty 5 i (.int .u8 0) Tryd.underlying22 hi hz ad k.length c (vB k) hkl hnews (by omega) (by omega) (by rw [hb1]; omega)
      have hgr := grownB w base [] k 0 (by simpa using h63) hbase _ hzc (Value.ownBlock (.slice none 0 0))
      simp only [List.length_nil, Nat.zero_add, List.nil_append, show (vB []).toArray = #[] from rfl, Array.empty_append] at hgr ⊢
      exact ⟨_, _, hr, hgr.1, hgr.2⟩
  · by_cases hroom : l.length + k.length ≤ cap
    · have hf := run_firstCells_some (P := Tryd.prog) w i.size k.length ad k.length c (vB k) hkl hnews
      have hst := run_storeCells_atM Tryd.prog g (l.length * i.size) 5 fz (vB k) 0 cur w hg (by rw [hcs]; exact hfz) (by rw [vB_length, hs1, hcs]; omega) (vB_one k)
      simp only [Nat.add_zero] at hst
      refine ⟨.slice (some ⟨g, 0, none⟩) (l.length + k.length) cap, _, ?_, .inr ⟨g, cap, _, fz, by rw [List.length_append], hbg, setRow_heap w g cur (cur.toList.take l.length ++ vB k ++ cur.toList.drop (l.length + k.length)).toArray 5 _ hg, by rw [List.length_append]; exact hroom, hcm, ?_, ?_, hfz⟩, ⟨rfl, rfl, rfl, by simp, fun k _ hk => setRow_other w g k _ (fun e => hk (by simp [Value.ownBlock, e]))⟩⟩
      · simp only [hs1, Nat.mul_one, vB_length] at hst
        rw [hs1] at hf
        simp [Builtin.append_, run_underlying Tryd.underlying22, sizeOf, typeInfo, hi, hs1, Builtin.lenOf, hroom, hf, Addr.add_lit, hst]
      · simp only [List.size_toArray, List.length_append, List.length_take, List.length_drop, Array.length_toList, vB_length]
        omega
      · rw [htake, ← vB_append, ← vB_length (l ++ k)]
        exact List.take_left
    · have holds := OwnB.cells (.inr ⟨g, cap, cur, fz, rfl, hbg, hg, hlc, hcm, hcs, htake, hfz⟩ : OwnB w base (.slice (some ⟨g, 0, none⟩) l.length cap) l) (g := g) rfl
      have hr := run_append_grow (P := Tryd.prog) w 22 ty 5 i (.int .u8 0) Tryd.underlying22 hi hz ⟨g, 0, none⟩ l.length cap (vB l) (by rw [vB_length, hs1, Nat.mul_one]) holds ad k.length c (vB k) hkl hnews (by omega) (by omega) (by rw [hb1]; exact growslice_fits (by omega) (by omega))
      have hgr := grownB w base l k cap h63 hbase _ hzc (Value.ownBlock (.slice (some ⟨g, 0, none⟩) l.length cap))
      exact ⟨_, _, hr, hgr.1, hgr.2⟩
/-- 'append(out, s...)', s a text. -/
theorem run_append_Bs (base : Nat) (ty : TypeId) (v : Value) (l : List UInt8) (hown : OwnB w base v l) (s : ByteArray) (hbytes : l.length + s.size ≤ 140737488355328) (hbase : base ≤ w.heap.size) :
    ∃ v' w', (Builtin.append_ #[22, 9] ty #[v, .string s]).run Tryd.prog w = .ok v' w' ∧ OwnB w' base v' (l ++ ub s) ∧ w.grownBy w' v.ownBlock := by
  obtain ⟨i, hi, hz, hs1, hb1⟩ := infoB
  have h63 : l.length + s.size ≤ maxLen := by unfold maxLen; omega
  have hsl := ub_length s
  have hcs' : strCells s = vB (ub s) := rfl
  have hzc : (Value.int IntKind.u8 0).cells = #[.int .u8 0] := rfl
  rcases hown with ⟨rfl, rfl⟩ | ⟨g, cap, cur, fz, rfl, hbg, hg, hlc, hcm, hcs, htake, hfz⟩
  · obtain ⟨v', w', h1, h2, h3, _⟩ := run_append_own_string (P := Tryd.prog) w base 22 9 ty 5 i Tryd.underlying22 Tryd.underlying9 hi hz hs1 hb1 (.slice none 0 0) 0 [] (World.ownsRow_nil w base 5 1) s (by simpa using h63) (by simpa using hbytes) hbase
    refine ⟨v', w', h1, ?_, h3⟩
    rcases h2.2 with ⟨rfl, h0⟩ | ⟨g, cap, cur, rfl, hbg, hg, hnc, hcm, hcs, htake⟩
    · have : ub s = [] := List.eq_nil_of_length_eq_zero (by omega)
      rw [this]
      exact .inl ⟨rfl, rfl⟩
    · refine .inr ⟨g, cap, cur, (0, 0), by rw [List.nil_append, hsl, Nat.zero_add], hbg, hg, by rw [List.nil_append, hsl]; omega, hcm, by omega, ?_, .inl rfl⟩
      rw [List.nil_append] at htake ⊢
      rw [hsl]
      simpa [hcs'] using htake
  · by_cases hroom : l.length + s.size ≤ cap
    · have hf := run_firstCells_string (P := Tryd.prog) w 1 s
      have hst := run_storeCells_atM Tryd.prog g l.length 5 fz (vB (ub s)) 0 cur w hg (by rw [hcs]; exact hfz) (by rw [vB_length, hcs]; omega) (vB_one _)
      simp only [Nat.add_zero, vB_length, hsl] at hst
      refine ⟨.slice (some ⟨g, 0, none⟩) (l.length + s.size) cap, _, ?_, .inr ⟨g, cap, _, fz, by rw [List.length_append, hsl], hbg, setRow_heap w g cur (cur.toList.take l.length ++ vB (ub s) ++ cur.toList.drop (l.length + s.size)).toArray 5 _ hg, by rw [List.length_append, hsl]; exact hroom, hcm, ?_, ?_, hfz⟩, ⟨rfl, rfl, rfl, by simp, fun k _ hk => setRow_other w g k _ (fun e => hk (by simp [Value.ownBlock, e]))⟩⟩
      · rw [hcs'] at hf
        simp [Builtin.append_, run_underlying Tryd.underlying22, run_underlying Tryd.underlying9, sizeOf, typeInfo, hi, hs1, Builtin.lenOf, hroom, hf, Addr.add_lit, hst]
      · simp only [List.size_toArray, List.length_append, List.length_take, List.length_drop, Array.length_toList, vB_length, hsl]
        omega
      · rw [htake, ← vB_append, ← vB_length (l ++ ub s)]
        exact List.take_left
    · have holds := OwnB.cells (.inr ⟨g, cap, cur, fz, rfl, hbg, hg, hlc, hcm, hcs, htake, hfz⟩ : OwnB w base (.slice (some ⟨g, 0, none⟩) l.length cap) l) (g := g) rfl
      have hr := run_append_grow_string (P := Tryd.prog) w 22 9 ty 5 i (.int .u8 0) Tryd.underlying22 Tryd.underlying9 hi hz ⟨g, 0, none⟩ l.length cap (vB l) (by rw [vB_length, hs1, Nat.mul_one]) holds s (by omega) (by omega) (by rw [hb1]; exact growslice_fits (by omega) (by omega))
      have hgr := grownB w base l (ub s) cap (by omega) hbase _ hzc (Value.ownBlock (.slice (some ⟨g, 0, none⟩) l.length cap))
      rw [hsl] at hgr
      exact ⟨_, _, hr, hgr.1, hgr.2⟩
end
section
variable {w : World}
theorem wpList_appB {ops : Array Oper} {rest : List Oper} {o : Oper} {a : Act} {Q : Exit → Act → World → Prop} (hgd : o.guard = none) (sl x : Operand)
    (ho : o.op = .call { callee := .builtin .append, args := #[sl, x], argTypes := #[22, 22] }) (base : Nat) (v : Value) (l : List UInt8) (hs : a.eval sl = v) (hown : OwnB w base v l)
    (ad : Addr) (c : Nat) (k : List UInt8) (hx : a.eval x = .slice (some ad) k.length c) (hnews : ∀ j u, (vB k)[j]? = some u → w.cell? (ad.add j) = some u) (hbytes : l.length + k.length ≤ 140737488355328) (hbase : base ≤ w.heap.size)
    (h : ∀ v' w', OwnB w' base v' (l ++ k) → w.grownBy w' v.ownBlock → wpList Tryd.prog ops Q rest (a.put o.dst v') w') : wpList Tryd.prog ops Q (o :: rest) a w := by
  refine wpList_plain hgd fun K hK => ?_
  obtain ⟨v', w', hr, h2, h3⟩ := run_append_B w base o.type v l hown ad c k hnews hbytes hbase
  unfold Oper.wp execOp
  simp only [ho, resolve, invoke, builtin, Sem.run_bind, Sem.run_pure, Result.andThen_ok, List.map_toArray, List.map_cons, List.map_nil, hs, hx, hr]
  exact hK _ _ (h v' w' h2 h3)
theorem wpList_appBs {ops : Array Oper} {rest : List Oper} {o : Oper} {a : Act} {Q : Exit → Act → World → Prop} (hgd : o.guard = none) (sl x : Operand)
    (ho : o.op = .call { callee := .builtin .append, args := #[sl, x], argTypes := #[22, 9] }) (base : Nat) (v : Value) (l : List UInt8) (hs : a.eval sl = v) (hown : OwnB w base v l)
    (s : ByteArray) (hx : a.eval x = .string s) (hbytes : l.length + s.size ≤ 140737488355328) (hbase : base ≤ w.heap.size)
    (h : ∀ v' w', OwnB w' base v' (l ++ ub s) → w.grownBy w' v.ownBlock → wpList Tryd.prog ops Q rest (a.put o.dst v') w') : wpList Tryd.prog ops Q (o :: rest) a w := by
  refine wpList_plain hgd fun K hK => ?_
  obtain ⟨v', w', hr, h2, h3⟩ := run_append_Bs w base o.type v l hown s hbytes hbase
  unfold Oper.wp execOp
  simp only [ho, resolve, invoke, builtin, Sem.run_bind, Sem.run_pure, Result.andThen_ok, List.map_toArray, List.map_cons, List.map_nil, hs, hx, hr]
  exact hK _ _ (h v' w' h2 h3)
/-- 'append(out, x)': the operation's world has the one cell's block on top. -/
theorem wpList_appB1 {ops : Array Oper} {rest : List Oper} {o : Oper} {a : Act} {Q : Exit → Act → World → Prop} (hgd : o.guard = none) (sl x : Operand)
    (ho : o.op = .call { callee := .builtin .append, args := #[sl, x], argTypes := #[22, 22] }) (base : Nat) (v : Value) (l : List UInt8) (hs : a.eval sl = v) (hown : OwnB w base v l)
    (b : Int) (h0 : 0 ≤ b) (h1 : b ≤ 255) (c : Nat) (hx : a.eval x = .slice (some ⟨w.heap.size, 0, none⟩) 1 c) (hbytes : l.length + 1 ≤ 140737488355328) (hbase : base ≤ w.heap.size)
    (h : ∀ v' w', OwnB w' base v' (l ++ [UInt8.ofNat b.toNat]) → (w.alloc (.cells #[.int .u8 b] 5)).grownBy w' v.ownBlock → wpList Tryd.prog ops Q rest (a.put o.dst v') w') :
    wpList Tryd.prog ops Q (o :: rest) a (w.alloc (.cells #[.int .u8 b] 5)) := by
  refine wpList_appB hgd sl x ho base v l hs (hown.alloc _) ⟨w.heap.size, 0, none⟩ c [UInt8.ofNat b.toNat] hx (fun j u hj => ?_) hbytes (by simp; omega) h
  have hj0 : j = 0 := by
    have := (List.getElem?_eq_some_iff.1 hj).1
    simp [vB] at this
    omega
  subst hj0
  obtain rfl : Value.int .u8 ((UInt8.ofNat b.toNat).toNat : Nat) = u := by simpa [vB] using hj
  have hm : ((UInt8.ofNat b.toNat).toNat : Int) = b := by rw [UInt8.toNat_ofNat']; omega
  rw [hm]
  exact (cell_of_row (w.alloc (.cells #[.int .u8 b] 5)) w.heap.size 0 #[.int .u8 b] 5 (0, 0) (heap_alloc_new w _)).trans rfl
end
end Go.Proofs.YtdoaemagednclaaDoor
