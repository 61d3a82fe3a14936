/- The laws' marks: markText, markStringS (writes marks into a slice of the call's own), heldStringS (finds them there). A block under marking, cell by cell. The laws' helpers for spots: eqSpot, eqSpotS, markSpotS, heldSpotS. The laws' marks in files and acts: markFileS, heldFileS, markActS, heldActS on rows of the call's own. The laws' marks in files; copies of disks whose row is the call's own. The laws' helpers for engines: sz, to, eq, mark, held. The laws' helpers for engines and acts: eqActS, markEngine, heldEngine; what opening gives, in one form. -/
import Derived.Test.YtaacpdejpcbbbaaGreatDoorStrs
import Derived.Test.YtaacpdejpcbbbaaGreatDoorDigs
import Derived.Deep.RegionHeld3
import Derived.Test.YtaacpdejpcbbbaaGreatDoorSegAll
import Derived.Test.YtaacpdejpcbbbaaGreatDoorDiskAll
import Derived.Test.YtaacpdejpcbbbaaGreatDoorActAll
import Derived.Test.YtaacpdejpcbbbaaGreatDoorDirAll
namespace Go.Proofs.YtaacpdejpcbbbaaGreatDoor
set_option linter.unusedVariables false
set_option linter.unusedSimpArgs false
open Go.RowKit
attribute [local go_sem] bs_size List.length_cons List.length_nil List.length_append

def mText (k : Nat) : ByteArray := bs (109 :: digs k)
theorem mText_size (k : Nat) (h : k ≤ 1000000000000) : (mText k).size ≤ 40 := by
  have := digs_length 30 k (by omega)
  rw [mText, bs_size, List.length_cons]
  omega
def MkRel (n m : Nat) (s : ByteArray) : Prop := digs m ++ ub s = digs n
theorem mk_start (n : Nat) : MkRel n n ⟨#[]⟩ := by
  unfold MkRel
  rw [show ub ⟨#[]⟩ = [] from rfl, List.append_nil]
theorem mk_step {n m : Nat} {s : ByteArray} (hm : m ≠ 0) (h : MkRel n m s) : MkRel n (m / 10) (bs [48 + UInt8.ofNat (m % 10)] ++ s) := by
  unfold MkRel at h ⊢
  have e : 48 + UInt8.ofNat (m % 10) = UInt8.ofNat (48 + m % 10) := by rw [UInt8.ofNat_add]; rfl
  rw [← h, digs_step m hm, bs_app, ub_bs, e, List.append_assoc]
theorem mk_end {n : Nat} {s : ByteArray} (h : MkRel n 0 s) : (⟨#[109]⟩ : ByteArray) ++ s = mText n := by
  unfold MkRel at h
  rw [mText, ← h]
  exact bs_app s [109]
theorem mk_size {n m : Nat} {s : ByteArray} (h : MkRel n m s) (h1 : n ≤ 1000000000000) : s.size ≤ 30 := by
  have := congrArg List.length h
  rw [List.length_append, ub_length] at this
  have := digs_length 30 n (by omega)
  omega
set_option maxRecDepth 100000 in
theorem laws_markText_calls (n : Nat) (w : World) (h0 : 1 ≤ n) (h1 : n ≤ 1000000000000) :
    Calls Tryz.prog 68 #[.int .i64 (n : Int)] w fun e w' => e = .returned (.string (mText n)) ∧ Below w.heap.size w w' := by
  have kc := conv_one (P := Tryz.prog) 141 5 9 Tryz.underlying141 Tryz.underlying5 Tryz.underlying9
  go_enter Tryz.func68, Tryz.ntmps68
  go_wp2
  go_loopw [0, 3] (fun v s wr => ∃ (m : Nat) (S : ByteArray), v = .int .i64 (m : Int) ∧ s = .string S ∧ MkRel n m S ∧ m ≤ n ∧ Below w.heap.size w wr) (fun v _ _ => (intOf v).toNat)
  case atStart => exact ⟨n, _, rfl, rfl, mk_start n, Nat.le_refl _, Below.refl _ _⟩
  case round =>
    obtain ⟨m, S, rfl, rfl, hrel, hmn, hbel⟩ := hrel
    have HR := Lib.hid hrel
    have HB := Lib.hid hbel
    have hS := mk_size hrel h1
    clear hrel hbel
    by_cases hm : m = 0
    · subst hm
      go_wp2
      go_ret
      exact ⟨ret_str (mk_end HR.out), HB.out⟩
    · go_wp2
      go_roundw
      case rel => exact ⟨m / 10, _, by go_num, rfl, mk_step hm HR.out, by omega, HB.out.alloc HB.out.size _⟩
      case measure => simp [intOf]; omega

def marks (k n : Nat) : List ByteArray := (List.range n).map fun i => mText (k + i)
theorem marks_length (k n : Nat) : (marks k n).length = n := by simp [marks]
theorem marks_get {k n i : Nat} (h : i < n) : (marks k n)[i]? = some (mText (k + i)) := by simp [marks, h]
theorem marks_succ (k n : Nat) : marks k (n + 1) = marks k n ++ [mText (k + n)] := by simp [marks, List.range_succ]
theorem marks_size {k n : Nat} (h : k + n ≤ 1000000000000) : ∀ s ∈ marks k n, s.size ≤ 9223372036854775807 := by
  intro s hs
  obtain ⟨i, hi, rfl⟩ := List.mem_map.1 hs
  have := List.mem_range.1 hi
  have := mText_size (k + i) (by omega)
  omega
def MarkRel (xs : List ByteArray) (k : Nat) (b : Nat) (more : List Value) (w : World) (j : Nat) (wr : World) : Prop :=
  wr.heap[b]? = some (.cells ((marks k j ++ xs.drop j).map Value.string ++ more).toArray 9 (0, 0)) ∧ w.grownBy wr (some b)
theorem grownBy_set {w wr : World} {b : Nat} (h : w.grownBy wr (some b)) (j : Nat) (v : Value) : w.grownBy (wr.setCell ⟨b, j, none⟩ v) (some b) :=
  ⟨h.os, h.tape, h.output, by simpa using h.size, fun i hi hne => (Below.heap_setCell wr ⟨b, j, none⟩ v i (fun e => hne (by rw [e]))).trans (h.block i hi hne)⟩
theorem grownBy_below {w wr w' : World} {row : Option Nat} (h : w.grownBy wr row) (hb : Below wr.heap.size wr w') : w.grownBy w' row :=
  ⟨hb.os.trans h.os, hb.tape.trans h.tape, hb.output.trans h.output, Nat.le_trans h.size hb.size, fun i hi hne => (hb.block i (Nat.lt_of_lt_of_le hi h.size)).trans (h.block i hi hne)⟩
theorem mark_step {xs : List ByteArray} {k b j : Nat} {more : List Value} {w wr : World} (h : MarkRel xs k b more w j wr) (hj : j < xs.length) : MarkRel xs k b more w (j + 1) (wr.setCell ⟨b, j, none⟩ (.string (mText (k + j)))) := by
  refine ⟨?_, grownBy_set h.2 _ _⟩
  rw [blk_set h.1]
  congr 2
  rw [marks_succ]
  apply Array.ext'
  rw [Array.toList_setIfInBounds]
  simp only [List.map_append, List.append_assoc]
  have hl : ((marks k j).map Value.string).length = j := by rw [List.length_map, marks_length]
  rw [List.set_append_right _ _ (by omega), hl, Nat.sub_self, List.drop_eq_getElem_cons hj]
  rfl
theorem mark_cell {xs : List ByteArray} {k j : Nat} {more : List Value} (hj : j < xs.length) : ((marks k j ++ xs.drop j).map Value.string ++ more).toArray[j]? = some (.string (xs[j]'hj)) := by
  rw [List.getElem?_toArray, List.getElem?_append_left (by simp [marks_length]; omega), List.getElem?_map, List.getElem?_append_right (by rw [marks_length]; exact Nat.le_refl _), marks_length, Nat.sub_self, List.getElem?_drop]
  simp [hj]
theorem mark_below {xs : List ByteArray} {k b j : Nat} {more : List Value} {w wr w' : World} (h : MarkRel xs k b more w j wr) (hb : Below wr.heap.size wr w') : MarkRel xs k b more w j w' :=
  ⟨blk_below h.1 hb, grownBy_below h.2 hb⟩
/-- What markStringS does: the slice has the marks from k on; its block and new ones apart, nothing else is another. -/
def Marked (w : World) (B : Nat) (v : Value) (k n : Nat) (e : Ending) (w' : World) : Prop := e = .returned (.int .i64 ((k + n : Nat) : Int)) ∧ StrOwn w' B v (marks k n) ∧ w.grownBy w' v.ownBlock
theorem mark_end {xs : List ByteArray} {k b B c : Nat} {more : List Value} {w wr : World} (h : MarkRel xs k b more w xs.length wr) (hc : xs.length + more.length = c) (hm : c ≤ 9223372036854775807) (hB : B ≤ b) :
    Marked w B (.slice (some ⟨b, 0, none⟩) xs.length c) k xs.length (.returned (.int .i64 ((k + xs.length : Nat) : Int))) wr := by
  refine ⟨rfl, .inr ⟨b, c, by rw [marks_length], hB, more, ?_, by rw [marks_length]; exact hc, hm⟩, h.2⟩
  have := h.1
  rw [List.drop_length, List.append_nil] at this
  exact this
end Go.Proofs.YtaacpdejpcbbbaaGreatDoor

namespace Go.Proofs.YtaacpdejpcbbbaaGreatDoor
set_option linter.unusedVariables false
set_option linter.unusedSimpArgs false
open Go.RowKit

/-- A block under marking: the cells ahead, those of the element in hand, those behind. -/
def MkAt (w wr : World) (b : Nat) (ty : TypeId) (P M R : List Value) : Prop := wr.heap[b]? = some (.cells (P ++ (M ++ R)).toArray ty (0, 0)) ∧ w.grownBy wr (some b)
theorem MkAt.cell {w wr : World} {b : Nat} {ty : TypeId} {P M R : List Value} (h : MkAt w wr b ty P M R) (d i : Nat) (hi : i = P.length + d) (hd : d < M.length) : wr.cell? ⟨b, i, none⟩ = M[d]? := by
  subst hi
  rw [blk_cell h.1, List.getElem?_toArray, List.getElem?_append_right (Nat.le_add_right ..), Nat.add_sub_cancel_left, List.getElem?_append_left hd]
theorem MkAt.set {w wr : World} {b : Nat} {ty : TypeId} {P M R : List Value} (h : MkAt w wr b ty P M R) (d i : Nat) (hi : i = P.length + d) (hd : d < M.length) (x : Value) : MkAt w (wr.setCell ⟨b, i, none⟩ x) b ty P (M.set d x) R := by
  subst hi
  refine ⟨?_, grownBy_set h.2 _ _⟩
  rw [blk_set h.1]
  congr 2
  apply Array.ext'
  rw [Array.toList_setIfInBounds]
  show (P ++ (M ++ R)).set (P.length + d) x = P ++ (M.set d x ++ R)
  rw [List.set_append_right _ _ (Nat.le_add_right ..), Nat.add_sub_cancel_left, List.set_append_left _ _ hd]
theorem MkAt.below {w wr w' : World} {b : Nat} {ty : TypeId} {P M R : List Value} (h : MkAt w wr b ty P M R) (hb : Below wr.heap.size wr w') : MkAt w w' b ty P M R := ⟨blk_below h.1 hb, grownBy_below h.2 hb⟩
theorem MkAt.fz {w wr : World} {b : Nat} {ty : TypeId} {P M R : List Value} (h : MkAt w wr b ty P M R) (i : Nat) : wr.frozen? ⟨b, i, none⟩ = false := blk_frozen h.1 i
theorem MkAt.next {w wr : World} {b : Nat} {ty : TypeId} {P M R M' R' : List Value} (h : MkAt w wr b ty P M R) (e : R = M' ++ R') : MkAt w wr b ty (P ++ M) M' R' := by
  subst e
  unfold MkAt at h ⊢
  rw [List.append_assoc]
  exact h
end Go.Proofs.YtaacpdejpcbbbaaGreatDoor

namespace Go.Proofs.YtaacpdejpcbbbaaGreatDoor
set_option linter.unusedVariables false
set_option linter.unusedSimpArgs false
open Go.RowKit
attribute [local go_sem] bs_size List.length_cons List.length_nil List.length_append

theorem laws_eqSpot_calls (k : ByteArray) (g p q : Int) (w : World) :
    Calls Tryz.prog 75 #[.agg #[.string k, .int .i64 g, .int .i64 p, .int .i64 q], .agg #[.string k, .int .i64 g, .int .i64 p, .int .i64 q]] w fun e w' => e = .returned (.bool true) ∧ Below w.heap.size w w' := by
  have h1 : (g != g) = false := by simp
  have h2 : (p != p) = false := by simp
  have h3 : (q != q) = false := by simp
  go_enter Tryz.func75, Tryz.ntmps75
  go_wp2
  go_ret
  exact ⟨rfl, ((Below.refl _ _).alloc (Nat.le_refl _) _).alloc (by simp) _⟩
theorem keep4 {w w' : World} {a b c d : Addr} {x y z u : Value} (h : w.cell? a = some x ∧ w.cell? b = some y ∧ w.cell? c = some z ∧ w.cell? d = some u) (hb : Below w.heap.size w w') : w'.cell? a = some x ∧ w'.cell? b = some y ∧ w'.cell? c = some z ∧ w'.cell? d = some u := by
  have k : ∀ {a : Addr} {x : Value}, w.cell? a = some x → w'.cell? a = some x := fun h => (hb.cell (World.block_lt_of_cell? w _ h)).trans h
  exact ⟨k h.1, k h.2.1, k h.2.2.1, k h.2.2.2⟩
/-- Four cells of a spot at an address. -/
def SpCells (w : World) (ad : Addr) (x : SpotD) : Prop := w.cell? ad = some (.string x.1) ∧ w.cell? ⟨ad.block, ad.off + 1, none⟩ = some (.int .i64 x.2.1) ∧ w.cell? ⟨ad.block, ad.off + 2, none⟩ = some (.int .i64 x.2.2.1) ∧ w.cell? ⟨ad.block, ad.off + 3, none⟩ = some (.int .i64 x.2.2.2)
set_option maxHeartbeats 4000000 in
set_option maxRecDepth 100000 in
theorem laws_eqSpotS_calls (A : Option Addr) (c : Nat) (A' : Option Addr) (c' : Nat) (ds : List SpotD) (w : World) (h : SpRow w A c ds) (h' : SpRow w A' c' ds) :
    Calls Tryz.prog 33 #[.slice A ds.length c, .slice A' ds.length c'] w fun e w' => e = .returned (.bool true) ∧ Below w.heap.size w w' := by
  have hl := h.len
  have HR := Lib.hid h
  have HR' := Lib.hid h'
  have hb2 : ((ds.length : Int) != (ds.length : Int)) = false := by simp
  clear h h'
  go_enter Tryz.func33, Tryz.ntmps33
  go_wp2
  go_loopw [5] (fun iv wr => ∃ i : Nat, i ≤ ds.length ∧ iv = .int .i64 (i : Int) ∧ Below w.heap.size w wr) (fun iv _ => ds.length - (intOf iv).toNat)
  case atStart => exact ⟨0, Nat.zero_le _, rfl, Below.refl _ _⟩
  case round =>
    obtain ⟨i, hi, rfl, hbel⟩ := hrel
    have HB := Lib.hid hbel
    by_cases hlt : i < ds.length
    · obtain ⟨ad, x, hA, HX, hz1, hc0, hc1, hc2, hc3⟩ := (HR.out.below hbel).at_ hlt
      obtain ⟨ad', y, hA', HY, _, hd0, hd1, hd2, hd3⟩ := (HR'.out.below hbel).at_ hlt
      obtain rfl : x = y := Option.some.inj (HX.out.symm.trans HY.out)
      clear hbel
      cases hA
      cases hA'
      obtain ⟨k, g, p, q⟩ := x
      dsimp only at hz1 hc0 hc1 hc2 hc3 hd0 hd1 hd2 hd3
      have hli : (i : Int) < (ds.length : Int) := by omega
      have HH0 : Hid (Below wr.heap.size wr wr.drew) := Below.drew (Below.refl _ _)
      have H8 := Lib.hid (And.intro (And.intro hc0 (And.intro hc1 (And.intro hc2 hc3))) (And.intro hd0 (And.intro hd1 (And.intro hd2 hd3))))
      go_wp2_with fail
      go_region_held3 (fun w' => (w'.cell? (ad.add (i * 4)) = some (.string k) ∧ w'.cell? ⟨(ad.add (i * 4)).block, (ad.add (i * 4)).off + 1, none⟩ = some (.int .i64 g) ∧ w'.cell? ⟨(ad.add (i * 4)).block, (ad.add (i * 4)).off + 2, none⟩ = some (.int .i64 p) ∧ w'.cell? ⟨(ad.add (i * 4)).block, (ad.add (i * 4)).off + 3, none⟩ = some (.int .i64 q)) ∧ (w'.cell? (ad'.add (i * 4)) = some (.string k) ∧ w'.cell? ⟨(ad'.add (i * 4)).block, (ad'.add (i * 4)).off + 1, none⟩ = some (.int .i64 g) ∧ w'.cell? ⟨(ad'.add (i * 4)).block, (ad'.add (i * 4)).off + 2, none⟩ = some (.int .i64 p) ∧ w'.cell? ⟨(ad'.add (i * 4)).block, (ad'.add (i * 4)).off + 3, none⟩ = some (.int .i64 q)) ∧ Hid (Below wr.heap.size wr w')) (first | exact ⟨keep4 H8.out.1 HH0.out, keep4 H8.out.2 HH0.out, HH0⟩ | exact ⟨keep4 H8.out.1 (HH0.out.trans (hb.mono (Nat.le_refl _))), keep4 H8.out.2 (HH0.out.trans (hb.mono (Nat.le_refl _))), Lib.hid (HH0.out.trans (hb.mono (Nat.le_refl _)))⟩) (first | (go_at_call 75; refine (laws_eqSpot_calls k g p q _).mono ?_; rintro e w' ⟨rfl, hb⟩))
      have HKB := And.right (And.right ‹_ ∧ _ ∧ Hid (Below wr.heap.size wr _)›)
      go_wp2
      go_roundw
      case rel => first | exact ⟨i + 1, by omega, by go_num, HB.out.trans (HKB.out.mono HB.out.size)⟩ | (repeat (first | (refine ⟨?relx, rfl⟩; exact ⟨i + 1, by omega, by go_num, HB.out.trans (HKB.out.mono HB.out.size)⟩) | (refine ⟨?relx, ?eqs⟩; (case eqs => (and_intros <;> rfl)); exact ⟨i + 1, by omega, by go_num, HB.out.trans (HKB.out.mono HB.out.size)⟩) | apply Exists.intro))
      case measure => simp [intOf]; omega
    · obtain rfl : i = ds.length := by omega
      clear hbel
      go_wp2
      go_ret
      exact ⟨rfl, HB.out⟩
def mkSp (k : Nat) : SpotD := (mText k, ((k + 1 : Nat) : Int), ((k + 2 : Nat) : Int), ((k + 3 : Nat) : Int))
def marksSp (k n : Nat) : List SpotD := (List.range n).map fun i => mkSp (k + i * 4)
theorem marksSp_length (k n : Nat) : (marksSp k n).length = n := by simp [marksSp]
theorem marksSp_get {k n i : Nat} (h : i < n) : (marksSp k n)[i]? = some (mkSp (k + i * 4)) := by simp [marksSp, h]
theorem marksSp_succ (k n : Nat) : marksSp k (n + 1) = marksSp k n ++ [mkSp (k + n * 4)] := by simp [marksSp, List.range_succ]
theorem marksSp_small {k n : Nat} (h : k + n * 4 ≤ 1000000000000) : ∀ x ∈ marksSp k n, x.1.size ≤ 9223372036854775807 := by
  intro s hs
  obtain ⟨i, hi, rfl⟩ := List.mem_map.1 hs
  have := List.mem_range.1 hi
  have h1 := mText_size (k + i * 4) (by omega)
  show (mText (k + i * 4)).size ≤ _
  omega
theorem spFlat_drop {ds : List SpotD} {j : Nat} (h : j < ds.length) (more : List Value) : spFlat (ds.drop j) ++ more = spVals ds[j] ++ (spFlat (ds.drop (j + 1)) ++ more) := by
  unfold spFlat
  rw [List.drop_eq_getElem_cons h, List.map_cons, List.flatten_cons, List.append_assoc]
/-- What markSpotS does. -/
def MarkedSp (w : World) (B : Nat) (v : Value) (k n : Nat) (e : Ending) (w' : World) : Prop := e = .returned (.int .i64 ((k + n * 4 : Nat) : Int)) ∧ SpOwn w' B v (marksSp k n) ∧ w.grownBy w' v.ownBlock
theorem markSp_next {w wr : World} {b : Nat} {ty : TypeId} {k j : Nat} {x : SpotD} {R : List Value} {v1 v2 v3 : Int} (h : MkAt w wr b ty (spFlat (marksSp k j)) (((((spVals x).set 0 (.string (mText (k + j * 4)))).set 1 (.int .i64 v1)).set 2 (.int .i64 v2)).set 3 (.int .i64 v3)) R) (h1 : v1 = ((k + j * 4 + 1 : Nat) : Int)) (h2 : v2 = ((k + j * 4 + 2 : Nat) : Int)) (h3 : v3 = ((k + j * 4 + 3 : Nat) : Int)) : MkAt w wr b ty (spFlat (marksSp k (j + 1))) [] R := by
  subst h1 h2 h3
  rw [marksSp_succ, spFlat_snoc]
  exact h.next (M' := []) rfl
theorem markSp_end {ds : List SpotD} {k b B c : Nat} {more : List Value} {w wr : World} (h : MkAt w wr b 56 (spFlat (marksSp k ds.length)) [] (spFlat (ds.drop ds.length) ++ more)) (hc : (spFlat ds ++ more).length = c * 4) (hm : c ≤ maxLen) (hB : B ≤ b) :
    MarkedSp w B (.slice (some ⟨b, 0, none⟩) ds.length c) k ds.length (.returned (.int .i64 ((k + ds.length * 4 : Nat) : Int))) wr := by
  have hl : (spFlat (marksSp k ds.length)).length = ds.length * 4 := by rw [spFlat_len, marksSp_length]
  have h1 := h.1
  rw [List.drop_length, List.nil_append, show spFlat ([] : List SpotD) = [] from rfl, List.nil_append] at h1
  rw [List.length_append, spFlat_len] at hc
  refine ⟨rfl, ⟨by rw [marksSp_length]; exact hl, .inr ⟨b, c, _, by rw [marksSp_length], hB, h1, by rw [marksSp_length]; omega, hm, by simp [hl]; omega, ?_⟩⟩, h.2⟩
  rw [marksSp_length, ← hl]
  exact List.take_left' rfl
set_option maxHeartbeats 1000000 in
set_option maxRecDepth 100000 in
theorem laws_markSpotS_calls (B : Nat) (v : Value) (ds : List SpotD) (k : Nat) (w : World) (h : SpOwn w B v ds) (h0 : 1 ≤ k) (h1 : k + ds.length * 4 ≤ 1000000000000) :
    Calls Tryz.prog 67 #[v, .int .i64 (k : Int)] w (MarkedSp w B v k ds.length) := by
  have hfl := h.1
  rcases h.2 with ⟨rfl, h00⟩ | ⟨b, c, cur, rfl, hB, hg, hn, hm, hc, ht⟩
  · obtain rfl := List.eq_nil_of_length_eq_zero h00
    go_enter Tryz.func67, Tryz.ntmps67
    go_wp2
    refine wp_loop_rounds 1 ?_
    rw [rounds_succ]
    go_wp2
    go_ret
    exact ⟨rfl, World.ownsRow_nil _ _ _ _, ⟨rfl, rfl, rfl, Nat.le_refl _, fun _ _ _ => rfl⟩⟩
  · have hl : ds.length ≤ 1000000000000 := by omega
    obtain ⟨more, hcur⟩ : ∃ more : List Value, cur.toList = spFlat ds ++ more := ⟨cur.toList.drop (ds.length * 4), by rw [← ht, List.take_append_drop]⟩
    have hblk : w.heap[b]? = some (.cells (spFlat ds ++ more).toArray 56 (0, 0)) := by rw [hg, ← hcur]
    have hst : Hid (MkAt w w b 56 (spFlat (marksSp k 0)) [] (spFlat (ds.drop 0) ++ more)) := ⟨hblk, rfl, rfl, rfl, Nat.le_refl _, fun _ _ _ => rfl⟩
    have HC : Hid ((spFlat ds ++ more).length = c * 4) := by rw [Hid, ← hcur, Array.length_toList]; exact hc
    clear hblk hc ht hcur hg hfl
    go_enter Tryz.func67, Tryz.ntmps67
    go_wp2
    go_loopw [1, 5] (fun q i wr => ∃ j : Nat, j ≤ ds.length ∧ i = .int .i64 j ∧ q = .int .i64 ((k + j * 4 : Nat) : Int) ∧ MkAt w wr b 56 (spFlat (marksSp k j)) [] (spFlat (ds.drop j) ++ more)) (fun _ i _ => ds.length - (intOf i).toNat)
    case atStart => exact ⟨0, Nat.zero_le _, rfl, by go_num, hst.out⟩
    case round =>
      obtain ⟨j, hj, rfl, rfl, hrel⟩ := hrel
      by_cases hlt : j < ds.length
      · have hrel' : MkAt w wr b 56 (spFlat (marksSp k j)) (spVals ds[j]) (spFlat (ds.drop (j + 1)) ++ more) := by
          have := hrel.next (M' := spVals ds[j]) (R' := spFlat (ds.drop (j + 1)) ++ more) (spFlat_drop hlt more)
          rwa [List.append_nil] at this
        have hPl : (spFlat (marksSp k j)).length = j * 4 := by rw [spFlat_len, marksSp_length]
        have HP := Lib.hid hPl
        have HT := Lib.hid hrel'
        clear hrel hrel' hPl
        go_wp2_with fail
        go_at_call 68
        refine (laws_markText_calls (k + j * 4) _ (by omega) (by omega)).mono ?_
        rintro e w1 ⟨rfl, hb⟩
        have HT1 := Lib.hid (HT.out.below hb)
        clear hb
        have f0 := HT1.out.fz (j * 4)
        have c0 := HT1.out.cell 0 (j * 4) (by rw [HP.out]; rfl) (by simp [spVals])
        rw [show (spVals ds[j])[0]? = some (.string ds[j].1) from rfl] at c0
        have HT2 := Lib.hid (HT1.out.set 0 (j * 4) (by rw [HP.out]; rfl) (by simp [spVals]) (.string (mText (k + j * 4))))
        have f1 := HT2.out.fz (j * 4 + 1)
        have c1 := HT2.out.cell 1 (j * 4 + 1) (by rw [HP.out]) (by simp [spVals])
        rw [show ((spVals ds[j]).set 0 (.string (mText (k + j * 4))))[1]? = some (.int .i64 ds[j].2.1) from rfl] at c1
        have HT3 := Lib.hid (HT2.out.set 1 (j * 4 + 1) (by rw [HP.out]) (by simp [spVals]) (.int .i64 ((k : Int) + (j : Int) * 4 + 1)))
        have f2 := HT3.out.fz (j * 4 + 2)
        have c2 := HT3.out.cell 2 (j * 4 + 2) (by rw [HP.out]) (by simp [spVals])
        rw [show (((spVals ds[j]).set 0 (.string (mText (k + j * 4)))).set 1 (.int .i64 ((k : Int) + (j : Int) * 4 + 1)))[2]? = some (.int .i64 ds[j].2.2.1) from rfl] at c2
        have HT4 := Lib.hid (HT3.out.set 2 (j * 4 + 2) (by rw [HP.out]) (by simp [spVals]) (.int .i64 ((k : Int) + (j : Int) * 4 + 1 + 1)))
        have f3 := HT4.out.fz (j * 4 + 3)
        have c3 := HT4.out.cell 3 (j * 4 + 3) (by rw [HP.out]) (by simp [spVals])
        rw [show ((((spVals ds[j]).set 0 (.string (mText (k + j * 4)))).set 1 (.int .i64 ((k : Int) + (j : Int) * 4 + 1))).set 2 (.int .i64 ((k : Int) + (j : Int) * 4 + 1 + 1)))[3]? = some (.int .i64 ds[j].2.2.2) from rfl] at c3
        have HT5 := Lib.hid (HT4.out.set 3 (j * 4 + 3) (by rw [HP.out]) (by simp [spVals]) (.int .i64 ((k : Int) + (j : Int) * 4 + 1 + 1 + 1)))
        have HN := Lib.hid (markSp_next HT5.out (by omega) (by omega) (by omega))
        go_wp2
        go_roundw
        case rel => exact ⟨j + 1, by omega, by go_num, by go_num, HN.out⟩
        case measure => simp [intOf]; omega
      · obtain rfl : j = ds.length := by omega
        have HT := Lib.hid hrel
        clear hrel
        go_wp2
        go_ret
        exact markSp_end HT.out HC.out hm hB
set_option maxHeartbeats 1000000 in
set_option maxRecDepth 100000 in
theorem laws_heldSpotS_calls (A : Option Addr) (c n : Nat) (k : Nat) (w : World) (h : SpRow w A c (marksSp k n)) (h0 : 1 ≤ k) (h1 : k + n * 4 ≤ 1000000000000) :
    Calls Tryz.prog 70 #[.slice A n c, .int .i64 (k : Int)] w fun e w' => e = .returned (.int .i64 ((k + n * 4 : Nat) : Int)) ∧ Below w.heap.size w w' := by
  have HR := Lib.hid h
  clear h
  go_enter Tryz.func70, Tryz.ntmps70
  go_wp2
  go_loopw [1, 5] (fun q i wr => ∃ j : Nat, j ≤ n ∧ i = .int .i64 j ∧ q = .int .i64 ((k + j * 4 : Nat) : Int) ∧ Below w.heap.size w wr) (fun _ i _ => n - (intOf i).toNat)
  case atStart => exact ⟨0, Nat.zero_le _, rfl, by go_num, Below.refl _ _⟩
  case round =>
    obtain ⟨j, hj, rfl, rfl, hbel⟩ := hrel
    have HB := Lib.hid hbel
    by_cases hlt : j < n
    · obtain ⟨ad, x, hA, HX, hz1, hc0, hc1, hc2, hc3⟩ := (HR.out.below hbel).at_ (k := j) (by rw [marksSp_length]; exact hlt)
      obtain rfl : mkSp (k + j * 4) = x := by
        have := HX.out
        rw [marksSp_get hlt] at this
        exact Option.some.inj this
      clear HX hbel
      cases hA
      unfold mkSp at hz1 hc0 hc1 hc2 hc3
      dsimp only at hz1 hc0 hc1 hc2 hc3
      rw [show ((k + j * 4 + 1 : Nat) : Int) = ((k : Int) + (j : Int) * 4 + 1) by omega] at hc1
      rw [show ((k + j * 4 + 2 : Nat) : Int) = ((k : Int) + (j : Int) * 4 + 1 + 1) by omega] at hc2
      rw [show ((k + j * 4 + 3 : Nat) : Int) = ((k : Int) + (j : Int) * 4 + 1 + 1 + 1) by omega] at hc3
      have H3 := Lib.hid (And.intro hc0 (And.intro hc1 (And.intro hc2 hc3)))
      have HH0 : Hid (Below wr.heap.size wr wr.drew) := Below.drew (Below.refl _ _)
      go_wp2_with fail
      go_region_held3 (fun w' => (w'.cell? (ad.add (j * 4)) = some (.string (mText (k + j * 4))) ∧ w'.cell? ⟨(ad.add (j * 4)).block, (ad.add (j * 4)).off + 1, none⟩ = some (.int .i64 ((k : Int) + (j : Int) * 4 + 1)) ∧ w'.cell? ⟨(ad.add (j * 4)).block, (ad.add (j * 4)).off + 2, none⟩ = some (.int .i64 ((k : Int) + (j : Int) * 4 + 1 + 1)) ∧ w'.cell? ⟨(ad.add (j * 4)).block, (ad.add (j * 4)).off + 3, none⟩ = some (.int .i64 ((k : Int) + (j : Int) * 4 + 1 + 1 + 1))) ∧ Hid (Below wr.heap.size wr w')) (first | exact ⟨keep4 H3.out HH0.out, HH0⟩ | exact ⟨keep4 H3.out (HH0.out.trans (hb.mono (Nat.le_refl _))), Lib.hid (HH0.out.trans (hb.mono (Nat.le_refl _)))⟩) (first | (go_at_call 68; refine (laws_markText_calls (k + j * 4) _ (by omega) (by omega)).mono ?_; rintro e w' ⟨rfl, hb⟩))
      obtain ⟨⟨k0, k1, k2, k3⟩, HKB⟩ := ‹_ ∧ Hid (Below wr.heap.size wr w')›
      have n1 : (((k : Int) + (j : Int) * 4 + 1) != ((k : Int) + (j : Int) * 4 + 1)) = false := by simp
      have n2 : (((k : Int) + (j : Int) * 4 + 1 + 1) != ((k : Int) + (j : Int) * 4 + 1 + 1)) = false := by simp
      have n3 : (((k : Int) + (j : Int) * 4 + 1 + 1 + 1) != ((k : Int) + (j : Int) * 4 + 1 + 1 + 1)) = false := by simp
      clear hb hc0 hc1 hc2 hc3
      go_wp2
      go_roundw
      case rel => exact ⟨j + 1, by omega, by go_num, by go_num, HB.out.trans (HKB.out.mono HB.out.size)⟩
      case measure => simp [intOf]; omega
    · obtain rfl : j = n := by omega
      clear hbel
      go_wp2
      go_ret
      exact ⟨rfl, HB.out⟩
end Go.Proofs.YtaacpdejpcbbbaaGreatDoor

namespace Go.Proofs.YtaacpdejpcbbbaaGreatDoor
set_option linter.unusedVariables false
set_option linter.unusedSimpArgs false
open Go.RowKit
attribute [local go_sem] bs_size List.length_cons List.length_nil List.length_append

theorem keep3c {w w' : World} {a b c : Addr} {x y z : Value} (h : w.cell? a = some x ∧ w.cell? b = some y ∧ w.cell? c = some z) (hb : Below w.heap.size w w') : w'.cell? a = some x ∧ w'.cell? b = some y ∧ w'.cell? c = some z := by
  have k : ∀ {a : Addr} {x : Value}, w.cell? a = some x → w'.cell? a = some x := fun h => (hb.cell (World.block_lt_of_cell? w _ h)).trans h
  exact ⟨k h.1, k h.2.1, k h.2.2⟩
theorem acFlat_len (ls : List ActD) : (acFlat ls).length = ls.length * 4 := flat_len (f := acVals) (m := 4) (fun _ => rfl) ls

def mkFile (k : Nat) : FiD := (mText (k), mText (k + 1), ((k + 2 : Nat) : Int))
def marksFile (k n : Nat) : List FiD := (List.range n).map fun i => mkFile (k + i * 3)
theorem marksFile_length (k n : Nat) : (marksFile k n).length = n := by simp [marksFile]
theorem marksFile_get {k n i : Nat} (h : i < n) : (marksFile k n)[i]? = some (mkFile (k + i * 3)) := by simp [marksFile, h]
theorem marksFile_succ (k n : Nat) : marksFile k (n + 1) = marksFile k n ++ [mkFile (k + n * 3)] := by simp [marksFile, List.range_succ]
theorem marksFile_small {k n : Nat} (h : k + n * 3 ≤ 1000000000000) : ∀ x ∈ marksFile k n, x.1.size ≤ 9223372036854775807 ∧ x.2.1.size ≤ 9223372036854775807 := by
  intro s hs
  obtain ⟨i, hi, rfl⟩ := List.mem_map.1 hs
  have := List.mem_range.1 hi
  have h1 := mText_size (k + i * 3) (by omega)
  have h2 := mText_size (k + i * 3 + 1) (by omega)
  exact ⟨by show (mText (k + i * 3)).size ≤ _; omega, by show (mText (k + i * 3 + 1)).size ≤ _; omega⟩
theorem fiFlat_dropM {ds : List FiD} {j : Nat} (h : j < ds.length) (more : List Value) : fiFlat (ds.drop j) ++ more = fiVals ds[j] ++ (fiFlat (ds.drop (j + 1)) ++ more) := by
  unfold fiFlat
  rw [List.drop_eq_getElem_cons h, List.map_cons, List.flatten_cons, List.append_assoc]
/-- What markFileS does. -/
def MarkedFile (w : World) (B : Nat) (v : Value) (k n : Nat) (e : Ending) (w' : World) : Prop := e = .returned (.int .i64 ((k + n * 3 : Nat) : Int)) ∧ FiOwn w' B v (marksFile k n) ∧ w.grownBy w' v.ownBlock
theorem markFile_next {w wr : World} {b : Nat} {ty : TypeId} {k j : Nat} {x : FiD} {R : List Value} {v2 : Int} (h : MkAt w wr b ty (fiFlat (marksFile k j)) ((((fiVals x).set 0 (.string (mText (k + j * 3)))).set 1 (.string (mText (k + j * 3 + 1)))).set 2 (.int .i64 v2)) R) (h2 : v2 = ((k + j * 3 + 2 : Nat) : Int)) : MkAt w wr b ty (fiFlat (marksFile k (j + 1))) [] R := by
  subst h2
  rw [marksFile_succ, fiFlat_snoc]
  exact h.next (M' := []) rfl
theorem markFile_end {ds : List FiD} {k b B c : Nat} {more : List Value} {w wr : World} (h : MkAt w wr b 105 (fiFlat (marksFile k ds.length)) [] (fiFlat (ds.drop ds.length) ++ more)) (hc : (fiFlat ds ++ more).length = c * 3) (hm : c ≤ maxLen) (hB : B ≤ b) :
    MarkedFile w B (.slice (some ⟨b, 0, none⟩) ds.length c) k ds.length (.returned (.int .i64 ((k + ds.length * 3 : Nat) : Int))) wr := by
  have hl : (fiFlat (marksFile k ds.length)).length = ds.length * 3 := by rw [fiFlat_len, marksFile_length]
  have h1 := h.1
  rw [List.drop_length, List.nil_append, show fiFlat ([] : List FiD) = [] from rfl, List.nil_append] at h1
  rw [List.length_append, fiFlat_len] at hc
  refine ⟨rfl, ⟨by rw [marksFile_length]; exact hl, .inr ⟨b, c, _, by rw [marksFile_length], hB, h1, by rw [marksFile_length]; omega, hm, by simp [hl]; omega, ?_⟩⟩, h.2⟩
  rw [marksFile_length, ← hl]
  exact List.take_left' rfl
set_option maxHeartbeats 4000000 in
set_option maxRecDepth 100000 in
theorem laws_markFileS_own (B : Nat) (v : Value) (ds : List FiD) (k : Nat) (w : World) (h : FiOwn w B v ds) (h0 : 1 ≤ k) (h1 : k + ds.length * 3 ≤ 1000000000000) :
    Calls Tryz.prog 66 #[v, .int .i64 (k : Int)] w (MarkedFile w B v k ds.length) := by
  have hfl := h.1
  rcases h.2 with ⟨rfl, h00⟩ | ⟨b, c, cur, rfl, hB, hg, hn, hm, hc, ht⟩
  · obtain rfl := List.eq_nil_of_length_eq_zero h00
    go_enter Tryz.func66, Tryz.ntmps66
    go_wp2
    refine wp_loop_rounds 1 ?_
    rw [rounds_succ]
    go_wp2
    go_ret
    exact ⟨rfl, World.ownsRow_nil _ _ _ _, ⟨rfl, rfl, rfl, Nat.le_refl _, fun _ _ _ => rfl⟩⟩
  · have hl : ds.length ≤ 1000000000000 := by omega
    obtain ⟨more, hcur⟩ : ∃ more : List Value, cur.toList = fiFlat ds ++ more := ⟨cur.toList.drop (ds.length * 3), by rw [← ht, List.take_append_drop]⟩
    have hblk : w.heap[b]? = some (.cells (fiFlat ds ++ more).toArray 105 (0, 0)) := by rw [hg, ← hcur]
    have hst : Hid (MkAt w w b 105 (fiFlat (marksFile k 0)) [] (fiFlat (ds.drop 0) ++ more)) := ⟨hblk, rfl, rfl, rfl, Nat.le_refl _, fun _ _ _ => rfl⟩
    have HC : Hid ((fiFlat ds ++ more).length = c * 3) := by rw [Hid, ← hcur, Array.length_toList]; exact hc
    clear hblk hc ht hcur hg hfl
    go_enter Tryz.func66, Tryz.ntmps66
    go_wp2
    go_loopw [1, 5] (fun q i wr => ∃ j : Nat, j ≤ ds.length ∧ i = .int .i64 j ∧ q = .int .i64 ((k + j * 3 : Nat) : Int) ∧ MkAt w wr b 105 (fiFlat (marksFile k j)) [] (fiFlat (ds.drop j) ++ more)) (fun _ i _ => ds.length - (intOf i).toNat)
    case atStart => exact ⟨0, Nat.zero_le _, rfl, by go_num, hst.out⟩
    case round =>
      obtain ⟨j, hj, rfl, rfl, hrel⟩ := hrel
      by_cases hlt : j < ds.length
      · have hrel' : MkAt w wr b 105 (fiFlat (marksFile k j)) (fiVals ds[j]) (fiFlat (ds.drop (j + 1)) ++ more) := by
          have := hrel.next (M' := fiVals ds[j]) (R' := fiFlat (ds.drop (j + 1)) ++ more) (fiFlat_dropM hlt more)
          rwa [List.append_nil] at this
        have hPl : (fiFlat (marksFile k j)).length = j * 3 := by rw [fiFlat_len, marksFile_length]
        have HP := Lib.hid hPl
        have HT0 := Lib.hid hrel'
        clear hrel hrel' hPl
        have HM0 : Hid (∀ W, Calls Tryz.prog 68 #[.int .i64 (((k + j * 3 : Nat) : Int))] W fun e w' => e = .returned (.string (mText (k + j * 3))) ∧ Below W.heap.size W w') := by
          intro W
          exact laws_markText_calls (k + j * 3) W (by omega) (by omega)
        go_wp2_with fail
        go_at_call 68
        refine (HM0.out _).mono ?_
        rintro e w1 ⟨rfl, hb⟩
        have HT1 := Lib.hid (HT0.out.below hb)
        clear hb
        have f0 := HT1.out.fz (j * 3)
        have c0 := HT1.out.cell 0 (j * 3) (by rw [HP.out]; rfl) (by simp [fiVals])
        rw [show (fiVals ds[j])[0]? = some (.string (ds[j].1)) from rfl] at c0
        have HT2 := Lib.hid (HT1.out.set 0 (j * 3) (by rw [HP.out]; rfl) (by simp [fiVals]) (.string (mText (k + j * 3))))
        have HM1 : Hid (∀ W, Calls Tryz.prog 68 #[.int .i64 ((k : Int) + (j : Int) * 3 + 1)] W fun e w' => e = .returned (.string (mText (k + j * 3 + 1))) ∧ Below W.heap.size W w') := by
          intro W
          rw [show (k : Int) + (j : Int) * 3 + 1 = ((k + j * 3 + 1 : Nat) : Int) by omega]
          exact laws_markText_calls (k + j * 3 + 1) W (by omega) (by omega)
        go_wp2_with fail
        go_at_call 68
        refine (HM1.out _).mono ?_
        rintro e w2 ⟨rfl, hb⟩
        have HT3 := Lib.hid (HT2.out.below hb)
        clear hb
        have f1 := HT3.out.fz (j * 3 + 1)
        have c1 := HT3.out.cell 1 (j * 3 + 1) (by rw [HP.out]) (by simp [fiVals])
        rw [show ((fiVals ds[j]).set 0 (.string (mText (k + j * 3))))[1]? = some (.string (ds[j].2.1)) from rfl] at c1
        have HT4 := Lib.hid (HT3.out.set 1 (j * 3 + 1) (by rw [HP.out]) (by simp [fiVals]) (.string (mText (k + j * 3 + 1))))
        have f2 := HT4.out.fz (j * 3 + 2)
        have c2 := HT4.out.cell 2 (j * 3 + 2) (by rw [HP.out]) (by simp [fiVals])
        rw [show (((fiVals ds[j]).set 0 (.string (mText (k + j * 3)))).set 1 (.string (mText (k + j * 3 + 1))))[2]? = some (.int .i64 (ds[j].2.2)) from rfl] at c2
        have HT5 := Lib.hid (HT4.out.set 2 (j * 3 + 2) (by rw [HP.out]) (by simp [fiVals]) (.int .i64 ((k : Int) + (j : Int) * 3 + 1 + 1)))
        have HN := Lib.hid (markFile_next HT5.out (by omega))
        go_wp2
        go_roundw
        case rel => exact ⟨j + 1, by omega, by go_num, by go_num, HN.out⟩
        case measure => simp [intOf]; omega
      · obtain rfl : j = ds.length := by omega
        have HT := Lib.hid hrel
        clear hrel
        go_wp2
        go_ret
        exact markFile_end HT.out HC.out hm hB
set_option maxHeartbeats 4000000 in
set_option maxRecDepth 100000 in
theorem laws_heldFileS_calls (A : Option Addr) (c n : Nat) (k : Nat) (w : World) (h : FiRow w A c (marksFile k n)) (h0 : 1 ≤ k) (h1 : k + n * 3 ≤ 1000000000000) :
    Calls Tryz.prog 112 #[.slice A n c, .int .i64 (k : Int)] w fun e w' => e = .returned (.int .i64 ((k + n * 3 : Nat) : Int)) ∧ Below w.heap.size w w' := by
  have HR := Lib.hid h
  clear h
  go_enter Tryz.func112, Tryz.ntmps112
  go_wp2
  go_loopw [1, 5] (fun q i wr => ∃ j : Nat, j ≤ n ∧ i = .int .i64 j ∧ q = .int .i64 ((k + j * 3 : Nat) : Int) ∧ Below w.heap.size w wr) (fun _ i _ => n - (intOf i).toNat)
  case atStart => exact ⟨0, Nat.zero_le _, rfl, by go_num, Below.refl _ _⟩
  case round =>
    obtain ⟨j, hj, rfl, rfl, hbel⟩ := hrel
    have HB := Lib.hid hbel
    by_cases hlt : j < n
    · obtain ⟨ad, x, hA, HX, hz1, hz2, hc0, hc1, hc2⟩ := (HR.out.below hbel).at_ (k := j) (by rw [marksFile_length]; exact hlt)
      obtain rfl : mkFile (k + j * 3) = x := by
        have := HX.out
        rw [marksFile_get hlt] at this
        exact Option.some.inj this
      clear HX hbel
      cases hA
      unfold mkFile at hc0 hc1 hc2
      dsimp only at hz1 hz2 hc0 hc1 hc2
      rw [show ((k + j * 3 + 2 : Nat) : Int) = ((k : Int) + (j : Int) * 3 + 1 + 1) by omega] at hc2
      have n2 : (((k : Int) + (j : Int) * 3 + 1 + 1) != ((k : Int) + (j : Int) * 3 + 1 + 1)) = false := by simp
      have HM0 : Hid (∀ W, Calls Tryz.prog 68 #[.int .i64 (((k + j * 3 : Nat) : Int))] W fun e w' => e = .returned (.string (mText (k + j * 3))) ∧ Below W.heap.size W w') := by
        intro W
        exact laws_markText_calls (k + j * 3) W (by omega) (by omega)
      have H30 := Lib.hid (And.intro hc0 (And.intro hc1 hc2))
      have HH0 : Hid (Below wr.heap.size wr wr.drew) := Below.drew (Below.refl _ _)
      go_wp2_with fail
      go_region_held3 (fun w' => (w'.cell? (ad.add (j * 3)) = some (.string (mText (k + j * 3))) ∧ w'.cell? ⟨(ad.add (j * 3)).block, (ad.add (j * 3)).off + 1, none⟩ = some (.string (mText (k + j * 3 + 1))) ∧ w'.cell? ⟨(ad.add (j * 3)).block, (ad.add (j * 3)).off + 2, none⟩ = some (.int .i64 ((k : Int) + (j : Int) * 3 + 1 + 1))) ∧ Hid (Below wr.heap.size wr w')) (first | exact ⟨keep3c H30.out HH0.out, HH0⟩ | exact ⟨keep3c H30.out (HH0.out.trans (hb0.mono (Nat.le_refl _))), Lib.hid (HH0.out.trans (hb0.mono (Nat.le_refl _)))⟩) (first | (go_at_call 68; refine (HM0.out _).mono ?_; rintro e w5 ⟨rfl, hb0⟩))
      obtain ⟨⟨j00, j01, j02⟩, HKB0⟩ := ‹_ ∧ Hid (Below wr.heap.size wr w5)›
      have HB0 := Lib.hid (HB.out.trans (HKB0.out.mono HB.out.size))
      clear hb0 hc0 hc1 hc2
      have hc0 := j00
      have hc1 := j01
      have hc2 := j02
      clear j00 j01 j02
      have HM1 : Hid (∀ W, Calls Tryz.prog 68 #[.int .i64 ((k : Int) + (j : Int) * 3 + 1)] W fun e w' => e = .returned (.string (mText (k + j * 3 + 1))) ∧ Below W.heap.size W w') := by
        intro W
        rw [show (k : Int) + (j : Int) * 3 + 1 = ((k + j * 3 + 1 : Nat) : Int) by omega]
        exact laws_markText_calls (k + j * 3 + 1) W (by omega) (by omega)
      have H31 := Lib.hid (And.intro hc0 (And.intro hc1 hc2))
      have HH1 : Hid (Below w5.heap.size w5 w5.drew) := Below.drew (Below.refl _ _)
      go_wp2_with fail
      go_region_held3 (fun w' => (w'.cell? (ad.add (j * 3)) = some (.string (mText (k + j * 3))) ∧ w'.cell? ⟨(ad.add (j * 3)).block, (ad.add (j * 3)).off + 1, none⟩ = some (.string (mText (k + j * 3 + 1))) ∧ w'.cell? ⟨(ad.add (j * 3)).block, (ad.add (j * 3)).off + 2, none⟩ = some (.int .i64 ((k : Int) + (j : Int) * 3 + 1 + 1))) ∧ Hid (Below w5.heap.size w5 w')) (first | exact ⟨keep3c H31.out HH1.out, HH1⟩ | exact ⟨keep3c H31.out (HH1.out.trans (hb1.mono (Nat.le_refl _))), Lib.hid (HH1.out.trans (hb1.mono (Nat.le_refl _)))⟩) (first | (go_at_call 68; refine (HM1.out _).mono ?_; rintro e w6 ⟨rfl, hb1⟩))
      obtain ⟨⟨j10, j11, j12⟩, HKB1⟩ := ‹_ ∧ Hid (Below w5.heap.size w5 w6)›
      have HB1 := Lib.hid (HB0.out.trans (HKB1.out.mono HB0.out.size))
      clear hb1 hc0 hc1 hc2
      have hc0 := j10
      have hc1 := j11
      have hc2 := j12
      clear j10 j11 j12
      go_wp2
      go_roundw
      case rel => exact ⟨j + 1, by omega, by go_num, by go_num, HB1.out⟩
      case measure => simp [intOf]; omega
    · obtain rfl : j = n := by omega
      clear hbel
      go_wp2
      go_ret
      exact ⟨rfl, HB.out⟩
def mkAct (k : Nat) : ActD := (((k : Nat) : Int), mText (k + 1), mText (k + 2), mText (k + 3))
def marksAct (k n : Nat) : List ActD := (List.range n).map fun i => mkAct (k + i * 4)
theorem marksAct_length (k n : Nat) : (marksAct k n).length = n := by simp [marksAct]
theorem marksAct_get {k n i : Nat} (h : i < n) : (marksAct k n)[i]? = some (mkAct (k + i * 4)) := by simp [marksAct, h]
theorem marksAct_succ (k n : Nat) : marksAct k (n + 1) = marksAct k n ++ [mkAct (k + n * 4)] := by simp [marksAct, List.range_succ]
theorem acFlat_dropM {ds : List ActD} {j : Nat} (h : j < ds.length) (more : List Value) : acFlat (ds.drop j) ++ more = acVals ds[j] ++ (acFlat (ds.drop (j + 1)) ++ more) := by
  unfold acFlat
  rw [List.drop_eq_getElem_cons h, List.map_cons, List.flatten_cons, List.append_assoc]
/-- What markActS does. -/
def MarkedAct (w : World) (B : Nat) (v : Value) (k n : Nat) (e : Ending) (w' : World) : Prop := e = .returned (.int .i64 ((k + n * 4 : Nat) : Int)) ∧ AcOwn w' B v (marksAct k n) ∧ w.grownBy w' v.ownBlock
theorem markAct_next {w wr : World} {b : Nat} {ty : TypeId} {k j : Nat} {x : ActD} {R : List Value} {v0 : Int} (h : MkAt w wr b ty (acFlat (marksAct k j)) (((((acVals x).set 0 (.int .i64 v0)).set 1 (.string (mText (k + j * 4 + 1)))).set 2 (.string (mText (k + j * 4 + 2)))).set 3 (.string (mText (k + j * 4 + 3)))) R) (h0 : v0 = ((k + j * 4 : Nat) : Int)) : MkAt w wr b ty (acFlat (marksAct k (j + 1))) [] R := by
  subst h0
  rw [marksAct_succ, acFlat_snoc]
  exact h.next (M' := []) rfl
theorem markAct_end {ds : List ActD} {k b B c : Nat} {more : List Value} {w wr : World} (h : MkAt w wr b 96 (acFlat (marksAct k ds.length)) [] (acFlat (ds.drop ds.length) ++ more)) (hc : (acFlat ds ++ more).length = c * 4) (hm : c ≤ maxLen) (hB : B ≤ b) :
    MarkedAct w B (.slice (some ⟨b, 0, none⟩) ds.length c) k ds.length (.returned (.int .i64 ((k + ds.length * 4 : Nat) : Int))) wr := by
  have hl : (acFlat (marksAct k ds.length)).length = ds.length * 4 := by rw [acFlat_len, marksAct_length]
  have h1 := h.1
  rw [List.drop_length, List.nil_append, show acFlat ([] : List ActD) = [] from rfl, List.nil_append] at h1
  rw [List.length_append, acFlat_len] at hc
  refine ⟨rfl, ⟨by rw [marksAct_length]; exact hl, .inr ⟨b, c, _, by rw [marksAct_length], hB, h1, by rw [marksAct_length]; omega, hm, by simp [hl]; omega, ?_⟩⟩, h.2⟩
  rw [marksAct_length, ← hl]
  exact List.take_left' rfl
set_option maxHeartbeats 4000000 in
set_option maxRecDepth 100000 in
theorem laws_markActS_own (B : Nat) (v : Value) (ds : List ActD) (k : Nat) (w : World) (h : AcOwn w B v ds) (h0 : 1 ≤ k) (h1 : k + ds.length * 4 ≤ 1000000000000) :
    Calls Tryz.prog 27 #[v, .int .i64 (k : Int)] w (MarkedAct w B v k ds.length) := by
  have hfl := h.1
  rcases h.2 with ⟨rfl, h00⟩ | ⟨b, c, cur, rfl, hB, hg, hn, hm, hc, ht⟩
  · obtain rfl := List.eq_nil_of_length_eq_zero h00
    go_enter Tryz.func27, Tryz.ntmps27
    go_wp2
    refine wp_loop_rounds 1 ?_
    rw [rounds_succ]
    go_wp2
    go_ret
    exact ⟨rfl, World.ownsRow_nil _ _ _ _, ⟨rfl, rfl, rfl, Nat.le_refl _, fun _ _ _ => rfl⟩⟩
  · have hl : ds.length ≤ 1000000000000 := by omega
    obtain ⟨more, hcur⟩ : ∃ more : List Value, cur.toList = acFlat ds ++ more := ⟨cur.toList.drop (ds.length * 4), by rw [← ht, List.take_append_drop]⟩
    have hblk : w.heap[b]? = some (.cells (acFlat ds ++ more).toArray 96 (0, 0)) := by rw [hg, ← hcur]
    have hst : Hid (MkAt w w b 96 (acFlat (marksAct k 0)) [] (acFlat (ds.drop 0) ++ more)) := ⟨hblk, rfl, rfl, rfl, Nat.le_refl _, fun _ _ _ => rfl⟩
    have HC : Hid ((acFlat ds ++ more).length = c * 4) := by rw [Hid, ← hcur, Array.length_toList]; exact hc
    clear hblk hc ht hcur hg hfl
    go_enter Tryz.func27, Tryz.ntmps27
    go_wp2
    go_loopw [1, 5] (fun q i wr => ∃ j : Nat, j ≤ ds.length ∧ i = .int .i64 j ∧ q = .int .i64 ((k + j * 4 : Nat) : Int) ∧ MkAt w wr b 96 (acFlat (marksAct k j)) [] (acFlat (ds.drop j) ++ more)) (fun _ i _ => ds.length - (intOf i).toNat)
    case atStart => exact ⟨0, Nat.zero_le _, rfl, by go_num, hst.out⟩
    case round =>
      obtain ⟨j, hj, rfl, rfl, hrel⟩ := hrel
      by_cases hlt : j < ds.length
      · have hrel' : MkAt w wr b 96 (acFlat (marksAct k j)) (acVals ds[j]) (acFlat (ds.drop (j + 1)) ++ more) := by
          have := hrel.next (M' := acVals ds[j]) (R' := acFlat (ds.drop (j + 1)) ++ more) (acFlat_dropM hlt more)
          rwa [List.append_nil] at this
        have hPl : (acFlat (marksAct k j)).length = j * 4 := by rw [acFlat_len, marksAct_length]
        have HP := Lib.hid hPl
        have HT0 := Lib.hid hrel'
        clear hrel hrel' hPl
        have f0 := HT0.out.fz (j * 4)
        have c0 := HT0.out.cell 0 (j * 4) (by rw [HP.out]; rfl) (by simp [acVals])
        rw [show (acVals ds[j])[0]? = some (.int .i64 (ds[j].1)) from rfl] at c0
        have HT1 := Lib.hid (HT0.out.set 0 (j * 4) (by rw [HP.out]; rfl) (by simp [acVals]) (.int .i64 (((k + j * 4 : Nat) : Int))))
        have HM1 : Hid (∀ W, Calls Tryz.prog 68 #[.int .i64 ((k : Int) + (j : Int) * 4 + 1)] W fun e w' => e = .returned (.string (mText (k + j * 4 + 1))) ∧ Below W.heap.size W w') := by
          intro W
          rw [show (k : Int) + (j : Int) * 4 + 1 = ((k + j * 4 + 1 : Nat) : Int) by omega]
          exact laws_markText_calls (k + j * 4 + 1) W (by omega) (by omega)
        go_wp2_with fail
        go_at_call 68
        refine (HM1.out _).mono ?_
        rintro e w2 ⟨rfl, hb⟩
        have HT2 := Lib.hid (HT1.out.below hb)
        clear hb
        have f1 := HT2.out.fz (j * 4 + 1)
        have c1 := HT2.out.cell 1 (j * 4 + 1) (by rw [HP.out]) (by simp [acVals])
        rw [show ((acVals ds[j]).set 0 (.int .i64 (((k + j * 4 : Nat) : Int))))[1]? = some (.string (ds[j].2.1)) from rfl] at c1
        have HT3 := Lib.hid (HT2.out.set 1 (j * 4 + 1) (by rw [HP.out]) (by simp [acVals]) (.string (mText (k + j * 4 + 1))))
        have HM2 : Hid (∀ W, Calls Tryz.prog 68 #[.int .i64 ((k : Int) + (j : Int) * 4 + 1 + 1)] W fun e w' => e = .returned (.string (mText (k + j * 4 + 2))) ∧ Below W.heap.size W w') := by
          intro W
          rw [show (k : Int) + (j : Int) * 4 + 1 + 1 = ((k + j * 4 + 2 : Nat) : Int) by omega]
          exact laws_markText_calls (k + j * 4 + 2) W (by omega) (by omega)
        go_wp2_with fail
        go_at_call 68
        refine (HM2.out _).mono ?_
        rintro e w3 ⟨rfl, hb⟩
        have HT4 := Lib.hid (HT3.out.below hb)
        clear hb
        have f2 := HT4.out.fz (j * 4 + 2)
        have c2 := HT4.out.cell 2 (j * 4 + 2) (by rw [HP.out]) (by simp [acVals])
        rw [show (((acVals ds[j]).set 0 (.int .i64 (((k + j * 4 : Nat) : Int)))).set 1 (.string (mText (k + j * 4 + 1))))[2]? = some (.string (ds[j].2.2.1)) from rfl] at c2
        have HT5 := Lib.hid (HT4.out.set 2 (j * 4 + 2) (by rw [HP.out]) (by simp [acVals]) (.string (mText (k + j * 4 + 2))))
        have HM3 : Hid (∀ W, Calls Tryz.prog 68 #[.int .i64 ((k : Int) + (j : Int) * 4 + 1 + 1 + 1)] W fun e w' => e = .returned (.string (mText (k + j * 4 + 3))) ∧ Below W.heap.size W w') := by
          intro W
          rw [show (k : Int) + (j : Int) * 4 + 1 + 1 + 1 = ((k + j * 4 + 3 : Nat) : Int) by omega]
          exact laws_markText_calls (k + j * 4 + 3) W (by omega) (by omega)
        go_wp2_with fail
        go_at_call 68
        refine (HM3.out _).mono ?_
        rintro e w4 ⟨rfl, hb⟩
        have HT6 := Lib.hid (HT5.out.below hb)
        clear hb
        have f3 := HT6.out.fz (j * 4 + 3)
        have c3 := HT6.out.cell 3 (j * 4 + 3) (by rw [HP.out]) (by simp [acVals])
        rw [show ((((acVals ds[j]).set 0 (.int .i64 (((k + j * 4 : Nat) : Int)))).set 1 (.string (mText (k + j * 4 + 1)))).set 2 (.string (mText (k + j * 4 + 2))))[3]? = some (.string (ds[j].2.2.2)) from rfl] at c3
        have HT7 := Lib.hid (HT6.out.set 3 (j * 4 + 3) (by rw [HP.out]) (by simp [acVals]) (.string (mText (k + j * 4 + 3))))
        have HN := Lib.hid (markAct_next HT7.out (by omega))
        go_wp2
        go_roundw
        case rel => exact ⟨j + 1, by omega, by go_num, by go_num, HN.out⟩
        case measure => simp [intOf]; omega
      · obtain rfl : j = ds.length := by omega
        have HT := Lib.hid hrel
        clear hrel
        go_wp2
        go_ret
        exact markAct_end HT.out HC.out hm hB
set_option maxHeartbeats 4000000 in
set_option maxRecDepth 100000 in
theorem laws_heldActS_calls (A : Option Addr) (c n : Nat) (k : Nat) (w : World) (h : AcRow w A c (marksAct k n)) (h0 : 1 ≤ k) (h1 : k + n * 4 ≤ 1000000000000) :
    Calls Tryz.prog 29 #[.slice A n c, .int .i64 (k : Int)] w fun e w' => e = .returned (.int .i64 ((k + n * 4 : Nat) : Int)) ∧ Below w.heap.size w w' := by
  have HR := Lib.hid h
  clear h
  go_enter Tryz.func29, Tryz.ntmps29
  go_wp2
  go_loopw [1, 5] (fun q i wr => ∃ j : Nat, j ≤ n ∧ i = .int .i64 j ∧ q = .int .i64 ((k + j * 4 : Nat) : Int) ∧ Below w.heap.size w wr) (fun _ i _ => n - (intOf i).toNat)
  case atStart => exact ⟨0, Nat.zero_le _, rfl, by go_num, Below.refl _ _⟩
  case round =>
    obtain ⟨j, hj, rfl, rfl, hbel⟩ := hrel
    have HB := Lib.hid hbel
    by_cases hlt : j < n
    · obtain ⟨ad, x, hA, HX, hc0, hc1, hc2, hc3⟩ := (HR.out.below hbel).at_ (k := j) (by rw [marksAct_length]; exact hlt)
      obtain rfl : mkAct (k + j * 4) = x := by
        have := HX.out
        rw [marksAct_get hlt] at this
        exact Option.some.inj this
      clear HX hbel
      cases hA
      unfold mkAct at hc0 hc1 hc2 hc3
      dsimp only at hc0 hc1 hc2 hc3
      have n0 : ((((k + j * 4 : Nat) : Int)) != (((k + j * 4 : Nat) : Int))) = false := by simp
      have n0' : (((k : Int) + (j : Int) * 4) != ((k : Int) + (j : Int) * 4)) = false := by simp
      have HM1 : Hid (∀ W, Calls Tryz.prog 68 #[.int .i64 ((k : Int) + (j : Int) * 4 + 1)] W fun e w' => e = .returned (.string (mText (k + j * 4 + 1))) ∧ Below W.heap.size W w') := by
        intro W
        rw [show (k : Int) + (j : Int) * 4 + 1 = ((k + j * 4 + 1 : Nat) : Int) by omega]
        exact laws_markText_calls (k + j * 4 + 1) W (by omega) (by omega)
      have H30 := Lib.hid (And.intro hc0 (And.intro hc1 (And.intro hc2 hc3)))
      have HH0 : Hid (Below wr.heap.size wr wr.drew) := Below.drew (Below.refl _ _)
      go_wp2_with fail
      go_region_held3 (fun w' => (w'.cell? (ad.add (j * 4)) = some (.int .i64 (((k + j * 4 : Nat) : Int))) ∧ w'.cell? ⟨(ad.add (j * 4)).block, (ad.add (j * 4)).off + 1, none⟩ = some (.string (mText (k + j * 4 + 1))) ∧ w'.cell? ⟨(ad.add (j * 4)).block, (ad.add (j * 4)).off + 2, none⟩ = some (.string (mText (k + j * 4 + 2))) ∧ w'.cell? ⟨(ad.add (j * 4)).block, (ad.add (j * 4)).off + 3, none⟩ = some (.string (mText (k + j * 4 + 3)))) ∧ Hid (Below wr.heap.size wr w')) (first | exact ⟨keep4 H30.out HH0.out, HH0⟩ | exact ⟨keep4 H30.out (HH0.out.trans (hb0.mono (Nat.le_refl _))), Lib.hid (HH0.out.trans (hb0.mono (Nat.le_refl _)))⟩) (first | (go_at_call 68; refine (HM1.out _).mono ?_; rintro e w5 ⟨rfl, hb0⟩))
      obtain ⟨⟨j00, j01, j02, j03⟩, HKB0⟩ := ‹_ ∧ Hid (Below wr.heap.size wr w5)›
      have HB0 := Lib.hid (HB.out.trans (HKB0.out.mono HB.out.size))
      clear hb0 hc0 hc1 hc2 hc3
      have hc0 := j00
      have hc1 := j01
      have hc2 := j02
      have hc3 := j03
      clear j00 j01 j02 j03
      have HM2 : Hid (∀ W, Calls Tryz.prog 68 #[.int .i64 ((k : Int) + (j : Int) * 4 + 1 + 1)] W fun e w' => e = .returned (.string (mText (k + j * 4 + 2))) ∧ Below W.heap.size W w') := by
        intro W
        rw [show (k : Int) + (j : Int) * 4 + 1 + 1 = ((k + j * 4 + 2 : Nat) : Int) by omega]
        exact laws_markText_calls (k + j * 4 + 2) W (by omega) (by omega)
      have H31 := Lib.hid (And.intro hc0 (And.intro hc1 (And.intro hc2 hc3)))
      have HH1 : Hid (Below w5.heap.size w5 w5.drew) := Below.drew (Below.refl _ _)
      go_wp2_with fail
      go_region_held3 (fun w' => (w'.cell? (ad.add (j * 4)) = some (.int .i64 (((k + j * 4 : Nat) : Int))) ∧ w'.cell? ⟨(ad.add (j * 4)).block, (ad.add (j * 4)).off + 1, none⟩ = some (.string (mText (k + j * 4 + 1))) ∧ w'.cell? ⟨(ad.add (j * 4)).block, (ad.add (j * 4)).off + 2, none⟩ = some (.string (mText (k + j * 4 + 2))) ∧ w'.cell? ⟨(ad.add (j * 4)).block, (ad.add (j * 4)).off + 3, none⟩ = some (.string (mText (k + j * 4 + 3)))) ∧ Hid (Below w5.heap.size w5 w')) (first | exact ⟨keep4 H31.out HH1.out, HH1⟩ | exact ⟨keep4 H31.out (HH1.out.trans (hb1.mono (Nat.le_refl _))), Lib.hid (HH1.out.trans (hb1.mono (Nat.le_refl _)))⟩) (first | (go_at_call 68; refine (HM2.out _).mono ?_; rintro e w6 ⟨rfl, hb1⟩))
      obtain ⟨⟨j10, j11, j12, j13⟩, HKB1⟩ := ‹_ ∧ Hid (Below w5.heap.size w5 w6)›
      have HB1 := Lib.hid (HB0.out.trans (HKB1.out.mono HB0.out.size))
      clear hb1 hc0 hc1 hc2 hc3
      have hc0 := j10
      have hc1 := j11
      have hc2 := j12
      have hc3 := j13
      clear j10 j11 j12 j13
      have HM3 : Hid (∀ W, Calls Tryz.prog 68 #[.int .i64 ((k : Int) + (j : Int) * 4 + 1 + 1 + 1)] W fun e w' => e = .returned (.string (mText (k + j * 4 + 3))) ∧ Below W.heap.size W w') := by
        intro W
        rw [show (k : Int) + (j : Int) * 4 + 1 + 1 + 1 = ((k + j * 4 + 3 : Nat) : Int) by omega]
        exact laws_markText_calls (k + j * 4 + 3) W (by omega) (by omega)
      have H32 := Lib.hid (And.intro hc0 (And.intro hc1 (And.intro hc2 hc3)))
      have HH2 : Hid (Below w6.heap.size w6 w6.drew) := Below.drew (Below.refl _ _)
      go_wp2_with fail
      go_region_held3 (fun w' => (w'.cell? (ad.add (j * 4)) = some (.int .i64 (((k + j * 4 : Nat) : Int))) ∧ w'.cell? ⟨(ad.add (j * 4)).block, (ad.add (j * 4)).off + 1, none⟩ = some (.string (mText (k + j * 4 + 1))) ∧ w'.cell? ⟨(ad.add (j * 4)).block, (ad.add (j * 4)).off + 2, none⟩ = some (.string (mText (k + j * 4 + 2))) ∧ w'.cell? ⟨(ad.add (j * 4)).block, (ad.add (j * 4)).off + 3, none⟩ = some (.string (mText (k + j * 4 + 3)))) ∧ Hid (Below w6.heap.size w6 w')) (first | exact ⟨keep4 H32.out HH2.out, HH2⟩ | exact ⟨keep4 H32.out (HH2.out.trans (hb2.mono (Nat.le_refl _))), Lib.hid (HH2.out.trans (hb2.mono (Nat.le_refl _)))⟩) (first | (go_at_call 68; refine (HM3.out _).mono ?_; rintro e w7 ⟨rfl, hb2⟩))
      obtain ⟨⟨j20, j21, j22, j23⟩, HKB2⟩ := ‹_ ∧ Hid (Below w6.heap.size w6 w7)›
      have HB2 := Lib.hid (HB1.out.trans (HKB2.out.mono HB1.out.size))
      clear hb2 hc0 hc1 hc2 hc3
      have hc0 := j20
      have hc1 := j21
      have hc2 := j22
      have hc3 := j23
      clear j20 j21 j22 j23
      go_wp2
      go_roundw
      case rel => exact ⟨j + 1, by omega, by go_num, by go_num, HB2.out⟩
      case measure => simp [intOf]; omega
    · obtain rfl : j = n := by omega
      clear hbel
      go_wp2
      go_ret
      exact ⟨rfl, HB.out⟩
end Go.Proofs.YtaacpdejpcbbbaaGreatDoor

namespace Go.Proofs.YtaacpdejpcbbbaaGreatDoor
set_option linter.unusedVariables false
set_option linter.unusedSimpArgs false
open Go.RowKit
attribute [local go_sem] bs_size List.length_cons List.length_nil List.length_append

/-- A block of n files. -/
def FBlk (w : World) (b n : Nat) : Prop := ∃ cs : Array Value, w.heap[b]? = some (.cells cs 105 (0, 0)) ∧ cs.size = n * 3
section
variable {w w' : World} {b n : Nat}
theorem FBlk.below (h : FBlk w b n) (hb : Below w.heap.size w w') : FBlk w' b n := by
  obtain ⟨cs, h1, h2⟩ := h
  exact ⟨cs, blk_below h1 hb, h2⟩
theorem FBlk.set (h : FBlk w b n) (i : Nat) (v : Value) : FBlk (w.setCell ⟨b, i, none⟩ v) b n := by
  obtain ⟨cs, h1, h2⟩ := h
  exact ⟨_, blk_set h1 i v, by simp [h2]⟩
theorem FBlk.other {g i : Nat} {v : Value} (h : FBlk w b n) (hne : b ≠ g) : FBlk (w.setCell ⟨g, i, none⟩ v) b n := by
  obtain ⟨cs, h1, h2⟩ := h
  exact ⟨cs, set_far h1 hne, h2⟩
theorem FBlk.at_ (h : FBlk w b n) {i : Nat} (hi : i < n * 3) : ∃ a, w.cell? ⟨b, i, none⟩ = some a ∧ w.frozen? ⟨b, i, none⟩ = false := by
  obtain ⟨cs, h1, h2⟩ := h
  exact ⟨cs[i]'(by omega), (blk_cell h1 i).trans (Array.getElem?_eq_getElem (by omega)), blk_frozen h1 i⟩
theorem FBlk.lt (h : FBlk w b n) : b < w.heap.size := by
  obtain ⟨cs, h1, _⟩ := h
  exact blk_lt h1
end
theorem FBlk.of {fs : List FiD} {B : Nat} {w wr : World} (h : ToF fs B w fs.length wr) : FBlk wr B fs.length := by
  obtain ⟨_, cs, h2, h3, _⟩ := h
  exact ⟨cs, h2, h3⟩
def NewFs2 (w : World) (fs : List FiD) (e : Ending) (w' : World) : Prop := ∃ b, e = .returned (.slice (some ⟨b, 0, none⟩) fs.length fs.length) ∧ w.heap.size ≤ b ∧ FiRow w' (some ⟨b, 0, none⟩) fs.length fs ∧ FBlk w' b fs.length ∧ Below w.heap.size w w'
def DiskNew2 (w : World) (fs : List FiD) (e : Ending) (w' : World) : Prop := ∃ b, e = .returned (.agg #[.slice (some ⟨b, 0, none⟩) fs.length fs.length]) ∧ w.heap.size ≤ b ∧ FiRow w' (some ⟨b, 0, none⟩) fs.length fs ∧ FBlk w' b fs.length ∧ Below w.heap.size w w'
set_option maxHeartbeats 1000000 in
set_option maxRecDepth 100000 in
theorem laws_toFileS_own (A : Option Addr) (c : Nat) (fs : List FiD) (w : World) (h : FiRow w A c fs) (hn : fs.length ≤ 1048576) :
    Calls Tryz.prog 56 #[.slice A fs.length c] w (NewFs2 w fs) := by
  obtain ⟨i0, hi0, hz, hsz, hby⟩ := info_parts info_fil
  have HR := Lib.hid h
  clear h
  have km : ∀ W : World, (Instr.makeSlice 30 (.int .i64 (fs.length : Int)) (.int .i64 (fs.length : Int))).run Tryz.prog W = .ok (.slice (some ⟨W.heap.size, 0, none⟩) fs.length fs.length) (W.alloc (.cells (madeCells #[.string ⟨#[]⟩, .string ⟨#[]⟩, .int .i64 0] (fs.length * 3)) 105)) := fun W => by
    have := run_make (P := Tryz.prog) W 30 105 i0 _ Tryz.underlying30 hi0 hz .i64 .i64 fs.length fs.length (by omega) (Int.le_refl _) (by rw [hby]; omega) (by omega)
    rw [hsz] at this
    simp only [Int.toNat_natCast] at this
    exact this
  go_enter Tryz.func56, Tryz.ntmps56
  go_wp2
  go_loopw [4] (fun i wr => ∃ k : Nat, k ≤ fs.length ∧ i = .int .i64 k ∧ Hid (ToF fs w.heap.size w k wr)) (fun i _ => fs.length - (intOf i).toNat)
  case atStart => exact ⟨0, Nat.zero_le _, rfl, (Below.refl _ _).alloc (Nat.le_refl _) _, _, blk_new w _, size_madeCells _ _, fun j x hj => by omega⟩
  case round =>
    obtain ⟨k, hk, rfl, HT⟩ := hrel
    by_cases hlt : k < fs.length
    · obtain ⟨ad, x, hA, HX, hz1, hz2, hc0, hc1, hc2⟩ := (HR.out.below HT.out.1).at_ hlt
      cases hA
      obtain ⟨n, t, g⟩ := x
      dsimp only at hz1 hz2 hc0 hc1 hc2
      go_wp2_with fail
      go_at_call 103
      refine (laws_toFile_calls n t g _).mono ?_
      rintro e w1 ⟨rfl, hb⟩
      have HT1 := Lib.hid (HT.out.below HT.out.lt (Nat.le_of_lt HT.out.lt) hb)
      obtain ⟨a0, a1, a2, d0, d1, d2, f0, f1, f2⟩ := HT1.out.cells hlt
      have HT2 := Lib.hid (HT1.out.step HX.out)
      clear hb
      go_wp2
      go_roundw
      case rel => first | exact ⟨k + 1, by omega, by go_num, HT2⟩ | (repeat (first | (refine ⟨?relx, rfl⟩; exact ⟨k + 1, by omega, by go_num, HT2⟩) | (refine ⟨?relx, ?eqs⟩; (case eqs => (and_intros <;> rfl)); exact ⟨k + 1, by omega, by go_num, HT2⟩) | apply Exists.intro))
      case measure => simp [intOf]; omega
    · obtain rfl : k = fs.length := by omega
      have hrow := HT.out.row HR.out.2.2.1 hn
      have HROW := Lib.hid hrow
      have HTB := Lib.hid (FBlk.of HT.out)
      clear hrow
      go_wp2
      go_ret
      exact ⟨_, rfl, Nat.le_refl _, HROW.out, HTB.out, HT.out.1⟩
set_option maxRecDepth 100000 in
theorem laws_toDisk_own (A : Option Addr) (c : Nat) (fs : List FiD) (w : World) (h : FiRow w A c fs) (hn : fs.length ≤ 1048576) :
    Calls Tryz.prog 21 #[.agg #[.slice A fs.length c]] w (DiskNew2 w fs) := by
  obtain ⟨fsx, hu⟩ := und_disk
  have s1 : (w.alloc (.cells #[.slice A fs.length c] 24)).heap.size = w.heap.size + 1 := by simp
  have s2 : ((w.alloc (.cells #[.slice A fs.length c] 24)).alloc zDisk).heap.size = w.heap.size + 1 + 1 := by simp
  have HAL : Hid (Below w.heap.size w (((w.alloc (.cells #[.slice A fs.length c] 24)).alloc zDisk).alloc zDisk)) := (((Below.refl _ _).alloc (Nat.le_refl _) _).alloc (by simp) _).alloc (by simp; omega) _
  have HR := Lib.hid (h.below HAL.out)
  have k1 : Hid ((((w.alloc (.cells #[.slice A fs.length c] 24)).alloc zDisk).alloc zDisk).heap[w.heap.size + 1]? = some zDisk) := by
    have := blk_new (w.alloc (.cells #[.slice A fs.length c] 24)) zDisk
    rw [s1] at this
    exact alloc_far this _
  have k2 : Hid ((((w.alloc (.cells #[.slice A fs.length c] 24)).alloc zDisk).alloc zDisk).heap[w.heap.size + 1 + 1]? = some zDisk) := by
    have := blk_new ((w.alloc (.cells #[.slice A fs.length c] 24)).alloc zDisk) zDisk
    rw [s2] at this
    exact this
  have HS : Hid ((((w.alloc (.cells #[.slice A fs.length c] 24)).alloc zDisk).alloc zDisk).heap.size = w.heap.size + 3) := by rw [Hid]; simp
  clear h s1 s2
  go_enter Tryz.func21, Tryz.ntmps21
  go_wp2_with fail
  go_at_call 56
  refine (laws_toFileS_own A c fs _ HR.out hn).mono ?_
  rintro e w1 ⟨b, rfl, hb0, hrow, hfb, hb⟩
  have HFB := Lib.hid hfb
  have K1 := Lib.hid (blk_below k1.out hb)
  have K2 := Lib.hid (blk_below k2.out hb)
  have HROW := Lib.hid hrow
  have HB0 : Hid (w.heap.size + 3 ≤ b) := by rw [Hid, ← HS.out]; exact hb0
  have HB1 := Lib.hid (HAL.out.trans (hb.mono HAL.out.size))
  have f1 := blk_frozen K1.out 0
  have c1 := blk_cell K1.out 0
  have f2 := blk_frozen K2.out 0
  have c2 := blk_cell K2.out 0
  clear hb hb0 hrow hfb
  go_wp2
  have hne : w.heap.size + 1 ≠ w.heap.size + 1 + 1 := by omega
  have hset : ((w1.setCell ⟨w.heap.size + 1 + 1, 0, none⟩ (.slice (some ⟨b, 0, none⟩) fs.length fs.length)).setCell ⟨w.heap.size + 1, 0, none⟩ (.slice (some ⟨b, 0, none⟩) fs.length fs.length)).heap[w.heap.size + 1]? = some (.cells #[.slice (some ⟨b, 0, none⟩) fs.length fs.length] 32 (0, 0)) := by
    rw [blk_set (set_far K1.out hne) 0]
    rfl
  have hb3 := HB0.out
  exact res_one rfl hset rfl hu info_dsk ⟨b, rfl, by omega, (HROW.out.set (by omega)).set (by omega), (HFB.out.other (by omega)).other (by omega), (HB1.out.setCell (by show w.heap.size ≤ w.heap.size + 1 + 1; omega) _).setCell (by show w.heap.size ≤ w.heap.size + 1; omega) _⟩
set_option maxHeartbeats 1000000 in
set_option maxRecDepth 100000 in
theorem laws_markFileS_calls (b n k : Nat) (w : World) (h : FBlk w b n) (h0 : 1 ≤ k) (h1 : k + n * 3 ≤ 1000000000) :
    Calls Tryz.prog 66 #[.slice (some ⟨b, 0, none⟩) n n, .int .i64 (k : Int)] w fun e w' => e = .returned (.int .i64 ((k + n * 3 : Nat) : Int)) ∧ w.grownBy w' (some b) := by
  have HF := Lib.hid h
  clear h
  go_enter Tryz.func66, Tryz.ntmps66
  go_wp2
  go_loopw [1, 5] (fun q i wr => ∃ j : Nat, j ≤ n ∧ i = .int .i64 j ∧ q = .int .i64 ((k + j * 3 : Nat) : Int) ∧ Hid (FBlk wr b n) ∧ Hid (w.grownBy wr (some b))) (fun _ i _ => n - (intOf i).toNat)
  case atStart => exact ⟨0, Nat.zero_le _, rfl, by go_num, HF, World.grownBy.refl _ _⟩
  case round =>
    obtain ⟨j, hj, rfl, rfl, HB, HG⟩ := hrel
    by_cases hlt : j < n
    · go_wp2_with fail
      go_at_call 68
      refine (laws_markText_calls (k + j * 3) _ (by omega) (by omega)).mono ?_
      rintro e w1 ⟨rfl, hb⟩
      have HB1 := Lib.hid (HB.out.below hb)
      have HG1 := Lib.hid (grownBy_below HG.out hb)
      obtain ⟨a0, c0, f0⟩ := HB1.out.at_ (i := j * 3) (by omega)
      have HB2 := Lib.hid (HB1.out.set (j * 3) (.string (mText (k + j * 3))))
      have HG2 := Lib.hid (grownBy_set HG1.out (j * 3) (.string (mText (k + j * 3))))
      clear hb
      go_wp2_with fail
      go_at_call 68
      rw [show (k : Int) + (j : Int) * 3 + 1 = ((k + j * 3 + 1 : Nat) : Int) by omega]
      refine (laws_markText_calls (k + j * 3 + 1) _ (by omega) (by omega)).mono ?_
      rintro e w2 ⟨rfl, hb⟩
      have HB3 := Lib.hid (HB2.out.below hb)
      have HG3 := Lib.hid (grownBy_below HG2.out hb)
      obtain ⟨a1, c1, f1⟩ := HB3.out.at_ (i := j * 3 + 1) (by omega)
      have HB4 := Lib.hid (HB3.out.set (j * 3 + 1) (.string (mText (k + j * 3 + 1))))
      have HG4 := Lib.hid (grownBy_set HG3.out (j * 3 + 1) (.string (mText (k + j * 3 + 1))))
      obtain ⟨a2, c2, f2⟩ := HB4.out.at_ (i := j * 3 + 2) (by omega)
      have HB5 := Lib.hid (fun v => HB4.out.set (j * 3 + 2) v)
      have HG5 := Lib.hid (fun v => grownBy_set HG4.out (j * 3 + 2) v)
      clear hb
      go_wp2
      go_roundw
      case rel => exact ⟨j + 1, by omega, by go_num, by go_num, HB5.out _, HG5.out _⟩
      case measure => simp [intOf]; omega
    · obtain rfl : j = n := by omega
      go_wp2
      go_ret
      exact ⟨by go_num, HG.out⟩
set_option maxRecDepth 100000 in
theorem laws_markDisk_calls (b n k : Nat) (w : World) (h : FBlk w b n) (h0 : 1 ≤ k) (h1 : k + n * 3 ≤ 1000000000) :
    Calls Tryz.prog 25 #[.agg #[.slice (some ⟨b, 0, none⟩) n n], .int .i64 (k : Int)] w fun e w' => e = .returned (.int .i64 ((k + n * 3 : Nat) : Int)) ∧ w.grownBy w' (some b) := by
  have HAL : Hid (Below w.heap.size w (w.alloc (.cells #[.slice (some ⟨b, 0, none⟩) n n] 32))) := (Below.refl _ _).alloc (Nat.le_refl _) _
  have HF := Lib.hid (h.below HAL.out)
  clear h
  go_enter Tryz.func25, Tryz.ntmps25
  go_wp2_with fail
  go_at_call 66
  refine (laws_markFileS_calls b n k _ HF.out h0 h1).mono ?_
  rintro e w1 ⟨rfl, hg⟩
  have HG := Lib.hid (gr_trans (World.grownBy_alloc w (.cells #[.slice (some ⟨b, 0, none⟩) n n] 32) (some b)) hg)
  clear hg
  go_wp2
  go_ret
  exact ⟨rfl, HG.out⟩
end Go.Proofs.YtaacpdejpcbbbaaGreatDoor

namespace Go.Proofs.YtaacpdejpcbbbaaGreatDoor
set_option linter.unusedVariables false
set_option linter.unusedSimpArgs false
open Go.RowKit
attribute [local go_sem] bs_size List.length_cons List.length_nil

set_option maxRecDepth 100000 in
theorem laws_szSpotS_calls (A : Option Addr) (c : Nat) (ds : List SpotD) (left : Int) (w : World) (h : SpRow w A c ds) (h0 : 0 ≤ left) (h1 : left ≤ 1048576) :
    Calls Tryz.prog 30 #[.slice A ds.length c, .int .i64 left] w fun e w' => SzLe left ds.length e ∧ Below w.heap.size w w' := by
  have hl := h.len
  have HR := Lib.hid h
  clear h
  by_cases hn : left - (ds.length : Int) < 0
  · go_enter Tryz.func30, Tryz.ntmps30
    go_wp2
    go_ret
    exact ⟨szLe_neg _ _ _ (by omega), Below.refl _ _⟩
  · have HLE : Hid ((ds.length : Int) ≤ left) := by rw [Hid]; omega
    go_enter Tryz.func30, Tryz.ntmps30
    go_wp2
    go_loopw [1, 5] (fun v i wr => ∃ (k : Nat) (r : Int), k ≤ ds.length ∧ i = .int .i64 k ∧ v = .int .i64 r ∧ 0 ≤ r ∧ r ≤ left ∧ Hid (Below w.heap.size w wr)) (fun _ i _ => ds.length - (intOf i).toNat)
    case atStart => exact ⟨0, _, Nat.zero_le _, rfl, rfl, by omega, by omega, Below.refl _ _⟩
    case round =>
      obtain ⟨k, r, hk, rfl, rfl, hr0, hr1, HB⟩ := hrel
      by_cases hlt : k < ds.length
      · obtain ⟨ad, x, hA, HX, hz1, hc0, hc1, hc2, hc3⟩ := (HR.out.below HB.out).at_ hlt
        cases hA
        obtain ⟨n, g, p, q⟩ := x
        dsimp only at hz1 hc0 hc1 hc2 hc3
        go_wp2_with fail
        go_at_call 71
        refine (laws_szSpot_calls n g p q r _ hr0 (by omega) hz1).mono ?_
        rintro e w1 ⟨⟨y, rfl, hy⟩, hb⟩
        have HB1 := Lib.hid (HB.out.trans (hb.mono HB.out.size))
        clear hb
        rcases hy with hy | ⟨hy0, hy1, _⟩
        · go_wp2
          go_ret
          exact ⟨szLe_neg _ _ _ (by omega), HB1.out⟩
        · go_wp2
          go_roundw
          case rel => first | exact ⟨k + 1, y, by omega, by go_num, rfl, by omega, by omega, HB1⟩ | (repeat (first | (refine ⟨?relx, rfl⟩; exact ⟨k + 1, y, by omega, by go_num, rfl, by omega, by omega, HB1⟩) | (refine ⟨?relx, ?eqs⟩; (case eqs => (and_intros <;> rfl)); exact ⟨k + 1, y, by omega, by go_num, rfl, by omega, by omega, HB1⟩) | apply Exists.intro))
          case measure => simp [intOf]; omega
      · obtain rfl : k = ds.length := by omega
        go_wp2
        go_ret
        exact ⟨⟨r, rfl, .inr ⟨hr0, hr1, HLE.out⟩⟩, HB.out⟩
/-- The spots copied so far. -/
def ToS (ds : List SpotD) (B : Nat) (w : World) (k : Nat) (wr : World) : Prop := Below B w wr ∧ ∃ cs : Array Value, wr.heap[B]? = some (.cells cs 56 (0, 0)) ∧ cs.size = ds.length * 4 ∧ ∀ j x, j < k → ds[j]? = some x → cs[j * 4]? = some (.string x.1) ∧ cs[j * 4 + 1]? = some (.int .i64 x.2.1) ∧ cs[j * 4 + 2]? = some (.int .i64 x.2.2.1) ∧ cs[j * 4 + 3]? = some (.int .i64 x.2.2.2)
theorem ToS.below {ds : List SpotD} {B k : Nat} {w wr w' : World} (h : ToS ds B w k wr) (hB : B < wr.heap.size) (hb : Below wr.heap.size wr w') : ToS ds B w k w' := by
  obtain ⟨h1, cs, h2, h3⟩ := h
  exact ⟨h1.trans (hb.mono (Nat.le_of_lt hB)), cs, blk_below h2 hb, h3⟩
theorem ToS.step {ds : List SpotD} {B k : Nat} {w wr : World} {x : SpotD} (h : ToS ds B w k wr) (hx : ds[k]? = some x) :
    ToS ds B w (k + 1) ((((wr.setCell ⟨B, k * 4, none⟩ (.string x.1)).setCell ⟨B, k * 4 + 1, none⟩ (.int .i64 x.2.1)).setCell ⟨B, k * 4 + 2, none⟩ (.int .i64 x.2.2.1)).setCell ⟨B, k * 4 + 3, none⟩ (.int .i64 x.2.2.2)) := by
  obtain ⟨h1, cs, h2, h3, h4⟩ := h
  have hk := (List.getElem?_eq_some_iff.1 hx).1
  refine ⟨(((h1.setCell (Nat.le_refl _) _).setCell (Nat.le_refl _) _).setCell (Nat.le_refl _) _).setCell (Nat.le_refl _) _, _, blk_set (blk_set (blk_set (blk_set h2 _ _) _ _) _ _) _ _, by simp [h3], fun j y hj hy => ?_⟩
  by_cases e : j = k
  · subst e
    rw [hx] at hy
    cases hy
    refine ⟨?_, ?_, ?_, ?_⟩ <;> simp [Array.getElem?_setIfInBounds] <;> omega
  · obtain ⟨a0, a1, a2, a3⟩ := h4 j y (by omega) hy
    refine ⟨?_, ?_, ?_, ?_⟩
    · rw [Array.getElem?_setIfInBounds_ne (by omega), Array.getElem?_setIfInBounds_ne (by omega), Array.getElem?_setIfInBounds_ne (by omega), Array.getElem?_setIfInBounds_ne (by omega), a0]
    · rw [Array.getElem?_setIfInBounds_ne (by omega), Array.getElem?_setIfInBounds_ne (by omega), Array.getElem?_setIfInBounds_ne (by omega), Array.getElem?_setIfInBounds_ne (by omega), a1]
    · rw [Array.getElem?_setIfInBounds_ne (by omega), Array.getElem?_setIfInBounds_ne (by omega), Array.getElem?_setIfInBounds_ne (by omega), Array.getElem?_setIfInBounds_ne (by omega), a2]
    · rw [Array.getElem?_setIfInBounds_ne (by omega), Array.getElem?_setIfInBounds_ne (by omega), Array.getElem?_setIfInBounds_ne (by omega), Array.getElem?_setIfInBounds_ne (by omega), a3]
theorem ToS.row {ds : List SpotD} {B : Nat} {w wr : World} (h : ToS ds B w ds.length wr) (hs : ∀ x ∈ ds, x.1.size ≤ 9223372036854775807) (hn : ds.length ≤ 1048576) : SpRow wr (some ⟨B, 0, none⟩) ds.length ds := by
  obtain ⟨h1, cs, h2, h3, h4⟩ := h
  refine ⟨Nat.le_refl _, by omega, hs, fun _ => ⟨_, rfl, blk_lt h2, fun j x hx => ?_⟩⟩
  obtain ⟨a0, a1, a2, a3⟩ := h4 j x (List.getElem?_eq_some_iff.1 hx).1 hx
  rw [add_plain]
  exact ⟨(blk_cell h2 _).trans a0, (blk_cell h2 _).trans a1, (blk_cell h2 _).trans a2, (blk_cell h2 _).trans a3⟩
theorem ToS.cells {ds : List SpotD} {B k : Nat} {w wr : World} (h : ToS ds B w k wr) {j : Nat} (hj : j < ds.length) : ∃ a0 a1 a2 a3, wr.cell? ⟨B, j * 4, none⟩ = some a0 ∧ wr.cell? ⟨B, j * 4 + 1, none⟩ = some a1 ∧ wr.cell? ⟨B, j * 4 + 2, none⟩ = some a2 ∧ wr.cell? ⟨B, j * 4 + 3, none⟩ = some a3 ∧ wr.frozen? ⟨B, j * 4, none⟩ = false ∧ wr.frozen? ⟨B, j * 4 + 1, none⟩ = false ∧ wr.frozen? ⟨B, j * 4 + 2, none⟩ = false ∧ wr.frozen? ⟨B, j * 4 + 3, none⟩ = false := by
  obtain ⟨_, cs, h2, h3, _⟩ := h
  have g : ∀ i, i < cs.size → ∃ a, cs[i]? = some a := fun i hi => ⟨_, Array.getElem?_eq_getElem hi⟩
  obtain ⟨a0, h0⟩ := g (j * 4) (by omega)
  obtain ⟨a1, h1⟩ := g (j * 4 + 1) (by omega)
  obtain ⟨a2, h2'⟩ := g (j * 4 + 2) (by omega)
  obtain ⟨a3, h3'⟩ := g (j * 4 + 3) (by omega)
  exact ⟨a0, a1, a2, a3, (blk_cell h2 _).trans h0, (blk_cell h2 _).trans h1, (blk_cell h2 _).trans h2', (blk_cell h2 _).trans h3', blk_frozen h2 _, blk_frozen h2 _, blk_frozen h2 _, blk_frozen h2 _⟩
theorem ToS.lt {ds : List SpotD} {B k : Nat} {w wr : World} (h : ToS ds B w k wr) : B < wr.heap.size := by
  obtain ⟨_, cs, h2, _⟩ := h
  exact blk_lt h2
def NewSs (w : World) (ds : List SpotD) (e : Ending) (w' : World) : Prop := ∃ b, e = .returned (.slice (some ⟨b, 0, none⟩) ds.length ds.length) ∧ w.heap.size ≤ b ∧ SpRow w' (some ⟨b, 0, none⟩) ds.length ds ∧ b < w'.heap.size ∧ Below w.heap.size w w'
theorem info_spo : (Tryz.prog.info? 56).map (fun i => (i.zero, i.size, i.bytes)) = some (some (.agg #[.string ⟨#[]⟩, .int .i64 0, .int .i64 0, .int .i64 0]), 4, 40) := by kernel_rfl
set_option maxHeartbeats 1000000 in
set_option maxRecDepth 100000 in
theorem laws_toSpotS_calls (A : Option Addr) (c : Nat) (ds : List SpotD) (w : World) (h : SpRow w A c ds) (hn : ds.length ≤ 1048576) :
    Calls Tryz.prog 31 #[.slice A ds.length c] w (NewSs w ds) := by
  obtain ⟨i0, hi0, hz, hsz, hby⟩ := info_parts info_spo
  have HR := Lib.hid h
  clear h
  have km : ∀ W : World, (Instr.makeSlice 33 (.int .i64 (ds.length : Int)) (.int .i64 (ds.length : Int))).run Tryz.prog W = .ok (.slice (some ⟨W.heap.size, 0, none⟩) ds.length ds.length) (W.alloc (.cells (madeCells #[.string ⟨#[]⟩, .int .i64 0, .int .i64 0, .int .i64 0] (ds.length * 4)) 56)) := fun W => by
    have := run_make (P := Tryz.prog) W 33 56 i0 _ Tryz.underlying33 hi0 hz .i64 .i64 ds.length ds.length (by omega) (Int.le_refl _) (by rw [hby]; omega) (by omega)
    rw [hsz] at this
    simp only [Int.toNat_natCast] at this
    exact this
  go_enter Tryz.func31, Tryz.ntmps31
  go_wp2
  go_loopw [4] (fun i wr => ∃ k : Nat, k ≤ ds.length ∧ i = .int .i64 k ∧ Hid (ToS ds w.heap.size w k wr)) (fun i _ => ds.length - (intOf i).toNat)
  case atStart => exact ⟨0, Nat.zero_le _, rfl, (Below.refl _ _).alloc (Nat.le_refl _) _, _, blk_new w _, size_madeCells _ _, fun j x hj => by omega⟩
  case round =>
    obtain ⟨k, hk, rfl, HT⟩ := hrel
    by_cases hlt : k < ds.length
    · obtain ⟨ad, x, hA, HX, hz1, hc0, hc1, hc2, hc3⟩ := (HR.out.below HT.out.1).at_ hlt
      cases hA
      obtain ⟨n, g, p, q⟩ := x
      dsimp only at hz1 hc0 hc1 hc2 hc3
      go_wp2_with fail
      go_at_call 72
      refine (laws_toSpot_calls n g p q _).mono ?_
      rintro e w1 ⟨rfl, hb⟩
      have HT1 := Lib.hid (HT.out.below HT.out.lt hb)
      obtain ⟨a0, a1, a2, a3, d0, d1, d2, d3, f0, f1, f2, f3⟩ := HT1.out.cells hlt
      have HT2 := Lib.hid (HT1.out.step HX.out)
      clear hb
      go_wp2
      go_roundw
      case rel => first | exact ⟨k + 1, by omega, by go_num, HT2⟩ | (repeat (first | (refine ⟨?relx, rfl⟩; exact ⟨k + 1, by omega, by go_num, HT2⟩) | (refine ⟨?relx, ?eqs⟩; (case eqs => (and_intros <;> rfl)); exact ⟨k + 1, by omega, by go_num, HT2⟩) | apply Exists.intro))
      case measure => simp [intOf]; omega
    · obtain rfl : k = ds.length := by omega
      have hrow := HT.out.row HR.out.2.2.1 hn
      have HROW := Lib.hid hrow
      have HLT := Lib.hid HT.out.lt
      clear hrow
      go_wp2
      go_ret
      exact ⟨_, rfl, Nat.le_refl _, HROW.out, HLT.out, HT.out.1⟩
abbrev engC (A : Option Addr) (n c : Nat) (room act q : Int) (Ad : Option Addr) (m cd : Nat) : Array Value := #[.slice A n c, .int .i64 room, .int .i64 act, .int .i64 q, .slice Ad m cd]
theorem laws_szEngine_calls (A Ad : Option Addr) (c cd : Nat) (fs : List FiD) (room act q : Int) (ds : List SpotD) (left : Int) (w : World) (h : FiRow w A c fs) (h' : SpRow w Ad cd ds) (h0 : 0 ≤ left) (h1 : left ≤ 1048576) :
    Calls Tryz.prog 8 #[.agg (engC A fs.length c room act q Ad ds.length cd), .int .i64 left] w fun e w' => (∃ r : Int, e = .returned (.int .i64 r) ∧ (r < 0 ∨ (0 ≤ r ∧ r ≤ left ∧ (fs.length : Int) ≤ left ∧ (ds.length : Int) ≤ left))) ∧ Below w.heap.size w w' := by
  have HAL : Hid (Below w.heap.size w (w.alloc (.cells (engC A fs.length c room act q Ad ds.length cd) 27))) := (Below.refl _ _).alloc (Nat.le_refl _) _
  have HR := Lib.hid (h.below HAL.out)
  have HS := Lib.hid (h'.below HAL.out)
  have HX : Hid ((w.alloc (.cells (engC A fs.length c room act q Ad ds.length cd) 27)).heap[w.heap.size]? = some (.cells (engC A fs.length c room act q Ad ds.length cd) 27 (0, 0))) := blk_new w _
  have x0 := blk_cell HX.out 0
  clear h h'
  go_enter Tryz.func8, Tryz.ntmps8
  go_wp2_with fail
  go_at_call 19
  refine (laws_szDisk_calls A c fs left _ HR.out h0 h1).mono ?_
  rintro e w1 ⟨⟨r, rfl, hr⟩, hb⟩
  have HB1 := Lib.hid (HAL.out.trans (hb.mono HAL.out.size))
  have HS1 := Lib.hid (HS.out.below hb)
  have x4 := blk_cell (blk_below HX.out hb) 4
  clear hb x0
  rcases hr with hr | ⟨hr0, hr1, hr2⟩
  · go_wp2
    go_ret
    exact ⟨⟨_, rfl, .inl (by omega)⟩, HB1.out⟩
  · go_wp2_with fail
    go_at_call 30
    refine (laws_szSpotS_calls Ad cd ds r _ HS1.out hr0 (by omega)).mono ?_
    rintro e w2 ⟨⟨y, rfl, hy⟩, hb⟩
    have HB2 := Lib.hid (HB1.out.trans (hb.mono HB1.out.size))
    clear hb x4
    rcases hy with hy | ⟨hy0, hy1, hy2⟩
    · go_wp2
      go_ret
      exact ⟨⟨_, rfl, .inl (by omega)⟩, HB2.out⟩
    · go_wp2
      go_ret
      exact ⟨⟨_, rfl, .inr ⟨by omega, by omega, by omega, by omega⟩⟩, HB2.out⟩
theorem laws_eqEngine_calls (A A' Ad Ad' : Option Addr) (c c' cd cd' : Nat) (fs : List FiD) (room act q : Int) (ds : List SpotD) (w : World) (h : FiRow w A c fs) (h' : FiRow w A' c' fs) (hs : SpRow w Ad cd ds) (hs' : SpRow w Ad' cd' ds) :
    Calls Tryz.prog 12 #[.agg (engC A fs.length c room act q Ad ds.length cd), .agg (engC A' fs.length c' room act q Ad' ds.length cd')] w fun e w' => e = .returned (.bool true) ∧ Below w.heap.size w w' := by
  have hs1 : (w.alloc (.cells (engC A fs.length c room act q Ad ds.length cd) 35)).heap.size = w.heap.size + 1 := by simp
  have HAL : Hid (Below w.heap.size w ((w.alloc (.cells (engC A fs.length c room act q Ad ds.length cd) 35)).alloc (.cells (engC A' fs.length c' room act q Ad' ds.length cd') 35))) := ((Below.refl _ _).alloc (Nat.le_refl _) _).alloc (by simp) _
  have HR := Lib.hid (h.below HAL.out)
  have HR' := Lib.hid (h'.below HAL.out)
  have HS := Lib.hid (hs.below HAL.out)
  have HS' := Lib.hid (hs'.below HAL.out)
  have HX : Hid (((w.alloc (.cells (engC A fs.length c room act q Ad ds.length cd) 35)).alloc (.cells (engC A' fs.length c' room act q Ad' ds.length cd') 35)).heap[w.heap.size]? = some (.cells (engC A fs.length c room act q Ad ds.length cd) 35 (0, 0))) := gr_old (blk_new w _) _
  have HY : Hid (((w.alloc (.cells (engC A fs.length c room act q Ad ds.length cd) 35)).alloc (.cells (engC A' fs.length c' room act q Ad' ds.length cd') 35)).heap[w.heap.size + 1]? = some (.cells (engC A' fs.length c' room act q Ad' ds.length cd') 35 (0, 0))) := by rw [Hid, ← hs1]; exact blk_new _ _
  have x0 := blk_cell HX.out 0
  have y0 := blk_cell HY.out 0
  have n1 : (room != room) = false := by simp
  have n2 : (act != act) = false := by simp
  have n3 : (q != q) = false := by simp
  clear h h' hs hs' hs1
  go_enter Tryz.func12, Tryz.ntmps12
  go_wp2_with fail
  go_at_call 24
  refine (laws_eqDisk_calls A c A' c' fs _ HR.out HR'.out).mono ?_
  rintro e w1 ⟨rfl, hb⟩
  have HB1 := Lib.hid (HAL.out.trans (hb.mono HAL.out.size))
  have HS1 := Lib.hid (HS.out.below hb)
  have HS1' := Lib.hid (HS'.out.below hb)
  have HX1 := Lib.hid (blk_below HX.out hb)
  have HY1 := Lib.hid (blk_below HY.out hb)
  clear hb x0 y0 HX HY
  have x1 := blk_cell HX1.out 1
  have x2 := blk_cell HX1.out 2
  have x3 := blk_cell HX1.out 3
  have x4 := blk_cell HX1.out 4
  have y1 := blk_cell HY1.out 1
  have y2 := blk_cell HY1.out 2
  have y3 := blk_cell HY1.out 3
  have y4 := blk_cell HY1.out 4
  go_wp2_with fail
  go_at_call 33
  refine (laws_eqSpotS_calls Ad cd Ad' cd' ds _ HS1.out HS1'.out).mono ?_
  rintro e w2 ⟨rfl, hb⟩
  have HB2 := Lib.hid (HB1.out.trans (hb.mono HB1.out.size))
  clear hb
  go_wp2
  go_ret
  exact ⟨rfl, HB2.out⟩
def EngNew (w : World) (fs : List FiD) (room act q : Int) (ds : List SpotD) (e : Ending) (w' : World) : Prop := ∃ b bd, e = .returned (.agg (engC (some ⟨b, 0, none⟩) fs.length fs.length room act q (some ⟨bd, 0, none⟩) ds.length ds.length)) ∧ w.heap.size ≤ b ∧ w.heap.size ≤ bd ∧ FiRow w' (some ⟨b, 0, none⟩) fs.length fs ∧ SpRow w' (some ⟨bd, 0, none⟩) ds.length ds ∧ Below w.heap.size w w'
theorem FiRow.grown {w w' : World} {b c : Nat} {fs : List FiD} {r : Option Nat} (h : FiRow w (some ⟨b, 0, none⟩) c fs) (hg : w.grownBy w' r) (hne : r ≠ some b) : FiRow w' (some ⟨b, 0, none⟩) c fs :=
  ⟨h.1, h.2.1, h.2.2.1, fun hp => by
    obtain ⟨ad, e, hl, hc⟩ := h.2.2.2 hp
    cases e
    refine ⟨_, rfl, Nat.lt_of_lt_of_le hl hg.size, fun j x hx => ?_⟩
    obtain ⟨h0, h1, h2⟩ := hc j x hx
    rw [add_plain] at h0 h1 h2 ⊢
    have hb := hg.block b hl (fun e => hne e.symm)
    exact ⟨(World.cell?_of_block hb).trans h0, (World.cell?_of_block hb).trans h1, (World.cell?_of_block hb).trans h2⟩⟩
theorem SpRow.grown {w w' : World} {b c : Nat} {ds : List SpotD} {r : Option Nat} (h : SpRow w (some ⟨b, 0, none⟩) c ds) (hg : w.grownBy w' r) (hne : r ≠ some b) : SpRow w' (some ⟨b, 0, none⟩) c ds :=
  ⟨h.1, h.2.1, h.2.2.1, fun hp => by
    obtain ⟨ad, e, hl, hc⟩ := h.2.2.2 hp
    cases e
    refine ⟨_, rfl, Nat.lt_of_lt_of_le hl hg.size, fun j x hx => ?_⟩
    obtain ⟨h0, h1, h2, h3⟩ := hc j x hx
    rw [add_plain] at h0 h1 h2 h3 ⊢
    have hb := hg.block b hl (fun e => hne e.symm)
    exact ⟨(World.cell?_of_block hb).trans h0, (World.cell?_of_block hb).trans h1, (World.cell?_of_block hb).trans h2, (World.cell?_of_block hb).trans h3⟩⟩
set_option maxHeartbeats 4000000 in
set_option maxRecDepth 100000 in
theorem laws_toEngine_calls (A Ad : Option Addr) (c cd : Nat) (fs : List FiD) (room act q : Int) (ds : List SpotD) (w : World) (h : FiRow w A c fs) (h' : SpRow w Ad cd ds) (hn : fs.length ≤ 1048576) (hm : ds.length ≤ 1048576) :
    Calls Tryz.prog 10 #[.agg (engC A fs.length c room act q Ad ds.length cd)] w (EngNew w fs room act q ds) := by
  obtain ⟨fx, hu⟩ := und_eng
  have s1 : (w.alloc (.cells (engC A fs.length c room act q Ad ds.length cd) 27)).heap.size = w.heap.size + 1 := by simp
  have s2 : ((w.alloc (.cells (engC A fs.length c room act q Ad ds.length cd) 27)).alloc (engO (.slice none 0 0) 0 0 0 (.slice none 0 0))).heap.size = w.heap.size + 1 + 1 := by simp
  have HAL : Hid (Below w.heap.size w (((w.alloc (.cells (engC A fs.length c room act q Ad ds.length cd) 27)).alloc (engO (.slice none 0 0) 0 0 0 (.slice none 0 0))).alloc (engO (.slice none 0 0) 0 0 0 (.slice none 0 0)))) := (((Below.refl _ _).alloc (Nat.le_refl _) _).alloc (by simp) _).alloc (by simp; omega) _
  have HR := Lib.hid (h.below HAL.out)
  have HS := Lib.hid h'
  have HX : Hid ((((w.alloc (.cells (engC A fs.length c room act q Ad ds.length cd) 27)).alloc (engO (.slice none 0 0) 0 0 0 (.slice none 0 0))).alloc (engO (.slice none 0 0) 0 0 0 (.slice none 0 0))).heap[w.heap.size]? = some (.cells (engC A fs.length c room act q Ad ds.length cd) 27 (0, 0))) := gr_old (gr_old (blk_new w _) _) _
  have HY : Hid ((((w.alloc (.cells (engC A fs.length c room act q Ad ds.length cd) 27)).alloc (engO (.slice none 0 0) 0 0 0 (.slice none 0 0))).alloc (engO (.slice none 0 0) 0 0 0 (.slice none 0 0))).heap[w.heap.size + 1]? = some (engO (.slice none 0 0) 0 0 0 (.slice none 0 0))) := by rw [Hid, ← s1]; exact gr_old (blk_new _ _) _
  have HZ : Hid ((((w.alloc (.cells (engC A fs.length c room act q Ad ds.length cd) 27)).alloc (engO (.slice none 0 0) 0 0 0 (.slice none 0 0))).alloc (engO (.slice none 0 0) 0 0 0 (.slice none 0 0))).heap[w.heap.size + 1 + 1]? = some (engO (.slice none 0 0) 0 0 0 (.slice none 0 0))) := by rw [Hid, ← s2]; exact blk_new _ _
  have HW : Hid ((((w.alloc (.cells (engC A fs.length c room act q Ad ds.length cd) 27)).alloc (engO (.slice none 0 0) 0 0 0 (.slice none 0 0))).alloc (engO (.slice none 0 0) 0 0 0 (.slice none 0 0))).heap.size = w.heap.size + 3) := by rw [Hid]; simp
  have x0 := blk_cell HX.out 0
  clear h h' s1 s2
  go_enter Tryz.func10, Tryz.ntmps10
  go_wp2_with fail
  go_at_call 21
  refine (laws_toDisk_own A c fs _ HR.out hn).mono ?_
  rintro e w1 ⟨b, rfl, hbb, hrow, hfb, hb⟩
  have hbl := hfb.lt
  clear hfb
  have HX1 := Lib.hid (blk_below HX.out hb)
  have HY1 := Lib.hid (blk_below HY.out hb)
  have HZ1 := Lib.hid (blk_below HZ.out hb)
  have HB1 := Lib.hid (HAL.out.trans (hb.mono HAL.out.size))
  have HROW := Lib.hid hrow
  have HBB : Hid (w.heap.size + 3 ≤ b ∧ b < w1.heap.size) := ⟨by rw [← HW.out]; exact hbb, hbl⟩
  clear x0 hb hrow HX HY HZ hbb hbl
  have x1 := blk_cell HX1.out 1
  have x2 := blk_cell HX1.out 2
  have x3 := blk_cell HX1.out 3
  have x4 := blk_cell HX1.out 4
  have z0 := blk_cell HZ1.out 0
  have z1 := blk_cell HZ1.out 1
  have z2 := blk_cell HZ1.out 2
  have z3 := blk_cell HZ1.out 3
  have g0 := blk_frozen HZ1.out 0
  have g1 := blk_frozen HZ1.out 1
  have g2 := blk_frozen HZ1.out 2
  have g3 := blk_frozen HZ1.out 3
  have HG4 : Hid (w1.grownBy ((((w1.setCell ⟨w.heap.size + 1 + 1, 0, none⟩ (.slice (some ⟨b, 0, none⟩) fs.length fs.length)).setCell ⟨w.heap.size + 1 + 1, 1, none⟩ (.int .i64 room)).setCell ⟨w.heap.size + 1 + 1, 2, none⟩ (.int .i64 act)).setCell ⟨w.heap.size + 1 + 1, 3, none⟩ (.int .i64 q)) (some (w.heap.size + 1 + 1))) := grown_set (grown_set (grown_set (grown_set (World.grownBy.refl w1 _) 0 _) 1 _) 2 _) 3 _
  have HZ4 : Hid (((((w1.setCell ⟨w.heap.size + 1 + 1, 0, none⟩ (.slice (some ⟨b, 0, none⟩) fs.length fs.length)).setCell ⟨w.heap.size + 1 + 1, 1, none⟩ (.int .i64 room)).setCell ⟨w.heap.size + 1 + 1, 2, none⟩ (.int .i64 act)).setCell ⟨w.heap.size + 1 + 1, 3, none⟩ (.int .i64 q)).heap[w.heap.size + 1 + 1]? = some (engO (.slice (some ⟨b, 0, none⟩) fs.length fs.length) room act q (.slice none 0 0))) := by
    rw [Hid, blk_set (blk_set (blk_set (blk_set HZ1.out 0 _) 1 _) 2 _) 3 _]
    rfl
  go_wp2_with fail
  generalize (((w1.setCell ⟨w.heap.size + 1 + 1, 0, none⟩ (.slice (some ⟨b, 0, none⟩) fs.length fs.length)).setCell ⟨w.heap.size + 1 + 1, 1, none⟩ (.int .i64 room)).setCell ⟨w.heap.size + 1 + 1, 2, none⟩ (.int .i64 act)).setCell ⟨w.heap.size + 1 + 1, 3, none⟩ (.int .i64 q) = W4 at HG4 HZ4 ⊢
  have HLX := Lib.hid (blk_lt HX1.out)
  have HY4 : Hid (W4.heap[w.heap.size + 1]? = some (engO (.slice none 0 0) 0 0 0 (.slice none 0 0))) := (HG4.out.block _ (blk_lt HY1.out) (fun e => by have := Option.some.inj e; omega)).trans HY1.out
  have HB4 := Lib.hid (HB1.out.grown HG4.out HB1.out.size (fun k e => by have := Option.some.inj e; omega))
  have HROW4 := Lib.hid (HROW.out.grown HG4.out (fun e => by have := Option.some.inj e; have := HBB.out.1; omega))
  have HS4 := Lib.hid (HS.out.below HB4.out)
  have hs4 := HG4.out.size
  clear x1 x2 x3 x4 z0 z1 z2 z3 g0 g1 g2 g3
  go_at_call 31
  refine (laws_toSpotS_calls Ad cd ds _ HS4.out hm).mono ?_
  rintro e w5 ⟨bd, rfl, hbd, hrow5, hbdl, hb5⟩
  have HBD : Hid (w.heap.size + 3 ≤ bd) := by have h1 := HBB.out; rw [Hid]; omega
  have HROW5 := Lib.hid hrow5
  have HFI5 := Lib.hid (HROW4.out.below hb5)
  have HZ5 := Lib.hid (blk_below HZ4.out hb5)
  have HY5 := Lib.hid (blk_below HY4.out hb5)
  have HB5 := Lib.hid (HB4.out.trans (hb5.mono HB4.out.size))
  have HY6 : Hid ((w5.setCell ⟨w.heap.size + 1 + 1, 4, none⟩ (.slice (some ⟨bd, 0, none⟩) ds.length ds.length)).heap[w.heap.size + 1]? = some (engO (.slice none 0 0) 0 0 0 (.slice none 0 0))) := (gr_setne _ _ _ _ _ (by omega)).trans HY5.out
  have HZ6 : Hid ((w5.setCell ⟨w.heap.size + 1 + 1, 4, none⟩ (.slice (some ⟨bd, 0, none⟩) ds.length ds.length)).heap[w.heap.size + 1 + 1]? = some (engO (.slice (some ⟨b, 0, none⟩) fs.length fs.length) room act q (.slice (some ⟨bd, 0, none⟩) ds.length ds.length))) := by rw [Hid, blk_set HZ5.out]; rfl
  have z4 := blk_cell HZ5.out 4
  have g4 := blk_frozen HZ5.out 4
  have k0 := blk_cell HZ6.out 0
  have k1 := blk_cell HZ6.out 1
  have k2 := blk_cell HZ6.out 2
  have k3 := blk_cell HZ6.out 3
  have k4 := blk_cell HZ6.out 4
  have y0 := blk_cell HY6.out 0
  have y1 := blk_cell HY6.out 1
  have y2 := blk_cell HY6.out 2
  have y3 := blk_cell HY6.out 3
  have y4 := blk_cell HY6.out 4
  have f0 := blk_frozen HY6.out 0
  have f1 := blk_frozen HY6.out 1
  have f2 := blk_frozen HY6.out 2
  have f3 := blk_frozen HY6.out 3
  have f4 := blk_frozen HY6.out 4
  clear hrow5 hb5 hbd hbdl
  go_wp2
  have hB := HBB.out.1
  have hD := HBD.out
  have hg1 := gr_set w5 (w.heap.size + 1 + 1) 4 (.slice (some ⟨bd, 0, none⟩) ds.length ds.length)
  have hg2 := set5_grown (w5.setCell ⟨w.heap.size + 1 + 1, 4, none⟩ (.slice (some ⟨bd, 0, none⟩) ds.length ds.length)) (w.heap.size + 1) (.slice (some ⟨b, 0, none⟩) fs.length fs.length) (.int .i64 room) (.int .i64 act) (.int .i64 q) (.slice (some ⟨bd, 0, none⟩) ds.length ds.length)
  exact res_one rfl (set5_blk HY6.out) rfl hu info_eng ⟨b, bd, rfl, by omega, by omega, (HFI5.out.grown hg1 (fun e => by have := Option.some.inj e; omega)).grown hg2 (fun e => by have := Option.some.inj e; omega), (HROW5.out.grown hg1 (fun e => by have := Option.some.inj e; omega)).grown hg2 (fun e => by have := Option.some.inj e; omega), (HB5.out.grown hg1 HB5.out.size (fun k e => by have := Option.some.inj e; omega)).grown hg2 (HB5.out.grown hg1 HB5.out.size (fun k e => by have := Option.some.inj e; omega)).size (fun k e => by have := Option.some.inj e; omega)⟩
end Go.Proofs.YtaacpdejpcbbbaaGreatDoor

namespace Go.Proofs.YtaacpdejpcbbbaaGreatDoor
set_option linter.unusedVariables false
set_option linter.unusedSimpArgs false
open Go.RowKit
attribute [local go_sem] bs_size List.length_cons List.length_nil

theorem laws_eqAct_calls (k : Int) (n t g : ByteArray) (w : World) :
    Calls Tryz.prog 64 #[.agg #[.int .i64 k, .string n, .string t, .string g], .agg #[.int .i64 k, .string n, .string t, .string g]] w fun e w' => e = .returned (.bool true) ∧ Below w.heap.size w w' := by
  have h1 : (k != k) = false := by simp
  have h2 : (n.toList != n.toList) = false := by simp
  have h3 : (t.toList != t.toList) = false := by simp
  have h4 : (g.toList != g.toList) = false := by simp
  go_enter Tryz.func64, Tryz.ntmps64
  go_wp2
  go_ret
  exact ⟨rfl, ((Below.refl _ _).alloc (Nat.le_refl _) _).alloc (by simp) _⟩
set_option maxHeartbeats 4000000 in
set_option maxRecDepth 100000 in
theorem laws_eqActS_calls (A : Option Addr) (c : Nat) (A' : Option Addr) (c' : Nat) (ds : List ActD) (w : World) (h : AcRow w A c ds) (h' : AcRow w A' c' ds) :
    Calls Tryz.prog 23 #[.slice A ds.length c, .slice A' ds.length c'] w fun e w' => e = .returned (.bool true) ∧ Below w.heap.size w w' := by
  have hl := h.len
  have HR := Lib.hid h
  have HR' := Lib.hid h'
  have hb2 : ((ds.length : Int) != (ds.length : Int)) = false := by simp
  clear h h'
  go_enter Tryz.func23, Tryz.ntmps23
  go_wp2
  go_loopw [5] (fun iv wr => ∃ i : Nat, i ≤ ds.length ∧ iv = .int .i64 (i : Int) ∧ Below w.heap.size w wr) (fun iv _ => ds.length - (intOf iv).toNat)
  case atStart => exact ⟨0, Nat.zero_le _, rfl, Below.refl _ _⟩
  case round =>
    obtain ⟨i, hi, rfl, hbel⟩ := hrel
    have HB := Lib.hid hbel
    by_cases hlt : i < ds.length
    · obtain ⟨ad, x, hA, HX, hc0, hc1, hc2, hc3⟩ := (HR.out.below hbel).at_ hlt
      obtain ⟨ad', y, hA', HY, hd0, hd1, hd2, hd3⟩ := (HR'.out.below hbel).at_ hlt
      obtain rfl : x = y := Option.some.inj (HX.out.symm.trans HY.out)
      clear hbel
      cases hA
      cases hA'
      obtain ⟨k, g, p, q⟩ := x
      dsimp only at hc0 hc1 hc2 hc3 hd0 hd1 hd2 hd3
      have hli : (i : Int) < (ds.length : Int) := by omega
      have HH0 : Hid (Below wr.heap.size wr wr.drew) := Below.drew (Below.refl _ _)
      have H8 := Lib.hid (And.intro (And.intro hc0 (And.intro hc1 (And.intro hc2 hc3))) (And.intro hd0 (And.intro hd1 (And.intro hd2 hd3))))
      go_wp2_with fail
      go_region_held3 (fun w' => (w'.cell? (ad.add (i * 4)) = some (.int .i64 k) ∧ w'.cell? ⟨(ad.add (i * 4)).block, (ad.add (i * 4)).off + 1, none⟩ = some (.string g) ∧ w'.cell? ⟨(ad.add (i * 4)).block, (ad.add (i * 4)).off + 2, none⟩ = some (.string p) ∧ w'.cell? ⟨(ad.add (i * 4)).block, (ad.add (i * 4)).off + 3, none⟩ = some (.string q)) ∧ (w'.cell? (ad'.add (i * 4)) = some (.int .i64 k) ∧ w'.cell? ⟨(ad'.add (i * 4)).block, (ad'.add (i * 4)).off + 1, none⟩ = some (.string g) ∧ w'.cell? ⟨(ad'.add (i * 4)).block, (ad'.add (i * 4)).off + 2, none⟩ = some (.string p) ∧ w'.cell? ⟨(ad'.add (i * 4)).block, (ad'.add (i * 4)).off + 3, none⟩ = some (.string q)) ∧ Hid (Below wr.heap.size wr w')) (first | exact ⟨keep4 H8.out.1 HH0.out, keep4 H8.out.2 HH0.out, HH0⟩ | exact ⟨keep4 H8.out.1 (HH0.out.trans (hb.mono (Nat.le_refl _))), keep4 H8.out.2 (HH0.out.trans (hb.mono (Nat.le_refl _))), Lib.hid (HH0.out.trans (hb.mono (Nat.le_refl _)))⟩) (first | (go_at_call 64; refine (laws_eqAct_calls k g p q _).mono ?_; rintro e w' ⟨rfl, hb⟩))
      have HKB := And.right (And.right ‹_ ∧ _ ∧ Hid (Below wr.heap.size wr _)›)
      go_wp2
      go_roundw
      case rel => first | exact ⟨i + 1, by omega, by go_num, HB.out.trans (HKB.out.mono HB.out.size)⟩ | (repeat (first | (refine ⟨?relx, rfl⟩; exact ⟨i + 1, by omega, by go_num, HB.out.trans (HKB.out.mono HB.out.size)⟩) | (refine ⟨?relx, ?eqs⟩; (case eqs => (and_intros <;> rfl)); exact ⟨i + 1, by omega, by go_num, HB.out.trans (HKB.out.mono HB.out.size)⟩) | apply Exists.intro))
      case measure => simp [intOf]; omega
    · obtain rfl : i = ds.length := by omega
      clear hbel
      go_wp2
      go_ret
      exact ⟨rfl, HB.out⟩
/-- The marks on an engine: its files', its spots'. -/
def MarkedE (w : World) (B : Nat) (dv sv : Value) (k n m : Nat) (e : Ending) (w' : World) : Prop := e = .returned (.int .i64 ((k + n * 3 + m * 4 : Nat) : Int)) ∧ FiOwn w' B dv (marksFile k n) ∧ SpOwn w' B sv (marksSp (k + n * 3) m) ∧ ∃ w1, (Below w.heap.size w w1 ∨ w.grownBy w1 dv.ownBlock) ∧ w1.grownBy w' sv.ownBlock
theorem laws_markDisk_own (B : Nat) (v : Value) (ds : List FiD) (k : Nat) (w : World) (h : FiOwn w B v ds) (h0 : 1 ≤ k) (h1 : k + ds.length * 3 ≤ 1000000000000) :
    Calls Tryz.prog 25 #[.agg #[v], .int .i64 (k : Int)] w (MarkedFile w B v k ds.length) := by
  obtain ⟨A, c, e⟩ := h.form
  subst e
  have HAL : Hid (Below w.heap.size w (w.alloc (.cells #[.slice A ds.length c] 32))) := (Below.refl _ _).alloc (Nat.le_refl _) _
  have HF := Lib.hid (h.below HAL.out)
  clear h
  go_enter Tryz.func25, Tryz.ntmps25
  go_wp2_with fail
  go_at_call 66
  refine (laws_markFileS_own B (.slice A ds.length c) ds k _ HF.out h0 h1).mono ?_
  rintro e w1 ⟨rfl, ho, hg⟩
  have HO := Lib.hid ho
  have HG := Lib.hid (gr_trans (World.grownBy_alloc w (.cells #[.slice A ds.length c] 32) _) hg)
  clear ho hg
  go_wp2
  go_ret
  exact ⟨rfl, HO.out, HG.out⟩
theorem laws_markEngine_calls (B : Nat) (dv sv : Value) (fs : List FiD) (ds : List SpotD) (room act q : Int) (k : Nat) (w : World) (h : FiOwn w B dv fs) (h' : SpOwn w B sv ds) (h0 : 1 ≤ k) (h1 : k + fs.length * 3 + ds.length * 4 ≤ 1000000000) :
    Calls Tryz.prog 26 #[.agg #[dv, .int .i64 room, .int .i64 act, .int .i64 q, sv], .int .i64 (k : Int)] w fun e w' => e = .returned (.int .i64 ((k + fs.length * 3 + ds.length * 4 : Nat) : Int)) ∧ FiOwn w' B dv (marksFile k fs.length) ∧ SpOwn w' B sv (marksSp (k + fs.length * 3) ds.length) ∧ ∃ w1, w.grownBy w1 dv.ownBlock ∧ w1.grownBy w' sv.ownBlock := by
  obtain ⟨A, c, e⟩ := h.form
  subst e
  obtain ⟨Ad, cd, e⟩ := h'.form
  subst e
  have HAL : Hid (Below w.heap.size w (w.alloc (.cells (engC A fs.length c room act q Ad ds.length cd) 35))) := (Below.refl _ _).alloc (Nat.le_refl _) _
  have HX : Hid ((w.alloc (.cells (engC A fs.length c room act q Ad ds.length cd) 35)).heap[w.heap.size]? = some (.cells (engC A fs.length c room act q Ad ds.length cd) 35 (0, 0))) := blk_new w _
  have HF := Lib.hid (h.below HAL.out)
  have HS := Lib.hid (h'.below' HAL.out)
  have x0 := blk_cell HX.out 0
  have HLD := Lib.hid h.lt
  clear h h'
  go_enter Tryz.func26, Tryz.ntmps26
  go_wp2_with fail
  go_at_call 25
  refine (laws_markDisk_own B (.slice A fs.length c) fs k _ HF.out h0 (by omega)).mono ?_
  rintro e w1 ⟨rfl, ho, hg⟩
  have HO := Lib.hid ho
  have HG := Lib.hid (gr_trans (World.grownBy_alloc w (.cells (engC A fs.length c room act q Ad ds.length cd) 35) _) hg)
  have HS1 : Hid (SpOwn w1 B (.slice Ad ds.length cd) ds) := own_aside HS.out HF.out (by decide) hg
  have HX1 := (hg.block _ (blk_lt HX.out) (fun e => by have := (HLD.out _ e.symm).2; omega)).trans HX.out
  have x4 := blk_cell HX1 4
  clear ho hg x0 HX1
  go_wp2_with fail
  go_at_call 67
  refine (laws_markSpotS_calls B (.slice Ad ds.length cd) ds (k + fs.length * 3) _ HS1.out (by omega) (by omega)).mono ?_
  rintro e w2 ⟨rfl, ho2, hg2⟩
  have HO2 := Lib.hid ho2
  have HG2 := Lib.hid hg2
  have HO1 : Hid (FiOwn w2 B (.slice A fs.length c) (marksFile k fs.length)) := own_aside HO.out HS1.out (by decide) hg2
  clear ho2 hg2
  go_wp2
  go_ret
  exact ⟨rfl, HO1.out, HO2.out, w1, HG.out, HG2.out⟩
theorem laws_heldDisk_calls (A : Option Addr) (c n k : Nat) (w : World) (h : FiRow w A c (marksFile k n)) (h0 : 1 ≤ k) (h1 : k + n * 3 ≤ 1000000000000) :
    Calls Tryz.prog 69 #[.agg #[.slice A n c], .int .i64 (k : Int)] w fun e w' => e = .returned (.int .i64 ((k + n * 3 : Nat) : Int)) ∧ Below w.heap.size w w' := by
  have HAL : Hid (Below w.heap.size w (w.alloc (.cells #[.slice A n c] 32))) := (Below.refl _ _).alloc (Nat.le_refl _) _
  have HF := Lib.hid (h.below HAL.out)
  have hn0 : ¬ ((k + n * 3 : Nat) : Int) < 0 := by omega
  have hn1 : ¬ ((k : Int) + (n : Int) * 3) < 0 := by omega
  clear h
  go_enter Tryz.func69, Tryz.ntmps69
  go_wp2_with fail
  go_at_call 112
  refine (laws_heldFileS_calls A c n k _ HF.out h0 h1).mono ?_
  rintro e w1 ⟨rfl, hb⟩
  have HB := Lib.hid (HAL.out.trans (hb.mono HAL.out.size))
  clear hb
  go_wp2
  go_ret
  exact ⟨rfl, HB.out⟩
theorem laws_heldEngine_calls (A Ad : Option Addr) (c cd n m : Nat) (room act q : Int) (k : Nat) (w : World) (h : FiRow w A c (marksFile k n)) (h' : SpRow w Ad cd (marksSp (k + n * 3) m)) (h0 : 1 ≤ k) (h1 : k + n * 3 + m * 4 ≤ 1000000000) :
    Calls Tryz.prog 28 #[.agg (engC A n c room act q Ad m cd), .int .i64 (k : Int)] w fun e w' => e = .returned (.int .i64 ((k + n * 3 + m * 4 : Nat) : Int)) ∧ Below w.heap.size w w' := by
  have HAL : Hid (Below w.heap.size w (w.alloc (.cells (engC A n c room act q Ad m cd) 35))) := (Below.refl _ _).alloc (Nat.le_refl _) _
  have HX : Hid ((w.alloc (.cells (engC A n c room act q Ad m cd) 35)).heap[w.heap.size]? = some (.cells (engC A n c room act q Ad m cd) 35 (0, 0))) := blk_new w _
  have HF := Lib.hid (h.below HAL.out)
  have HS := Lib.hid (h'.below HAL.out)
  have x0 := blk_cell HX.out 0
  have hn0 : ¬ ((k + n * 3 : Nat) : Int) < 0 := by omega
  have hn1 : ¬ ((k : Int) + (n : Int) * 3) < 0 := by omega
  have hn2 : ¬ ((k + n * 3 + m * 4 : Nat) : Int) < 0 := by omega
  have hn3 : ¬ ((k : Int) + (n : Int) * 3 + (m : Int) * 4) < 0 := by omega
  clear h h'
  go_enter Tryz.func28, Tryz.ntmps28
  go_wp2_with fail
  go_at_call 69
  refine (laws_heldDisk_calls A c n k _ HF.out h0 (by omega)).mono ?_
  rintro e w1 ⟨rfl, hb⟩
  have HB := Lib.hid (HAL.out.trans (hb.mono HAL.out.size))
  have HS1 := Lib.hid (HS.out.below hb)
  have x4 := blk_cell (blk_below HX.out hb) 4
  clear hb x0
  go_wp2_with fail
  go_at_call 70
  refine (laws_heldSpotS_calls Ad cd m (k + n * 3) _ HS1.out (by omega) (by omega)).mono ?_
  rintro e w2 ⟨rfl, hb⟩
  have HB2 := Lib.hid (HB.out.trans (hb.mono HB.out.size))
  clear hb
  go_wp2
  go_ret
  exact ⟨rfl, HB2.out⟩
def openE (o : Option (EngD × List ActD)) : EngD := match o with
  | none => ([], 0, 0, 0, [])
  | some x => x.1
def openA (o : Option (EngD × List ActD)) : List ActD := match o with
  | none => []
  | some x => x.2
/-- What opening gives, in one form. -/
theorem open_uni {w w' : World} {o : Option (EngD × List ActD)} {e : Ending} (h : OpenPost w o e w') : ∃ A c Ad cd Aa ca, e = .returned (.tuple #[.agg (engC A (openE o).1.length c (openE o).2.1 (openE o).2.2.1 (openE o).2.2.2.1 Ad (openE o).2.2.2.2.length cd), .slice Aa (openA o).length ca, .bool o.isSome]) ∧ FiOwn w' w.heap.size (.slice A (openE o).1.length c) (openE o).1 ∧ SpOwn w' w.heap.size (.slice Ad (openE o).2.2.2.2.length cd) (openE o).2.2.2.2 ∧ AcOwn w' w.heap.size (.slice Aa (openA o).length ca) (openA o) ∧ Below w.heap.size w w' := by
  obtain ⟨hb, hm⟩ := h
  cases o with
  | none =>
    obtain ⟨v, he, hv⟩ := hm
    obtain ⟨A, c, rfl⟩ := hv.form
    exact ⟨none, 0, none, 0, A, c, he, World.ownsRow_nil .., World.ownsRow_nil .., hv, hb⟩
  | some x =>
    obtain ⟨E, acs⟩ := x
    obtain ⟨dv, sv, av, he, h1, h2, h3⟩ := hm
    obtain ⟨A, c, rfl⟩ := h1.form
    obtain ⟨Ad, cd, rfl⟩ := h2.form
    obtain ⟨Aa, ca, rfl⟩ := h3.form
    exact ⟨A, c, Ad, cd, Aa, ca, he, h1, h2, h3, hb⟩
theorem doActs_ok : ∀ {acs : List ActD} {fs : List FiD}, diskOkB fs = true → diskOkB (doActsB fs acs).1 = true
  | [], fs, h => h
  | a :: r, fs, h => by
    rw [doActsB]
    cases ho : doActB fs a with
    | none => exact h
    | some out => exact doActs_ok (acs := r) (doAct_ok ho).2
theorem open_some {fs : List FiD} {room : Int} {E : EngD} {acs : List ActD} (h : openB fs room = some (E, acs)) : diskOkB fs = true ∧ openActs fs = some acs ∧ E = ((doActsB fs acs).1, room, (lastB fs : Int), seqB fs, dirB fs) ∧ (doActsB fs acs).2 = acs.length := by
  unfold openB at h
  split at h
  · rename_i hc
    have hd : diskOkB fs = true := by have := hc.2.1; unfold allKeptB at this; rw [Bool.and_eq_true] at this; exact this.1
    split at h
    · cases h
    · rename_i acs' ha
      unfold openDo at h
      split at h
      · cases h
      · rename_i hn
        simp only [Option.some.injEq, Prod.mk.injEq] at h
        obtain ⟨rfl, rfl⟩ := h
        refine ⟨hd, ha, rfl, ?_⟩
        have : ∀ (acs : List ActD) (fs : List FiD), (doActsB fs acs).2 ≤ acs.length := by
          intro acs
          induction acs with
          | nil => intro fs; exact Nat.le_refl _
          | cons a r ih =>
            intro fs
            rw [doActsB]
            cases doActB fs a with
            | none => exact Nat.zero_le _
            | some out => have := ih out; simp; exact this
        have := this acs' fs
        omega
  · cases h
theorem open_small (fs : List FiD) (room : Int) : (openE (openB fs room)).1.length ≤ 30 ∧ (∀ x ∈ (openE (openB fs room)).1, x.1.size ≤ 9223372036854775807 ∧ x.2.1.size ≤ 9223372036854775807) ∧ (openE (openB fs room)).2.2.2.2.length ≤ 80000000 ∧ (∀ x ∈ (openE (openB fs room)).2.2.2.2, x.1.size ≤ 9223372036854775807) ∧ (openA (openB fs room)).length ≤ 1000 := by
  cases h : openB fs room with
  | none => exact ⟨Nat.zero_le _, fun x hx => by simp [openE] at hx, Nat.zero_le _, fun x hx => by simp [openE] at hx, Nat.zero_le _⟩
  | some x =>
    obtain ⟨E, acs⟩ := x
    obtain ⟨hd, ha, rfl, _⟩ := open_some h
    have hok := doActs_ok (acs := acs) hd
    refine ⟨diskOk_l30 hok, disk_sm hok, dirB_len fs, fun x hx => by have := dirB_small fs x hx; omega, ?_⟩
    show acs.length ≤ 1000
    unfold openActs at ha
    cases ht : tornGo fs (lastB fs) (segsB fs) with
    | none => rw [ht] at ha; cases ha
    | some acs' =>
      rw [ht] at ha
      obtain rfl : cleanB fs (segsB fs) ++ acs' = acs := by simpa using ha
      have h1 := torn_len (lastB fs) (segsB fs) acs' ht
      have h2 := cleanB_len fs (segsB fs)
      have h3 := segs_len fs
      have h4 := diskOk_l30 hd
      rw [List.length_append]
      omega
end Go.Proofs.YtaacpdejpcbbbaaGreatDoor
