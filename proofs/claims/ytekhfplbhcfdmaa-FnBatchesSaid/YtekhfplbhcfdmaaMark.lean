/- The laws' marks: markText, markStringS (writes marks into a slice of the call's own), heldStringS (finds them there). -/
import Derived.Test.YtekhfplbhcfdmaaStrs
import Derived.Test.YtekhfplbhcfdmaaDigs
import Derived.Deep.RegionHeld3
namespace Go.Proofs.Ytekhfplbhcfdmaa
set_option linter.unusedVariables false
set_option linter.unusedSimpArgs false
open Go.RowKit
attribute [local go_sem] bs_size List.length_cons List.length_nil List.length_append

def mText (k : Nat) : ByteArray := bs (109 :: digs k)
theorem mText_size (k : Nat) (h : k ≤ 1000000000000) : (mText k).size ≤ 40 := by
  have := digs_length 30 k (by omega)
  rw [mText, bs_size, List.length_cons]
  omega
def MkRel (n m : Nat) (s : ByteArray) : Prop := digs m ++ ub s = digs n
theorem mk_start (n : Nat) : MkRel n n ⟨#[]⟩ := by
  unfold MkRel
  rw [show ub ⟨#[]⟩ = [] from rfl, List.append_nil]
theorem mk_step {n m : Nat} {s : ByteArray} (hm : m ≠ 0) (h : MkRel n m s) : MkRel n (m / 10) (bs [48 + UInt8.ofNat (m % 10)] ++ s) := by
  unfold MkRel at h ⊢
  have e : 48 + UInt8.ofNat (m % 10) = UInt8.ofNat (48 + m % 10) := by rw [UInt8.ofNat_add]; rfl
  rw [← h, digs_step m hm, bs_app, ub_bs, e, List.append_assoc]
theorem mk_end {n : Nat} {s : ByteArray} (h : MkRel n 0 s) : (⟨#[109]⟩ : ByteArray) ++ s = mText n := by
  unfold MkRel at h
  rw [mText, ← h]
  exact bs_app s [109]
theorem mk_size {n m : Nat} {s : ByteArray} (h : MkRel n m s) (h1 : n ≤ 1000000000000) : s.size ≤ 30 := by
  have := congrArg List.length h
  rw [List.length_append, ub_length] at this
  have := digs_length 30 n (by omega)
  omega
set_option maxRecDepth 100000 in
theorem laws_markText_calls (n : Nat) (w : World) (h0 : 1 ≤ n) (h1 : n ≤ 1000000000000) :
    Calls Try.prog 55 #[.int .i64 (n : Int)] w fun e w' => e = .returned (.string (mText n)) ∧ Below w.heap.size w w' := by
  have kc := conv_one (P := Try.prog) 35 5 9 Try.underlying35 Try.underlying5 Try.underlying9
  go_enter Try.func55, Try.ntmps55
  go_wp2
  go_loopw [0, 3] (fun v s wr => ∃ (m : Nat) (S : ByteArray), v = .int .i64 (m : Int) ∧ s = .string S ∧ MkRel n m S ∧ m ≤ n ∧ Below w.heap.size w wr) (fun v _ _ => (intOf v).toNat)
  case atStart => exact ⟨n, _, rfl, rfl, mk_start n, Nat.le_refl _, Below.refl _ _⟩
  case round =>
    obtain ⟨m, S, rfl, rfl, hrel, hmn, hbel⟩ := hrel
    have HR := Lib.hid hrel
    have HB := Lib.hid hbel
    have hS := mk_size hrel h1
    clear hrel hbel
    by_cases hm : m = 0
    · subst hm
      go_wp2
      go_ret
      exact ⟨ret_str (mk_end HR.out), HB.out⟩
    · go_wp2
      go_roundw
      case rel => exact ⟨m / 10, _, by go_num, rfl, mk_step hm HR.out, by omega, HB.out.alloc HB.out.size _⟩
      case measure => simp [intOf]; omega

def marks (k n : Nat) : List ByteArray := (List.range n).map fun i => mText (k + i)
theorem marks_length (k n : Nat) : (marks k n).length = n := by simp [marks]
theorem marks_get {k n i : Nat} (h : i < n) : (marks k n)[i]? = some (mText (k + i)) := by simp [marks, h]
theorem marks_succ (k n : Nat) : marks k (n + 1) = marks k n ++ [mText (k + n)] := by simp [marks, List.range_succ]
theorem marks_size {k n : Nat} (h : k + n ≤ 1000000000000) : ∀ s ∈ marks k n, s.size ≤ 9223372036854775807 := by
  intro s hs
  obtain ⟨i, hi, rfl⟩ := List.mem_map.1 hs
  have := List.mem_range.1 hi
  have := mText_size (k + i) (by omega)
  omega
def MarkRel (xs : List ByteArray) (k : Nat) (b : Nat) (more : List Value) (w : World) (j : Nat) (wr : World) : Prop :=
  wr.heap[b]? = some (.cells ((marks k j ++ xs.drop j).map Value.string ++ more).toArray 9 (0, 0)) ∧ w.grownBy wr (some b)
theorem grownBy_set {w wr : World} {b : Nat} (h : w.grownBy wr (some b)) (j : Nat) (v : Value) : w.grownBy (wr.setCell ⟨b, j, none⟩ v) (some b) :=
  ⟨h.os, h.tape, h.output, by simpa using h.size, fun i hi hne => (Below.heap_setCell wr ⟨b, j, none⟩ v i (fun e => hne (by rw [e]))).trans (h.block i hi hne)⟩
theorem grownBy_below {w wr w' : World} {row : Option Nat} (h : w.grownBy wr row) (hb : Below wr.heap.size wr w') : w.grownBy w' row :=
  ⟨hb.os.trans h.os, hb.tape.trans h.tape, hb.output.trans h.output, Nat.le_trans h.size hb.size, fun i hi hne => (hb.block i (Nat.lt_of_lt_of_le hi h.size)).trans (h.block i hi hne)⟩
theorem mark_step {xs : List ByteArray} {k b j : Nat} {more : List Value} {w wr : World} (h : MarkRel xs k b more w j wr) (hj : j < xs.length) : MarkRel xs k b more w (j + 1) (wr.setCell ⟨b, j, none⟩ (.string (mText (k + j)))) := by
  refine ⟨?_, grownBy_set h.2 _ _⟩
  rw [blk_set h.1]
  congr 2
  rw [marks_succ]
  apply Array.ext'
  rw [Array.toList_setIfInBounds]
  simp only [List.map_append, List.append_assoc]
  have hl : ((marks k j).map Value.string).length = j := by rw [List.length_map, marks_length]
  rw [List.set_append_right _ _ (by omega), hl, Nat.sub_self, List.drop_eq_getElem_cons hj]
  rfl
theorem mark_cell {xs : List ByteArray} {k j : Nat} {more : List Value} (hj : j < xs.length) : ((marks k j ++ xs.drop j).map Value.string ++ more).toArray[j]? = some (.string (xs[j]'hj)) := by
  rw [List.getElem?_toArray, List.getElem?_append_left (by simp [marks_length]; omega), List.getElem?_map, List.getElem?_append_right (by rw [marks_length]; exact Nat.le_refl _), marks_length, Nat.sub_self, List.getElem?_drop]
  simp [hj]
theorem mark_below {xs : List ByteArray} {k b j : Nat} {more : List Value} {w wr w' : World} (h : MarkRel xs k b more w j wr) (hb : Below wr.heap.size wr w') : MarkRel xs k b more w j w' :=
  ⟨blk_below h.1 hb, grownBy_below h.2 hb⟩
/-- What markStringS does: the slice has the marks from k on; its block and new ones apart, nothing else is another. -/
def Marked (w : World) (B : Nat) (v : Value) (k n : Nat) (e : Ending) (w' : World) : Prop := e = .returned (.int .i64 ((k + n : Nat) : Int)) ∧ StrOwn w' B v (marks k n) ∧ w.grownBy w' v.ownBlock
theorem mark_end {xs : List ByteArray} {k b B c : Nat} {more : List Value} {w wr : World} (h : MarkRel xs k b more w xs.length wr) (hc : xs.length + more.length = c) (hm : c ≤ 9223372036854775807) (hB : B ≤ b) :
    Marked w B (.slice (some ⟨b, 0, none⟩) xs.length c) k xs.length (.returned (.int .i64 ((k + xs.length : Nat) : Int))) wr := by
  refine ⟨rfl, .inr ⟨b, c, by rw [marks_length], hB, more, ?_, by rw [marks_length]; exact hc, hm⟩, h.2⟩
  have := h.1
  rw [List.drop_length, List.append_nil] at this
  exact this
end Go.Proofs.Ytekhfplbhcfdmaa
