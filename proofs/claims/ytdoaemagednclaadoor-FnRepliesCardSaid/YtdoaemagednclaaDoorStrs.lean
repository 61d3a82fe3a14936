/- Lists of texts in memory: how a slice of strings reads (StrRow), a block of strings that the call made (StrBlk), and the laws' helpers szStringS, toStringS, eqStringS. -/
import Derived.Test.YtdoaemagednclaaDoorBase
import Derived.SliceStrings
import Derived.OpenShut
namespace Go.Proofs.YtdoaemagednclaaDoor
set_option linter.unusedVariables false
set_option linter.unusedSimpArgs false
open Go.RowKit

theorem blk_set {w : World} {g : Nat} {t : TypeId} {cs : Array Value} (h : w.heap[g]? = some (.cells cs t (0, 0))) (i : Nat) (u : Value) : (w.setCell ⟨g, i, none⟩ u).heap[g]? = some (.cells (cs.setIfInBounds i u) t (0, 0)) := by
  simp [World.setCell, Array.getElem?_modify, h]
theorem blk_lt {w : World} {g : Nat} {o : Obj} (h : w.heap[g]? = some o) : g < w.heap.size := (Array.getElem?_eq_some_iff.1 h).1
theorem blk_cell {w : World} {g : Nat} {t : TypeId} {cs : Array Value} (h : w.heap[g]? = some (.cells cs t (0, 0))) (i : Nat) : w.cell? ⟨g, i, none⟩ = cs[i]? := cell_of_row w g i cs t (0, 0) h
theorem blk_frozen {w : World} {g : Nat} {t : TypeId} {cs : Array Value} (h : w.heap[g]? = some (.cells cs t (0, 0))) (i : Nat) : w.frozen? ⟨g, i, none⟩ = false := by simp [World.frozen?, h]
theorem blk_below {w w1 : World} {g : Nat} {o : Obj} (h : w.heap[g]? = some o) (hb : Below w.heap.size w w1) : w1.heap[g]? = some o := (hb.block g (blk_lt h)).trans h
theorem blk_new (w : World) (o : Obj) : (w.alloc o).heap[w.heap.size]? = some o := heap_alloc_new w o
theorem add_plain (g j : Nat) : (⟨g, 0, none⟩ : Addr).add j = ⟨g, j, none⟩ := by unfold Addr.add; split <;> simp_all
theorem add_block (a : Addr) (j : Nat) : (a.add j).block = a.block := by unfold Addr.add; split <;> rfl

/-- A slice's value ('.slice A xs.length c') reads as the texts xs. -/
def StrRow (w : World) (A : Option Addr) (c : Nat) (xs : List ByteArray) : Prop :=
  xs.length ≤ c ∧ c ≤ 9223372036854775807 ∧ (∀ s ∈ xs, s.size ≤ 9223372036854775807) ∧
  (0 < xs.length → ∃ ad : Addr, A = some ad ∧ ad.block < w.heap.size ∧ ∀ j, j < xs.length → w.cell? (ad.add j) = some (.string (xs.getD j ByteArray.empty)))
theorem StrRow.below {w w' : World} {A : Option Addr} {c : Nat} {xs : List ByteArray} (h : StrRow w A c xs) (hb : Below w.heap.size w w') : StrRow w' A c xs :=
  ⟨h.1, h.2.1, h.2.2.1, fun hp => by
    obtain ⟨ad, e, hl, hc⟩ := h.2.2.2 hp
    exact ⟨ad, e, Nat.lt_of_lt_of_le hl hb.size, fun j hj => (hb.cell (by rw [add_block]; exact hl)).trans (hc j hj)⟩⟩
theorem StrRow.at_ {w : World} {A : Option Addr} {c : Nat} {xs : List ByteArray} (h : StrRow w A c xs) {k : Nat} (hk : k < xs.length) :
    ∃ (ad : Addr) (x : ByteArray), A = some ad ∧ w.cell? (ad.add k) = some (.string x) ∧ x.size ≤ 9223372036854775807 ∧ Hid (xs[k]? = some x) := by
  obtain ⟨ad, e, _, hc⟩ := h.2.2.2 (by omega)
  have hx : xs[k]? = some (xs.getD k ByteArray.empty) := by rw [List.getD_eq_getElem?_getD, List.getElem?_eq_getElem hk]; rfl
  exact ⟨ad, _, e, hc k hk, h.2.2.1 _ (List.mem_of_getElem? hx), hx⟩
theorem StrRow.block {w : World} {ad : Addr} {c : Nat} {xs : List ByteArray} (h : StrRow w (some ad) c xs) {k : Nat} (hk : k < xs.length) : ad.block < w.heap.size := by
  obtain ⟨a, e, hl, _⟩ := h.2.2.2 (by omega)
  obtain rfl := Option.some.inj e
  exact hl
theorem take_snoc {α : Type} {xs : List α} {k : Nat} {x : α} (h : xs[k]? = some x) : xs.take (k + 1) = xs.take k ++ [x] := by
  obtain ⟨hk, rfl⟩ := List.getElem?_eq_some_iff.1 h
  exact List.take_succ_eq_append_getElem hk
theorem StrRow.len {w : World} {A : Option Addr} {c : Nat} {xs : List ByteArray} (h : StrRow w A c xs) : xs.length ≤ 9223372036854775807 := Nat.le_trans h.1 h.2.1
theorem strRow_of_trod {H : Type} {enc : TypeId × Value → H} {P : Program} {w : World} {base : Nat} {held : Bool} {t e : TypeId} {A : Option Addr} {len cap : Nat} {d : DataW H} {p : List MemPlace}
    (ht : P.underlying t = some (.slice e)) (he : P.underlying e = some .string) (hc : P.cellsOf e = 1) (h : DataW.Trod enc P w base (fun _ => true) held t (.slice A len cap) d p) :
    ∃ zs : List ByteArray, len = zs.length ∧ StrRow w A cap zs := by
  obtain ⟨fuel, hf⟩ := h
  rcases ChangeShapes.open_strings ht he hc hf with ⟨hcs, _⟩ | ⟨ad, l, c, zs, hcs, _, hl, hm, hz, hx, hcell, hws⟩
  · simp [Value.cells] at hcs
    obtain ⟨rfl, rfl, rfl⟩ := hcs
    exact ⟨[], rfl, by simp, by simp, by simp, fun h0 => by simp at h0⟩
  · simp [Value.cells] at hcs
    obtain ⟨rfl, rfl, rfl⟩ := hcs
    rw [if_pos rfl] at hz
    have hlen : (zs.take len).length = len := by rw [List.length_take]; omega
    refine ⟨zs.take len, hlen.symm, by rw [hlen]; exact hl, hm, fun s hs => hws s (List.mem_of_mem_take hs), fun h0 => ⟨ad, rfl, ?_, fun j hj => ?_⟩⟩
    · have := hcell 0 (by omega)
      have := World.block_lt_of_cell? w _ this
      rwa [add_block] at this
    · rw [hlen] at hj
      rw [hcell j (by omega)]
      congr 2
      rw [List.getD_eq_getElem?_getD, List.getD_eq_getElem?_getD, List.getElem?_take_of_lt hj]

/-- Block b of c cells holds these strings first, and may be written. -/
def StrBlk (w : World) (b c : Nat) (xs : List ByteArray) : Prop := ∃ more : List Value, w.heap[b]? = some (.cells (xs.map Value.string ++ more).toArray 9 (0, 0)) ∧ xs.length + more.length = c ∧ c ≤ 9223372036854775807
theorem StrBlk.row {w : World} {b c : Nat} {xs : List ByteArray} (h : StrBlk w b c xs) (hs : ∀ s ∈ xs, s.size ≤ 9223372036854775807) : StrRow w (some ⟨b, 0, none⟩) c xs := by
  obtain ⟨more, hb, hc, hm⟩ := h
  exact ⟨by omega, hm, hs, fun _ => ⟨_, rfl, blk_lt hb, fun j hj => by rw [add_plain, blk_cell hb]; simp [List.getD_eq_getElem?_getD, List.getElem?_append_left, List.getElem?_eq_getElem hj, hj]⟩⟩
theorem StrBlk.below {w w' : World} {b c : Nat} {xs : List ByteArray} (h : StrBlk w b c xs) (hb : Below w.heap.size w w') : StrBlk w' b c xs := by
  obtain ⟨more, hb', hc⟩ := h
  exact ⟨more, blk_below hb' hb, hc⟩
/-- v is a slice of the call's own (from block B on): these strings. -/
def StrOwn (w : World) (B : Nat) (v : Value) (xs : List ByteArray) : Prop := (v = .slice none 0 0 ∧ xs = []) ∨ ∃ b c, v = .slice (some ⟨b, 0, none⟩) xs.length c ∧ B ≤ b ∧ StrBlk w b c xs
theorem StrOwn.row {w : World} {B : Nat} {v : Value} {xs : List ByteArray} (h : StrOwn w B v xs) (hs : ∀ s ∈ xs, s.size ≤ 9223372036854775807) : ∃ A c, v = .slice A xs.length c ∧ StrRow w A c xs := by
  rcases h with ⟨rfl, rfl⟩ | ⟨b, c, rfl, _, hb⟩
  · exact ⟨none, 0, rfl, by simp, by simp, hs, fun h0 => by simp at h0⟩
  · exact ⟨_, c, rfl, hb.row hs⟩
theorem StrOwn.below {w w' : World} {B : Nat} {v : Value} {xs : List ByteArray} (h : StrOwn w B v xs) (hb : Below w.heap.size w w') : StrOwn w' B v xs := by
  rcases h with ⟨rfl, rfl⟩ | ⟨b, c, rfl, hB, hk⟩
  · exact .inl ⟨rfl, rfl⟩
  · exact .inr ⟨b, c, rfl, hB, hk.below hb⟩

/-- What stays while a callee makes memory: the cell that is read, and all that was. -/
def HeldS (w0 : World) (a : Addr) (x : ByteArray) (B : Nat) (w : World) : Prop := a.block < B ∧ w.cell? a = some (.string x) ∧ B ≤ w0.heap.size ∧ Below B w0 w
theorem heldS_keep {w0 : World} {a : Addr} {x : ByteArray} {B : Nat} {w w' : World} (h : HeldS w0 a x B w) (hb : Below w.heap.size w w') : HeldS w0 a x B w' :=
  ⟨h.1, (hb.cell (Nat.lt_of_lt_of_le h.1 (Nat.le_trans h.2.2.1 h.2.2.2.size))).trans h.2.1, h.2.2.1, h.2.2.2.trans (hb.mono (Nat.le_trans h.2.2.1 h.2.2.2.size))⟩
theorem heldS_drew {w0 w : World} {a : Addr} {x : ByteArray} {B : Nat} (h : HeldS w0 a x B w) : HeldS w0 a x B w.drew := ⟨h.1, h.2.1, h.2.2.1, h.2.2.2.drew⟩

/-! ### szStringS -/
def szs (xs : List ByteArray) : Int := (xs.map fun s => (s.size : Int)).sum
def SzPost (xs : List ByteArray) (left : Int) (e : Ending) : Prop := ∃ r : Int, e = .returned (.int .i64 r) ∧ (r < 0 ∨ (0 ≤ r ∧ r = left - xs.length - szs xs))
theorem szs_take {xs : List ByteArray} {k : Nat} {x : ByteArray} (h : xs[k]? = some x) : szs (xs.take (k + 1)) = szs (xs.take k) + (x.size : Int) := by
  unfold szs
  rw [take_snoc h, List.map_append, List.sum_append]
  simp
theorem szPost_neg (xs : List ByteArray) (left r : Int) (h : r < 0) : SzPost xs left (.returned (.int .i64 r)) := ⟨r, rfl, .inl h⟩
/-! ### toStringS -/
theorem infoStr : (Tryd.prog.info? 9).map (fun i => (i.zero, i.size, i.bytes)) = some (some (.string ⟨#[]⟩), 1, 16) := by kernel_rfl
theorem made_replicate (z : Value) (m : Nat) : madeCells #[z] m = (List.replicate m z).toArray := by
  apply Array.ext'
  apply List.ext_getElem
  · simp [madeCells]
  · intro i h1 h2
    simp [madeCells, Nat.mod_one]
theorem set_next {α : Type} (L : List α) (z v : α) (k m : Nat) (hL : L.length = k) (hk : k < m) : (L ++ List.replicate (m - k) z).toArray.setIfInBounds k v = ((L ++ [v]) ++ List.replicate (m - (k + 1)) z).toArray := by
  subst hL
  rw [show m - L.length = (m - (L.length + 1)) + 1 by omega, List.replicate_succ]
  simp
/-- A new block of the call's own that holds these texts. -/
def NewStrs (w : World) (xs : List ByteArray) (e : Ending) (w' : World) : Prop :=
  ∃ b, e = .returned (.slice (some ⟨b, 0, none⟩) xs.length xs.length) ∧ w.heap.size ≤ b ∧ StrBlk w' b xs.length xs ∧ Below w.heap.size w w'
def ToRel (xs : List ByteArray) (B : Nat) (w : World) (k : Nat) (wr : World) : Prop :=
  wr.heap[B]? = some (.cells ((xs.take k).map Value.string ++ List.replicate (xs.length - k) (Value.string ⟨#[]⟩)).toArray 9 (0, 0)) ∧ Below B w wr
theorem toRel_step {xs : List ByteArray} {B : Nat} {w wr : World} {k : Nat} {x : ByteArray} (h : ToRel xs B w k wr) (hx : xs[k]? = some x) : ToRel xs B w (k + 1) (wr.setCell ⟨B, k, none⟩ (.string x)) := by
  have hk : k < xs.length := (List.getElem?_eq_some_iff.1 hx).1
  refine ⟨?_, h.2.setCell (Nat.le_refl _) _⟩
  rw [blk_set h.1, set_next _ _ _ k xs.length (by rw [List.length_map, List.length_take]; omega) hk, take_snoc hx, List.map_append]
  rfl
theorem toRel_end {xs : List ByteArray} {w wr : World} (hn : xs.length ≤ 1048576) (h : ToRel xs w.heap.size w xs.length wr) : NewStrs w xs (.returned (.slice (some ⟨w.heap.size, 0, none⟩) xs.length xs.length)) wr := by
  refine ⟨_, rfl, Nat.le_refl _, ⟨[], ?_, by simp, by omega⟩, h.2⟩
  have := h.1
  rw [Nat.sub_self, List.take_length, List.replicate_zero] at this
  exact this
/-! ### eqStringS -/
def eqS (xs ys : List ByteArray) : Bool := decide (xs = ys)
theorem eqS_self (xs : List ByteArray) : eqS xs xs = true := by simp [eqS]
theorem eqS_len {xs ys : List ByteArray} (h : ¬ xs.length = ys.length) : eqS xs ys = false := by
  unfold eqS
  exact decide_eq_false fun e => h (by rw [e])
theorem eqS_ne {xs ys : List ByteArray} {k : Nat} {x y : ByteArray} (hx : xs[k]? = some x) (hy : ys[k]? = some y) (h : x ≠ y) : eqS xs ys = false := by
  unfold eqS
  refine decide_eq_false fun e => h ?_
  rw [e, hy] at hx
  exact (Option.some.inj hx).symm
theorem eqS_all {xs ys : List ByteArray} (hl : xs.length = ys.length) (h : xs.take xs.length = ys.take xs.length) : eqS xs ys = true := by
  unfold eqS
  rw [List.take_length, hl, List.take_length] at h
  exact decide_eq_true h
end Go.Proofs.YtdoaemagednclaaDoor
