/- A thing under way, read off a reader: its block (some cells, then a slice of the call's own), the reader's block, other blocks that stay; in general: any type, any stride. -/
import Derived.Test.YtaacpdejpcbbbaaGreatDoorRdL
import Derived.Test.YtaacpdejpcbbbaaGreatDoorOwn
import Derived.Deep.AppendLies
import Derived.Deep.RegionLaw
import Derived.Laws.ResultCell
namespace Go.Proofs.YtaacpdejpcbbbaaGreatDoor
set_option linter.unusedVariables false
set_option linter.unusedSimpArgs false
open Go.RowKit
attribute [local go_sem] bs_size List.length_cons List.length_nil List.length_append

theorem gr_below {B : Nat} {a w w' : World} {row : Option Nat} (h : Below B a w) (hg : w.grownBy w' row) (hB : B ≤ w.heap.size) (hr : ∀ k, row = some k → B ≤ k) : Below B a w' :=
  h.trans ⟨hg.os, hg.tape, hg.output, hg.size, fun i hi => hg.block i (Nat.lt_of_lt_of_le hi hB) (fun e => by have := hr i e.symm; omega)⟩
theorem gr_setne (w : World) (g j i : Nat) (v : Value) (h : i ≠ g) : (w.setCell ⟨g, j, none⟩ v).heap[i]? = w.heap[i]? := Below.heap_setCell w ⟨g, j, none⟩ v i h
theorem gr_old {w : World} {g : Nat} {x : Obj} (h : w.heap[g]? = some x) (o : Obj) : (w.alloc o).heap[g]? = some x := (heap_alloc_old w o (blk_lt h)).trans h
theorem gr_frozen {w : World} {g : Nat} {cs : Array Value} {ty : TypeId} (h : w.heap[g]? = some (.cells cs ty (0, 0))) (j : Nat) : w.frozen? ⟨g, j, none⟩ = false := by
  simp [World.frozen?, h]
theorem gr_set (w : World) (g j : Nat) (v : Value) : w.grownBy (w.setCell ⟨g, j, none⟩ v) (some g) := grown_set (World.grownBy.refl w _) j v
theorem gr_trans {w w1 w2 : World} {r : Option Nat} (h : w.grownBy w1 r) (h2 : w1.grownBy w2 r) : w.grownBy w2 r :=
  ⟨h2.os.trans h.os, h2.tape.trans h.tape, h2.output.trans h.output, Nat.le_trans h.size h2.size, fun k hk hne => (h2.block k (Nat.lt_of_lt_of_le hk h.size) hne).trans (h.block k hk hne)⟩

/-- tr: the reader's type · tv: the block's, of the cells pre and the slice v behind them · te, sz: the slice's element and its cells · os: blocks that stay. -/
structure GSt (tr tv te : TypeId) (sz B gv gr : Nat) (os : List (Nat × Obj)) (s : ByteArray) (pre : List Value) (n : Nat) (fl : List Value) (v : Value) (a : Nat) (bad : Bool) (w0 w : World) : Prop where
  bel : Below B w0 w
  hv : w.heap[gv]? = some (.cells (pre ++ [v]).toArray tv (0, 0))
  rd : RdAt tr w gr s a bad
  own : w.ownsRow B te sz v n fl
  oth : ∀ p ∈ os, B ≤ p.1 ∧ w.heap[p.1]? = some p.2 ∧ p.1 ≠ gv ∧ p.1 ≠ gr ∧ v.ownBlock ≠ some p.1
  ne : v.ownBlock ≠ some gv ∧ v.ownBlock ≠ some gr
  far : B ≤ gv ∧ B ≤ gr ∧ gv ≠ gr
section
variable {tr tv te : TypeId} {sz B gv gr : Nat} {os : List (Nat × Obj)} {s : ByteArray} {pre : List Value} {n : Nat} {fl : List Value} {v : Value} {a a' : Nat} {bad bad' : Bool} {w0 w w' w2 : World}
theorem GSt.cv (h : GSt tr tv te sz B gv gr os s pre n fl v a bad w0 w) (j : Nat) : w.cell? ⟨gv, j, none⟩ = (pre ++ [v])[j]? := by
  rw [cell_of_row w gv j _ _ (0, 0) h.hv, List.getElem?_toArray]
theorem GSt.base (h : GSt tr tv te sz B gv gr os s pre n fl v a bad w0 w) : B ≤ w.heap.size := Nat.le_trans h.far.1 (Nat.le_of_lt (blk_lt h.hv))
/-- The reader has read on. -/
theorem GSt.read (h : GSt tr tv te sz B gv gr os s pre n fl v a bad w0 w) (hr : RdAt tr w' gr s a' bad') (hg : w.grownBy w' (some gr)) : GSt tr tv te sz B gv gr os s pre n fl v a' bad' w0 w' := by
  have hf := h.far
  have l1 := blk_lt h.hv
  refine ⟨gr_below h.bel hg h.base (fun k e => by cases e; exact hf.2.1), (hg.block gv l1 (by simp; omega)).trans h.hv, hr, h.own.kept hg (.inr h.ne.2), fun p hp => ?_, h.ne, hf⟩
  obtain ⟨h1, h2, h3, h4, h5⟩ := h.oth p hp
  exact ⟨h1, (hg.block p.1 (blk_lt h2) (by simp; omega)).trans h2, h3, h4, h5⟩
theorem GSt.below (h : GSt tr tv te sz B gv gr os s pre n fl v a bad w0 w) (hb : Below w.heap.size w w') : GSt tr tv te sz B gv gr os s pre n fl v a bad w0 w' := by
  have hf := h.far
  have l1 := blk_lt h.hv
  refine ⟨h.bel.trans (hb.mono h.base), (hb.block gv l1).trans h.hv, h.rd.below hb, ?_, fun p hp => ?_, h.ne, hf⟩
  · refine h.own.kept (grown_of_below (r := none) hb) ?_
    cases v.ownBlock
    · exact .inl rfl
    · exact .inr (by simp)
  · obtain ⟨h1, h2, h3⟩ := h.oth p hp
    exact ⟨h1, (hb.block p.1 (blk_lt h2)).trans h2, h3⟩
theorem GSt.alloc (h : GSt tr tv te sz B gv gr os s pre n fl v a bad w0 w) (o : Obj) : GSt tr tv te sz B gv gr os s pre n fl v a bad w0 (w.alloc o) := h.below ((Below.refl _ _).alloc (Nat.le_refl _) o)
theorem GSt.drew (h : GSt tr tv te sz B gv gr os s pre n fl v a bad w0 w) : GSt tr tv te sz B gv gr os s pre n fl v a bad w0 w.drew := h.below (Below.drew (Below.refl _ _))
/-- A cell of another block from B on is written. -/
theorem GSt.other {g : Nat} (h : GSt tr tv te sz B gv gr os s pre n fl v a bad w0 w) (hg : w.grownBy w' (some g)) (hB : B ≤ g) (h1 : g ≠ gv) (h2 : g ≠ gr) (h3 : ∀ p ∈ os, g ≠ p.1) (h4 : v.ownBlock ≠ some g) : GSt tr tv te sz B gv gr os s pre n fl v a bad w0 w' := by
  have hf := h.far
  have l1 := blk_lt h.hv
  refine ⟨gr_below h.bel hg h.base (fun k e => by cases e; exact hB), (hg.block gv l1 (by simp; omega)).trans h.hv, (hg.block gr h.rd.lt (by simp; omega)).trans h.rd, h.own.kept hg (.inr h4), fun p hp => ?_, h.ne, hf⟩
  obtain ⟨q1, q2, q3⟩ := h.oth p hp
  exact ⟨q1, (hg.block p.1 (blk_lt q2) (by have := h3 p hp; simp; omega)).trans q2, q3⟩
/-- A cell ahead of the slice is written. -/
theorem GSt.setPre (h : GSt tr tv te sz B gv gr os s pre n fl v a bad w0 w) (j : Nat) (x : Value) (hj : j < pre.length) : GSt tr tv te sz B gv gr os s (pre.set j x) n fl v a bad w0 (w.setCell ⟨gv, j, none⟩ x) := by
  have hf := h.far
  have hset := gr_set w gv j x
  refine ⟨gr_below h.bel hset h.base (fun k e => by cases e; omega), ?_, (gr_setne w gv j gr _ (by omega)).trans h.rd, h.own.kept hset (.inr h.ne.1), fun p hp => ?_, h.ne, hf⟩
  · rw [blk_set h.hv]
    congr 2
    apply Array.ext'
    rw [Array.toList_setIfInBounds]
    show (pre ++ [v]).set j x = pre.set j x ++ [v]
    rw [List.set_append_left _ _ hj]
  · obtain ⟨h1, h2, h3⟩ := h.oth p hp
    exact ⟨h1, (gr_setne w gv j p.1 _ h3.1).trans h2, h3⟩
theorem GSt.at_ {g : Nat} {o : Obj} (h : GSt tr tv te sz B gv gr os s pre n fl v a bad w0 w) (hm : (g, o) ∈ os) : w.heap[g]? = some o := (h.oth _ hm).2.1
/-- A new block that is to stay. -/
theorem GSt.push (h : GSt tr tv te sz B gv gr os s pre n fl v a bad w0 w) (o : Obj) : GSt tr tv te sz B gv gr ((w.heap.size, o) :: os) s pre n fl v a bad w0 (w.alloc o) := by
  have h1 := h.alloc o
  refine ⟨h1.bel, h1.hv, h1.rd, h1.own, fun p hp => ?_, h1.ne, h1.far⟩
  rcases List.mem_cons.1 hp with rfl | hp
  · have l1 := blk_lt h.hv
    have l2 := h.rd.lt
    exact ⟨h.base, heap_alloc_new w o, by show w.heap.size ≠ gv; omega, by show w.heap.size ≠ gr; omega, fun e => by have := (h.own.lt _ e).2; omega⟩
  · exact h1.oth p hp
theorem GSt.pop {p : Nat × Obj} (h : GSt tr tv te sz B gv gr (p :: os) s pre n fl v a bad w0 w) : GSt tr tv te sz B gv gr os s pre n fl v a bad w0 w :=
  ⟨h.bel, h.hv, h.rd, h.own, fun q hq => h.oth q (List.mem_cons_of_mem _ hq), h.ne, h.far⟩
/-- A cell of the newest block is written. -/
theorem GSt.setTop {c : Nat} {cs : Array Value} {ty : TypeId} (h : GSt tr tv te sz B gv gr ((c, .cells cs ty) :: os) s pre n fl v a bad w0 w) (hd : ∀ p ∈ os, p.1 ≠ c) (j : Nat) (x : Value) : GSt tr tv te sz B gv gr ((c, .cells (cs.setIfInBounds j x) ty) :: os) s pre n fl v a bad w0 (w.setCell ⟨c, j, none⟩ x) := by
  obtain ⟨q1, q2, q3, q4, q5⟩ := h.oth _ (List.mem_cons_self ..)
  have h1 := h.pop.other (gr_set w c j x) q1 q3 q4 (fun p hp e => hd p hp e.symm) q5
  refine ⟨h1.bel, h1.hv, h1.rd, h1.own, fun p hp => ?_, h1.ne, h1.far⟩
  rcases List.mem_cons.1 hp with rfl | hp
  · exact ⟨q1, blk_set q2 j x, q3, q4, q5⟩
  · exact h1.oth p hp
theorem GSt.lt_ (h : GSt tr tv te sz B gv gr os s pre n fl v a bad w0 w) : ∀ p ∈ os, p.1 < w.heap.size := fun p hp => blk_lt (h.oth p hp).2.1
/-- Behind an append: the row that is longer, ahead of its being stored. -/
structure GApp (tr tv te : TypeId) (sz B gv gr : Nat) (os : List (Nat × Obj)) (s : ByteArray) (pre : List Value) (v : Value) (n : Nat) (fl : List Value) (v' : Value) (a : Nat) (bad : Bool) (w0 w : World) : Prop where
  bel : Below B w0 w
  hv : w.heap[gv]? = some (.cells (pre ++ [v]).toArray tv (0, 0))
  rd : RdAt tr w gr s a bad
  own : w.ownsRow B te sz v' n fl
  oth : ∀ p ∈ os, B ≤ p.1 ∧ w.heap[p.1]? = some p.2 ∧ p.1 ≠ gv ∧ p.1 ≠ gr ∧ v'.ownBlock ≠ some p.1
  ne : v'.ownBlock ≠ some gv ∧ v'.ownBlock ≠ some gr
  far : B ≤ gv ∧ B ≤ gr ∧ gv ≠ gr
theorem GSt.app {m g cap : Nat} {fl' : List Value} (h : GSt tr tv te sz B gv gr os s pre n fl v a bad w0 w) (hown : w2.ownsRow B te sz (.slice (some ⟨g, 0, none⟩) m cap) m fl') (hgrow : w.grownBy w2 v.ownBlock) (hat : v.ownBlock = some g ∨ g = w.heap.size) :
    GApp tr tv te sz B gv gr os s pre v m fl' (.slice (some ⟨g, 0, none⟩) m cap) a bad w0 w2 := by
  have hf := h.far
  have l1 := blk_lt h.hv
  have l2 := h.rd.lt
  refine ⟨gr_below h.bel hgrow h.base (fun k e => (h.own.lt k e).1), (hgrow.block gv l1 (fun e => h.ne.1 e.symm)).trans h.hv, (hgrow.block gr l2 (fun e => h.ne.2 e.symm)).trans h.rd, hown, fun p hp => ?_, ?_, hf⟩
  · obtain ⟨q1, q2, q3, q4, q5⟩ := h.oth p hp
    have l3 := blk_lt q2
    refine ⟨q1, (hgrow.block p.1 l3 (fun e => q5 e.symm)).trans q2, q3, q4, ?_⟩
    simp only [Value.ownBlock, ne_eq, Option.some.injEq]
    rcases hat with e | e
    · rw [e] at q5; simpa using q5
    · omega
  · simp only [Value.ownBlock, ne_eq, Option.some.injEq]
    rcases hat with e | e
    · have := h.ne
      rw [e] at this
      simpa using this
    · omega
theorem GApp.cv {v' : Value} (h : GApp tr tv te sz B gv gr os s pre v n fl v' a bad w0 w) (j : Nat) : w.cell? ⟨gv, j, none⟩ = (pre ++ [v])[j]? := by
  rw [cell_of_row w gv j _ _ (0, 0) h.hv, List.getElem?_toArray]
theorem GApp.stored {v' : Value} (h : GApp tr tv te sz B gv gr os s pre v n fl v' a bad w0 w) (k : Nat) (hk : k = pre.length) : GSt tr tv te sz B gv gr os s pre n fl v' a bad w0 (w.setCell ⟨gv, k, none⟩ v') := by
  subst hk
  have hf := h.far
  have hset := gr_set w gv pre.length v'
  have hb : B ≤ w.heap.size := Nat.le_trans hf.1 (Nat.le_of_lt (blk_lt h.hv))
  refine ⟨gr_below h.bel hset hb (fun k e => by cases e; omega), ?_, (gr_setne w gv _ gr _ (by omega)).trans h.rd, h.own.kept hset (.inr h.ne.1), fun p hp => ?_, h.ne, hf⟩
  · rw [blk_set h.hv]
    congr 2
    apply Array.ext'
    rw [Array.toList_setIfInBounds]
    show (pre ++ [v]).set pre.length v' = pre ++ [v']
    rw [List.set_append_right _ _ (Nat.le_refl _), Nat.sub_self]
    rfl
  · obtain ⟨h1, h2, h3⟩ := h.oth p hp
    exact ⟨h1, (gr_setne w gv _ p.1 _ h3.1).trans h2, h3⟩
end
theorem flat_len {α β : Type} {f : α → List β} {m : Nat} (hf : ∀ x, (f x).length = m) : ∀ xs : List α, ((xs.map f).flatten).length = xs.length * m
  | [] => by simp
  | x :: xs => by
    rw [List.map_cons, List.flatten_cons, List.length_append, flat_len hf xs, hf, List.length_cons, Nat.add_mul]
    omega
theorem flat_get {α β : Type} {f : α → List β} {m : Nat} (hf : ∀ x, (f x).length = m) : ∀ (xs : List α) (j d : Nat) (x : α), xs[j]? = some x → d < m → ((xs.map f).flatten)[j * m + d]? = (f x)[d]?
  | [], j, d, x, h, _ => by simp at h
  | y :: xs, 0, d, x, h, hd => by
    obtain rfl : y = x := by simpa using h
    rw [List.map_cons, List.flatten_cons, Nat.zero_mul, Nat.zero_add, List.getElem?_append_left (by rw [hf]; exact hd)]
  | y :: xs, j + 1, d, x, h, hd => by
    have e : (j + 1) * m + d = (f y).length + (j * m + d) := by rw [hf, Nat.add_mul]; omega
    rw [List.map_cons, List.flatten_cons, e, List.getElem?_append_right (Nat.le_add_right ..), Nat.add_sub_cancel_left]
    exact flat_get hf xs j d x (by simpa using h) hd
/-- What a row of the call's own holds, cell by cell. -/
theorem own_cells {w : World} {B : Nat} {te : TypeId} {m : Nat} {v : Value} {α : Type} {f : α → List Value} (hf : ∀ x, (f x).length = m) {xs : List α} (h : w.ownsRow B te m v xs.length ((xs.map f).flatten)) :
    (v = .slice none 0 0 ∧ xs = []) ∨ ∃ g cap, v = .slice (some ⟨g, 0, none⟩) xs.length cap ∧ B ≤ g ∧ g < w.heap.size ∧ xs.length ≤ cap ∧ cap ≤ 9223372036854775807 ∧ ∀ j x d, xs[j]? = some x → d < m → w.cell? ⟨g, j * m + d, none⟩ = (f x)[d]? := by
  rcases h.2 with ⟨rfl, h0⟩ | ⟨g, cap, cur, rfl, hB, hg, hn, hm, hc, ht⟩
  · exact .inl ⟨rfl, List.eq_nil_of_length_eq_zero h0⟩
  · refine .inr ⟨g, cap, rfl, hB, blk_lt hg, hn, hm, fun j x d hx hd => ?_⟩
    have hj := (List.getElem?_eq_some_iff.1 hx).1
    have hlt : j * m + d < xs.length * m := by
      have := Nat.mul_le_mul_right m (show j + 1 ≤ xs.length from hj)
      rw [Nat.add_mul] at this
      omega
    rw [blk_cell hg, ← flat_get hf xs j d x hx hd, ← ht, List.getElem?_take_of_lt hlt, Array.getElem?_toList]
/-- Two cells of one block written. -/
def set2 (w : World) (g : Nat) (a b : Value) : World := (w.setCell ⟨g, 0, none⟩ a).setCell ⟨g, 1, none⟩ b
theorem set2_blk {w : World} {g : Nat} {x y a b : Value} {t : TypeId} (h : w.heap[g]? = some (.cells #[x, y] t (0, 0))) : (set2 w g a b).heap[g]? = some (.cells #[a, b] t (0, 0)) := by
  unfold set2
  rw [blk_set (blk_set h 0 a) 1 b]
  rfl
theorem set2_grown (w : World) (g : Nat) (a b : Value) : w.grownBy (set2 w g a b) (some g) := grown_set (grown_set (World.grownBy.refl w _) 0 a) 1 b
theorem own_keep {w w' : World} {B : Nat} {te : TypeId} {m : Nat} {v : Value} {n : Nat} {fl : List Value} (h : w.ownsRow B te m v n fl) (hb : Below w.heap.size w w') : w'.ownsRow B te m v n fl := by
  refine World.ownsRow.kept h (grown_of_below (r := none) hb) ?_
  cases v.ownBlock
  · exact .inl rfl
  · exact .inr (by simp)
theorem own_low {w : World} {B B' : Nat} {te : TypeId} {m : Nat} {v : Value} {n : Nat} {fl : List Value} (h : w.ownsRow B te m v n fl) (hb : B' ≤ B) : w.ownsRow B' te m v n fl := by
  refine ⟨h.1, ?_⟩
  rcases h.2 with h2 | ⟨g, cap, cur, e, h3, r⟩
  · exact .inl h2
  · exact .inr ⟨g, cap, cur, e, Nat.le_trans hb h3, r⟩
theorem hText_len (s : ByteArray) (a : Nat) (b : Bool) : (rText s a b).1.length ≤ 20000 := by
  by_cases hc : b = true ∨ readShort (tail_ s a) = none
  · rw [rText_no s a hc]; simp
  · have hb : b = false := by cases b <;> simp_all
    subst hb
    cases hv : readShort (tail_ s a) with
    | none => exact (hc (.inr hv)).elim
    | some pk =>
      obtain ⟨y, m⟩ := pk
      rw [rText_yes hv]
      exact (readShort_took hv).2.1
theorem items_all {α : Type} {f : Nat → α × Nat × Bool} {P : α → Prop} (hf : ∀ a, P (f a).1) : ∀ (n a : Nat) (b : Bool), ∀ x ∈ (itemsBy f n a b).1, P x
  | 0, _, _, x, hx => by simp [itemsBy] at hx
  | _ + 1, _, true, x, hx => by simp [itemsBy] at hx
  | n + 1, a, false, x, hx => by
    simp only [itemsBy, List.mem_cons] at hx
    rcases hx with rfl | hx
    · exact hf a
    · exact items_all hf n _ _ x hx
theorem items_le {α : Type} {f : Nat → α × Nat × Bool} {m : Nat} (hf : ∀ a, a ≤ m → (f a).2.1 ≤ m) : ∀ (n a : Nat) (b : Bool), a ≤ m → (itemsBy f n a b).2.1 ≤ m
  | 0, _, _, h => h
  | _ + 1, _, true, h => h
  | n + 1, a, false, h => items_le hf n _ _ (hf a h)
theorem gres_row2 {P : Program} {fn : Func} {p u : Tmp} {ty : TypeId} (h : fn.results = #[.cell p ty, .tmp u]) (tmps : Array Value) (w : World) (g : Nat) (t : TypeId) (cs : Array Value) (fr : Nat × Nat) (d : TypeDesc) (hp : tmps.getD p undef = .pointer (some ⟨g, 0, none⟩)) (hg : w.heap[g]? = some (.cells cs t fr))
    (hu : P.underlying ty = some d) (hd : (match d with | .struct _ | .array _ _ => true | _ => false) = true) (hi : (P.info? ty).map (·.size) = some cs.size) : (results fn tmps).run P w = .ok (.tuple #[.agg cs, tmps.getD u undef]) w := by
  rw [results_cell_tmp h, hp]
  simp [asAddr, Result.andThen, run_loadVar_row w g t ty cs fr d hg hu hd hi]
end Go.Proofs.YtaacpdejpcbbbaaGreatDoor
