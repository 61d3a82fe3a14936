/- A row under way in a slot, read off a cursor: the cursor's block, other blocks that stay; any element type, any stride. -/
import Derived.Test.YtekhfplbhcfdmaaGrow
namespace Go.Proofs.Ytekhfplbhcfdmaa
set_option linter.unusedVariables false
set_option linter.unusedSimpArgs false
open Go.RowKit

/-- tr: the cursor's type · te, sz: the slice's element and its cells · os: blocks that stay. -/
structure RSt (tr te : TypeId) (sz B gr : Nat) (os : List (Nat × Obj)) (s : ByteArray) (n : Nat) (fl : List Value) (v : Value) (a : Nat) (bad : Bool) (w0 w : World) : Prop where
  bel : Below B w0 w
  rd : RdAt tr w gr s a bad
  own : w.ownsRow B te sz v n fl
  oth : ∀ p ∈ os, B ≤ p.1 ∧ w.heap[p.1]? = some p.2 ∧ p.1 ≠ gr ∧ v.ownBlock ≠ some p.1
  ne : v.ownBlock ≠ some gr
  far : B ≤ gr
section
variable {tr te : TypeId} {sz B gr : Nat} {os : List (Nat × Obj)} {s : ByteArray} {n : Nat} {fl : List Value} {v : Value} {a a' : Nat} {bad bad' : Bool} {w0 w w' w2 : World}
theorem RSt.base (h : RSt tr te sz B gr os s n fl v a bad w0 w) : B ≤ w.heap.size := Nat.le_trans h.far (Nat.le_of_lt h.rd.lt)
theorem RSt.read (h : RSt tr te sz B gr os s n fl v a bad w0 w) (hr : RdAt tr w' gr s a' bad') (hg : w.grownBy w' (some gr)) : RSt tr te sz B gr os s n fl v a' bad' w0 w' := by
  have hf := h.far
  refine ⟨gr_below h.bel hg h.base (fun k e => by cases e; exact hf), hr, h.own.kept hg (.inr h.ne), fun p hp => ?_, h.ne, hf⟩
  obtain ⟨h1, h2, h4, h5⟩ := h.oth p hp
  exact ⟨h1, (hg.block p.1 (blk_lt h2) (by simp; omega)).trans h2, h4, h5⟩
theorem RSt.below (h : RSt tr te sz B gr os s n fl v a bad w0 w) (hb : Below w.heap.size w w') : RSt tr te sz B gr os s n fl v a bad w0 w' := by
  refine ⟨h.bel.trans (hb.mono h.base), h.rd.below hb, ?_, fun p hp => ?_, h.ne, h.far⟩
  · refine h.own.kept (grown_of_below (r := none) hb) ?_
    cases v.ownBlock
    · exact .inl rfl
    · exact .inr (by simp)
  · obtain ⟨h1, h2, h3⟩ := h.oth p hp
    exact ⟨h1, (hb.block p.1 (blk_lt h2)).trans h2, h3⟩
theorem RSt.alloc (h : RSt tr te sz B gr os s n fl v a bad w0 w) (o : Obj) : RSt tr te sz B gr os s n fl v a bad w0 (w.alloc o) := h.below ((Below.refl _ _).alloc (Nat.le_refl _) o)
theorem RSt.drew (h : RSt tr te sz B gr os s n fl v a bad w0 w) : RSt tr te sz B gr os s n fl v a bad w0 w.drew := h.below (Below.drew (Below.refl _ _))
theorem RSt.at_ {g : Nat} {o : Obj} (h : RSt tr te sz B gr os s n fl v a bad w0 w) (hm : (g, o) ∈ os) : w.heap[g]? = some o := (h.oth _ hm).2.1
theorem RSt.push (h : RSt tr te sz B gr os s n fl v a bad w0 w) (o : Obj) : RSt tr te sz B gr ((w.heap.size, o) :: os) s n fl v a bad w0 (w.alloc o) := by
  have h1 := h.alloc o
  refine ⟨h1.bel, h1.rd, h1.own, fun p hp => ?_, h1.ne, h1.far⟩
  rcases List.mem_cons.1 hp with rfl | hp
  · have l2 := h.rd.lt
    exact ⟨h.base, heap_alloc_new w o, by show w.heap.size ≠ gr; omega, fun e => by have := (h.own.lt _ e).2; omega⟩
  · exact h1.oth p hp
theorem RSt.pop {p : Nat × Obj} (h : RSt tr te sz B gr (p :: os) s n fl v a bad w0 w) : RSt tr te sz B gr os s n fl v a bad w0 w :=
  ⟨h.bel, h.rd, h.own, fun q hq => h.oth q (List.mem_cons_of_mem _ hq), h.ne, h.far⟩
theorem RSt.setTop {c : Nat} {cs : Array Value} {ty : TypeId} (h : RSt tr te sz B gr ((c, .cells cs ty) :: os) s n fl v a bad w0 w) (hd : ∀ p ∈ os, p.1 ≠ c) (j : Nat) (x : Value) : RSt tr te sz B gr ((c, .cells (cs.setIfInBounds j x) ty) :: os) s n fl v a bad w0 (w.setCell ⟨c, j, none⟩ x) := by
  obtain ⟨q1, q2, q4, q5⟩ := h.oth _ (List.mem_cons_self ..)
  have hg := gr_set w c j x
  have hf := h.far
  have l2 := h.rd.lt
  refine ⟨gr_below h.bel hg h.base (fun k e => by cases e; exact q1), (hg.block gr l2 (by simp at q4 ⊢; omega)).trans h.rd, h.own.kept hg (.inr q5), fun p hp => ?_, h.ne, hf⟩
  rcases List.mem_cons.1 hp with rfl | hp
  · exact ⟨q1, blk_set q2 j x, q4, q5⟩
  · obtain ⟨r1, r2, r3⟩ := h.oth p (List.mem_cons_of_mem _ hp)
    exact ⟨r1, (hg.block p.1 (blk_lt r2) (by have := hd p hp; simp; omega)).trans r2, r3⟩
/-- Behind an append. -/
theorem RSt.app {m g cap : Nat} {fl' : List Value} (h : RSt tr te sz B gr os s n fl v a bad w0 w) (hown : w2.ownsRow B te sz (.slice (some ⟨g, 0, none⟩) m cap) m fl') (hgrow : w.grownBy w2 v.ownBlock) (hat : v.ownBlock = some g ∨ g = w.heap.size) :
    RSt tr te sz B gr os s m fl' (.slice (some ⟨g, 0, none⟩) m cap) a bad w0 w2 := by
  have hf := h.far
  have l2 := h.rd.lt
  refine ⟨gr_below h.bel hgrow h.base (fun k e => (h.own.lt k e).1), (hgrow.block gr l2 (fun e => h.ne e.symm)).trans h.rd, hown, fun p hp => ?_, ?_, hf⟩
  · obtain ⟨q1, q2, q4, q5⟩ := h.oth p hp
    have l3 := blk_lt q2
    refine ⟨q1, (hgrow.block p.1 l3 (fun e => q5 e.symm)).trans q2, q4, ?_⟩
    simp only [Value.ownBlock, ne_eq, Option.some.injEq]
    rcases hat with e | e
    · rw [e] at q5; simpa using q5
    · omega
  · simp only [Value.ownBlock, ne_eq, Option.some.injEq]
    rcases hat with e | e
    · have := h.ne
      rw [e] at this
      simpa using this
    · omega
end
end Go.Proofs.Ytekhfplbhcfdmaa
