/- Lists of lists: one row more behind them, whatever lay between. -/
import Derived.Test.YtanpkomifhbhnaaDoorReqs
namespace Go.Proofs.YtanpkomifhbhnaaDoor
set_option linter.unusedVariables false
set_option linter.unusedSimpArgs false
open Go.RowKit

theorem OwnSS.push' {w1 w2 : World} {B H g cap : Nat} {v v1 : Value} {vs : List Value} {xss : List (List ByteArray)} {xs : List ByteArray} {o : Obj} (hr : Rows2 w1 B vs xss) (ho : Out2 w1 B v vs)
    (hlt : ∀ u ∈ vs, ∀ k, u.ownBlock = some k → k < H) (hvl : ∀ k, v.ownBlock = some k → k < H) (h1 : StrOwn w1 H v1 xs) (hx : ∀ x ∈ xs, x.size ≤ 9223372036854775807) (hB : B ≤ H) (hH : H ≤ w1.heap.size)
    (hown : w2.ownsRow B 22 1 (.slice (some ⟨g, 0, none⟩) (vs.length + 1) cap) (vs.length + 1) (vs ++ [v1])) (hgrow : (w1.alloc o).grownBy w2 v.ownBlock) (hat : v.ownBlock = some g ∨ g = (w1.alloc o).heap.size) :
    OwnSS w2 B (.slice (some ⟨g, 0, none⟩) (vs.length + 1) cap) (xss ++ [xs]) := by
  have hs1 : (w1.alloc o).heap.size = w1.heap.size + 1 := by simp
  have hl1 := h1.lt
  have r1 : Rows2 (w1.alloc o) B vs xss := hr.kept (World.grownBy_alloc w1 o none) fun _ _ _ _ e => by cases e
  have r2 : Rows2 w2 B vs xss := r1.kept hgrow fun u hu k hk e => ho.2 k e u hu hk
  have s1 : StrOwn (w1.alloc o) H v1 xs := h1.kept (World.grownBy_alloc w1 o none) fun _ _ e => by cases e
  have s2 : StrOwn w2 H v1 xs := s1.kept hgrow fun k hk e => by have := hvl k e; have := (hl1 k hk).1; omega
  refine ⟨vs ++ [v1], Rows2.snoc (s2.mono hB) hx r2 fun u hu k hk e => by have := hlt u hu k hk; have := (hl1 k e).1; omega, ?_, ?_⟩
  · rw [List.length_append]
    exact hown
  · intro k hk u hu e
    simp only [Value.ownBlock, Option.some.injEq] at hk
    subst hk
    rcases List.mem_append.1 hu with hu | hu
    · rcases hat with hat | hat
      · exact ho.2 _ hat u hu e
      · have := hlt u hu _ e; omega
    · obtain rfl := List.mem_singleton.1 hu
      rcases hat with hat | hat
      · have := hvl _ hat; have := (hl1 _ e).1; omega
      · have := (hl1 _ e).2; omega
end Go.Proofs.YtanpkomifhbhnaaDoor
