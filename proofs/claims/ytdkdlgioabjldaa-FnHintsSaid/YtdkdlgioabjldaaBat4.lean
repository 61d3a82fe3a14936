/- Batches: the program's BatchText. -/
import Derived.Test.YtdkdlgioabjldaaBat3
import Derived.Test.YtdkdlgioabjldaaBl
import Derived.Deep.RegionHeld3
namespace Go.Proofs.Ytdkdlgioabjldaa
set_option linter.unusedVariables false
set_option linter.unusedSimpArgs false
open Go.RowKit
attribute [local go_sem] bs_size List.length_cons List.length_nil List.length_append

theorem chsBytes_snoc {cs : List ChD} {i : Nat} {x : ChD} (h : cs[i]? = some x) : chsBytes (cs.take (i + 1)) = chsBytes (cs.take i) ++ chBytes x := by
  rw [take_snoc h]
  simp [chsBytes]
theorem chBytes_len {x : ChD} (h : x.1.size ≤ 20 ∧ x.2.1.size ≤ 2000) : (chBytes x).length ≤ 2100 := by
  have h1 := shortB_len x.1 (by omega)
  have h2 := shortB_len x.2.1 (by omega)
  unfold chBytes
  rw [List.length_append, List.length_cons]
  omega
theorem chsBytes_len : ∀ (cs : List ChD), (∀ x ∈ cs, x.1.size ≤ 20 ∧ x.2.1.size ≤ 2000) → (chsBytes cs).length ≤ 2100 * cs.length
  | [], _ => by simp [chsBytes]
  | x :: cs, h => by
    have h1 := chBytes_len (h x (by simp))
    have h2 := chsBytes_len cs fun y hy => h y (by simp [hy])
    have e : chsBytes (x :: cs) = chBytes x ++ chsBytes cs := by simp [chsBytes]
    rw [e, List.length_append, List.length_cons]
    omega
theorem batHead_len {d : BatD} (h : 0 ≤ d.1 ∧ d.1 ≤ 1000000000) (hn : d.2.length ≤ 40) : (batHead d).length ≤ 30 := by
  have h1 := var_len (n := d.1.toNat) (by omega)
  have h2 := var_len (n := d.2.length) (by omega)
  unfold batHead
  rw [List.length_cons, List.length_append]
  omega
theorem keep3 {w w' : World} {a b d : Addr} {x y z : Value} (h1 : w.cell? a = some x) (h2 : w.cell? b = some y) (h3 : w.cell? d = some z) (hb : Below w.heap.size w w') : w'.cell? a = some x ∧ w'.cell? b = some y ∧ w'.cell? d = some z ∧ Hid (Below w.heap.size w w') :=
  ⟨(hb.cell (World.block_lt_of_cell? w _ h1)).trans h1, (hb.cell (World.block_lt_of_cell? w _ h2)).trans h2, (hb.cell (World.block_lt_of_cell? w _ h3)).trans h3, hb⟩
theorem ch_text (k v : ByteArray) (g : Bool) : (bs (shortB (ub k)) ++ bs [flagB g]) ++ bs (shortB (ub v)) = bs (chBytes (k, v, g)) := by
  rw [bs_append, bs_append, chBytes]
  simp
theorem bat_head (u n : Nat) (cs : List ChD) (h : cs.length = n) : (⟨#[66]⟩ : ByteArray) ++ bs (varsB [u, n]) = bs (batHead ((u : Int), cs)) := by
  subst h
  have e : (⟨#[66]⟩ : ByteArray) = bs [66] := rfl
  rw [e, bs_append, batHead]
  simp [varsB]
end Go.Proofs.Ytdkdlgioabjldaa
