/- Batches: the reference's BatchText. -/
import Derived.Test.YtanebcllcgchcaaGreatDoorBat4
import Derived.Test.YtanebcllcgchcaaGreatDoorSh
import Derived.Deep.RegionHeldLaw
namespace Go.Proofs.YtanebcllcgchcaaGreatDoor
set_option linter.unusedVariables false
set_option linter.unusedSimpArgs false
open Go.RowKit
attribute [local go_sem] bs_size List.length_cons List.length_nil List.length_append

theorem bytes_cells (w : World) (s : ByteArray) : ∀ j u, (vB (ub s))[j]? = some u → (Lib.bytesWorld w 5 s).cell? ((⟨w.heap.size, 0, none⟩ : Addr).add j) = some u := by
  intro j u hu
  have hj : j < s.size := by
    have := (List.getElem?_eq_some_iff.1 hu).1
    rw [vB_length, ub_length] at this
    exact this
  rw [add_plain, Lib.bytesWorld_cell w 5 s j hj]
  have h' : j < s.data.toList.length := by rw [Array.length_toList]; exact hj
  simp only [vB, ub, List.getElem?_map, List.getElem?_eq_getElem h', Option.map_some, Option.some.injEq] at hu
  rw [← hu, List.getD_eq_getElem?_getD, List.getElem?_eq_getElem h']
  rfl
theorem keep2b {w w' : World} {a b : Addr} {x y : Value} (h1 : w.cell? a = some x) (h2 : w.cell? b = some y) (hb : Below w.heap.size w w') : w'.cell? a = some x ∧ w'.cell? b = some y ∧ Hid (Below w.heap.size w w') :=
  ⟨(hb.cell (World.block_lt_of_cell? w _ h1)).trans h1, (hb.cell (World.block_lt_of_cell? w _ h2)).trans h2, hb⟩
theorem bl_bytes {a W : World} (h : Below a.heap.size a W) (s : ByteArray) : Below a.heap.size a (Lib.bytesWorld W 5 s) := bytes_below h h.size s
theorem bat_start {w1 w' : World} (u : Nat) (cs : List ChD) (hb : Below w1.heap.size w1 w') (h30 : (batHead ((u : Int), cs)).length ≤ 30) :
    OwnB (Lib.bytesWorld w' 5 ((⟨#[66]⟩ : ByteArray) ++ bs (varBytes u) ++ bs (varBytes cs.length))) w1.heap.size (.slice (some ⟨w'.heap.size, 0, none⟩) (1 + (varBytes u).length + (varBytes cs.length).length) (grownCap w' (1 + (varBytes u).length + (varBytes cs.length).length) 0 5)) (batHead ((u : Int), cs)) := by
  have e : (⟨#[66]⟩ : ByteArray) ++ bs (varBytes u) ++ bs (varBytes cs.length) = bs (batHead ((u : Int), cs)) := by
    have e0 : (⟨#[66]⟩ : ByteArray) = bs [66] := rfl
    rw [e0, bs_append, bs_append, batHead]
    simp
  have z : 1 + (varBytes u).length + (varBytes cs.length).length = (bs (batHead ((u : Int), cs))).size := by
    rw [bs_size, batHead]
    simp
    omega
  rw [e, z]
  have := ownB_bytes w' w1.heap.size (bs (batHead ((u : Int), cs))) hb.size (by rw [bs_size]; unfold maxLen; omega)
  rw [ub_bs] at this
  exact this
theorem step_appB {ops : Array Oper} {o : Oper} {a : Act} {w : World} {K : Act → World → Prop} {Q : Exit → Act → World → Prop} {E : Prop} (hgd : o.guard = none) (sl x : Operand)
    (ho : o.op = .call { callee := .builtin .append, args := #[sl, x], argTypes := #[22, 22] }) (base : Nat) (v : Value) (l : List UInt8) (hs : a.eval sl = v) (hown : OwnB w base v l)
    (ad : Addr) (c : Nat) (k : List UInt8) (hx : a.eval x = .slice (some ad) k.length c) (hnews : ∀ j u, (vB k)[j]? = some u → w.cell? (ad.add j) = some u) (hbytes : l.length + k.length ≤ 140737488355328) (hbase : base ≤ w.heap.size)
    (hK : ∀ v' w', OwnB w' base v' (l ++ k) → w.grownBy w' v.ownBlock → K (a.put o.dst v') w') :
    if Region.wanted o (yielded ops a.tmps) = true then Oper.wp Tryz.prog o a w K Q else E := by
  have hw : Region.wanted o (yielded ops a.tmps) = true := by simp [Region.wanted, hgd]
  rw [if_pos hw]
  obtain ⟨v', w', hr, h2, h3⟩ := run_append_B w base o.type v l hown ad c k hnews hbytes hbase
  unfold Oper.wp execOp
  simp only [ho, resolve, invoke, builtin, Sem.run_bind, Sem.run_pure, Result.andThen_ok, List.map_toArray, List.map_cons, List.map_nil, hs, hx, hr]
  exact hK _ _ h2 h3
theorem keepG {w w' : World} {g : Nat} {r : Option Nat} {x y z : Value} (h1 : w.cell? ⟨g, 0, none⟩ = some x) (h2 : w.cell? ⟨g, 1, none⟩ = some y) (h3 : w.cell? ⟨g, 2, none⟩ = some z) (hne : ∀ k, r = some k → k ≠ g) (hg : w.grownBy w' r) : w'.cell? ⟨g, 0, none⟩ = some x ∧ w'.cell? ⟨g, 1, none⟩ = some y ∧ w'.cell? ⟨g, 2, none⟩ = some z ∧ Hid (w.grownBy w' r) :=
  ⟨hg.cell h1 (fun e => hne g e.symm rfl), hg.cell h2 (fun e => hne g e.symm rfl), hg.cell h3 (fun e => hne g e.symm rfl), hg⟩
end Go.Proofs.YtanebcllcgchcaaGreatDoor
