/- A disk and a spot that came in. -/
import Derived.Test.YtdkdlgioabjldaaDoorValW
import Derived.Deep.Slices
namespace Go.Proofs.YtdkdlgioabjldaaDoor
set_option linter.unusedVariables false
set_option linter.unusedSimpArgs false
open Go.RowKit

theorem fiRow_of_trod {H : Type} {enc : TypeId × Value → H} {P : Program} {w : World} {base : Nat} {held : Bool} {t e : TypeId} {f0 f1 f2 : Field} {fuel : Nat} {A : Option Addr} {len cap : Nat} {x : DataW H × List MemPlace}
    (ht : P.underlying t = some (.slice e)) (he : P.underlying e = some (.struct #[f0, f1, f2])) (ce : P.cellsOf e = 3) (o0 : f0.offset = 0) (o1 : f1.offset = 1) (o2 : f2.offset = 2) (c0 : P.cellsOf f0.type = 1) (c1 : P.cellsOf f1.type = 1) (c2 : P.cellsOf f2.type = 1)
    (u0 : P.underlying f0.type = some .string) (u1 : P.underlying f1.type = some .string) (u2 : P.underlying f2.type = some (.int .i64))
    (h : DataW.trod enc P w base (fun _ => true) held fuel t [.slice A len cap] = some x) : ∃ fs : List FiD, len = fs.length ∧ FiRow w A cap fs := by
  rcases Go.Deep.open_slice ht h with ⟨hcs, _⟩ | ⟨a, len', cap', m, n, D, Pl, hcs, hb, hl, hm, hmm, _, hx⟩
  · simp at hcs
    obtain ⟨rfl, rfl, rfl⟩ := hcs
    exact ⟨[], rfl, by simp, by simp, by simp, fun h0 => by simp at h0⟩
  · simp at hcs
    obtain ⟨rfl, rfl, rfl⟩ := hcs
    rw [if_pos rfl] at hmm
    have each : ∀ i, i < len → ∃ q : FiD, w.cell? (a.add (i * 3)) = some (.string q.1) ∧ w.cell? ((a.add (i * 3)).add 1) = some (.string q.2.1) ∧ w.cell? ((a.add (i * 3)).add 2) = some (.int .i64 q.2.2) ∧ q.1.size ≤ maxLen ∧ q.2.1.size ≤ maxLen := by
      intro i hi
      obtain ⟨cs', h1, h2⟩ := hx i (by omega)
      rw [ce] at h1
      obtain ⟨_, hlen, hcell⟩ := World.cells?_some h1
      obtain ⟨xs, k, hk, hxy, _, hxl, hf⟩ := DataW.trod_struct he h2
      match xs, hxl, cs', hlen with
      | [y0, y1, y2], _, [v0, v1, v2], _ =>
        have g0 := hf 0 f0 rfl
        have g1 := hf 1 f1 rfl
        have g2 := hf 2 f2 rfl
        simp [o0, o1, o2, c0, c1, c2] at g0 g1 g2
        obtain ⟨s0, e0, _, z0⟩ := DataW.trod_string u0 g0
        obtain ⟨s1, e1, _, z1⟩ := DataW.trod_string u1 g1
        obtain ⟨k2, e2, _, _⟩ := DataW.trod_int u2 g2
        have d0 := hcell 0 (by omega)
        have d1 := hcell 1 (by omega)
        have d2 := hcell 2 (by omega)
        simp at e0 e1 e2
        subst e0 e1 e2
        refine ⟨(s0, s1, k2), ?_, d1, d2, z0, z1⟩
        have : (a.add (i * 3)).add 0 = a.add (i * 3) := by simp [Addr.add]
        rwa [this] at d0
    obtain ⟨q, hq⟩ := Go.Deep.choose_lt each
    have hlen : ((List.range len).map q).length = len := by simp
    refine ⟨(List.range len).map q, hlen.symm, by rw [hlen]; exact hl, by unfold maxLen at hm; exact hm, fun y hy => ?_, fun h0 => ⟨a, rfl, ?_, fun j y hy => ?_⟩⟩
    · obtain ⟨i, hi, rfl⟩ := List.mem_map.1 hy
      have := hq i (List.mem_range.1 hi)
      unfold maxLen at this
      exact ⟨this.2.2.2.1, this.2.2.2.2⟩
    · have := World.block_lt_of_cell? w _ (hq 0 (by rw [hlen] at h0; exact h0)).1
      rwa [add_block] at this
    · have hj := (List.getElem?_eq_some_iff.1 hy).1
      rw [hlen] at hj
      simp [hj] at hy
      subst hy
      obtain ⟨d0, d1, d2, _, _⟩ := hq j hj
      refine ⟨d0, ?_, ?_⟩
      · simpa [Addr.add] using d1
      · simpa [Addr.add] using d2
set_option maxRecDepth 100000 in
theorem disk_of_trod {H : Type} {enc : TypeId × Value → H} {w : World} {base b0 : Nat} {held : Bool} {r : Reach} {v : Value} {d : DataW H} {p : List MemPlace} (hv : Value.okWide Tryd.prog w r b0 40 v) (h : DataW.Trod enc Tryd.prog w base (fun _ => true) held 40 v d p) :
    ∃ A c fs, v = .agg #[.slice A (List.length fs) c] ∧ FiRow w A c fs := by
  obtain ⟨cs, rfl, hsz⟩ := Go.WideShapes.okWide_struct Tryd.underlying40 hv
  have e1 : Tryd.prog.cellsOf 40 = 1 := by kernel_rfl
  rw [e1] at hsz
  obtain ⟨fuel, hf⟩ := h
  obtain ⟨xs, n, _, _, _, hxl, hx⟩ := DataW.trod_struct Tryd.underlying40 hf
  have g0 := hx 0 _ rfl
  obtain ⟨l⟩ := cs
  match l, hsz with
  | [v0], _ =>
    have e2 : Tryd.prog.cellsOf 38 = 1 := by kernel_rfl
    match xs, hxl with
    | [y0], _ =>
      have g1 : DataW.trod enc Tryd.prog w base (fun _ => true) held n 38 [v0] = some y0 := by
        have := g0
        simp [Value.cells, e2] at this
        exact this
      rcases Go.Deep.open_slice Tryd.underlying38 g1 with ⟨hcs, _⟩ | ⟨a, len', cap', m, n', D, Pl, hcs, _⟩
      · simp at hcs
        subst hcs
        exact ⟨none, 0, [], rfl, by simp, by simp, by simp, fun h0 => by simp at h0⟩
      · simp at hcs
        subst hcs
        obtain ⟨fs, hl, hr⟩ := fiRow_of_trod Tryd.underlying38 Tryd.underlying99 (by kernel_rfl) rfl rfl rfl (by kernel_rfl) (by kernel_rfl) (by kernel_rfl) Tryd.underlying9 Tryd.underlying9 Tryd.underlying3 g1
        subst hl
        exact ⟨_, _, fs, rfl, hr⟩
set_option maxRecDepth 100000 in
theorem spot_of_trod {H : Type} {enc : TypeId × Value → H} {w : World} {base b0 : Nat} {held : Bool} {r : Reach} {v : Value} {d : DataW H} {p : List MemPlace} (hv : Value.okWide Tryd.prog w r b0 42 v) (h : DataW.Trod enc Tryd.prog w base (fun _ => true) held 42 v d p) :
    ∃ (key : ByteArray) (seg at_ sq : Int), v = .agg #[.string key, .int .i64 seg, .int .i64 at_, .int .i64 sq] ∧ key.size ≤ 9223372036854775807 := by
  obtain ⟨cs, rfl, hsz⟩ := Go.WideShapes.okWide_struct Tryd.underlying42 hv
  have e1 : Tryd.prog.cellsOf 42 = 4 := by kernel_rfl
  rw [e1] at hsz
  obtain ⟨fuel, hf⟩ := h
  obtain ⟨xs, n, _, _, _, hxl, hx⟩ := DataW.trod_struct Tryd.underlying42 hf
  have g0 := hx 0 _ rfl
  have g1 := hx 1 _ rfl
  have g2 := hx 2 _ rfl
  have g3 := hx 3 _ rfl
  obtain ⟨l⟩ := cs
  have es : Tryd.prog.cellsOf 9 = 1 := by kernel_rfl
  have ei : Tryd.prog.cellsOf 3 = 1 := by kernel_rfl
  match l, hsz with
  | [v0, v1, v2, v3], _ =>
    match xs, hxl with
    | [y0, y1, y2, y3], _ =>
      simp [Value.cells, es, ei] at g0 g1 g2 g3
      obtain ⟨s0, e0, _, z0⟩ := DataW.trod_string Tryd.underlying9 g0
      obtain ⟨k1, e1', _, _⟩ := DataW.trod_int Tryd.underlying3 g1
      obtain ⟨k2, e2', _, _⟩ := DataW.trod_int Tryd.underlying3 g2
      obtain ⟨k3, e3', _, _⟩ := DataW.trod_int Tryd.underlying3 g3
      simp at e0 e1' e2' e3'
      subst e0 e1' e2' e3'
      exact ⟨s0, k1, k2, k3, rfl, by unfold maxLen at z0; exact z0⟩
end Go.Proofs.YtdkdlgioabjldaaDoor
