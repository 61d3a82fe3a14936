/- Segments: ReadSegment, the program's and the reference's. -/
import Derived.Test.YticnhfflppkpoaaGreatDoorSeg4
import Derived.Test.YticnhfflppkpoaaGreatDoorBReadS
namespace Go.Proofs.YticnhfflppkpoaaGreatDoor
set_option linter.unusedVariables false
set_option linter.unusedSimpArgs false
open Go.RowKit
attribute [local go_sem] bs_size List.length_cons List.length_nil List.length_append

/-- Where the last frame ends. -/
def endOf (l : Nat) (pls : List PlD) : Nat := match pls.getLast? with
  | none => l
  | some p => p.2.1 + p.2.2
theorem endOf_snoc (l : Nat) (pls : List PlD) (p : PlD) : endOf l (pls ++ [p]) = p.2.1 + p.2.2 := by unfold endOf; rw [List.getLast?_concat]
theorem placedGo_le : ∀ (rs : List ByteArray) (last : Option Int) (a : Nat), (∀ x ∈ rs, 1 ≤ x.size ∧ x.size ≤ 9000) → ∀ p ∈ placedGo last a rs, p.2.1 ≤ a + 9020 * rs.length ∧ p.2.2 ≤ 9020
  | [], last, a, _, p, hp => by simp [placedGo] at hp
  | r :: rs, last, a, h, p, hp => by
    have hl := frameLen_le (h r (by simp)).2
    have ih := fun b => placedGo_le rs (some b) (a + frameLen r) (fun x hx => h x (by simp [hx])) p
    have go : ∀ b : BatD, p ∈ (b, a, frameLen r) :: placedGo (some b.1) (a + frameLen r) rs → p.2.1 ≤ a + 9020 * (r :: rs).length ∧ p.2.2 ≤ 9020 := by
      intro b hp
      rw [List.length_cons]
      rcases List.mem_cons.1 hp with rfl | hp
      · dsimp only; omega
      · have := ih b.1 hp
        omega
    cases hb : readBatS r with
    | none => rw [placedGo_none hb] at hp; simp at hp
    | some b =>
      cases last with
      | none => rw [placedGo_first hb] at hp; exact go b hp
      | some q =>
        by_cases hq : b.1 ≤ q
        · rw [placedGo_low hb hq] at hp; simp at hp
        · rw [placedGo_next hb hq] at hp; exact go b hp
theorem placedGo_len : ∀ (rs : List ByteArray) (last : Option Int) (a : Nat), (placedGo last a rs).length ≤ rs.length
  | [], last, a => by simp [placedGo]
  | r :: rs, last, a => by
    have ih := fun b => placedGo_len rs (some b) (a + frameLen r)
    cases hb : readBatS r with
    | none => rw [placedGo_none hb]; simp
    | some b =>
      have := ih b.1
      cases last with
      | none => rw [placedGo_first hb]; simp only [List.length_cons]; omega
      | some q =>
        by_cases hq : b.1 ≤ q
        · rw [placedGo_low hb hq]; simp
        · rw [placedGo_next hb hq]; simp only [List.length_cons]; omega
theorem results_tmp4 {fn : Func} {t u v x : Tmp} (h : fn.results = #[.tmp t, .tmp u, .tmp v, .tmp x]) (tmps : Array Value) (P : Program) (w : World) :
    (results fn tmps).run P w = .ok (.tuple #[tmps.getD t undef, tmps.getD u undef, tmps.getD v undef, tmps.getD x undef]) w := by
  simp [results, h]
/-- A batch's cells. -/
def batVals (z : Value × BatD) : List Value := [.int .i64 z.2.1, z.1]
def BatsOwn (w : World) (B : Nat) (v : Value) (bs : List BatD) : Prop := ListC 47 2 batVals (fun b => b.2) w B v bs
def SegPost (w : World) (o : Option (Nat × Nat × List PlD)) (e : Ending) (w' : World) : Prop := Below w.heap.size w w' ∧ match o with
  | none => ∃ v, e = .returned (.tuple #[.int .i64 0, v, .int .i64 0, .bool false]) ∧ BatsOwn w' w.heap.size v []
  | some (f, l, pls) => ∃ v, e = .returned (.tuple #[.int .i64 (f : Int), v, .int .i64 (endOf l pls : Int), .bool true]) ∧ BatsOwn w' w.heap.size v (pls.map Prod.fst)
theorem segPost_no {w w' : World} {o : Option (Nat × Nat × List PlD)} {v : Value} (he : o = none) (ho : BatsOwn w' w.heap.size v []) (hb : Below w.heap.size w w') : SegPost w o (.returned (.tuple #[.int .i64 0, v, .int .i64 0, .bool false])) w' := by
  subst he
  exact ⟨hb, v, rfl, ho⟩
theorem segPost_of {w w' : World} {o : Option (Nat × Nat × List PlD)} {f l en : Nat} {pls acc : List PlD} {v : Value} (he : o = some (f, l, pls)) (hw : pls = acc) (hen : endOf l acc = en) (ho : BatsOwn w' w.heap.size v (acc.map Prod.fst)) (hb : Below w.heap.size w w') : SegPost w o (.returned (.tuple #[.int .i64 (f : Int), v, .int .i64 (en : Int), .bool true])) w' := by
  subst he hw hen
  exact ⟨hb, v, rfl, ho⟩
theorem info_bt : (Tryz.prog.info? 47).map (fun i => (i.zero, i.size, i.bytes)) = some (some (.agg #[.int .i64 0, .slice none 0 0]), 2, 32) := by kernel_rfl
theorem segPl_bound {n : Int} {s : ByteArray} {f l : Nat} {pls : List PlD} (h : segPl n s = some (f, l, pls)) : headOfB n s = some (f, l) ∧ pls.length ≤ 20000 ∧ ∀ p ∈ pls, p.2.1 ≤ 200000000 ∧ p.2.2 ≤ 9020 := by
  cases hh : headOfB n s with
  | none => rw [segPl_none hh] at h; cases h
  | some x =>
    obtain ⟨f', l'⟩ := x
    obtain ⟨r, rs, hu, hl, he⟩ := segPl_some hh
    rw [he] at h
    simp only [Option.some.injEq, Prod.mk.injEq] at h
    obtain ⟨rfl, rfl, rfl⟩ := h
    obtain ⟨_, hlen, hsm⟩ := unframeB_le s
    rw [hu] at hlen hsm
    rw [List.length_cons] at hlen
    have hl9 : l' ≤ 9020 := by rw [hl]; exact frameLen_le (hsm r (by simp)).2
    refine ⟨rfl, ?_, fun p hp => ?_⟩
    · have := placedGo_len rs none l'
      omega
    · have := placedGo_le rs none l' (fun x hx => hsm x (by simp [hx])) p hp
      omega
/-- The rows of a list, its outer row aside: what another outer row over the same rows wants. -/
theorem listC_of {w w' : World} {B B' : Nat} {zs : List (Value × PlD)} {v : Value} (h2 : RowsC w B (zs.map Prod.fst) ((zs.map Prod.snd).map fun p => p.1.2)) (hb : Below w.heap.size w w') (hB : B' ≤ B) (hB' : B' ≤ w.heap.size)
    (ho : w'.ownsRow w.heap.size 47 2 v zs.length ((zs.map fun z => batVals (z.1, z.2.1)).flatten)) : BatsOwn w' B' v ((zs.map Prod.snd).map Prod.fst) := by
  refine ⟨zs.map fun z => (z.1, z.2.1), by simp [List.map_map, Function.comp_def], ⟨?_, fun k hk z hz e => ?_⟩, ?_⟩
  · rw [List.length_map, List.map_map]
    exact own_low ho hB'
  · obtain ⟨q, hq, rfl⟩ := List.mem_map.1 hz
    have h3 := (ho.lt k hk).1
    have h4 := (h2.lt q.1 (List.mem_map_of_mem hq) k e).2
    omega
  · have := (h2.kept (grown_of_below (r := none) hb) fun u _ k _ e => by cases e).mono hB
    simpa [List.map_map, Function.comp_def] using this
end Go.Proofs.YticnhfflppkpoaaGreatDoor
