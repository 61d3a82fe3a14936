/- Segments: what a segment's file tells, plain; placedIn. -/
import Derived.Test.YtdkdlgioabjldaaSeg3
namespace Go.Proofs.Ytdkdlgioabjldaa
set_option linter.unusedVariables false
set_option linter.unusedSimpArgs false
open Go.RowKit
attribute [local go_sem] bs_size List.length_cons List.length_nil List.length_append

/-- A batch, the place at which its frame begins, how long that is. -/
abbrev PlD := BatD × Nat × Nat
def placedGo : Option Int → Nat → List ByteArray → List PlD
  | _, _, [] => []
  | last, a, r :: rs => match readBatS r with
    | none => []
    | some b => if (match last with | none => false | some q => decide (b.1 ≤ q)) = true then [] else (b, a, frameLen r) :: placedGo (some b.1) (a + frameLen r) rs
/-- Of a segment's file: its from, how long the head's frame is, its batches. -/
def segPl (n : Int) (s : ByteArray) : Option (Nat × Nat × List PlD) := match (unframeB s).1 with
  | [] => none
  | r :: rs => match hdI n r with
    | none => none
    | some f => some (f, frameLen r, placedGo none (frameLen r) rs)
theorem segPl_head (n : Int) (s : ByteArray) : (segPl n s).map (fun x => (x.1, x.2.1)) = headOfB n s := by
  unfold segPl headOfB
  cases (unframeB s).1 with
  | nil => rfl
  | cons r rs =>
    dsimp only
    cases hdI n r <;> rfl
theorem segPl_none {n : Int} {s : ByteArray} (h : headOfB n s = none) : segPl n s = none := by
  have := segPl_head n s
  rw [h] at this
  cases hq : segPl n s with
  | none => rfl
  | some x => rw [hq] at this; cases this
theorem segPl_some {n : Int} {s : ByteArray} {f l : Nat} (h : headOfB n s = some (f, l)) : ∃ r rs, (unframeB s).1 = r :: rs ∧ l = frameLen r ∧ segPl n s = some (f, l, placedGo none l rs) := by
  unfold headOfB at h
  unfold segPl
  cases hu : (unframeB s).1 with
  | nil => rw [hu] at h; cases h
  | cons r rs =>
    rw [hu] at h
    dsimp only at h ⊢
    cases hd : hdI n r with
    | none => rw [hd] at h; cases h
    | some g =>
      rw [hd] at h
      simp only [Option.some.injEq, Prod.mk.injEq] at h
      obtain ⟨rfl, rfl⟩ := h
      exact ⟨r, rs, rfl, rfl, rfl⟩
def lastSeq (pls : List PlD) : Option Int := pls.getLast?.map fun p => p.1.1
theorem lastSeq_snoc (pls : List PlD) (p : PlD) : lastSeq (pls ++ [p]) = some p.1.1 := by unfold lastSeq; rw [List.getLast?_concat]; rfl
theorem placedGo_none {last : Option Int} {a : Nat} {r : ByteArray} {rs : List ByteArray} (h : readBatS r = none) : placedGo last a (r :: rs) = [] := by unfold placedGo; rw [h]
theorem placedGo_low {q : Int} {a : Nat} {r : ByteArray} {rs : List ByteArray} {b : BatD} (h : readBatS r = some b) (hq : b.1 ≤ q) : placedGo (some q) a (r :: rs) = [] := by unfold placedGo; rw [h]; simp [hq]
theorem placedGo_first {a : Nat} {r : ByteArray} {rs : List ByteArray} {b : BatD} (h : readBatS r = some b) : placedGo none a (r :: rs) = (b, a, frameLen r) :: placedGo (some b.1) (a + frameLen r) rs := by rw [placedGo, h]; rfl
theorem placedGo_next {q : Int} {a : Nat} {r : ByteArray} {rs : List ByteArray} {b : BatD} (h : readBatS r = some b) (hq : ¬ b.1 ≤ q) : placedGo (some q) a (r :: rs) = (b, a, frameLen r) :: placedGo (some b.1) (a + frameLen r) rs := by rw [placedGo, h]; simp [hq]
theorem batD_small {r : ByteArray} {b : BatD} (h : readBatS r = some b) : ChSmall b.2 ∧ (0 ≤ b.1 ∧ b.1 ≤ 1000000000) ∧ b.2.length ≤ 40 := by
  obtain ⟨h1, h2, h3⟩ := batOk_parts (isBat_parts (readBatS_is h)).1
  exact ⟨fun x hx => by have := h3 x hx; omega, h1, h2⟩
/-- Where placedIn's loop stands: it has acc, stands at a, j records are read. -/
def PlAt (whole : List PlD) (rs : List ByteArray) (j : Nat) (acc : List PlD) (a : Nat) : Prop := whole = acc ++ placedGo (lastSeq acc) a (rs.drop j) ∧ acc.length = j ∧ a ≤ 9020 * (j + 1)
theorem plAt_stop {whole acc : List PlD} {rs : List ByteArray} {j a : Nat} (h : PlAt whole rs j acc a) (hg : placedGo (lastSeq acc) a (rs.drop j) = []) : whole = acc := by rw [h.1, hg, List.append_nil]
theorem plAt_end {whole acc : List PlD} {rs : List ByteArray} {j a : Nat} (h : PlAt whole rs j acc a) (hj : rs.length ≤ j) : whole = acc := plAt_stop h (by rw [List.drop_eq_nil_of_le hj]; unfold placedGo; rfl)
theorem plAt_step {whole acc : List PlD} {rs : List ByteArray} {j a : Nat} {r : ByteArray} {b : BatD} (h : PlAt whole rs j acc a) (hr : rs[j]? = some r) (hs : r.size ≤ 9000) (hg : placedGo (lastSeq acc) a (r :: rs.drop (j + 1)) = (b, a, frameLen r) :: placedGo (some b.1) (a + frameLen r) (rs.drop (j + 1))) :
    PlAt whole rs (j + 1) (acc ++ [(b, a, frameLen r)]) (a + frameLen r) := by
  obtain ⟨hj, e⟩ := List.getElem?_eq_some_iff.1 hr
  have hl := frameLen_le hs
  refine ⟨?_, by rw [List.length_append, h.2.1]; rfl, by have := h.2.2; omega⟩
  rw [lastSeq_snoc, h.1, List.drop_eq_getElem_cons hj, e, hg, List.append_assoc]
  rfl
theorem drop_get {rs : List ByteArray} {j : Nat} {r : ByteArray} (hr : rs[j]? = some r) : rs.drop j = r :: rs.drop (j + 1) := by
  obtain ⟨hj, e⟩ := List.getElem?_eq_some_iff.1 hr
  rw [List.drop_eq_getElem_cons hj, e]
/-- A placed's cells. -/
def plVals (z : Value × PlD) : List Value := [.int .i64 z.2.1.1, z.1, .int .i64 (z.2.2.1 : Int), .int .i64 (z.2.2.2 : Int)]
theorem ownS_at {w : World} {B : Nat} {v : Value} {xs : List ByteArray} (h : OwnS w B v xs) : (v = .slice none 0 0 ∧ xs = []) ∨ ∃ g cap, v = .slice (some ⟨g, 0, none⟩) xs.length cap ∧ B ≤ g ∧ g < w.heap.size ∧ xs.length ≤ cap ∧ cap ≤ 9223372036854775807 ∧ ∀ j x, xs[j]? = some x → w.cell? ⟨g, j, none⟩ = some (.string x) := by
  have e : (xs.map fun x : ByteArray => [Value.string x]).flatten = xs.map Value.string := by
    clear h
    induction xs with
    | nil => rfl
    | cons x l ih => rw [List.map_cons, List.flatten_cons, ih]; rfl
  rcases own_cells (f := fun x : ByteArray => [Value.string x]) (m := 1) (fun _ => rfl) (xs := xs) (by rw [e]; exact h) with h | ⟨g, cap, h1, h2, h3, h4, h5, h6⟩
  · exact .inl h
  · exact .inr ⟨g, cap, h1, h2, h3, h4, h5, fun j x hx => by have := h6 j x 0 hx (by omega); rwa [Nat.mul_one, Nat.add_zero] at this⟩
end Go.Proofs.Ytdkdlgioabjldaa
