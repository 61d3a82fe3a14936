/- The program's ReadBatch: what it reads (readBatI), and in what memory. -/
import Derived.Test.YtdkdlgioabjldaaBEach
import Derived.Test.YtdkdlgioabjldaaBat4
namespace Go.Proofs.Ytdkdlgioabjldaa
set_option linter.unusedVariables false
set_option linter.unusedSimpArgs false
open Go.RowKit
attribute [local go_sem] bs_size List.length_cons List.length_nil List.length_append

/-- A row of changes of the call's own, made from block B on. -/
def ChOwn (w : World) (B : Nat) (v : Value) (cs : List ChD) : Prop := w.ownsRow B 93 3 v cs.length (chFlat cs)
theorem ChOwn.row {w : World} {B : Nat} {v : Value} {cs : List ChD} (h : ChOwn w B v cs) (hs : ∀ x ∈ cs, x.1.size ≤ 9223372036854775807 ∧ x.2.1.size ≤ 9223372036854775807) : ∃ A c, v = .slice A cs.length c ∧ ChRow w A c cs := by
  rcases own_cells (f := chVals) (m := 3) (fun _ => rfl) h with ⟨rfl, rfl⟩ | ⟨g, cap, rfl, _, hg, hn, hm, hc⟩
  · exact ⟨none, 0, rfl, by simp, by simp, hs, fun h0 => by simp at h0⟩
  · refine ⟨_, cap, rfl, hn, hm, hs, fun _ => ⟨_, rfl, hg, fun j x hx => ?_⟩⟩
    rw [add_plain]
    exact ⟨hc j x 0 hx (by omega), hc j x 1 hx (by omega), hc j x 2 hx (by omega)⟩
theorem ChOwn.below {w w' : World} {B : Nat} {v : Value} {cs : List ChD} (h : ChOwn w B v cs) (hb : Below w.heap.size w w') : ChOwn w' B v cs := by
  refine World.ownsRow.kept h (grown_of_below (r := none) hb) ?_
  cases v.ownBlock
  · exact .inl rfl
  · exact .inr (by simp)
/-- What ReadBatch leaves. -/
def BatPost (w : World) (o : Option BatD) (e : Ending) (w' : World) : Prop := Below w.heap.size w w' ∧ match o with
  | none => e = .returned (.tuple #[.agg #[.int .i64 0, .slice none 0 0], .bool false])
  | some (q, cs) => ∃ v, e = .returned (.tuple #[.agg #[.int .i64 q, v], .bool true]) ∧ ChOwn w' w.heap.size v cs
abbrev zBat : Obj := .cells #[.int .i64 0, .slice none 0 0] 90
theorem info_bat : (Try.prog.info? 90).map (·.size) = some 2 := by kernel_rfl
theorem und_bat : ∃ fs, Try.prog.underlying 90 = some (.struct fs) := ⟨_, Try.underlying90⟩
/-- The last step: the result's block is written, and read. -/
theorem bat_end {fn : Func} {tr : TypeId} {os : List (Nat × Obj)} {s : ByteArray} {gv gr : Nat} {q : Int} {cs : List ChD} {v : Value} {a : Nat} {bad : Bool} {W w : World} {o : Option BatD} {A B : Value} {b : Bool} {tmps : Array Value}
    (hf : fn.results = #[.cell 2 90, .tmp 3]) (h : GSt tr 90 93 3 (W.heap.size + 1) gv gr os s [.int .i64 q] cs.length (chFlat cs) v a bad (W.alloc zBat) w) (h2 : tmps.getD 2 undef = .pointer (some ⟨W.heap.size, 0, none⟩)) (h3 : tmps.getD 3 undef = .bool b)
    (hp : Below W.heap.size W (set2 w W.heap.size A B) → ChOwn (set2 w W.heap.size A B) W.heap.size v cs → BatPost W o (.returned (.tuple #[.agg #[A, B], .bool b])) (set2 w W.heap.size A B)) :
    bodyPost Try.prog fn (BatPost W o) .ret ⟨tmps, []⟩ (set2 w W.heap.size A B) := by
  obtain ⟨fs, hu⟩ := und_bat
  have hg := set2_grown w W.heap.size A B
  have hres : w.heap[W.heap.size]? = some zBat := (h.bel.block W.heap.size (by omega)).trans (blk_new W _)
  have hbel : Below W.heap.size W w := ((Below.refl W.heap.size W).alloc (Nat.le_refl _) zBat).trans (h.bel.mono (by omega))
  refine bodyPost_ret (v := .tuple #[.agg #[A, B], .bool b]) ?_ rfl (hp (gr_below hbel hg hbel.size (fun k e => by cases e; omega)) ?_)
  · rw [gres_row2 hf tmps _ W.heap.size 90 #[A, B] (0, 0) (.struct fs) h2 (set2_blk hres) hu rfl info_bat, h3]
  · refine own_low (h.own.kept hg ?_) (Nat.le_succ _)
    cases hv : v.ownBlock with
    | none => exact .inl rfl
    | some g => exact .inr (fun e => by have h1 := (h.own.lt g hv).1; have h2 := Option.some.inj e; omega)
theorem bst_start (s : ByteArray) (w w1 : World) (a1 : Nat) (b1 : Bool) (q : Int) (hr : RdAt 42 w1 (w.heap.size + 1) s a1 b1)
    (hg : (((w.alloc zBat).alloc (.cells #[.string s, .int .i64 0, .bool false] 42)).alloc (ptrObj 40 (w.heap.size + 1))).grownBy w1 (some (w.heap.size + 1))) :
    BSt (w.heap.size + 1) (w.heap.size + 1 + 1) w1.heap.size (w.heap.size + 1) s q [] (.slice none 0 0) a1 b1 (w.alloc zBat) (w1.alloc (.cells #[.int .i64 q, .slice none 0 0] 90)) := by
  have hs := hg.size
  simp at hs
  have hb : Below (w.heap.size + 1) (w.alloc zBat) (((w.alloc zBat).alloc (.cells #[.string s, .int .i64 0, .bool false] 42)).alloc (ptrObj 40 (w.heap.size + 1))) :=
    ((Below.refl _ _).alloc (by simp) _).alloc (by simp) _
  refine ⟨(gr_below hb hg (by simp) (fun k e => by cases e; omega)).alloc (by omega) _, blk_new w1 _, gr_old hr _, World.ownsRow_nil _ _ _ _, fun p hp => ?_, by simp [Value.ownBlock], by omega⟩
  obtain rfl := List.mem_singleton.1 hp
  refine ⟨by show w.heap.size + 1 ≤ w.heap.size + 1 + 1; omega, gr_old ?_ _, by show w.heap.size + 1 + 1 ≠ w1.heap.size; omega, by show w.heap.size + 1 + 1 ≠ w.heap.size + 1; omega, by simp [Value.ownBlock]⟩
  rw [hg.block (w.heap.size + 1 + 1) (by simp) (by simp)]
  have := blk_new ((w.alloc zBat).alloc (.cells #[.string s, .int .i64 0, .bool false] 42)) (ptrObj 40 (w.heap.size + 1))
  simpa using this
theorem bst_res {tr te tv : TypeId} {sz : Nat} {os : List (Nat × Obj)} {s : ByteArray} {gv gr n : Nat} {pre fl : List Value} {v : Value} {a : Nat} {bad : Bool} {W w : World} {o : Obj} (h : GSt tr tv te sz (W.heap.size + 1) gv gr os s pre n fl v a bad (W.alloc o) w) : w.heap[W.heap.size]? = some o := (h.bel.block W.heap.size (by omega)).trans (blk_new W _)
theorem biX_small (s : ByteArray) : ∀ x ∈ (biX s).1, x.1.size ≤ 9223372036854775807 ∧ x.2.1.size ≤ 9223372036854775807 := items_all (fun a => by
  have h1 := hText_len s a false
  have h2 := hText_len s (btG s a false).2.1 (btG s a false).2.2
  show (bs (btK s a false).1).size ≤ _ ∧ (bs (btV s a false).1).size ≤ _
  rw [bs_size, bs_size]
  unfold btK btV
  omega) _ _ _
theorem readBatI_no {s : ByteArray} (h : ¬ ((biL s).1 = 66 ∧ (biX s).2.2 = false ∧ batText (biD s) = some (ub s))) : readBatI s = none := if_neg h
theorem readBatI_yes {s : ByteArray} (h1 : (biL s).1 = 66) (h2 : (biX s).2.2 = false) (h3 : batText (biD s) = some (ub s)) : readBatI s = some (((biQ s).1 : Int), (biX s).1) := if_pos ⟨h1, h2, h3⟩
end Go.Proofs.Ytdkdlgioabjldaa
