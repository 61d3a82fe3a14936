/- The draws: values. -/
import Derived.Test.YtekhfplbhcfdmaaDraw4
import Derived.Test.YtekhfplbhcfdmaaReadI
import Derived.Outline
namespace Go.Proofs.Ytekhfplbhcfdmaa
set_option linter.unusedVariables false
set_option linter.unusedSimpArgs false
open Go.RowKit
attribute [local go_sem] bs_size List.length_cons List.length_nil List.length_append

/-- A value, drawn: numbers and texts that are small, a row of the call's own (or none). -/
def ValPost (w : World) (g n : Nat) (e : Ending) (w' : World) : Prop := ∃ (k u : Int) (t : ByteArray) (v : Value) (xs : List ByteArray),
  e = .returned (.agg #[.int .i64 k, .int .i64 u, .string t, v]) ∧ (-1000000000 ≤ k ∧ k ≤ 1000000000) ∧ (-1000000000 ≤ u ∧ u ≤ 1000000001) ∧ t.size ≤ 100 ∧ OwnS w' w.heap.size v xs ∧ xs.length ≤ n ∧ (∀ x ∈ xs, x.size ≤ 100) ∧ Drawn w g w'
/-- The value under way, in block gv; the block of the result, made first. -/
structure VD (w : World) (g gv B : Nat) (k u : Int) (t : ByteArray) (v : Value) (xs : List ByteArray) (wr : World) : Prop where
  res : wr.heap[w.heap.size]? = some (.cells #[.int .i64 0, .int .i64 0, .string ⟨#[]⟩, .slice none 0 0] 39 (0, 0))
  blk : wr.heap[gv]? = some (.cells #[.int .i64 k, .int .i64 u, .string t, v] 39 (0, 0))
  own : OwnS wr B v xs
  ne : ∀ k, v.ownBlock = some k → k ≠ gv
  wB : w.heap.size < B
  sz : B ≤ wr.heap.size
  few : xs.length ≤ 40
  small : ∀ x ∈ xs, x.size ≤ 100
  drw : Drawn w g wr
  lt : g < w.heap.size
  far : w.heap.size < gv
abbrev zeroV : Obj := .cells #[.int .i64 0, .int .i64 0, .string ⟨#[]⟩, .slice none 0 0] 39
theorem VD.start {w w1 : World} {g B : Nat} {k u : Int} {t : ByteArray} {v : Value} {xs : List ByteArray} (h : Cu w g) (hd : Drawn (w.alloc (.cells #[.int .i64 0, .int .i64 0, .string ⟨#[]⟩, .slice none 0 0] 39)) g w1) (ho : OwnS w1 B v xs) (hB : w.heap.size < B) (hB2 : B ≤ w1.heap.size + 1) (hf : xs.length ≤ 40) (hs : ∀ x ∈ xs, x.size ≤ 100) :
    VD w g w1.heap.size B k u t v xs (w1.alloc (.cells #[.int .i64 k, .int .i64 u, .string t, v] 39)) := by
  have hl := h.lt
  have hsz : w.heap.size + 1 ≤ w1.heap.size := by have := hd.2.size; simpa using this
  have hd0 : Drawn w g w1 := (Drawn.alloc h _).trans hd
  refine ⟨?_, blk_new w1 _, World.ownsRow.alloc ho _, fun k hk => Nat.ne_of_lt (World.ownsRow.lt ho k hk).2, hB, by simpa using hB2, hf, hs, hd0.trans (Drawn.alloc hd0.1 _), hl, hsz⟩
  refine ((World.grownBy_alloc w1 _ none).block _ (by omega) (by simp)).trans ((hd.2.block _ (by simp) ?_).trans (blk_new w _))
  intro e
  have := Option.some.inj e
  omega
theorem ne_own {v : Value} {gv : Nat} (h : ∀ k, v.ownBlock = some k → k ≠ gv) : v.ownBlock = none ∨ v.ownBlock ≠ some gv := by
  cases hv : v.ownBlock with
  | none => exact .inl rfl
  | some k => exact .inr fun e => h k hv (Option.some.inj e)
theorem VD.drawn {w : World} {g gv B : Nat} {k u : Int} {t : ByteArray} {v : Value} {xs : List ByteArray} {wr w' : World} (h : VD w g gv B k u t v xs wr) (hd : Drawn wr g w') : VD w g gv B k u t v xs w' := by
  have := h.lt
  have := h.far
  refine ⟨(hd.2.block _ (blk_lt h.res) (by intro e; have := Option.some.inj e; omega)).trans h.res, (hd.2.block _ (blk_lt h.blk) (by intro e; have := Option.some.inj e; omega)).trans h.blk, World.ownsRow.kept h.own hd.2 (own_ne (World.ownsRow.lt h.own) (by have := h.wB; omega)), h.ne, h.wB, Nat.le_trans h.sz hd.2.size, h.few, h.small, h.drw.trans hd, h.lt, h.far⟩
theorem VD.alloc {w : World} {g gv B : Nat} {k u : Int} {t : ByteArray} {v : Value} {xs : List ByteArray} {wr : World} (h : VD w g gv B k u t v xs wr) (o : Obj) : VD w g gv B k u t v xs (wr.alloc o) := h.drawn (Drawn.alloc h.drw.1 o)
theorem VD.drew {w : World} {g gv B : Nat} {k u : Int} {t : ByteArray} {v : Value} {xs : List ByteArray} {wr : World} (h : VD w g gv B k u t v xs wr) : VD w g gv B k u t v xs wr.drew := h.drawn (Drawn.refl h.drw.1).drew
theorem VD.rebase {w : World} {g gv B B' : Nat} {k u : Int} {t : ByteArray} {wr : World} (h : VD w g gv B k u t (.slice none 0 0) [] wr) (h1 : w.heap.size < B') (h2 : B' ≤ wr.heap.size) : VD w g gv B' k u t (.slice none 0 0) [] wr :=
  ⟨h.res, h.blk, OwnS.nil _ _, h.ne, h1, h2, h.few, h.small, h.drw, h.lt, h.far⟩
/-- Another block of the call's own stays, while the value grows. -/
theorem VD.other {w : World} {g gv B : Nat} {k u : Int} {t : ByteArray} {v : Value} {xs : List ByteArray} {w' w2 : World} {o : Obj} {b j : Nat} {x : Value} {q : Obj} (h : VD w g gv B k u t v xs w') (hb : w'.heap[b]? = some q) (h1 : gv < b) (h2 : b < B) (hg : (w'.alloc o).grownBy w2 v.ownBlock) : (w2.setCell ⟨gv, j, none⟩ x).heap[b]? = some q := by
  have hl := World.ownsRow.lt h.own
  rw [Below.heap_setCell w2 ⟨gv, j, none⟩ x b (by show b ≠ gv; omega)]
  exact (hg.block b (by have := blk_lt hb; simp; omega) (fun e => by have := (hl b e.symm).1; omega)).trans (((World.grownBy_alloc w' o none).block _ (blk_lt hb) (by simp)).trans hb)
theorem VD.nb {w : World} {g gv B : Nat} {k u : Int} {t : ByteArray} {v : Value} {xs : List ByteArray} {wr w' : World} {b : Nat} {q : Obj} (h : VD w g gv B k u t v xs wr) (hd : Drawn wr g w') (hb : wr.heap[b]? = some q) (h1 : gv < b) : w'.heap[b]? = some q := by
  have := h.lt
  have := h.far
  exact (hd.2.block b (blk_lt hb) (by intro e; have := Option.some.inj e; omega)).trans hb
theorem VD.c {w : World} {g gv B : Nat} {k u : Int} {t : ByteArray} {v : Value} {xs : List ByteArray} {wr : World} (h : VD w g gv B k u t v xs wr) (j : Nat) : wr.cell? ⟨gv, j, none⟩ = (#[.int .i64 k, .int .i64 u, .string t, v] : Array Value)[j]? := blk_cell h.blk j
theorem VD.fz {w : World} {g gv B : Nat} {k u : Int} {t : ByteArray} {v : Value} {xs : List ByteArray} {wr : World} (h : VD w g gv B k u t v xs wr) (j : Nat) : wr.frozen? ⟨gv, j, none⟩ = false := blk_frozen h.blk j
theorem VD.set {w : World} {g gv B : Nat} {k u k' u' : Int} {t t' : ByteArray} {v v' : Value} {xs xs' : List ByteArray} {wr : World} (h : VD w g gv B k u t v xs wr) (j : Nat) (x : Value) (he : (#[.int .i64 k, .int .i64 u, .string t, v] : Array Value).setIfInBounds j x = #[.int .i64 k', .int .i64 u', .string t', v'])
    (ho : OwnS wr B v' xs') (hn : ∀ k, v'.ownBlock = some k → k ≠ gv) (hf : xs'.length ≤ 40) (hs : ∀ x ∈ xs', x.size ≤ 100) : VD w g gv B k' u' t' v' xs' (wr.setCell ⟨gv, j, none⟩ x) := by
  have hg : wr.grownBy (wr.setCell ⟨gv, j, none⟩ x) (some gv) := grown_set' (World.grownBy.refl wr _) j x
  have hfar := h.far
  refine ⟨(hg.block _ (blk_lt h.res) (by intro e; have := Option.some.inj e; omega)).trans h.res, by rw [blk_set h.blk, he], World.ownsRow.kept ho hg (ne_own hn), hn, h.wB, Nat.le_trans h.sz hg.size, hf, hs, h.drw.grown h.lt hg (fun k e => by cases e; omega), h.lt, h.far⟩
theorem VD.setU {w : World} {g gv B : Nat} {k u : Int} {t : ByteArray} {v : Value} {xs : List ByteArray} {wr : World} (h : VD w g gv B k u t v xs wr) (x : Int) : VD w g gv B k x t v xs (wr.setCell ⟨gv, 1, none⟩ (.int .i64 x)) := h.set 1 _ rfl h.own h.ne h.few h.small
theorem VD.setK {w : World} {g gv B : Nat} {k u : Int} {t : ByteArray} {v : Value} {xs : List ByteArray} {wr : World} (h : VD w g gv B k u t v xs wr) (x : Int) : VD w g gv B x u t v xs (wr.setCell ⟨gv, 0, none⟩ (.int .i64 x)) := h.set 0 _ rfl h.own h.ne h.few h.small
theorem VD.setT {w : World} {g gv B : Nat} {k u : Int} {t : ByteArray} {v : Value} {xs : List ByteArray} {wr : World} (h : VD w g gv B k u t v xs wr) (x : ByteArray) : VD w g gv B k u x v xs (wr.setCell ⟨gv, 2, none⟩ (.string x)) := h.set 2 _ rfl h.own h.ne h.few h.small
theorem VD.setX {w : World} {g gv B : Nat} {k u : Int} {t : ByteArray} {v v' : Value} {xs xs' : List ByteArray} {wr : World} (h : VD w g gv B k u t v xs wr) (ho : OwnS wr B v' xs') (hn : ∀ k, v'.ownBlock = some k → k ≠ gv) (hf : xs'.length ≤ 40) (hs : ∀ x ∈ xs', x.size ≤ 100) : VD w g gv B k u t v' xs' (wr.setCell ⟨gv, 3, none⟩ v') := h.set 3 _ rfl ho hn hf hs
theorem VD.bg {w : World} {g gv B : Nat} {k u : Int} {t : ByteArray} {v : Value} {xs : List ByteArray} {w' w2 : World} {o : Obj} (h : VD w g gv B k u t v xs w') (hg : (w'.alloc o).grownBy w2 v.ownBlock) : w2.heap[gv]? = some (.cells #[.int .i64 k, .int .i64 u, .string t, v] 39 (0, 0)) ∧ w2.heap[w.heap.size]? = some (.cells #[.int .i64 0, .int .i64 0, .string ⟨#[]⟩, .slice none 0 0] 39 (0, 0)) := by
  have hl := World.ownsRow.lt h.own
  have hfar := h.far
  have hwB := h.wB
  exact ⟨(hg.block gv (by have := blk_lt h.blk; simp; omega) (fun e => h.ne gv e.symm rfl)).trans (((World.grownBy_alloc w' o none).block _ (blk_lt h.blk) (by simp)).trans h.blk),
    (hg.block w.heap.size (by have := blk_lt h.res; simp; omega) (fun e => by have := (hl _ e.symm).1; omega)).trans (((World.grownBy_alloc w' o none).block _ (blk_lt h.res) (by simp)).trans h.res)⟩
theorem VD.pushed {w : World} {g gv B : Nat} {k u : Int} {t : ByteArray} {v : Value} {xs : List ByteArray} {w' w2 : World} {o : Obj} {gg cap : Nat} {x : ByteArray} (h : VD w g gv B k u t v xs w') (hx : x.size ≤ 100) (hn : xs.length + 1 ≤ 40)
    (hown : w2.ownsRow B 9 1 (.slice (some ⟨gg, 0, none⟩) (xs.length + 1) cap) (xs.length + 1) (xs.map Value.string ++ [.string x])) (hgrow : (w'.alloc o).grownBy w2 v.ownBlock) (hat : v.ownBlock = some gg ∨ gg = (w'.alloc o).heap.size) :
    VD w g gv B k u t (.slice (some ⟨gg, 0, none⟩) (xs.length + 1) cap) (xs ++ [x]) (w2.setCell ⟨gv, 3, none⟩ (.slice (some ⟨gg, 0, none⟩) (xs.length + 1) cap)) := by
  obtain ⟨hb, hr⟩ := h.bg hgrow
  have hl := World.ownsRow.lt h.own
  have hfar := h.far
  have hwB := h.wB
  have hng : ∀ k, (Value.slice (some ⟨gg, 0, none⟩) (xs.length + 1) cap).ownBlock = some k → k ≠ gv := by
    intro k hk
    simp only [Value.ownBlock, Option.some.injEq] at hk
    subst hk
    rcases hat with hat | hat
    · exact h.ne _ hat
    · have := blk_lt h.blk; simp at hat; omega
  have hset : w2.grownBy (w2.setCell ⟨gv, 3, none⟩ (.slice (some ⟨gg, 0, none⟩) (xs.length + 1) cap)) (some gv) := grown_set' (World.grownBy.refl w2 _) 3 _
  have ho : OwnS w2 B (.slice (some ⟨gg, 0, none⟩) (xs.length + 1) cap) (xs ++ [x]) := OwnS.pushed hown
  refine ⟨(hset.block _ (blk_lt hr) (by intro e; have := Option.some.inj e; omega)).trans hr, by rw [blk_set hb]; rfl, World.ownsRow.kept ho hset (ne_own hng), hng, h.wB, Nat.le_trans h.sz (Nat.le_trans (by simp) (Nat.le_trans hgrow.size hset.size)), by rw [List.length_append]; exact hn, fun y hy => ?_, ?_, h.lt, h.far⟩
  · rcases List.mem_append.1 hy with hy | hy
    · exact h.small y hy
    · obtain rfl := List.mem_singleton.1 hy
      exact hx
  · exact ((h.drw.alloc' h.lt o).grown h.lt hgrow (fun k e => by have := (hl k e).1; omega)).grown h.lt hset (fun k e => by cases e; omega)
theorem results_row1 {P : Program} {fn : Func} {p : Tmp} {ty : TypeId} (h : fn.results = #[.cell p ty]) (tmps : Array Value) (w : World) (g : Nat) (t : TypeId) (cs : Array Value) (fr : Nat × Nat) (d : TypeDesc) (hp : tmps.getD p undef = .pointer (some ⟨g, 0, none⟩)) (hg : w.heap[g]? = some (.cells cs t fr))
    (hu : P.underlying ty = some d) (hd : (match d with | .struct _ | .array _ _ => true | _ => false) = true) (hi : (P.info? ty).map (·.size) = some cs.size) : (results fn tmps).run P w = .ok (.agg cs) w := by
  have hp' : tmps[p]?.getD undef = .pointer (some ⟨g, 0, none⟩) := by simpa using hp
  simp only [results, h]
  simp [Sem.run_bind, hp', asAddr, Result.andThen, run_loadVar_row w g t ty cs fr d hg hu hd hi]
theorem ownS_mono {w : World} {B B' : Nat} {v : Value} {xs : List ByteArray} (h : OwnS w B v xs) (hb : B' ≤ B) : OwnS w B' v xs := by
  refine ⟨h.1, ?_⟩
  rcases h.2 with h2 | ⟨g, cap, cur, e, h3, r⟩
  · exact .inl h2
  · exact .inr ⟨g, cap, cur, e, Nat.le_trans hb h3, r⟩
theorem valD_end {fn : Func} {w : World} {g gv B n : Nat} {k u : Int} {t : ByteArray} {v : Value} {xs : List ByteArray} {wr : World} {tmps : Array Value} (hf : fn.results = #[.cell 2 39]) (h : VD w g gv B k u t v xs wr) (h2 : tmps.getD 2 undef = .pointer (some ⟨w.heap.size, 0, none⟩))
    (hk : -1000000000 ≤ k ∧ k ≤ 1000000000) (hu : -1000000000 ≤ u ∧ u ≤ 1000000001) (ht : t.size ≤ 100) (hn : xs.length ≤ n) :
    bodyPost Try.prog fn (ValPost w g n) .ret ⟨tmps, []⟩ (set4 wr w.heap.size (.int .i64 k) (.int .i64 u) (.string t) v) := by
  obtain ⟨fs, hun⟩ := und_val
  have hg := set4_grown wr w.heap.size (.int .i64 k) (.int .i64 u) (.string t) v
  have hfar := h.far
  refine bodyPost_ret (v := .agg #[.int .i64 k, .int .i64 u, .string t, v]) ?_ rfl ⟨k, u, t, v, xs, rfl, hk, hu, ht, ?_, hn, h.small, h.drw.grown h.lt hg fun k e => by cases e; exact Nat.le_refl _⟩
  · rw [results_row1 hf tmps _ w.heap.size 39 #[.int .i64 k, .int .i64 u, .string t, v] (0, 0) (.struct fs) h2 (set4_blk h.res) hun rfl info_val]
  · have ho := World.ownsRow.kept h.own hg (own_ne (World.ownsRow.lt h.own) (by have := h.wB; omega))
    exact ownS_mono (xs := xs) ho (by have := h.wB; omega)
set_option maxHeartbeats 8000000 in
set_option maxRecDepth 100000 in
theorem spec_l10Val_calls (g : Nat) (w : World) (h : Cu w g) :
    Calls Try.prog 96 #[.pointer (some ⟨g, 0, none⟩)] w (ValPost w g 30) := by
  obtain ⟨i0, hi, hz, hsz, hby⟩ := info_parts info_str
  have HC := Lib.hid h
  clear h
  go_enter Try.func96, Try.ntmps96
  go_wp2_with fail
  go_at_call 97
  refine (spec_l01Below_calls g 4 _ (HC.out.alloc _) (by omega)).mono ?_
  rintro e w1 ⟨y, rfl, hy0, hy1, _, hd⟩
  have hy1 := hy1 (by omega)
  have HV1 := Lib.hid (VD.start (k := 1 + y) (u := 0) (t := ⟨#[]⟩) (v := .slice none 0 0) (xs := []) HC.out hd (OwnS.nil _ (w1.heap.size + 1)) (by have := hd.2.size; simp at this; omega) (Nat.le_refl _) (by simp) (by simp))
  clear hd
  go_wp2_with fail
  go_at_call 89
  refine (spec_l01Once_calls g 4 _ HV1.out.drw.1 (by omega)).mono ?_
  rintro e w2 ⟨b, rfl, hd⟩
  have HV2 := Lib.hid (HV1.out.drawn hd)
  clear hd
  cases b
  · have HV := HV2
    have c1 := HV2.out.c 1
    have HVN := Lib.hid ((HV.out.alloc (.cells #[.string ⟨#[102]⟩, .string ⟨#[103]⟩, .string ⟨#[104]⟩, .string ⟨#[105]⟩] 9)).rebase (B' := (w2.heap.size + 1)) (by have := HV.out.sz; have := HV.out.far; omega) (by simp))
    have cN := HVN.out.c 0
    have HNB : Hid ((w2.alloc (.cells #[.string ⟨#[102]⟩, .string ⟨#[103]⟩, .string ⟨#[104]⟩, .string ⟨#[105]⟩] 9)).heap[w2.heap.size]? = some (.cells #[.string ⟨#[102]⟩, .string ⟨#[103]⟩, .string ⟨#[104]⟩, .string ⟨#[105]⟩] 9)) := blk_new w2 _
    by_cases k1 : y = 0
    · subst k1
      go_wp2_with fail
      go_at_call 112
      refine (spec_l10Word_calls g _ HVN.out.drw.1).mono ?_
      rintro e w5 ⟨x, rfl, hx, hd⟩
      have HV5 := Lib.hid (HVN.out.drawn hd)
      have d2 : w5.cell? ⟨w1.heap.size, 2, none⟩ = some (.string ⟨#[]⟩) := HV5.out.c 2
      have f2 := HV5.out.fz 2
      have HE := Lib.hid (HV5.out.setT x)
      have x0 := HE.out.c 0
      have x1 := HE.out.c 1
      have x2 := HE.out.c 2
      have x3 := HE.out.c 3
      have z0 := blk_cell HE.out.res 0
      have z1 := blk_cell HE.out.res 1
      have z2 := blk_cell HE.out.res 2
      have z3 := blk_cell HE.out.res 3
      have y0 := blk_frozen HE.out.res 0
      have y1 := blk_frozen HE.out.res 1
      have y2 := blk_frozen HE.out.res 2
      have y3 := blk_frozen HE.out.res 3
      clear hd
      go_wp2
      exact valD_end rfl HE.out rfl (by omega) (by omega) (by omega) (by decide)
    · by_cases k2 : y = 1
      · subst k2
        go_wp2_with fail
        go_loopw [5] (fun iv wr => ∃ (i : Nat) (v : Value) (xs : List ByteArray), iv = .int .i64 (i : Int) ∧ i ≤ 4 ∧ Hid (xs.length = i) ∧ Hid (VD w g w1.heap.size (w2.heap.size + 1) 2 0 ⟨#[]⟩ v xs wr)) (fun iv _ => 4 - (intOf iv).toNat)
        case atStart => exact ⟨0, _, [], rfl, by omega, rfl, HVN.out⟩
        case round =>
          obtain ⟨i, v, xs, rfl, hi4, HLN, HVR⟩ := hrel
          have hxl : xs.length ≤ 4 := by have := HLN.out; omega
          go_wp2_with fail
          go_at_call 97
          refine (spec_l01Below_calls g 4 _ HVR.out.drw.1 (by omega)).mono ?_
          rintro e w5 ⟨z, rfl, hz0, hz1, _, hd⟩
          have hz1 := hz1 (by omega)
          have HV5 := Lib.hid (HVR.out.drawn hd)
          clear hd
          by_cases hlt : (i : Int) < 1 + z
          · have HG0 := Lib.hid (HV5.out.drew)
            have c3 := HV5.out.c 3
            go_wp2
            go_region_law (first | ((refine step_append_lies _ (by rfl) (.tmp 66) (.tmp 69) 37 (by rfl) ((w2.heap.size + 1)) 9 i0 (.string ByteArray.empty) 1 16 Try.underlying37 hi hz hsz hby rfl (by omega) v xs.length (xs.map Value.string) (by simp [Act.eval, Act.put]) HOWN.out _ 1 1 [.string x] (by simp [Act.eval, Act.put]) rfl HNEWS.out (by simp [Value.oneCell']) (by omega) (by unfold maxLen; omega) (by omega) HBASE.out _ rfl ?_); intro gg cap wq hown hgrow hat hlt; have HOWN2 := Lib.hid hown; have HGROW := Lib.hid hgrow; have HAT := Lib.hid hat; clear hown hgrow hat hlt; have f2 := blk_frozen (HG.out.bg HGROW.out).1 3; have c4 := blk_cell (HG.out.bg HGROW.out).1 3) | (go_simp; go_at_call 112; refine (spec_l10Word_calls g _ HG0.out.drw.1).mono ?_; rintro e w' ⟨x, rfl, hx, hd⟩; have HX : Hid (x.size ≤ 20) := hx; have HG := Lib.hid (HG0.out.drawn hd); clear hd hx; have c3' := HG.out.c 3; have HBASE : Hid ((w2.heap.size + 1) ≤ (w'.alloc (.cells #[.string x] 9)).heap.size) := (HG.out.alloc _).sz; have HOWN : Hid ((w'.alloc (.cells #[.string x] 9)).ownsRow ((w2.heap.size + 1)) 9 1 v xs.length (xs.map Value.string)) := (HG.out.alloc _).own; have HNEWS : Hid (∀ j u, [Value.string x][j]? = some u → (w'.alloc (.cells #[.string x] 9)).cell? ((⟨w'.heap.size, 0, none⟩ : Addr).add j) = some u) := World.news_of_block (heap_alloc_new w' _); have c3a := (HG.out.alloc (.cells #[.string x] 9)).c 3))
            all_goals
              go_wp2
              go_roundw
              case rel => first | exact ⟨i + 1, _, xs ++ [x], by go_num, by omega, by rw [List.length_append, HLN.out]; rfl, HG.out.pushed (by have := HX.out; omega) (by omega) HOWN2.out HGROW.out HAT.out⟩ | (repeat (first | (refine ⟨?relx, rfl⟩; exact ⟨i + 1, _, xs ++ [x], by go_num, by omega, by rw [List.length_append, HLN.out]; rfl, HG.out.pushed (by have := HX.out; omega) (by omega) HOWN2.out HGROW.out HAT.out⟩) | (refine ⟨?relx, ?eqs⟩; (case eqs => (and_intros <;> rfl)); exact ⟨i + 1, _, xs ++ [x], by go_num, by omega, by rw [List.length_append, HLN.out]; rfl, HG.out.pushed (by have := HX.out; omega) (by omega) HOWN2.out HGROW.out HAT.out⟩) | apply Exists.intro))
              case measure => simp [intOf]; omega
          · obtain ⟨A9, c9, rfl⟩ := HV5.out.own.form
            have HE := HV5
            have x0 := HE.out.c 0
            have x1 := HE.out.c 1
            have x2 := HE.out.c 2
            have x3 := HE.out.c 3
            have z0 := blk_cell HE.out.res 0
            have z1 := blk_cell HE.out.res 1
            have z2 := blk_cell HE.out.res 2
            have z3 := blk_cell HE.out.res 3
            have y0 := blk_frozen HE.out.res 0
            have y1 := blk_frozen HE.out.res 1
            have y2 := blk_frozen HE.out.res 2
            have y3 := blk_frozen HE.out.res 3
            go_wp2
            exact valD_end rfl HE.out rfl (by omega) (by omega) (by decide) (by omega)
      · have hk1 : ((1 + y) == 1) = false := beq_eq_false_iff_ne.mpr (by omega)
        have hk2 : ((1 + y) == 2) = false := beq_eq_false_iff_ne.mpr (by omega)
        go_wp2_with fail
        go_loopw [6] (fun iv wr => ∃ (i : Nat) (v : Value) (xs : List ByteArray), iv = .int .i64 (i : Int) ∧ i ≤ 4 ∧ Hid (xs.length ≤ 2 * i) ∧ Hid (VD w g w1.heap.size (w2.heap.size + 1) (1 + y) 0 ⟨#[]⟩ v xs wr) ∧ Hid (wr.heap[w2.heap.size]? = some (.cells #[.string ⟨#[102]⟩, .string ⟨#[103]⟩, .string ⟨#[104]⟩, .string ⟨#[105]⟩] 9))) (fun iv _ => 4 - (intOf iv).toNat)
        case atStart => exact ⟨0, _, [], rfl, by omega, by simp [Hid], HVN.out, HNB.out⟩
        case round =>
          obtain ⟨i, v, xs, rfl, hi4, HLN, HVR, HNR⟩ := hrel
          have hxl : xs.length ≤ 8 := by have := HLN.out; omega
          by_cases hlt : i < 4
          · have hli : (i : Int) < 4 := by omega
            obtain ⟨x, hxe, hxs⟩ : ∃ x : ByteArray, (#[.string ⟨#[102]⟩, .string ⟨#[103]⟩, .string ⟨#[104]⟩, .string ⟨#[105]⟩] : Array Value)[i]? = some (.string x) ∧ x.size ≤ 20 := by
              have h4 : i = 0 ∨ i = 1 ∨ i = 2 ∨ i = 3 := by omega
              rcases h4 with rfl | rfl | rfl | rfl
              all_goals exact ⟨_, rfl, by decide⟩
            by_cases h0 : i = 0
            · have hie : ((i : Int) == 0) = true := by rw [h0]; rfl
              clear h0
              have HVW := HVR
              have HNW := HNR
              have HX : Hid (x.size ≤ 20) := hxs
              have cn : wr.cell? ⟨w2.heap.size, i, none⟩ = some (.string x) := (blk_cell HNW.out i).trans hxe
              have c3 := HVW.out.c 3
              have c3b := (HVW.out.alloc (.cells #[.string x] 9)).c 3
              have HG := Lib.hid HVW.out.drew
              have HNG : Hid (wr.drew.heap[w2.heap.size]? = some (.cells #[.string ⟨#[102]⟩, .string ⟨#[103]⟩, .string ⟨#[104]⟩, .string ⟨#[105]⟩] 9)) := HNW.out
              have HBASE : Hid ((w2.heap.size + 1) ≤ (wr.drew.alloc (.cells #[.string x] 9)).heap.size) := (HG.out.alloc _).sz
              have HOWN : Hid ((wr.drew.alloc (.cells #[.string x] 9)).ownsRow ((w2.heap.size + 1)) 9 1 v xs.length (xs.map Value.string)) := (HG.out.alloc _).own
              have HNEWS : Hid (∀ j u, [Value.string x][j]? = some u → (wr.drew.alloc (.cells #[.string x] 9)).cell? ((⟨wr.drew.heap.size, 0, none⟩ : Addr).add j) = some u) := World.news_of_block (heap_alloc_new wr.drew _)
              have c3a := (HG.out.alloc (.cells #[.string x] 9)).c 3
              clear hxe hxs
              go_wp2
              go_region_law (first | ((refine step_append_lies _ (by rfl) (.tmp 33) (.tmp 38) 37 (by rfl) ((w2.heap.size + 1)) 9 i0 (.string ByteArray.empty) 1 16 Try.underlying37 hi hz hsz hby rfl (by omega) v xs.length (xs.map Value.string) (by simp [Act.eval, Act.put]) HOWN.out _ 1 1 [.string x] (by simp [Act.eval, Act.put]) rfl HNEWS.out (by simp [Value.oneCell']) (by omega) (by unfold maxLen; omega) (by omega) HBASE.out _ rfl ?_); intro gg cap wq hown hgrow hat hlt; have HOWN2 := Lib.hid hown; have HGROW := Lib.hid hgrow; have HAT := Lib.hid hat; clear hown hgrow hat hlt; have f2 := blk_frozen (HG.out.bg HGROW.out).1 3; have c4 := blk_cell (HG.out.bg HGROW.out).1 3))
              all_goals
                have HP := Lib.hid (HG.out.pushed (by have := HX.out; omega) (by omega) HOWN2.out HGROW.out HAT.out)
                have HN1 := Lib.hid (HG.out.other (j := 3) (x := .slice (some ⟨gg, 0, none⟩) (xs.length + 1) cap) HNG.out (by have := HV2.out.sz; omega) (Nat.lt_succ_self _) HGROW.out)
                have HL1 : Hid ((xs ++ [x]).length = xs.length + 1) := by rw [Hid, List.length_append]; rfl
                clear HBASE HOWN HNEWS HOWN2 HGROW HAT c3 c3a cn f2 c4
                generalize hW1 : wq.setCell _ _ = WN at HP HN1 ⊢
                clear hW1
                generalize hv1 : Value.slice (some ⟨gg, 0, none⟩) (xs.length + 1) cap = v1 at HP ⊢
                generalize hx1 : xs ++ [x] = xs1 at HP HL1
                clear hx1
                have hx1l : xs1.length ≤ 9 := by have := HL1.out; omega
                have HL2 : Hid (xs1.length ≤ 2 * i + 1) := by have := HL1.out; have := HLN.out; rw [Hid]; omega
                have c0 := HP.out.c 0
                by_cases k3 : y = 2
                · have hk3 : ((1 + y) == 3) = true := by rw [k3]; rfl
                  clear k3
                  have c3 := HP.out.c 3
                  have HG0 := Lib.hid HP.out.drew
                  go_wp2
                  go_region_law (first | ((refine step_append_lies _ (by rfl) (.tmp 45) (.tmp 48) 37 (by rfl) ((w2.heap.size + 1)) 9 i0 (.string ByteArray.empty) 1 16 Try.underlying37 hi hz hsz hby rfl (by omega) v1 xs1.length (xs1.map Value.string) (by simp [Act.eval, Act.put]) HOWN.out _ 1 1 [.string x2] (by simp [Act.eval, Act.put]) rfl HNEWS.out (by simp [Value.oneCell']) (by omega) (by unfold maxLen; omega) (by omega) HBASE.out _ rfl ?_); intro gg cap wq hown hgrow hat hlt; have HOWN2 := Lib.hid hown; have HGROW := Lib.hid hgrow; have HAT := Lib.hid hat; clear hown hgrow hat hlt; have f2 := blk_frozen (HG.out.bg HGROW.out).1 3; have c4 := blk_cell (HG.out.bg HGROW.out).1 3) | (go_simp; go_at_call 112; refine (spec_l10Word_calls g _ HG0.out.drw.1).mono ?_; rintro e w' ⟨x2, rfl, hx, hd⟩; have HX2 : Hid (x2.size ≤ 20) := hx; have HG := Lib.hid (HG0.out.drawn hd); have HN2 := Lib.hid (HG0.out.nb hd HN1.out (by have := HV2.out.sz; omega)); clear hd hx; have c3' := HG.out.c 3; have HBASE : Hid ((w2.heap.size + 1) ≤ (w'.alloc (.cells #[.string x2] 9)).heap.size) := (HG.out.alloc _).sz; have HOWN : Hid ((w'.alloc (.cells #[.string x2] 9)).ownsRow ((w2.heap.size + 1)) 9 1 v1 xs1.length (xs1.map Value.string)) := (HG.out.alloc _).own; have HNEWS : Hid (∀ j u, [Value.string x2][j]? = some u → (w'.alloc (.cells #[.string x2] 9)).cell? ((⟨w'.heap.size, 0, none⟩ : Addr).add j) = some u) := World.news_of_block (heap_alloc_new w' _); have c3a := (HG.out.alloc (.cells #[.string x2] 9)).c 3))
                  all_goals
                    have HPQ := Lib.hid (HG.out.pushed (by have := HX2.out; omega) (by omega) HOWN2.out HGROW.out HAT.out)
                    have HN3 := Lib.hid (HG.out.other (j := 3) (x := .slice (some ⟨gg, 0, none⟩) (xs1.length + 1) cap) HN2.out (by have := HV2.out.sz; omega) (Nat.lt_succ_self _) HGROW.out)
                    have HL3 : Hid ((xs1 ++ [x2]).length ≤ 2 * (i + 1)) := by have := HL2.out; rw [Hid, List.length_append, List.length_singleton]; omega
                    go_wp2
                    go_roundw
                    case rel => first | exact ⟨i + 1, _, xs1 ++ [x2], by go_num, by omega, HL3, HPQ, HN3⟩ | (repeat (first | (refine ⟨?relx, rfl⟩; exact ⟨i + 1, _, xs1 ++ [x2], by go_num, by omega, HL3, HPQ, HN3⟩) | (refine ⟨?relx, ?eqs⟩; (case eqs => (and_intros <;> rfl)); exact ⟨i + 1, _, xs1 ++ [x2], by go_num, by omega, HL3, HPQ, HN3⟩) | apply Exists.intro))
                    case measure => simp [intOf]; omega
                · have hk3 : ((1 + y) == 3) = false := beq_eq_false_iff_ne.mpr (by omega)
                  go_wp2
                  go_roundw
                  case rel => first | exact ⟨i + 1, v1, xs1, by go_num, by omega, by have := HL2.out; rw [Hid]; omega, HP, HN1⟩ | (repeat (first | (refine ⟨?relx, rfl⟩; exact ⟨i + 1, v1, xs1, by go_num, by omega, by have := HL2.out; rw [Hid]; omega, HP, HN1⟩) | (refine ⟨?relx, ?eqs⟩; (case eqs => (and_intros <;> rfl)); exact ⟨i + 1, v1, xs1, by go_num, by omega, by have := HL2.out; rw [Hid]; omega, HP, HN1⟩) | apply Exists.intro))
                  case measure => simp [intOf]; omega
            · have hie : ((i : Int) == 0) = false := beq_eq_false_iff_ne.mpr (by omega)
              clear h0
              go_wp2_with fail
              go_at_call 89
              refine (spec_l01Once_calls g 2 _ HVR.out.drw.1 (by omega)).mono ?_
              rintro e w5 ⟨b, rfl, hd⟩
              have HVW := Lib.hid (HVR.out.drawn hd)
              have HNW := Lib.hid (HVR.out.nb hd HNR.out (by have := HV2.out.sz; omega))
              clear hd
              cases b
              · go_wp2
                go_roundw
                case rel => first | exact ⟨i + 1, v, xs, by go_num, by omega, by have := HLN.out; rw [Hid]; omega, HVW, HNW⟩ | (repeat (first | (refine ⟨?relx, rfl⟩; exact ⟨i + 1, v, xs, by go_num, by omega, by have := HLN.out; rw [Hid]; omega, HVW, HNW⟩) | (refine ⟨?relx, ?eqs⟩; (case eqs => (and_intros <;> rfl)); exact ⟨i + 1, v, xs, by go_num, by omega, by have := HLN.out; rw [Hid]; omega, HVW, HNW⟩) | apply Exists.intro))
                case measure => simp [intOf]; omega
              · skip
                have HX : Hid (x.size ≤ 20) := hxs
                have cn : w5.cell? ⟨w2.heap.size, i, none⟩ = some (.string x) := (blk_cell HNW.out i).trans hxe
                have c3 := HVW.out.c 3
                have c3b := (HVW.out.alloc (.cells #[.string x] 9)).c 3
                have HG := Lib.hid HVW.out.drew
                have HNG : Hid (w5.drew.heap[w2.heap.size]? = some (.cells #[.string ⟨#[102]⟩, .string ⟨#[103]⟩, .string ⟨#[104]⟩, .string ⟨#[105]⟩] 9)) := HNW.out
                have HBASE : Hid ((w2.heap.size + 1) ≤ (w5.drew.alloc (.cells #[.string x] 9)).heap.size) := (HG.out.alloc _).sz
                have HOWN : Hid ((w5.drew.alloc (.cells #[.string x] 9)).ownsRow ((w2.heap.size + 1)) 9 1 v xs.length (xs.map Value.string)) := (HG.out.alloc _).own
                have HNEWS : Hid (∀ j u, [Value.string x][j]? = some u → (w5.drew.alloc (.cells #[.string x] 9)).cell? ((⟨w5.drew.heap.size, 0, none⟩ : Addr).add j) = some u) := World.news_of_block (heap_alloc_new w5.drew _)
                have c3a := (HG.out.alloc (.cells #[.string x] 9)).c 3
                clear hxe hxs
                go_wp2
                go_region_law (first | ((refine step_append_lies _ (by rfl) (.tmp 33) (.tmp 38) 37 (by rfl) ((w2.heap.size + 1)) 9 i0 (.string ByteArray.empty) 1 16 Try.underlying37 hi hz hsz hby rfl (by omega) v xs.length (xs.map Value.string) (by simp [Act.eval, Act.put]) HOWN.out _ 1 1 [.string x] (by simp [Act.eval, Act.put]) rfl HNEWS.out (by simp [Value.oneCell']) (by omega) (by unfold maxLen; omega) (by omega) HBASE.out _ rfl ?_); intro gg cap wq hown hgrow hat hlt; have HOWN2 := Lib.hid hown; have HGROW := Lib.hid hgrow; have HAT := Lib.hid hat; clear hown hgrow hat hlt; have f2 := blk_frozen (HG.out.bg HGROW.out).1 3; have c4 := blk_cell (HG.out.bg HGROW.out).1 3))
                all_goals
                  have HP := Lib.hid (HG.out.pushed (by have := HX.out; omega) (by omega) HOWN2.out HGROW.out HAT.out)
                  have HN1 := Lib.hid (HG.out.other (j := 3) (x := .slice (some ⟨gg, 0, none⟩) (xs.length + 1) cap) HNG.out (by have := HV2.out.sz; omega) (Nat.lt_succ_self _) HGROW.out)
                  have HL1 : Hid ((xs ++ [x]).length = xs.length + 1) := by rw [Hid, List.length_append]; rfl
                  clear HBASE HOWN HNEWS HOWN2 HGROW HAT c3 c3a cn f2 c4
                  generalize hW1 : wq.setCell _ _ = WN at HP HN1 ⊢
                  clear hW1
                  generalize hv1 : Value.slice (some ⟨gg, 0, none⟩) (xs.length + 1) cap = v1 at HP ⊢
                  generalize hx1 : xs ++ [x] = xs1 at HP HL1
                  clear hx1
                  have hx1l : xs1.length ≤ 9 := by have := HL1.out; omega
                  have HL2 : Hid (xs1.length ≤ 2 * i + 1) := by have := HL1.out; have := HLN.out; rw [Hid]; omega
                  have c0 := HP.out.c 0
                  by_cases k3 : y = 2
                  · have hk3 : ((1 + y) == 3) = true := by rw [k3]; rfl
                    clear k3
                    have c3 := HP.out.c 3
                    have HG0 := Lib.hid HP.out.drew
                    go_wp2
                    go_region_law (first | ((refine step_append_lies _ (by rfl) (.tmp 45) (.tmp 48) 37 (by rfl) ((w2.heap.size + 1)) 9 i0 (.string ByteArray.empty) 1 16 Try.underlying37 hi hz hsz hby rfl (by omega) v1 xs1.length (xs1.map Value.string) (by simp [Act.eval, Act.put]) HOWN.out _ 1 1 [.string x2] (by simp [Act.eval, Act.put]) rfl HNEWS.out (by simp [Value.oneCell']) (by omega) (by unfold maxLen; omega) (by omega) HBASE.out _ rfl ?_); intro gg cap wq hown hgrow hat hlt; have HOWN2 := Lib.hid hown; have HGROW := Lib.hid hgrow; have HAT := Lib.hid hat; clear hown hgrow hat hlt; have f2 := blk_frozen (HG.out.bg HGROW.out).1 3; have c4 := blk_cell (HG.out.bg HGROW.out).1 3) | (go_simp; go_at_call 112; refine (spec_l10Word_calls g _ HG0.out.drw.1).mono ?_; rintro e w' ⟨x2, rfl, hx, hd⟩; have HX2 : Hid (x2.size ≤ 20) := hx; have HG := Lib.hid (HG0.out.drawn hd); have HN2 := Lib.hid (HG0.out.nb hd HN1.out (by have := HV2.out.sz; omega)); clear hd hx; have c3' := HG.out.c 3; have HBASE : Hid ((w2.heap.size + 1) ≤ (w'.alloc (.cells #[.string x2] 9)).heap.size) := (HG.out.alloc _).sz; have HOWN : Hid ((w'.alloc (.cells #[.string x2] 9)).ownsRow ((w2.heap.size + 1)) 9 1 v1 xs1.length (xs1.map Value.string)) := (HG.out.alloc _).own; have HNEWS : Hid (∀ j u, [Value.string x2][j]? = some u → (w'.alloc (.cells #[.string x2] 9)).cell? ((⟨w'.heap.size, 0, none⟩ : Addr).add j) = some u) := World.news_of_block (heap_alloc_new w' _); have c3a := (HG.out.alloc (.cells #[.string x2] 9)).c 3))
                    all_goals
                      have HPQ := Lib.hid (HG.out.pushed (by have := HX2.out; omega) (by omega) HOWN2.out HGROW.out HAT.out)
                      have HN3 := Lib.hid (HG.out.other (j := 3) (x := .slice (some ⟨gg, 0, none⟩) (xs1.length + 1) cap) HN2.out (by have := HV2.out.sz; omega) (Nat.lt_succ_self _) HGROW.out)
                      have HL3 : Hid ((xs1 ++ [x2]).length ≤ 2 * (i + 1)) := by have := HL2.out; rw [Hid, List.length_append, List.length_singleton]; omega
                      go_wp2
                      go_roundw
                      case rel => first | exact ⟨i + 1, _, xs1 ++ [x2], by go_num, by omega, HL3, HPQ, HN3⟩ | (repeat (first | (refine ⟨?relx, rfl⟩; exact ⟨i + 1, _, xs1 ++ [x2], by go_num, by omega, HL3, HPQ, HN3⟩) | (refine ⟨?relx, ?eqs⟩; (case eqs => (and_intros <;> rfl)); exact ⟨i + 1, _, xs1 ++ [x2], by go_num, by omega, HL3, HPQ, HN3⟩) | apply Exists.intro))
                      case measure => simp [intOf]; omega
                  · have hk3 : ((1 + y) == 3) = false := beq_eq_false_iff_ne.mpr (by omega)
                    go_wp2
                    go_roundw
                    case rel => first | exact ⟨i + 1, v1, xs1, by go_num, by omega, by have := HL2.out; rw [Hid]; omega, HP, HN1⟩ | (repeat (first | (refine ⟨?relx, rfl⟩; exact ⟨i + 1, v1, xs1, by go_num, by omega, by have := HL2.out; rw [Hid]; omega, HP, HN1⟩) | (refine ⟨?relx, ?eqs⟩; (case eqs => (and_intros <;> rfl)); exact ⟨i + 1, v1, xs1, by go_num, by omega, by have := HL2.out; rw [Hid]; omega, HP, HN1⟩) | apply Exists.intro))
                    case measure => simp [intOf]; omega
          · obtain rfl : i = 4 := by omega
            obtain ⟨A9, c9, rfl⟩ := HVR.out.own.form
            have HE := HVR
            have x0 := HE.out.c 0
            have x1 := HE.out.c 1
            have x2 := HE.out.c 2
            have x3 := HE.out.c 3
            have z0 := blk_cell HE.out.res 0
            have z1 := blk_cell HE.out.res 1
            have z2 := blk_cell HE.out.res 2
            have z3 := blk_cell HE.out.res 3
            have y0 := blk_frozen HE.out.res 0
            have y1 := blk_frozen HE.out.res 1
            have y2 := blk_frozen HE.out.res 2
            have y3 := blk_frozen HE.out.res 3
            go_wp2
            exact valD_end rfl HE.out rfl (by omega) (by omega) (by decide) (by omega)
  · go_wp2_with fail
    go_at_call 97
    refine (spec_l01Below_calls g 40 _ HV2.out.drw.1 (by omega)).mono ?_
    rintro e w4 ⟨q, rfl, hq0, hq1, _, hd⟩
    have hq1 := hq1 (by omega)
    have HV4 := Lib.hid (HV2.out.drawn hd)
    have c1 := HV4.out.c 1
    have f1 := HV4.out.fz 1
    clear hd
    have HV := Lib.hid (HV4.out.setU (1 + q))
    have HVN := Lib.hid ((HV.out.alloc (.cells #[.string ⟨#[102]⟩, .string ⟨#[103]⟩, .string ⟨#[104]⟩, .string ⟨#[105]⟩] 9)).rebase (B' := (w4.heap.size + 1)) (by have := HV4.out.sz; have := HV4.out.far; omega) (by simp))
    have cN := HVN.out.c 0
    have HNB : Hid (((w4.setCell ⟨w1.heap.size, 1, none⟩ (.int .i64 (1 + q))).alloc (.cells #[.string ⟨#[102]⟩, .string ⟨#[103]⟩, .string ⟨#[104]⟩, .string ⟨#[105]⟩] 9)).heap[w4.heap.size]? = some (.cells #[.string ⟨#[102]⟩, .string ⟨#[103]⟩, .string ⟨#[104]⟩, .string ⟨#[105]⟩] 9)) := (by have h := blk_new (w4.setCell ⟨w1.heap.size, 1, none⟩ (.int .i64 (1 + q))) (.cells #[.string ⟨#[102]⟩, .string ⟨#[103]⟩, .string ⟨#[104]⟩, .string ⟨#[105]⟩] 9); rw [Hid]; simpa using h)
    by_cases k1 : y = 0
    · subst k1
      go_wp2_with fail
      go_at_call 112
      refine (spec_l10Word_calls g _ HVN.out.drw.1).mono ?_
      rintro e w5 ⟨x, rfl, hx, hd⟩
      have HV5 := Lib.hid (HVN.out.drawn hd)
      have d2 : w5.cell? ⟨w1.heap.size, 2, none⟩ = some (.string ⟨#[]⟩) := HV5.out.c 2
      have f2 := HV5.out.fz 2
      have HE := Lib.hid (HV5.out.setT x)
      have x0 := HE.out.c 0
      have x1 := HE.out.c 1
      have x2 := HE.out.c 2
      have x3 := HE.out.c 3
      have z0 := blk_cell HE.out.res 0
      have z1 := blk_cell HE.out.res 1
      have z2 := blk_cell HE.out.res 2
      have z3 := blk_cell HE.out.res 3
      have y0 := blk_frozen HE.out.res 0
      have y1 := blk_frozen HE.out.res 1
      have y2 := blk_frozen HE.out.res 2
      have y3 := blk_frozen HE.out.res 3
      clear hd
      go_wp2
      exact valD_end rfl HE.out rfl (by omega) (by omega) (by omega) (by decide)
    · by_cases k2 : y = 1
      · subst k2
        go_wp2_with fail
        go_loopw [5] (fun iv wr => ∃ (i : Nat) (v : Value) (xs : List ByteArray), iv = .int .i64 (i : Int) ∧ i ≤ 4 ∧ Hid (xs.length = i) ∧ Hid (VD w g w1.heap.size (w4.heap.size + 1) 2 (1 + q) ⟨#[]⟩ v xs wr)) (fun iv _ => 4 - (intOf iv).toNat)
        case atStart => exact ⟨0, _, [], rfl, by omega, rfl, HVN.out⟩
        case round =>
          obtain ⟨i, v, xs, rfl, hi4, HLN, HVR⟩ := hrel
          have hxl : xs.length ≤ 4 := by have := HLN.out; omega
          go_wp2_with fail
          go_at_call 97
          refine (spec_l01Below_calls g 4 _ HVR.out.drw.1 (by omega)).mono ?_
          rintro e w5 ⟨z, rfl, hz0, hz1, _, hd⟩
          have hz1 := hz1 (by omega)
          have HV5 := Lib.hid (HVR.out.drawn hd)
          clear hd
          by_cases hlt : (i : Int) < 1 + z
          · have HG0 := Lib.hid (HV5.out.drew)
            have c3 := HV5.out.c 3
            go_wp2
            go_region_law (first | ((refine step_append_lies _ (by rfl) (.tmp 66) (.tmp 69) 37 (by rfl) ((w4.heap.size + 1)) 9 i0 (.string ByteArray.empty) 1 16 Try.underlying37 hi hz hsz hby rfl (by omega) v xs.length (xs.map Value.string) (by simp [Act.eval, Act.put]) HOWN.out _ 1 1 [.string x] (by simp [Act.eval, Act.put]) rfl HNEWS.out (by simp [Value.oneCell']) (by omega) (by unfold maxLen; omega) (by omega) HBASE.out _ rfl ?_); intro gg cap wq hown hgrow hat hlt; have HOWN2 := Lib.hid hown; have HGROW := Lib.hid hgrow; have HAT := Lib.hid hat; clear hown hgrow hat hlt; have f2 := blk_frozen (HG.out.bg HGROW.out).1 3; have c4 := blk_cell (HG.out.bg HGROW.out).1 3) | (go_simp; go_at_call 112; refine (spec_l10Word_calls g _ HG0.out.drw.1).mono ?_; rintro e w' ⟨x, rfl, hx, hd⟩; have HX : Hid (x.size ≤ 20) := hx; have HG := Lib.hid (HG0.out.drawn hd); clear hd hx; have c3' := HG.out.c 3; have HBASE : Hid ((w4.heap.size + 1) ≤ (w'.alloc (.cells #[.string x] 9)).heap.size) := (HG.out.alloc _).sz; have HOWN : Hid ((w'.alloc (.cells #[.string x] 9)).ownsRow ((w4.heap.size + 1)) 9 1 v xs.length (xs.map Value.string)) := (HG.out.alloc _).own; have HNEWS : Hid (∀ j u, [Value.string x][j]? = some u → (w'.alloc (.cells #[.string x] 9)).cell? ((⟨w'.heap.size, 0, none⟩ : Addr).add j) = some u) := World.news_of_block (heap_alloc_new w' _); have c3a := (HG.out.alloc (.cells #[.string x] 9)).c 3))
            all_goals
              go_wp2
              go_roundw
              case rel => first | exact ⟨i + 1, _, xs ++ [x], by go_num, by omega, by rw [List.length_append, HLN.out]; rfl, HG.out.pushed (by have := HX.out; omega) (by omega) HOWN2.out HGROW.out HAT.out⟩ | (repeat (first | (refine ⟨?relx, rfl⟩; exact ⟨i + 1, _, xs ++ [x], by go_num, by omega, by rw [List.length_append, HLN.out]; rfl, HG.out.pushed (by have := HX.out; omega) (by omega) HOWN2.out HGROW.out HAT.out⟩) | (refine ⟨?relx, ?eqs⟩; (case eqs => (and_intros <;> rfl)); exact ⟨i + 1, _, xs ++ [x], by go_num, by omega, by rw [List.length_append, HLN.out]; rfl, HG.out.pushed (by have := HX.out; omega) (by omega) HOWN2.out HGROW.out HAT.out⟩) | apply Exists.intro))
              case measure => simp [intOf]; omega
          · obtain ⟨A9, c9, rfl⟩ := HV5.out.own.form
            have HE := HV5
            have x0 := HE.out.c 0
            have x1 := HE.out.c 1
            have x2 := HE.out.c 2
            have x3 := HE.out.c 3
            have z0 := blk_cell HE.out.res 0
            have z1 := blk_cell HE.out.res 1
            have z2 := blk_cell HE.out.res 2
            have z3 := blk_cell HE.out.res 3
            have y0 := blk_frozen HE.out.res 0
            have y1 := blk_frozen HE.out.res 1
            have y2 := blk_frozen HE.out.res 2
            have y3 := blk_frozen HE.out.res 3
            go_wp2
            exact valD_end rfl HE.out rfl (by omega) (by omega) (by decide) (by omega)
      · have hk1 : ((1 + y) == 1) = false := beq_eq_false_iff_ne.mpr (by omega)
        have hk2 : ((1 + y) == 2) = false := beq_eq_false_iff_ne.mpr (by omega)
        go_wp2_with fail
        go_loopw [6] (fun iv wr => ∃ (i : Nat) (v : Value) (xs : List ByteArray), iv = .int .i64 (i : Int) ∧ i ≤ 4 ∧ Hid (xs.length ≤ 2 * i) ∧ Hid (VD w g w1.heap.size (w4.heap.size + 1) (1 + y) (1 + q) ⟨#[]⟩ v xs wr) ∧ Hid (wr.heap[w4.heap.size]? = some (.cells #[.string ⟨#[102]⟩, .string ⟨#[103]⟩, .string ⟨#[104]⟩, .string ⟨#[105]⟩] 9))) (fun iv _ => 4 - (intOf iv).toNat)
        case atStart => exact ⟨0, _, [], rfl, by omega, by simp [Hid], HVN.out, HNB.out⟩
        case round =>
          obtain ⟨i, v, xs, rfl, hi4, HLN, HVR, HNR⟩ := hrel
          have hxl : xs.length ≤ 8 := by have := HLN.out; omega
          by_cases hlt : i < 4
          · have hli : (i : Int) < 4 := by omega
            obtain ⟨x, hxe, hxs⟩ : ∃ x : ByteArray, (#[.string ⟨#[102]⟩, .string ⟨#[103]⟩, .string ⟨#[104]⟩, .string ⟨#[105]⟩] : Array Value)[i]? = some (.string x) ∧ x.size ≤ 20 := by
              have h4 : i = 0 ∨ i = 1 ∨ i = 2 ∨ i = 3 := by omega
              rcases h4 with rfl | rfl | rfl | rfl
              all_goals exact ⟨_, rfl, by decide⟩
            by_cases h0 : i = 0
            · have hie : ((i : Int) == 0) = true := by rw [h0]; rfl
              clear h0
              have HVW := HVR
              have HNW := HNR
              have HX : Hid (x.size ≤ 20) := hxs
              have cn : wr.cell? ⟨w4.heap.size, i, none⟩ = some (.string x) := (blk_cell HNW.out i).trans hxe
              have c3 := HVW.out.c 3
              have c3b := (HVW.out.alloc (.cells #[.string x] 9)).c 3
              have HG := Lib.hid HVW.out.drew
              have HNG : Hid (wr.drew.heap[w4.heap.size]? = some (.cells #[.string ⟨#[102]⟩, .string ⟨#[103]⟩, .string ⟨#[104]⟩, .string ⟨#[105]⟩] 9)) := HNW.out
              have HBASE : Hid ((w4.heap.size + 1) ≤ (wr.drew.alloc (.cells #[.string x] 9)).heap.size) := (HG.out.alloc _).sz
              have HOWN : Hid ((wr.drew.alloc (.cells #[.string x] 9)).ownsRow ((w4.heap.size + 1)) 9 1 v xs.length (xs.map Value.string)) := (HG.out.alloc _).own
              have HNEWS : Hid (∀ j u, [Value.string x][j]? = some u → (wr.drew.alloc (.cells #[.string x] 9)).cell? ((⟨wr.drew.heap.size, 0, none⟩ : Addr).add j) = some u) := World.news_of_block (heap_alloc_new wr.drew _)
              have c3a := (HG.out.alloc (.cells #[.string x] 9)).c 3
              clear hxe hxs
              go_wp2
              go_region_law (first | ((refine step_append_lies _ (by rfl) (.tmp 33) (.tmp 38) 37 (by rfl) ((w4.heap.size + 1)) 9 i0 (.string ByteArray.empty) 1 16 Try.underlying37 hi hz hsz hby rfl (by omega) v xs.length (xs.map Value.string) (by simp [Act.eval, Act.put]) HOWN.out _ 1 1 [.string x] (by simp [Act.eval, Act.put]) rfl HNEWS.out (by simp [Value.oneCell']) (by omega) (by unfold maxLen; omega) (by omega) HBASE.out _ rfl ?_); intro gg cap wq hown hgrow hat hlt; have HOWN2 := Lib.hid hown; have HGROW := Lib.hid hgrow; have HAT := Lib.hid hat; clear hown hgrow hat hlt; have f2 := blk_frozen (HG.out.bg HGROW.out).1 3; have c4 := blk_cell (HG.out.bg HGROW.out).1 3))
              all_goals
                have HP := Lib.hid (HG.out.pushed (by have := HX.out; omega) (by omega) HOWN2.out HGROW.out HAT.out)
                have HN1 := Lib.hid (HG.out.other (j := 3) (x := .slice (some ⟨gg, 0, none⟩) (xs.length + 1) cap) HNG.out (by have := HV4.out.sz; omega) (Nat.lt_succ_self _) HGROW.out)
                have HL1 : Hid ((xs ++ [x]).length = xs.length + 1) := by rw [Hid, List.length_append]; rfl
                clear HBASE HOWN HNEWS HOWN2 HGROW HAT c3 c3a cn f2 c4
                generalize hW1 : wq.setCell _ _ = WN at HP HN1 ⊢
                clear hW1
                generalize hv1 : Value.slice (some ⟨gg, 0, none⟩) (xs.length + 1) cap = v1 at HP ⊢
                generalize hx1 : xs ++ [x] = xs1 at HP HL1
                clear hx1
                have hx1l : xs1.length ≤ 9 := by have := HL1.out; omega
                have HL2 : Hid (xs1.length ≤ 2 * i + 1) := by have := HL1.out; have := HLN.out; rw [Hid]; omega
                have c0 := HP.out.c 0
                by_cases k3 : y = 2
                · have hk3 : ((1 + y) == 3) = true := by rw [k3]; rfl
                  clear k3
                  have c3 := HP.out.c 3
                  have HG0 := Lib.hid HP.out.drew
                  go_wp2
                  go_region_law (first | ((refine step_append_lies _ (by rfl) (.tmp 45) (.tmp 48) 37 (by rfl) ((w4.heap.size + 1)) 9 i0 (.string ByteArray.empty) 1 16 Try.underlying37 hi hz hsz hby rfl (by omega) v1 xs1.length (xs1.map Value.string) (by simp [Act.eval, Act.put]) HOWN.out _ 1 1 [.string x2] (by simp [Act.eval, Act.put]) rfl HNEWS.out (by simp [Value.oneCell']) (by omega) (by unfold maxLen; omega) (by omega) HBASE.out _ rfl ?_); intro gg cap wq hown hgrow hat hlt; have HOWN2 := Lib.hid hown; have HGROW := Lib.hid hgrow; have HAT := Lib.hid hat; clear hown hgrow hat hlt; have f2 := blk_frozen (HG.out.bg HGROW.out).1 3; have c4 := blk_cell (HG.out.bg HGROW.out).1 3) | (go_simp; go_at_call 112; refine (spec_l10Word_calls g _ HG0.out.drw.1).mono ?_; rintro e w' ⟨x2, rfl, hx, hd⟩; have HX2 : Hid (x2.size ≤ 20) := hx; have HG := Lib.hid (HG0.out.drawn hd); have HN2 := Lib.hid (HG0.out.nb hd HN1.out (by have := HV4.out.sz; omega)); clear hd hx; have c3' := HG.out.c 3; have HBASE : Hid ((w4.heap.size + 1) ≤ (w'.alloc (.cells #[.string x2] 9)).heap.size) := (HG.out.alloc _).sz; have HOWN : Hid ((w'.alloc (.cells #[.string x2] 9)).ownsRow ((w4.heap.size + 1)) 9 1 v1 xs1.length (xs1.map Value.string)) := (HG.out.alloc _).own; have HNEWS : Hid (∀ j u, [Value.string x2][j]? = some u → (w'.alloc (.cells #[.string x2] 9)).cell? ((⟨w'.heap.size, 0, none⟩ : Addr).add j) = some u) := World.news_of_block (heap_alloc_new w' _); have c3a := (HG.out.alloc (.cells #[.string x2] 9)).c 3))
                  all_goals
                    have HPQ := Lib.hid (HG.out.pushed (by have := HX2.out; omega) (by omega) HOWN2.out HGROW.out HAT.out)
                    have HN3 := Lib.hid (HG.out.other (j := 3) (x := .slice (some ⟨gg, 0, none⟩) (xs1.length + 1) cap) HN2.out (by have := HV4.out.sz; omega) (Nat.lt_succ_self _) HGROW.out)
                    have HL3 : Hid ((xs1 ++ [x2]).length ≤ 2 * (i + 1)) := by have := HL2.out; rw [Hid, List.length_append, List.length_singleton]; omega
                    go_wp2
                    go_roundw
                    case rel => first | exact ⟨i + 1, _, xs1 ++ [x2], by go_num, by omega, HL3, HPQ, HN3⟩ | (repeat (first | (refine ⟨?relx, rfl⟩; exact ⟨i + 1, _, xs1 ++ [x2], by go_num, by omega, HL3, HPQ, HN3⟩) | (refine ⟨?relx, ?eqs⟩; (case eqs => (and_intros <;> rfl)); exact ⟨i + 1, _, xs1 ++ [x2], by go_num, by omega, HL3, HPQ, HN3⟩) | apply Exists.intro))
                    case measure => simp [intOf]; omega
                · have hk3 : ((1 + y) == 3) = false := beq_eq_false_iff_ne.mpr (by omega)
                  go_wp2
                  go_roundw
                  case rel => first | exact ⟨i + 1, v1, xs1, by go_num, by omega, by have := HL2.out; rw [Hid]; omega, HP, HN1⟩ | (repeat (first | (refine ⟨?relx, rfl⟩; exact ⟨i + 1, v1, xs1, by go_num, by omega, by have := HL2.out; rw [Hid]; omega, HP, HN1⟩) | (refine ⟨?relx, ?eqs⟩; (case eqs => (and_intros <;> rfl)); exact ⟨i + 1, v1, xs1, by go_num, by omega, by have := HL2.out; rw [Hid]; omega, HP, HN1⟩) | apply Exists.intro))
                  case measure => simp [intOf]; omega
            · have hie : ((i : Int) == 0) = false := beq_eq_false_iff_ne.mpr (by omega)
              clear h0
              go_wp2_with fail
              go_at_call 89
              refine (spec_l01Once_calls g 2 _ HVR.out.drw.1 (by omega)).mono ?_
              rintro e w5 ⟨b, rfl, hd⟩
              have HVW := Lib.hid (HVR.out.drawn hd)
              have HNW := Lib.hid (HVR.out.nb hd HNR.out (by have := HV4.out.sz; omega))
              clear hd
              cases b
              · go_wp2
                go_roundw
                case rel => first | exact ⟨i + 1, v, xs, by go_num, by omega, by have := HLN.out; rw [Hid]; omega, HVW, HNW⟩ | (repeat (first | (refine ⟨?relx, rfl⟩; exact ⟨i + 1, v, xs, by go_num, by omega, by have := HLN.out; rw [Hid]; omega, HVW, HNW⟩) | (refine ⟨?relx, ?eqs⟩; (case eqs => (and_intros <;> rfl)); exact ⟨i + 1, v, xs, by go_num, by omega, by have := HLN.out; rw [Hid]; omega, HVW, HNW⟩) | apply Exists.intro))
                case measure => simp [intOf]; omega
              · skip
                have HX : Hid (x.size ≤ 20) := hxs
                have cn : w5.cell? ⟨w4.heap.size, i, none⟩ = some (.string x) := (blk_cell HNW.out i).trans hxe
                have c3 := HVW.out.c 3
                have c3b := (HVW.out.alloc (.cells #[.string x] 9)).c 3
                have HG := Lib.hid HVW.out.drew
                have HNG : Hid (w5.drew.heap[w4.heap.size]? = some (.cells #[.string ⟨#[102]⟩, .string ⟨#[103]⟩, .string ⟨#[104]⟩, .string ⟨#[105]⟩] 9)) := HNW.out
                have HBASE : Hid ((w4.heap.size + 1) ≤ (w5.drew.alloc (.cells #[.string x] 9)).heap.size) := (HG.out.alloc _).sz
                have HOWN : Hid ((w5.drew.alloc (.cells #[.string x] 9)).ownsRow ((w4.heap.size + 1)) 9 1 v xs.length (xs.map Value.string)) := (HG.out.alloc _).own
                have HNEWS : Hid (∀ j u, [Value.string x][j]? = some u → (w5.drew.alloc (.cells #[.string x] 9)).cell? ((⟨w5.drew.heap.size, 0, none⟩ : Addr).add j) = some u) := World.news_of_block (heap_alloc_new w5.drew _)
                have c3a := (HG.out.alloc (.cells #[.string x] 9)).c 3
                clear hxe hxs
                go_wp2
                go_region_law (first | ((refine step_append_lies _ (by rfl) (.tmp 33) (.tmp 38) 37 (by rfl) ((w4.heap.size + 1)) 9 i0 (.string ByteArray.empty) 1 16 Try.underlying37 hi hz hsz hby rfl (by omega) v xs.length (xs.map Value.string) (by simp [Act.eval, Act.put]) HOWN.out _ 1 1 [.string x] (by simp [Act.eval, Act.put]) rfl HNEWS.out (by simp [Value.oneCell']) (by omega) (by unfold maxLen; omega) (by omega) HBASE.out _ rfl ?_); intro gg cap wq hown hgrow hat hlt; have HOWN2 := Lib.hid hown; have HGROW := Lib.hid hgrow; have HAT := Lib.hid hat; clear hown hgrow hat hlt; have f2 := blk_frozen (HG.out.bg HGROW.out).1 3; have c4 := blk_cell (HG.out.bg HGROW.out).1 3))
                all_goals
                  have HP := Lib.hid (HG.out.pushed (by have := HX.out; omega) (by omega) HOWN2.out HGROW.out HAT.out)
                  have HN1 := Lib.hid (HG.out.other (j := 3) (x := .slice (some ⟨gg, 0, none⟩) (xs.length + 1) cap) HNG.out (by have := HV4.out.sz; omega) (Nat.lt_succ_self _) HGROW.out)
                  have HL1 : Hid ((xs ++ [x]).length = xs.length + 1) := by rw [Hid, List.length_append]; rfl
                  clear HBASE HOWN HNEWS HOWN2 HGROW HAT c3 c3a cn f2 c4
                  generalize hW1 : wq.setCell _ _ = WN at HP HN1 ⊢
                  clear hW1
                  generalize hv1 : Value.slice (some ⟨gg, 0, none⟩) (xs.length + 1) cap = v1 at HP ⊢
                  generalize hx1 : xs ++ [x] = xs1 at HP HL1
                  clear hx1
                  have hx1l : xs1.length ≤ 9 := by have := HL1.out; omega
                  have HL2 : Hid (xs1.length ≤ 2 * i + 1) := by have := HL1.out; have := HLN.out; rw [Hid]; omega
                  have c0 := HP.out.c 0
                  by_cases k3 : y = 2
                  · have hk3 : ((1 + y) == 3) = true := by rw [k3]; rfl
                    clear k3
                    have c3 := HP.out.c 3
                    have HG0 := Lib.hid HP.out.drew
                    go_wp2
                    go_region_law (first | ((refine step_append_lies _ (by rfl) (.tmp 45) (.tmp 48) 37 (by rfl) ((w4.heap.size + 1)) 9 i0 (.string ByteArray.empty) 1 16 Try.underlying37 hi hz hsz hby rfl (by omega) v1 xs1.length (xs1.map Value.string) (by simp [Act.eval, Act.put]) HOWN.out _ 1 1 [.string x2] (by simp [Act.eval, Act.put]) rfl HNEWS.out (by simp [Value.oneCell']) (by omega) (by unfold maxLen; omega) (by omega) HBASE.out _ rfl ?_); intro gg cap wq hown hgrow hat hlt; have HOWN2 := Lib.hid hown; have HGROW := Lib.hid hgrow; have HAT := Lib.hid hat; clear hown hgrow hat hlt; have f2 := blk_frozen (HG.out.bg HGROW.out).1 3; have c4 := blk_cell (HG.out.bg HGROW.out).1 3) | (go_simp; go_at_call 112; refine (spec_l10Word_calls g _ HG0.out.drw.1).mono ?_; rintro e w' ⟨x2, rfl, hx, hd⟩; have HX2 : Hid (x2.size ≤ 20) := hx; have HG := Lib.hid (HG0.out.drawn hd); have HN2 := Lib.hid (HG0.out.nb hd HN1.out (by have := HV4.out.sz; omega)); clear hd hx; have c3' := HG.out.c 3; have HBASE : Hid ((w4.heap.size + 1) ≤ (w'.alloc (.cells #[.string x2] 9)).heap.size) := (HG.out.alloc _).sz; have HOWN : Hid ((w'.alloc (.cells #[.string x2] 9)).ownsRow ((w4.heap.size + 1)) 9 1 v1 xs1.length (xs1.map Value.string)) := (HG.out.alloc _).own; have HNEWS : Hid (∀ j u, [Value.string x2][j]? = some u → (w'.alloc (.cells #[.string x2] 9)).cell? ((⟨w'.heap.size, 0, none⟩ : Addr).add j) = some u) := World.news_of_block (heap_alloc_new w' _); have c3a := (HG.out.alloc (.cells #[.string x2] 9)).c 3))
                    all_goals
                      have HPQ := Lib.hid (HG.out.pushed (by have := HX2.out; omega) (by omega) HOWN2.out HGROW.out HAT.out)
                      have HN3 := Lib.hid (HG.out.other (j := 3) (x := .slice (some ⟨gg, 0, none⟩) (xs1.length + 1) cap) HN2.out (by have := HV4.out.sz; omega) (Nat.lt_succ_self _) HGROW.out)
                      have HL3 : Hid ((xs1 ++ [x2]).length ≤ 2 * (i + 1)) := by have := HL2.out; rw [Hid, List.length_append, List.length_singleton]; omega
                      go_wp2
                      go_roundw
                      case rel => first | exact ⟨i + 1, _, xs1 ++ [x2], by go_num, by omega, HL3, HPQ, HN3⟩ | (repeat (first | (refine ⟨?relx, rfl⟩; exact ⟨i + 1, _, xs1 ++ [x2], by go_num, by omega, HL3, HPQ, HN3⟩) | (refine ⟨?relx, ?eqs⟩; (case eqs => (and_intros <;> rfl)); exact ⟨i + 1, _, xs1 ++ [x2], by go_num, by omega, HL3, HPQ, HN3⟩) | apply Exists.intro))
                      case measure => simp [intOf]; omega
                  · have hk3 : ((1 + y) == 3) = false := beq_eq_false_iff_ne.mpr (by omega)
                    go_wp2
                    go_roundw
                    case rel => first | exact ⟨i + 1, v1, xs1, by go_num, by omega, by have := HL2.out; rw [Hid]; omega, HP, HN1⟩ | (repeat (first | (refine ⟨?relx, rfl⟩; exact ⟨i + 1, v1, xs1, by go_num, by omega, by have := HL2.out; rw [Hid]; omega, HP, HN1⟩) | (refine ⟨?relx, ?eqs⟩; (case eqs => (and_intros <;> rfl)); exact ⟨i + 1, v1, xs1, by go_num, by omega, by have := HL2.out; rw [Hid]; omega, HP, HN1⟩) | apply Exists.intro))
                    case measure => simp [intOf]; omega
          · obtain rfl : i = 4 := by omega
            obtain ⟨A9, c9, rfl⟩ := HVR.out.own.form
            have HE := HVR
            have x0 := HE.out.c 0
            have x1 := HE.out.c 1
            have x2 := HE.out.c 2
            have x3 := HE.out.c 3
            have z0 := blk_cell HE.out.res 0
            have z1 := blk_cell HE.out.res 1
            have z2 := blk_cell HE.out.res 2
            have z3 := blk_cell HE.out.res 3
            have y0 := blk_frozen HE.out.res 0
            have y1 := blk_frozen HE.out.res 1
            have y2 := blk_frozen HE.out.res 2
            have y3 := blk_frozen HE.out.res 3
            go_wp2
            exact valD_end rfl HE.out rfl (by omega) (by omega) (by decide) (by omega)
end Go.Proofs.Ytekhfplbhcfdmaa
