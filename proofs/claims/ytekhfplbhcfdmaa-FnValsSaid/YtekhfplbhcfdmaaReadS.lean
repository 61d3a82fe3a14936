/- The reference's ReadVal: what it reads (readValS), and in what memory. -/
import Derived.Test.YtekhfplbhcfdmaaReadI
import Derived.Test.YtekhfplbhcfdmaaVal4
namespace Go.Proofs.Ytekhfplbhcfdmaa
set_option linter.unusedVariables false
set_option linter.unusedSimpArgs false
open Go.RowKit
attribute [local go_sem] bs_size List.length_cons List.length_nil List.length_append

/-- The reference's value under way: the cursor's block, the value's block; its items are a row of the call's own. -/
structure CSt (B gv gr : Nat) (s : ByteArray) (k u : Int) (t : ByteArray) (xs : List ByteArray) (v : Value) (a : Nat) (bad : Bool) (w0 w : World) : Prop where
  bel : Below B w0 w
  hv : w.heap[gv]? = some (.cells #[.int .i64 k, .int .i64 u, .string t, v] 39 (0, 0))
  rd : RdAt 65 w gr s a bad
  own : w.ownsRow B 9 1 v xs.length (xs.map Value.string)
  ne : v.ownBlock ≠ some gv ∧ v.ownBlock ≠ some gr
  far : B ≤ gv ∧ B ≤ gr ∧ gv ≠ gr
section
variable {B gv gr : Nat} {s : ByteArray} {k u : Int} {t : ByteArray} {xs : List ByteArray} {v : Value} {a a' : Nat} {bad bad' : Bool} {w0 w w' w2 : World} {o : Obj}
theorem CSt.cv (h : CSt B gv gr s k u t xs v a bad w0 w) (j : Nat) : w.cell? ⟨gv, j, none⟩ = (#[.int .i64 k, .int .i64 u, .string t, v] : Array Value)[j]? := by
  rw [cell_of_row w gv j _ _ (0, 0) h.hv]
theorem CSt.c3 (h : CSt B gv gr s k u t xs v a bad w0 w) : w.cell? ⟨gv, 3, none⟩ = some v := h.cv 3
theorem cst_c3 (h : CSt B gv gr s k u t xs v a bad w0 w) (hg : w.grownBy w' (some gr)) : w'.cell? ⟨gv, 3, none⟩ = some v :=
  hg.cell h.c3 (by have := h.far; simp; omega)
theorem cst_own (h : CSt B gv gr s k u t xs v a bad w0 w) (hg : w.grownBy w' (some gr)) (o : Obj) : (w'.alloc o).ownsRow B 9 1 v xs.length (xs.map Value.string) :=
  (h.own.kept hg (.inr h.ne.2)).alloc o
theorem cst_hv (h : CSt B gv gr s k u t xs v a bad w0 w) (hg : w.grownBy w' (some gr)) (hg2 : (w'.alloc o).grownBy w2 v.ownBlock) : w2.heap[gv]? = some (.cells #[.int .i64 k, .int .i64 u, .string t, v] 39 (0, 0)) := by
  have hf := h.far
  have l1 := blk_lt h.hv
  have hs := hg.size
  rw [hg2.block gv (by simp; omega) (fun e => h.ne.1 e.symm), heap_alloc_old w' o (by omega), hg.block gv l1 (by simp; omega)]
  exact h.hv
theorem cst_frozen (h : CSt B gv gr s k u t xs v a bad w0 w) (hg : w.grownBy w' (some gr)) (hg2 : (w'.alloc o).grownBy w2 v.ownBlock) : w2.frozen? ⟨gv, 3, none⟩ = false := frozen_blk (cst_hv h hg hg2) 3
theorem cst_cell (h : CSt B gv gr s k u t xs v a bad w0 w) (hg : w.grownBy w' (some gr)) (hg2 : (w'.alloc o).grownBy w2 v.ownBlock) : w2.cell? ⟨gv, 3, none⟩ = some v := by
  rw [cell_of_row w2 gv 3 _ _ (0, 0) (cst_hv h hg hg2)]; rfl
theorem CSt.pushed {g cap : Nat} {x : ByteArray} (h : CSt B gv gr s k u t xs v a bad w0 w) (hrd : RdAt 65 w' gr s a' bad') (hg : w.grownBy w' (some gr))
    (hown : w2.ownsRow B 9 1 (.slice (some ⟨g, 0, none⟩) (xs.length + 1) cap) (xs.length + 1) (xs.map Value.string ++ [.string x])) (hgrow : (w'.alloc o).grownBy w2 v.ownBlock) (hat : v.ownBlock = some g ∨ g = (w'.alloc o).heap.size) :
    CSt B gv gr s k u t (xs ++ [x]) (.slice (some ⟨g, 0, none⟩) (xs.length + 1) cap) a' bad' w0 (w2.setCell ⟨gv, 3, none⟩ (.slice (some ⟨g, 0, none⟩) (xs.length + 1) cap)) := by
  have hf := h.far
  have l1 := blk_lt h.hv
  have l3 := h.rd.lt
  have hs := hg.size
  have hsa : (w'.alloc o).heap.size = w'.heap.size + 1 := by simp
  have hs2 := hgrow.size
  have hv2 := cst_hv h hg hgrow
  have hne : g ≠ gv ∧ g ≠ gr := by
    rcases hat with hat | hat
    · have := h.ne
      rw [hat] at this
      simp at this
      exact ⟨this.1, this.2⟩
    · omega
  have hset : w2.grownBy (w2.setCell ⟨gv, 3, none⟩ (.slice (some ⟨g, 0, none⟩) (xs.length + 1) cap)) (some gv) := grown_set (World.grownBy.refl w2 _) 3 _
  have hrd2 : RdAt 65 w2 gr s a' bad' := by
    unfold RdAt at hrd ⊢
    rw [hgrow.block gr (by omega) (fun e => h.ne.2 e.symm), heap_alloc_old w' o (by omega)]
    exact hrd
  refine ⟨?_, ?_, ?_, ?_, ?_, hf⟩
  · refine below_grown (below_grown ((below_grown h.bel hg (by omega) (fun k e => by cases e; omega)).alloc (by omega) o) hgrow (by omega) (fun k e => (h.own.lt k e).1)) hset (by omega) (fun k e => by cases e; omega)
  · rw [blk_set hv2]; rfl
  · exact (heap_set_ne w2 gv 3 gr _ (by omega)).trans hrd2
  · have h1 := hown.kept hset (.inr (by simp [Value.ownBlock]; omega))
    rw [List.map_append, List.length_append]
    exact h1
  · simp only [Value.ownBlock, ne_eq, Option.some.injEq]
    exact hne
theorem CSt.read (h : CSt B gv gr s k u t xs v a bad w0 w) (hr : RdAt 65 w' gr s a' bad') (hg : w.grownBy w' (some gr)) : CSt B gv gr s k u t xs v a' bad' w0 w' := by
  have hf := h.far
  have l1 := blk_lt h.hv
  exact ⟨below_grown h.bel hg (by omega) (fun k e => by cases e; exact hf.2.1), (hg.block gv l1 (by simp; omega)).trans h.hv, hr, h.own.kept hg (.inr h.ne.2), h.ne, hf⟩
theorem CSt.setK (h : CSt B gv gr s k u t xs v a bad w0 w) (k' : Int) : CSt B gv gr s k' u t xs v a bad w0 (w.setCell ⟨gv, 0, none⟩ (.int .i64 k')) := by
  have hf := h.far
  have hset : w.grownBy (w.setCell ⟨gv, 0, none⟩ (.int .i64 k')) (some gv) := grown_set (World.grownBy.refl w _) 0 _
  have l1 := blk_lt h.hv
  exact ⟨below_grown h.bel hset (by omega) (fun k e => by cases e; omega), by rw [blk_set h.hv]; rfl, (heap_set_ne w gv 0 gr _ (by omega)).trans h.rd, h.own.kept hset (.inr h.ne.1), h.ne, hf⟩
theorem CSt.setU (h : CSt B gv gr s k u t xs v a bad w0 w) (u' : Int) : CSt B gv gr s k u' t xs v a bad w0 (w.setCell ⟨gv, 1, none⟩ (.int .i64 u')) := by
  have hf := h.far
  have hset : w.grownBy (w.setCell ⟨gv, 1, none⟩ (.int .i64 u')) (some gv) := grown_set (World.grownBy.refl w _) 1 _
  have l1 := blk_lt h.hv
  exact ⟨below_grown h.bel hset (by omega) (fun k e => by cases e; omega), by rw [blk_set h.hv]; rfl, (heap_set_ne w gv 1 gr _ (by omega)).trans h.rd, h.own.kept hset (.inr h.ne.1), h.ne, hf⟩
theorem CSt.setT (h : CSt B gv gr s k u t xs v a bad w0 w) (t' : ByteArray) : CSt B gv gr s k u t' xs v a bad w0 (w.setCell ⟨gv, 2, none⟩ (.string t')) := by
  have hf := h.far
  have hset : w.grownBy (w.setCell ⟨gv, 2, none⟩ (.string t')) (some gv) := grown_set (World.grownBy.refl w _) 2 _
  have l1 := blk_lt h.hv
  exact ⟨below_grown h.bel hset (by omega) (fun k e => by cases e; omega), by rw [blk_set h.hv]; rfl, (heap_set_ne w gv 2 gr _ (by omega)).trans h.rd, h.own.kept hset (.inr h.ne.1), h.ne, hf⟩
theorem CSt.below (h : CSt B gv gr s k u t xs v a bad w0 w) (hb : Below w.heap.size w w') : CSt B gv gr s k u t xs v a bad w0 w' := by
  have hf := h.far
  have l1 := blk_lt h.hv
  refine ⟨h.bel.trans (hb.mono (by omega)), (hb.block gv l1).trans h.hv, h.rd.below hb, ?_, h.ne, hf⟩
  refine h.own.kept (grown_of_below (r := none) hb) ?_
  cases v.ownBlock
  · exact .inl rfl
  · exact .inr (by simp)
theorem cst_res {W : World} (h : CSt (W.heap.size + 1) gv gr s k u t xs v a bad (W.alloc o) w) : w.heap[W.heap.size]? = some o := (h.bel.block W.heap.size (by omega)).trans (blk_new W o)
theorem cst_bel {W : World} (h : CSt (W.heap.size + 1) gv gr s k u t xs v a bad (W.alloc o) w) : Below W.heap.size W w := ((Below.refl W.heap.size W).alloc (Nat.le_refl _) o).trans (h.bel.mono (by omega))
theorem cread_end {fn : Func} {W : World} {o : Option ValD} {A B C D x y z q : Value} {b : Bool} {tmps : Array Value}
    (hf : fn.results = #[.cell 2 39, .tmp 3]) (h : CSt (W.heap.size + 1) gv gr s k u t xs v a bad (W.alloc (.cells #[x, y, z, q] 39)) w) (h2 : tmps.getD 2 undef = .pointer (some ⟨W.heap.size, 0, none⟩)) (h3 : tmps.getD 3 undef = .bool b)
    (hp : Below W.heap.size W (set4 w W.heap.size A B C D) → StrOwn (set4 w W.heap.size A B C D) W.heap.size v xs → ReadPost W o (.returned (.tuple #[.agg #[A, B, C, D], .bool b])) (set4 w W.heap.size A B C D)) :
    bodyPost Try.prog fn (ReadPost W o) .ret ⟨tmps, []⟩ (set4 w W.heap.size A B C D) := by
  obtain ⟨fs, hu⟩ := und_val
  have hg := set4_grown w W.heap.size A B C D
  have hw : W.heap.size ≤ w.heap.size := by
    have := h.bel.size
    simp at this
    omega
  refine bodyPost_ret (v := .tuple #[.agg #[A, B, C, D], .bool b]) ?_ rfl (hp (below_grown (cst_bel h) hg hw (fun k e => by cases e; omega)) ?_)
  · rw [results_row2 hf tmps _ W.heap.size 39 #[A, B, C, D] (0, 0) (.struct fs) h2 (set4_blk (cst_res h)) hu rfl info_val, h3]
  · refine (strOwn_of_row (h.own.kept hg ?_)).mono (Nat.le_succ _)
    cases hv : v.ownBlock with
    | none => exact .inl rfl
    | some g => exact .inr (fun e => by have h1 := (h.own.lt g hv).1; have h2 := Option.some.inj e; omega)
end
abbrev zVal : Obj := .cells #[.int .i64 0, .int .i64 0, .string ⟨#[]⟩, .slice none 0 0] 39
theorem cst_start (s : ByteArray) (w : World) :
    CSt (w.heap.size + 1) (w.heap.size + 1 + 1) (w.heap.size + 1) s 0 0 ⟨#[]⟩ [] (.slice none 0 0) 0 false (w.alloc zVal) (((w.alloc zVal).alloc (.cells #[.string s, .int .i64 0, .bool false] 65)).alloc zVal) := by
  refine ⟨((Below.refl _ _).alloc (by simp) _).alloc (by simp) _, ?_, ?_, World.ownsRow_nil _ _ _ _, by simp [Value.ownBlock], by omega⟩
  · have := blk_new ((w.alloc zVal).alloc (.cells #[.string s, .int .i64 0, .bool false] 65)) zVal
    simpa using this
  · refine blk_alloc_old ?_ _
    have := blk_new (w.alloc zVal) (.cells #[.string s, .int .i64 0, .bool false] 65)
    simpa using this
theorem cShort_len (s : ByteArray) (a : Nat) (b : Bool) : (cShort s a b).1.length ≤ s.size := by
  unfold cShort cTake
  split
  · show ((tail_ s _).take _).length ≤ _
    rw [List.length_take, tail_len]
    omega
  · simp
theorem cuX_small (s : ByteArray) (hs : s.size ≤ 1099511627776) : ∀ x ∈ (cuX s).1, x.size ≤ 9223372036854775807 := itemsBy_all (fun a => by
  show (bs (cShort s a false).1).size ≤ _
  rw [bs_size]
  have := cShort_len s a false
  omega) _ _ _
theorem readValS_bad {s : ByteArray} (h : (cuK s).2.2 = true ∨ (cuX s).2.2 = true ∨ valTextB (cuKind s) ((cuU s).1 : Int) (bs (cuT s).1) (cuX s).1 ≠ some (ub s)) : readValS s = none := by
  unfold readValS
  rw [if_neg]
  rintro ⟨h1, h2, h3⟩
  rcases h with h | h | h
  · rw [h1] at h; cases h
  · rw [h2] at h; cases h
  · exact h h3
theorem readValS_good {s : ByteArray} (h1 : (cuK s).2.2 = false) (h2 : (cuX s).2.2 = false) (h3 : valTextB (cuKind s) ((cuU s).1 : Int) (bs (cuT s).1) (cuX s).1 = some (ub s)) : readValS s = some (cuKind s, ((cuU s).1 : Int), bs (cuT s).1, (cuX s).1) := if_pos ⟨h1, h2, h3⟩
theorem cuK_one {s : ByteArray} (h : (cuK s).2.2 = false) : ∃ d : Nat, (cuK s).1 = [UInt8.ofNat d] ∧ d < 256 ∧ cuKind s = (d : Int) := by
  unfold cuKind
  unfold cuK at h ⊢
  unfold cTake at h ⊢
  split at h
  · rename_i hc
    rw [if_pos hc]
    obtain ⟨d, h1, _, h3, h4⟩ := tail_byte (s := s) (a := 0) (i := 0) (by omega)
    have : (tail_ s 0).take 1 = [UInt8.ofNat d] := by
      match hl : tail_ s 0 with
      | [] => rw [hl] at h3; simp at h3
      | c :: l => rw [hl] at h3; simp at h3; simp [h3]
    refine ⟨d, this, h1, ?_⟩
    show ((((tail_ s 0).take 1).getD 0 0).toNat : Int) = _
    rw [this]
    show ((UInt8.ofNat d).toNat : Int) = _
    rw [h4]
  · cases h
theorem ix_one {d : Nat} (h : d < 256) (h0 : 0 < (bs [UInt8.ofNat d]).size) : ((bs [UInt8.ofNat d])[0]'h0).toNat = d := by
  show (UInt8.ofNat d).toNat = d
  rw [UInt8.toNat_ofNat', Nat.mod_eq_of_lt (by omega)]
theorem readValS_at {s : ByteArray} {d : Nat} {acc : List ByteArray} {a : Nat} (h1 : (cuK s).2.2 = false) (hk : cuKind s = (d : Int)) (hx : cuX s = (acc, a, false)) (h3 : valTextB (d : Int) ((cuU s).1 : Int) (bs (cuT s).1) acc = some (ub s)) : readValS s = some ((d : Int), ((cuU s).1 : Int), bs (cuT s).1, acc) := by
  rw [readValS_good h1 (by rw [hx]) (by rw [hk, hx]; exact h3), hk, hx]
set_option maxHeartbeats 4000000 in
set_option maxRecDepth 100000 in
theorem spec_ReadVal_calls (s : ByteArray) (w : World) (hs : s.size ≤ 1099511627776) : Calls Try.prog 27 #[.string s] w (ReadPost w (readValS s)) := by
  obtain ⟨i0, hi, hz, hsz, hby⟩ := info_parts info_str
  have HC0 := Lib.hid (cst_start s w)
  have a1 : (cuK s).2.1 ≤ s.size := (cTake_le s _ _ (Nat.zero_le _)).1
  have a2 : (cuU s).2.1 ≤ s.size := (rNum_le s _ _ a1).2.1
  have a3 : (cuT s).2.1 ≤ s.size := (cShort_le s _ a2).1
  have a4 : (cuN s).2.1 ≤ s.size := (rNum_le s _ _ a3).2.1
  go_enter Try.func27, Try.ntmps27
  go_wp2_with fail
  go_at_call 56
  refine (spec_Take_calls _ s 0 false 1 _ HC0.out.rd (Nat.zero_le _) (by omega) (by omega)).mono ?_
  rw [show cTake s 0 false 1 = cuK s from rfl]
  rintro e w1 ⟨rfl, hr, hg⟩
  have HC1 := Lib.hid (HC0.out.read hr hg)
  have b2 := hr.c2
  clear hr hg
  cases hb1 : (cuK s).2.2
  rotate_left
  · have HE := Lib.hid (readValS_bad (.inl hb1))
    rw [hb1] at b2
    have z0 : w1.cell? ⟨w.heap.size, 0, none⟩ = some (.int .i64 0) := cell_of_row w1 w.heap.size 0 _ _ (0, 0) (cst_res HC1.out)
    have z1 : w1.cell? ⟨w.heap.size, 1, none⟩ = some (.int .i64 0) := cell_of_row w1 w.heap.size 1 _ _ (0, 0) (cst_res HC1.out)
    have z2 : w1.cell? ⟨w.heap.size, 2, none⟩ = some (.string ⟨#[]⟩) := cell_of_row w1 w.heap.size 2 _ _ (0, 0) (cst_res HC1.out)
    have z3 : w1.cell? ⟨w.heap.size, 3, none⟩ = some (.slice none 0 0) := cell_of_row w1 w.heap.size 3 _ _ (0, 0) (cst_res HC1.out)
    have y0 := frozen_blk (cst_res HC1.out) 0
    have y1 := frozen_blk (cst_res HC1.out) 1
    have y2 := frozen_blk (cst_res HC1.out) 2
    have y3 := frozen_blk (cst_res HC1.out) 3
    have x0 : w1.cell? ⟨w.heap.size + 1 + 1, 0, none⟩ = some (.int .i64 0) := HC1.out.cv 0
    have x1 : w1.cell? ⟨w.heap.size + 1 + 1, 1, none⟩ = some (.int .i64 0) := HC1.out.cv 1
    have x2 : w1.cell? ⟨w.heap.size + 1 + 1, 2, none⟩ = some (.string ⟨#[]⟩) := HC1.out.cv 2
    have x3 : w1.cell? ⟨w.heap.size + 1 + 1, 3, none⟩ = some (.slice none 0 0) := HC1.out.cv 3
    clear hb1
    go_wp2
    exact cread_end (A := .int .i64 0) (B := .int .i64 0) (C := .string ⟨#[]⟩) (D := .slice none 0 0) rfl HC1.out rfl rfl (fun hb _ => ⟨hb, by rw [HE.out]; rfl⟩)
  · obtain ⟨d, hd, hd1, hkind⟩ := cuK_one hb1
    have HB1 := Lib.hid hb1
    have HKD := Lib.hid hkind
    rw [hb1] at b2
    rw [hd]
    have HK1 := Lib.hid hd
    have e0 : w1.cell? ⟨w.heap.size + 1 + 1, 0, none⟩ = some (.int .i64 0) := HC1.out.cv 0
    have f0 := frozen_blk HC1.out.hv 0
    have hix := ix_one hd1
    have hwd : wrap64 (d : Int) = (d : Int) := by unfold wrap64; omega
    clear hb1 hd hkind
    have HC2 := Lib.hid (HC1.out.setK (d : Int))
    go_wp2_with fail
    go_at_call 45
    refine (spec_num_calls _ s _ _ _ HC2.out.rd a1 (by omega)).mono ?_
    rw [show rNum s (cuK s).2.1 (cuK s).2.2 = cuU s from rfl]
    rintro e w2 ⟨rfl, hr, hg⟩
    have HC3 := Lib.hid (HC2.out.read hr hg)
    have e1 : w2.cell? ⟨w.heap.size + 1 + 1, 1, none⟩ = some (.int .i64 0) := HC3.out.cv 1
    have f1 := frozen_blk HC3.out.hv 1
    have HC4 := Lib.hid (HC3.out.setU (cuU s).1)
    clear hr hg
    go_wp2_with fail
    go_at_call 46
    refine (spec_Short_calls _ s _ _ _ HC4.out.rd a2 (by omega)).mono ?_
    rw [show cShort s (cuU s).2.1 (cuU s).2.2 = cuT s from rfl]
    rintro e w3 ⟨rfl, hr, hg⟩
    have HC5 := Lib.hid (HC4.out.read hr hg)
    have e2 : w3.cell? ⟨w.heap.size + 1 + 1, 2, none⟩ = some (.string ⟨#[]⟩) := HC5.out.cv 2
    have f2 := frozen_blk HC5.out.hv 2
    have HC6 := Lib.hid (HC5.out.setT (bs (cuT s).1))
    clear hr hg
    go_wp2_with fail
    go_at_call 45
    refine (spec_num_calls _ s _ _ _ HC6.out.rd a3 (by omega)).mono ?_
    rw [show rNum s (cuT s).2.1 (cuT s).2.2 = cuN s from rfl]
    rintro e w4 ⟨rfl, hr, hg⟩
    have HC8 := Lib.hid (HC6.out.read hr hg)
    clear hr hg
    have HW := Lib.hid (Reads.start (itS s) (min (cuN s).1 100) (cuN s).2.1 (cuN s).2.2)
    have hW : itemsBy (itS s) (min (cuN s).1 100) (cuN s).2.1 (cuN s).2.2 = cuX s := rfl
    rw [hW] at HW
    clear hW
    generalize (cuN s).1 = n at HW ⊢
    go_wp2
    go_loopw [8] (fun iv wr => ∃ (i : Nat) (acc : List ByteArray) (v : Value) (a : Nat) (bad : Bool), i ≤ min n 100 ∧ iv = .int .i64 (i : Int) ∧ acc.length = i ∧ a ≤ s.size ∧ Reads (itS s) (min n 100) (cuX s) i acc a bad ∧ CSt (w.heap.size + 1) (w.heap.size + 1 + 1) (w.heap.size + 1) s d (cuU s).1 (bs (cuT s).1) acc v a bad (w.alloc zVal) wr) (fun iv _ => min n 100 - (intOf iv).toNat)
    case atStart => exact ⟨0, [], .slice none 0 0, (cuN s).2.1, (cuN s).2.2, Nat.zero_le _, rfl, rfl, a4, HW.out, HC8.out⟩
    case round =>
      obtain ⟨i, acc, v, a, bad, hi', rfl, hacc, ha, hrd, hst⟩ := hrel
      have HQ := Lib.hid hrd
      have HC7 := Lib.hid hst
      have HRD : Hid (RdAt 65 wr.drew (w.heap.size + 1) s a bad) := hst.rd
      have c2 := hst.rd.c2
      have c3 := hst.c3
      have hbase : w.heap.size + 1 ≤ wr.heap.size := by have := blk_lt hst.hv; omega
      have hal : acc.length ≤ 100 := by omega
      have HAC := Lib.hid hacc
      clear hrd hst hacc
      by_cases hlt : i < min n 100
      · cases bad
        · have hlt1 : i < n := by omega
          have hlt2 : i < 100 := by omega
          go_wp2
          go_region_law (first | ((refine step_append_lies _ (by rfl) (.tmp 51) (.tmp 54) 37 (by rfl) (w.heap.size + 1) 9 i0 (.string ByteArray.empty) 1 16 Try.underlying37 hi hz hsz hby rfl (by omega) v acc.length (acc.map Value.string) (by simp [Act.eval, Act.put]) HOWN.out _ 1 1 [.string (bs (cShort s a false).1)] (by simp [Act.eval, Act.put]) rfl HNEWS.out (by simp [Value.oneCell']) (by omega) (by unfold maxLen; omega) (by omega) HBASE.out _ rfl ?_); intro g cap w2 hown hgrow hat hlt; have HOWN2 := Lib.hid hown; have HGROW := Lib.hid hgrow; have HAT := Lib.hid hat; have HLT := Lib.hid hlt; clear hown hgrow hat hlt; have f2 := cst_frozen HC7.out HG.out HGROW.out; have c4 := cst_cell HC7.out HG.out HGROW.out) | (go_simp; go_at_call 46; refine (spec_Short_calls _ s a false _ HRD.out ha (by omega)).mono ?_; rintro e w' ⟨rfl, hrd, hg⟩; have HRD2 := Lib.hid hrd; have HG : Hid (wr.grownBy w' (some (w.heap.size + 1))) := ⟨hg.os, hg.tape, hg.output, hg.size, hg.block⟩; clear hrd hg; have c3' := cst_c3 HC7.out HG.out; have c3a := cell_new c3' (.cells #[.string (bs (cShort s a false).1)] 9); have HBASE : Hid (w.heap.size + 1 ≤ (w'.alloc (.cells #[.string (bs (cShort s a false).1)] 9)).heap.size) := vst_base hbase HG.out _; have HOWN : Hid ((w'.alloc (.cells #[.string (bs (cShort s a false).1)] 9)).ownsRow (w.heap.size + 1) 9 1 v acc.length (acc.map Value.string)) := cst_own HC7.out HG.out _; have HNEWS : Hid (∀ j u, [Value.string (bs (cShort s a false).1)][j]? = some u → (w'.alloc (.cells #[.string (bs (cShort s a false).1)] 9)).cell? ((⟨w'.heap.size, 0, none⟩ : Addr).add j) = some u) := World.news_of_block (heap_alloc_new w' _)))
          all_goals
            go_wp2
            go_roundw
            case rel => first | exact ⟨i + 1, acc ++ [bs (cShort s a false).1], _, (cShort s a false).2.1, (cShort s a false).2.2, by omega, by go_num, by rw [List.length_append, HAC.out]; rfl, (cShort_le s false ha).1, HQ.out.step hlt, HC7.out.pushed HRD2.out HG.out HOWN2.out HGROW.out HAT.out⟩ | (repeat (first | (refine ⟨?relx, rfl⟩; exact ⟨i + 1, acc ++ [bs (cShort s a false).1], _, (cShort s a false).2.1, (cShort s a false).2.2, by omega, by go_num, by rw [List.length_append, HAC.out]; rfl, (cShort_le s false ha).1, HQ.out.step hlt, HC7.out.pushed HRD2.out HG.out HOWN2.out HGROW.out HAT.out⟩) | (refine ⟨?relx, ?eqs⟩; (case eqs => (and_intros <;> rfl)); exact ⟨i + 1, acc ++ [bs (cShort s a false).1], _, (cShort s a false).2.1, (cShort s a false).2.2, by omega, by go_num, by rw [List.length_append, HAC.out]; rfl, (cShort_le s false ha).1, HQ.out.step hlt, HC7.out.pushed HRD2.out HG.out HOWN2.out HGROW.out HAT.out⟩) | apply Exists.intro))
            case measure => simp [intOf]; omega
        -- EXITS
        · have hlt1 : i < n := by omega
          have hlt2 : i < 100 := by omega
          have hW := HQ.out.stop (by simp)
          obtain ⟨A, c, rfl, hrow⟩ := (strOwn_of_row HC7.out.own).row (by have := cuX_small s hs; rw [hW] at this; exact this)
          have HRW := Lib.hid hrow
          have HWX := Lib.hid hW
          have x0 : wr.cell? ⟨w.heap.size + 1 + 1, 0, none⟩ = some (.int .i64 (d : Int)) := HC7.out.cv 0
          have x1 : wr.cell? ⟨w.heap.size + 1 + 1, 1, none⟩ = some (.int .i64 ((cuU s).1 : Int)) := HC7.out.cv 1
          have x2 : wr.cell? ⟨w.heap.size + 1 + 1, 2, none⟩ = some (.string (bs (cuT s).1)) := HC7.out.cv 2
          have x3 : wr.cell? ⟨w.heap.size + 1 + 1, 3, none⟩ = some (.slice A acc.length c) := HC7.out.cv 3
          clear hrow hW c3
          cases hvt : valTextB (d : Int) ((cuU s).1 : Int) (bs (cuT s).1) acc
          · have HVT := Lib.hid hvt
            have HE := Lib.hid (readValS_bad (.inr (.inl (by rw [HWX.out]))))
            clear hvt
            go_wp2_with fail
            go_at_call 71
            refine (spec_ValText_calls _ _ _ A c acc _ HRW.out (by rw [bs_size]; have := cShort_len s (cuU s).2.1 (cuU s).2.2; unfold cuT; omega)).mono ?_
            rw [HVT.out]
            rintro e w6 ⟨rfl, hb⟩
            have HC9 := Lib.hid (HC7.out.below hb)
            have cb := HC9.out.rd.c2
            have zz0 : w6.cell? ⟨w.heap.size, 0, none⟩ = some (.int .i64 0) := cell_of_row w6 w.heap.size 0 _ _ (0, 0) (cst_res HC9.out)
            have zz1 : w6.cell? ⟨w.heap.size, 1, none⟩ = some (.int .i64 0) := cell_of_row w6 w.heap.size 1 _ _ (0, 0) (cst_res HC9.out)
            have zz2 : w6.cell? ⟨w.heap.size, 2, none⟩ = some (.string ⟨#[]⟩) := cell_of_row w6 w.heap.size 2 _ _ (0, 0) (cst_res HC9.out)
            have zz3 : w6.cell? ⟨w.heap.size, 3, none⟩ = some (.slice none 0 0) := cell_of_row w6 w.heap.size 3 _ _ (0, 0) (cst_res HC9.out)
            have yy0 := frozen_blk (cst_res HC9.out) 0
            have yy1 := frozen_blk (cst_res HC9.out) 1
            have yy2 := frozen_blk (cst_res HC9.out) 2
            have yy3 := frozen_blk (cst_res HC9.out) 3
            have xx0 : w6.cell? ⟨w.heap.size + 1 + 1, 0, none⟩ = some (.int .i64 (d : Int)) := HC9.out.cv 0
            have xx1 : w6.cell? ⟨w.heap.size + 1 + 1, 1, none⟩ = some (.int .i64 ((cuU s).1 : Int)) := HC9.out.cv 1
            have xx2 : w6.cell? ⟨w.heap.size + 1 + 1, 2, none⟩ = some (.string (bs (cuT s).1)) := HC9.out.cv 2
            have xx3 : w6.cell? ⟨w.heap.size + 1 + 1, 3, none⟩ = some (.slice A acc.length c) := HC9.out.cv 3
            clear hb
            simp only [varRes]
            go_wp2
            exact cread_end (A := .int .i64 0) (B := .int .i64 0) (C := .string ⟨#[]⟩) (D := .slice none 0 0) rfl HC9.out rfl rfl (fun hb _ => ⟨hb, by rw [HE.out]; rfl⟩)
          · rename_i l
            have HVT := Lib.hid hvt
            have HE := Lib.hid (readValS_bad (.inr (.inl (by rw [HWX.out]))))
            clear hvt
            go_wp2_with fail
            go_at_call 71
            refine (spec_ValText_calls _ _ _ A c acc _ HRW.out (by rw [bs_size]; have := cShort_len s (cuU s).2.1 (cuU s).2.2; unfold cuT; omega)).mono ?_
            rw [HVT.out]
            rintro e w6 ⟨rfl, hb⟩
            have HC9 := Lib.hid (HC7.out.below hb)
            have cb := HC9.out.rd.c2
            have zz0 : w6.cell? ⟨w.heap.size, 0, none⟩ = some (.int .i64 0) := cell_of_row w6 w.heap.size 0 _ _ (0, 0) (cst_res HC9.out)
            have zz1 : w6.cell? ⟨w.heap.size, 1, none⟩ = some (.int .i64 0) := cell_of_row w6 w.heap.size 1 _ _ (0, 0) (cst_res HC9.out)
            have zz2 : w6.cell? ⟨w.heap.size, 2, none⟩ = some (.string ⟨#[]⟩) := cell_of_row w6 w.heap.size 2 _ _ (0, 0) (cst_res HC9.out)
            have zz3 : w6.cell? ⟨w.heap.size, 3, none⟩ = some (.slice none 0 0) := cell_of_row w6 w.heap.size 3 _ _ (0, 0) (cst_res HC9.out)
            have yy0 := frozen_blk (cst_res HC9.out) 0
            have yy1 := frozen_blk (cst_res HC9.out) 1
            have yy2 := frozen_blk (cst_res HC9.out) 2
            have yy3 := frozen_blk (cst_res HC9.out) 3
            have xx0 : w6.cell? ⟨w.heap.size + 1 + 1, 0, none⟩ = some (.int .i64 (d : Int)) := HC9.out.cv 0
            have xx1 : w6.cell? ⟨w.heap.size + 1 + 1, 1, none⟩ = some (.int .i64 ((cuU s).1 : Int)) := HC9.out.cv 1
            have xx2 : w6.cell? ⟨w.heap.size + 1 + 1, 2, none⟩ = some (.string (bs (cuT s).1)) := HC9.out.cv 2
            have xx3 : w6.cell? ⟨w.heap.size + 1 + 1, 3, none⟩ = some (.slice A acc.length c) := HC9.out.cv 3
            clear hb
            simp only [varRes]
            go_wp2
            exact cread_end (A := .int .i64 0) (B := .int .i64 0) (C := .string ⟨#[]⟩) (D := .slice none 0 0) rfl HC9.out rfl rfl (fun hb _ => ⟨hb, by rw [HE.out]; rfl⟩)
      · obtain rfl : i = min n 100 := by omega
        by_cases h100 : n ≤ 100
        · have hlt1 : ¬ ((min n 100 : Nat) : Int) < (n : Int) := by omega
          cases bad
          · have hW := HQ.out.stop (by simp)
            obtain ⟨A, c, rfl, hrow⟩ := (strOwn_of_row HC7.out.own).row (by have := cuX_small s hs; rw [hW] at this; exact this)
            have HRW := Lib.hid hrow
            have HWX := Lib.hid hW
            have x0 : wr.cell? ⟨w.heap.size + 1 + 1, 0, none⟩ = some (.int .i64 (d : Int)) := HC7.out.cv 0
            have x1 : wr.cell? ⟨w.heap.size + 1 + 1, 1, none⟩ = some (.int .i64 ((cuU s).1 : Int)) := HC7.out.cv 1
            have x2 : wr.cell? ⟨w.heap.size + 1 + 1, 2, none⟩ = some (.string (bs (cuT s).1)) := HC7.out.cv 2
            have x3 : wr.cell? ⟨w.heap.size + 1 + 1, 3, none⟩ = some (.slice A acc.length c) := HC7.out.cv 3
            clear hrow hW c3
            cases hvt : valTextB (d : Int) ((cuU s).1 : Int) (bs (cuT s).1) acc
            · have HVT := Lib.hid hvt
              have HE := Lib.hid (readValS_bad (s := s) (.inr (.inr (by rw [HKD.out, HWX.out]; show valTextB _ _ _ acc ≠ _; rw [hvt]; simp))))
              clear hvt
              go_wp2_with fail
              go_at_call 71
              refine (spec_ValText_calls _ _ _ A c acc _ HRW.out (by rw [bs_size]; have := cShort_len s (cuU s).2.1 (cuU s).2.2; unfold cuT; omega)).mono ?_
              rw [HVT.out]
              rintro e w6 ⟨rfl, hb⟩
              have HC9 := Lib.hid (HC7.out.below hb)
              have cb := HC9.out.rd.c2
              have zz0 : w6.cell? ⟨w.heap.size, 0, none⟩ = some (.int .i64 0) := cell_of_row w6 w.heap.size 0 _ _ (0, 0) (cst_res HC9.out)
              have zz1 : w6.cell? ⟨w.heap.size, 1, none⟩ = some (.int .i64 0) := cell_of_row w6 w.heap.size 1 _ _ (0, 0) (cst_res HC9.out)
              have zz2 : w6.cell? ⟨w.heap.size, 2, none⟩ = some (.string ⟨#[]⟩) := cell_of_row w6 w.heap.size 2 _ _ (0, 0) (cst_res HC9.out)
              have zz3 : w6.cell? ⟨w.heap.size, 3, none⟩ = some (.slice none 0 0) := cell_of_row w6 w.heap.size 3 _ _ (0, 0) (cst_res HC9.out)
              have yy0 := frozen_blk (cst_res HC9.out) 0
              have yy1 := frozen_blk (cst_res HC9.out) 1
              have yy2 := frozen_blk (cst_res HC9.out) 2
              have yy3 := frozen_blk (cst_res HC9.out) 3
              have xx0 : w6.cell? ⟨w.heap.size + 1 + 1, 0, none⟩ = some (.int .i64 (d : Int)) := HC9.out.cv 0
              have xx1 : w6.cell? ⟨w.heap.size + 1 + 1, 1, none⟩ = some (.int .i64 ((cuU s).1 : Int)) := HC9.out.cv 1
              have xx2 : w6.cell? ⟨w.heap.size + 1 + 1, 2, none⟩ = some (.string (bs (cuT s).1)) := HC9.out.cv 2
              have xx3 : w6.cell? ⟨w.heap.size + 1 + 1, 3, none⟩ = some (.slice A acc.length c) := HC9.out.cv 3
              clear hb
              simp only [varRes]
              go_wp2
              exact cread_end (A := .int .i64 0) (B := .int .i64 0) (C := .string ⟨#[]⟩) (D := .slice none 0 0) rfl HC9.out rfl rfl (fun hb _ => ⟨hb, by rw [HE.out]; rfl⟩)
            · rename_i l
              have HVT := Lib.hid hvt
              by_cases hl : l = ub s
              · have HE : Hid (readValS s = some ((d : Int), ((cuU s).1 : Int), bs (cuT s).1, acc)) := readValS_at HB1.out HKD.out HWX.out (by rw [hvt, hl])
                have hq : ((bs l).toList == s.toList) = true := by rw [hl, bs_ub]; simp
                clear hvt hl
                go_wp2_with fail
                go_at_call 71
                refine (spec_ValText_calls _ _ _ A c acc _ HRW.out (by rw [bs_size]; have := cShort_len s (cuU s).2.1 (cuU s).2.2; unfold cuT; omega)).mono ?_
                rw [HVT.out]
                rintro e w6 ⟨rfl, hb⟩
                have HC9 := Lib.hid (HC7.out.below hb)
                have cb := HC9.out.rd.c2
                have zz0 : w6.cell? ⟨w.heap.size, 0, none⟩ = some (.int .i64 0) := cell_of_row w6 w.heap.size 0 _ _ (0, 0) (cst_res HC9.out)
                have zz1 : w6.cell? ⟨w.heap.size, 1, none⟩ = some (.int .i64 0) := cell_of_row w6 w.heap.size 1 _ _ (0, 0) (cst_res HC9.out)
                have zz2 : w6.cell? ⟨w.heap.size, 2, none⟩ = some (.string ⟨#[]⟩) := cell_of_row w6 w.heap.size 2 _ _ (0, 0) (cst_res HC9.out)
                have zz3 : w6.cell? ⟨w.heap.size, 3, none⟩ = some (.slice none 0 0) := cell_of_row w6 w.heap.size 3 _ _ (0, 0) (cst_res HC9.out)
                have yy0 := frozen_blk (cst_res HC9.out) 0
                have yy1 := frozen_blk (cst_res HC9.out) 1
                have yy2 := frozen_blk (cst_res HC9.out) 2
                have yy3 := frozen_blk (cst_res HC9.out) 3
                have xx0 : w6.cell? ⟨w.heap.size + 1 + 1, 0, none⟩ = some (.int .i64 (d : Int)) := HC9.out.cv 0
                have xx1 : w6.cell? ⟨w.heap.size + 1 + 1, 1, none⟩ = some (.int .i64 ((cuU s).1 : Int)) := HC9.out.cv 1
                have xx2 : w6.cell? ⟨w.heap.size + 1 + 1, 2, none⟩ = some (.string (bs (cuT s).1)) := HC9.out.cv 2
                have xx3 : w6.cell? ⟨w.heap.size + 1 + 1, 3, none⟩ = some (.slice A acc.length c) := HC9.out.cv 3
                clear hb
                simp only [varRes]
                go_wp2
                exact cread_end (A := .int .i64 (d : Int)) (B := .int .i64 ((cuU s).1 : Int)) (C := .string (bs (cuT s).1)) (D := .slice A acc.length c) rfl HC9.out rfl rfl (fun hb ho => ⟨hb, by rw [HE.out]; exact ⟨_, rfl, ho⟩⟩)
              · have HE := Lib.hid (readValS_bad (s := s) (.inr (.inr (by rw [HKD.out, HWX.out]; show valTextB _ _ _ acc ≠ _; rw [hvt]; simpa using hl))))
                have hq : ((bs l).toList == s.toList) = false := beq_eq_false_iff_ne.mpr fun z => hl (by rw [← toList_inj.mp z, ub_bs])
                clear hvt hl
                go_wp2_with fail
                go_at_call 71
                refine (spec_ValText_calls _ _ _ A c acc _ HRW.out (by rw [bs_size]; have := cShort_len s (cuU s).2.1 (cuU s).2.2; unfold cuT; omega)).mono ?_
                rw [HVT.out]
                rintro e w6 ⟨rfl, hb⟩
                have HC9 := Lib.hid (HC7.out.below hb)
                have cb := HC9.out.rd.c2
                have zz0 : w6.cell? ⟨w.heap.size, 0, none⟩ = some (.int .i64 0) := cell_of_row w6 w.heap.size 0 _ _ (0, 0) (cst_res HC9.out)
                have zz1 : w6.cell? ⟨w.heap.size, 1, none⟩ = some (.int .i64 0) := cell_of_row w6 w.heap.size 1 _ _ (0, 0) (cst_res HC9.out)
                have zz2 : w6.cell? ⟨w.heap.size, 2, none⟩ = some (.string ⟨#[]⟩) := cell_of_row w6 w.heap.size 2 _ _ (0, 0) (cst_res HC9.out)
                have zz3 : w6.cell? ⟨w.heap.size, 3, none⟩ = some (.slice none 0 0) := cell_of_row w6 w.heap.size 3 _ _ (0, 0) (cst_res HC9.out)
                have yy0 := frozen_blk (cst_res HC9.out) 0
                have yy1 := frozen_blk (cst_res HC9.out) 1
                have yy2 := frozen_blk (cst_res HC9.out) 2
                have yy3 := frozen_blk (cst_res HC9.out) 3
                have xx0 : w6.cell? ⟨w.heap.size + 1 + 1, 0, none⟩ = some (.int .i64 (d : Int)) := HC9.out.cv 0
                have xx1 : w6.cell? ⟨w.heap.size + 1 + 1, 1, none⟩ = some (.int .i64 ((cuU s).1 : Int)) := HC9.out.cv 1
                have xx2 : w6.cell? ⟨w.heap.size + 1 + 1, 2, none⟩ = some (.string (bs (cuT s).1)) := HC9.out.cv 2
                have xx3 : w6.cell? ⟨w.heap.size + 1 + 1, 3, none⟩ = some (.slice A acc.length c) := HC9.out.cv 3
                clear hb
                simp only [varRes]
                go_wp2
                exact cread_end (A := .int .i64 0) (B := .int .i64 0) (C := .string ⟨#[]⟩) (D := .slice none 0 0) rfl HC9.out rfl rfl (fun hb _ => ⟨hb, by rw [HE.out]; rfl⟩)
          · have hW := HQ.out.stop (by simp)
            obtain ⟨A, c, rfl, hrow⟩ := (strOwn_of_row HC7.out.own).row (by have := cuX_small s hs; rw [hW] at this; exact this)
            have HRW := Lib.hid hrow
            have HWX := Lib.hid hW
            have x0 : wr.cell? ⟨w.heap.size + 1 + 1, 0, none⟩ = some (.int .i64 (d : Int)) := HC7.out.cv 0
            have x1 : wr.cell? ⟨w.heap.size + 1 + 1, 1, none⟩ = some (.int .i64 ((cuU s).1 : Int)) := HC7.out.cv 1
            have x2 : wr.cell? ⟨w.heap.size + 1 + 1, 2, none⟩ = some (.string (bs (cuT s).1)) := HC7.out.cv 2
            have x3 : wr.cell? ⟨w.heap.size + 1 + 1, 3, none⟩ = some (.slice A acc.length c) := HC7.out.cv 3
            clear hrow hW c3
            cases hvt : valTextB (d : Int) ((cuU s).1 : Int) (bs (cuT s).1) acc
            · have HVT := Lib.hid hvt
              have HE := Lib.hid (readValS_bad (.inr (.inl (by rw [HWX.out]))))
              clear hvt
              go_wp2_with fail
              go_at_call 71
              refine (spec_ValText_calls _ _ _ A c acc _ HRW.out (by rw [bs_size]; have := cShort_len s (cuU s).2.1 (cuU s).2.2; unfold cuT; omega)).mono ?_
              rw [HVT.out]
              rintro e w6 ⟨rfl, hb⟩
              have HC9 := Lib.hid (HC7.out.below hb)
              have cb := HC9.out.rd.c2
              have zz0 : w6.cell? ⟨w.heap.size, 0, none⟩ = some (.int .i64 0) := cell_of_row w6 w.heap.size 0 _ _ (0, 0) (cst_res HC9.out)
              have zz1 : w6.cell? ⟨w.heap.size, 1, none⟩ = some (.int .i64 0) := cell_of_row w6 w.heap.size 1 _ _ (0, 0) (cst_res HC9.out)
              have zz2 : w6.cell? ⟨w.heap.size, 2, none⟩ = some (.string ⟨#[]⟩) := cell_of_row w6 w.heap.size 2 _ _ (0, 0) (cst_res HC9.out)
              have zz3 : w6.cell? ⟨w.heap.size, 3, none⟩ = some (.slice none 0 0) := cell_of_row w6 w.heap.size 3 _ _ (0, 0) (cst_res HC9.out)
              have yy0 := frozen_blk (cst_res HC9.out) 0
              have yy1 := frozen_blk (cst_res HC9.out) 1
              have yy2 := frozen_blk (cst_res HC9.out) 2
              have yy3 := frozen_blk (cst_res HC9.out) 3
              have xx0 : w6.cell? ⟨w.heap.size + 1 + 1, 0, none⟩ = some (.int .i64 (d : Int)) := HC9.out.cv 0
              have xx1 : w6.cell? ⟨w.heap.size + 1 + 1, 1, none⟩ = some (.int .i64 ((cuU s).1 : Int)) := HC9.out.cv 1
              have xx2 : w6.cell? ⟨w.heap.size + 1 + 1, 2, none⟩ = some (.string (bs (cuT s).1)) := HC9.out.cv 2
              have xx3 : w6.cell? ⟨w.heap.size + 1 + 1, 3, none⟩ = some (.slice A acc.length c) := HC9.out.cv 3
              clear hb
              simp only [varRes]
              go_wp2
              exact cread_end (A := .int .i64 0) (B := .int .i64 0) (C := .string ⟨#[]⟩) (D := .slice none 0 0) rfl HC9.out rfl rfl (fun hb _ => ⟨hb, by rw [HE.out]; rfl⟩)
            · rename_i l
              have HVT := Lib.hid hvt
              have HE := Lib.hid (readValS_bad (.inr (.inl (by rw [HWX.out]))))
              clear hvt
              go_wp2_with fail
              go_at_call 71
              refine (spec_ValText_calls _ _ _ A c acc _ HRW.out (by rw [bs_size]; have := cShort_len s (cuU s).2.1 (cuU s).2.2; unfold cuT; omega)).mono ?_
              rw [HVT.out]
              rintro e w6 ⟨rfl, hb⟩
              have HC9 := Lib.hid (HC7.out.below hb)
              have cb := HC9.out.rd.c2
              have zz0 : w6.cell? ⟨w.heap.size, 0, none⟩ = some (.int .i64 0) := cell_of_row w6 w.heap.size 0 _ _ (0, 0) (cst_res HC9.out)
              have zz1 : w6.cell? ⟨w.heap.size, 1, none⟩ = some (.int .i64 0) := cell_of_row w6 w.heap.size 1 _ _ (0, 0) (cst_res HC9.out)
              have zz2 : w6.cell? ⟨w.heap.size, 2, none⟩ = some (.string ⟨#[]⟩) := cell_of_row w6 w.heap.size 2 _ _ (0, 0) (cst_res HC9.out)
              have zz3 : w6.cell? ⟨w.heap.size, 3, none⟩ = some (.slice none 0 0) := cell_of_row w6 w.heap.size 3 _ _ (0, 0) (cst_res HC9.out)
              have yy0 := frozen_blk (cst_res HC9.out) 0
              have yy1 := frozen_blk (cst_res HC9.out) 1
              have yy2 := frozen_blk (cst_res HC9.out) 2
              have yy3 := frozen_blk (cst_res HC9.out) 3
              have xx0 : w6.cell? ⟨w.heap.size + 1 + 1, 0, none⟩ = some (.int .i64 (d : Int)) := HC9.out.cv 0
              have xx1 : w6.cell? ⟨w.heap.size + 1 + 1, 1, none⟩ = some (.int .i64 ((cuU s).1 : Int)) := HC9.out.cv 1
              have xx2 : w6.cell? ⟨w.heap.size + 1 + 1, 2, none⟩ = some (.string (bs (cuT s).1)) := HC9.out.cv 2
              have xx3 : w6.cell? ⟨w.heap.size + 1 + 1, 3, none⟩ = some (.slice A acc.length c) := HC9.out.cv 3
              clear hb
              simp only [varRes]
              go_wp2
              exact cread_end (A := .int .i64 0) (B := .int .i64 0) (C := .string ⟨#[]⟩) (D := .slice none 0 0) rfl HC9.out rfl rfl (fun hb _ => ⟨hb, by rw [HE.out]; rfl⟩)
        · have hlt2 : ¬ ((min n 100 : Nat) : Int) < 100 := by omega
          have hlt2 : ¬ ((min n 100 : Nat) : Int) < 100 := by omega
          cases bad
          · have hW := HQ.out.stop (by simp)
            obtain ⟨A, c, rfl, hrow⟩ := (strOwn_of_row HC7.out.own).row (by have := cuX_small s hs; rw [hW] at this; exact this)
            have HRW := Lib.hid hrow
            have HWX := Lib.hid hW
            have x0 : wr.cell? ⟨w.heap.size + 1 + 1, 0, none⟩ = some (.int .i64 (d : Int)) := HC7.out.cv 0
            have x1 : wr.cell? ⟨w.heap.size + 1 + 1, 1, none⟩ = some (.int .i64 ((cuU s).1 : Int)) := HC7.out.cv 1
            have x2 : wr.cell? ⟨w.heap.size + 1 + 1, 2, none⟩ = some (.string (bs (cuT s).1)) := HC7.out.cv 2
            have x3 : wr.cell? ⟨w.heap.size + 1 + 1, 3, none⟩ = some (.slice A acc.length c) := HC7.out.cv 3
            clear hrow hW c3
            cases hvt : valTextB (d : Int) ((cuU s).1 : Int) (bs (cuT s).1) acc
            · have HVT := Lib.hid hvt
              have HE := Lib.hid (readValS_bad (s := s) (.inr (.inr (by rw [HKD.out, HWX.out]; show valTextB _ _ _ acc ≠ _; rw [hvt]; simp))))
              clear hvt
              go_wp2_with fail
              go_at_call 71
              refine (spec_ValText_calls _ _ _ A c acc _ HRW.out (by rw [bs_size]; have := cShort_len s (cuU s).2.1 (cuU s).2.2; unfold cuT; omega)).mono ?_
              rw [HVT.out]
              rintro e w6 ⟨rfl, hb⟩
              have HC9 := Lib.hid (HC7.out.below hb)
              have cb := HC9.out.rd.c2
              have zz0 : w6.cell? ⟨w.heap.size, 0, none⟩ = some (.int .i64 0) := cell_of_row w6 w.heap.size 0 _ _ (0, 0) (cst_res HC9.out)
              have zz1 : w6.cell? ⟨w.heap.size, 1, none⟩ = some (.int .i64 0) := cell_of_row w6 w.heap.size 1 _ _ (0, 0) (cst_res HC9.out)
              have zz2 : w6.cell? ⟨w.heap.size, 2, none⟩ = some (.string ⟨#[]⟩) := cell_of_row w6 w.heap.size 2 _ _ (0, 0) (cst_res HC9.out)
              have zz3 : w6.cell? ⟨w.heap.size, 3, none⟩ = some (.slice none 0 0) := cell_of_row w6 w.heap.size 3 _ _ (0, 0) (cst_res HC9.out)
              have yy0 := frozen_blk (cst_res HC9.out) 0
              have yy1 := frozen_blk (cst_res HC9.out) 1
              have yy2 := frozen_blk (cst_res HC9.out) 2
              have yy3 := frozen_blk (cst_res HC9.out) 3
              have xx0 : w6.cell? ⟨w.heap.size + 1 + 1, 0, none⟩ = some (.int .i64 (d : Int)) := HC9.out.cv 0
              have xx1 : w6.cell? ⟨w.heap.size + 1 + 1, 1, none⟩ = some (.int .i64 ((cuU s).1 : Int)) := HC9.out.cv 1
              have xx2 : w6.cell? ⟨w.heap.size + 1 + 1, 2, none⟩ = some (.string (bs (cuT s).1)) := HC9.out.cv 2
              have xx3 : w6.cell? ⟨w.heap.size + 1 + 1, 3, none⟩ = some (.slice A acc.length c) := HC9.out.cv 3
              clear hb
              simp only [varRes]
              go_wp2
              exact cread_end (A := .int .i64 0) (B := .int .i64 0) (C := .string ⟨#[]⟩) (D := .slice none 0 0) rfl HC9.out rfl rfl (fun hb _ => ⟨hb, by rw [HE.out]; rfl⟩)
            · rename_i l
              have HVT := Lib.hid hvt
              by_cases hl : l = ub s
              · have HE : Hid (readValS s = some ((d : Int), ((cuU s).1 : Int), bs (cuT s).1, acc)) := readValS_at HB1.out HKD.out HWX.out (by rw [hvt, hl])
                have hq : ((bs l).toList == s.toList) = true := by rw [hl, bs_ub]; simp
                clear hvt hl
                go_wp2_with fail
                go_at_call 71
                refine (spec_ValText_calls _ _ _ A c acc _ HRW.out (by rw [bs_size]; have := cShort_len s (cuU s).2.1 (cuU s).2.2; unfold cuT; omega)).mono ?_
                rw [HVT.out]
                rintro e w6 ⟨rfl, hb⟩
                have HC9 := Lib.hid (HC7.out.below hb)
                have cb := HC9.out.rd.c2
                have zz0 : w6.cell? ⟨w.heap.size, 0, none⟩ = some (.int .i64 0) := cell_of_row w6 w.heap.size 0 _ _ (0, 0) (cst_res HC9.out)
                have zz1 : w6.cell? ⟨w.heap.size, 1, none⟩ = some (.int .i64 0) := cell_of_row w6 w.heap.size 1 _ _ (0, 0) (cst_res HC9.out)
                have zz2 : w6.cell? ⟨w.heap.size, 2, none⟩ = some (.string ⟨#[]⟩) := cell_of_row w6 w.heap.size 2 _ _ (0, 0) (cst_res HC9.out)
                have zz3 : w6.cell? ⟨w.heap.size, 3, none⟩ = some (.slice none 0 0) := cell_of_row w6 w.heap.size 3 _ _ (0, 0) (cst_res HC9.out)
                have yy0 := frozen_blk (cst_res HC9.out) 0
                have yy1 := frozen_blk (cst_res HC9.out) 1
                have yy2 := frozen_blk (cst_res HC9.out) 2
                have yy3 := frozen_blk (cst_res HC9.out) 3
                have xx0 : w6.cell? ⟨w.heap.size + 1 + 1, 0, none⟩ = some (.int .i64 (d : Int)) := HC9.out.cv 0
                have xx1 : w6.cell? ⟨w.heap.size + 1 + 1, 1, none⟩ = some (.int .i64 ((cuU s).1 : Int)) := HC9.out.cv 1
                have xx2 : w6.cell? ⟨w.heap.size + 1 + 1, 2, none⟩ = some (.string (bs (cuT s).1)) := HC9.out.cv 2
                have xx3 : w6.cell? ⟨w.heap.size + 1 + 1, 3, none⟩ = some (.slice A acc.length c) := HC9.out.cv 3
                clear hb
                simp only [varRes]
                go_wp2
                exact cread_end (A := .int .i64 (d : Int)) (B := .int .i64 ((cuU s).1 : Int)) (C := .string (bs (cuT s).1)) (D := .slice A acc.length c) rfl HC9.out rfl rfl (fun hb ho => ⟨hb, by rw [HE.out]; exact ⟨_, rfl, ho⟩⟩)
              · have HE := Lib.hid (readValS_bad (s := s) (.inr (.inr (by rw [HKD.out, HWX.out]; show valTextB _ _ _ acc ≠ _; rw [hvt]; simpa using hl))))
                have hq : ((bs l).toList == s.toList) = false := beq_eq_false_iff_ne.mpr fun z => hl (by rw [← toList_inj.mp z, ub_bs])
                clear hvt hl
                go_wp2_with fail
                go_at_call 71
                refine (spec_ValText_calls _ _ _ A c acc _ HRW.out (by rw [bs_size]; have := cShort_len s (cuU s).2.1 (cuU s).2.2; unfold cuT; omega)).mono ?_
                rw [HVT.out]
                rintro e w6 ⟨rfl, hb⟩
                have HC9 := Lib.hid (HC7.out.below hb)
                have cb := HC9.out.rd.c2
                have zz0 : w6.cell? ⟨w.heap.size, 0, none⟩ = some (.int .i64 0) := cell_of_row w6 w.heap.size 0 _ _ (0, 0) (cst_res HC9.out)
                have zz1 : w6.cell? ⟨w.heap.size, 1, none⟩ = some (.int .i64 0) := cell_of_row w6 w.heap.size 1 _ _ (0, 0) (cst_res HC9.out)
                have zz2 : w6.cell? ⟨w.heap.size, 2, none⟩ = some (.string ⟨#[]⟩) := cell_of_row w6 w.heap.size 2 _ _ (0, 0) (cst_res HC9.out)
                have zz3 : w6.cell? ⟨w.heap.size, 3, none⟩ = some (.slice none 0 0) := cell_of_row w6 w.heap.size 3 _ _ (0, 0) (cst_res HC9.out)
                have yy0 := frozen_blk (cst_res HC9.out) 0
                have yy1 := frozen_blk (cst_res HC9.out) 1
                have yy2 := frozen_blk (cst_res HC9.out) 2
                have yy3 := frozen_blk (cst_res HC9.out) 3
                have xx0 : w6.cell? ⟨w.heap.size + 1 + 1, 0, none⟩ = some (.int .i64 (d : Int)) := HC9.out.cv 0
                have xx1 : w6.cell? ⟨w.heap.size + 1 + 1, 1, none⟩ = some (.int .i64 ((cuU s).1 : Int)) := HC9.out.cv 1
                have xx2 : w6.cell? ⟨w.heap.size + 1 + 1, 2, none⟩ = some (.string (bs (cuT s).1)) := HC9.out.cv 2
                have xx3 : w6.cell? ⟨w.heap.size + 1 + 1, 3, none⟩ = some (.slice A acc.length c) := HC9.out.cv 3
                clear hb
                simp only [varRes]
                go_wp2
                exact cread_end (A := .int .i64 0) (B := .int .i64 0) (C := .string ⟨#[]⟩) (D := .slice none 0 0) rfl HC9.out rfl rfl (fun hb _ => ⟨hb, by rw [HE.out]; rfl⟩)
          · have hW := HQ.out.stop (by simp)
            obtain ⟨A, c, rfl, hrow⟩ := (strOwn_of_row HC7.out.own).row (by have := cuX_small s hs; rw [hW] at this; exact this)
            have HRW := Lib.hid hrow
            have HWX := Lib.hid hW
            have x0 : wr.cell? ⟨w.heap.size + 1 + 1, 0, none⟩ = some (.int .i64 (d : Int)) := HC7.out.cv 0
            have x1 : wr.cell? ⟨w.heap.size + 1 + 1, 1, none⟩ = some (.int .i64 ((cuU s).1 : Int)) := HC7.out.cv 1
            have x2 : wr.cell? ⟨w.heap.size + 1 + 1, 2, none⟩ = some (.string (bs (cuT s).1)) := HC7.out.cv 2
            have x3 : wr.cell? ⟨w.heap.size + 1 + 1, 3, none⟩ = some (.slice A acc.length c) := HC7.out.cv 3
            clear hrow hW c3
            cases hvt : valTextB (d : Int) ((cuU s).1 : Int) (bs (cuT s).1) acc
            · have HVT := Lib.hid hvt
              have HE := Lib.hid (readValS_bad (.inr (.inl (by rw [HWX.out]))))
              clear hvt
              go_wp2_with fail
              go_at_call 71
              refine (spec_ValText_calls _ _ _ A c acc _ HRW.out (by rw [bs_size]; have := cShort_len s (cuU s).2.1 (cuU s).2.2; unfold cuT; omega)).mono ?_
              rw [HVT.out]
              rintro e w6 ⟨rfl, hb⟩
              have HC9 := Lib.hid (HC7.out.below hb)
              have cb := HC9.out.rd.c2
              have zz0 : w6.cell? ⟨w.heap.size, 0, none⟩ = some (.int .i64 0) := cell_of_row w6 w.heap.size 0 _ _ (0, 0) (cst_res HC9.out)
              have zz1 : w6.cell? ⟨w.heap.size, 1, none⟩ = some (.int .i64 0) := cell_of_row w6 w.heap.size 1 _ _ (0, 0) (cst_res HC9.out)
              have zz2 : w6.cell? ⟨w.heap.size, 2, none⟩ = some (.string ⟨#[]⟩) := cell_of_row w6 w.heap.size 2 _ _ (0, 0) (cst_res HC9.out)
              have zz3 : w6.cell? ⟨w.heap.size, 3, none⟩ = some (.slice none 0 0) := cell_of_row w6 w.heap.size 3 _ _ (0, 0) (cst_res HC9.out)
              have yy0 := frozen_blk (cst_res HC9.out) 0
              have yy1 := frozen_blk (cst_res HC9.out) 1
              have yy2 := frozen_blk (cst_res HC9.out) 2
              have yy3 := frozen_blk (cst_res HC9.out) 3
              have xx0 : w6.cell? ⟨w.heap.size + 1 + 1, 0, none⟩ = some (.int .i64 (d : Int)) := HC9.out.cv 0
              have xx1 : w6.cell? ⟨w.heap.size + 1 + 1, 1, none⟩ = some (.int .i64 ((cuU s).1 : Int)) := HC9.out.cv 1
              have xx2 : w6.cell? ⟨w.heap.size + 1 + 1, 2, none⟩ = some (.string (bs (cuT s).1)) := HC9.out.cv 2
              have xx3 : w6.cell? ⟨w.heap.size + 1 + 1, 3, none⟩ = some (.slice A acc.length c) := HC9.out.cv 3
              clear hb
              simp only [varRes]
              go_wp2
              exact cread_end (A := .int .i64 0) (B := .int .i64 0) (C := .string ⟨#[]⟩) (D := .slice none 0 0) rfl HC9.out rfl rfl (fun hb _ => ⟨hb, by rw [HE.out]; rfl⟩)
            · rename_i l
              have HVT := Lib.hid hvt
              have HE := Lib.hid (readValS_bad (.inr (.inl (by rw [HWX.out]))))
              clear hvt
              go_wp2_with fail
              go_at_call 71
              refine (spec_ValText_calls _ _ _ A c acc _ HRW.out (by rw [bs_size]; have := cShort_len s (cuU s).2.1 (cuU s).2.2; unfold cuT; omega)).mono ?_
              rw [HVT.out]
              rintro e w6 ⟨rfl, hb⟩
              have HC9 := Lib.hid (HC7.out.below hb)
              have cb := HC9.out.rd.c2
              have zz0 : w6.cell? ⟨w.heap.size, 0, none⟩ = some (.int .i64 0) := cell_of_row w6 w.heap.size 0 _ _ (0, 0) (cst_res HC9.out)
              have zz1 : w6.cell? ⟨w.heap.size, 1, none⟩ = some (.int .i64 0) := cell_of_row w6 w.heap.size 1 _ _ (0, 0) (cst_res HC9.out)
              have zz2 : w6.cell? ⟨w.heap.size, 2, none⟩ = some (.string ⟨#[]⟩) := cell_of_row w6 w.heap.size 2 _ _ (0, 0) (cst_res HC9.out)
              have zz3 : w6.cell? ⟨w.heap.size, 3, none⟩ = some (.slice none 0 0) := cell_of_row w6 w.heap.size 3 _ _ (0, 0) (cst_res HC9.out)
              have yy0 := frozen_blk (cst_res HC9.out) 0
              have yy1 := frozen_blk (cst_res HC9.out) 1
              have yy2 := frozen_blk (cst_res HC9.out) 2
              have yy3 := frozen_blk (cst_res HC9.out) 3
              have xx0 : w6.cell? ⟨w.heap.size + 1 + 1, 0, none⟩ = some (.int .i64 (d : Int)) := HC9.out.cv 0
              have xx1 : w6.cell? ⟨w.heap.size + 1 + 1, 1, none⟩ = some (.int .i64 ((cuU s).1 : Int)) := HC9.out.cv 1
              have xx2 : w6.cell? ⟨w.heap.size + 1 + 1, 2, none⟩ = some (.string (bs (cuT s).1)) := HC9.out.cv 2
              have xx3 : w6.cell? ⟨w.heap.size + 1 + 1, 3, none⟩ = some (.slice A acc.length c) := HC9.out.cv 3
              clear hb
              simp only [varRes]
              go_wp2
              exact cread_end (A := .int .i64 0) (B := .int .i64 0) (C := .string ⟨#[]⟩) (D := .slice none 0 0) rfl HC9.out rfl rfl (fun hb _ => ⟨hb, by rw [HE.out]; rfl⟩)
end Go.Proofs.Ytekhfplbhcfdmaa
