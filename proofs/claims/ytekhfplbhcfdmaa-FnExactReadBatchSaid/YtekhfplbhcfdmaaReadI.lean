/- The program's ReadVal: what it reads (readValI), and in what memory. -/
import Derived.Test.YtekhfplbhcfdmaaEach
import Derived.Laws.ResultCell
namespace Go.Proofs.Ytekhfplbhcfdmaa
set_option linter.unusedVariables false
set_option linter.unusedSimpArgs false
open Go.RowKit
attribute [local go_sem] bs_size List.length_cons List.length_nil List.length_append

/-- What ReadVal leaves. -/
def ReadPost (w : World) (o : Option ValD) (e : Ending) (w' : World) : Prop := Below w.heap.size w w' ∧ match o with
  | none => e = .returned (.tuple #[vVal 0 0 ⟨#[]⟩ (.slice none 0 0), .bool false])
  | some (k, u, t, xs) => ∃ v, e = .returned (.tuple #[vVal k u t v, .bool true]) ∧ StrOwn w' w.heap.size v xs
theorem rText_len (s : ByteArray) (a : Nat) (b : Bool) : (rText s a b).1.length ≤ 20000 := by
  by_cases hc : b = true ∨ readShort (tail_ s a) = none
  · rw [rText_no s a hc]; simp
  · have hb : b = false := by cases b <;> simp_all
    subst hb
    cases hv : readShort (tail_ s a) with
    | none => exact (hc (.inr hv)).elim
    | some pk =>
      obtain ⟨y, m⟩ := pk
      rw [rText_yes hv]
      exact (readShort_took hv).2.1
theorem itemsBy_all {α : Type} {f : Nat → α × Nat × Bool} {P : α → Prop} (hf : ∀ a, P (f a).1) : ∀ (n a : Nat) (b : Bool), ∀ x ∈ (itemsBy f n a b).1, P x
  | 0, _, _, x, hx => by simp [itemsBy] at hx
  | _ + 1, _, true, x, hx => by simp [itemsBy] at hx
  | n + 1, a, false, x, hx => by
    simp only [itemsBy, List.mem_cons] at hx
    rcases hx with rfl | hx
    · exact hf a
    · exact itemsBy_all hf n _ _ x hx
theorem itemsBy_le {α : Type} {f : Nat → α × Nat × Bool} {m : Nat} (hf : ∀ a, a ≤ m → (f a).2.1 ≤ m) : ∀ (n a : Nat) (b : Bool), a ≤ m → (itemsBy f n a b).2.1 ≤ m
  | 0, _, _, h => h
  | _ + 1, _, true, h => h
  | n + 1, a, false, h => itemsBy_le hf n _ _ (hf a h)
theorem rdX_small (s : ByteArray) : ∀ x ∈ (rdX s).1, x.size ≤ 9223372036854775807 := itemsBy_all (fun a => by
  show (bs (rText s a false).1).size ≤ _
  rw [bs_size]
  have := rText_len s a false
  omega) _ _ _
theorem blk_alloc_old {w : World} {g : Nat} {x : Obj} (h : w.heap[g]? = some x) (o : Obj) : (w.alloc o).heap[g]? = some x := (heap_alloc_old w o (blk_lt h)).trans h
theorem VSt.setU {B gp gv gr : Nat} {s : ByteArray} {k u : Int} {t : ByteArray} {xs : List ByteArray} {v : Value} {a : Nat} {bad : Bool} {w0 w : World} (h : VSt B gp gv gr s k u t xs v a bad w0 w) (u' : Int) : VSt B gp gv gr s k u' t xs v a bad w0 (w.setCell ⟨gv, 1, none⟩ (.int .i64 u')) := by
  have hf := h.far
  have hset : w.grownBy (w.setCell ⟨gv, 1, none⟩ (.int .i64 u')) (some gv) := grown_set (World.grownBy.refl w _) 1 _
  have l1 := blk_lt h.hv
  refine ⟨below_grown h.bel hset (by omega) (fun k e => by cases e; omega), (heap_set_ne w gv 1 gp _ (by omega)).trans h.hp, by rw [blk_set h.hv]; rfl, (heap_set_ne w gv 1 gr _ (by omega)).trans h.rd, h.own.kept hset (.inr h.ne.2.1), h.ne, hf⟩
theorem VSt.setT {B gp gv gr : Nat} {s : ByteArray} {k u : Int} {t : ByteArray} {xs : List ByteArray} {v : Value} {a : Nat} {bad : Bool} {w0 w : World} (h : VSt B gp gv gr s k u t xs v a bad w0 w) (t' : ByteArray) : VSt B gp gv gr s k u t' xs v a bad w0 (w.setCell ⟨gv, 2, none⟩ (.string t')) := by
  have hf := h.far
  have hset : w.grownBy (w.setCell ⟨gv, 2, none⟩ (.string t')) (some gv) := grown_set (World.grownBy.refl w _) 2 _
  have l1 := blk_lt h.hv
  refine ⟨below_grown h.bel hset (by omega) (fun k e => by cases e; omega), (heap_set_ne w gv 2 gp _ (by omega)).trans h.hp, by rw [blk_set h.hv]; rfl, (heap_set_ne w gv 2 gr _ (by omega)).trans h.rd, h.own.kept hset (.inr h.ne.2.1), h.ne, hf⟩
theorem VSt.cv {B gp gv gr : Nat} {s : ByteArray} {k u : Int} {t : ByteArray} {xs : List ByteArray} {v : Value} {a : Nat} {bad : Bool} {w0 w : World} (h : VSt B gp gv gr s k u t xs v a bad w0 w) (j : Nat) : w.cell? ⟨gv, j, none⟩ = (#[.int .i64 k, .int .i64 u, .string t, v] : Array Value)[j]? := by
  rw [cell_of_row w gv j _ _ (0, 0) h.hv]
theorem vst_start (s : ByteArray) (w w1 : World) (a1 : Nat) (b1 : Bool) (k : Int) (hr : RdAt 70 w1 (w.heap.size + 1) s a1 b1)
    (hg : (((w.alloc (.cells #[.int .i64 0, .int .i64 0, .string ⟨#[]⟩, .slice none 0 0] 39)).alloc (.cells #[.string s, .int .i64 0, .bool false] 70)).alloc (.cells #[.pointer (some ⟨w.heap.size + 1, 0, none⟩)] 68)).grownBy w1 (some (w.heap.size + 1))) :
    VSt (w.heap.size + 1) (w.heap.size + 1 + 1) w1.heap.size (w.heap.size + 1) s k 0 ⟨#[]⟩ [] (.slice none 0 0) a1 b1 (w.alloc (.cells #[.int .i64 0, .int .i64 0, .string ⟨#[]⟩, .slice none 0 0] 39)) (w1.alloc (.cells #[.int .i64 k, .int .i64 0, .string ⟨#[]⟩, .slice none 0 0] 39)) := by
  have hs := hg.size
  simp at hs
  have hb : Below (w.heap.size + 1) (w.alloc (.cells #[.int .i64 0, .int .i64 0, .string ⟨#[]⟩, .slice none 0 0] 39)) (((w.alloc (.cells #[.int .i64 0, .int .i64 0, .string ⟨#[]⟩, .slice none 0 0] 39)).alloc (.cells #[.string s, .int .i64 0, .bool false] 70)).alloc (.cells #[.pointer (some ⟨w.heap.size + 1, 0, none⟩)] 68)) :=
    ((Below.refl _ _).alloc (by simp) _).alloc (by simp) _
  refine ⟨(below_grown hb hg (by simp) (fun k e => by cases e; omega)).alloc (by omega) _, ?_, blk_new w1 _, blk_alloc_old hr _, World.ownsRow_nil _ _ _ _, by simp [Value.ownBlock], by omega⟩
  refine blk_alloc_old ?_ _
  rw [hg.block (w.heap.size + 1 + 1) (by simp) (by simp)]
  have := blk_new ((w.alloc (.cells #[.int .i64 0, .int .i64 0, .string ⟨#[]⟩, .slice none 0 0] 39)).alloc (.cells #[.string s, .int .i64 0, .bool false] 70)) (.cells #[.pointer (some ⟨w.heap.size + 1, 0, none⟩)] 68)
  simpa using this
theorem VSt.below {B gp gv gr : Nat} {s : ByteArray} {k u : Int} {t : ByteArray} {xs : List ByteArray} {v : Value} {a : Nat} {bad : Bool} {w0 w w' : World} (h : VSt B gp gv gr s k u t xs v a bad w0 w) (hb : Below w.heap.size w w') : VSt B gp gv gr s k u t xs v a bad w0 w' := by
  have hf := h.far
  have l1 := blk_lt h.hv
  have l2 : gp < w.heap.size := blk_lt h.hp
  refine ⟨h.bel.trans (hb.mono (by omega)), (hb.block gp l2).trans h.hp, (hb.block gv l1).trans h.hv, h.rd.below hb, ?_, h.ne, hf⟩
  refine h.own.kept (grown_of_below (r := none) hb) ?_
  cases v.ownBlock
  · exact .inl rfl
  · exact .inr (by simp)
theorem vst_res {gp gv gr : Nat} {s : ByteArray} {k u : Int} {t : ByteArray} {xs : List ByteArray} {v : Value} {a : Nat} {bad : Bool} {W w : World} {o : Obj} (h : VSt (W.heap.size + 1) gp gv gr s k u t xs v a bad (W.alloc o) w) : w.heap[W.heap.size]? = some o := (h.bel.block W.heap.size (by omega)).trans (blk_new W o)
theorem vst_bel {gp gv gr : Nat} {s : ByteArray} {k u : Int} {t : ByteArray} {xs : List ByteArray} {v : Value} {a : Nat} {bad : Bool} {W w : World} {o : Obj} (h : VSt (W.heap.size + 1) gp gv gr s k u t xs v a bad (W.alloc o) w) : Below W.heap.size W w := ((Below.refl W.heap.size W).alloc (Nat.le_refl _) o).trans (h.bel.mono (by omega))
theorem results_row2 {P : Program} {fn : Func} {p u : Tmp} {ty : TypeId} (h : fn.results = #[.cell p ty, .tmp u]) (tmps : Array Value) (w : World) (g : Nat) (t : TypeId) (cs : Array Value) (fr : Nat × Nat) (d : TypeDesc) (hp : tmps.getD p undef = .pointer (some ⟨g, 0, none⟩)) (hg : w.heap[g]? = some (.cells cs t fr))
    (hu : P.underlying ty = some d) (hd : (match d with | .struct _ | .array _ _ => true | _ => false) = true) (hi : (P.info? ty).map (·.size) = some cs.size) : (results fn tmps).run P w = .ok (.tuple #[.agg cs, tmps.getD u undef]) w := by
  rw [results_cell_tmp h, hp]
  simp [asAddr, Result.andThen, run_loadVar_row w g t ty cs fr d hg hu hd hi]
/-- Four cells of one block written. -/
def set4 (w : World) (g : Nat) (a b c d : Value) : World := (((w.setCell ⟨g, 0, none⟩ a).setCell ⟨g, 1, none⟩ b).setCell ⟨g, 2, none⟩ c).setCell ⟨g, 3, none⟩ d
theorem set4_blk {w : World} {g : Nat} {x y z u a b c d : Value} {t : TypeId} (h : w.heap[g]? = some (.cells #[x, y, z, u] t (0, 0))) : (set4 w g a b c d).heap[g]? = some (.cells #[a, b, c, d] t (0, 0)) := by
  unfold set4
  rw [blk_set (blk_set (blk_set (blk_set h 0 a) 1 b) 2 c) 3 d]
  rfl
theorem set4_grown (w : World) (g : Nat) (a b c d : Value) : w.grownBy (set4 w g a b c d) (some g) := grown_set (grown_set (grown_set (grown_set (World.grownBy.refl w _) 0 a) 1 b) 2 c) 3 d
theorem info_val : (Try.prog.info? 39).map (·.size) = some 4 := by kernel_rfl
theorem und_val : ∃ fs, Try.prog.underlying 39 = some (.struct fs) := ⟨_, Try.underlying39⟩
/-- ReadVal's last step: the result's block is written, and read. -/
theorem read_end {fn : Func} {s : ByteArray} {gp gv gr : Nat} {k u : Int} {t : ByteArray} {xs : List ByteArray} {v : Value} {a : Nat} {bad : Bool} {W w : World} {o : Option ValD} {A B C D x y z q : Value} {b : Bool} {tmps : Array Value}
    (hf : fn.results = #[.cell 2 39, .tmp 3]) (h : VSt (W.heap.size + 1) gp gv gr s k u t xs v a bad (W.alloc (.cells #[x, y, z, q] 39)) w) (h2 : tmps.getD 2 undef = .pointer (some ⟨W.heap.size, 0, none⟩)) (h3 : tmps.getD 3 undef = .bool b)
    (hp : Below W.heap.size W (set4 w W.heap.size A B C D) → StrOwn (set4 w W.heap.size A B C D) W.heap.size v xs → ReadPost W o (.returned (.tuple #[.agg #[A, B, C, D], .bool b])) (set4 w W.heap.size A B C D)) :
    bodyPost Try.prog fn (ReadPost W o) .ret ⟨tmps, []⟩ (set4 w W.heap.size A B C D) := by
  obtain ⟨fs, hu⟩ := und_val
  have hg := set4_grown w W.heap.size A B C D
  have hw : W.heap.size ≤ w.heap.size := by
    have := h.bel.size
    simp at this
    omega
  refine bodyPost_ret (v := .tuple #[.agg #[A, B, C, D], .bool b]) ?_ rfl (hp (below_grown (vst_bel h) hg hw (fun k e => by cases e; omega)) ?_)
  · rw [results_row2 hf tmps _ W.heap.size 39 #[A, B, C, D] (0, 0) (.struct fs) h2 (set4_blk (vst_res h)) hu rfl info_val, h3]
  · refine (strOwn_of_row (h.own.kept hg ?_)).mono (Nat.le_succ _)
    cases hv : v.ownBlock with
    | none => exact .inl rfl
    | some g => exact .inr (fun e => by have h1 := (h.own.lt g hv).1; have h2 := Option.some.inj e; omega)
theorem readValI_not {s : ByteArray} (h : rDone s (rdX s).2.1 (rdX s).2.2 = false ∨ valOkB ((rdK s).1 : Int) ((rdU s).1 : Int) (bs (rdT s).1) (rdX s).1 = false) : readValI s = none := by
  unfold readValI
  rw [if_neg]
  rintro ⟨h1, h2⟩
  rcases h with h | h
  · rw [h1] at h; cases h
  · rw [h2] at h; cases h
theorem readValI_yes {s : ByteArray} (h1 : rDone s (rdX s).2.1 (rdX s).2.2 = true) (h2 : valOkB ((rdK s).1 : Int) ((rdU s).1 : Int) (bs (rdT s).1) (rdX s).1 = true) : readValI s = some (((rdK s).1 : Int), ((rdU s).1 : Int), bs (rdT s).1, (rdX s).1) := if_pos ⟨h1, h2⟩
set_option maxHeartbeats 4000000 in
set_option maxRecDepth 100000 in
theorem impl_ReadVal_calls (s : ByteArray) (w : World) (hs : s.size ≤ 1099511627776) : Calls Try.prog 22 #[.string s] w (ReadPost w (readValI s)) := by
  have hmf : ∀ (fn : Fn) (first cap : Array Value) (w : World), (Instr.makeFunc fn first cap).run Try.prog w = .ok (.func fn first cap) w := fun _ _ _ _ => rfl
  go_enter Try.func22, Try.ntmps22
  have HRD : Hid (RdAt 70 (((w.alloc (.cells #[.int .i64 0, .int .i64 0, .string ⟨#[]⟩, .slice none 0 0] 39)).alloc (.cells #[.string s, .int .i64 0, .bool false] 70)).alloc (.cells #[.pointer (some ⟨w.heap.size + 1, 0, none⟩)] 68)) (w.heap.size + 1) s 0 false) := by
    refine blk_alloc_old ?_ _
    have := blk_new (w.alloc (.cells #[.int .i64 0, .int .i64 0, .string ⟨#[]⟩, .slice none 0 0] 39)) (.cells #[.string s, .int .i64 0, .bool false] 70)
    simpa using this
  have a1 : (rdK s).2.1 ≤ s.size := (rByte_le s false (Nat.zero_le _)).1
  have a2 : (rdU s).2.1 ≤ s.size := (rNum_le s _ _ a1).2.1
  have a3 : (rdT s).2.1 ≤ s.size := (rText_le s _ a2).1
  have a4 : (rdN s).2.1 ≤ s.size := (rNum_le s _ _ a3).2.1
  have a5 : (rdX s).2.1 ≤ s.size := itemsBy_le (f := itI s) (fun a h => (rText_le s false h).1) _ _ _ a4
  go_wp2_with fail
  go_at_call 57
  refine (impl_byte_calls _ s 0 false _ HRD.out (Nat.zero_le _) (by omega)).mono ?_
  rw [show rByte s 0 false = rdK s from rfl]
  rintro e w1 ⟨rfl, hr, hg⟩
  have HV1 := Lib.hid (vst_start s w w1 _ _ (rdK s).1 hr hg)
  have cp1 := HV1.out.cp
  clear hr hg
  go_wp2_with fail
  go_at_call 51
  refine (impl_num_calls _ s _ _ _ HV1.out.rd a1 (by omega)).mono ?_
  rw [show rNum s (rdK s).2.1 (rdK s).2.2 = rdU s from rfl]
  rintro e w2 ⟨rfl, hr, hg⟩
  have HV2 := Lib.hid (HV1.out.read hr hg)
  have d1 : w2.cell? ⟨w1.heap.size, 1, none⟩ = some (.int .i64 0) := HV2.out.cv 1
  have f1 := frozen_blk HV2.out.hv 1
  have HV3 := Lib.hid (HV2.out.setU (rdU s).1)
  have cp3 := HV3.out.cp
  clear hr hg
  go_wp2_with fail
  go_at_call 50
  refine (impl_text_calls _ s _ _ _ HV3.out.rd a2 (by omega)).mono ?_
  rw [show rText s (rdU s).2.1 (rdU s).2.2 = rdT s from rfl]
  rintro e w3 ⟨rfl, hr, hg⟩
  have HV4 := Lib.hid (HV3.out.read hr hg)
  have d2 : w3.cell? ⟨w1.heap.size, 2, none⟩ = some (.string ⟨#[]⟩) := HV4.out.cv 2
  have f2 := frozen_blk HV4.out.hv 2
  have HV5 := Lib.hid (HV4.out.setT (bs (rdT s).1))
  have cp5 := HV5.out.cp
  clear hr hg
  go_wp2_with fail
  go_at_call 48
  refine (impl_each_ReadVal_calls _ _ _ _ s _ _ _ _ _ _ _ _ HV5.out a3 hs).mono ?_
  rw [show rNum s (rdT s).2.1 (rdT s).2.2 = rdN s from rfl, show itemsBy (itI s) (rdN s).1 (rdN s).2.1 (rdN s).2.2 = rdX s from rfl]
  rintro e w4 ⟨rfl, v, hv⟩
  obtain ⟨A, c, rfl, hrow⟩ := (strOwn_of_row hv.own).row (rdX_small s)
  have HV6 := Lib.hid hv
  have HRW := Lib.hid hrow
  have cp6 := HV6.out.cp
  clear hv hrow
  go_wp2_with fail
  go_at_call 52
  refine (impl_done_calls _ s _ _ _ HV6.out.rd a5 (by omega)).mono ?_
  rintro e w5 ⟨rfl, hb⟩
  have HV7 := Lib.hid (HV6.out.below hb)
  have HRW7 := Lib.hid (HRW.out.below hb)
  have z0 : w5.cell? ⟨w.heap.size, 0, none⟩ = some (.int .i64 0) := cell_of_row w5 w.heap.size 0 _ _ (0, 0) (vst_res HV7.out)
  have z1 : w5.cell? ⟨w.heap.size, 1, none⟩ = some (.int .i64 0) := cell_of_row w5 w.heap.size 1 _ _ (0, 0) (vst_res HV7.out)
  have z2 : w5.cell? ⟨w.heap.size, 2, none⟩ = some (.string ⟨#[]⟩) := cell_of_row w5 w.heap.size 2 _ _ (0, 0) (vst_res HV7.out)
  have z3 : w5.cell? ⟨w.heap.size, 3, none⟩ = some (.slice none 0 0) := cell_of_row w5 w.heap.size 3 _ _ (0, 0) (vst_res HV7.out)
  have y0 := frozen_blk (vst_res HV7.out) 0
  have y1 := frozen_blk (vst_res HV7.out) 1
  have y2 := frozen_blk (vst_res HV7.out) 2
  have y3 := frozen_blk (vst_res HV7.out) 3
  have x0 : w5.cell? ⟨w1.heap.size, 0, none⟩ = some (.int .i64 ((rdK s).1 : Int)) := HV7.out.cv 0
  have x1 : w5.cell? ⟨w1.heap.size, 1, none⟩ = some (.int .i64 ((rdU s).1 : Int)) := HV7.out.cv 1
  have x2 : w5.cell? ⟨w1.heap.size, 2, none⟩ = some (.string (bs (rdT s).1)) := HV7.out.cv 2
  have x3 : w5.cell? ⟨w1.heap.size, 3, none⟩ = some (.slice A (rdX s).1.length c) := HV7.out.cv 3
  clear hb
  cases hd : rDone s (rdX s).2.1 (rdX s).2.2
  · have HE := Lib.hid (readValI_not (.inl hd))
    clear hd
    go_wp2
    exact read_end (A := .int .i64 0) (B := .int .i64 0) (C := .string ⟨#[]⟩) (D := .slice none 0 0) rfl HV7.out rfl rfl (fun hb _ => ⟨hb, by rw [HE.out]; rfl⟩)
  · cases hok : valOkB ((rdK s).1 : Int) ((rdU s).1 : Int) (bs (rdT s).1) (rdX s).1
    · have HE := Lib.hid (readValI_not (.inr hok))
      have HO := Lib.hid hok
      clear hd hok
      go_wp2_with fail
      go_at_call 24
      refine (impl_ValOk_calls _ _ _ A c (rdX s).1 _ HRW7.out (by rw [bs_size]; have := rText_len s (rdU s).2.1 (rdU s).2.2; unfold rdT; omega)).mono ?_
      rw [HO.out]
      rintro e w6 ⟨rfl, hb⟩
      have HV8 := Lib.hid (HV7.out.below hb)
      have zz0 : w6.cell? ⟨w.heap.size, 0, none⟩ = some (.int .i64 0) := cell_of_row w6 w.heap.size 0 _ _ (0, 0) (vst_res HV8.out)
      have zz1 : w6.cell? ⟨w.heap.size, 1, none⟩ = some (.int .i64 0) := cell_of_row w6 w.heap.size 1 _ _ (0, 0) (vst_res HV8.out)
      have zz2 : w6.cell? ⟨w.heap.size, 2, none⟩ = some (.string ⟨#[]⟩) := cell_of_row w6 w.heap.size 2 _ _ (0, 0) (vst_res HV8.out)
      have zz3 : w6.cell? ⟨w.heap.size, 3, none⟩ = some (.slice none 0 0) := cell_of_row w6 w.heap.size 3 _ _ (0, 0) (vst_res HV8.out)
      have yy0 := frozen_blk (vst_res HV8.out) 0
      have yy1 := frozen_blk (vst_res HV8.out) 1
      have yy2 := frozen_blk (vst_res HV8.out) 2
      have yy3 := frozen_blk (vst_res HV8.out) 3
      have xx0 : w6.cell? ⟨w1.heap.size, 0, none⟩ = some (.int .i64 ((rdK s).1 : Int)) := HV8.out.cv 0
      have xx1 : w6.cell? ⟨w1.heap.size, 1, none⟩ = some (.int .i64 ((rdU s).1 : Int)) := HV8.out.cv 1
      have xx2 : w6.cell? ⟨w1.heap.size, 2, none⟩ = some (.string (bs (rdT s).1)) := HV8.out.cv 2
      have xx3 : w6.cell? ⟨w1.heap.size, 3, none⟩ = some (.slice A (rdX s).1.length c) := HV8.out.cv 3
      clear hb
      go_wp2
      exact read_end (A := .int .i64 0) (B := .int .i64 0) (C := .string ⟨#[]⟩) (D := .slice none 0 0) rfl HV8.out rfl rfl (fun hb _ => ⟨hb, by rw [HE.out]; rfl⟩)
    · have HE := Lib.hid (readValI_yes hd hok)
      have HO := Lib.hid hok
      clear hd hok
      go_wp2_with fail
      go_at_call 24
      refine (impl_ValOk_calls _ _ _ A c (rdX s).1 _ HRW7.out (by rw [bs_size]; have := rText_len s (rdU s).2.1 (rdU s).2.2; unfold rdT; omega)).mono ?_
      rw [HO.out]
      rintro e w6 ⟨rfl, hb⟩
      have HV8 := Lib.hid (HV7.out.below hb)
      have zz0 : w6.cell? ⟨w.heap.size, 0, none⟩ = some (.int .i64 0) := cell_of_row w6 w.heap.size 0 _ _ (0, 0) (vst_res HV8.out)
      have zz1 : w6.cell? ⟨w.heap.size, 1, none⟩ = some (.int .i64 0) := cell_of_row w6 w.heap.size 1 _ _ (0, 0) (vst_res HV8.out)
      have zz2 : w6.cell? ⟨w.heap.size, 2, none⟩ = some (.string ⟨#[]⟩) := cell_of_row w6 w.heap.size 2 _ _ (0, 0) (vst_res HV8.out)
      have zz3 : w6.cell? ⟨w.heap.size, 3, none⟩ = some (.slice none 0 0) := cell_of_row w6 w.heap.size 3 _ _ (0, 0) (vst_res HV8.out)
      have yy0 := frozen_blk (vst_res HV8.out) 0
      have yy1 := frozen_blk (vst_res HV8.out) 1
      have yy2 := frozen_blk (vst_res HV8.out) 2
      have yy3 := frozen_blk (vst_res HV8.out) 3
      have xx0 : w6.cell? ⟨w1.heap.size, 0, none⟩ = some (.int .i64 ((rdK s).1 : Int)) := HV8.out.cv 0
      have xx1 : w6.cell? ⟨w1.heap.size, 1, none⟩ = some (.int .i64 ((rdU s).1 : Int)) := HV8.out.cv 1
      have xx2 : w6.cell? ⟨w1.heap.size, 2, none⟩ = some (.string (bs (rdT s).1)) := HV8.out.cv 2
      have xx3 : w6.cell? ⟨w1.heap.size, 3, none⟩ = some (.slice A (rdX s).1.length c) := HV8.out.cv 3
      clear hb
      go_wp2
      exact read_end (A := .int .i64 ((rdK s).1 : Int)) (B := .int .i64 ((rdU s).1 : Int)) (C := .string (bs (rdT s).1)) (D := .slice A (rdX s).1.length c) rfl HV8.out rfl rfl (fun hb ho => ⟨hb, by rw [HE.out]; exact ⟨_, rfl, ho⟩⟩)
end Go.Proofs.Ytekhfplbhcfdmaa
