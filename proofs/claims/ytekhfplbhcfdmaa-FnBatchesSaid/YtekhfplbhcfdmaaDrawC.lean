/- The draws: a batch (spec.l05Any). -/
import Derived.Test.YtekhfplbhcfdmaaDrawB
import Derived.Test.YtekhfplbhcfdmaaPickI
import Derived.Test.YtekhfplbhcfdmaaDecS
import Derived.Deep.CutBlock
namespace Go.Proofs.Ytekhfplbhcfdmaa
set_option linter.unusedVariables false
set_option linter.unusedSimpArgs false
open Go.RowKit
attribute [local go_sem] bs_size List.length_cons List.length_nil List.length_append

theorem own_set {w : World} {B : Nat} {te : TypeId} {m n n' g cap : Nat} {v : Value} {fl : List Value} (h : w.ownsRow B te m v n fl) (hv : v = .slice (some ⟨g, 0, none⟩) n' cap) (j : Nat) (x : Value) : (w.setCell ⟨g, j, none⟩ x).ownsRow B te m v n (fl.set j x) := by
  refine ⟨by rw [List.length_set]; exact h.1, ?_⟩
  rcases h.2 with ⟨h1, _⟩ | ⟨g', cap', cur, h1, h2, h3, h4, h5, h6, h7⟩
  · rw [hv] at h1; cases h1
  · rw [hv] at h1
    cases h1
    refine .inr ⟨g, cap, cur.setIfInBounds j x, hv, h2, blk_set h3 j x, h4, h5, by simp [h6], ?_⟩
    rw [Array.toList_setIfInBounds, List.take_set, h7]
theorem flat_set {α β : Type} {f : α → List β} {m : Nat} (hf : ∀ x, (f x).length = m) : ∀ (xs : List α) (j d : Nat) (x x' : α) (y : β), xs[j]? = some x → d < m → (f x).set d y = f x' → ((xs.map f).flatten).set (j * m + d) y = ((xs.set j x').map f).flatten
  | [], j, d, x, x', y, h, _, _ => by simp at h
  | z :: xs, 0, d, x, x', y, h, hd, he => by
    obtain rfl : z = x := by simpa using h
    rw [List.map_cons, List.flatten_cons, Nat.zero_mul, Nat.zero_add, List.set_append_left _ _ (by rw [hf]; exact hd), he]
    rfl
  | z :: xs, j + 1, d, x, x', y, h, hd, he => by
    have e : (j + 1) * m + d = (f z).length + (j * m + d) := by rw [hf, Nat.add_mul]; omega
    rw [List.map_cons, List.flatten_cons, e, List.set_append_right _ _ (Nat.le_add_right ..), Nat.add_sub_cancel_left, flat_set hf xs j d x x' y (by simpa using h) hd he]
    rfl
theorem Few.mono {n m n' m' : Nat} {cs : List ChD} (h : Few n m cs) (h1 : n ≤ n') (h2 : m ≤ m') : Few n' m' cs := fun x hx => ⟨Nat.le_trans (h x hx).1 h1, Nat.le_trans (h x hx).2 h2⟩
theorem Few.set {n m : Nat} {cs : List ChD} {x : ChD} (h : Few n m cs) (k : Nat) (h1 : x.1.size ≤ n) (h2 : x.2.1.size ≤ m) : Few n m (cs.set k x) := by
  intro y hy
  rcases List.mem_or_eq_of_mem_set hy with hy | rfl
  · exact h y hy
  · exact ⟨h1, h2⟩
theorem ChOwn.form {w : World} {B : Nat} {v : Value} {cs : List ChD} (h : ChOwn w B v cs) : ∃ A c, v = .slice A cs.length c := by
  rcases h.2 with ⟨h, h0⟩ | ⟨b, cap, cur, h, _⟩
  · exact ⟨none, 0, by rw [h, h0]⟩
  · exact ⟨_, _, h⟩
/-- The batch under way: its block, the result's block, the row. -/
structure AX (w : World) (g B : Nat) (sq : Int) (v : Value) (cs : List ChD) (W : World) : Prop where
  hb : W.heap[B]? = some (.cells #[.int .i64 sq, v] 30)
  res : W.heap[w.heap.size]? = some zBat
  drawn : Drawn w g W
  own : ChOwn W (w.heap.size + 1) v cs
  far : w.heap.size < B
  ne : v.ownBlock ≠ some B
section
variable {w W W' : World} {g B : Nat} {sq : Int} {v : Value} {cs : List ChD}
theorem AX.draw (h : AX w g B sq v cs W) (hg : g < w.heap.size) (hd : Drawn W g W') : AX w g B sq v cs W' := by
  have := h.far
  exact ⟨(hd.2.block _ (blk_lt h.hb) (by intro e; have := Option.some.inj e; omega)).trans h.hb, (hd.2.block _ (blk_lt h.res) (by intro e; have := Option.some.inj e; omega)).trans h.res, h.drawn.trans hd, h.own.drawn hd (by omega), h.far, h.ne⟩
theorem AX.below (h : AX w g B sq v cs W) (hg : g < w.heap.size) (hb : Below W.heap.size W W') : AX w g B sq v cs W' :=
  ⟨(hb.block _ (blk_lt h.hb)).trans h.hb, (hb.block _ (blk_lt h.res)).trans h.res, h.drawn.below hg hb, h.own.below hb, h.far, h.ne⟩
theorem AX.alloc (h : AX w g B sq v cs W) (hg : g < w.heap.size) (o : Obj) : AX w g B sq v cs (W.alloc o) := h.below hg ((Below.refl _ _).alloc (Nat.le_refl _) o)
theorem AX.setSeq (h : AX w g B sq v cs W) (hg : g < w.heap.size) (q : Int) : AX w g B q v cs (W.setCell ⟨B, 0, none⟩ (.int .i64 q)) := by
  have hf := h.far
  have hs := gr_set W B 0 (.int .i64 q)
  refine ⟨?_, (gr_setne W B 0 _ _ (by omega)).trans h.res, h.drawn.grown hg hs (fun k e => by cases e; omega), h.own.kept hs (fun k hk e => h.ne (hk.trans e.symm)), hf, h.ne⟩
  rw [blk_set h.hb]; rfl
/-- A row of its own takes the place of the old. -/
theorem AX.put {v' : Value} {cs' : List ChD} (h : AX w g B sq v cs W) (hg : g < w.heap.size) (hgr : W.grownBy W' v.ownBlock) (ho : ChOwn W' (w.heap.size + 1) v' cs') (hn : v'.ownBlock ≠ some B) : AX w g B sq v' cs' (W'.setCell ⟨B, 1, none⟩ v') := by
  have hf := h.far
  have hs := gr_set W' B 1 v'
  have h1 : W'.heap[B]? = some (.cells #[.int .i64 sq, v] 30) := (hgr.block _ (blk_lt h.hb) (fun e => h.ne e.symm)).trans h.hb
  have h2 : W'.heap[w.heap.size]? = some zBat := (hgr.block _ (blk_lt h.res) (fun e => by have := (h.own.lt _ e.symm).1; omega)).trans h.res
  refine ⟨?_, (gr_setne W' B 1 _ _ (by omega)).trans h2, (h.drawn.grown hg hgr (fun k e => by have := (h.own.lt k e).1; omega)).grown hg hs (fun k e => by cases e; omega), ho.kept hs (fun k hk e => hn (hk.trans e.symm)), hf, hn⟩
  rw [blk_set h1]; rfl
/-- One cell of the row is written. -/
theorem AX.setCh {b n' cap k d : Nat} {x x' : ChD} {y : Value} (h : AX w g B sq v cs W) (hg : g < w.heap.size) (hv : v = .slice (some ⟨b, 0, none⟩) n' cap) (hk : cs[k]? = some x) (hd : d < 3) (he : (chVals x).set d y = chVals x') : AX w g B sq v (cs.set k x') (W.setCell ⟨b, k * 3 + d, none⟩ y) := by
  have hf := h.far
  have hs := gr_set W b (k * 3 + d) y
  have hb : v.ownBlock = some b := by rw [hv]; rfl
  have hlt := h.own.lt b hb
  have hne : b ≠ B := fun e => h.ne (by rw [hb, e])
  refine ⟨(gr_setne W b _ _ _ (by omega)).trans h.hb, (gr_setne W b _ _ _ (by omega)).trans h.res, h.drawn.grown hg hs (fun k e => by cases e; omega), ?_, hf, h.ne⟩
  have h1 := own_set h.own hv (k * 3 + d) y
  unfold ChOwn
  rw [List.length_set]
  unfold chFlat at h1 ⊢
  rw [flat_set (f := chVals) (m := 3) (fun _ => rfl) cs k d x x' y hk hd he] at h1
  exact h1
end
section
variable {w W W' : World} {g B : Nat} {sq : Int} {v : Value} {cs : List ChD}
theorem AX.drew (h : AX w g B sq v cs W) (hg : g < w.heap.size) : AX w g B sq v cs W.drew := h.below hg (Below.drew (Below.refl _ _))
theorem AX.bg (h : AX w g B sq v cs W) (hgr : W.grownBy W' v.ownBlock) : W'.heap[B]? = some (.cells #[.int .i64 sq, v] 30) := (hgr.block _ (blk_lt h.hb) (fun e => h.ne e.symm)).trans h.hb
theorem AX.base (h : AX w g B sq v cs W) : w.heap.size + 1 ≤ W.heap.size := by have := blk_lt h.hb; have := h.far; omega
theorem AX.app {gg cap : Nat} {x : ChD} (h : AX w g B sq v cs W) (hg : g < w.heap.size) (hown : W'.ownsRow (w.heap.size + 1) 80 3 (.slice (some ⟨gg, 0, none⟩) (cs.length + 1) cap) (cs.length + 1) (chFlat cs ++ chVals x)) (hgr : W.grownBy W' v.ownBlock) (hat : v.ownBlock = some gg ∨ gg = W.heap.size) :
    AX w g B sq (.slice (some ⟨gg, 0, none⟩) (cs.length + 1) cap) (cs ++ [x]) (W'.setCell ⟨B, 1, none⟩ (.slice (some ⟨gg, 0, none⟩) (cs.length + 1) cap)) := by
  refine h.put hg hgr ?_ ?_
  · unfold ChOwn
    rw [List.length_append, chFlat_snoc]
    exact hown
  · intro e
    have e : gg = B := Option.some.inj e
    rcases hat with h1 | h1
    · exact h.ne (by rw [h1]; exact congrArg some e)
    · have := blk_lt h.hb
      omega
/-- The change at k, cell by cell. -/
theorem AX.cells {b n c k : Nat} {x : ChD} (h : AX w g B sq (.slice (some ⟨b, 0, none⟩) n c) cs W) (hx : cs[k]? = some x) : W.cell? ⟨b, k * 3, none⟩ = some (.string x.1) ∧ W.cell? ⟨b, k * 3 + 1, none⟩ = some (.string x.2.1) ∧ W.cell? ⟨b, k * 3 + 2, none⟩ = some (.bool x.2.2) := by
  rcases own_cells (f := chVals) (m := 3) (fun _ => rfl) h.own with ⟨h1, _⟩ | ⟨b', cap, h1, _, _, _, _, hc⟩
  · cases h1
  · cases h1
    exact ⟨hc k x 0 hx (by omega), hc k x 1 hx (by omega), hc k x 2 hx (by omega)⟩
theorem AX.frozen {b n c : Nat} (h : AX w g B sq (.slice (some ⟨b, 0, none⟩) n c) cs W) (j : Nat) : W.frozen? ⟨b, j, none⟩ = false := by
  rcases h.own.2 with ⟨h1, _⟩ | ⟨b', cap, cur, h1, _, hb, _⟩
  · cases h1
  · cases h1
    exact blk_frozen hb j
end
theorem pick3 (g : Nat) (s1 s2 : ByteArray) (W : World) (h : Cu W g) (h1 : s1.size ≤ 21) (h2 : s2.size ≤ 21) :
    Calls Try.prog 100 #[.pointer (some ⟨g, 0, none⟩), .slice (some ⟨W.heap.size, 0, none⟩) 3 3] (W.alloc (.cells #[.string ⟨#[]⟩, .string s1, .string s2] 9)) fun e w' => ∃ x, e = .returned (.string x) ∧ x.size ≤ 25 ∧ Drawn W g w' := by
  have hsz : ∀ s ∈ [⟨#[]⟩, s1, s2], s.size ≤ 21 := by
    intro s hs
    simp only [List.mem_cons, List.not_mem_nil, or_false] at hs
    rcases hs with rfl | rfl | rfl
    · decide
    · exact h1
    · exact h2
  have hblk : StrBlk (W.alloc (.cells #[.string ⟨#[]⟩, .string s1, .string s2] 9)) W.heap.size 3 [⟨#[]⟩, s1, s2] := ⟨[], by rw [blk_new]; rfl, rfl, by omega⟩
  refine (spec_l01Pick_calls g (some ⟨W.heap.size, 0, none⟩) 3 [⟨#[]⟩, s1, s2] _ (h.alloc _) (hblk.row fun s hs => by have := hsz s hs; omega) (by simp) (by simp) ?_).mono ?_
  · intro ad e
    have := h.lt
    cases e
    show W.heap.size ≠ g
    omega
  · rintro e w' ⟨x, hx, rfl, hd⟩
    exact ⟨x, rfl, by have := hsz x hx; omega, (Drawn.alloc h _).trans hd⟩
theorem long20 (w : World) : Calls Try.prog 99 #[.int .i64 20, .int .u8 122] w fun e w' => ∃ x, e = .returned (.string x) ∧ x.size = 20 ∧ Below w.heap.size w w' := spec_l01Long_calls 20 122 122 w rfl (by omega)
theorem long21 (w : World) : Calls Try.prog 99 #[.int .i64 21, .int .u8 122] w fun e w' => ∃ x, e = .returned (.string x) ∧ x.size = 21 ∧ Below w.heap.size w w' := spec_l01Long_calls 21 122 122 w rfl (by omega)
theorem longI (y : Int) (w : World) (h0 : 0 ≤ y) (h1 : y ≤ 100000) : Calls Try.prog 99 #[.int .i64 y, .int .u8 65] w fun e w' => ∃ x, e = .returned (.string x) ∧ (x.size : Int) = y ∧ Below w.heap.size w w' := by
  obtain ⟨n, rfl⟩ : ∃ n : Nat, y = (n : Int) := ⟨y.toNat, by omega⟩
  refine (spec_l01Long_calls n 65 65 w rfl (by omega)).mono ?_
  rintro e w' ⟨x, h, hs, hb⟩
  exact ⟨x, h, by omega, hb⟩
theorem kText_small (i : Nat) (h : i ≤ 50) : (bs (Lib.itoa (100 + (i : Int)))).size ≤ 4 := by
  rw [bs_size, itoa_pos (by omega)]
  exact digs_length 4 _ (by have : (100 + (i : Int)).natAbs ≤ 150 := by omega
                            omega)
theorem kText_key (i : Nat) (h : i ≤ 50) : ((⟨#[107]⟩ : ByteArray) ++ bs (Lib.itoa (100 + (i : Int)))).size ≤ 25 := by
  have := kText_small i h
  rw [ByteArray.size_append]
  show 1 + _ ≤ 25
  omega
/-- What a drawn batch is. -/
def AnyOk (sq : Int) (cs : List ChD) : Prop := -1 ≤ sq ∧ sq ≤ 1000000001 ∧ cs.length ≤ 41 ∧ Few 25 2001 cs
def AnyPost (w : World) (g : Nat) (e : Ending) (w' : World) : Prop := ∃ (sq : Int) (cs : List ChD) (v : Value), e = .returned (.agg #[.int .i64 sq, v]) ∧ ChOwn w' w.heap.size v cs ∧ AnyOk sq cs ∧ Drawn w g w'
theorem results_rowB {P : Program} {fn : Func} {p : Tmp} {ty : TypeId} (h : fn.results = #[.cell p ty]) (tmps : Array Value) (w : World) (g : Nat) (t : TypeId) (cs : Array Value) (fr : Nat × Nat) (d : TypeDesc) (hp : tmps.getD p undef = .pointer (some ⟨g, 0, none⟩)) (hg : w.heap[g]? = some (.cells cs t fr))
    (hu : P.underlying ty = some d) (hd : (match d with | .struct _ | .array _ _ => true | _ => false) = true) (hi : (P.info? ty).map (·.size) = some cs.size) : (results fn tmps).run P w = .ok (.agg cs) w := by
  have hp' : tmps[p]?.getD undef = .pointer (some ⟨g, 0, none⟩) := by simpa using hp
  simp only [results, h]
  simp [Sem.run_bind, hp', asAddr, Result.andThen, run_loadVar_row w g t ty cs fr d hg hu hd hi]
theorem any_end {fn : Func} {g B : Nat} {sq : Int} {cs : List ChD} {v : Value} {W w : World} {tmps : Array Value} (hgl : g < w.heap.size) (hf : fn.results = #[.cell 2 30]) (h : AX w g B sq v cs W) (h2 : tmps.getD 2 undef = .pointer (some ⟨w.heap.size, 0, none⟩)) (ho : AnyOk sq cs) :
    bodyPost Try.prog fn (AnyPost w g) .ret ⟨tmps, []⟩ (set2 W w.heap.size (.int .i64 sq) v) := by
  obtain ⟨fs, hu⟩ := und_bat
  have hg := set2_grown W w.heap.size (.int .i64 sq) v
  refine bodyPost_ret (v := .agg #[.int .i64 sq, v]) ?_ rfl ⟨sq, cs, v, rfl, ?_, ho, ?_⟩
  · rw [results_rowB hf tmps _ w.heap.size 30 #[.int .i64 sq, v] (0, 0) (.struct fs) h2 (set2_blk h.res) hu rfl info_bat]
  · refine own_low (World.ownsRow.kept h.own hg ?_) (Nat.le_succ _)
    refine .inr fun e => ?_
    have h1 := (h.own.lt _ e).1
    omega
  · exact h.drawn.grown hgl hg (fun k e => by cases e; exact Nat.le_refl _)
set_option maxHeartbeats 8000000 in
set_option maxRecDepth 100000 in
theorem spec_l05Any_calls (g : Nat) (w : World) (h : Cu w g) : Calls Try.prog 73 #[.pointer (some ⟨g, 0, none⟩)] w (AnyPost w g) := by
  obtain ⟨i0, hi0, hz, hsz, hby⟩ := info_parts info_ch
  have HC := Lib.hid h
  have HGL := Lib.hid h.lt
  clear h
  have HD0 : Hid (Drawn w g (w.alloc zBat)) := Drawn.alloc HC.out _
  have HR0 : Hid ((w.alloc zBat).heap[w.heap.size]? = some zBat) := blk_new w zBat
  go_enter Try.func73, Try.ntmps73
  go_wp2_with fail
  go_at_call 97
  refine (spec_l01Below_calls g 300 _ HD0.out.1 (by omega)).mono ?_
  rintro e w1 ⟨q, rfl, hq0, hq1, _, hd⟩
  have HQ : Hid (0 ≤ q ∧ q < 300) := ⟨hq0, hq1 (by omega)⟩
  have HD1 := Lib.hid (HD0.out.trans hd)
  have HR1 : Hid (w1.heap[w.heap.size]? = some zBat) := (hd.2.block _ (blk_lt HR0.out) (by intro e; have := Option.some.inj e; have := HGL.out; omega)).trans HR0.out
  clear hd hq0 hq1
  go_wp2_with fail
  go_at_call 103
  refine (spec_l05List_calls g _ HD1.out.1).mono ?_
  rintro e w2 ⟨cs, v, rfl, ho, hl1, hl6, hf, hd⟩
  obtain ⟨bb, c, rfl⟩ : ∃ bb c, v = .slice (some ⟨bb, 0, none⟩) cs.length c := by
    rcases ho.2 with ⟨_, h0⟩ | ⟨b, cap, cur, h, _⟩
    · omega
    · exact ⟨_, _, h⟩
  have hw1 : w.heap.size + 1 ≤ w1.heap.size := by have := blk_lt HR1.out; omega
  have HX2 : Hid (AX w g w2.heap.size q (.slice (some ⟨bb, 0, none⟩) cs.length c) cs (w2.alloc (.cells #[.int .i64 q, .slice (some ⟨bb, 0, none⟩) cs.length c] 30))) := by
    have hR2 : w2.heap[w.heap.size]? = some zBat := (hd.2.block _ (blk_lt HR1.out) (by intro e; have := Option.some.inj e; have := HGL.out; omega)).trans HR1.out
    refine ⟨blk_new w2 _, gr_old hR2 _, (HD1.out.trans hd).alloc' HGL.out _, own_low (own_keep ho ((Below.refl _ _).alloc (Nat.le_refl _) _)) hw1, blk_lt hR2, fun e => ?_⟩
    have := (ho.lt _ e).2
    omega
  have HF := Lib.hid hf
  have HL := Lib.hid (And.intro hl1 hl6)
  clear ho hf hl1 hl6 hd hw1
  have b1 : (w2.alloc (.cells #[.int .i64 q, .slice (some ⟨bb, 0, none⟩) cs.length c] 30)).cell? ⟨w2.heap.size, 1, none⟩ = some (.slice (some ⟨bb, 0, none⟩) cs.length c) := blk_cell HX2.out.hb 1
  go_wp2_with fail
  go_at_call 97
  refine (spec_l01Below_calls g (cs.length : Int) _ HX2.out.drawn.1 (by have := HL.out; omega)).mono ?_
  rintro e w3 ⟨k', rfl, hk0, hk1, _, hd⟩
  obtain ⟨k, rfl⟩ : ∃ k : Nat, k' = (k : Int) := ⟨k'.toNat, by omega⟩
  have HK : Hid (k < cs.length) := by have := hk1 (by have := HL.out; omega); show k < cs.length; omega
  have HX3 := Lib.hid (HX2.out.draw HGL.out hd)
  clear hd hk0 hk1 b1 HX2
  go_wp2_with fail
  go_at_call 97
  refine (spec_l01Below_calls g 30 _ HX3.out.drawn.1 (by omega)).mono ?_
  rintro e w4 ⟨x, rfl, hx0, hx1, _, hd⟩
  have HX4 := Lib.hid (HX3.out.draw HGL.out hd)
  have HX := Lib.hid (And.intro hx0 (hx1 (by omega)))
  clear hd hx1 hx0 HX3
  go_upto_block 0 with fail
  go_cut [] from 5 (fun wx => ∃ (sq : Int) (cs' : List ChD) (v : Value), AnyOk sq cs' ∧ Hid (AX w g w2.heap.size sq v cs' wx))
  case first =>
    have HOK : Hid (AnyOk q cs) := ⟨by have := HQ.out; omega, by have := HQ.out; omega, by have := HL.out; omega, HF.out.mono (by omega) (by omega)⟩
    have b1 : w4.cell? ⟨w2.heap.size, 1, none⟩ = some (.slice (some ⟨bb, 0, none⟩) cs.length c) := blk_cell HX4.out.hb 1
    have bf0 := blk_frozen HX4.out.hb 0
    have bf1 := blk_frozen HX4.out.hb 1
    have hx0 : 0 ≤ x := HX.out.1
    obtain ⟨x1, hx1⟩ : ∃ x1, cs[k]? = some x1 := ⟨_, List.getElem?_eq_getElem HK.out⟩
    have HX1 := Lib.hid hx1
    clear hx1
    have hkl : (k : Int) < (cs.length : Int) := by have := HK.out; omega
    have HLL : Hid (cs.length ≤ 6) := HL.out.2
    obtain rfl | rfl | rfl | rfl | rfl | rfl | hx6 : x = 0 ∨ x = 1 ∨ x = 2 ∨ x = 3 ∨ x = 4 ∨ x = 5 ∨ 6 ≤ x := by omega
    · go_wp2_with fail
      go_at_call 98
      refine (pickInt_lit g _ _ [-1, 1000000000, 1000000001] _ _ HX4.out.drawn.1 (by rfl) (by rfl) (by rfl) (by decide) (by decide)).mono ?_
      rintro e w5 ⟨q', hq', rfl, hd⟩
      have HX5 := Lib.hid (HX4.out.draw HGL.out hd)
      have hqb : -1 ≤ q' ∧ q' ≤ 1000000001 := by
        simp only [List.mem_cons, List.not_mem_nil, or_false] at hq'
        omega
      have c0 : w5.cell? ⟨w2.heap.size, 0, none⟩ = some (.int .i64 q) := blk_cell HX5.out.hb 0
      have f0 := blk_frozen HX5.out.hb 0
      clear hd hq'
      go_wp2
      go_meet
      case rel => exact ⟨q', cs, _, ⟨hqb.1, hqb.2, HOK.out.2.2.1, HOK.out.2.2.2⟩, HX5.out.setSeq HGL.out q'⟩
    · have HG := Lib.hid (HX4.out.drew HGL.out)
      have HGA := Lib.hid ((HX4.out.alloc HGL.out (.cells (chVals x1).toArray 80)).drew HGL.out)
      obtain ⟨k0, k1, k2⟩ := HG.out.cells HX1.out
      have b1d : (w4.drew).cell? ⟨w2.heap.size, 1, none⟩ = some (.slice (some ⟨bb, 0, none⟩) cs.length c) := blk_cell HG.out.hb 1
      have b1a : (w4.alloc (.cells #[.string x1.1, .string x1.2.1, .bool x1.2.2] 80)).cell? ⟨w2.heap.size, 1, none⟩ = some (.slice (some ⟨bb, 0, none⟩) cs.length c) := blk_cell HGA.out.hb 1
      have HBASE : Hid (w.heap.size + 1 ≤ (w4.alloc (.cells (chVals x1).toArray 80)).drew.heap.size) := HGA.out.base
      have HOWN : Hid (ChOwn (w4.alloc (.cells (chVals x1).toArray 80)).drew (w.heap.size + 1) (.slice (some ⟨bb, 0, none⟩) cs.length c) cs) := HGA.out.own
      have HNEWS : Hid (∀ j u, (chVals x1)[j]? = some u → (w4.alloc (.cells (chVals x1).toArray 80)).drew.cell? ((⟨w4.heap.size, 0, none⟩ : Addr).add j) = some u) := World.news_of_block (heap_alloc_new w4 _)
      go_wp2
      go_region_law ((refine step_append_lies _ (by rfl) (.tmp 27) (.tmp 33) 28 (by rfl) (w.heap.size + 1) 80 i0 (.agg #[.string ⟨#[]⟩, .string ⟨#[]⟩, .bool false]) 3 40 Try.underlying28 hi0 hz hsz hby rfl (by omega) (.slice (some ⟨bb, 0, none⟩) cs.length c) cs.length (chFlat cs) (by simp [Act.eval, Act.put]) HOWN.out _ 1 1 (chVals x1) (by simp [Act.eval, Act.put]) rfl HNEWS.out (by simp [Value.oneCell', chVals]) (by omega) (by unfold maxLen; have := HLL.out; omega) (by have := HLL.out; omega) HBASE.out _ rfl ?_); intro gg cap wq hown hgrow hat hlt; have HOWN2 := Lib.hid hown; have HGROW := Lib.hid hgrow; have HAT := Lib.hid hat; clear hown hgrow hat hlt; have f2 := blk_frozen (HGA.out.bg HGROW.out) 1; have c4 := blk_cell (HGA.out.bg HGROW.out) 1)
      all_goals
        go_wp2
        go_meet
        case rel => exact ⟨q, cs ++ [x1], _, ⟨HOK.out.1, HOK.out.2.1, by have := HLL.out; rw [List.length_append]; show cs.length + 1 ≤ 41; omega, HOK.out.2.2.2.snoc (HOK.out.2.2.2 x1 (List.mem_of_getElem? HX1.out)).1 (HOK.out.2.2.2 x1 (List.mem_of_getElem? HX1.out)).2⟩, HGA.out.app HGL.out HOWN2.out HGROW.out HAT.out⟩
    · have HG := Lib.hid (HX4.out.drew HGL.out)
      have b1d : (w4.drew).cell? ⟨w2.heap.size, 1, none⟩ = some (.slice (some ⟨bb, 0, none⟩) cs.length c) := blk_cell HG.out.hb 1
      go_wp2
      go_region_law (first | (have hh := HS1.out; clear hh; go_simp; go_at_call 99; refine (long21 _).mono ?_; rintro e w6 ⟨s2, rfl, hs2, hb⟩; have HS2 : Hid (s2.size ≤ 21) := (by rw [Hid]; omega); have HG := Lib.hid (HG.out.below HGL.out hb); clear hs2 hb; have c3' : w6.cell? ⟨w2.heap.size, 1, none⟩ = some (.slice (some ⟨bb, 0, none⟩) cs.length c) := blk_cell HG.out.hb 1; have c3b := cell_new c3' (.cells #[.string ⟨#[]⟩, .string s1, .string s2] 9)) | (go_simp; go_at_call 99; refine (long20 _).mono ?_; rintro e w5 ⟨s1, rfl, hs1, hb⟩; have HS1 : Hid (s1.size ≤ 21) := (by rw [Hid]; omega); have HG := Lib.hid (HG.out.below HGL.out hb); clear hs1 hb; have c3' : w5.cell? ⟨w2.heap.size, 1, none⟩ = some (.slice (some ⟨bb, 0, none⟩) cs.length c) := blk_cell HG.out.hb 1) | (go_simp; go_at_call 100; refine (pick3 g s1 s2 _ HG.out.drawn.1 HS1.out HS2.out).mono ?_; rintro e w7 ⟨z, rfl, hz7, hd⟩; have HZ : Hid (z.size ≤ 25) := hz7; have HG := Lib.hid (HG.out.draw HGL.out hd); clear hd hz7; have c3' : w7.cell? ⟨w2.heap.size, 1, none⟩ = some (.slice (some ⟨bb, 0, none⟩) cs.length c) := blk_cell HG.out.hb 1; have k0 : w7.cell? ⟨bb, k * 3, none⟩ = some (.string x1.1) := (HG.out.cells HX1.out).1; have f0 := HG.out.frozen (k * 3)))
      all_goals
        go_wp2
        go_meet
        case rel => exact ⟨q, cs.set k (z, x1.2.1, x1.2.2), _, ⟨HOK.out.1, HOK.out.2.1, by rw [List.length_set]; exact HOK.out.2.2.1, HOK.out.2.2.2.set k HZ.out (HOK.out.2.2.2 x1 (List.mem_of_getElem? HX1.out)).2⟩, HG.out.setCh (d := 0) HGL.out rfl HX1.out (by omega) rfl⟩
    · have HG := Lib.hid (HX4.out.drew HGL.out)
      have b1d : (w4.drew).cell? ⟨w2.heap.size, 1, none⟩ = some (.slice (some ⟨bb, 0, none⟩) cs.length c) := blk_cell HG.out.hb 1
      go_wp2
      go_region_law (first | (go_simp; go_at_call 97; refine (spec_l01Below_calls g 2 _ HG.out.drawn.1 (by omega)).mono ?_; rintro e w5 ⟨y, rfl, hy0, hy1, _, hd⟩; have hy2 := hy1 (by omega); have hwr : IntKind.i64.wrap (2000 + y) = 2000 + y := (by rw [IntKind.wrap_i64]; omega); have HG := Lib.hid (HG.out.draw HGL.out hd); clear hd hy1; have c3' : w5.cell? ⟨w2.heap.size, 1, none⟩ = some (.slice (some ⟨bb, 0, none⟩) cs.length c) := blk_cell HG.out.hb 1) | (go_simp; go_at_call 99; refine (longI _ _ (by omega) (by omega)).mono ?_; rintro e w6 ⟨z, rfl, hz6, hb⟩; have HZ : Hid (z.size ≤ 2001) := (by rw [Hid]; omega); have HG := Lib.hid (HG.out.below HGL.out hb); clear hz6 hb; have c3' : w6.cell? ⟨w2.heap.size, 1, none⟩ = some (.slice (some ⟨bb, 0, none⟩) cs.length c) := blk_cell HG.out.hb 1; have k0 : w6.cell? ⟨bb, k * 3 + 1, none⟩ = some (.string x1.2.1) := (HG.out.cells HX1.out).2.1; have f0 := HG.out.frozen (k * 3 + 1)))
      all_goals
        go_wp2
        go_meet
        case rel => exact ⟨q, cs.set k (x1.1, z, x1.2.2), _, ⟨HOK.out.1, HOK.out.2.1, by rw [List.length_set]; exact HOK.out.2.2.1, HOK.out.2.2.2.set k (HOK.out.2.2.2 x1 (List.mem_of_getElem? HX1.out)).1 HZ.out⟩, HG.out.setCh (d := 1) HGL.out rfl HX1.out (by omega) rfl⟩
    · have k0 : w4.cell? ⟨bb, k * 3 + 2, none⟩ = some (.bool x1.2.2) := (HX4.out.cells HX1.out).2.2
      have f0 := HX4.out.frozen (k * 3 + 2)
      go_wp2
      go_meet
      case rel => exact ⟨q, cs.set k (x1.1, x1.2.1, true), _, ⟨HOK.out.1, HOK.out.2.1, by rw [List.length_set]; exact HOK.out.2.2.1, HOK.out.2.2.2.set k (HOK.out.2.2.2 x1 (List.mem_of_getElem? HX1.out)).1 (HOK.out.2.2.2 x1 (List.mem_of_getElem? HX1.out)).2⟩, HX4.out.setCh (d := 2) HGL.out rfl HX1.out (by omega) rfl⟩
    · have b1a : (w4.alloc (.cells #[] 80)).cell? ⟨w2.heap.size, 1, none⟩ = some (.slice (some ⟨bb, 0, none⟩) cs.length c) := blk_cell (HX4.out.alloc HGL.out (.cells #[] 80)).hb 1
      have bfa := blk_frozen (HX4.out.alloc HGL.out (.cells #[] 80)).hb 1
      have HN0 : Hid (AX w g w2.heap.size q (.slice (some ⟨w4.heap.size, 0, none⟩) 0 0) [] ((w4.alloc (.cells #[] 80)).setCell ⟨w2.heap.size, 1, none⟩ (.slice (some ⟨w4.heap.size, 0, none⟩) 0 0))) :=
        (HX4.out.alloc HGL.out (.cells #[] 80)).put HGL.out (World.grownBy.refl _ _) (own_low (World.ownsRow_made (w := w4) #[] 0 (Nat.le_refl _) (Nat.zero_le _) rfl) HX4.out.base) (by have := blk_lt HX4.out.hb; simp [Value.ownBlock]; omega)
      go_wp2_with fail
      go_loopw [5] (fun iv wr => ∃ (i : Nat) (v : Value) (zs : List ChD), iv = .int .i64 (i : Int) ∧ i ≤ 41 ∧ Hid (zs.length = i) ∧ Hid (Few 25 2001 zs) ∧ Hid (AX w g w2.heap.size q v zs wr)) (fun iv _ => 41 - (intOf iv).toNat)
      case atStart => exact ⟨0, _, [], rfl, by omega, rfl, (fun x hx => by simp at hx), HN0⟩
      case round =>
        obtain ⟨i, v, zs, rfl, hi41, HLN, HFZ, HVR⟩ := hrel
        have hzl : zs.length ≤ 41 := by have := HLN.out; omega
        go_wp2_with fail
        go_at_call 97
        refine (spec_l01Below_calls g 2 _ HVR.out.drawn.1 (by omega)).mono ?_
        rintro e w5 ⟨y, rfl, hy0, hy1, _, hd⟩
        have hy2 := hy1 (by omega)
        have HV5 := Lib.hid (HVR.out.draw HGL.out hd)
        clear hd hy1
        by_cases hlt : (i : Int) < 40 + y
        · have HG := Lib.hid (HV5.out.drew HGL.out)
          have c5 : w5.cell? ⟨w2.heap.size, 1, none⟩ = some v := blk_cell HV5.out.hb 1
          have c5a := cell_new c5 (.cells #[.int .i64 1, .int .i64 210, .int .i64 230] 3)
          have hwi : IntKind.i64.wrap (100 + (i : Int)) = 100 + (i : Int) := by rw [IntKind.wrap_i64]; omega
          have hks := kText_small i (by omega)
          have hks2 : (Lib.itoa (100 + (i : Int))).length ≤ 4 := by rw [bs_size] at hks; exact hks
          have hks3 : ¬ (9223372036854775807 < 1 + (Lib.itoa (100 + (i : Int))).length) := by omega
          have HKK := Lib.hid (kText_key i (by omega))
          have hne5 : w5.heap.size ≠ g := by have := HV5.out.base; have := HGL.out; omega
          go_wp2
          go_region_law (first
            | ((refine step_append_lies _ (by rfl) (.tmp 78) (.tmp 88) 28 (by rfl) (w.heap.size + 1) 80 i0 (.agg #[.string ⟨#[]⟩, .string ⟨#[]⟩, .bool false]) 3 40 Try.underlying28 hi0 hz hsz hby rfl (by omega) v zs.length (chFlat zs) (by simp [Act.eval, Act.put]) HOWN.out _ 1 1 (chVals (((⟨#[107]⟩ : ByteArray) ++ bs (Lib.itoa (100 + (i : Int)))), z, false)) (by simp [Act.eval, Act.put]) rfl HNEWS.out (by simp [Value.oneCell', chVals]) (by omega) (by unfold maxLen; omega) (by omega) HBASE.out _ rfl ?_); intro gg cap wq hown hgrow hat hlt; have HOWN2 := Lib.hid hown; have HGROW := Lib.hid hgrow; have HAT := Lib.hid hat; clear hown hgrow hat hlt; have f2 := blk_frozen ((HG.out.alloc HGL.out _).bg HGROW.out) 1; have c4 := blk_cell ((HG.out.alloc HGL.out _).bg HGROW.out) 1)
            | (go_simp; go_at_call 104; refine (spec_Decimal_calls (100 + (i : Int)) _ (by omega) (by omega)).mono ?_; rintro e w6 ⟨rfl, hb⟩; (first | (have HL : Hid (w6.heap[w5.heap.size]? = some (.cells #[.int .i64 1, .int .i64 210, .int .i64 230] 3)) := (hb.block _ (by simp)).trans (blk_new _ _)) | skip); have HG := Lib.hid (by first | exact HG.out.below HGL.out hb | exact (HG.out.alloc HGL.out (.cells #[.int .i64 1, .int .i64 210, .int .i64 230] 3)).below HGL.out hb); clear hb; have c6 : w6.cell? ⟨w2.heap.size, 1, none⟩ = some v := blk_cell HG.out.hb 1; have c6a := cell_new c6 (.cells #[.int .i64 1, .int .i64 210, .int .i64 230] 3))
            | (go_simp; go_at_call 98; refine (pickInt_at g _ _ _ [1, 210, 230] _ (by first | exact HG.out.drawn.1 | exact (HG.out.alloc HGL.out _).drawn.1) (by first | exact HL.out | exact blk_new _ _) (by first | exact hne5 | (have := HG.out.base; have := HGL.out; omega)) (by rfl) (by rfl) (by decide) (by decide)).mono ?_; rintro e w7 ⟨u, hu, rfl, hd⟩; have HG := Lib.hid (by first | exact HG.out.draw HGL.out hd | exact (HG.out.alloc HGL.out (.cells #[.int .i64 1, .int .i64 210, .int .i64 230] 3)).draw HGL.out hd); have hu2 : 0 ≤ u ∧ u ≤ 230 := (by simp only [List.mem_cons, List.not_mem_nil, or_false] at hu; omega); clear hd hu; have c7 : w7.cell? ⟨w2.heap.size, 1, none⟩ = some v := blk_cell HG.out.hb 1)
            | (go_simp; go_at_call 99; refine (longI _ _ (by omega) (by omega)).mono ?_; rintro e w8 ⟨z, rfl, hz8, hb⟩; have HZ : Hid (z.size ≤ 2001) := (by rw [Hid]; omega); have HG := Lib.hid (HG.out.below HGL.out hb); clear hz8 hb; have c8 : w8.cell? ⟨w2.heap.size, 1, none⟩ = some v := blk_cell HG.out.hb 1; have c8a := cell_new c8 (.cells #[.string ((⟨#[107]⟩ : ByteArray) ++ bs (Lib.itoa (100 + (i : Int)))), .string z, .bool false] 80); have HBASE : Hid (w.heap.size + 1 ≤ (w8.alloc (.cells #[.string ((⟨#[107]⟩ : ByteArray) ++ bs (Lib.itoa (100 + (i : Int)))), .string z, .bool false] 80)).heap.size) := (HG.out.alloc HGL.out _).base; have HOWN : Hid (ChOwn (w8.alloc (.cells #[.string ((⟨#[107]⟩ : ByteArray) ++ bs (Lib.itoa (100 + (i : Int)))), .string z, .bool false] 80)) (w.heap.size + 1) v zs) := (HG.out.alloc HGL.out _).own; have HNEWS : Hid (∀ j u, (chVals (((⟨#[107]⟩ : ByteArray) ++ bs (Lib.itoa (100 + (i : Int)))), z, false))[j]? = some u → (w8.alloc (.cells #[.string ((⟨#[107]⟩ : ByteArray) ++ bs (Lib.itoa (100 + (i : Int)))), .string z, .bool false] 80)).cell? ((⟨w8.heap.size, 0, none⟩ : Addr).add j) = some u) := World.news_of_block (heap_alloc_new w8 _)))
          all_goals
            go_wp2
            go_roundw
            case rel => exact ⟨i + 1, _, zs ++ [(((⟨#[107]⟩ : ByteArray) ++ bs (Lib.itoa (100 + (i : Int)))), z, false)], by go_num, by omega, by rw [Hid, List.length_append, HLN.out]; rfl, HFZ.out.snoc HKK.out HZ.out, (HG.out.alloc HGL.out _).app HGL.out HOWN2.out HGROW.out HAT.out⟩
            case measure => simp [intOf]; omega
        · go_wp2
          go_meet
          case rel => exact ⟨q, zs, v, ⟨HOK.out.1, HOK.out.2.1, hzl, HFZ.out⟩, HV5⟩
    · have n0 : ¬ x = 0 := by omega
      have n1 : ¬ x = 1 := by omega
      have n2 : ¬ x = 2 := by omega
      have n3 : ¬ x = 3 := by omega
      have n4 : ¬ x = 4 := by omega
      have n5 : ¬ x = 5 := by omega
      go_wp2
      go_meet
      case rel => exact ⟨q, cs, _, HOK.out, HX4⟩
  case rest =>
    obtain ⟨sq, cs', v, hok, HX5⟩ := hcut
    obtain ⟨A', c', rfl⟩ := HX5.out.own.form
    have b0 : wc.cell? ⟨w2.heap.size, 0, none⟩ = some (.int .i64 sq) := blk_cell HX5.out.hb 0
    have b1 : wc.cell? ⟨w2.heap.size, 1, none⟩ = some (.slice A' cs'.length c') := blk_cell HX5.out.hb 1
    have r0 := blk_frozen HX5.out.res 0
    have r1 := blk_frozen HX5.out.res 1
    have r2 : wc.cell? ⟨w.heap.size, 0, none⟩ = some (.int .i64 0) := blk_cell HX5.out.res 0
    have r3 : wc.cell? ⟨w.heap.size, 1, none⟩ = some (.slice none 0 0) := blk_cell HX5.out.res 1
    go_wp2
    exact any_end HGL.out rfl HX5.out rfl hok
end Go.Proofs.Ytekhfplbhcfdmaa
