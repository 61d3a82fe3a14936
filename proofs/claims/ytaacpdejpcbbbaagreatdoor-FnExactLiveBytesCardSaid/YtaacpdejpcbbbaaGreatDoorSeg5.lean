/- Segments: ReadSegment, the program's and the reference's. -/
import Derived.Test.YtaacpdejpcbbbaaGreatDoorSeg4
import Derived.Test.YtaacpdejpcbbbaaGreatDoorBReadS
namespace Go.Proofs.YtaacpdejpcbbbaaGreatDoor
set_option linter.unusedVariables false
set_option linter.unusedSimpArgs false
open Go.RowKit
attribute [local go_sem] bs_size List.length_cons List.length_nil List.length_append

/-- Where the last frame ends. -/
def endOf (l : Nat) (pls : List PlD) : Nat := match pls.getLast? with
  | none => l
  | some p => p.2.1 + p.2.2
theorem endOf_snoc (l : Nat) (pls : List PlD) (p : PlD) : endOf l (pls ++ [p]) = p.2.1 + p.2.2 := by unfold endOf; rw [List.getLast?_concat]
theorem placedGo_le : ∀ (rs : List ByteArray) (last : Option Int) (a : Nat), (∀ x ∈ rs, 1 ≤ x.size ∧ x.size ≤ 9000) → ∀ p ∈ placedGo last a rs, p.2.1 ≤ a + 9020 * rs.length ∧ p.2.2 ≤ 9020
  | [], last, a, _, p, hp => by simp [placedGo] at hp
  | r :: rs, last, a, h, p, hp => by
    have hl := frameLen_le (h r (by simp)).2
    have ih := fun b => placedGo_le rs (some b) (a + frameLen r) (fun x hx => h x (by simp [hx])) p
    have go : ∀ b : BatD, p ∈ (b, a, frameLen r) :: placedGo (some b.1) (a + frameLen r) rs → p.2.1 ≤ a + 9020 * (r :: rs).length ∧ p.2.2 ≤ 9020 := by
      intro b hp
      rw [List.length_cons]
      rcases List.mem_cons.1 hp with rfl | hp
      · dsimp only; omega
      · have := ih b.1 hp
        omega
    cases hb : readBatS r with
    | none => rw [placedGo_none hb] at hp; simp at hp
    | some b =>
      cases last with
      | none => rw [placedGo_first hb] at hp; exact go b hp
      | some q =>
        by_cases hq : b.1 ≤ q
        · rw [placedGo_low hb hq] at hp; simp at hp
        · rw [placedGo_next hb hq] at hp; exact go b hp
theorem placedGo_len : ∀ (rs : List ByteArray) (last : Option Int) (a : Nat), (placedGo last a rs).length ≤ rs.length
  | [], last, a => by simp [placedGo]
  | r :: rs, last, a => by
    have ih := fun b => placedGo_len rs (some b) (a + frameLen r)
    cases hb : readBatS r with
    | none => rw [placedGo_none hb]; simp
    | some b =>
      have := ih b.1
      cases last with
      | none => rw [placedGo_first hb]; simp only [List.length_cons]; omega
      | some q =>
        by_cases hq : b.1 ≤ q
        · rw [placedGo_low hb hq]; simp
        · rw [placedGo_next hb hq]; simp only [List.length_cons]; omega
theorem results_tmp4 {fn : Func} {t u v x : Tmp} (h : fn.results = #[.tmp t, .tmp u, .tmp v, .tmp x]) (tmps : Array Value) (P : Program) (w : World) :
    (results fn tmps).run P w = .ok (.tuple #[tmps.getD t undef, tmps.getD u undef, tmps.getD v undef, tmps.getD x undef]) w := by
  simp [results, h]
/-- A batch's cells. -/
def batVals (z : Value × BatD) : List Value := [.int .i64 z.2.1, z.1]
def BatsOwn (w : World) (B : Nat) (v : Value) (bs : List BatD) : Prop := ListC 62 2 batVals (fun b => b.2) w B v bs
def SegPost (w : World) (o : Option (Nat × Nat × List PlD)) (e : Ending) (w' : World) : Prop := Below w.heap.size w w' ∧ match o with
  | none => ∃ v, e = .returned (.tuple #[.int .i64 0, v, .int .i64 0, .bool false]) ∧ BatsOwn w' w.heap.size v []
  | some (f, l, pls) => ∃ v, e = .returned (.tuple #[.int .i64 (f : Int), v, .int .i64 (endOf l pls : Int), .bool true]) ∧ BatsOwn w' w.heap.size v (pls.map Prod.fst)
theorem segPost_no {w w' : World} {o : Option (Nat × Nat × List PlD)} {v : Value} (he : o = none) (ho : BatsOwn w' w.heap.size v []) (hb : Below w.heap.size w w') : SegPost w o (.returned (.tuple #[.int .i64 0, v, .int .i64 0, .bool false])) w' := by
  subst he
  exact ⟨hb, v, rfl, ho⟩
theorem segPost_of {w w' : World} {o : Option (Nat × Nat × List PlD)} {f l en : Nat} {pls acc : List PlD} {v : Value} (he : o = some (f, l, pls)) (hw : pls = acc) (hen : endOf l acc = en) (ho : BatsOwn w' w.heap.size v (acc.map Prod.fst)) (hb : Below w.heap.size w w') : SegPost w o (.returned (.tuple #[.int .i64 (f : Int), v, .int .i64 (en : Int), .bool true])) w' := by
  subst he hw hen
  exact ⟨hb, v, rfl, ho⟩
theorem info_bt : (Tryz.prog.info? 62).map (fun i => (i.zero, i.size, i.bytes)) = some (some (.agg #[.int .i64 0, .slice none 0 0]), 2, 32) := by kernel_rfl
theorem segPl_bound {n : Int} {s : ByteArray} {f l : Nat} {pls : List PlD} (h : segPl n s = some (f, l, pls)) : headOfB n s = some (f, l) ∧ pls.length ≤ 20000 ∧ ∀ p ∈ pls, p.2.1 ≤ 200000000 ∧ p.2.2 ≤ 9020 := by
  cases hh : headOfB n s with
  | none => rw [segPl_none hh] at h; cases h
  | some x =>
    obtain ⟨f', l'⟩ := x
    obtain ⟨r, rs, hu, hl, he⟩ := segPl_some hh
    rw [he] at h
    simp only [Option.some.injEq, Prod.mk.injEq] at h
    obtain ⟨rfl, rfl, rfl⟩ := h
    obtain ⟨_, hlen, hsm⟩ := unframeB_le s
    rw [hu] at hlen hsm
    rw [List.length_cons] at hlen
    have hl9 : l' ≤ 9020 := by rw [hl]; exact frameLen_le (hsm r (by simp)).2
    refine ⟨rfl, ?_, fun p hp => ?_⟩
    · have := placedGo_len rs none l'
      omega
    · have := placedGo_le rs none l' (fun x hx => hsm x (by simp [hx])) p hp
      omega
/-- The rows of a list, its outer row aside: what another outer row over the same rows wants. -/
theorem listC_of {w w' : World} {B B' : Nat} {zs : List (Value × PlD)} {v : Value} (h2 : RowsC w B (zs.map Prod.fst) ((zs.map Prod.snd).map fun p => p.1.2)) (hb : Below w.heap.size w w') (hB : B' ≤ B) (hB' : B' ≤ w.heap.size)
    (ho : w'.ownsRow w.heap.size 62 2 v zs.length ((zs.map fun z => batVals (z.1, z.2.1)).flatten)) : BatsOwn w' B' v ((zs.map Prod.snd).map Prod.fst) := by
  refine ⟨zs.map fun z => (z.1, z.2.1), by simp [List.map_map, Function.comp_def], ⟨?_, fun k hk z hz e => ?_⟩, ?_⟩
  · rw [List.length_map, List.map_map]
    exact own_low ho hB'
  · obtain ⟨q, hq, rfl⟩ := List.mem_map.1 hz
    have h3 := (ho.lt k hk).1
    have h4 := (h2.lt q.1 (List.mem_map_of_mem hq) k e).2
    omega
  · have := (h2.kept (grown_of_below (r := none) hb) fun u _ k _ e => by cases e).mono hB
    simpa [List.map_map, Function.comp_def] using this
set_option maxHeartbeats 4000000 in
set_option maxRecDepth 100000 in
theorem impl_ReadSegment_calls (n : Int) (s : ByteArray) (w : World) (hs : s.size ≤ 1125899906842624) : Calls Tryz.prog 62 #[.int .i64 n, .string s] w (SegPost w (segPl n s)) := by
  obtain ⟨i0, hi0, hz, hsz, hby⟩ := info_parts info_bt
  cases hh : segPl n s with
  | none =>
    have HH := Lib.hid hh
    clear hh
    go_enter Tryz.func62, Tryz.ntmps62
    go_wp2_with fail
    go_at_call 41
    refine (impl_placedIn_calls n s _ hs).mono ?_
    rw [HH.out]
    rintro e w1 ⟨hb, rfl⟩
    go_wp2
    refine bodyPost_ret (results_tmp4 rfl _ _ _) rfl ?_
    exact segPost_no rfl (ListC.nil _ _) hb
  | some x =>
    obtain ⟨f, l, pls⟩ := x
    obtain ⟨hho, hpl, hpb⟩ := segPl_bound hh
    have HH := Lib.hid hh
    have HHO := Lib.hid hho
    have HPB := Lib.hid hpb
    clear hh hho hpb
    go_enter Tryz.func62, Tryz.ntmps62
    go_wp2_with fail
    go_at_call 41
    refine (impl_placedIn_calls n s _ hs).mono ?_
    rw [HH.out]
    rintro e w1 ⟨hb, v, rfl, zs, rfl, ho, hr⟩
    rw [List.length_map] at hpl
    have HB1 := Lib.hid hb
    have HO1 := Lib.hid ho
    have HR1 := Lib.hid hr
    clear hb ho hr
    go_wp2_with fail
    go_at_call 84
    refine (impl_headOf_calls n s _ hs).mono ?_
    rw [HHO.out]
    rintro e w2 ⟨rfl, hb⟩
    simp only [hoRes]
    have HB2 := Lib.hid (HB1.out.trans (hb.mono HB1.out.size))
    have HR2 := Lib.hid (HR1.out.kept (grown_of_below (r := none) hb) fun u _ k _ e => by cases e)
    have HO2 := Lib.hid (own_keep HO1.out.1 hb)
    clear hb
    obtain ⟨A, c, rfl, hcells⟩ : ∃ A c, v = .slice A zs.length c ∧ (0 < zs.length → ∃ g, A = some ⟨g, 0, none⟩ ∧ g < w2.heap.size ∧ ∀ j z d, zs[j]? = some z → d < 4 → w2.cell? ⟨g, j * 4 + d, none⟩ = (plVals z)[d]?) := by
      rcases own_cells (f := plVals) (m := 4) (fun _ => rfl) HO2.out with ⟨rfl, rfl⟩ | ⟨g, cap, rfl, _, h1, _, _, h2⟩
      · exact ⟨none, 0, rfl, fun h => by simp at h⟩
      · exact ⟨_, cap, rfl, fun _ => ⟨g, rfl, h1, h2⟩⟩
    have HC := Lib.hid hcells
    clear hcells
    go_wp2
    go_loopw [12, 14, 35] (fun ev ov iv wr => ∃ (j : Nat) (v : Value), j ≤ zs.length ∧ iv = .int .i64 (j : Int) ∧ ev = .int .i64 (endOf l ((zs.take j).map Prod.snd) : Int) ∧ v = ov ∧ wr.ownsRow w2.heap.size 62 2 v j (((zs.take j).map fun z => batVals (z.1, z.2.1)).flatten) ∧ Below w2.heap.size w2 wr) (fun _ _ iv _ => zs.length - (intOf iv).toNat)
    case atStart => exact ⟨0, _, Nat.zero_le _, rfl, rfl, rfl, World.ownsRow_nil _ _ _ _, Below.refl _ _⟩
    case round =>
      obtain ⟨j, v, hj, rfl, rfl, rfl, hown, hbel⟩ := hrel
      have HO := Lib.hid hown
      have HB := Lib.hid hbel
      clear hown hbel
      by_cases hlt : j < zs.length
      · obtain ⟨z, hz1⟩ : ∃ z, zs[j]? = some z := ⟨_, List.getElem?_eq_getElem hlt⟩
        obtain ⟨g, hA, hgl, hcc⟩ := HC.out (by omega)
        cases hA
        obtain ⟨u, cs', e1, _, hu, hsm⟩ := HR2.out.at_ (j := j) (by rw [List.length_map]; exact hlt)
        rw [List.getElem?_map, hz1] at e1
        obtain rfl : z.1 = u := by simpa using e1
        obtain ⟨Au, cu, hform, _⟩ := hu.row hsm
        have hpb := HPB.out z.2 (List.mem_map_of_mem (List.mem_of_getElem? hz1))
        have HTK := Lib.hid (take_snoc hz1)
        obtain ⟨u, ⟨q, cs⟩, a, sz⟩ := z
        dsimp only at hform hpb
        subst hform
        have q0 : w2.cell? ⟨g, j * 4, none⟩ = some (.int .i64 q) := hcc j _ 0 hz1 (by omega)
        have q1 : w2.cell? ⟨g, j * 4 + 1, none⟩ = some (.slice Au cs'.length cu) := hcc j _ 1 hz1 (by omega)
        have q2 : w2.cell? ⟨g, j * 4 + 2, none⟩ = some (.int .i64 (a : Int)) := hcc j _ 2 hz1 (by omega)
        have q3 : w2.cell? ⟨g, j * 4 + 3, none⟩ = some (.int .i64 (sz : Int)) := hcc j _ 3 hz1 (by omega)
        have k0 := (HB.out.cell (World.block_lt_of_cell? w2 _ q0)).trans q0
        have k1 := (HB.out.cell (World.block_lt_of_cell? w2 _ q1)).trans q1
        have k2 := (HB.out.cell (World.block_lt_of_cell? w2 _ q2)).trans q2
        have k3 := (HB.out.cell (World.block_lt_of_cell? w2 _ q3)).trans q3
        clear hz1 hcc hu hsm e1 q0 q1 q2 q3
        generalize hWA : wr.alloc (.cells #[.int .i64 q, .slice Au cs'.length cu, .int .i64 (a : Int), .int .i64 (sz : Int)] 75) = WA
        have f0 : WA.cell? ⟨wr.heap.size, 0, none⟩ = some (.int .i64 q) := by rw [← hWA]; exact blk_cell (blk_new wr _) 0
        have f1 : WA.cell? ⟨wr.heap.size, 1, none⟩ = some (.slice Au cs'.length cu) := by rw [← hWA]; exact blk_cell (blk_new wr _) 1
        have f2 : WA.cell? ⟨wr.heap.size, 2, none⟩ = some (.int .i64 (a : Int)) := by rw [← hWA]; exact blk_cell (blk_new wr _) 2
        have f3 : WA.cell? ⟨wr.heap.size, 3, none⟩ = some (.int .i64 (sz : Int)) := by rw [← hWA]; exact blk_cell (blk_new wr _) 3
        have HBA : Hid (Below wr.heap.size wr WA) := by rw [← hWA]; exact (Below.refl _ _).alloc (Nat.le_refl _) _
        have HX6 : Hid (Below wr.heap.size wr (WA.alloc (.cells (batVals (.slice Au cs'.length cu, (q, cs))).toArray 62))) := HBA.out.alloc HBA.out.size _
        have HFL := Lib.hid (own_keep HO.out HX6.out)
        have HBASE : Hid (w2.heap.size ≤ (WA.alloc (.cells (batVals (.slice Au cs'.length cu, (q, cs))).toArray 62)).heap.size) := Nat.le_trans HB.out.size HX6.out.size
        have HNEWS : Hid (∀ j u, (batVals (.slice Au cs'.length cu, (q, cs)))[j]? = some u → (WA.alloc (.cells (batVals (.slice Au cs'.length cu, (q, cs))).toArray 62)).cell? ((⟨WA.heap.size, 0, none⟩ : Addr).add j) = some u) := World.news_of_block (heap_alloc_new WA _)
        have HBL := Lib.hid (fun k (hk : v.ownBlock = some k) => HO.out.lt k hk)
        have HEN : Hid (endOf l ((zs.take (j + 1)).map Prod.snd) = a + sz) := by rw [Hid, HTK.out, List.map_append]; exact endOf_snoc _ _ _
        have HFN : Hid (((zs.take (j + 1)).map fun z => batVals (z.1, z.2.1)).flatten = ((zs.take j).map fun z => batVals (z.1, z.2.1)).flatten ++ batVals (.slice Au cs'.length cu, (q, cs))) := by rw [Hid, HTK.out, List.map_append, List.flatten_append]; simp
        go_wp2_with (at_builtin; refine wpList_append_lies _ rfl _ _ _ rfl w2.heap.size 62 i0 (.agg #[.int .i64 0, .slice none 0 0]) 2 32 Tryz.underlying92 hi0 hz hsz hby rfl (by omega) _ j _ rfl HFL.out ⟨WA.heap.size, 0, none⟩ 1 1 (batVals (.slice Au cs'.length cu, (q, cs))) rfl rfl HNEWS.out (by simp [Value.oneCell', batVals]) (by omega) (by unfold maxLen; omega) (by omega) HBASE.out _ rfl ?_; intro b7 cap7 w7 hown7 hgrow7 hat7 hlt7; have g0 : w7.cell? ⟨wr.heap.size, 2, none⟩ = some (.int .i64 (a : Int)) := hgrow7.cell (cell_new f2 _) (fun e => by have := (HBL.out _ e.symm).2; simp at this); have g1 : w7.cell? ⟨wr.heap.size, 3, none⟩ = some (.int .i64 (sz : Int)) := hgrow7.cell (cell_new f3 _) (fun e => by have := (HBL.out _ e.symm).2; simp at this); have HN7 := Lib.hid hown7; have HB7 : Hid (Below w2.heap.size w2 w7) := gr_below (HB.out.trans (HX6.out.mono HB.out.size)) hgrow7 HBASE.out (fun k e => (HBL.out k e).1); clear hown7 hgrow7 hat7 hlt7)
        all_goals
          go_roundw
          case rel => exact ⟨j + 1, _, by omega, by go_num, by rw [HEN.out]; go_num, rfl, by rw [HFN.out]; exact HN7.out, HB7.out⟩
          case measure => simp [intOf]; omega
      · obtain rfl : j = zs.length := by omega
        go_wp2
        refine bodyPost_ret (results_tmp4 rfl _ _ _) rfl ?_
        refine segPost_of (pls := zs.map Prod.snd) (acc := zs.map Prod.snd) rfl rfl (by rw [List.take_length]) (listC_of HR2.out HB.out (Nat.le_refl _) HB2.out.size (by have h := HO.out; rw [List.take_length] at h; exact h)) (HB2.out.trans (HB.out.mono HB2.out.size))
end Go.Proofs.YtaacpdejpcbbbaaGreatDoor
