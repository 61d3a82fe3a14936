/- The draws: lists of changes. -/
import Derived.Test.YtdkdlgioabjldaaDraw4
import Derived.Test.YtdkdlgioabjldaaSeg3
import Derived.Deep.CutRange
namespace Go.Proofs.Ytdkdlgioabjldaa
set_option linter.unusedVariables false
set_option linter.unusedSimpArgs false
open Go.RowKit
attribute [local go_sem] bs_size List.length_cons List.length_nil List.length_append

/-- Changes, drawn: texts that are small, a row of the call's own. -/
def Few (n m : Nat) (cs : List ChD) : Prop := ∀ x ∈ cs, x.1.size ≤ n ∧ x.2.1.size ≤ m
def ChPost (w : World) (g : Nat) (e : Ending) (w' : World) : Prop := ∃ (cs : List ChD) (v : Value), e = .returned v ∧ ChOwn w' w.heap.size v cs ∧ 1 ≤ cs.length ∧ cs.length ≤ 6 ∧ Few 20 20 cs ∧ Drawn w g w'
theorem Few.snoc {n m : Nat} {cs : List ChD} {x : ChD} (h : Few n m cs) (h1 : x.1.size ≤ n) (h2 : x.2.1.size ≤ m) : Few n m (cs ++ [x]) := by
  intro y hy
  rcases List.mem_append.1 hy with hy | hy
  · exact h y hy
  · obtain rfl := List.mem_singleton.1 hy
    exact ⟨h1, h2⟩
theorem ChOwn.drawn {w w' : World} {B g : Nat} {v : Value} {cs : List ChD} (h : ChOwn w B v cs) (hd : Drawn w g w') (hg : g < B) : ChOwn w' B v cs := h.kept hd.2 fun k hk e => by have := (h.lt k hk).1; cases e; omega
def keys6 : List ByteArray := [⟨#[97]⟩, ⟨#[98]⟩, ⟨#[99]⟩, ⟨#[100]⟩, ⟨#[107, 101, 121]⟩, ⟨#[107, 107]⟩]
theorem keys6_at {i : Nat} (h : i < 6) : ∃ x, keys6[i]? = some x ∧ x.size ≤ 20 := by
  have : i = 0 ∨ i = 1 ∨ i = 2 ∨ i = 3 ∨ i = 4 ∨ i = 5 := by omega
  rcases this with rfl | rfl | rfl | rfl | rfl | rfl <;> exact ⟨_, rfl, by decide⟩
abbrev keysObj : Obj := .cells #[.string ⟨#[97]⟩, .string ⟨#[98]⟩, .string ⟨#[99]⟩, .string ⟨#[100]⟩, .string ⟨#[107, 101, 121]⟩, .string ⟨#[107, 107]⟩] 9
theorem keys_cell {w : World} {b i : Nat} {x : ByteArray} (h : w.heap[b]? = some keysObj) (hx : keys6[i]? = some x) : w.cell? ⟨b, i, none⟩ = some (.string x) := by
  rw [blk_cell h i]
  show ((keys6.map Value.string).toArray)[i]? = some (.string x)
  rw [List.getElem?_toArray, List.getElem?_map, hx]
  rfl
theorem keys_keep {w1 w2 w3 w4 : World} {g b bx : Nat} {o : Obj} (h : w1.heap[b]? = some o) (h1 : w1.grownBy w2 (some g)) (h2 : w2.grownBy w3 (some g)) (h3 : w3.grownBy w4 (some bx)) (hg : b ≠ g) (hb : b ≠ bx) : w4.heap[b]? = some o := by
  have l1 := blk_lt h
  have e1 := (h1.block b l1 (by intro e; exact hg (Option.some.inj e))).trans h
  have e2 := (h2.block b (blk_lt e1) (by intro e; exact hg (Option.some.inj e))).trans e1
  exact (h3.block b (blk_lt e2) (by intro e; exact hb (Option.some.inj e))).trans e2
abbrev zChObj : Obj := .cells #[.string ⟨#[]⟩, .string ⟨#[]⟩, .bool false] 93
/-- A change under way in its block, beside the row. -/
structure CX (w : World) (g : Nat) (cs : List ChD) (v : Value) (x z : ByteArray) (gn : Bool) (bx : Nat) (W : World) : Prop where
  obj : W.heap[bx]? = some (.cells #[.string x, .string z, .bool gn] 93)
  far : w.heap.size + 1 < bx
  own : ∀ k, v.ownBlock = some k → k < bx
  drawn : Drawn w g W
  keys : W.heap[w.heap.size + 1]? = some keysObj
  row : ChOwn W w.heap.size v cs
theorem CX.mk' {w w1 w2 w3 W : World} {g bx : Nat} {cs : List ChD} {v : Value} {x z : ByteArray} {gn : Bool} (h1 : Drawn w g w1) (k1 : w1.heap[w.heap.size + 1]? = some keysObj) (o1 : ChOwn w1 w.heap.size v cs) (h2 : Drawn w1 g w2) (h3 : Drawn w2 g w3) (hg : g < w.heap.size) (hb : w1.heap.size ≤ bx) (h4 : w3.grownBy W (some bx)) (hx : W.heap[bx]? = some (.cells #[.string x, .string z, .bool gn] 93)) : CX w g cs v x z gn bx W := by
  have hfar : w.heap.size + 1 < bx := Nat.lt_of_lt_of_le (blk_lt k1) hb
  refine ⟨hx, hfar, fun k hk => Nat.lt_of_lt_of_le (o1.lt k hk).2 hb, ?_, keys_keep k1 h2.2 h3.2 h4 (by omega) (by omega), ?_⟩
  · exact ((h1.trans h2).trans h3).grown hg h4 (fun k e => by cases e; omega)
  · exact ((o1.drawn h2 hg).drawn h3 hg).kept h4 (fun k hk e => by have := (o1.lt k hk).2; cases e; omega)
theorem CX.draw {w W W' : World} {g bx : Nat} {cs : List ChD} {v : Value} {x z : ByteArray} {gn : Bool} (h : CX w g cs v x z gn bx W) (hg : g < w.heap.size) (hd : Drawn W g W') : CX w g cs v x z gn bx W' := by
  have := h.far
  exact ⟨(hd.2.block _ (blk_lt h.obj) (by intro e; have := Option.some.inj e; omega)).trans h.obj, h.far, h.own, h.drawn.trans hd, (hd.2.block _ (blk_lt h.keys) (by intro e; have := Option.some.inj e; omega)).trans h.keys, h.row.drawn hd hg⟩
theorem CX.set {w W W' : World} {g bx : Nat} {cs : List ChD} {v : Value} {x z z' : ByteArray} {gn gn' : Bool} (h : CX w g cs v x z gn bx W) (hg : g < w.heap.size) (h4 : W.grownBy W' (some bx)) (hx : W'.heap[bx]? = some (.cells #[.string x, .string z', .bool gn'] 93)) : CX w g cs v x z' gn' bx W' := by
  have := h.far
  exact ⟨hx, h.far, h.own, h.drawn.grown hg h4 (fun k e => by cases e; omega), (h4.block _ (blk_lt h.keys) (by intro e; have := Option.some.inj e; omega)).trans h.keys, h.row.kept h4 (fun k hk e => by have := h.own k hk; cases e; omega)⟩
set_option maxHeartbeats 8000000 in
set_option maxRecDepth 100000 in
theorem spec_l05List_calls (g : Nat) (w : World) (h : Cu w g) : Calls Try.prog 72 #[.pointer (some ⟨g, 0, none⟩)] w (ChPost w g) := by
  obtain ⟨i0, hi0, hz, hsz, hby⟩ := info_parts info_ch
  have HC := Lib.hid h
  have HGL := Lib.hid h.lt
  clear h
  have HD0 : Hid (Drawn w g ((w.alloc (.cells #[] 93)).alloc keysObj)) := (Drawn.alloc HC.out _).trans (Drawn.alloc (Drawn.alloc HC.out _).1 _)
  have HK0 : Hid (((w.alloc (.cells #[] 93)).alloc keysObj).heap[w.heap.size + 1]? = some keysObj) := by
    have := blk_new (w.alloc (.cells #[] 93)) keysObj
    rw [show (w.alloc (.cells #[] 93)).heap.size = w.heap.size + 1 by simp] at this
    exact this
  have HO0 : Hid (ChOwn ((w.alloc (.cells #[] 93)).alloc keysObj) w.heap.size (.slice (some ⟨w.heap.size, 0, none⟩) 0 0) []) := World.ownsRow.alloc (World.ownsRow_made (w := w) #[] 0 (Nat.le_refl _) (Nat.zero_le _) rfl) _
  go_enter Try.func72, Try.ntmps72
  go_wp2
  go_loopw [3, 5] (fun ov iv wr => ∃ (i : Nat) (cs : List ChD) (v : Value), i ≤ 6 ∧ iv = .int .i64 (i : Int) ∧ v = ov ∧ cs.length ≤ i ∧ Few 20 20 cs ∧ ChOwn wr w.heap.size v cs ∧ Drawn w g wr ∧ wr.heap[w.heap.size + 1]? = some keysObj ∧ v.ownBlock ≠ some (w.heap.size + 1)) (fun _ iv _ => 6 - (intOf iv).toNat)
  case atStart => exact ⟨0, [], _, by omega, rfl, rfl, Nat.zero_le _, fun x hx => (by simp at hx), HO0.out, HD0.out, HK0.out, by simp [Value.ownBlock]⟩
  case round =>
    obtain ⟨i, cs, v, hi, rfl, rfl, hcl, hfw, hown, hd, hk, hne⟩ := hrel
    have HCL := Lib.hid hcl
    have HF := Lib.hid hfw
    have HO := Lib.hid hown
    have HD := Lib.hid hd
    have HK := Lib.hid hk
    have HNE := Lib.hid hne
    clear hcl hfw hown hd hk hne
    by_cases hlt : i < 6
    · obtain ⟨x, hx, hx20⟩ := keys6_at hlt
      have HX := Lib.hid hx
      have hli : (i : Int) < 6 := by omega
      clear hx
      go_wp2_with fail
      go_at_call 27
      refine (spec_l01Once_calls g 3 _ HD.out.1 (by omega)).mono ?_
      rintro e w1 ⟨b, rfl, hd⟩
      have HO1 := Lib.hid (HO.out.drawn hd HGL.out)
      have HD1 := Lib.hid (HD.out.trans hd)
      have HK1 : Hid (w1.heap[w.heap.size + 1]? = some keysObj) := (hd.2.block _ (blk_lt HK.out) (by intro e; have := Option.some.inj e; have := HGL.out; omega)).trans HK.out
      clear hd
      cases b
      · go_wp2
        go_roundw
        case rel => exact ⟨i + 1, cs, v, by omega, by go_num, rfl, by have := HCL.out; omega, HF.out, HO1.out, HD1.out, HK1.out, HNE.out⟩
        case measure => simp [intOf]; omega
      · have hk1 := keys_cell HK1.out HX.out
        have HCU : Hid (Cu w1.drew g) := HD1.out.drew.1
        have hk1a := cell_new hk1 zChObj
        clear hk1 hk1a
        go_upto_region 7 with fail
        go_cut [6] from 9 to 37 (fun pv wx => ∃ (bx : Nat) (z : ByteArray), pv = .pointer (some ⟨bx, 0, none⟩) ∧ z.size ≤ 20 ∧ Hid (CX w g cs v x z false bx wx))
        case first =>
          have hk1 := keys_cell HK1.out HX.out
          have hk1a := cell_new hk1 zChObj
          go_wp2
          go_region_law (first | (go_simp; go_at_call 34; refine (spec_l01Below_calls g 12 _ (by first | exact HCU.out | exact (HD1.out.1.alloc _)) (by omega)).mono ?_; rintro e w2 ⟨y, rfl, hy0, hy1, _, hd2⟩; have HD2 : Hid (Drawn w1 g w2) := (by first | exact (Drawn.refl HD1.out.1).drew.trans hd2 | exact (Drawn.alloc HD1.out.1 _).drew.trans hd2); have hy2 := hy1 (by omega); (first | (have HB2 : Hid (w2.heap[w1.heap.size]? = some zChObj) := (hd2.2.block _ (by simp) (by intro e; have := Option.some.inj e; have := HGL.out; have := HD1.out.2.size; omega)).trans (blk_new w1 _)) | skip); clear hd2 hy1; have hk2 : w2.cell? ⟨w.heap.size + 1, i, none⟩ = some (.string x) := (HD2.out.2.cell hk1 (by have := HGL.out; simp; omega)); have hk2a := cell_new hk2 zChObj) | (go_simp; go_at_call 49; refine (spec_l01Text_calls g y _ (by first | exact HD2.out.1 | exact HD2.out.1.alloc _) (by omega) (by omega)).mono ?_; rintro e w3 ⟨z, rfl, hzs, hd3⟩; have HD3 : Hid (Drawn w2 g w3) := (by first | exact hd3 | exact (Drawn.alloc HD2.out.1 _).trans hd3); have HZS := Lib.hid hzs; (first | (have HB3 : Hid (w3.heap[w2.heap.size]? = some zChObj) := (hd3.2.block _ (by simp) (by intro e; have := Option.some.inj e; have := HGL.out; have := HD1.out.2.size; have := HD2.out.2.size; omega)).trans (blk_new w2 _); have x0 := blk_cell HB3.out 0; have x1 := blk_cell HB3.out 1; have x2 := blk_cell HB3.out 2; have z0 := blk_frozen HB3.out 0; have z1 := blk_frozen HB3.out 1; have z2 := blk_frozen HB3.out 2) | (have HB3 : Hid (w3.heap[w1.heap.size]? = some zChObj) := (hd3.2.block _ (blk_lt HB2.out) (by intro e; have := Option.some.inj e; have := HGL.out; have := HD1.out.2.size; omega)).trans HB2.out; have x0 := blk_cell HB3.out 0; have x1 := blk_cell HB3.out 1; have x2 := blk_cell HB3.out 2; have z0 := blk_frozen HB3.out 0; have z1 := blk_frozen HB3.out 1; have z2 := blk_frozen HB3.out 2) | skip); clear hd3 hzs; have hk3 : w3.cell? ⟨w.heap.size + 1, i, none⟩ = some (.string x) := (HD3.out.2.cell hk2 (by have := HGL.out; simp; omega)); have hk3a := cell_new hk3 zChObj))
          all_goals go_wp2
          all_goals go_meet
          all_goals
            refine ⟨_, z, rfl, (by have := HZS.out; omega), ?_⟩
            first
            | exact CX.mk' HD1.out HK1.out HO1.out HD2.out HD3.out HGL.out (Nat.le_trans HD2.out.2.size HD3.out.2.size) (World.grownBy_alloc w3 _ _) (blk_new w3 _)
            | exact CX.mk' HD1.out HK1.out HO1.out HD2.out HD3.out HGL.out HD2.out.2.size (grown_set' (grown_set' (grown_set' (World.grownBy.refl w3 _) 0 _) 1 _) 2 _) (by rw [blk_set (blk_set (blk_set HB3.out 0 _) 1 _) 2 _]; rfl)
            | exact CX.mk' HD1.out HK1.out HO1.out HD2.out HD3.out HGL.out (Nat.le_refl _) (grown_set' (grown_set' (grown_set' (World.grownBy.refl w3 _) 0 _) 1 _) 2 _) (by rw [blk_set (blk_set (blk_set HB3.out 0 _) 1 _) 2 _]; rfl)
        case rest =>
          obtain ⟨bx, z, rfl, hzs, HCX⟩ := hcut
          have HZS := Lib.hid hzs
          clear hzs
          go_upto_if 28 with (go_at_call 27; refine (spec_l01Once_calls g 4 _ HCX.out.drawn.1 (by omega)).mono ?_; rintro e w5 ⟨b2, rfl, hd5⟩)
          have HCX5 := Lib.hid (HCX.out.draw HGL.out hd5)
          clear hd5
          go_cut [] from 9 to 37 (fun wx => ∃ (y : ByteArray) (gn : Bool), y.size ≤ 20 ∧ Hid (CX w g cs v x y gn bx wx))
          case first =>
            cases b2
            · go_wp2
              go_meet
              case rel => exact ⟨z, false, HZS.out, HCX5⟩
            · have hk5 := keys_cell HCX5.out.keys HX.out
              have c0 : w5.cell? ⟨bx, 0, none⟩ = some (.string x) := blk_cell HCX5.out.obj 0
              have c1 : w5.cell? ⟨bx, 1, none⟩ = some (.string z) := blk_cell HCX5.out.obj 1
              have c2 : w5.cell? ⟨bx, 2, none⟩ = some (.bool false) := blk_cell HCX5.out.obj 2
              have f0 := blk_frozen HCX5.out.obj 0
              have f1 := blk_frozen HCX5.out.obj 1
              have f2 := blk_frozen HCX5.out.obj 2
              go_wp2
              go_meet
              case rel => exact ⟨⟨#[]⟩, true, by decide, HCX5.out.set HGL.out (grown_set' (grown_set' (grown_set' (World.grownBy.refl w5 _) 0 _) 1 _) 2 _) (by rw [blk_set (blk_set (blk_set HCX5.out.obj 0 _) 1 _) 2 _]; rfl)⟩
          case rest =>
            clear HCX HCX5 HZS
            obtain ⟨y, gn, hys, HCX⟩ := hcut
            have HYS := Lib.hid hys
            clear hys
            generalize wc = w6 at HCX ⊢
            have c0 : w6.cell? ⟨bx, 0, none⟩ = some (.string x) := blk_cell HCX.out.obj 0
            have c1 : w6.cell? ⟨bx, 1, none⟩ = some (.string y) := blk_cell HCX.out.obj 1
            have c2 : w6.cell? ⟨bx, 2, none⟩ = some (.bool gn) := blk_cell HCX.out.obj 2
            have HOWN := Lib.hid (own_keep HCX.out.row ((Below.refl _ _).alloc (Nat.le_refl _) (.cells (chVals (x, y, gn)).toArray 93)))
            have HBASE : Hid (w.heap.size ≤ ((w6).alloc (.cells (chVals (x, y, gn)).toArray 93)).heap.size) := by have := HCX.out.drawn.2.size; simp [Hid] at this ⊢; omega
            have HNEWS : Hid (∀ j u, (chVals (x, y, gn))[j]? = some u → ((w6).alloc (.cells (chVals (x, y, gn)).toArray 93)).cell? ((⟨(w6).heap.size, 0, none⟩ : Addr).add j) = some u) := World.news_of_block (heap_alloc_new (w6) _)
            have hcl2 := HCL.out
            go_wp2_with (at_builtin; refine wpList_append_lies _ rfl _ _ _ rfl w.heap.size 93 i0 (.agg #[.string ⟨#[]⟩, .string ⟨#[]⟩, .bool false]) 3 40 Try.underlying88 hi0 hz hsz hby rfl (by omega) v cs.length (chFlat cs) rfl HOWN.out ⟨(w6).heap.size, 0, none⟩ 1 1 (chVals (x, y, gn)) rfl rfl HNEWS.out (by simp [Value.oneCell', chVals]) (by omega) (by unfold maxLen; omega) (by omega) HBASE.out _ rfl ?_; intro b7 cap7 w7 hown7 hgrow7 hat7 hlt7; have HN7 := Lib.hid hown7; have HG7 := Lib.hid hgrow7; have HA7 := Lib.hid hat7; clear hown7 hgrow7 hat7 hlt7)
            have HD7 : Hid (Drawn w g w7) := (HCX.out.drawn.alloc' HGL.out _).grown HGL.out HG7.out (fun k hk => (HCX.out.row.lt k hk).1)
            have HK7 : Hid (w7.heap[w.heap.size + 1]? = some keysObj) := (HG7.out.block _ (by have := blk_lt HCX.out.keys; simp at this ⊢; omega) (fun e => HNE.out e.symm)).trans (gr_old HCX.out.keys _)
            have HNE7 : Hid ((Value.slice (some ⟨b7, 0, none⟩) (cs.length + 1) cap7).ownBlock ≠ some (w.heap.size + 1)) := by
              have := blk_lt HCX.out.keys
              have h7 := HA7.out
              have hn := HNE.out
              intro e
              simp only [Value.ownBlock, Option.some.injEq] at e
              rcases h7 with h7 | h7
              · rw [e] at h7; exact hn h7
              · simp at h7 this; omega
            have HC7 : Hid (ChOwn w7 w.heap.size (.slice (some ⟨b7, 0, none⟩) (cs.length + 1) cap7) (cs ++ [(x, y, gn)])) := by
              have h := HN7.out
              rw [← chFlat_snoc] at h
              unfold ChOwn
              rw [Hid, List.length_append]
              exact h
            have HF7 : Hid (Few 20 20 (cs ++ [(x, y, gn)])) := HF.out.snoc hx20 HYS.out
            clear HN7 HG7 HA7
            go_wp2
            go_roundw
            case rel => exact ⟨i + 1, cs ++ [(x, y, gn)], _, by omega, by go_num, rfl, by rw [List.length_append]; show cs.length + 1 ≤ i + 1; omega, HF7.out, HC7.out, HD7.out, HK7.out, HNE7.out⟩
            case measure => simp [intOf]; omega
    · obtain rfl : i = 6 := by omega
      obtain ⟨A9, c9, rfl⟩ : ∃ A c, v = .slice A cs.length c := by
        rcases HO.out.2 with ⟨h, h0⟩ | ⟨b, cap, cur, h, _⟩
        · exact ⟨none, 0, by rw [h, h0]⟩
        · exact ⟨_, _, h⟩
      by_cases hz0 : cs.length = 0
      · obtain rfl : cs = [] := List.length_eq_zero_iff.1 hz0
        go_wp2_with fail
        go_at_call 76
        refine (spec_l05Key_calls g _ HD.out.1).mono ?_
        rintro e w1 ⟨x, rfl, hxs, hd⟩
        have HXS := Lib.hid hxs
        have HD1 := Lib.hid (HD.out.trans hd)
        have HO1 := Lib.hid (HO.out.drawn hd HGL.out)
        clear hd hxs
        go_wp2_with fail
        go_at_call 49
        refine (spec_l01Text_calls g 3 _ HD1.out.1 (by omega) (by omega)).mono ?_
        rintro e w6 ⟨y, rfl, hys, hd⟩
        have HYS := Lib.hid hys
        have HD6 := Lib.hid (HD1.out.trans hd)
        have HO6 := Lib.hid (HO1.out.drawn hd HGL.out)
        clear hd hys
        have HOWN := Lib.hid (own_keep HO6.out ((Below.refl _ _).alloc (Nat.le_refl _) (.cells (chVals (x, y, false)).toArray 93)))
        have HBASE : Hid (w.heap.size ≤ ((w6).alloc (.cells (chVals (x, y, false)).toArray 93)).heap.size) := by have := HD6.out.2.size; simp [Hid] at this ⊢; omega
        have HNEWS : Hid (∀ j u, (chVals (x, y, false))[j]? = some u → ((w6).alloc (.cells (chVals (x, y, false)).toArray 93)).cell? ((⟨(w6).heap.size, 0, none⟩ : Addr).add j) = some u) := World.news_of_block (heap_alloc_new (w6) _)
        go_wp2_with (at_builtin; refine wpList_append_lies _ rfl _ _ _ rfl w.heap.size 93 i0 (.agg #[.string ⟨#[]⟩, .string ⟨#[]⟩, .bool false]) 3 40 Try.underlying88 hi0 hz hsz hby rfl (by omega) (.slice A9 0 c9) 0 (chFlat []) rfl HOWN.out ⟨(w6).heap.size, 0, none⟩ 1 1 (chVals (x, y, false)) rfl rfl HNEWS.out (by simp [Value.oneCell', chVals]) (by omega) (by unfold maxLen; omega) (by omega) HBASE.out _ rfl ?_; intro b7 cap7 w7 hown7 hgrow7 hat7 hlt7; have HN7 := Lib.hid hown7; have HG7 := Lib.hid hgrow7; clear hown7 hgrow7 hat7 hlt7)
        have HD7 : Hid (Drawn w g w7) := (HD6.out.alloc' HGL.out _).grown HGL.out HG7.out (fun k hk => (HO6.out.lt k hk).1)
        have HC7 : Hid (ChOwn w7 w.heap.size (.slice (some ⟨b7, 0, none⟩) (0 + 1) cap7) ([] ++ [(x, y, false)])) := by
          have h := HN7.out
          rw [← chFlat_snoc] at h
          exact h
        go_wp2
        refine bodyPost_ret (results_tmp rfl _ _ _) rfl ?_
        exact ⟨_, _, rfl, HC7.out, by simp, by simp, fun q hq => by obtain rfl := List.mem_singleton.1 hq; exact ⟨HXS.out, by show y.size ≤ 20; have := HYS.out; omega⟩, HD7.out⟩
      · have hz0i : ¬ ((cs.length : Int) = 0) := by omega
        go_wp2
        refine bodyPost_ret (results_tmp rfl _ _ _) rfl ?_
        exact ⟨cs, _, rfl, HO.out, by omega, HCL.out, HF.out, HD.out⟩
end Go.Proofs.Ytdkdlgioabjldaa
