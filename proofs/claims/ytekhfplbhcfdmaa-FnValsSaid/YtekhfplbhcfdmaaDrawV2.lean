/- The draws: values that may be wrong. -/
import Derived.Test.YtekhfplbhcfdmaaDrawV
namespace Go.Proofs.Ytekhfplbhcfdmaa
set_option linter.unusedVariables false
set_option linter.unusedSimpArgs false
open Go.RowKit
attribute [local go_sem] bs_size List.length_cons List.length_nil List.length_append

theorem VD.setAll {w : World} {g gv B : Nat} {k u k' u' : Int} {t t' : ByteArray} {v v' : Value} {xs xs' : List ByteArray} {wr : World} (h : VD w g gv B k u t v xs wr) (ho : OwnS wr B v' xs') (hn : ∀ k, v'.ownBlock = some k → k ≠ gv) (hf : xs'.length ≤ 40) (hs : ∀ x ∈ xs', x.size ≤ 100) :
    VD w g gv B k' u' t' v' xs' ((((wr.setCell ⟨gv, 0, none⟩ (.int .i64 k')).setCell ⟨gv, 1, none⟩ (.int .i64 u')).setCell ⟨gv, 2, none⟩ (.string t')).setCell ⟨gv, 3, none⟩ v') := by
  have h1 := ((h.setK k').setU u').setT t'
  have hg : wr.grownBy (((wr.setCell ⟨gv, 0, none⟩ (.int .i64 k')).setCell ⟨gv, 1, none⟩ (.int .i64 u')).setCell ⟨gv, 2, none⟩ (.string t')) (some gv) := grown_set' (grown_set' (grown_set' (World.grownBy.refl wr _) 0 _) 1 _) 2 _
  exact h1.setX (World.ownsRow.kept ho hg (ne_own hn)) hn hf hs
theorem ownS_new {w : World} {B : Nat} (hB : B ≤ w.heap.size) : OwnS (w.alloc (.cells #[] 9)) B (.slice (some ⟨w.heap.size, 0, none⟩) 0 0) [] := OwnS.empty w hB
theorem pickInt_lit (g n c : Nat) (zs : List Int) (cs : Array Value) (w : World) (h : Cu w g) (hcs : cs = (zs.map (Value.int .i64)).toArray) (hn : n = zs.length) (hc : c = zs.length) (hp : 0 < zs.length) (hl : zs.length ≤ 1000) :
    Calls Try.prog 98 #[.pointer (some ⟨g, 0, none⟩), .slice (some ⟨w.heap.size, 0, none⟩) n c] (w.alloc (.cells cs 3)) fun e w' => ∃ x ∈ zs, e = .returned (.int .i64 x) ∧ Drawn w g w' := by
  subst hcs hn hc
  have HC := Lib.hid (h.alloc (.cells (zs.map (Value.int .i64)).toArray 3))
  have HBK : Hid ((w.alloc (.cells (zs.map (Value.int .i64)).toArray 3)).heap[w.heap.size]? = some (.cells (zs.map (Value.int .i64)).toArray 3)) := blk_new w _
  have HGL := Lib.hid h.lt
  have HD0 : Hid (Drawn w g (w.alloc (.cells (zs.map (Value.int .i64)).toArray 3))) := Drawn.alloc h _
  clear h
  generalize hW : w.alloc (.cells (zs.map (Value.int .i64)).toArray 3) = W at HC HBK HD0 ⊢
  clear hW
  go_enter Try.func98, Try.ntmps98
  go_wp2_with fail
  go_at_call 97
  refine (spec_l01Below_calls g zs.length _ HC.out (by omega)).mono ?_
  rintro e w1 ⟨k, rfl, hk0, hk1, _, hd⟩
  obtain ⟨j, rfl⟩ := Int.eq_ofNat_of_zero_le hk0
  have hj : j < zs.length := by have := hk1 (by omega); omega
  have HD := Lib.hid (HD0.out.trans hd)
  obtain ⟨x, hx⟩ : ∃ x, zs[j]? = some x := ⟨_, List.getElem?_eq_getElem hj⟩
  have hb : w1.heap[w.heap.size]? = some (.cells (zs.map (Value.int .i64)).toArray 3) := (hd.2.block _ (blk_lt HBK.out) (by intro e2; have := Option.some.inj e2; have := HGL.out; omega)).trans HBK.out
  have hc' : w1.cell? ⟨w.heap.size, j, none⟩ = some (.int .i64 x) := by
    rw [blk_cell hb j, List.getElem?_toArray, List.getElem?_map, hx]
    rfl
  have HM := Lib.hid (List.mem_of_getElem? hx)
  have hji : (j : Int) < (zs.length : Int) := by omega
  clear hd hk1 hx hb HBK HC HD0
  go_wp2
  go_ret
  exact ⟨x, HM.out, rfl, HD.out⟩
theorem long60 (w : World) : Calls Try.prog 99 #[.int .i64 60, .int .u8 122] w fun e w' => ∃ x, e = .returned (.string x) ∧ x.size = 60 ∧ Below w.heap.size w w' := spec_l01Long_calls 60 122 122 w rfl (by omega)
theorem long61 (w : World) : Calls Try.prog 99 #[.int .i64 61, .int .u8 122] w fun e w' => ∃ x, e = .returned (.string x) ∧ x.size = 61 ∧ Below w.heap.size w w' := spec_l01Long_calls 61 122 122 w rfl (by omega)
theorem pick4 (g : Nat) (s1 s2 : ByteArray) (W : World) (h : Cu W g) (h1 : s1.size ≤ 61) (h2 : s2.size ≤ 61) :
    Calls Try.prog 100 #[.pointer (some ⟨g, 0, none⟩), .slice (some ⟨W.heap.size, 0, none⟩) 4 4] (W.alloc (.cells #[.string ⟨#[102]⟩, .string ⟨#[122]⟩, .string s1, .string s2] 9)) fun e w' => ∃ x, e = .returned (.string x) ∧ x.size ≤ 100 ∧ Drawn W g w' := by
  have hsz : ∀ s ∈ [⟨#[102]⟩, ⟨#[122]⟩, s1, s2], s.size ≤ 61 := by
    intro s hs
    simp only [List.mem_cons, List.not_mem_nil, or_false] at hs
    rcases hs with rfl | rfl | rfl | rfl
    · decide
    · decide
    · exact h1
    · exact h2
  have hblk : StrBlk (W.alloc (.cells #[.string ⟨#[102]⟩, .string ⟨#[122]⟩, .string s1, .string s2] 9)) W.heap.size 4 [⟨#[102]⟩, ⟨#[122]⟩, s1, s2] := ⟨[], by rw [blk_new]; rfl, rfl, by omega⟩
  refine (spec_l01Pick_calls g (some ⟨W.heap.size, 0, none⟩) 4 [⟨#[102]⟩, ⟨#[122]⟩, s1, s2] _ (h.alloc _) (hblk.row fun s hs => by have := hsz s hs; omega) (by simp) (by simp) ?_).mono ?_
  · intro ad e
    have := h.lt
    cases e
    show W.heap.size ≠ g
    omega
  · rintro e w' ⟨x, hx, rfl, hd⟩
    exact ⟨x, rfl, by have := hsz x hx; omega, (Drawn.alloc h _).trans hd⟩
set_option maxHeartbeats 8000000 in
set_option maxRecDepth 100000 in
theorem spec_l10AnyVal_calls (g : Nat) (w : World) (h : Cu w g) :
    Calls Try.prog 62 #[.pointer (some ⟨g, 0, none⟩)] w (ValPost w g 31) := by
  obtain ⟨i0, hi, hz, hsz, hby⟩ := info_parts info_str
  have HC := Lib.hid h
  clear h
  go_enter Try.func62, Try.ntmps62
  go_wp2_with fail
  go_at_call 96
  refine (spec_l10Val_calls g _ (HC.out.alloc _)).mono ?_
  rintro e w1 ⟨k, u, t, v, xs, rfl, hk, hu, ht, ho, hf, hs, hd⟩
  obtain ⟨A, c, rfl⟩ := ho.form
  have HV := Lib.hid (VD.start (B := w.heap.size + 1) (k := k) (u := u) (t := t) HC.out hd (ownS_mono ho (by simp)) (Nat.lt_succ_self _) (by have := hd.2.size; simp at this; omega) (by omega) hs)
  clear ho hs hd
  go_wp2_with fail
  go_at_call 97
  refine (spec_l01Below_calls g 24 _ HV.out.drw.1 (by omega)).mono ?_
  rintro e w2 ⟨x, rfl, hx0, hx1, _, hd⟩
  have hx1 := hx1 (by omega)
  have HV2 := Lib.hid (HV.out.drawn hd)
  clear hd
  by_cases x0 : x = 0
  · subst x0
    go_wp2_with fail
    go_at_call 98
    refine (pickInt_lit g _ _ [0, 5, 1, 3] _ _ HV2.out.drw.1 (by rfl) (by rfl) (by rfl) (by decide) (by decide)).mono ?_
    rintro e w3 ⟨k', hk', rfl, hd⟩
    have HV3 := Lib.hid (HV2.out.drawn hd)
    have c0 := HV3.out.c 0
    have f0 := HV3.out.fz 0
    have HE := Lib.hid (HV3.out.setK k')
    have hkb : -1000000000 ≤ k' ∧ k' ≤ 1000000000 := by
      simp only [List.mem_cons, List.not_mem_nil, or_false] at hk'
      omega
    clear hd hk'
    have x0 := HE.out.c 0
    have x1 := HE.out.c 1
    have x2 := HE.out.c 2
    have x3 := HE.out.c 3
    have z0 := blk_cell HE.out.res 0
    have z1 := blk_cell HE.out.res 1
    have z2 := blk_cell HE.out.res 2
    have z3 := blk_cell HE.out.res 3
    have y0 := blk_frozen HE.out.res 0
    have y1 := blk_frozen HE.out.res 1
    have y2 := blk_frozen HE.out.res 2
    have y3 := blk_frozen HE.out.res 3
    go_wp2
    exact valD_end rfl HE.out rfl hkb hu ht (by omega)
  have n0 : (x == 0) = false := beq_eq_false_iff_ne.mpr x0
  by_cases x1 : x = 1
  · subst x1
    go_wp2_with fail
    go_at_call 98
    refine (pickInt_lit g _ _ [-1, 100000, 100001] _ _ HV2.out.drw.1 (by rfl) (by rfl) (by rfl) (by decide) (by decide)).mono ?_
    rintro e w3 ⟨k', hk', rfl, hd⟩
    have HV3 := Lib.hid (HV2.out.drawn hd)
    have c1 := HV3.out.c 1
    have f1 := HV3.out.fz 1
    have HE := Lib.hid (HV3.out.setU k')
    have hkb : -1000000000 ≤ k' ∧ k' ≤ 1000000001 := by
      simp only [List.mem_cons, List.not_mem_nil, or_false] at hk'
      omega
    clear hd hk'
    have x0 := HE.out.c 0
    have x1 := HE.out.c 1
    have x2 := HE.out.c 2
    have x3 := HE.out.c 3
    have z0 := blk_cell HE.out.res 0
    have z1 := blk_cell HE.out.res 1
    have z2 := blk_cell HE.out.res 2
    have z3 := blk_cell HE.out.res 3
    have y0 := blk_frozen HE.out.res 0
    have y1 := blk_frozen HE.out.res 1
    have y2 := blk_frozen HE.out.res 2
    have y3 := blk_frozen HE.out.res 3
    go_wp2
    exact valD_end rfl HE.out rfl hk hkb ht (by omega)
  have n1 : (x == 1) = false := beq_eq_false_iff_ne.mpr x1
  by_cases x2 : x = 2
  · subst x2
    go_wp2_with fail
    go_at_call 97
    refine (spec_l01Below_calls g 2 _ HV2.out.drw.1 (by omega)).mono ?_
    rintro e w3 ⟨y, rfl, hy0, hy1, _, hd⟩
    have hy1 := hy1 (by omega)
    have HV3 := Lib.hid (HV2.out.drawn hd)
    clear hd
    obtain ⟨m, hm, hm1⟩ : ∃ m : Nat, 60 + y = (m : Int) ∧ m ≤ 61 := ⟨(60 + y).toNat, by omega, by omega⟩
    go_wp2_with fail
    go_at_call 99
    refine (spec_l01Long_calls m 65 65 _ (by rfl) (by omega)).mono ?_
    rintro e w4 ⟨s, rfl, hsz4, hb⟩
    have HV4 := Lib.hid (HV3.out.drawn (HV3.out.drw.1.below hb))
    have c2 := HV4.out.c 2
    have f2 := HV4.out.fz 2
    have HE := Lib.hid (HV4.out.setT s)
    clear hb
    have x0 := HE.out.c 0
    have x1 := HE.out.c 1
    have x2 := HE.out.c 2
    have x3 := HE.out.c 3
    have z0 := blk_cell HE.out.res 0
    have z1 := blk_cell HE.out.res 1
    have z2 := blk_cell HE.out.res 2
    have z3 := blk_cell HE.out.res 3
    have y0 := blk_frozen HE.out.res 0
    have y1 := blk_frozen HE.out.res 1
    have y2 := blk_frozen HE.out.res 2
    have y3 := blk_frozen HE.out.res 3
    go_wp2
    exact valD_end rfl HE.out rfl hk hu (by omega) (by omega)
  have n2 : (x == 2) = false := beq_eq_false_iff_ne.mpr x2
  by_cases x3 : x = 3
  · subst x3
    have c3 := HV2.out.c 3
    have HG := Lib.hid HV2.out.drew
    go_wp2
    go_region_law (first | ((refine step_append_lies _ (by rfl) (.tmp 31) (.tmp 37) 37 (by rfl) (w.heap.size + 1) 9 i0 (.string ByteArray.empty) 1 16 Try.underlying37 hi hz hsz hby rfl (by omega) (.slice A xs.length c) xs.length (xs.map Value.string) (by simp [Act.eval, Act.put]) HOWN.out _ 1 1 [.string x] (by simp [Act.eval, Act.put]) rfl HNEWS.out (by simp [Value.oneCell']) (by omega) (by unfold maxLen; omega) (by omega) HBASE.out _ rfl ?_); intro gg cap wq hown hgrow hat hlt; have HOWN2 := Lib.hid hown; have HGROW := Lib.hid hgrow; have HAT := Lib.hid hat; clear hown hgrow hat hlt; have f2 := blk_frozen (HG.out.bg HGROW.out).1 3; have c4 := blk_cell (HG.out.bg HGROW.out).1 3) | (have hh := HS1.out; clear hh; go_simp; go_at_call 99; refine (long61 _).mono ?_; rintro e w5 ⟨s2, rfl, hs2, hb⟩; have HS2 : Hid (s2.size ≤ 61) := (by rw [Hid]; omega); have HG := Lib.hid (HG.out.drawn (HG.out.drw.1.below hb)); clear hs2 hb; have c3' := HG.out.c 3; have c3b := (HG.out.alloc (.cells #[.string ⟨#[102]⟩, .string ⟨#[122]⟩, .string s1, .string s2] 9)).c 3) | (go_simp; go_at_call 99; refine (long60 _).mono ?_; rintro e w4 ⟨s1, rfl, hs1, hb⟩; have HS1 : Hid (s1.size ≤ 61) := (by rw [Hid]; omega); have HG := Lib.hid (HG.out.drawn (HG.out.drw.1.below hb)); clear hs1 hb; have c3' := HG.out.c 3) | (go_simp; go_at_call 100; refine (pick4 g s1 s2 _ HG.out.drw.1 HS1.out HS2.out).mono ?_; rintro e w6 ⟨x, rfl, hx, hd⟩; have HX : Hid (x.size ≤ 100) := hx; have HG := Lib.hid (HG.out.drawn hd); clear hd hx; have c3' := HG.out.c 3; have HBASE : Hid (w.heap.size + 1 ≤ (w6.alloc (.cells #[.string x] 9)).heap.size) := (HG.out.alloc _).sz; have HOWN : Hid ((w6.alloc (.cells #[.string x] 9)).ownsRow (w.heap.size + 1) 9 1 (.slice A xs.length c) xs.length (xs.map Value.string)) := (HG.out.alloc _).own; have HNEWS : Hid (∀ j u, [Value.string x][j]? = some u → (w6.alloc (.cells #[.string x] 9)).cell? ((⟨w6.heap.size, 0, none⟩ : Addr).add j) = some u) := World.news_of_block (heap_alloc_new w6 _); have c3a := (HG.out.alloc (.cells #[.string x] 9)).c 3))
    all_goals
      have HE := Lib.hid (HG.out.pushed HX.out (by omega) HOWN2.out HGROW.out HAT.out)
      have x0 := HE.out.c 0
      have x1 := HE.out.c 1
      have x2 := HE.out.c 2
      have x3 := HE.out.c 3
      have z0 := blk_cell HE.out.res 0
      have z1 := blk_cell HE.out.res 1
      have z2 := blk_cell HE.out.res 2
      have z3 := blk_cell HE.out.res 3
      have y0 := blk_frozen HE.out.res 0
      have y1 := blk_frozen HE.out.res 1
      have y2 := blk_frozen HE.out.res 2
      have y3 := blk_frozen HE.out.res 3
      have hl1 : (xs ++ [x]).length ≤ 31 := by rw [List.length_append, List.length_singleton]; omega
      go_wp2
      exact valD_end rfl HE.out rfl hk hu ht hl1
  have n3 : (x == 3) = false := beq_eq_false_iff_ne.mpr x3
  by_cases x4 : x = 4
  · subst x4
    have HV3 := Lib.hid (HV2.out.alloc (.cells #[] 9))
    have c3 := HV3.out.c 3
    have f3 := HV3.out.fz 3
    have HE := Lib.hid (HV3.out.setX (xs' := []) (ownS_new HV2.out.sz) (by have := blk_lt HV2.out.blk; intro k hk; simp only [Value.ownBlock, Option.some.injEq] at hk; omega) (by simp) (by simp))
    have x0 := HE.out.c 0
    have x1 := HE.out.c 1
    have x2 := HE.out.c 2
    have x3 := HE.out.c 3
    have z0 := blk_cell HE.out.res 0
    have z1 := blk_cell HE.out.res 1
    have z2 := blk_cell HE.out.res 2
    have z3 := blk_cell HE.out.res 3
    have y0 := blk_frozen HE.out.res 0
    have y1 := blk_frozen HE.out.res 1
    have y2 := blk_frozen HE.out.res 2
    have y3 := blk_frozen HE.out.res 3
    go_wp2
    exact valD_end rfl HE.out rfl hk hu ht (by first | omega | simp)
  have n4 : (x == 4) = false := beq_eq_false_iff_ne.mpr x4
  by_cases x5 : x = 5
  · subst x5
    have b0 := HV2.out.c 0
    have b1 := HV2.out.c 1
    have b2 := HV2.out.c 2
    have b3 := HV2.out.c 3
    have e0 := HV2.out.fz 0
    have e1 := HV2.out.fz 1
    have e2 := HV2.out.fz 2
    have e3 := HV2.out.fz 3
    have HVS := Lib.hid (HV2.out.setAll (k' := 2) (u' := 0) (t' := ⟨#[]⟩) (v' := .slice none 0 0) (xs' := []) (OwnS.nil _ _) (by simp [Value.ownBlock]) (by simp) (by simp))
    go_wp2_with fail
    go_loopw [4] (fun iv wr => ∃ (i : Nat) (v : Value) (xs : List ByteArray), iv = .int .i64 (i : Int) ∧ i ≤ 25 ∧ Hid (xs.length = i) ∧ Hid (VD w g w1.heap.size (w.heap.size + 1) 2 0 ⟨#[]⟩ v xs wr)) (fun iv _ => 25 - (intOf iv).toNat)
    case atStart => exact ⟨0, _, [], rfl, by omega, rfl, HVS⟩
    case round =>
      clear b0 b1 b2 b3 e0 e1 e2 e3
      obtain ⟨i, v, xs, rfl, hi4, HLN, HVR⟩ := hrel
      have hxl : xs.length ≤ 25 := by have := HLN.out; omega
      go_wp2_with fail
      go_at_call 97
      refine (spec_l01Below_calls g 2 _ HVR.out.drw.1 (by omega)).mono ?_
      rintro e w5 ⟨z, rfl, hz0, hz1, _, hd⟩
      have hz1 := hz1 (by omega)
      have HV5 := Lib.hid (HVR.out.drawn hd)
      clear hd
      by_cases hlt : (i : Int) < 24 + z
      · have HG := HV5
        have c3 := HV5.out.c 3
        have c3b := (HV5.out.alloc (.cells #[.string ⟨#[105]⟩] 9)).c 3
        have HBASE : Hid (w.heap.size + 1 ≤ (w5.alloc (.cells #[.string ⟨#[105]⟩] 9)).heap.size) := (HG.out.alloc _).sz
        have HOWN : Hid ((w5.alloc (.cells #[.string ⟨#[105]⟩] 9)).ownsRow (w.heap.size + 1) 9 1 v xs.length (xs.map Value.string)) := (HG.out.alloc _).own
        have HNEWS : Hid (∀ j u, [Value.string ⟨#[105]⟩][j]? = some u → (w5.alloc (.cells #[.string ⟨#[105]⟩] 9)).cell? ((⟨w5.heap.size, 0, none⟩ : Addr).add j) = some u) := World.news_of_block (heap_alloc_new w5 _)
        have c3a := (HG.out.alloc (.cells #[.string ⟨#[105]⟩] 9)).c 3
        go_wp2_with (at_builtin; refine wpList_append_lies _ rfl _ _ _ rfl (w.heap.size + 1) 9 i0 (.string ByteArray.empty) 1 16 Try.underlying37 hi hz hsz hby rfl (by omega) v xs.length (xs.map Value.string) rfl HOWN.out ⟨w5.heap.size, 0, none⟩ 1 1 [.string ⟨#[105]⟩] rfl rfl HNEWS.out (by simp [Value.oneCell']) (by omega) (by unfold maxLen; omega) (by omega) HBASE.out _ rfl ?_; intro gg cap wq hown hgrow hat hlt2; have f2 := blk_frozen (HG.out.bg hgrow).1 3; have c4 := blk_cell (HG.out.bg hgrow).1 3)
        have HP := Lib.hid (HG.out.pushed (by decide) (by omega) hown hgrow hat)
        clear hown hgrow hat hlt2
        go_roundw
        case rel => first | exact ⟨i + 1, _, xs ++ [⟨#[105]⟩], by go_num, by omega, by rw [List.length_append, HLN.out]; rfl, HP⟩ | (repeat (first | (refine ⟨?relx, rfl⟩; exact ⟨i + 1, _, xs ++ [⟨#[105]⟩], by go_num, by omega, by rw [List.length_append, HLN.out]; rfl, HP⟩) | (refine ⟨?relx, ?eqs⟩; (case eqs => (and_intros <;> rfl)); exact ⟨i + 1, _, xs ++ [⟨#[105]⟩], by go_num, by omega, by rw [List.length_append, HLN.out]; rfl, HP⟩) | apply Exists.intro))
        case measure => simp [intOf]; omega
      · obtain ⟨A9, c9, rfl⟩ := HV5.out.own.form
        have HE := HV5
        have x0 := HE.out.c 0
        have x1 := HE.out.c 1
        have x2 := HE.out.c 2
        have x3 := HE.out.c 3
        have z0 := blk_cell HE.out.res 0
        have z1 := blk_cell HE.out.res 1
        have z2 := blk_cell HE.out.res 2
        have z3 := blk_cell HE.out.res 3
        have y0 := blk_frozen HE.out.res 0
        have y1 := blk_frozen HE.out.res 1
        have y2 := blk_frozen HE.out.res 2
        have y3 := blk_frozen HE.out.res 3
        go_wp2
        exact valD_end rfl HE.out rfl (by omega) (by omega) (by decide) (by omega)
  have n5 : (x == 5) = false := beq_eq_false_iff_ne.mpr x5
  have HE := HV2
  have x0 := HE.out.c 0
  have x1 := HE.out.c 1
  have x2 := HE.out.c 2
  have x3 := HE.out.c 3
  have z0 := blk_cell HE.out.res 0
  have z1 := blk_cell HE.out.res 1
  have z2 := blk_cell HE.out.res 2
  have z3 := blk_cell HE.out.res 3
  have y0 := blk_frozen HE.out.res 0
  have y1 := blk_frozen HE.out.res 1
  have y2 := blk_frozen HE.out.res 2
  have y3 := blk_frozen HE.out.res 3
  go_wp2
  exact valD_end rfl HE.out rfl hk hu ht (by first | omega | simp)
end Go.Proofs.Ytekhfplbhcfdmaa
