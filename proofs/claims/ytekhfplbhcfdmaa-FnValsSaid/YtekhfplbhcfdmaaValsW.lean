/- The walk of the law FnVals: whatever the code, it returns true. -/
import Derived.Test.YtekhfplbhcfdmaaDrawV2
import Derived.Test.YtekhfplbhcfdmaaReadS
import Derived.Test.YtekhfplbhcfdmaaValTI
import Derived.Test.YtekhfplbhcfdmaaHelp
namespace Go.Proofs.Ytekhfplbhcfdmaa
set_option linter.unusedVariables false
set_option linter.unusedSimpArgs false
open Go.RowKit
attribute [local go_sem] bs_size List.length_cons List.length_nil List.length_append

theorem byRow_below {w w' : World} {A : Option Addr} {n : Nat} (h : ByRow w A n) (hb : Below w.heap.size w w') : ByRow w' A n := by
  refine ⟨h.1, fun h0 => ?_⟩
  obtain ⟨ad, e, hl, hc⟩ := h.2 h0
  refine ⟨ad, e, Nat.lt_of_lt_of_le hl hb.size, fun j hj => ?_⟩
  obtain ⟨z, h0, h1, h2⟩ := hc j hj
  exact ⟨z, h0, h1, (hb.cell (by rw [add_block]; exact hl)).trans h2⟩
/-- A value's row in memory, whatever it was made of. -/
def AnyVal (e : Ending) (w : World) (P : Int → Int → ByteArray → Option Addr → Nat → List ByteArray → Prop) : Prop := ∃ (k u : Int) (t : ByteArray) (A : Option Addr) (c : Nat) (xs : List ByteArray), e = .returned (vVal k u t (.slice A xs.length c)) ∧ StrRow w A c xs ∧ t.size ≤ 100 ∧ P k u t A c xs
theorem valText_end {fn : Func} {w wr : World} {B : Nat} {k u : Int} {t : ByteArray} {v : Value} {xs : List ByteArray} {tmps : Array Value} (hf : fn.results = #[.cell 2 39]) (hres : wr.heap[w.heap.size]? = some (.cells #[.int .i64 0, .int .i64 0, .string ⟨#[]⟩, .slice none 0 0] 39 (0, 0)))
    (ho : OwnS wr B v xs) (hB : w.heap.size < B) (hs : ∀ x ∈ xs, x.size ≤ 100) (h2 : tmps.getD 2 undef = .pointer (some ⟨w.heap.size, 0, none⟩)) (ht : t.size ≤ 100) (hb : Below w.heap.size w wr) :
    bodyPost Try.prog fn (fun e w' => AnyVal e w' (fun _ _ _ _ _ _ => True) ∧ Below w.heap.size w w') .ret ⟨tmps, []⟩ (set4 wr w.heap.size (.int .i64 k) (.int .i64 u) (.string t) v) := by
  obtain ⟨fs, hun⟩ := und_val
  have hg := set4_grown wr w.heap.size (.int .i64 k) (.int .i64 u) (.string t) v
  have ho' : OwnS (set4 wr w.heap.size (.int .i64 k) (.int .i64 u) (.string t) v) B v xs := World.ownsRow.kept ho hg (own_ne (World.ownsRow.lt ho) hB)
  obtain ⟨A', c', hv, hr⟩ := (ho'.own (Nat.le_refl _)).row fun x hx => by have := hs x hx; omega
  refine bodyPost_ret (v := .agg #[.int .i64 k, .int .i64 u, .string t, v]) ?_ rfl ⟨⟨k, u, t, A', c', xs, by rw [hv]; rfl, hr, ht, trivial⟩, hb.grown hg hb.size fun k e => by cases e; exact Nat.le_refl _⟩
  rw [results_row1 hf tmps _ w.heap.size 39 #[.int .i64 k, .int .i64 u, .string t, v] (0, 0) (.struct fs) h2 (set4_blk hres) hun rfl info_val]
set_option maxRecDepth 100000 in
theorem spec_DrawValText_calls (A : Option Addr) (c n : Nat) (w : World) (h : ByRow w A n) :
    Calls Try.prog 20 #[.slice A n c] w fun e w' => AnyVal e w' (fun _ _ _ _ _ _ => True) ∧ Below w.heap.size w w' := by
  have HBR := Lib.hid (byRow_below h ((Below.refl w.heap.size w).alloc (Nat.le_refl _) (.cells #[.int .i64 0, .int .i64 0, .string ⟨#[]⟩, .slice none 0 0] 39)))
  clear h
  go_enter Try.func20, Try.ntmps20
  go_wp2_with fail
  go_at_call 63
  refine (spec_l01New_calls A c n _ HBR.out).mono ?_
  rintro e w1 ⟨g, rfl, hg, hcu, hb⟩
  have hgs : w.heap.size < g := by simp at hg; omega
  have hws : w.heap.size < w1.heap.size := by have := hb.size; simp at this; omega
  have HGS := Lib.hid hgs
  have HWS := Lib.hid hws
  have HC := Lib.hid hcu
  have hres1 := (hb.block w.heap.size (by simp)).trans (blk_new w (.cells #[.int .i64 0, .int .i64 0, .string ⟨#[]⟩, .slice none 0 0] 39))
  have HRES1 := Lib.hid hres1
  have HB1 : Hid (Below w.heap.size w w1) := ((Below.refl w.heap.size w).alloc (Nat.le_refl _) _).trans (hb.mono (by simp))
  clear hg hcu hb hgs hws hres1
  go_wp2_with fail
  go_at_call 62
  refine (spec_l10AnyVal_calls g _ HC.out).mono ?_
  rintro e w2 ⟨k, u, t, v, xs, rfl, hk, hu, ht, ho, hf, hs, hd⟩
  obtain ⟨A', c', rfl⟩ := ho.form
  have hres : w2.heap[w.heap.size]? = _ := (hd.2.block _ (blk_lt HRES1.out) (by intro e; have := Option.some.inj e; have := HGS.out; omega)).trans HRES1.out
  have HRES := Lib.hid hres
  have HO := Lib.hid ho
  have HS := Lib.hid hs
  have HB2 := Lib.hid (hd.seen HB1.out (Nat.le_of_lt HGS.out))
  have z0 := blk_cell hres 0
  have z1 := blk_cell hres 1
  have z2 := blk_cell hres 2
  have z3 := blk_cell hres 3
  have y0 := blk_frozen hres 0
  have y1 := blk_frozen hres 1
  have y2 := blk_frozen hres 2
  have y3 := blk_frozen hres 3
  clear ho hf hs hd hres
  go_wp2
  exact valText_end rfl HRES.out HO.out HWS.out HS.out rfl ht HB2.out
theorem valText_short {k u : Int} {t : ByteArray} {xs : List ByteArray} : ∃ (s : ByteArray) (b : Bool), varRes (valTextB k u t xs) = .tuple #[.string s, .bool b] ∧ s.size ≤ 3000 := by
  unfold valTextB
  split
  next h =>
    obtain ⟨_, h2, h3, h4, h5⟩ := valOk_bounds h
    have l1 := vHead_len (k := k) (u := u) (t := t) (n := xs.length) h2 h3 h4
    have l2 := flatS_len xs h5
    refine ⟨bs (valBytes k u t xs), true, rfl, ?_⟩
    rw [bs_size, valBytes, List.length_append]
    omega
  next => exact ⟨⟨#[]⟩, false, rfl, by decide⟩
theorem valText_right {k u : Int} {t : ByteArray} {xs : List ByteArray} (h : valOkB k u t xs = true) : ∃ S, varRes (valTextB k u t xs) = .tuple #[.string S, .bool true] ∧ readValI S = some (k, u, t, xs) ∧ S.size ≤ 3000 := by
  obtain ⟨_, h2, h3, h4, h5⟩ := valOk_bounds h
  have l1 := vHead_len (k := k) (u := u) (t := t) (n := xs.length) h2 h3 h4
  have l2 := flatS_len xs h5
  refine ⟨bs (valBytes k u t xs), by rw [valTextB_some.2 ⟨h, rfl⟩]; rfl, readValI_put ⟨h, ub_bs _⟩, ?_⟩
  rw [bs_size, valBytes, List.length_append]
  omega
theorem valText_wrong {k u : Int} {t : ByteArray} {xs : List ByteArray} (h : valOkB k u t xs = false) : varRes (valTextB k u t xs) = .tuple #[.string ⟨#[]⟩, .bool false] := by
  unfold valTextB
  rw [h]
  rfl
theorem valText_back {s : ByteArray} {k u : Int} {t : ByteArray} {xs : List ByteArray} (h : readValI s = some (k, u, t, xs)) : varRes (valTextB k u t xs) = .tuple #[.string s, .bool true] := by
  have h1 := readValI_is h
  rw [valTextB_some.2 ⟨h1.1, h1.2⟩]
  simp only [varRes, bs_ub]
theorem valText_zero : varRes (valTextB 0 0 ⟨#[]⟩ []) = .tuple #[.string ⟨#[]⟩, .bool false] := by
  have h : valOkB 0 0 ⟨#[]⟩ [] = false := by kernel_rfl
  unfold valTextB
  rw [h]
  rfl
theorem strRow_none (w : World) : StrRow w none 0 [] := by simp [StrRow]
theorem readI_none {s : ByteArray} (h : readValI s = none) {w : World} {e : Ending} {w' : World} (hp : ReadPost w (readValI s) e w') : Below w.heap.size w w' ∧ e = .returned (.tuple #[vVal 0 0 ⟨#[]⟩ (.slice none 0 0), .bool false]) := by
  rw [h] at hp
  exact hp
set_option maxRecDepth 100000 in
theorem spec_DrawReadVal_calls (A : Option Addr) (c n : Nat) (w : World) (h : ByRow w A n) :
    Calls Try.prog 26 #[.slice A n c] w fun e w' => ∃ s, e = .returned (.string s) ∧ s.size ≤ 3001 ∧ Below w.heap.size w w' := by
  have HBR := Lib.hid h
  clear h
  go_enter Try.func26, Try.ntmps26
  go_wp2_with fail
  go_at_call 63
  refine (spec_l01New_calls A c n _ HBR.out).mono ?_
  rintro e w1 ⟨g, rfl, hg, hcu, hb⟩
  have HG := Lib.hid hg
  have HC := Lib.hid hcu
  have HB1 := Lib.hid hb
  clear hg hcu hb
  go_wp2_with fail
  go_at_call 62
  refine (spec_l10AnyVal_calls g _ HC.out).mono ?_
  rintro e w2 ⟨k, u, t, v, xs, rfl, hk, hu, ht, ho, hf, hs, hd⟩
  obtain ⟨A', c', rfl, hr⟩ := (ho.own (Nat.le_refl _)).row fun x hx => by have := hs x hx; omega
  have HR := Lib.hid hr
  have HD := Lib.hid hd
  obtain ⟨s, b, hvt, hsz⟩ := valText_short (k := k) (u := u) (t := t) (xs := xs)
  have HVT := Lib.hid hvt
  clear ho hf hs hd hr hvt
  go_wp2_with fail
  go_at_call 71
  refine (spec_ValText_calls k u t A' c' xs _ HR.out (by omega)).mono ?_
  rw [HVT.out]
  rintro e w3 ⟨rfl, hb⟩
  have HD3 := Lib.hid (HD.out.trans (HD.out.1.below hb))
  clear hb
  go_wp2_with fail
  go_at_call 72
  refine (spec_l02Spoilt_calls g s _ HD3.out.1 (by omega)).mono ?_
  rintro e w4 ⟨x, rfl, hx, hd⟩
  have HD4 := Lib.hid (HD3.out.trans hd)
  clear hd
  go_wp2
  go_ret
  exact ⟨x, rfl, by omega, HD4.out.seen HB1.out HG.out⟩
set_option maxRecDepth 100000 in
theorem laws_sameVal_calls (k u : Int) (t : ByteArray) (A : Option Addr) (c : Nat) (xs : List ByteArray) (A' : Option Addr) (c' : Nat) (w : World) (h : StrRow w A c xs) (h' : StrRow w A' c' xs) :
    Calls Try.prog 25 #[vVal k u t (.slice A xs.length c), vVal k u t (.slice A' xs.length c')] w fun e w' => e = .returned (.bool true) ∧ Below w.heap.size w w' := by
  have hb : Below w.heap.size w ((w.alloc (.cells #[.int .i64 k, .int .i64 u, .string t, .slice A xs.length c] 39)).alloc (.cells #[.int .i64 k, .int .i64 u, .string t, .slice A' xs.length c'] 39)) := ((Below.refl _ _).alloc (Nat.le_refl _) _).alloc (by simp) _
  have HR := Lib.hid (h.below hb)
  have HR' := Lib.hid (h'.below hb)
  have HB := Lib.hid hb
  clear h h' hb
  unfold vVal
  go_enter Try.func25, Try.ntmps25
  go_wp2_with fail
  go_at_call 70
  refine (laws_sameTexts_calls _ _ xs _ _ _ HR.out HR'.out).mono ?_
  rintro e w3 ⟨rfl, hb3⟩
  go_wp2
  go_ret
  exact ⟨rfl, bl_call HB.out hb3⟩
/-- A reading, whatever it was. -/
theorem readI_uni (s : ByteArray) : ∃ (k u : Int) (t : ByteArray) (xs : List ByteArray) (b : Bool), t.size ≤ 1000 ∧ ∀ (w : World) (e : Ending) (w' : World), ReadPost w (readValI s) e w' → Below w.heap.size w w' ∧ ∃ A c, e = .returned (.tuple #[vVal k u t (.slice A xs.length c), .bool b]) ∧ StrRow w' A c xs := by
  cases h : readValI s with
  | none => exact ⟨0, 0, ⟨#[]⟩, [], false, by decide, fun w e w' hp => ⟨hp.1, none, 0, hp.2, by simp [StrRow]⟩⟩
  | some d =>
    obtain ⟨k, u, t, xs⟩ := d
    obtain ⟨_, _, h3, h4, h5⟩ := valOk_bounds (readValI_is h).1
    refine ⟨k, u, t, xs, true, Nat.le_trans h3 (by omega), fun w e w' hp => ⟨hp.1, ?_⟩⟩
    obtain ⟨v, e1, e2⟩ := hp.2
    obtain ⟨A, c, rfl, hr⟩ := e2.row fun x hx => Nat.le_trans (h5 x hx) (by omega)
    exact ⟨A, c, e1, hr⟩
theorem readI_some {s : ByteArray} {k u : Int} {t : ByteArray} {xs : List ByteArray} (h : readValI s = some (k, u, t, xs)) {w : World} {e : Ending} {w' : World} (hp : ReadPost w (readValI s) e w') : Below w.heap.size w w' ∧ ∃ A c, e = .returned (.tuple #[vVal k u t (.slice A xs.length c), .bool true]) ∧ StrRow w' A c xs := by
  rw [h] at hp
  obtain ⟨_, _, h3, h4, h5⟩ := valOk_bounds (readValI_is h).1
  obtain ⟨v, e1, e2⟩ := hp.2
  obtain ⟨A, c, rfl, hr⟩ := e2.row fun x hx => Nat.le_trans (h5 x hx) (by omega)
  exact ⟨hp.1, A, c, e1, hr⟩
set_option maxHeartbeats 8000000 in
set_option maxRecDepth 100000 in
theorem walk_FnVals (A : Option Addr) (n c : Nat) (w : World) (h : ByRow w A n) :
    Calls Try.prog 5 #[.slice A n c] w fun e w' => e = .returned (.bool true) ∧ Below w.heap.size w w' := by
  have hn := h.1
  have HBR := Lib.hid h
  clear h
  by_cases hbig : 1048576 < n
  · have hd : decide (1048576 < n) = true := decide_eq_true hbig
    go_enter Try.func5, Try.ntmps5
    go_wp2_with fail
    go_at_call 19
    refine (laws_big_calls A c n _ hn).mono ?_
    rw [hd]
    rintro e w1 ⟨rfl, rfl⟩
    go_wp2
    go_ret
    exact ⟨rfl, Below.refl _ _⟩
  · have hd : decide (1048576 < n) = false := decide_eq_false hbig
    go_enter Try.func5, Try.ntmps5
    go_wp2_with fail
    go_at_call 19
    refine (laws_big_calls A c n _ hn).mono ?_
    rw [hd]
    rintro e w1 ⟨rfl, rfl⟩
    go_wp2_with fail
    go_at_call 20
    refine (spec_DrawValText_calls A c n _ HBR.out).mono ?_
    rintro e w1 ⟨⟨k, u, t, A1, cA, xs, rfl, hr, ht, _⟩, hb⟩
    have HB1 := Lib.hid hb
    have HR1 := Lib.hid hr
    clear hb hr
    have HVA := Lib.hid (valAt_new w1 k u t (.slice A1 xs.length cA))
    have hal : Below w1.heap.size w1 (w1.alloc (.cells #[.int .i64 k, .int .i64 u, .string t, .slice A1 xs.length cA] 39)) := (Below.refl _ _).alloc (Nat.le_refl _) _
    have HR1a := Lib.hid (HR1.out.below hal)
    have HB1a := Lib.hid (HB1.out.trans (hal.mono HB1.out.size))
    clear hal
    unfold vVal
    cases hvo : valOkB k u t xs
    · have HVO := Lib.hid hvo
      have HTX := Lib.hid (valText_wrong hvo)
      obtain ⟨k', u', t', xs', b', _, hrd⟩ := readI_uni ⟨#[]⟩
      have HRD := Lib.hid hrd
      clear hvo hrd
      go_wp2_with fail
      go_at_call 21
      refine (impl_ValText_calls k u t A1 cA xs _ HR1a.out (by omega)).mono ?_
      rw [HTX.out]
      rintro e w2 ⟨rfl, hb⟩
      have HV2 := Lib.hid (HVA.out.below hb)
      have HR2 := Lib.hid (HR1a.out.below hb)
      have HB2 := Lib.hid (HB1a.out.trans (hb.mono HB1a.out.size))
      clear hb
      go_wp2_with fail
      go_at_call 22
      refine (impl_ReadVal_calls _ _ (by decide)).mono ?_
      rintro e w3 hp
      obtain ⟨hb, A3, cX, rfl, hrx⟩ := HRD.out _ _ _ hp
      have HV3 := Lib.hid (HV2.out.below hb)
      have HR3 := Lib.hid (HR2.out.below hb)
      have HB3 := Lib.hid (HB2.out.trans (hb.mono HB2.out.size))
      unfold vVal
      clear hp hb hrx
      have HAL : Hid (Below w3.heap.size w3 (w3.alloc (.cells #[.int .i64 k', .int .i64 u', .string t', .slice A3 xs'.length cX] 39))) := (Below.refl _ _).alloc (Nat.le_refl _) _
      have HB4 := Lib.hid (HB3.out.trans (HAL.out.mono HB3.out.size))
      have HV4 := Lib.hid (HV3.out.below HAL.out)
      have HR4 := Lib.hid (HR3.out.below HAL.out)
      have c0 := HV4.out.c0
      have c1 := HV4.out.c1
      have c2 := HV4.out.c2
      have c3 := HV4.out.c3
      go_wp2_with fail
      go_at_call 23
      refine (spec_ValOk_calls k u t A1 cA xs _ HR4.out (by omega)).mono ?_
      rw [HVO.out]
      rintro e w5 ⟨rfl, hb⟩
      have HV5 := Lib.hid (HV4.out.below hb)
      have HR5 := Lib.hid (HR4.out.below hb)
      have HB5 := Lib.hid (HB4.out.trans (hb.mono HB4.out.size))
      clear hb c0 c1 c2 c3
      have c0 := HV5.out.c0
      have c1 := HV5.out.c1
      have c2 := HV5.out.c2
      have c3 := HV5.out.c3
      go_wp2_with fail
      go_at_call 24
      refine (impl_ValOk_calls k u t A1 cA xs _ HR5.out (by omega)).mono ?_
      rw [HVO.out]
      rintro e w6 ⟨rfl, hb⟩
      have HBZ := Lib.hid (HB5.out.trans (hb.mono HB5.out.size))
      clear hb c0 c1 c2 c3
      go_wp2_with fail
      go_at_call 26
      refine (spec_DrawReadVal_calls A c n _ (byRow_below HBR.out HBZ.out)).mono ?_
      rintro e wa ⟨T, rfl, hT, hb⟩
      have HBa := Lib.hid (HBZ.out.trans (hb.mono HBZ.out.size))
      clear hb
      cases hro : readValI T
      · have HRO := Lib.hid hro
        clear hro
        go_wp2_with fail
        go_at_call 22
        refine (impl_ReadVal_calls T _ (by omega)).mono ?_
        rintro e wb hp
        obtain ⟨hb, rfl⟩ := readI_none HRO.out hp
        have HBb := Lib.hid (HBa.out.trans (hb.mono HBa.out.size))
        have HYA := Lib.hid (valAt_new wb 0 0 ⟨#[]⟩ (.slice none 0 0))
        have HBc := Lib.hid (HBb.out.alloc HBb.out.size (.cells #[.int .i64 0, .int .i64 0, .string ⟨#[]⟩, .slice none 0 0] 39))
        unfold vVal
        clear hp hb
        go_wp2_with fail
        go_at_call 27
        refine (spec_ReadVal_calls T _ (by omega)).mono ?_
        rintro e wd hp
        rw [← readVal_same] at hp
        obtain ⟨hb, rfl⟩ := readI_none HRO.out hp
        have HALD : Hid (Below wd.heap.size wd (wd.alloc (.cells #[.int .i64 0, .int .i64 0, .string ⟨#[]⟩, .slice none 0 0] 39))) := (Below.refl _ _).alloc (Nat.le_refl _) _
        have HYD := Lib.hid ((HYA.out.below hb).below HALD.out)
        have HBd := Lib.hid ((HBc.out.trans (hb.mono HBc.out.size)).trans (HALD.out.mono (HBc.out.trans (hb.mono HBc.out.size)).size))
        unfold vVal
        clear hp hb
        have y0 := HYD.out.c0
        have y1 := HYD.out.c1
        have y2 := HYD.out.c2
        have y3 := HYD.out.c3
        go_wp2_with fail
        go_at_call 21
        refine (impl_ValText_calls 0 0 ⟨#[]⟩ none 0 [] _ (strRow_none _) (by decide)).mono ?_
        rw [valText_zero]
        rintro e wf ⟨rfl, hb⟩
        have HBf := Lib.hid (HBd.out.trans (hb.mono HBd.out.size))
        clear hb
        go_wp2
        go_ret
        exact ⟨rfl, HBf.out⟩
      · rename_i d
        obtain ⟨k2, u2, t2, xs2⟩ := d
        have HRO := Lib.hid hro
        have HVB := Lib.hid (valText_back hro)
        have HT2 := Lib.hid (valOk_bounds (readValI_is hro).1).2.2.1
        have hqq : (T.toList == T.toList) = true := by simp
        clear hro
        go_wp2_with fail
        go_at_call 22
        refine (impl_ReadVal_calls T _ (by omega)).mono ?_
        rintro e wb hp
        obtain ⟨hb, A4, c4, rfl, hrx⟩ := readI_some HRO.out hp
        have HRX8 := Lib.hid hrx
        clear hrx
        have HBb := Lib.hid (HBa.out.trans (hb.mono HBa.out.size))
        have HYA := Lib.hid (valAt_new wb k2 u2 t2 (.slice A4 xs2.length c4))
        have HBc := Lib.hid (HBb.out.alloc HBb.out.size (.cells #[.int .i64 k2, .int .i64 u2, .string t2, .slice A4 xs2.length c4] 39))
        unfold vVal
        clear hp hb
        go_wp2_with fail
        go_at_call 27
        refine (spec_ReadVal_calls T _ (by omega)).mono ?_
        rintro e wd hp
        rw [← readVal_same] at hp
        obtain ⟨hb, A5, c5, rfl, hrx⟩ := readI_some HRO.out hp
        clear hrx
        have HALD : Hid (Below wd.heap.size wd (wd.alloc (.cells #[.int .i64 k2, .int .i64 u2, .string t2, .slice A5 xs2.length c5] 39))) := (Below.refl _ _).alloc (Nat.le_refl _) _
        have HYD := Lib.hid ((HYA.out.below hb).below HALD.out)
        have HRX9 := Lib.hid (((HRX8.out.below ((Below.refl _ _).alloc (Nat.le_refl _) (.cells #[.int .i64 k2, .int .i64 u2, .string t2, .slice A4 xs2.length c4] 39))).below hb).below HALD.out)
        have HBd := Lib.hid ((HBc.out.trans (hb.mono HBc.out.size)).trans (HALD.out.mono (HBc.out.trans (hb.mono HBc.out.size)).size))
        unfold vVal
        clear hp hb
        have y0 := HYD.out.c0
        have y1 := HYD.out.c1
        have y2 := HYD.out.c2
        have y3 := HYD.out.c3
        go_wp2_with fail
        go_at_call 21
        refine (impl_ValText_calls k2 u2 t2 A4 c4 xs2 _ HRX9.out (by have := HT2.out; omega)).mono ?_
        rw [HVB.out]
        rintro e wf ⟨rfl, hb⟩
        have HBf := Lib.hid (HBd.out.trans (hb.mono HBd.out.size))
        clear hb
        go_wp2
        go_ret
        exact ⟨rfl, HBf.out⟩
    · have HVO := Lib.hid hvo
      obtain ⟨S, hvt, hrd, hszS⟩ := valText_right hvo
      have HTX := Lib.hid hvt
      have HRD := Lib.hid hrd
      clear hvo hvt hrd
      go_wp2_with fail
      go_at_call 21
      refine (impl_ValText_calls k u t A1 cA xs _ HR1a.out (by omega)).mono ?_
      rw [HTX.out]
      rintro e w2 ⟨rfl, hb⟩
      have HV2 := Lib.hid (HVA.out.below hb)
      have HR2 := Lib.hid (HR1a.out.below hb)
      have HB2 := Lib.hid (HB1a.out.trans (hb.mono HB1a.out.size))
      clear hb
      go_wp2_with fail
      go_at_call 22
      refine (impl_ReadVal_calls _ _ (by omega)).mono ?_
      rintro e w3 hp
      obtain ⟨hb, A3, cX, rfl, hrx⟩ := readI_some HRD.out hp
      have HV3 := Lib.hid (HV2.out.below hb)
      have HR3 := Lib.hid (HR2.out.below hb)
      have HB3 := Lib.hid (HB2.out.trans (hb.mono HB2.out.size))
      have HRX3 := Lib.hid hrx
      unfold vVal
      clear hp hb hrx
      have HXA := Lib.hid (valAt_new w3 k u t (.slice A3 xs.length cX))
      have HB4 := Lib.hid (HB3.out.alloc HB3.out.size (.cells #[.int .i64 k, .int .i64 u, .string t, .slice A3 xs.length cX] 39))
      have HAL : Hid (Below w3.heap.size w3 (w3.alloc (.cells #[.int .i64 k, .int .i64 u, .string t, .slice A3 xs.length cX] 39))) := (Below.refl _ _).alloc (Nat.le_refl _) _
      have HV4 := Lib.hid (HV3.out.below HAL.out)
      have HR4 := Lib.hid (HR3.out.below HAL.out)
      have HRX4 := Lib.hid (HRX3.out.below HAL.out)
      have c0 := HV4.out.c0
      have c1 := HV4.out.c1
      have c2 := HV4.out.c2
      have c3 := HV4.out.c3
      go_wp2_with fail
      go_at_call 23
      refine (spec_ValOk_calls k u t A1 cA xs _ HR4.out (by omega)).mono ?_
      rw [HVO.out]
      rintro e w5 ⟨rfl, hb⟩
      have HV5 := Lib.hid (HV4.out.below hb)
      have HR5 := Lib.hid (HR4.out.below hb)
      have HX5 := Lib.hid (HXA.out.below hb)
      have HRX5 := Lib.hid (HRX4.out.below hb)
      have HB5 := Lib.hid (HB4.out.trans (hb.mono HB4.out.size))
      clear hb c0 c1 c2 c3
      have c0 := HV5.out.c0
      have c1 := HV5.out.c1
      have c2 := HV5.out.c2
      have c3 := HV5.out.c3
      go_wp2_with fail
      go_at_call 24
      refine (impl_ValOk_calls k u t A1 cA xs _ HR5.out (by omega)).mono ?_
      rw [HVO.out]
      rintro e w6 ⟨rfl, hb⟩
      have HV6 := Lib.hid (HV5.out.below hb)
      have HR6 := Lib.hid (HR5.out.below hb)
      have HX6 := Lib.hid (HX5.out.below hb)
      have HRX6 := Lib.hid (HRX5.out.below hb)
      have HB6 := Lib.hid (HB5.out.trans (hb.mono HB5.out.size))
      clear hb c0 c1 c2 c3
      have c0 := HV6.out.c0
      have c1 := HV6.out.c1
      have c2 := HV6.out.c2
      have c3 := HV6.out.c3
      have d0 := HX6.out.c0
      have d1 := HX6.out.c1
      have d2 := HX6.out.c2
      have d3 := HX6.out.c3
      go_wp2_with fail
      go_at_call 25
      refine (laws_sameVal_calls k u t A3 cX xs A1 cA _ HRX6.out HR6.out).mono ?_
      rintro e w7 ⟨rfl, hb⟩
      have HBZ := Lib.hid (HB6.out.trans (hb.mono HB6.out.size))
      clear hb c0 c1 c2 c3 d0 d1 d2 d3
      go_wp2_with fail
      go_at_call 26
      refine (spec_DrawReadVal_calls A c n _ (byRow_below HBR.out HBZ.out)).mono ?_
      rintro e wa ⟨T, rfl, hT, hb⟩
      have HBa := Lib.hid (HBZ.out.trans (hb.mono HBZ.out.size))
      clear hb
      cases hro : readValI T
      · have HRO := Lib.hid hro
        clear hro
        go_wp2_with fail
        go_at_call 22
        refine (impl_ReadVal_calls T _ (by omega)).mono ?_
        rintro e wb hp
        obtain ⟨hb, rfl⟩ := readI_none HRO.out hp
        have HBb := Lib.hid (HBa.out.trans (hb.mono HBa.out.size))
        have HYA := Lib.hid (valAt_new wb 0 0 ⟨#[]⟩ (.slice none 0 0))
        have HBc := Lib.hid (HBb.out.alloc HBb.out.size (.cells #[.int .i64 0, .int .i64 0, .string ⟨#[]⟩, .slice none 0 0] 39))
        unfold vVal
        clear hp hb
        go_wp2_with fail
        go_at_call 27
        refine (spec_ReadVal_calls T _ (by omega)).mono ?_
        rintro e wd hp
        rw [← readVal_same] at hp
        obtain ⟨hb, rfl⟩ := readI_none HRO.out hp
        have HALD : Hid (Below wd.heap.size wd (wd.alloc (.cells #[.int .i64 0, .int .i64 0, .string ⟨#[]⟩, .slice none 0 0] 39))) := (Below.refl _ _).alloc (Nat.le_refl _) _
        have HYD := Lib.hid ((HYA.out.below hb).below HALD.out)
        have HBd := Lib.hid ((HBc.out.trans (hb.mono HBc.out.size)).trans (HALD.out.mono (HBc.out.trans (hb.mono HBc.out.size)).size))
        unfold vVal
        clear hp hb
        have y0 := HYD.out.c0
        have y1 := HYD.out.c1
        have y2 := HYD.out.c2
        have y3 := HYD.out.c3
        go_wp2_with fail
        go_at_call 21
        refine (impl_ValText_calls 0 0 ⟨#[]⟩ none 0 [] _ (strRow_none _) (by decide)).mono ?_
        rw [valText_zero]
        rintro e wf ⟨rfl, hb⟩
        have HBf := Lib.hid (HBd.out.trans (hb.mono HBd.out.size))
        clear hb
        go_wp2
        go_ret
        exact ⟨rfl, HBf.out⟩
      · rename_i d
        obtain ⟨k2, u2, t2, xs2⟩ := d
        have HRO := Lib.hid hro
        have HVB := Lib.hid (valText_back hro)
        have HT2 := Lib.hid (valOk_bounds (readValI_is hro).1).2.2.1
        have hqq : (T.toList == T.toList) = true := by simp
        clear hro
        go_wp2_with fail
        go_at_call 22
        refine (impl_ReadVal_calls T _ (by omega)).mono ?_
        rintro e wb hp
        obtain ⟨hb, A4, c4, rfl, hrx⟩ := readI_some HRO.out hp
        have HRX8 := Lib.hid hrx
        clear hrx
        have HBb := Lib.hid (HBa.out.trans (hb.mono HBa.out.size))
        have HYA := Lib.hid (valAt_new wb k2 u2 t2 (.slice A4 xs2.length c4))
        have HBc := Lib.hid (HBb.out.alloc HBb.out.size (.cells #[.int .i64 k2, .int .i64 u2, .string t2, .slice A4 xs2.length c4] 39))
        unfold vVal
        clear hp hb
        go_wp2_with fail
        go_at_call 27
        refine (spec_ReadVal_calls T _ (by omega)).mono ?_
        rintro e wd hp
        rw [← readVal_same] at hp
        obtain ⟨hb, A5, c5, rfl, hrx⟩ := readI_some HRO.out hp
        clear hrx
        have HALD : Hid (Below wd.heap.size wd (wd.alloc (.cells #[.int .i64 k2, .int .i64 u2, .string t2, .slice A5 xs2.length c5] 39))) := (Below.refl _ _).alloc (Nat.le_refl _) _
        have HYD := Lib.hid ((HYA.out.below hb).below HALD.out)
        have HRX9 := Lib.hid (((HRX8.out.below ((Below.refl _ _).alloc (Nat.le_refl _) (.cells #[.int .i64 k2, .int .i64 u2, .string t2, .slice A4 xs2.length c4] 39))).below hb).below HALD.out)
        have HBd := Lib.hid ((HBc.out.trans (hb.mono HBc.out.size)).trans (HALD.out.mono (HBc.out.trans (hb.mono HBc.out.size)).size))
        unfold vVal
        clear hp hb
        have y0 := HYD.out.c0
        have y1 := HYD.out.c1
        have y2 := HYD.out.c2
        have y3 := HYD.out.c3
        go_wp2_with fail
        go_at_call 21
        refine (impl_ValText_calls k2 u2 t2 A4 c4 xs2 _ HRX9.out (by have := HT2.out; omega)).mono ?_
        rw [HVB.out]
        rintro e wf ⟨rfl, hb⟩
        have HBf := Lib.hid (HBd.out.trans (hb.mono HBd.out.size))
        clear hb
        go_wp2
        go_ret
        exact ⟨rfl, HBf.out⟩
end Go.Proofs.Ytekhfplbhcfdmaa
