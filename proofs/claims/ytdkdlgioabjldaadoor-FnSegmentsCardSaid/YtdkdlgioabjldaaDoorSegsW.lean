/- The walk of the law FnSegments: whatever the code, it returns true. -/
import Derived.Test.YtdkdlgioabjldaaDoorSegD
import Derived.Test.YtdkdlgioabjldaaDoorPlaces
import Derived.Test.YtdkdlgioabjldaaDoorSame
import Derived.Test.YtdkdlgioabjldaaDoorPowLaid
import Derived.Deep.CutRange
import Derived.BigQuiet
import Derived.Outline
namespace Go.Proofs.YtdkdlgioabjldaaDoor
set_option linter.unusedVariables false
set_option linter.unusedSimpArgs false
open Go.RowKit
attribute [local go_sem] bs_size List.length_cons List.length_nil List.length_append

set_option maxRecDepth 100000 in
theorem spec_DrawRightSegment_calls (A : Option Addr) (c n : Nat) (w : World) (h : ByRow w A n) :
    Calls Tryd.prog 6 #[.slice A n c] w fun e w' => ∃ (m f : Nat) (r s : ByteArray) (rs : List ByteArray) (ds : List BatD), e = .returned (.tuple #[.int .i64 (m : Int), .string s]) ∧ m ≤ 8 ∧ SegText m f r rs ds s ∧ Below w.heap.size w w' := by
  have HBR := Lib.hid h
  clear h
  go_enter Tryd.func6, Tryd.ntmps6
  go_wp2_with fail
  go_at_call 19
  refine (spec_l01New_calls A c n _ HBR.out).mono ?_
  rintro e w1 ⟨g, rfl, hg, hcu, hb⟩
  have HG := Lib.hid hg
  have HC := Lib.hid hcu
  have HB1 := Lib.hid hb
  clear hg hcu hb
  go_wp2_with fail
  go_at_call 20
  refine (spec_l01Below_calls g 9 _ HC.out (by omega)).mono ?_
  rintro e w2 ⟨x, rfl, hx0, hx1, _, hd⟩
  have hx1 := hx1 (by omega)
  obtain ⟨m, rfl⟩ := Int.eq_ofNat_of_zero_le hx0
  have HD2 := Lib.hid hd
  clear hd hx0
  go_wp2_with fail
  go_at_call 21
  refine (spec_l06File_calls g m 1 _ HD2.out.1 (by omega) (by omega) (by omega)).mono ?_
  rintro e w3 ⟨s, r, f, rs, ds, q', rfl, hs, _, _, hd⟩
  have HS := Lib.hid hs
  have HD3 := Lib.hid (HD2.out.trans hd)
  clear hs hd
  go_wp2
  go_ret2
  exact ⟨m, f, r, s, rs, ds, rfl, by omega, HS.out, HD3.out.seen HB1.out HG.out⟩
theorem impl_SegName_calls (n : Nat) (w : World) (hn : n ≤ 99) (hP : Pow w) :
    Calls Tryd.prog 10 #[.int .i64 (n : Int)] w fun e w' => e = .returned (.string ((⟨#[98]⟩ : ByteArray) ++ bs (Lib.itoa (n : Int)))) ∧ Below w.heap.size w w' := by
  have HI : Hid (inR (n : Int) 0 99 = true) := by rw [Hid]; unfold inR; simp; omega
  have HPW := Lib.hid hP
  have hl := itoa_len (n : Int) (by omega) (by omega)
  clear hP
  go_enter Tryd.func10, Tryd.ntmps10
  go_wp2_with fail
  go_at_call 24
  refine (impl_within_calls _ _ _ _).mono ?_
  rw [HI.out]
  rintro e w' ⟨rfl, rfl⟩
  go_wp2_with fail
  go_at_call 28
  refine (impl_Decimal_calls (n : Int) _ (by omega) (by omega) HPW.out).mono ?_
  rintro e w1 ⟨rfl, hb⟩
  go_wp2
  go_ret
  exact ⟨rfl, hb⟩
theorem BatsOwn.cells {w : World} {B : Nat} {A : Option Addr} {n c j : Nat} {bs : List BatD} {q : Int} {cs : List ChD} (h : BatsOwn w B (.slice A n c) bs) (hj : bs[j]? = some (q, cs)) :
    ∃ g A2 c2, A = some ⟨g, 0, none⟩ ∧ w.cell? ⟨g, j * 2, none⟩ = some (.int .i64 q) ∧ w.cell? ⟨g, j * 2 + 1, none⟩ = some (.slice A2 cs.length c2) ∧ ChRow w A2 c2 cs := by
  obtain ⟨b, u, e, hc, ho, hs⟩ := ListC.at_ h (fun _ => rfl) hj
  obtain ⟨A2, c2, e2, hr⟩ := ho.row hs
  subst e2
  exact ⟨b, A2, c2, e, by have := hc 0 (by omega); exact this, by have := hc 1 (by omega); exact this, hr⟩
theorem cell_below {w w' : World} {a : Addr} {v : Value} (h : w.cell? a = some v) (hb : Below w.heap.size w w') : w'.cell? a = some v := (hb.cell (World.block_lt_of_cell? w a h)).trans h
/-- One batch, twice: its cells and its rows. -/
structure TwoB (w : World) (q : Int) (g5 g6 j : Nat) (A5 A6 : Option Addr) (c5 c6 : Nat) (cs : List ChD) (W : World) : Prop where
  p0 : W.cell? ⟨g5, j * 2, none⟩ = some (.int .i64 q)
  p1 : W.cell? ⟨g5, j * 2 + 1, none⟩ = some (.slice A5 cs.length c5)
  p2 : W.cell? ⟨g6, j * 2, none⟩ = some (.int .i64 q)
  p3 : W.cell? ⟨g6, j * 2 + 1, none⟩ = some (.slice A6 cs.length c6)
  r5 : ChRow W A5 c5 cs
  r6 : ChRow W A6 c6 cs
  b : Below w.heap.size w W
section
variable {w W W' : World} {q : Int} {g5 g6 j : Nat} {A5 A6 : Option Addr} {c5 c6 : Nat} {cs : List ChD}
theorem TwoB.go (h : TwoB w q g5 g6 j A5 A6 c5 c6 cs W) (hb : Below W.heap.size W W') : TwoB w q g5 g6 j A5 A6 c5 c6 cs W' :=
  ⟨cell_below h.p0 hb, cell_below h.p1 hb, cell_below h.p2 hb, cell_below h.p3 hb, h.r5.below hb, h.r6.below hb, h.b.trans (hb.mono h.b.size)⟩
theorem TwoB.all (h : TwoB w q g5 g6 j A5 A6 c5 c6 cs W) : (W.cell? ⟨g5, j * 2, none⟩ = some (.int .i64 q) ∧ W.cell? ⟨g5, j * 2 + 1, none⟩ = some (.slice A5 cs.length c5) ∧ W.cell? ⟨g6, j * 2, none⟩ = some (.int .i64 q) ∧ W.cell? ⟨g6, j * 2 + 1, none⟩ = some (.slice A6 cs.length c6)) ∧ Hid (TwoB w q g5 g6 j A5 A6 c5 c6 cs W) := ⟨⟨h.p0, h.p1, h.p2, h.p3⟩, h⟩
end
/-- What a good reading gives. -/
theorem segPost_yes {w w' : World} {e : Ending} {f l en : Nat} {pls : List PlD} {ds : List BatD} {n : Int} {s : ByteArray} (h : segPl n s = some (f, l, pls)) (h2 : pls.map Prod.fst = ds) (h3 : endOf l pls = en) (hp : SegPost w (segPl n s) e w') :
    ∃ A c, e = .returned (.tuple #[.int .i64 (f : Int), .slice A ds.length c, .int .i64 (en : Int), .bool true]) ∧ BatsOwn w' w.heap.size (.slice A ds.length c) ds ∧ Below w.heap.size w w' := by
  rw [h] at hp
  obtain ⟨hb, v, rfl, ho⟩ := hp
  obtain ⟨A, c, rfl⟩ := ho.form
  subst h2 h3
  exact ⟨A, c, rfl, ho, hb⟩
set_option maxHeartbeats 8000000 in
set_option maxRecDepth 100000 in
theorem walk_FnSegments (A : Option Addr) (n c : Nat) (w : World) (h : ByRow w A n) (hP : Pow w) :
    Calls Tryd.prog 3 #[.slice A n c] w fun e w' => e = .returned (.bool true) ∧ Below w.heap.size w w' := by
  have HP := Lib.hid hP
  have hn := h.1
  have HBR := Lib.hid h
  clear h hP
  by_cases hbig : 1048576 < n
  · have hd : decide (1048576 < n) = true := decide_eq_true hbig
    go_enter Tryd.func3, Tryd.ntmps3
    go_wp2_with fail
    go_at_call 5
    refine (laws_big_calls A c n _ hn).mono ?_
    rw [hd]
    rintro e w1 ⟨rfl, rfl⟩
    go_wp2
    go_ret
    exact ⟨rfl, Below.refl _ _⟩
  · have hd : decide (1048576 < n) = false := decide_eq_false hbig
    go_enter Tryd.func3, Tryd.ntmps3
    go_wp2_with fail
    go_at_call 5
    refine (laws_big_calls A c n _ hn).mono ?_
    rw [hd]
    rintro e w1 ⟨rfl, rfl⟩
    clear hd
    go_wp2_with fail
    go_at_call 6
    refine (spec_DrawRightSegment_calls A c n _ HBR.out).mono ?_
    rintro e w1 ⟨m, f, r, s, rs, ds, rfl, hm, hst, hb⟩
    obtain ⟨pls, hp1, hp2, hp3⟩ := hst.read
    obtain ⟨pls', hp4, hp5, hp6⟩ := hst.torn (t := ⟨#[116, 111, 114, 110]⟩) rfl
    obtain ⟨hht, hhl, hle⟩ := hst.headT
    have HSZ : Hid ((s ++ (⟨#[116, 111, 114, 110]⟩ : ByteArray)).size ≤ 1125899906842624) := by
      have h4 : (⟨#[116, 111, 114, 110]⟩ : ByteArray).size = 4 := rfl
      have h5 := hst.small
      rw [Hid, ByteArray.size_append, h4]
      omega
    have hss := hst.small
    have hdc := hst.count
    have HST := Lib.hid hst
    have HB1 := Lib.hid hb
    have HP1 := Lib.hid hp1
    have HP2 := Lib.hid hp2
    have HP3 := Lib.hid hp3
    have HP4 := Lib.hid hp4
    have HP5 := Lib.hid hp5
    have HP6 := Lib.hid hp6
    have HHT := Lib.hid hht
    clear hst hb hp1 hp2 hp3 hp4 hp5 hp6 hht
    go_wp2_with fail
    go_at_call 7
    refine (impl_ReadSegment_calls (m : Int) s _ (by omega)).mono ?_
    rintro e w2 hp
    obtain ⟨A2, c2, rfl, ho2, hb⟩ := segPost_yes HP1.out HP2.out HP3.out hp
    have HO2 := Lib.hid ho2
    have HB2 := Lib.hid (HB1.out.trans (hb.mono HB1.out.size))
    clear hp ho2 hb
    go_wp2_with fail
    go_at_call 7
    refine (impl_ReadSegment_calls (m : Int) _ _ HSZ.out).mono ?_
    rintro e w3 hp
    obtain ⟨A3, c3, rfl, ho3, hb⟩ := segPost_yes HP4.out HP5.out HP6.out hp
    have HO3 := Lib.hid (HO2.out.below hb)
    have HB3 := Lib.hid (HB2.out.trans (hb.mono HB2.out.size))
    clear hp ho3 hb
    have e1 : ((s.size : Int) != (s.size : Int)) = false := by simp
    have e2 : ((f : Int) != (f : Int)) = false := by simp
    have e3 : ((ds.length : Int) != (ds.length : Int)) = false := by simp
    go_wp2_with fail
    go_at_call 8
    refine (impl_HeadText_calls (m : Int) (f : Int) _).mono ?_
    rw [HHT.out]
    simp only [varRes]
    rintro e w4 ⟨rfl, hb⟩
    have HO4 := Lib.hid (HO3.out.below hb)
    have HB4 := Lib.hid (HB3.out.trans (hb.mono HB3.out.size))
    have hfl : (bs (frB r)).size = frameLen r := by rw [bs_size, hhl]
    clear hb
    go_wp2_with fail
    go_at_call 9
    refine (spec_DrawPlaces_calls A c n _ (byRow_below2 HBR.out HB4.out)).mono ?_
    rintro e w5 ⟨b, cc, x, rfl, hx, hx0, hx1, hcc, hb⟩
    have HO5 := Lib.hid (HO4.out.below hb)
    have HB5 := Lib.hid (HB4.out.trans (hb.mono HB4.out.size))
    clear hb
    obtain ⟨k, hk, hk1, hk2⟩ : ∃ k : Nat, wrap64 ((frameLen r : Int) + x % ((s.size : Int) - (frameLen r : Int) + 1)) = (k : Int) ∧ frameLen r ≤ k ∧ k ≤ s.size := by
      obtain ⟨X, rfl⟩ := Int.eq_ofNat_of_zero_le hx0
      have hm := Nat.mod_lt X (show 0 < s.size - frameLen r + 1 by omega)
      have he : (X : Int) % ((s.size : Int) - (frameLen r : Int) + 1) = ((X % (s.size - frameLen r + 1) : Nat) : Int) := by
        rw [show (s.size : Int) - (frameLen r : Int) + 1 = ((s.size - frameLen r + 1 : Nat) : Int) by omega]
        rfl
      refine ⟨frameLen r + X % (s.size - frameLen r + 1), ?_, by omega, by omega⟩
      rw [he]
      unfold wrap64
      omega
    have HCUT := Lib.hid (HST.out.cut hk1 hk2)
    have HK1 := Lib.hid hk1
    clear hfl hk1
    go_wp2_with fail
    go_at_call 7
    obtain ⟨pls4, M, hp7, hp8, hp9⟩ := HCUT.out
    have HP7 := Lib.hid hp7
    have HP8 := Lib.hid hp8
    have HSZ4 : Hid ((s.extract 0 k).size ≤ 1125899906842624) := by rw [Hid, ByteArray.size_extract]; omega
    have h9 := hp9
    clear hp7 hp8 hp9
    refine (impl_ReadSegment_calls (m : Int) _ _ (by first | exact HSZ4.out)).mono ?_
    rintro e w6 hp
    obtain ⟨A4, c4, rfl, ho4, hb⟩ := segPost_yes HP7.out HP8.out rfl hp
    have HO6 := Lib.hid (HO5.out.below hb)
    have HX6 := Lib.hid ho4
    have HB6 := Lib.hid (HB5.out.trans (hb.mono HB5.out.size))
    have hdl : (ds.take M).length ≤ ds.length := by rw [List.length_take]; omega
    have HDT : Hid (∀ j b, (ds.take M)[j]? = some b → ds[j]? = some b) := fun j b hj => by
      rw [List.getElem?_take] at hj
      split at hj
      · exact hj
      · cases hj
    generalize hsm : ds.take M = sm at *
    clear hsm hp ho4 hb
    go_wp2_with fail
    go_at_call 10
    refine (impl_SegName_calls m _ (by omega) (HP.out.below HB6.out)).mono ?_
    rintro e w7 ⟨rfl, hb⟩
    have hnm : ((⟨#[98]⟩ : ByteArray) ++ bs (Lib.itoa (m : Int))).toList.isEmpty = false := by
      rw [ByteArray.toList_eq, ByteArray.data_append]
      simp
    have hx2 : ¬ k < endOf (frameLen r) pls4 := by omega
    have hx3 : ¬ ds.length < sm.length := by omega
    have HO7 := Lib.hid (HO6.out.below hb)
    have HX7 := Lib.hid (HX6.out.below hb)
    have HB7 := Lib.hid (HB6.out.trans (hb.mono HB6.out.size))
    clear hb
    go_wp2
    go_loopw [20] (fun iv wr => ∃ j : Nat, j ≤ sm.length ∧ iv = .int .i64 (j : Int) ∧ Hid (Below w7.heap.size w7 wr)) (fun iv _ => sm.length - (intOf iv).toNat)
    case atStart => exact ⟨0, Nat.zero_le _, rfl, Below.refl _ _⟩
    case round =>
      obtain ⟨j, hj, rfl, HBL⟩ := hrel
      by_cases hlt : j < sm.length
      · obtain ⟨⟨q, cs⟩, hx⟩ : ∃ x, sm[j]? = some x := ⟨_, List.getElem?_eq_getElem hlt⟩
        obtain ⟨g5, A5, c5, hA5, hc0, hc1, hr5⟩ := BatsOwn.cells (HX7.out.below HBL.out) hx
        obtain ⟨g6, A6, c6, hA6, hd0, hd1, hr6⟩ := BatsOwn.cells (HO7.out.below HBL.out) (HDT.out j _ hx)
        subst hA5 hA6
        have HT : Hid (TwoB wr q g5 g6 j A5 A6 c5 c6 cs wr.drew) := (TwoB.mk hc0 hc1 hd0 hd1 hr5 hr6 (Below.refl _ _)).go (Below.drew (Below.refl _ _))
        have hqq : (q != q) = false := by simp
        have hji : (j : Int) < (sm.length : Int) := by omega
        have hjd : (j : Int) < (ds.length : Int) := by omega
        clear hx hc0 hc1 hd0 hd1 hr5 hr6
        go_wp2_with fail
        refine wp_region_held_drew (S := (fun w' => (w'.cell? ⟨g5, j * 2, none⟩ = some (.int .i64 q) ∧ w'.cell? ⟨g5, j * 2 + 1, none⟩ = some (.slice A5 cs.length c5) ∧ w'.cell? ⟨g6, j * 2, none⟩ = some (.int .i64 q) ∧ w'.cell? ⟨g6, j * 2 + 1, none⟩ = some (.slice A6 cs.length c6)) ∧ Hid (TwoB wr q g5 g6 j A5 A6 c5 c6 cs w'))) (by kernel_rfl) HT.out.all (fun hHeld => ?_)
        refine wpAnyH_take (i := 0) (oi := _) (v := ?_) (by simp only [List.getElem?_toArray, List.getElem?_cons_succ, List.getElem?_cons_zero]; exact rfl) (by kernel_rfl) (by kernel_rfl) (by kernel_rfl) (by intro _ _ _ h; exact h) (Or.inl ⟨by rfl, ?_⟩) (by assumption) ?_
        rotate_left
        focus (intro w hSw; (try dsimp only at hSw); go_simp <;> (try with_reducible rfl))
        try simp only [Act.put, List.setIfInBounds_toArray, List.set_cons_zero, List.set_cons_succ]
        refine wpAnyH_take (i := 1) (oi := _) (v := ?_) (by simp only [List.getElem?_toArray, List.getElem?_cons_succ, List.getElem?_cons_zero]; exact rfl) (by kernel_rfl) (by kernel_rfl) (by kernel_rfl) (by intro _ _ _ h; exact h) (Or.inl ⟨by rfl, ?_⟩) (by assumption) ?_
        rotate_left
        focus (intro w hSw; (try dsimp only at hSw); go_simp <;> (try with_reducible rfl))
        try simp only [Act.put, List.setIfInBounds_toArray, List.set_cons_zero, List.set_cons_succ]
        refine wpAnyH_take (i := 2) (oi := _) (v := ?_) (by simp only [List.getElem?_toArray, List.getElem?_cons_succ, List.getElem?_cons_zero]; exact rfl) (by kernel_rfl) (by kernel_rfl) (by kernel_rfl) (by intro _ _ _ h; exact h) (Or.inl ⟨by rfl, ?_⟩) (by assumption) ?_
        rotate_left
        focus (intro w hSw; (try dsimp only at hSw); go_simp <;> (try with_reducible rfl))
        try simp only [Act.put, List.setIfInBounds_toArray, List.set_cons_zero, List.set_cons_succ]
        refine wpAnyH_take (i := 3) (oi := _) (v := ?_) (by simp only [List.getElem?_toArray, List.getElem?_cons_succ, List.getElem?_cons_zero]; exact rfl) (by kernel_rfl) (by kernel_rfl) (by kernel_rfl) (by intro _ _ _ h; exact h) (Or.inl ⟨by rfl, ?_⟩) (by assumption) ?_
        rotate_left
        focus (intro w hSw; (try dsimp only at hSw); go_simp <;> (try with_reducible rfl))
        try simp only [Act.put, List.setIfInBounds_toArray, List.set_cons_zero, List.set_cons_succ]
        refine wpAnyH_take (i := 4) (oi := _) (v := ?_) (by simp only [List.getElem?_toArray, List.getElem?_cons_succ, List.getElem?_cons_zero]; exact rfl) (by kernel_rfl) (by kernel_rfl) (by kernel_rfl) (by intro _ _ _ h; exact h) (Or.inl ⟨by rfl, ?_⟩) (by assumption) ?_
        rotate_left
        focus (intro w hSw; (try dsimp only at hSw); go_simp <;> (try with_reducible rfl))
        try simp only [Act.put, List.setIfInBounds_toArray, List.set_cons_zero, List.set_cons_succ]
        refine wpAnyH_take (i := 5) (oi := _) (v := ?_) (by simp only [List.getElem?_toArray, List.getElem?_cons_succ, List.getElem?_cons_zero]; exact rfl) (by kernel_rfl) (by kernel_rfl) (by kernel_rfl) (by intro _ _ _ h; exact h) (Or.inl ⟨by rfl, ?_⟩) (by assumption) ?_
        rotate_left
        focus (intro w hSw; (try dsimp only at hSw); go_simp <;> (try with_reducible rfl))
        try simp only [Act.put, List.setIfInBounds_toArray, List.set_cons_zero, List.set_cons_succ]
        refine wpAnyH_take (i := 6) (oi := _) (v := ?_) (by simp only [List.getElem?_toArray, List.getElem?_cons_succ, List.getElem?_cons_zero]; exact rfl) (by kernel_rfl) (by kernel_rfl) (by kernel_rfl) (by intro _ _ _ h; exact h) (Or.inl ⟨by rfl, ?_⟩) (by assumption) ?_
        rotate_left
        focus (intro w hSw; (try dsimp only at hSw); go_simp <;> (try with_reducible rfl))
        try simp only [Act.put, List.setIfInBounds_toArray, List.set_cons_zero, List.set_cons_succ]
        refine wpAnyH_take (i := 7) (oi := _) (v := ?_) (by simp only [List.getElem?_toArray, List.getElem?_cons_succ, List.getElem?_cons_zero]; exact rfl) (by kernel_rfl) (by kernel_rfl) (by kernel_rfl) (by intro _ _ _ h; exact h) (Or.inl ⟨by rfl, ?_⟩) (by assumption) ?_
        rotate_left
        focus (intro w hSw; (try dsimp only at hSw); go_simp <;> (try with_reducible rfl))
        try simp only [Act.put, List.setIfInBounds_toArray, List.set_cons_zero, List.set_cons_succ]
        refine wpAnyH_take (i := 8) (oi := _) (v := ?_) (by simp only [List.getElem?_toArray, List.getElem?_cons_succ, List.getElem?_cons_zero]; exact rfl) (by kernel_rfl) (by kernel_rfl) (by kernel_rfl) (by intro _ _ _ h; exact h) (Or.inl ⟨by rfl, ?_⟩) (by assumption) ?_
        rotate_left
        focus (intro w hSw; (try dsimp only at hSw); go_simp <;> (try with_reducible rfl))
        try simp only [Act.put, List.setIfInBounds_toArray, List.set_cons_zero, List.set_cons_succ]
        refine wpAnyH_take (i := 9) (oi := _) (v := ?_) (by simp only [List.getElem?_toArray, List.getElem?_cons_succ, List.getElem?_cons_zero]; exact rfl) (by kernel_rfl) (by kernel_rfl) (by kernel_rfl) (by intro _ _ _ h; exact h) (Or.inl ⟨by rfl, ?_⟩) (by assumption) ?_
        rotate_left
        focus (intro w hSw; (try dsimp only at hSw); go_simp <;> (try with_reducible rfl))
        try simp only [Act.put, List.setIfInBounds_toArray, List.set_cons_zero, List.set_cons_succ]
        refine wpAnyH_take (i := 10) (oi := _) (v := ?_) (by simp only [List.getElem?_toArray, List.getElem?_cons_succ, List.getElem?_cons_zero]; exact rfl) (by kernel_rfl) (by kernel_rfl) (by kernel_rfl) (by intro _ _ _ h; exact h) (Or.inl ⟨by rfl, ?_⟩) (by assumption) ?_
        rotate_left
        focus (intro w hSw; (try dsimp only at hSw); go_simp <;> (try with_reducible rfl))
        try simp only [Act.put, List.setIfInBounds_toArray, List.set_cons_zero, List.set_cons_succ]
        refine wpAnyH_take (i := 11) (oi := _) (v := ?_) (by simp only [List.getElem?_toArray, List.getElem?_cons_succ, List.getElem?_cons_zero]; exact rfl) (by kernel_rfl) (by kernel_rfl) (by kernel_rfl) (by intro _ _ _ h; exact h) (Or.inl ⟨by rfl, ?_⟩) (by assumption) ?_
        rotate_left
        focus (intro w hSw; (try dsimp only at hSw); go_simp <;> (try with_reducible rfl))
        try simp only [Act.put, List.setIfInBounds_toArray, List.set_cons_zero, List.set_cons_succ]
        refine wpAnyH_take (i := 12) (oi := _) (v := ?_) (by simp only [List.getElem?_toArray, List.getElem?_cons_succ, List.getElem?_cons_zero]; exact rfl) (by kernel_rfl) (by kernel_rfl) (by kernel_rfl) (by intro _ _ _ h; exact h) (Or.inl ⟨by rfl, ?_⟩) (by assumption) ?_
        rotate_left
        focus (intro w hSw; (try dsimp only at hSw); go_simp <;> (try with_reducible rfl))
        try simp only [Act.put, List.setIfInBounds_toArray, List.set_cons_zero, List.set_cons_succ]
        refine wpAnyH_take (i := 13) (oi := _) (v := ?_) (by simp only [List.getElem?_toArray, List.getElem?_cons_succ, List.getElem?_cons_zero]; exact rfl) (by kernel_rfl) (by kernel_rfl) (by kernel_rfl) (by intro _ _ _ h; exact h) (Or.inl ⟨by rfl, ?_⟩) (by assumption) ?_
        rotate_left
        focus (intro w hSw; (try dsimp only at hSw); go_simp <;> (try with_reducible rfl))
        try simp only [Act.put, List.setIfInBounds_toArray, List.set_cons_zero, List.set_cons_succ]
        refine wpAnyH_take (i := 14) (oi := _) (v := ?_) (by simp only [List.getElem?_toArray, List.getElem?_cons_succ, List.getElem?_cons_zero]; exact rfl) (by kernel_rfl) (by kernel_rfl) (by kernel_rfl) (by intro _ _ _ h; exact h) (Or.inl ⟨by rfl, ?_⟩) (by assumption) ?_
        rotate_left
        focus (intro w hSw; (try dsimp only at hSw); go_simp <;> (try with_reducible rfl))
        try simp only [Act.put, List.setIfInBounds_toArray, List.set_cons_zero, List.set_cons_succ]
        refine wpAnyH_take (i := 15) (oi := _) (v := ?_) (by simp only [List.getElem?_toArray, List.getElem?_cons_succ, List.getElem?_cons_zero]; exact rfl) (by kernel_rfl) (by kernel_rfl) (by kernel_rfl) (by intro _ _ _ h; exact h) (Or.inl ⟨by rfl, ?_⟩) (by assumption) ?_
        rotate_left
        focus (intro w hSw; (try dsimp only at hSw); go_simp <;> (try with_reducible rfl))
        try simp only [Act.put, List.setIfInBounds_toArray, List.set_cons_zero, List.set_cons_succ]
        refine wpAnyH_take (i := 16) (oi := _) (v := ?_) (by simp only [List.getElem?_toArray, List.getElem?_cons_succ, List.getElem?_cons_zero]; exact rfl) (by kernel_rfl) (by kernel_rfl) (by kernel_rfl) (by intro _ _ _ h; exact h) (Or.inl ⟨by rfl, ?_⟩) (by assumption) ?_
        rotate_left
        focus (intro w hSw; (try dsimp only at hSw); go_simp <;> (try with_reducible rfl))
        try simp only [Act.put, List.setIfInBounds_toArray, List.set_cons_zero, List.set_cons_succ]
        refine wpAnyH_take (i := 17) (oi := _) (v := ?_) (by simp only [List.getElem?_toArray, List.getElem?_cons_succ, List.getElem?_cons_zero]; exact rfl) (by kernel_rfl) (by kernel_rfl) (by kernel_rfl) (by intro _ _ _ h; exact h) (Or.inl ⟨by rfl, ?_⟩) (by assumption) ?_
        rotate_left
        focus (intro w hSw; (try dsimp only at hSw); go_simp <;> (try with_reducible rfl))
        try simp only [Act.put, List.setIfInBounds_toArray, List.set_cons_zero, List.set_cons_succ]
        refine wpAnyH_take (i := 18) (oi := _) (v := ?_) (by simp only [List.getElem?_toArray, List.getElem?_cons_succ, List.getElem?_cons_zero]; exact rfl) (by kernel_rfl) (by kernel_rfl) (by kernel_rfl) (by intro _ _ _ h; exact h) (Or.inl ⟨by rfl, ?_⟩) (by assumption) ?_
        rotate_left
        focus (intro w hSw; (try dsimp only at hSw); go_simp <;> (try with_reducible rfl))
        try simp only [Act.put, List.setIfInBounds_toArray, List.set_cons_zero, List.set_cons_succ]
        refine wpAnyH_take (i := 19) (oi := _) (v := ?_) (by simp only [List.getElem?_toArray, List.getElem?_cons_succ, List.getElem?_cons_zero]; exact rfl) (by kernel_rfl) (by kernel_rfl) (by kernel_rfl) (by intro _ _ _ h; exact h) (Or.inl ⟨by rfl, ?_⟩) (by assumption) ?_
        rotate_left
        focus (intro w hSw; (try dsimp only at hSw); go_simp <;> (try with_reducible rfl))
        try simp only [Act.put, List.setIfInBounds_toArray, List.set_cons_zero, List.set_cons_succ]
        refine wpAnyH_take (i := 20) (oi := _) (v := ?_) (by simp only [List.getElem?_toArray, List.getElem?_cons_succ, List.getElem?_cons_zero]; exact rfl) (by kernel_rfl) (by kernel_rfl) (by kernel_rfl) (by intro _ _ _ h; exact h) (Or.inl ⟨by rfl, ?_⟩) (by assumption) ?_
        rotate_left
        focus (intro w hSw; (try dsimp only at hSw); go_simp <;> (try with_reducible rfl))
        try simp only [Act.put, List.setIfInBounds_toArray, List.set_cons_zero, List.set_cons_succ]
        refine wpAnyH_take (i := 21) (oi := _) (v := ?_) (by simp only [List.getElem?_toArray, List.getElem?_cons_succ, List.getElem?_cons_zero]; exact rfl) (by kernel_rfl) (by kernel_rfl) (by kernel_rfl) (by intro _ _ _ h; exact h) (Or.inl ⟨by rfl, ?_⟩) (by assumption) ?_
        rotate_left
        focus (intro w hSw; (try dsimp only at hSw); go_simp <;> (try with_reducible rfl))
        try simp only [Act.put, List.setIfInBounds_toArray, List.set_cons_zero, List.set_cons_succ]
        refine wpAnyH_ready (rs := [22]) (by kernel_rfl) (by simp) ?_
        refine AllReadyH.cons (o := _) rfl (fun K hK => ?_) AllReadyH.nil
        go_simp
        go_at_call 11
        refine (laws_sameChanges_calls A5 c5 A6 c6 cs _ hHeld.2.out.r5 hHeld.2.out.r6).mono ?_
        rintro e w' ⟨rfl, hb⟩
        have HN := (hHeld.2.out.go hb).all
        clear hb
        refine hK.out _ _ HN (fun hNew => ?_)
        clear hK K hHeld HN
        have hHeld := hNew
        clear hNew
        try simp only [Act.put, List.setIfInBounds_toArray, List.set_cons_zero, List.set_cons_succ]
        refine wpAnyH_take (i := 23) (oi := _) (v := ?_) (by simp only [List.getElem?_toArray, List.getElem?_cons_succ, List.getElem?_cons_zero]; exact rfl) (by kernel_rfl) (by kernel_rfl) (by kernel_rfl) (by intro _ _ _ h; exact h) (Or.inl ⟨by rfl, ?_⟩) (by assumption) ?_
        rotate_left
        focus (intro w hSw; (try dsimp only at hSw); go_simp <;> (try with_reducible rfl))
        try simp only [Act.put, List.setIfInBounds_toArray, List.set_cons_zero, List.set_cons_succ]
        refine wpAnyH_take (i := 24) (oi := _) (v := ?_) (by simp only [List.getElem?_toArray, List.getElem?_cons_succ, List.getElem?_cons_zero]; exact rfl) (by kernel_rfl) (by kernel_rfl) (by kernel_rfl) (by intro _ _ _ h; exact h) (Or.inl ⟨by rfl, ?_⟩) (by assumption) ?_
        rotate_left
        focus (intro w hSw; (try dsimp only at hSw); go_simp <;> (try with_reducible rfl))
        try simp only [Act.put, List.setIfInBounds_toArray, List.set_cons_zero, List.set_cons_succ]
        refine wpAnyH_done (by kernel_rfl) ?_ _
        go_wp2
        go_roundw
        case rel => first | exact ⟨j + 1, by omega, by go_num, HBL.out.trans (hHeld.2.out.b.mono HBL.out.size)⟩ | (repeat (first | (refine ⟨?relx, rfl⟩; exact ⟨j + 1, by omega, by go_num, HBL.out.trans (hHeld.2.out.b.mono HBL.out.size)⟩) | (refine ⟨?relx, ?eqs⟩; (case eqs => (and_intros <;> rfl)); exact ⟨j + 1, by omega, by go_num, HBL.out.trans (hHeld.2.out.b.mono HBL.out.size)⟩) | apply Exists.intro))
        case measure => simp [intOf]; omega
      · obtain rfl : j = sm.length := by omega
        have HB8 := Lib.hid (HB7.out.trans (HBL.out.mono HB7.out.size))
        have HW := Lib.hid (HST.out.wrong)
        clear HBL
        go_wp2_with fail
        go_at_call 7
        refine (impl_ReadSegment_calls ((m : Int) + 1) s _ (by omega)).mono ?_
        rintro e w9 hp
        rw [HW.out] at hp
        obtain ⟨hb, v9, rfl, _⟩ := hp
        have HB9 := Lib.hid (HB8.out.trans (hb.mono HB8.out.size))
        clear hb
        go_wp2
        go_ret
        exact ⟨rfl, HB9.out⟩
end Go.Proofs.YtdkdlgioabjldaaDoor
