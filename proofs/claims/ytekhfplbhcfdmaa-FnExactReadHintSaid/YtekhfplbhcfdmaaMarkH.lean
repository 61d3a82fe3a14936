/- The laws' helpers for spots: eqSpot, eqSpotS, markSpotS, heldSpotS. -/
import Derived.Test.YtekhfplbhcfdmaaHReadI
import Derived.Test.YtekhfplbhcfdmaaMk
import Derived.Deep.RegionHeld3
namespace Go.Proofs.Ytekhfplbhcfdmaa
set_option linter.unusedVariables false
set_option linter.unusedSimpArgs false
open Go.RowKit
attribute [local go_sem] bs_size List.length_cons List.length_nil List.length_append

theorem laws_eqSpot_calls (k : ByteArray) (g p q : Int) (w : World) :
    Calls Try.prog 54 #[.agg #[.string k, .int .i64 g, .int .i64 p, .int .i64 q], .agg #[.string k, .int .i64 g, .int .i64 p, .int .i64 q]] w fun e w' => e = .returned (.bool true) ∧ Below w.heap.size w w' := by
  have h1 : (g != g) = false := by simp
  have h2 : (p != p) = false := by simp
  have h3 : (q != q) = false := by simp
  go_enter Try.func54, Try.ntmps54
  go_wp2
  go_ret
  exact ⟨rfl, ((Below.refl _ _).alloc (Nat.le_refl _) _).alloc (by simp) _⟩
theorem keep4 {w w' : World} {a b c d : Addr} {x y z u : Value} (h : w.cell? a = some x ∧ w.cell? b = some y ∧ w.cell? c = some z ∧ w.cell? d = some u) (hb : Below w.heap.size w w') : w'.cell? a = some x ∧ w'.cell? b = some y ∧ w'.cell? c = some z ∧ w'.cell? d = some u := by
  have k : ∀ {a : Addr} {x : Value}, w.cell? a = some x → w'.cell? a = some x := fun h => (hb.cell (World.block_lt_of_cell? w _ h)).trans h
  exact ⟨k h.1, k h.2.1, k h.2.2.1, k h.2.2.2⟩
/-- Four cells of a spot at an address. -/
def SpCells (w : World) (ad : Addr) (x : SpotD) : Prop := w.cell? ad = some (.string x.1) ∧ w.cell? ⟨ad.block, ad.off + 1, none⟩ = some (.int .i64 x.2.1) ∧ w.cell? ⟨ad.block, ad.off + 2, none⟩ = some (.int .i64 x.2.2.1) ∧ w.cell? ⟨ad.block, ad.off + 3, none⟩ = some (.int .i64 x.2.2.2)
set_option maxHeartbeats 4000000 in
set_option maxRecDepth 100000 in
theorem laws_eqSpotS_calls (A : Option Addr) (c : Nat) (A' : Option Addr) (c' : Nat) (ds : List SpotD) (w : World) (h : SpRow w A c ds) (h' : SpRow w A' c' ds) :
    Calls Try.prog 11 #[.slice A ds.length c, .slice A' ds.length c'] w fun e w' => e = .returned (.bool true) ∧ Below w.heap.size w w' := by
  have hl := h.len
  have HR := Lib.hid h
  have HR' := Lib.hid h'
  have hb2 : ((ds.length : Int) != (ds.length : Int)) = false := by simp
  clear h h'
  go_enter Try.func11, Try.ntmps11
  go_wp2
  go_loopw [5] (fun iv wr => ∃ i : Nat, i ≤ ds.length ∧ iv = .int .i64 (i : Int) ∧ Below w.heap.size w wr) (fun iv _ => ds.length - (intOf iv).toNat)
  case atStart => exact ⟨0, Nat.zero_le _, rfl, Below.refl _ _⟩
  case round =>
    obtain ⟨i, hi, rfl, hbel⟩ := hrel
    have HB := Lib.hid hbel
    by_cases hlt : i < ds.length
    · obtain ⟨ad, x, hA, HX, hz1, hc0, hc1, hc2, hc3⟩ := (HR.out.below hbel).at_ hlt
      obtain ⟨ad', y, hA', HY, _, hd0, hd1, hd2, hd3⟩ := (HR'.out.below hbel).at_ hlt
      obtain rfl : x = y := Option.some.inj (HX.out.symm.trans HY.out)
      clear hbel
      cases hA
      cases hA'
      obtain ⟨k, g, p, q⟩ := x
      dsimp only at hz1 hc0 hc1 hc2 hc3 hd0 hd1 hd2 hd3
      have hli : (i : Int) < (ds.length : Int) := by omega
      have HH0 : Hid (Below wr.heap.size wr wr.drew) := Below.drew (Below.refl _ _)
      have H8 := Lib.hid (And.intro (And.intro hc0 (And.intro hc1 (And.intro hc2 hc3))) (And.intro hd0 (And.intro hd1 (And.intro hd2 hd3))))
      go_wp2_with fail
      go_region_held3 (fun w' => (w'.cell? (ad.add (i * 4)) = some (.string k) ∧ w'.cell? ⟨(ad.add (i * 4)).block, (ad.add (i * 4)).off + 1, none⟩ = some (.int .i64 g) ∧ w'.cell? ⟨(ad.add (i * 4)).block, (ad.add (i * 4)).off + 2, none⟩ = some (.int .i64 p) ∧ w'.cell? ⟨(ad.add (i * 4)).block, (ad.add (i * 4)).off + 3, none⟩ = some (.int .i64 q)) ∧ (w'.cell? (ad'.add (i * 4)) = some (.string k) ∧ w'.cell? ⟨(ad'.add (i * 4)).block, (ad'.add (i * 4)).off + 1, none⟩ = some (.int .i64 g) ∧ w'.cell? ⟨(ad'.add (i * 4)).block, (ad'.add (i * 4)).off + 2, none⟩ = some (.int .i64 p) ∧ w'.cell? ⟨(ad'.add (i * 4)).block, (ad'.add (i * 4)).off + 3, none⟩ = some (.int .i64 q)) ∧ Hid (Below wr.heap.size wr w')) (first | exact ⟨keep4 H8.out.1 HH0.out, keep4 H8.out.2 HH0.out, HH0⟩ | exact ⟨keep4 H8.out.1 (HH0.out.trans (hb.mono (Nat.le_refl _))), keep4 H8.out.2 (HH0.out.trans (hb.mono (Nat.le_refl _))), Lib.hid (HH0.out.trans (hb.mono (Nat.le_refl _)))⟩) (first | (go_at_call 54; refine (laws_eqSpot_calls k g p q _).mono ?_; rintro e w' ⟨rfl, hb⟩))
      have HKB := And.right (And.right ‹_ ∧ _ ∧ Hid (Below wr.heap.size wr _)›)
      go_wp2
      go_roundw
      case rel => first | exact ⟨i + 1, by omega, by go_num, HB.out.trans (HKB.out.mono HB.out.size)⟩ | (repeat (first | (refine ⟨?relx, rfl⟩; exact ⟨i + 1, by omega, by go_num, HB.out.trans (HKB.out.mono HB.out.size)⟩) | (refine ⟨?relx, ?eqs⟩; (case eqs => (and_intros <;> rfl)); exact ⟨i + 1, by omega, by go_num, HB.out.trans (HKB.out.mono HB.out.size)⟩) | apply Exists.intro))
      case measure => simp [intOf]; omega
    · obtain rfl : i = ds.length := by omega
      clear hbel
      go_wp2
      go_ret
      exact ⟨rfl, HB.out⟩
def mkSp (k : Nat) : SpotD := (mText k, ((k + 1 : Nat) : Int), ((k + 2 : Nat) : Int), ((k + 3 : Nat) : Int))
def marksSp (k n : Nat) : List SpotD := (List.range n).map fun i => mkSp (k + i * 4)
theorem marksSp_length (k n : Nat) : (marksSp k n).length = n := by simp [marksSp]
theorem marksSp_get {k n i : Nat} (h : i < n) : (marksSp k n)[i]? = some (mkSp (k + i * 4)) := by simp [marksSp, h]
theorem marksSp_succ (k n : Nat) : marksSp k (n + 1) = marksSp k n ++ [mkSp (k + n * 4)] := by simp [marksSp, List.range_succ]
theorem marksSp_small {k n : Nat} (h : k + n * 4 ≤ 1000000000000) : ∀ x ∈ marksSp k n, x.1.size ≤ 9223372036854775807 := by
  intro s hs
  obtain ⟨i, hi, rfl⟩ := List.mem_map.1 hs
  have := List.mem_range.1 hi
  have h1 := mText_size (k + i * 4) (by omega)
  show (mText (k + i * 4)).size ≤ _
  omega
theorem spFlat_drop {ds : List SpotD} {j : Nat} (h : j < ds.length) (more : List Value) : spFlat (ds.drop j) ++ more = spVals ds[j] ++ (spFlat (ds.drop (j + 1)) ++ more) := by
  unfold spFlat
  rw [List.drop_eq_getElem_cons h, List.map_cons, List.flatten_cons, List.append_assoc]
/-- What markSpotS does. -/
def MarkedSp (w : World) (B : Nat) (v : Value) (k n : Nat) (e : Ending) (w' : World) : Prop := e = .returned (.int .i64 ((k + n * 4 : Nat) : Int)) ∧ SpOwn w' B v (marksSp k n) ∧ w.grownBy w' v.ownBlock
theorem markSp_next {w wr : World} {b : Nat} {ty : TypeId} {k j : Nat} {x : SpotD} {R : List Value} {v1 v2 v3 : Int} (h : MkAt w wr b ty (spFlat (marksSp k j)) (((((spVals x).set 0 (.string (mText (k + j * 4)))).set 1 (.int .i64 v1)).set 2 (.int .i64 v2)).set 3 (.int .i64 v3)) R) (h1 : v1 = ((k + j * 4 + 1 : Nat) : Int)) (h2 : v2 = ((k + j * 4 + 2 : Nat) : Int)) (h3 : v3 = ((k + j * 4 + 3 : Nat) : Int)) : MkAt w wr b ty (spFlat (marksSp k (j + 1))) [] R := by
  subst h1 h2 h3
  rw [marksSp_succ, spFlat_snoc]
  exact h.next (M' := []) rfl
theorem markSp_end {ds : List SpotD} {k b B c : Nat} {more : List Value} {w wr : World} (h : MkAt w wr b 61 (spFlat (marksSp k ds.length)) [] (spFlat (ds.drop ds.length) ++ more)) (hc : (spFlat ds ++ more).length = c * 4) (hm : c ≤ maxLen) (hB : B ≤ b) :
    MarkedSp w B (.slice (some ⟨b, 0, none⟩) ds.length c) k ds.length (.returned (.int .i64 ((k + ds.length * 4 : Nat) : Int))) wr := by
  have hl : (spFlat (marksSp k ds.length)).length = ds.length * 4 := by rw [spFlat_len, marksSp_length]
  have h1 := h.1
  rw [List.drop_length, List.nil_append, show spFlat ([] : List SpotD) = [] from rfl, List.nil_append] at h1
  rw [List.length_append, spFlat_len] at hc
  refine ⟨rfl, ⟨by rw [marksSp_length]; exact hl, .inr ⟨b, c, _, by rw [marksSp_length], hB, h1, by rw [marksSp_length]; omega, hm, by simp [hl]; omega, ?_⟩⟩, h.2⟩
  rw [marksSp_length, ← hl]
  exact List.take_left' rfl
set_option maxHeartbeats 1000000 in
set_option maxRecDepth 100000 in
theorem laws_markSpotS_calls (B : Nat) (v : Value) (ds : List SpotD) (k : Nat) (w : World) (h : SpOwn w B v ds) (h0 : 1 ≤ k) (h1 : k + ds.length * 4 ≤ 1000000000000) :
    Calls Try.prog 12 #[v, .int .i64 (k : Int)] w (MarkedSp w B v k ds.length) := by
  have hfl := h.1
  rcases h.2 with ⟨rfl, h00⟩ | ⟨b, c, cur, rfl, hB, hg, hn, hm, hc, ht⟩
  · obtain rfl := List.eq_nil_of_length_eq_zero h00
    go_enter Try.func12, Try.ntmps12
    go_wp2
    refine wp_loop_rounds 1 ?_
    rw [rounds_succ]
    go_wp2
    go_ret
    exact ⟨rfl, World.ownsRow_nil _ _ _ _, ⟨rfl, rfl, rfl, Nat.le_refl _, fun _ _ _ => rfl⟩⟩
  · have hl : ds.length ≤ 1000000000000 := by omega
    obtain ⟨more, hcur⟩ : ∃ more : List Value, cur.toList = spFlat ds ++ more := ⟨cur.toList.drop (ds.length * 4), by rw [← ht, List.take_append_drop]⟩
    have hblk : w.heap[b]? = some (.cells (spFlat ds ++ more).toArray 61 (0, 0)) := by rw [hg, ← hcur]
    have hst : Hid (MkAt w w b 61 (spFlat (marksSp k 0)) [] (spFlat (ds.drop 0) ++ more)) := ⟨hblk, rfl, rfl, rfl, Nat.le_refl _, fun _ _ _ => rfl⟩
    have HC : Hid ((spFlat ds ++ more).length = c * 4) := by rw [Hid, ← hcur, Array.length_toList]; exact hc
    clear hblk hc ht hcur hg hfl
    go_enter Try.func12, Try.ntmps12
    go_wp2
    go_loopw [1, 5] (fun q i wr => ∃ j : Nat, j ≤ ds.length ∧ i = .int .i64 j ∧ q = .int .i64 ((k + j * 4 : Nat) : Int) ∧ MkAt w wr b 61 (spFlat (marksSp k j)) [] (spFlat (ds.drop j) ++ more)) (fun _ i _ => ds.length - (intOf i).toNat)
    case atStart => exact ⟨0, Nat.zero_le _, rfl, by go_num, hst.out⟩
    case round =>
      obtain ⟨j, hj, rfl, rfl, hrel⟩ := hrel
      by_cases hlt : j < ds.length
      · have hrel' : MkAt w wr b 61 (spFlat (marksSp k j)) (spVals ds[j]) (spFlat (ds.drop (j + 1)) ++ more) := by
          have := hrel.next (M' := spVals ds[j]) (R' := spFlat (ds.drop (j + 1)) ++ more) (spFlat_drop hlt more)
          rwa [List.append_nil] at this
        have hPl : (spFlat (marksSp k j)).length = j * 4 := by rw [spFlat_len, marksSp_length]
        have HP := Lib.hid hPl
        have HT := Lib.hid hrel'
        clear hrel hrel' hPl
        go_wp2_with fail
        go_at_call 55
        refine (laws_markText_calls (k + j * 4) _ (by omega) (by omega)).mono ?_
        rintro e w1 ⟨rfl, hb⟩
        have HT1 := Lib.hid (HT.out.below hb)
        clear hb
        have f0 := HT1.out.fz (j * 4)
        have c0 := HT1.out.cell 0 (j * 4) (by rw [HP.out]; rfl) (by simp [spVals])
        rw [show (spVals ds[j])[0]? = some (.string ds[j].1) from rfl] at c0
        have HT2 := Lib.hid (HT1.out.set 0 (j * 4) (by rw [HP.out]; rfl) (by simp [spVals]) (.string (mText (k + j * 4))))
        have f1 := HT2.out.fz (j * 4 + 1)
        have c1 := HT2.out.cell 1 (j * 4 + 1) (by rw [HP.out]) (by simp [spVals])
        rw [show ((spVals ds[j]).set 0 (.string (mText (k + j * 4))))[1]? = some (.int .i64 ds[j].2.1) from rfl] at c1
        have HT3 := Lib.hid (HT2.out.set 1 (j * 4 + 1) (by rw [HP.out]) (by simp [spVals]) (.int .i64 ((k : Int) + (j : Int) * 4 + 1)))
        have f2 := HT3.out.fz (j * 4 + 2)
        have c2 := HT3.out.cell 2 (j * 4 + 2) (by rw [HP.out]) (by simp [spVals])
        rw [show (((spVals ds[j]).set 0 (.string (mText (k + j * 4)))).set 1 (.int .i64 ((k : Int) + (j : Int) * 4 + 1)))[2]? = some (.int .i64 ds[j].2.2.1) from rfl] at c2
        have HT4 := Lib.hid (HT3.out.set 2 (j * 4 + 2) (by rw [HP.out]) (by simp [spVals]) (.int .i64 ((k : Int) + (j : Int) * 4 + 1 + 1)))
        have f3 := HT4.out.fz (j * 4 + 3)
        have c3 := HT4.out.cell 3 (j * 4 + 3) (by rw [HP.out]) (by simp [spVals])
        rw [show ((((spVals ds[j]).set 0 (.string (mText (k + j * 4)))).set 1 (.int .i64 ((k : Int) + (j : Int) * 4 + 1))).set 2 (.int .i64 ((k : Int) + (j : Int) * 4 + 1 + 1)))[3]? = some (.int .i64 ds[j].2.2.2) from rfl] at c3
        have HT5 := Lib.hid (HT4.out.set 3 (j * 4 + 3) (by rw [HP.out]) (by simp [spVals]) (.int .i64 ((k : Int) + (j : Int) * 4 + 1 + 1 + 1)))
        have HN := Lib.hid (markSp_next HT5.out (by omega) (by omega) (by omega))
        go_wp2
        go_roundw
        case rel => exact ⟨j + 1, by omega, by go_num, by go_num, HN.out⟩
        case measure => simp [intOf]; omega
      · obtain rfl : j = ds.length := by omega
        have HT := Lib.hid hrel
        clear hrel
        go_wp2
        go_ret
        exact markSp_end HT.out HC.out hm hB
set_option maxHeartbeats 1000000 in
set_option maxRecDepth 100000 in
theorem laws_heldSpotS_calls (A : Option Addr) (c n : Nat) (k : Nat) (w : World) (h : SpRow w A c (marksSp k n)) (h0 : 1 ≤ k) (h1 : k + n * 4 ≤ 1000000000000) :
    Calls Try.prog 13 #[.slice A n c, .int .i64 (k : Int)] w fun e w' => e = .returned (.int .i64 ((k + n * 4 : Nat) : Int)) ∧ Below w.heap.size w w' := by
  have HR := Lib.hid h
  clear h
  go_enter Try.func13, Try.ntmps13
  go_wp2
  go_loopw [1, 5] (fun q i wr => ∃ j : Nat, j ≤ n ∧ i = .int .i64 j ∧ q = .int .i64 ((k + j * 4 : Nat) : Int) ∧ Below w.heap.size w wr) (fun _ i _ => n - (intOf i).toNat)
  case atStart => exact ⟨0, Nat.zero_le _, rfl, by go_num, Below.refl _ _⟩
  case round =>
    obtain ⟨j, hj, rfl, rfl, hbel⟩ := hrel
    have HB := Lib.hid hbel
    by_cases hlt : j < n
    · obtain ⟨ad, x, hA, HX, hz1, hc0, hc1, hc2, hc3⟩ := (HR.out.below hbel).at_ (k := j) (by rw [marksSp_length]; exact hlt)
      obtain rfl : mkSp (k + j * 4) = x := by
        have := HX.out
        rw [marksSp_get hlt] at this
        exact Option.some.inj this
      clear HX hbel
      cases hA
      unfold mkSp at hz1 hc0 hc1 hc2 hc3
      dsimp only at hz1 hc0 hc1 hc2 hc3
      rw [show ((k + j * 4 + 1 : Nat) : Int) = ((k : Int) + (j : Int) * 4 + 1) by omega] at hc1
      rw [show ((k + j * 4 + 2 : Nat) : Int) = ((k : Int) + (j : Int) * 4 + 1 + 1) by omega] at hc2
      rw [show ((k + j * 4 + 3 : Nat) : Int) = ((k : Int) + (j : Int) * 4 + 1 + 1 + 1) by omega] at hc3
      have H3 := Lib.hid (And.intro hc0 (And.intro hc1 (And.intro hc2 hc3)))
      have HH0 : Hid (Below wr.heap.size wr wr.drew) := Below.drew (Below.refl _ _)
      go_wp2_with fail
      go_region_held3 (fun w' => (w'.cell? (ad.add (j * 4)) = some (.string (mText (k + j * 4))) ∧ w'.cell? ⟨(ad.add (j * 4)).block, (ad.add (j * 4)).off + 1, none⟩ = some (.int .i64 ((k : Int) + (j : Int) * 4 + 1)) ∧ w'.cell? ⟨(ad.add (j * 4)).block, (ad.add (j * 4)).off + 2, none⟩ = some (.int .i64 ((k : Int) + (j : Int) * 4 + 1 + 1)) ∧ w'.cell? ⟨(ad.add (j * 4)).block, (ad.add (j * 4)).off + 3, none⟩ = some (.int .i64 ((k : Int) + (j : Int) * 4 + 1 + 1 + 1))) ∧ Hid (Below wr.heap.size wr w')) (first | exact ⟨keep4 H3.out HH0.out, HH0⟩ | exact ⟨keep4 H3.out (HH0.out.trans (hb.mono (Nat.le_refl _))), Lib.hid (HH0.out.trans (hb.mono (Nat.le_refl _)))⟩) (first | (go_at_call 55; refine (laws_markText_calls (k + j * 4) _ (by omega) (by omega)).mono ?_; rintro e w' ⟨rfl, hb⟩))
      obtain ⟨⟨k0, k1, k2, k3⟩, HKB⟩ := ‹_ ∧ Hid (Below wr.heap.size wr w')›
      have n1 : (((k : Int) + (j : Int) * 4 + 1) != ((k : Int) + (j : Int) * 4 + 1)) = false := by simp
      have n2 : (((k : Int) + (j : Int) * 4 + 1 + 1) != ((k : Int) + (j : Int) * 4 + 1 + 1)) = false := by simp
      have n3 : (((k : Int) + (j : Int) * 4 + 1 + 1 + 1) != ((k : Int) + (j : Int) * 4 + 1 + 1 + 1)) = false := by simp
      clear hb hc0 hc1 hc2 hc3
      go_wp2
      go_roundw
      case rel => exact ⟨j + 1, by omega, by go_num, by go_num, HB.out.trans (HKB.out.mono HB.out.size)⟩
      case measure => simp [intOf]; omega
    · obtain rfl : j = n := by omega
      clear hbel
      go_wp2
      go_ret
      exact ⟨rfl, HB.out⟩
end Go.Proofs.Ytekhfplbhcfdmaa
