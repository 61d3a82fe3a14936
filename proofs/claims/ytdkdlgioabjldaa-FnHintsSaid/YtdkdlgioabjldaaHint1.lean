/- Directories: DirOk, the program's and the reference's. By wip/tools/gendirok.py. -/
import Derived.Test.YtdkdlgioabjldaaHintL
import Derived.Test.YtdkdlgioabjldaaGrow
import Derived.Test.YtdkdlgioabjldaaBl
import Derived.Laws.Cover1
import Derived.Outline
import Derived.BigQuiet
namespace Go.Proofs.Ytdkdlgioabjldaa
set_option linter.unusedVariables false
set_option linter.unusedSimpArgs false
open Go.RowKit
attribute [local go_sem] bs_size List.length_cons List.length_nil List.length_append

def spVals (x : SpotD) : List Value := [.string x.1, .int .i64 x.2.1, .int .i64 x.2.2.1, .int .i64 x.2.2.2]
def spFlat (ds : List SpotD) : List Value := (ds.map spVals).flatten
theorem spFlat_len (ds : List SpotD) : (spFlat ds).length = ds.length * 4 := flat_len (f := spVals) (m := 4) (fun _ => rfl) ds
theorem spFlat_snoc (ds : List SpotD) (x : SpotD) : spFlat (ds ++ [x]) = spFlat ds ++ spVals x := by simp [spFlat]
/-- A slice's value reads as these spots. -/
def SpRow (w : World) (A : Option Addr) (c : Nat) (ds : List SpotD) : Prop :=
  ds.length ≤ c ∧ c ≤ 9223372036854775807 ∧ (∀ x ∈ ds, x.1.size ≤ 9223372036854775807) ∧
  (0 < ds.length → ∃ ad : Addr, A = some ad ∧ ad.block < w.heap.size ∧ ∀ j x, ds[j]? = some x → w.cell? (ad.add (j * 4)) = some (.string x.1) ∧ w.cell? ⟨(ad.add (j * 4)).block, (ad.add (j * 4)).off + 1, none⟩ = some (.int .i64 x.2.1) ∧ w.cell? ⟨(ad.add (j * 4)).block, (ad.add (j * 4)).off + 2, none⟩ = some (.int .i64 x.2.2.1) ∧ w.cell? ⟨(ad.add (j * 4)).block, (ad.add (j * 4)).off + 3, none⟩ = some (.int .i64 x.2.2.2))
theorem SpRow.below {w w' : World} {A : Option Addr} {c : Nat} {ds : List SpotD} (h : SpRow w A c ds) (hb : Below w.heap.size w w') : SpRow w' A c ds :=
  ⟨h.1, h.2.1, h.2.2.1, fun hp => by
    obtain ⟨ad, e, hl, hc⟩ := h.2.2.2 hp
    refine ⟨ad, e, Nat.lt_of_lt_of_le hl hb.size, fun j x hx => ?_⟩
    obtain ⟨h0, h1, h2, h3⟩ := hc j x hx
    have q : (ad.add (j * 4)).block < w.heap.size := by rw [add_block]; exact hl
    exact ⟨(hb.cell q).trans h0, (hb.cell (by show (ad.add (j * 4)).block < _; exact q)).trans h1, (hb.cell (by show (ad.add (j * 4)).block < _; exact q)).trans h2, (hb.cell (by show (ad.add (j * 4)).block < _; exact q)).trans h3⟩⟩
theorem SpRow.len {w : World} {A : Option Addr} {c : Nat} {ds : List SpotD} (h : SpRow w A c ds) : ds.length ≤ 9223372036854775807 := Nat.le_trans h.1 h.2.1
theorem SpRow.at_ {w : World} {A : Option Addr} {c : Nat} {ds : List SpotD} (h : SpRow w A c ds) {k : Nat} (hk : k < ds.length) :
    ∃ (ad : Addr) (x : SpotD), A = some ad ∧ Hid (ds[k]? = some x) ∧ x.1.size ≤ 9223372036854775807 ∧ w.cell? (ad.add (k * 4)) = some (.string x.1) ∧ w.cell? ⟨(ad.add (k * 4)).block, (ad.add (k * 4)).off + 1, none⟩ = some (.int .i64 x.2.1) ∧ w.cell? ⟨(ad.add (k * 4)).block, (ad.add (k * 4)).off + 2, none⟩ = some (.int .i64 x.2.2.1) ∧ w.cell? ⟨(ad.add (k * 4)).block, (ad.add (k * 4)).off + 3, none⟩ = some (.int .i64 x.2.2.2) := by
  obtain ⟨ad, e, _, hc⟩ := h.2.2.2 (by omega)
  have hx : ds[k]? = some ds[k] := List.getElem?_eq_getElem hk
  exact ⟨ad, _, e, hx, h.2.2.1 _ (List.mem_of_getElem? hx), hc k _ hx⟩
theorem spAt_bad {ds : List SpotD} {i : Nat} {x : SpotD} (h : ds[i]? = some x) (hx : spOkB x = false) : spAt ds i = false := by
  unfold spAt
  rw [h]
  simp [hx]
theorem spAt_zero {ds : List SpotD} {x : SpotD} (h : ds[0]? = some x) (hx : spOkB x = true) : spAt ds 0 = true := by
  unfold spAt
  rw [h]
  simp [hx]
theorem spAt_succ {ds : List SpotD} {j : Nat} {x p : SpotD} (h : ds[j + 1]? = some x) (hp : ds[j]? = some p) (hx : spOkB x = true) : spAt ds (j + 1) = Op.bytesLess p.1.toList x.1.toList := by
  unfold spAt
  rw [h]
  simp [hx, hp]
theorem spAt_prev {ds : List SpotD} {j : Nat} {x p : SpotD} (h : ds[j + 1]? = some x) (hp : ds[j]? = some p) (hl : Op.bytesLess p.1.toList x.1.toList = false) : spAt ds (j + 1) = false := by
  unfold spAt
  rw [h]
  simp [hp, hl]
theorem dirOk_bad {ds : List SpotD} {i : Nat} (hi : i < ds.length) (h : spAt ds i = false) : dirOkB ds = false := by
  unfold dirOkB
  rw [List.all_eq_false.2 ⟨i, List.mem_range.2 hi, by simp [h]⟩]
  rfl
theorem dirOk_all {ds : List SpotD} (h : ∀ j, j < ds.length → spAt ds j = true) : dirOkB ds = decide (ds.length ≤ 200) := by
  unfold dirOkB
  rw [List.all_eq_true.2 fun i hi => h i (List.mem_range.1 hi)]
  simp
theorem spOk_1 {x : SpotD} (h : inR (x.1.size : Int) 1 20 = false) : spOkB x = false := by unfold spOkB; rw [h]; rfl
theorem spOk_2 {x : SpotD} (h : inR x.2.1 0 99 = false) : spOkB x = false := by unfold spOkB; rw [h]; simp
theorem spOk_3 {x : SpotD} (h : inR x.2.2.1 0 20000 = false) : spOkB x = false := by unfold spOkB; rw [h]; simp
theorem spOk_4 {x : SpotD} (h : inR x.2.2.2 0 1000000000 = false) : spOkB x = false := by unfold spOkB; rw [h]; simp
theorem spOk_yes {x : SpotD} (h1 : inR (x.1.size : Int) 1 20 = true) (h2 : inR x.2.1 0 99 = true) (h3 : inR x.2.2.1 0 20000 = true) (h4 : inR x.2.2.2 0 1000000000 = true) : spOkB x = true := by unfold spOkB; rw [h1, h2, h3, h4]; rfl
theorem sp_step {ds : List SpotD} {i : Nat} (h : ∀ j, j < i → spAt ds j = true) (hi : spAt ds i = true) : ∀ j, j < i + 1 → spAt ds j = true := by
  intro j hj
  by_cases e : j = i
  · subst e; exact hi
  · exact h j (by omega)
theorem within_sp (n lo hi : Int) (w : World) {b : Bool} (h : inR n lo hi = b) : Calls Try.prog 40 #[.int .i64 n, .int .i64 lo, .int .i64 hi] w fun e w' => e = .returned (.bool b) ∧ w' = w := by
  subst h
  exact (impl_within_calls n lo hi w).mono fun e w' ⟨he, hw⟩ => ⟨he, hw.symm⟩
theorem l01In_is (n lo hi : Int) (w : World) {b : Bool} (h : inR n lo hi = b) : Calls Try.prog 46 #[.int .i64 n, .int .i64 lo, .int .i64 hi] w fun e w' => e = .returned (.bool b) ∧ w' = w := by
  subst h
  exact (spec_l01In_calls n lo hi w).mono fun e w' ⟨he, hw⟩ => ⟨he, hw.symm⟩
theorem impl_keyOk_at (s : ByteArray) (w : World) (hs : s.size ≤ 9223372036854775807) {b : Bool} (h : inR (s.size : Int) 1 20 = b) : Calls Try.prog 39 #[.string s] w fun e w' => e = .returned (.bool b) ∧ w' = w := by
  subst h
  go_enter Try.func39, Try.ntmps39
  go_wp2_with (go_at_call 40; refine (impl_within_calls _ _ _ _).mono ?_; rintro e w' ⟨rfl, rfl⟩)
  go_ret
  exact ⟨rfl, rfl⟩
set_option maxHeartbeats 4000000 in
set_option maxRecDepth 100000 in
theorem impl_DirOk_calls (A : Option Addr) (c : Nat) (ds : List SpotD) (w : World) (h : SpRow w A c ds) :
    Calls Try.prog 13 #[.slice A ds.length c] w fun e w' => e = .returned (.bool (dirOkB ds)) ∧ Below w.heap.size w w' := by
  have hl := h.len
  have HR := Lib.hid h
  clear h
  go_enter Try.func13, Try.ntmps13
  go_wp2
  go_loopw [7] (fun iv wr => ∃ i : Nat, i ≤ ds.length ∧ iv = .int .i64 (i : Int) ∧ Hid (∀ j, j < i → spAt ds j = true) ∧ Below w.heap.size w wr) (fun iv _ => ds.length - (intOf iv).toNat)
  case atStart => exact ⟨0, Nat.zero_le _, rfl, fun j hj => by omega, Below.refl _ _⟩
  case round =>
    obtain ⟨i, hi, rfl, HT, hbel⟩ := hrel
    have HBE := Lib.hid hbel
    by_cases hlt : i < ds.length
    · obtain ⟨ad, x, hA, HX, hz1, hc0, hc1, hc2, hc3⟩ := (HR.out.below hbel).at_ hlt
      clear hbel
      cases hA
      obtain ⟨k, g, p, q⟩ := x
      dsimp only at hz1 hc0 hc1 hc2 hc3
      have hli : (i : Int) < (ds.length : Int) := by omega
      have f0 : (wr.alloc (.cells #[.string k, .int .i64 g, .int .i64 p, .int .i64 q] 31)).cell? ⟨wr.heap.size, 0, none⟩ = some (.string k) := blk_cell (blk_new wr _) 0
      have f1 : (wr.alloc (.cells #[.string k, .int .i64 g, .int .i64 p, .int .i64 q] 31)).cell? ⟨wr.heap.size, 1, none⟩ = some (.int .i64 g) := blk_cell (blk_new wr _) 1
      have f2 : (wr.alloc (.cells #[.string k, .int .i64 g, .int .i64 p, .int .i64 q] 31)).cell? ⟨wr.heap.size, 2, none⟩ = some (.int .i64 p) := blk_cell (blk_new wr _) 2
      have f3 : (wr.alloc (.cells #[.string k, .int .i64 g, .int .i64 p, .int .i64 q] 31)).cell? ⟨wr.heap.size, 3, none⟩ = some (.int .i64 q) := blk_cell (blk_new wr _) 3
      have HBW : Hid (Below w.heap.size w (wr.alloc (.cells #[.string k, .int .i64 g, .int .i64 p, .int .i64 q] 31))) := HBE.out.alloc HBE.out.size _
      cases h1 : inR (k.size : Int) 1 20
      · have HK1 := Lib.hid h1
        have HX0 := Lib.hid (dirOk_bad hlt (spAt_bad HX.out (spOk_1 h1)))
        clear h1
        go_wp2
        go_quiet ((first | (go_at_call 39; exact Calls.quiet_of_same (impl_keyOk_at k _ hz1 HK1.out))))
        go_wp2
        go_ret
        exact ⟨ret_bool HX0.out.symm, blwN HBW.out _⟩
      · have HK1 := Lib.hid h1
        cases h2 : inR g 0 99
        · have HK2 := Lib.hid h2
          have HX0 := Lib.hid (dirOk_bad hlt (spAt_bad HX.out (spOk_2 h2)))
          clear h1 h2
          go_wp2
          go_quiet ((first | (go_at_call 39; exact Calls.quiet_of_same (impl_keyOk_at k _ hz1 HK1.out)) | (go_at_call 40; exact Calls.quiet_of_same (within_sp _ _ _ _ HK2.out))))
          go_wp2
          go_ret
          exact ⟨ret_bool HX0.out.symm, blwN HBW.out _⟩
        · have HK2 := Lib.hid h2
          cases h3 : inR p 0 20000
          · have HK3 := Lib.hid h3
            have HX0 := Lib.hid (dirOk_bad hlt (spAt_bad HX.out (spOk_3 h3)))
            clear h1 h2 h3
            go_wp2
            go_quiet ((first | (go_at_call 39; exact Calls.quiet_of_same (impl_keyOk_at k _ hz1 HK1.out)) | (go_at_call 40; exact Calls.quiet_of_same (within_sp _ _ _ _ HK2.out)) | (go_at_call 40; exact Calls.quiet_of_same (within_sp _ _ _ _ HK3.out))))
            go_wp2
            go_ret
            exact ⟨ret_bool HX0.out.symm, blwN HBW.out _⟩
          · have HK3 := Lib.hid h3
            cases h4 : inR q 0 1000000000
            · have HK4 := Lib.hid h4
              have HX0 := Lib.hid (dirOk_bad hlt (spAt_bad HX.out (spOk_4 h4)))
              clear h1 h2 h3 h4
              go_wp2
              go_quiet ((first | (go_at_call 39; exact Calls.quiet_of_same (impl_keyOk_at k _ hz1 HK1.out)) | (go_at_call 40; exact Calls.quiet_of_same (within_sp _ _ _ _ HK2.out)) | (go_at_call 40; exact Calls.quiet_of_same (within_sp _ _ _ _ HK3.out)) | (go_at_call 40; exact Calls.quiet_of_same (within_sp _ _ _ _ HK4.out))))
              go_wp2
              go_ret
              exact ⟨ret_bool HX0.out.symm, blwN HBW.out _⟩
            · have HK4 := Lib.hid h4
              have HOK := Lib.hid (spOk_yes (x := (k, g, p, q)) h1 h2 h3 h4)
              clear h1 h2 h3 h4
              by_cases h0 : i = 0
              · have HNX := Lib.hid (sp_step HT.out (by rw [h0]; exact spAt_zero (by have := HX.out; rw [h0] at this; exact this) HOK.out))
                have g0 : decide (0 < i) = false := decide_eq_false (by omega)
                clear h0
                go_wp2
                go_quiet ((first | (go_at_call 39; exact Calls.quiet_of_same (impl_keyOk_at k _ hz1 HK1.out)) | (go_at_call 40; exact Calls.quiet_of_same (within_sp _ _ _ _ HK2.out)) | (go_at_call 40; exact Calls.quiet_of_same (within_sp _ _ _ _ HK3.out)) | (go_at_call 40; exact Calls.quiet_of_same (within_sp _ _ _ _ HK4.out))))
                go_wp2
                go_roundw
                case rel => first | exact ⟨i + 1, by omega, by go_num, HNX.out, blwN HBW.out _⟩ | (repeat (first | (refine ⟨?relx, rfl⟩; exact ⟨i + 1, by omega, by go_num, HNX.out, blwN HBW.out _⟩) | (refine ⟨?relx, ?eqs⟩; (case eqs => (and_intros <;> rfl)); exact ⟨i + 1, by omega, by go_num, HNX.out, blwN HBW.out _⟩) | apply Exists.intro))
                case measure => simp [intOf]; omega
              · obtain ⟨j, hj⟩ : ∃ j, i = j + 1 := ⟨i - 1, by omega⟩
                obtain ⟨ad2, pp, hA2, HY, hy1, hd0, _, _, _⟩ := (HR.out.below HBE.out).at_ (k := j) (by omega)
                cases hA2
                have hd0' : (wr.alloc (.cells #[.string k, .int .i64 g, .int .i64 p, .int .i64 q] 31)).cell? (ad.add (j * 4)) = some (.string pp.1) := cell_new hd0 _
                have ht : ((i : Int) - 1).toNat = j := by omega
                have hw : IntKind.i64.wrap ((i : Int) - 1) = (i : Int) - 1 := by rw [IntKind.wrap_i64]; omega
                have hb0 : (0 : Int) ≤ (i : Int) - 1 := by omega
                have hbx : (i : Int) - 1 < (ds.length : Int) := by omega
                have g0 : decide (0 < i) = true := decide_eq_true (by omega)
                have HQ : Hid (spAt ds i = Op.bytesLess pp.1.toList k.toList) := by (have HX1 := HX.out; rw [hj] at HX1 ⊢; exact spAt_succ HX1 HY.out HOK.out)
                clear hj hd0 h0
                cases hs : Op.bytesLess pp.1.toList k.toList
                · have HX0 := Lib.hid (dirOk_bad hlt (HQ.out.trans hs))
                  go_wp2
                  go_quiet ((first | (go_at_call 39; exact Calls.quiet_of_same (impl_keyOk_at k _ hz1 HK1.out)) | (go_at_call 40; exact Calls.quiet_of_same (within_sp _ _ _ _ HK2.out)) | (go_at_call 40; exact Calls.quiet_of_same (within_sp _ _ _ _ HK3.out)) | (go_at_call 40; exact Calls.quiet_of_same (within_sp _ _ _ _ HK4.out))))
                  go_wp2
                  go_ret
                  exact ⟨ret_bool HX0.out.symm, blwN HBW.out _⟩
                · have HNX := Lib.hid (sp_step HT.out (HQ.out.trans hs))
                  go_wp2
                  go_quiet ((first | (go_at_call 39; exact Calls.quiet_of_same (impl_keyOk_at k _ hz1 HK1.out)) | (go_at_call 40; exact Calls.quiet_of_same (within_sp _ _ _ _ HK2.out)) | (go_at_call 40; exact Calls.quiet_of_same (within_sp _ _ _ _ HK3.out)) | (go_at_call 40; exact Calls.quiet_of_same (within_sp _ _ _ _ HK4.out))))
                  go_wp2
                  go_roundw
                  case rel => first | exact ⟨i + 1, by omega, by go_num, HNX.out, blwN HBW.out _⟩ | (repeat (first | (refine ⟨?relx, rfl⟩; exact ⟨i + 1, by omega, by go_num, HNX.out, blwN HBW.out _⟩) | (refine ⟨?relx, ?eqs⟩; (case eqs => (and_intros <;> rfl)); exact ⟨i + 1, by omega, by go_num, HNX.out, blwN HBW.out _⟩) | apply Exists.intro))
                  case measure => simp [intOf]; omega
    · obtain rfl : i = ds.length := by omega
      have HE := Lib.hid (dirOk_all HT.out)
      clear hbel
      go_wp2
      go_ret
      exact ⟨ret_bool (by rw [HE.out]; exact decide_eq_decide.2 (by omega)), HBE.out⟩
set_option maxHeartbeats 4000000 in
set_option maxRecDepth 100000 in
theorem spec_DirOk_calls (A : Option Addr) (c : Nat) (ds : List SpotD) (w : World) (h : SpRow w A c ds) :
    Calls Try.prog 23 #[.slice A ds.length c] w fun e w' => e = .returned (.bool (dirOkB ds)) ∧ Below w.heap.size w w' := by
  have hl := h.len
  have HR := Lib.hid h
  clear h
  by_cases h200 : ds.length ≤ 200
  rotate_left
  · have HE : Hid (dirOkB ds = false) := by rw [Hid, Bool.eq_false_iff]; exact fun e => h200 (dirOk_parts e).1
    go_enter Try.func23, Try.ntmps23
    go_wp2
    go_ret
    exact ⟨ret_bool HE.out.symm, Below.refl _ _⟩
  go_enter Try.func23, Try.ntmps23
  go_wp2
  go_loopw [3] (fun iv wr => ∃ i : Nat, i ≤ ds.length ∧ iv = .int .i64 (i : Int) ∧ Hid (∀ j, j < i → spAt ds j = true) ∧ Below w.heap.size w wr) (fun iv _ => ds.length - (intOf iv).toNat)
  case atStart => exact ⟨0, Nat.zero_le _, rfl, fun j hj => by omega, Below.refl _ _⟩
  case round =>
    obtain ⟨i, hi, rfl, HT, hbel⟩ := hrel
    have HBE := Lib.hid hbel
    by_cases hlt : i < ds.length
    · obtain ⟨ad, x, hA, HX, hz1, hc0, hc1, hc2, hc3⟩ := (HR.out.below hbel).at_ hlt
      clear hbel
      cases hA
      obtain ⟨k, g, p, q⟩ := x
      dsimp only at hz1 hc0 hc1 hc2 hc3
      have hli : (i : Int) < (ds.length : Int) := by omega
      have f0 : (wr.alloc (.cells #[.string k, .int .i64 g, .int .i64 p, .int .i64 q] 31)).cell? ⟨wr.heap.size, 0, none⟩ = some (.string k) := blk_cell (blk_new wr _) 0
      have f1 : (wr.alloc (.cells #[.string k, .int .i64 g, .int .i64 p, .int .i64 q] 31)).cell? ⟨wr.heap.size, 1, none⟩ = some (.int .i64 g) := blk_cell (blk_new wr _) 1
      have f2 : (wr.alloc (.cells #[.string k, .int .i64 g, .int .i64 p, .int .i64 q] 31)).cell? ⟨wr.heap.size, 2, none⟩ = some (.int .i64 p) := blk_cell (blk_new wr _) 2
      have f3 : (wr.alloc (.cells #[.string k, .int .i64 g, .int .i64 p, .int .i64 q] 31)).cell? ⟨wr.heap.size, 3, none⟩ = some (.int .i64 q) := blk_cell (blk_new wr _) 3
      have HBW : Hid (Below w.heap.size w (wr.alloc (.cells #[.string k, .int .i64 g, .int .i64 p, .int .i64 q] 31))) := HBE.out.alloc HBE.out.size _
      cases h1 : inR (k.size : Int) 1 20
      · have HK1 := Lib.hid h1
        have HX0 := Lib.hid (dirOk_bad hlt (spAt_bad HX.out (spOk_1 h1)))
        clear h1
        go_wp2
        go_quiet ((first | (go_at_call 46; exact Calls.quiet_of_same (l01In_is _ _ _ _ HK1.out))))
        go_wp2
        go_ret
        exact ⟨ret_bool HX0.out.symm, blwN HBW.out _⟩
      · have HK1 := Lib.hid h1
        by_cases h0 : i = 0
        · have HGO : Hid (spOkB (k, g, p, q) = true → spAt ds i = true) := fun hok => by rw [h0]; exact spAt_zero (by have := HX.out; rw [h0] at this; exact this) hok
          have g0 : decide (0 < i) = false := decide_eq_false (by omega)
          clear h0
          cases h2 : inR g 0 99
          · have HK2 := Lib.hid h2
            have HX0 := Lib.hid (dirOk_bad hlt (spAt_bad HX.out (spOk_2 h2)))
            clear h1 h2
            go_wp2
            go_quiet ((first | (go_at_call 46; exact Calls.quiet_of_same (l01In_is _ _ _ _ HK1.out)) | (go_at_call 46; exact Calls.quiet_of_same (l01In_is _ _ _ _ HK2.out))))
            go_wp2
            go_ret
            exact ⟨ret_bool HX0.out.symm, blwN HBW.out _⟩
          · have HK2 := Lib.hid h2
            cases h3 : inR p 0 20000
            · have HK3 := Lib.hid h3
              have HX0 := Lib.hid (dirOk_bad hlt (spAt_bad HX.out (spOk_3 h3)))
              clear h1 h2 h3
              go_wp2
              go_quiet ((first | (go_at_call 46; exact Calls.quiet_of_same (l01In_is _ _ _ _ HK1.out)) | (go_at_call 46; exact Calls.quiet_of_same (l01In_is _ _ _ _ HK2.out)) | (go_at_call 46; exact Calls.quiet_of_same (l01In_is _ _ _ _ HK3.out))))
              go_wp2
              go_ret
              exact ⟨ret_bool HX0.out.symm, blwN HBW.out _⟩
            · have HK3 := Lib.hid h3
              cases h4 : inR q 0 1000000000
              · have HK4 := Lib.hid h4
                have HX0 := Lib.hid (dirOk_bad hlt (spAt_bad HX.out (spOk_4 h4)))
                clear h1 h2 h3 h4
                go_wp2
                go_quiet ((first | (go_at_call 46; exact Calls.quiet_of_same (l01In_is _ _ _ _ HK1.out)) | (go_at_call 46; exact Calls.quiet_of_same (l01In_is _ _ _ _ HK2.out)) | (go_at_call 46; exact Calls.quiet_of_same (l01In_is _ _ _ _ HK3.out)) | (go_at_call 46; exact Calls.quiet_of_same (l01In_is _ _ _ _ HK4.out))))
                go_wp2
                go_ret
                exact ⟨ret_bool HX0.out.symm, blwN HBW.out _⟩
              · have HK4 := Lib.hid h4
                have HNX := Lib.hid (sp_step HT.out (HGO.out (spOk_yes (x := (k, g, p, q)) h1 h2 h3 h4)))
                clear h1 h2 h3 h4
                go_wp2
                go_quiet ((first | (go_at_call 46; exact Calls.quiet_of_same (l01In_is _ _ _ _ HK1.out)) | (go_at_call 46; exact Calls.quiet_of_same (l01In_is _ _ _ _ HK2.out)) | (go_at_call 46; exact Calls.quiet_of_same (l01In_is _ _ _ _ HK3.out)) | (go_at_call 46; exact Calls.quiet_of_same (l01In_is _ _ _ _ HK4.out))))
                go_wp2
                go_roundw
                case rel => first | exact ⟨i + 1, by omega, by go_num, HNX.out, blwN HBW.out _⟩ | (repeat (first | (refine ⟨?relx, rfl⟩; exact ⟨i + 1, by omega, by go_num, HNX.out, blwN HBW.out _⟩) | (refine ⟨?relx, ?eqs⟩; (case eqs => (and_intros <;> rfl)); exact ⟨i + 1, by omega, by go_num, HNX.out, blwN HBW.out _⟩) | apply Exists.intro))
                case measure => simp [intOf]; omega
        · obtain ⟨j, hj⟩ : ∃ j, i = j + 1 := ⟨i - 1, by omega⟩
          obtain ⟨ad2, pp, hA2, HY, hy1, hd0, _, _, _⟩ := (HR.out.below HBE.out).at_ (k := j) (by omega)
          cases hA2
          have hd0' : (wr.alloc (.cells #[.string k, .int .i64 g, .int .i64 p, .int .i64 q] 31)).cell? (ad.add (j * 4)) = some (.string pp.1) := cell_new hd0 _
          have ht : ((i : Int) - 1).toNat = j := by omega
          have hw : IntKind.i64.wrap ((i : Int) - 1) = (i : Int) - 1 := by rw [IntKind.wrap_i64]; omega
          have hb0 : (0 : Int) ≤ (i : Int) - 1 := by omega
          have hbx : (i : Int) - 1 < (ds.length : Int) := by omega
          have g0 : decide (0 < i) = true := decide_eq_true (by omega)
          cases hs : Op.bytesLess pp.1.toList k.toList
          · have HX0 := Lib.hid (dirOk_bad hlt (by have HX1 := HX.out; rw [hj] at HX1 ⊢; exact spAt_prev HX1 HY.out hs))
            clear hj hd0 h1 h0
            go_wp2
            go_quiet ((first | (go_at_call 46; exact Calls.quiet_of_same (l01In_is _ _ _ _ HK1.out))))
            go_wp2
            go_ret
            exact ⟨ret_bool HX0.out.symm, blwN HBW.out _⟩
          · have HGO : Hid (spOkB (k, g, p, q) = true → spAt ds i = true) := fun hok => by (have HX1 := HX.out; rw [hj] at HX1 ⊢; exact (spAt_succ HX1 HY.out hok).trans hs)
            clear hj hd0 h0
            cases h2 : inR g 0 99
            · have HK2 := Lib.hid h2
              have HX0 := Lib.hid (dirOk_bad hlt (spAt_bad HX.out (spOk_2 h2)))
              clear h1 h2
              go_wp2
              go_quiet ((first | (go_at_call 46; exact Calls.quiet_of_same (l01In_is _ _ _ _ HK1.out)) | (go_at_call 46; exact Calls.quiet_of_same (l01In_is _ _ _ _ HK2.out))))
              go_wp2
              go_ret
              exact ⟨ret_bool HX0.out.symm, blwN HBW.out _⟩
            · have HK2 := Lib.hid h2
              cases h3 : inR p 0 20000
              · have HK3 := Lib.hid h3
                have HX0 := Lib.hid (dirOk_bad hlt (spAt_bad HX.out (spOk_3 h3)))
                clear h1 h2 h3
                go_wp2
                go_quiet ((first | (go_at_call 46; exact Calls.quiet_of_same (l01In_is _ _ _ _ HK1.out)) | (go_at_call 46; exact Calls.quiet_of_same (l01In_is _ _ _ _ HK2.out)) | (go_at_call 46; exact Calls.quiet_of_same (l01In_is _ _ _ _ HK3.out))))
                go_wp2
                go_ret
                exact ⟨ret_bool HX0.out.symm, blwN HBW.out _⟩
              · have HK3 := Lib.hid h3
                cases h4 : inR q 0 1000000000
                · have HK4 := Lib.hid h4
                  have HX0 := Lib.hid (dirOk_bad hlt (spAt_bad HX.out (spOk_4 h4)))
                  clear h1 h2 h3 h4
                  go_wp2
                  go_quiet ((first | (go_at_call 46; exact Calls.quiet_of_same (l01In_is _ _ _ _ HK1.out)) | (go_at_call 46; exact Calls.quiet_of_same (l01In_is _ _ _ _ HK2.out)) | (go_at_call 46; exact Calls.quiet_of_same (l01In_is _ _ _ _ HK3.out)) | (go_at_call 46; exact Calls.quiet_of_same (l01In_is _ _ _ _ HK4.out))))
                  go_wp2
                  go_ret
                  exact ⟨ret_bool HX0.out.symm, blwN HBW.out _⟩
                · have HK4 := Lib.hid h4
                  have HNX := Lib.hid (sp_step HT.out (HGO.out (spOk_yes (x := (k, g, p, q)) h1 h2 h3 h4)))
                  clear h1 h2 h3 h4
                  go_wp2
                  go_quiet ((first | (go_at_call 46; exact Calls.quiet_of_same (l01In_is _ _ _ _ HK1.out)) | (go_at_call 46; exact Calls.quiet_of_same (l01In_is _ _ _ _ HK2.out)) | (go_at_call 46; exact Calls.quiet_of_same (l01In_is _ _ _ _ HK3.out)) | (go_at_call 46; exact Calls.quiet_of_same (l01In_is _ _ _ _ HK4.out))))
                  go_wp2
                  go_roundw
                  case rel => first | exact ⟨i + 1, by omega, by go_num, HNX.out, blwN HBW.out _⟩ | (repeat (first | (refine ⟨?relx, rfl⟩; exact ⟨i + 1, by omega, by go_num, HNX.out, blwN HBW.out _⟩) | (refine ⟨?relx, ?eqs⟩; (case eqs => (and_intros <;> rfl)); exact ⟨i + 1, by omega, by go_num, HNX.out, blwN HBW.out _⟩) | apply Exists.intro))
                  case measure => simp [intOf]; omega
    · obtain rfl : i = ds.length := by omega
      have HE := Lib.hid (dirOk_all HT.out)
      clear hbel
      go_wp2
      go_ret
      exact ⟨ret_bool (by rw [HE.out, decide_eq_true h200]), HBE.out⟩
end Go.Proofs.Ytdkdlgioabjldaa
