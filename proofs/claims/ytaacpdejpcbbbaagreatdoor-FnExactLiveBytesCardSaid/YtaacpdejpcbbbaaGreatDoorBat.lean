/- Batches: BatchOk, the program's and the reference's. -/
import Derived.Test.YtaacpdejpcbbbaaGreatDoorBatL
import Derived.Test.YtaacpdejpcbbbaaGreatDoorIn
import Derived.Test.YtaacpdejpcbbbaaGreatDoorBl
import Derived.Laws.Cover1
import Derived.Outline
import Derived.BigQuiet
namespace Go.Proofs.YtaacpdejpcbbbaaGreatDoor
set_option linter.unusedVariables false
set_option linter.unusedSimpArgs false
open Go.RowKit
attribute [local go_sem] bs_size List.length_cons List.length_nil List.length_append

/-- A slice's value reads as these changes. -/
def ChRow (w : World) (A : Option Addr) (c : Nat) (cs : List ChD) : Prop :=
  cs.length ≤ c ∧ c ≤ 9223372036854775807 ∧ (∀ x ∈ cs, x.1.size ≤ 9223372036854775807 ∧ x.2.1.size ≤ 9223372036854775807) ∧
  (0 < cs.length → ∃ ad : Addr, A = some ad ∧ ad.block < w.heap.size ∧ ∀ j x, cs[j]? = some x → w.cell? (ad.add (j * 3)) = some (.string x.1) ∧ w.cell? ⟨(ad.add (j * 3)).block, (ad.add (j * 3)).off + 1, none⟩ = some (.string x.2.1) ∧ w.cell? ⟨(ad.add (j * 3)).block, (ad.add (j * 3)).off + 2, none⟩ = some (.bool x.2.2))
theorem ChRow.below {w w' : World} {A : Option Addr} {c : Nat} {cs : List ChD} (h : ChRow w A c cs) (hb : Below w.heap.size w w') : ChRow w' A c cs :=
  ⟨h.1, h.2.1, h.2.2.1, fun hp => by
    obtain ⟨ad, e, hl, hc⟩ := h.2.2.2 hp
    refine ⟨ad, e, Nat.lt_of_lt_of_le hl hb.size, fun j x hx => ?_⟩
    obtain ⟨h0, h1, h2⟩ := hc j x hx
    exact ⟨(hb.cell (by rw [add_block]; exact hl)).trans h0, (hb.cell (by show (ad.add (j * 3)).block < _; rw [add_block]; exact hl)).trans h1, (hb.cell (by show (ad.add (j * 3)).block < _; rw [add_block]; exact hl)).trans h2⟩⟩
theorem ChRow.len {w : World} {A : Option Addr} {c : Nat} {cs : List ChD} (h : ChRow w A c cs) : cs.length ≤ 9223372036854775807 := Nat.le_trans h.1 h.2.1
theorem ChRow.at_ {w : World} {A : Option Addr} {c : Nat} {cs : List ChD} (h : ChRow w A c cs) {k : Nat} (hk : k < cs.length) :
    ∃ (ad : Addr) (x : ChD), A = some ad ∧ Hid (cs[k]? = some x) ∧ x.1.size ≤ 9223372036854775807 ∧ x.2.1.size ≤ 9223372036854775807 ∧ w.cell? (ad.add (k * 3)) = some (.string x.1) ∧ w.cell? ⟨(ad.add (k * 3)).block, (ad.add (k * 3)).off + 1, none⟩ = some (.string x.2.1) ∧ w.cell? ⟨(ad.add (k * 3)).block, (ad.add (k * 3)).off + 2, none⟩ = some (.bool x.2.2) := by
  obtain ⟨ad, e, _, hc⟩ := h.2.2.2 (by omega)
  have hx : cs[k]? = some cs[k] := List.getElem?_eq_getElem hk
  have hs := h.2.2.1 _ (List.mem_of_getElem? hx)
  exact ⟨ad, _, e, hx, hs.1, hs.2, hc k _ hx⟩
theorem chAt_bad {cs : List ChD} {i : Nat} {x : ChD} (h : cs[i]? = some x) (hx : chOkB x = false) : chAt cs i = false := by
  unfold chAt
  rw [h]
  simp [hx]
theorem chAt_zero {cs : List ChD} {x : ChD} (h : cs[0]? = some x) (hx : chOkB x = true) : chAt cs 0 = true := by
  unfold chAt
  rw [h]
  simp [hx]
theorem chAt_succ {cs : List ChD} {j : Nat} {x p : ChD} (h : cs[j + 1]? = some x) (hp : cs[j]? = some p) (hx : chOkB x = true) : chAt cs (j + 1) = Op.bytesLess p.1.toList x.1.toList := by
  unfold chAt
  rw [h]
  simp [hx, hp]
theorem batOk_bad {q : Int} {cs : List ChD} {i : Nat} (hi : i < cs.length) (h : chAt cs i = false) : batOkB (q, cs) = false := by
  unfold batOkB
  rw [List.all_eq_false.2 ⟨i, List.mem_range.2 hi, by simp [h]⟩]
  rfl
theorem batOk_all {q : Int} {cs : List ChD} (h : ∀ j, j < cs.length → chAt cs j = true) : batOkB (q, cs) = (inR q 0 1000000000 && inR (cs.length : Int) 1 40) := by
  unfold batOkB
  rw [List.all_eq_true.2 fun i hi => h i (List.mem_range.1 hi)]
  unfold inR
  rw [Bool.true_and]
  congr 1
  · rw [Bool.decide_and]
  · rw [← Bool.decide_and]
    refine decide_eq_decide.2 ?_
    dsimp only
    omega
theorem chOk_key {k v : ByteArray} {g : Bool} (h : inR (k.size : Int) 1 20 = false) : chOkB (k, v, g) = false := by
  unfold inR at h
  unfold chOkB
  rw [Bool.eq_false_iff]
  intro e
  simp only [Bool.and_eq_true, decide_eq_true_eq] at e
  simp only [Bool.and_eq_false_iff, decide_eq_false_iff_not] at h
  omega
theorem chOk_val {k v : ByteArray} {g : Bool} (h : 2000 < v.size) : chOkB (k, v, g) = false := by
  have : ¬ v.size ≤ 2000 := by omega
  simp [chOkB, this]
theorem chOk_gone {k v : ByteArray} (h : v.size ≠ 0) : chOkB (k, v, true) = false := by simp [chOkB, h]
theorem chOk_ok {k v : ByteArray} {g : Bool} (h : inR (k.size : Int) 1 20 = true) (h1 : v.size ≤ 2000) (h2 : g = true → v.size = 0) : chOkB (k, v, g) = true := by
  unfold inR at h
  simp only [Bool.and_eq_true, decide_eq_true_eq] at h
  have h3 : 1 ≤ k.size := by omega
  have h4 : k.size ≤ 20 := by omega
  cases g
  · simp [chOkB, h3, h4, h1]
  · simp [chOkB, h3, h4, h1, h2 rfl]
theorem ch_step {cs : List ChD} {i : Nat} (h : ∀ j, j < i → chAt cs j = true) (hi : chAt cs i = true) : ∀ j, j < i + 1 → chAt cs j = true := by
  intro j hj
  by_cases e : j = i
  · subst e; exact hi
  · exact h j (by omega)
theorem empty_list {v : ByteArray} (h : v.size ≠ 0) : (v.toList == []) = false := beq_eq_false_iff_ne.mpr fun e => h (by rw [← ub_length]; rw [ByteArray.toList_eq] at e; show v.data.toList.length = 0; rw [e]; rfl)
theorem impl_keyOk_calls (s : ByteArray) (w : World) (hs : s.size ≤ 9223372036854775807) : Calls Tryz.prog 191 #[.string s] w fun e w' => e = .returned (.bool (inR (s.size : Int) 1 20)) ∧ w = w' := by
  go_enter Tryz.func191, Tryz.ntmps191
  go_wp2_with (go_at_call 57; refine (impl_within_calls _ _ _ _).mono ?_; rintro e w' ⟨rfl, rfl⟩)
  go_ret
  exact ⟨rfl, rfl⟩
theorem keyOk_at (s : ByteArray) (w : World) (hs : s.size ≤ 9223372036854775807) {b : Bool} (h : inR (s.size : Int) 1 20 = b) : Calls Tryz.prog 191 #[.string s] w fun e w' => e = .returned (.bool b) ∧ w' = w := by
  subst h
  exact (impl_keyOk_calls s w hs).mono fun e w' ⟨he, hw⟩ => ⟨he, hw.symm⟩
set_option maxHeartbeats 4000000 in
set_option maxRecDepth 100000 in
theorem impl_BatchOk_calls (q : Int) (A : Option Addr) (c : Nat) (cs : List ChD) (w : World) (h : ChRow w A c cs) :
    Calls Tryz.prog 173 #[.agg #[.int .i64 q, .slice A cs.length c]] w fun e w' => e = .returned (.bool (batOkB (q, cs))) ∧ Below w.heap.size w w' := by
  have hl := h.len
  have hal : Below w.heap.size w (w.alloc (.cells #[.int .i64 q, .slice A cs.length c] 62)) := (Below.refl _ _).alloc (Nat.le_refl _) _
  have HR := Lib.hid (h.below hal)
  have HB := Lib.hid hal
  clear h hal
  go_enter Tryz.func173, Tryz.ntmps173
  go_wp2_with fail
  go_outline
  go_loopw [8] (fun iv wr => ∃ i : Nat, i ≤ cs.length ∧ iv = .int .i64 (i : Int) ∧ Hid (∀ j, j < i → chAt cs j = true) ∧ Below (w.alloc (.cells #[.int .i64 q, .slice A cs.length c] 62)).heap.size (w.alloc (.cells #[.int .i64 q, .slice A cs.length c] 62)) wr) (fun iv _ => cs.length - (intOf iv).toNat)
  case atStart => exact ⟨0, Nat.zero_le _, rfl, fun j hj => by omega, Below.refl _ _⟩
  case round =>
    obtain ⟨i, hi, rfl, HT, hbel⟩ := hrel
    have HBE := Lib.hid hbel
    by_cases hlt : i < cs.length
    · obtain ⟨ad, x, hA, HX, hz1, hz2, hc0, hc1, hc2⟩ := (HR.out.below hbel).at_ hlt
      clear hbel
      cases hA
      obtain ⟨k, v, g⟩ := x
      dsimp only at hz1 hz2 hc0 hc1 hc2
      have hb1 : wr.cell? ⟨w.heap.size, 1, none⟩ = some (.slice (some ad) cs.length c) := (HBE.out.cell (by simp)).trans (blk_cell (blk_new w _) 1)
      have hS0 : (wr.alloc (.cells #[.string k, .string v, .bool g] 121)).cell? ⟨wr.heap.size, 0, none⟩ = some (.string k) ∧ (wr.alloc (.cells #[.string k, .string v, .bool g] 121)).cell? ⟨wr.heap.size, 1, none⟩ = some (.string v) ∧ (wr.alloc (.cells #[.string k, .string v, .bool g] 121)).cell? ⟨wr.heap.size, 2, none⟩ = some (.bool g) ∧ (wr.alloc (.cells #[.string k, .string v, .bool g] 121)).cell? ⟨w.heap.size, 1, none⟩ = some (.slice (some ad) cs.length c) := ⟨blk_cell (blk_new wr _) 0, blk_cell (blk_new wr _) 1, blk_cell (blk_new wr _) 2, by rw [← hb1]; exact (World.cell?_of_block ((World.grownBy_alloc wr _ none).block _ (World.block_lt_of_cell? wr _ hb1) (by simp)))⟩
      obtain ⟨f0, f1, f2, f3⟩ := hS0
      have HBW : Hid (Below w.heap.size w (wr.alloc (.cells #[.string k, .string v, .bool g] 121))) := by
        have h1 := HB.out.trans (HBE.out.mono (by simp))
        exact h1.alloc h1.size _
      cases hk : inR (k.size : Int) 1 20
      · have HK := Lib.hid hk
        have HX0 := Lib.hid (batOk_bad (q := q) hlt (chAt_bad HX.out (chOk_key hk)))
        clear hk
        go_wp2
        go_quiet ((go_at_call 191; exact Calls.quiet_of_same (keyOk_at k _ hz1 HK.out)))
        go_wp2
        go_ret
        exact ⟨ret_bool HX0.out.symm, blwN HBW.out _⟩
      · have HK := Lib.hid hk
        by_cases hv : 2000 < v.size
        · have HX0 := Lib.hid (batOk_bad (q := q) hlt (chAt_bad HX.out (chOk_val hv)))
          have hvi : decide ((2000 : Int) < (v.size : Int)) = true := by simp; omega
          clear hk
          go_wp2
          go_quiet ((go_at_call 191; exact Calls.quiet_of_same (keyOk_at k _ hz1 HK.out)))
          go_wp2
          go_ret
          exact ⟨ret_bool HX0.out.symm, blwN HBW.out _⟩
        · have hvi : decide ((2000 : Int) < (v.size : Int)) = false := by simp; omega
          by_cases hg : g = true ∧ v.size ≠ 0
          · obtain ⟨rfl, hv0⟩ := hg
            have HX0 := Lib.hid (batOk_bad (q := q) hlt (chAt_bad HX.out (chOk_gone hv0)))
            have hq := empty_list hv0
            clear hk hv0
            go_wp2
            go_quiet ((go_at_call 191; exact Calls.quiet_of_same (keyOk_at k _ hz1 HK.out)))
            go_wp2
            go_ret
            exact ⟨ret_bool HX0.out.symm, blwN HBW.out _⟩
          · have hok := chOk_ok (g := g) hk (by omega) (fun e => Decidable.byContradiction fun h0 => hg ⟨e, h0⟩)
            have HOK := Lib.hid hok
            have HBV : Hid (Below (w.alloc (.cells #[.int .i64 q, .slice (some ad) cs.length c] 62)).heap.size (w.alloc (.cells #[.int .i64 q, .slice (some ad) cs.length c] 62)) (wr.alloc (.cells #[.string k, .string v, .bool g] 121))) := HBE.out.alloc HBE.out.size _
            by_cases h0 : i = 0
            · have HNX := Lib.hid (ch_step HT.out (by rw [h0]; exact chAt_zero (by have := HX.out; rw [h0] at this; exact this) hok))
              have g0 : decide (0 < i) = false := decide_eq_false (by omega)
              clear hk hok h0
              cases g
              · clear hg
                go_wp2
                go_quiet ((go_at_call 191; exact Calls.quiet_of_same (keyOk_at k _ hz1 HK.out)))
                go_wp2
                go_roundw
                case rel => first | exact ⟨i + 1, by omega, by go_num, HNX.out, blwN HBV.out _⟩ | (repeat (first | (refine ⟨?relx, rfl⟩; exact ⟨i + 1, by omega, by go_num, HNX.out, blwN HBV.out _⟩) | (refine ⟨?relx, ?eqs⟩; (case eqs => (and_intros <;> rfl)); exact ⟨i + 1, by omega, by go_num, HNX.out, blwN HBV.out _⟩) | apply Exists.intro))
                case measure => simp [intOf]; omega
              · obtain rfl := size0.1 (show v.size = 0 from Decidable.byContradiction fun e => hg ⟨rfl, e⟩)
                clear hg
                go_wp2
                go_quiet ((go_at_call 191; exact Calls.quiet_of_same (keyOk_at k _ hz1 HK.out)))
                go_wp2
                go_roundw
                case rel => first | exact ⟨i + 1, by omega, by go_num, HNX.out, blwN HBV.out _⟩ | (repeat (first | (refine ⟨?relx, rfl⟩; exact ⟨i + 1, by omega, by go_num, HNX.out, blwN HBV.out _⟩) | (refine ⟨?relx, ?eqs⟩; (case eqs => (and_intros <;> rfl)); exact ⟨i + 1, by omega, by go_num, HNX.out, blwN HBV.out _⟩) | apply Exists.intro))
                case measure => simp [intOf]; omega
            · obtain ⟨j, hj⟩ : ∃ j, i = j + 1 := ⟨i - 1, by omega⟩
              obtain ⟨ad2, p, hA2, HY, hy1, _, hd0, _, _⟩ := (HR.out.below HBE.out).at_ (k := j) (by omega)
              cases hA2
              have hd0' : (wr.alloc (.cells #[.string k, .string v, .bool g] 121)).cell? (ad.add (j * 3)) = some (.string p.1) := cell_new hd0 _
              have HQ : Hid (chAt cs i = Op.bytesLess p.1.toList k.toList) := by (have HX1 := HX.out; rw [hj] at HX1 ⊢; exact chAt_succ HX1 HY.out hok)
              have ht : ((i : Int) - 1).toNat = j := by omega
              have hw : IntKind.i64.wrap ((i : Int) - 1) = (i : Int) - 1 := by rw [IntKind.wrap_i64]; omega
              have hb0 : (0 : Int) ≤ (i : Int) - 1 := by omega
              have hb1 : (i : Int) - 1 < (cs.length : Int) := by omega
              have g0 : decide (0 < i) = true := decide_eq_true (by omega)
              clear hj hd0 hk hok h0
              cases hs : Op.bytesLess p.1.toList k.toList
              · have HX0 := Lib.hid (batOk_bad (q := q) hlt (HQ.out.trans hs))
                cases g
                · clear hg
                  go_wp2
                  go_quiet ((go_at_call 191; exact Calls.quiet_of_same (keyOk_at k _ hz1 HK.out)))
                  go_wp2
                  go_ret
                  exact ⟨ret_bool HX0.out.symm, blwN HBW.out _⟩
                · obtain rfl := size0.1 (show v.size = 0 from Decidable.byContradiction fun e => hg ⟨rfl, e⟩)
                  clear hg
                  go_wp2
                  go_quiet ((go_at_call 191; exact Calls.quiet_of_same (keyOk_at k _ hz1 HK.out)))
                  go_wp2
                  go_ret
                  exact ⟨ret_bool HX0.out.symm, blwN HBW.out _⟩
              · have HNX := Lib.hid (ch_step HT.out (HQ.out.trans hs))
                cases g
                · clear hg
                  go_wp2
                  go_quiet ((go_at_call 191; exact Calls.quiet_of_same (keyOk_at k _ hz1 HK.out)))
                  go_wp2
                  go_roundw
                  case rel => first | exact ⟨i + 1, by omega, by go_num, HNX.out, blwN HBV.out _⟩ | (repeat (first | (refine ⟨?relx, rfl⟩; exact ⟨i + 1, by omega, by go_num, HNX.out, blwN HBV.out _⟩) | (refine ⟨?relx, ?eqs⟩; (case eqs => (and_intros <;> rfl)); exact ⟨i + 1, by omega, by go_num, HNX.out, blwN HBV.out _⟩) | apply Exists.intro))
                  case measure => simp [intOf]; omega
                · obtain rfl := size0.1 (show v.size = 0 from Decidable.byContradiction fun e => hg ⟨rfl, e⟩)
                  clear hg
                  go_wp2
                  go_quiet ((go_at_call 191; exact Calls.quiet_of_same (keyOk_at k _ hz1 HK.out)))
                  go_wp2
                  go_roundw
                  case rel => first | exact ⟨i + 1, by omega, by go_num, HNX.out, blwN HBV.out _⟩ | (repeat (first | (refine ⟨?relx, rfl⟩; exact ⟨i + 1, by omega, by go_num, HNX.out, blwN HBV.out _⟩) | (refine ⟨?relx, ?eqs⟩; (case eqs => (and_intros <;> rfl)); exact ⟨i + 1, by omega, by go_num, HNX.out, blwN HBV.out _⟩) | apply Exists.intro))
                  case measure => simp [intOf]; omega
    · obtain rfl : i = cs.length := by omega
      have HE := Lib.hid (batOk_all (q := q) HT.out)
      have hbel2 := hbel
      have b0 : wr.cell? ⟨w.heap.size, 0, none⟩ = some (.int .i64 q) := (HBE.out.cell (by simp)).trans (blk_cell (blk_new w _) 0)
      have b1 : wr.cell? ⟨w.heap.size, 1, none⟩ = some (.slice A cs.length c) := (HBE.out.cell (by simp)).trans (blk_cell (blk_new w _) 1)
      have HBW : Hid (Below w.heap.size w wr) := HB.out.trans (HBE.out.mono (by simp))
      clear hbel hbel2
      cases hq0 : inR q 0 1000000000
      · have HQ0 := Lib.hid hq0
        clear hq0
        go_wp2_with fail
        go_at_call 57
        refine (impl_within_calls _ _ _ _).mono ?_
        rw [HQ0.out]
        rintro e w' ⟨rfl, rfl⟩
        go_wp2
        go_ret
        exact ⟨ret_bool (by rw [HE.out, HQ0.out]; rfl), HBW.out⟩
      · have HQ0 := Lib.hid hq0
        clear hq0
        go_wp2_with fail
        go_at_call 57
        refine (impl_within_calls _ _ _ _).mono ?_
        rw [HQ0.out]
        rintro e w' ⟨rfl, rfl⟩
        go_wp2_with fail
        go_at_call 57
        refine (impl_within_calls _ _ _ _).mono ?_
        rintro e w' ⟨rfl, rfl⟩
        go_wp2
        go_ret
        exact ⟨ret_bool (by rw [HE.out, HQ0.out]; rfl), HBW.out⟩
end Go.Proofs.YtaacpdejpcbbbaaGreatDoor
