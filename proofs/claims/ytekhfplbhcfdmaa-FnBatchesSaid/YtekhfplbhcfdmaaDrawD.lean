/- The draws: batches (DrawBatchText, DrawReadBatch), and the laws' sameChanges. -/
import Derived.Test.YtekhfplbhcfdmaaDrawC
import Derived.Test.YtekhfplbhcfdmaaBat5
import Derived.Test.YtekhfplbhcfdmaaHelp
namespace Go.Proofs.Ytekhfplbhcfdmaa
set_option linter.unusedVariables false
set_option linter.unusedSimpArgs false
open Go.RowKit
attribute [local go_sem] bs_size List.length_cons List.length_nil List.length_append

theorem byRow_below2 {w w' : World} {A : Option Addr} {n : Nat} (h : ByRow w A n) (hb : Below w.heap.size w w') : ByRow w' A n := by
  refine ⟨h.1, fun h0 => ?_⟩
  obtain ⟨ad, e, hl, hc⟩ := h.2 h0
  refine ⟨ad, e, Nat.lt_of_lt_of_le hl hb.size, fun j hj => ?_⟩
  obtain ⟨z, h0, h1, h2⟩ := hc j hj
  exact ⟨z, h0, h1, (hb.cell (by rw [add_block]; exact hl)).trans h2⟩
theorem Few.small {n m : Nat} {cs : List ChD} (h : Few n m cs) (h1 : n ≤ 100000) (h2 : m ≤ 100000) : ∀ x ∈ cs, x.1.size ≤ 9223372036854775807 ∧ x.2.1.size ≤ 9223372036854775807 := fun x hx => by have := h x hx; omega
/-- A drawn batch, as the caller sees it. -/
def AnyBat (w : World) (e : Ending) (w' : World) : Prop := ∃ (q : Int) (A : Option Addr) (c : Nat) (cs : List ChD), e = .returned (.agg #[.int .i64 q, .slice A cs.length c]) ∧ ChRow w' A c cs ∧ Below w.heap.size w w'
theorem batDraw_end {fn : Func} {w w1 wr : World} {q : Int} {cs : List ChD} {v : Value} {tmps : Array Value} (hf : fn.results = #[.cell 2 30]) (hres : wr.heap[w.heap.size]? = some zBat) (ho : ChOwn wr w1.heap.size v cs) (hB : w.heap.size < w1.heap.size) (hs : Few 25 2001 cs) (h2 : tmps.getD 2 undef = .pointer (some ⟨w.heap.size, 0, none⟩)) (hb : Below w.heap.size w wr) :
    bodyPost Try.prog fn (AnyBat w) .ret ⟨tmps, []⟩ (set2 wr w.heap.size (.int .i64 q) v) := by
  obtain ⟨fs, hu⟩ := und_bat
  have hg := set2_grown wr w.heap.size (.int .i64 q) v
  have ho' : ChOwn (set2 wr w.heap.size (.int .i64 q) v) w1.heap.size v cs := ho.kept hg (fun k hk e => by have := (ho.lt k hk).1; cases e; omega)
  obtain ⟨A', c', hv, hr⟩ := ho'.row (hs.small (by omega) (by omega))
  refine bodyPost_ret (v := .agg #[.int .i64 q, v]) ?_ rfl ⟨q, A', c', cs, by rw [hv], hr, hb.grown hg hb.size fun k e => by cases e; exact Nat.le_refl _⟩
  rw [results_rowB hf tmps _ w.heap.size 30 #[.int .i64 q, v] (0, 0) (.struct fs) h2 (set2_blk hres) hu rfl info_bat]
set_option maxRecDepth 100000 in
theorem spec_DrawBatchText_calls (A : Option Addr) (c n : Nat) (w : World) (h : ByRow w A n) :
    Calls Try.prog 28 #[.slice A n c] w (AnyBat w) := by
  have HBR := Lib.hid (byRow_below2 h ((Below.refl w.heap.size w).alloc (Nat.le_refl _) zBat))
  clear h
  go_enter Try.func28, Try.ntmps28
  go_wp2_with fail
  go_at_call 63
  refine (spec_l01New_calls A c n _ HBR.out).mono ?_
  rintro e w1 ⟨g, rfl, hg, hcu, hb⟩
  have hgs : w.heap.size < g := by simp at hg; omega
  have hws : w.heap.size < w1.heap.size := by have := hb.size; simp at this; omega
  have HGS := Lib.hid hgs
  have HWS := Lib.hid hws
  have HC := Lib.hid hcu
  have hres1 := (hb.block w.heap.size (by simp)).trans (blk_new w zBat)
  have HRES1 := Lib.hid hres1
  have HB1 : Hid (Below w.heap.size w w1) := ((Below.refl w.heap.size w).alloc (Nat.le_refl _) _).trans (hb.mono (by simp))
  clear hg hcu hb hgs hws hres1
  go_wp2_with fail
  go_at_call 73
  refine (spec_l05Any_calls g _ HC.out).mono ?_
  rintro e w2 ⟨q, cs, v, rfl, ho, hok, hd⟩
  obtain ⟨A', c', rfl⟩ := ho.form
  have hres : w2.heap[w.heap.size]? = some zBat := (hd.2.block _ (blk_lt HRES1.out) (by intro e; have := Option.some.inj e; have := HGS.out; omega)).trans HRES1.out
  have HRES := Lib.hid hres
  have HO := Lib.hid ho
  have HS := Lib.hid hok.2.2.2
  have HB2 := Lib.hid (hd.seen HB1.out (Nat.le_of_lt HGS.out))
  have z0 := blk_cell hres 0
  have z1 := blk_cell hres 1
  have y0 := blk_frozen hres 0
  have y1 := blk_frozen hres 1
  clear ho hok hd hres
  go_wp2
  exact batDraw_end rfl HRES.out HO.out HWS.out HS.out rfl HB2.out
/-- What BatchText answers, in one form. -/
theorem batUni (d : BatD) : ∃ (s : ByteArray) (b : Bool), varRes (batText d) = .tuple #[.string s, .bool b] ∧ s.size ≤ 9000 ∧ (b = true → batText d = some (ub s)) := by
  cases h : batText d with
  | none => exact ⟨⟨#[]⟩, false, rfl, by decide, fun e => by cases e⟩
  | some l =>
    refine ⟨bs l, true, rfl, ?_, fun _ => by rw [ub_bs]⟩
    rw [bs_size]
    unfold batText at h
    split at h
    · rename_i hc
      obtain rfl := Option.some.inj h
      exact hc.2
    · cases h
set_option maxRecDepth 100000 in
theorem spec_DrawReadBatch_calls (A : Option Addr) (c n : Nat) (w : World) (h : ByRow w A n) :
    Calls Try.prog 34 #[.slice A n c] w fun e w' => ∃ s, e = .returned (.string s) ∧ s.size ≤ 9001 ∧ Below w.heap.size w w' := by
  have HBR := Lib.hid h
  clear h
  go_enter Try.func34, Try.ntmps34
  go_wp2_with fail
  go_at_call 63
  refine (spec_l01New_calls A c n _ HBR.out).mono ?_
  rintro e w1 ⟨g, rfl, hg, hcu, hb⟩
  have HG := Lib.hid hg
  have HC := Lib.hid hcu
  have HB1 := Lib.hid hb
  clear hg hcu hb
  go_wp2_with fail
  go_at_call 73
  refine (spec_l05Any_calls g _ HC.out).mono ?_
  rintro e w2 ⟨q, cs, v, rfl, ho, hok, hd⟩
  obtain ⟨A', c', rfl, hr⟩ := ho.row (hok.2.2.2.small (by omega) (by omega))
  have HR := Lib.hid hr
  have HD := Lib.hid hd
  obtain ⟨s, b, hvt, hsz, _⟩ := batUni (q, cs)
  have HVT := Lib.hid hvt
  clear ho hok hd hr hvt
  go_wp2_with fail
  go_at_call 30
  refine (spec_BatchText_calls q A' c' cs _ HR.out).mono ?_
  rw [HVT.out]
  rintro e w3 ⟨rfl, hb⟩
  have HD3 := Lib.hid (HD.out.trans (HD.out.1.below hb))
  clear hb
  go_wp2_with fail
  go_at_call 72
  refine (spec_l02Spoilt_calls g s _ HD3.out.1 (by omega)).mono ?_
  rintro e w4 ⟨x, rfl, hx, hd⟩
  have HD4 := Lib.hid (HD3.out.trans hd)
  clear hd
  go_wp2
  go_ret
  exact ⟨x, rfl, by omega, HD4.out.seen HB1.out HG.out⟩
set_option maxHeartbeats 4000000 in
set_option maxRecDepth 100000 in
theorem laws_sameChanges_calls (A : Option Addr) (c : Nat) (A' : Option Addr) (c' : Nat) (cs : List ChD) (w : World) (h : ChRow w A c cs) (h' : ChRow w A' c' cs) :
    Calls Try.prog 33 #[.slice A cs.length c, .slice A' cs.length c'] w fun e w' => e = .returned (.bool true) ∧ Below w.heap.size w w' := by
  have hl := h.len
  have HR := Lib.hid h
  have HR' := Lib.hid h'
  have hb2 : ((cs.length : Int) != (cs.length : Int)) = false := by simp
  clear h h'
  go_enter Try.func33, Try.ntmps33
  go_wp2
  go_loopw [5] (fun iv wr => ∃ i : Nat, i ≤ cs.length ∧ iv = .int .i64 (i : Int) ∧ Below w.heap.size w wr) (fun iv _ => cs.length - (intOf iv).toNat)
  case atStart => exact ⟨0, Nat.zero_le _, rfl, Below.refl _ _⟩
  case round =>
    obtain ⟨i, hi, rfl, hbel⟩ := hrel
    have HB := Lib.hid hbel
    by_cases hlt : i < cs.length
    · obtain ⟨ad, x, hA, HX, hz1, hz2, hc0, hc1, hc2⟩ := (HR.out.below hbel).at_ hlt
      obtain ⟨ad', y, hA', HY, _, _, hd0, hd1, hd2⟩ := (HR'.out.below hbel).at_ hlt
      obtain rfl : x = y := Option.some.inj (HX.out.symm.trans HY.out)
      clear hbel
      cases hA
      cases hA'
      obtain ⟨k, v, g⟩ := x
      dsimp only at hz1 hz2 hc0 hc1 hc2 hd0 hd1 hd2
      have hli : (i : Int) < (cs.length : Int) := by omega
      have hgg : (g == g) = true := by simp
      go_wp2
      go_quiet (fail)
      go_wp2
      go_roundw
      case rel => first | exact ⟨i + 1, by omega, by go_num, blwN HB.out _⟩ | (repeat (first | (refine ⟨?relx, rfl⟩; exact ⟨i + 1, by omega, by go_num, blwN HB.out _⟩) | (refine ⟨?relx, ?eqs⟩; (case eqs => (and_intros <;> rfl)); exact ⟨i + 1, by omega, by go_num, blwN HB.out _⟩) | apply Exists.intro))
      case measure => simp [intOf]; omega
    · obtain rfl : i = cs.length := by omega
      clear hbel
      go_wp2
      go_ret
      exact ⟨rfl, HB.out⟩
end Go.Proofs.Ytekhfplbhcfdmaa
