/- slices.Equal of two rows of spots. An engine is found right: plain, and the program's. An engine is found right: the reference's. An engine that came in. -/
import Derived.Test.YtaacpdejpcbbbaaGreatDoorSegAll
import Derived.BigQuiet
import Derived.Test.YtaacpdejpcbbbaaGreatDoorMarkAll
import Derived.Test.YtaacpdejpcbbbaaGreatDoorOpnAll
import Derived.Test.YtaacpdejpcbbbaaGreatDoorSpecAll
import Derived.Test.YtaacpdejpcbbbaaGreatDoorDiskAll
namespace Go.Proofs.YtaacpdejpcbbbaaGreatDoor
set_option linter.unusedVariables false
set_option linter.unusedSimpArgs false
open Go.RowKit
attribute [local go_sem] bs_size List.length_cons List.length_nil
theorem sp_ne {n n' : ByteArray} {a1 a2 a3 b1 b2 b3 : Int} (h : ¬ ((n, a1, a2, a3) : SpotD) = (n', b1, b2, b3)) : (n.toList == n'.toList) = false ∨ ((n.toList == n'.toList) = true ∧ (a1 == b1) = false) ∨ ((n.toList == n'.toList) = true ∧ (a1 == b1) = true ∧ (a2 == b2) = false) ∨ ((n.toList == n'.toList) = true ∧ (a1 == b1) = true ∧ (a2 == b2) = true ∧ (a3 == b3) = false) := by
  by_cases h0 : n.toList = n'.toList
  · have e0 : n = n' := by
      rw [ByteArray.toList_eq, ByteArray.toList_eq] at h0
      exact ByteArray.ext (Array.toList_inj.1 h0)
    subst e0
    by_cases h1 : a1 = b1
    · subst h1
      by_cases h2 : a2 = b2
      · subst h2
        refine .inr (.inr (.inr ⟨beq_self_eq_true _, beq_self_eq_true _, beq_self_eq_true _, beq_eq_false_iff_ne.2 fun e => h (by rw [e])⟩))
      · exact .inr (.inr (.inl ⟨beq_self_eq_true _, beq_self_eq_true _, beq_eq_false_iff_ne.2 h2⟩))
    · exact .inr (.inl ⟨beq_self_eq_true _, beq_eq_false_iff_ne.2 h1⟩)
  · exact .inl (beq_eq_false_iff_ne.2 h0)
theorem sp_pref {ds es : List SpotD} (hl : ds.length = es.length) (h : ∀ (j : Nat) x y, j < ds.length → ds[j]? = some x → es[j]? = some y → x = y) : ds = es := by
  refine List.ext_getElem hl fun i h1 h2 => ?_
  exact h i _ _ h1 (List.getElem?_eq_getElem h1) (List.getElem?_eq_getElem h2)
set_option maxHeartbeats 4000000 in
set_option maxRecDepth 100000 in
theorem equal_Spot_calls (A A' : Option Addr) (c c' : Nat) (ds es : List SpotD) (w : World) (h : SpRow w A c ds) (h' : SpRow w A' c' es) :
    Calls Tryz.prog 74 #[.slice A ds.length c, .slice A' es.length c'] w fun e w' => e = .returned (.bool (decide (ds = es))) ∧ Below w.heap.size w w' := by
  have hl := h.len
  have HR := Lib.hid h
  have HR' := Lib.hid h'
  clear h h'
  go_enter Tryz.func74, Tryz.ntmps74
  by_cases hn : ds.length = es.length
  · have hb2 : ((ds.length : Int) != (es.length : Int)) = false := by simp [hn]
    have HNL := Lib.hid hn
    clear hn
    go_wp2
    go_loopw [13] (fun iv wr => ∃ i : Nat, i ≤ ds.length ∧ iv = .int .i64 (i : Int) ∧ Hid (∀ (j : Nat) x y, j < i → ds[j]? = some x → es[j]? = some y → x = y) ∧ Hid (Below w.heap.size w wr)) (fun iv _ => ds.length - (intOf iv).toNat)
    case atStart => exact ⟨0, Nat.zero_le _, rfl, fun j x y hj => by omega, Below.refl _ _⟩
    case round =>
      obtain ⟨i, hi, rfl, HT, HB⟩ := hrel
      rename World => wz
      by_cases hlt : i < ds.length
      · obtain ⟨ad, x, hA, HX, hz1, hc0, hc1, hc2, hc3⟩ := (HR.out.below HB.out).at_ hlt
        obtain ⟨ad', y, hA', HY, hz1', hd0, hd1, hd2, hd3⟩ := (HR'.out.below HB.out).at_ (show i < es.length from HNL.out ▸ hlt)
        cases hA
        cases hA'
        have hli : (i : Int) < (ds.length : Int) := by omega
        have hli2 : (i : Int) < (es.length : Int) := by rw [← HNL.out]; omega
        by_cases hxy : x = y
        · subst hxy
          have HT2 : Hid (∀ (j : Nat) x y, j < i + 1 → ds[j]? = some x → es[j]? = some y → x = y) := fun j x' y' hj h1 h2 => by
            by_cases e : j = i
            · subst e
              exact Option.some.inj ((h1.symm.trans HX.out).trans (HY.out.symm.trans h2))
            · exact HT.out j x' y' (by omega) h1 h2
          obtain ⟨n, a1, a2, a3⟩ := x
          dsimp only at hz1 hc0 hc1 hc2 hc3 hd0 hd1 hd2 hd3
          go_wp2
          go_quiet (fail)
          go_wp2
          go_roundw
          case rel => first | exact ⟨i + 1, by omega, by go_num, HT2, blwN HB.out _⟩ | (repeat (first | (refine ⟨?relx, rfl⟩; exact ⟨i + 1, by omega, by go_num, HT2, blwN HB.out _⟩) | (refine ⟨?relx, ?eqs⟩; (case eqs => (and_intros <;> rfl)); exact ⟨i + 1, by omega, by go_num, HT2, blwN HB.out _⟩) | apply Exists.intro))
          case measure => simp [intOf]; omega
        · have HN : Hid (decide (ds = es) = false) := decide_eq_false fun e => hxy (by
            rw [← e, HX.out] at HY
            exact Option.some.inj HY.out)
          obtain ⟨n, a1, a2, a3⟩ := x
          obtain ⟨n', b1, b2, b3⟩ := y
          dsimp only at hz1 hz1' hc0 hc1 hc2 hc3 hd0 hd1 hd2 hd3
          have HD := sp_ne hxy
          clear hxy
          rcases HD with h0 | ⟨h0, h1⟩ | ⟨h0, h1, h2⟩ | ⟨h0, h1, h2, h3⟩ <;>
            (go_wp2
             go_quiet (fail)
             go_wp2
             go_ret
             exact ⟨by rw [HN.out]; rfl, blwN HB.out _⟩)
      · obtain rfl : i = ds.length := by omega
        have HN : Hid (decide (ds = es) = true) := decide_eq_true (sp_pref HNL.out HT.out)
        go_wp2
        go_ret
        exact ⟨by rw [HN.out]; rfl, HB.out⟩
  · have hb2 : ((ds.length : Int) != (es.length : Int)) = true := by simp; omega
    have HN : Hid (decide (ds = es) = false) := decide_eq_false fun e => hn (by rw [e])
    go_wp2
    go_ret
    exact ⟨by rw [HN.out]; rfl, Below.refl _ _⟩
end Go.Proofs.YtaacpdejpcbbbaaGreatDoor

namespace Go.Proofs.YtaacpdejpcbbbaaGreatDoor
set_option linter.unusedVariables false
set_option linter.unusedSimpArgs false
open Go.RowKit
attribute [local go_sem] bs_size List.length_cons List.length_nil

/-- The engine is what opening its disk gives, by no act. -/
def okB (fs : List FiD) (room a q : Int) (ds : List SpotD) : Bool := (openB fs room).isSome && (decide ((openA (openB fs room)).length = 0) && (decide ((openE (openB fs room)).2.2.1 = a) && (decide ((openE (openB fs room)).2.2.2.1 = q) && decide ((openE (openB fs room)).2.2.2.2 = ds))))
theorem open_same {fs : List FiD} {room : Int} (h : (openB fs room).isSome = true) (hn : (openA (openB fs room)).length = 0) : (openE (openB fs room)).1 = fs ∧ (openE (openB fs room)).2.1 = room := by
  cases ho : openB fs room with
  | none => rw [ho] at h; cases h
  | some x =>
    obtain ⟨E, acs⟩ := x
    rw [ho] at hn
    obtain ⟨_, _, rfl, _⟩ := open_some ho
    have : acs = [] := List.eq_nil_of_length_eq_zero hn
    subst this
    exact ⟨rfl, rfl⟩
theorem ok_disk {fs : List FiD} {room a q : Int} {ds : List SpotD} (h : okB fs room a q ds = true) : diskOkB fs = true ∧ a = (lastB fs : Int) ∧ q = seqB fs ∧ ds = dirB fs := by
  unfold okB at h
  simp only [Bool.and_eq_true, decide_eq_true_eq] at h
  obtain ⟨h0, h1, h2, h3, h4⟩ := h
  cases ho : openB fs room with
  | none => rw [ho] at h0; cases h0
  | some x =>
    obtain ⟨E, acs⟩ := x
    obtain ⟨hd, _, rfl, _⟩ := open_some ho
    rw [ho] at h2 h3 h4
    exact ⟨hd, h2.symm, h3.symm, h4.symm⟩
theorem eq_int (a b : Int) : (a == b) = decide (a = b) := by
  by_cases h : a = b
  · subst h; simp
  · simp [h]
theorem fi_rowK {w : World} {B n c : Nat} {A : Option Addr} {F : List FiD} (h : FiOwn w B (.slice A n c) F) (hs : ∀ x ∈ F, x.1.size ≤ 9223372036854775807 ∧ x.2.1.size ≤ 9223372036854775807) : FiRow w A c F := by
  obtain ⟨A', c', e, hr⟩ := h.row hs
  injection e with e1 e2 e3
  subst e1 e3
  exact hr
theorem sp_rowK {w : World} {B n c : Nat} {A : Option Addr} {D : List SpotD} (h : SpOwn w B (.slice A n c) D) (hs : ∀ x ∈ D, x.1.size ≤ 9223372036854775807) : SpRow w A c D := by
  obtain ⟨A', c', e, hr⟩ := h.row hs
  injection e with e1 e2 e3
  subst e1 e3
  exact hr
/-- An engine's block. -/
abbrev engCO (A : Option Addr) (n c : Nat) (room a q : Int) (Ad : Option Addr) (m cd : Nat) : Obj := .cells (engC A n c room a q Ad m cd) 35
set_option maxHeartbeats 4000000 in
set_option maxRecDepth 100000 in
theorem equal_File_same (A A' : Option Addr) (c c' : Nat) (fs : List FiD) (w : World) (h : FiRow w A c fs) (h' : FiRow w A' c' fs) :
    Calls Tryz.prog 73 #[.slice A fs.length c, .slice A' fs.length c'] w fun e w' => e = .returned (.bool true) ∧ Below w.heap.size w w' := by
  have hl := h.len
  have HR := Lib.hid h
  have HR' := Lib.hid h'
  have hb2 : ((fs.length : Int) != (fs.length : Int)) = false := by simp
  clear h h'
  go_enter Tryz.func73, Tryz.ntmps73
  go_wp2
  go_loopw [13] (fun iv wr => ∃ i : Nat, i ≤ fs.length ∧ iv = .int .i64 (i : Int) ∧ Hid (Below w.heap.size w wr)) (fun iv _ => fs.length - (intOf iv).toNat)
  case atStart => exact ⟨0, Nat.zero_le _, rfl, Below.refl _ _⟩
  case round =>
    obtain ⟨i, hi, rfl, HB⟩ := hrel
    rename World => wz
    by_cases hlt : i < fs.length
    · obtain ⟨ad, x, hA, HX, hz1, hz2, hc0, hc1, hc2⟩ := (HR.out.below HB.out).at_ hlt
      obtain ⟨ad', y, hA', HY, _, _, hd0, hd1, hd2⟩ := (HR'.out.below HB.out).at_ hlt
      obtain rfl : x = y := Option.some.inj (HX.out.symm.trans HY.out)
      cases hA
      cases hA'
      obtain ⟨n, t, k⟩ := x
      dsimp only at hz1 hz2 hc0 hc1 hc2 hd0 hd1 hd2
      have hli : (i : Int) < (fs.length : Int) := by omega
      go_wp2
      go_quiet (fail)
      go_wp2
      go_roundw
      case rel => first | exact ⟨i + 1, by omega, by go_num, blwN HB.out _⟩ | (repeat (first | (refine ⟨?relx, rfl⟩; exact ⟨i + 1, by omega, by go_num, blwN HB.out _⟩) | (refine ⟨?relx, ?eqs⟩; (case eqs => (and_intros <;> rfl)); exact ⟨i + 1, by omega, by go_num, blwN HB.out _⟩) | apply Exists.intro))
      case measure => simp [intOf]; omega
    · obtain rfl : i = fs.length := by omega
      go_wp2
      go_ret
      exact ⟨rfl, HB.out⟩
set_option maxHeartbeats 4000000 in
set_option maxRecDepth 100000 in
theorem impl_sameEngine_calls (A A' Ad Ad' : Option Addr) (c c' cd cd' : Nat) (fs : List FiD) (room a q a' q' : Int) (ds es : List SpotD) (w : World) (h : FiRow w A c fs) (h' : FiRow w A' c' fs) (hs : SpRow w Ad cd ds) (hs' : SpRow w Ad' cd' es) :
    Calls Tryz.prog 32 #[.agg (engC A fs.length c room a q Ad ds.length cd), .agg (engC A' fs.length c' room a' q' Ad' es.length cd')] w fun e w' => e = .returned (.bool (decide (a = a') && (decide (q = q') && decide (ds = es)))) ∧ Below w.heap.size w w' := by
  have hs1 : (w.alloc (engCO A fs.length c room a q Ad ds.length cd)).heap.size = w.heap.size + 1 := by simp
  have HAL : Hid (Below w.heap.size w ((w.alloc (engCO A fs.length c room a q Ad ds.length cd)).alloc (engCO A' fs.length c' room a' q' Ad' es.length cd'))) := ((Below.refl _ _).alloc (Nat.le_refl _) _).alloc (by simp) _
  have H1 : Hid (((w.alloc (engCO A fs.length c room a q Ad ds.length cd)).alloc (engCO A' fs.length c' room a' q' Ad' es.length cd')).heap[w.heap.size]? = some (engCO A fs.length c room a q Ad ds.length cd)) := by rw [Hid, Below.heap_alloc _ _ _ (by simp)]; exact blk_new _ _
  have H2 : Hid (((w.alloc (engCO A fs.length c room a q Ad ds.length cd)).alloc (engCO A' fs.length c' room a' q' Ad' es.length cd')).heap[w.heap.size + 1]? = some (engCO A' fs.length c' room a' q' Ad' es.length cd')) := by rw [Hid, ← hs1]; exact blk_new _ _
  have HR := Lib.hid (h.below HAL.out)
  have HR' := Lib.hid (h'.below HAL.out)
  have HS := Lib.hid (hs.below HAL.out)
  have HS' := Lib.hid (hs'.below HAL.out)
  have p0 := blk_cell H1.out 0
  have p1 := blk_cell H2.out 0
  clear h h' hs1 hs hs'
  go_enter Tryz.func32, Tryz.ntmps32
  go_wp2_with fail
  go_at_call 73
  refine (equal_File_same A A' c c' fs _ HR.out HR'.out).mono ?_
  rintro e w1 ⟨rfl, hb⟩
  have HB := Lib.hid (HAL.out.trans (hb.mono HAL.out.size))
  have K1 := Lib.hid (blk_below H1.out hb)
  have K2 := Lib.hid (blk_below H2.out hb)
  have HS1 := Lib.hid (HS.out.below hb)
  have HS1' := Lib.hid (HS'.out.below hb)
  have a1 := blk_cell K1.out 1
  have a2 := blk_cell K1.out 2
  have a3 := blk_cell K1.out 3
  have a4 := blk_cell K1.out 4
  have b1 := blk_cell K2.out 1
  have b2 := blk_cell K2.out 2
  have b3 := blk_cell K2.out 3
  have b4 := blk_cell K2.out 4
  have hrm : (room == room) = true := by simp
  clear hb p0 p1
  by_cases ha : a = a'
  · have ha2 : (a == a') = true := by rw [eq_int]; exact decide_eq_true ha
    have HA2 : Hid (decide (a = a') = true) := decide_eq_true ha
    clear ha
    by_cases hq : q = q'
    · have hq2 : (q == q') = true := by rw [eq_int]; exact decide_eq_true hq
      have HQ2 : Hid (decide (q = q') = true) := decide_eq_true hq
      clear hq
      go_wp2_with fail
      go_at_call 74
      refine (equal_Spot_calls Ad Ad' cd cd' ds es _ HS1.out HS1'.out).mono ?_
      rintro e w2 ⟨rfl, hb⟩
      have HB2 := Lib.hid (HB.out.trans (hb.mono HB.out.size))
      clear hb
      go_wp2
      go_ret
      exact ⟨by rw [HA2.out, HQ2.out]; rfl, HB2.out⟩
    · have hq2 : (q == q') = false := by rw [eq_int]; exact decide_eq_false hq
      have HQ2 : Hid (decide (q = q') = false) := decide_eq_false hq
      clear hq
      go_wp2
      go_ret
      exact ⟨by rw [HQ2.out, Bool.false_and, Bool.and_false]; rfl, HB.out⟩
  · have ha2 : (a == a') = false := by rw [eq_int]; exact decide_eq_false ha
    have HA2 : Hid (decide (a = a') = false) := decide_eq_false ha
    clear ha
    go_wp2
    go_ret
    exact ⟨by rw [HA2.out]; rfl, HB.out⟩
set_option maxHeartbeats 4000000 in
set_option maxRecDepth 100000 in
theorem impl_EngineOk_calls (b c : Nat) (Ad : Option Addr) (cd : Nat) (fs : List FiD) (room a q : Int) (ds : List SpotD) (w : World) (h : FiRow w (some ⟨b, 0, none⟩) c fs) (hs : SpRow w Ad cd ds) (hP : Pow w) (hE : Sent w) :
    Calls Tryz.prog 11 #[.agg (engC (some ⟨b, 0, none⟩) fs.length c room a q Ad ds.length cd)] w fun e w' => e = .returned (.bool (okB fs room a q ds)) ∧ Below w.heap.size w w' := by
  have HAL : Hid (Below w.heap.size w (w.alloc (engCO (some ⟨b, 0, none⟩) fs.length c room a q Ad ds.length cd))) := (Below.refl _ _).alloc (Nat.le_refl _) _
  have H1 : Hid ((w.alloc (engCO (some ⟨b, 0, none⟩) fs.length c room a q Ad ds.length cd)).heap[w.heap.size]? = some (engCO (some ⟨b, 0, none⟩) fs.length c room a q Ad ds.length cd)) := blk_new _ _
  have HR := Lib.hid (h.below HAL.out)
  have HS := Lib.hid (hs.below HAL.out)
  have HOP := Lib.hid (impl_OpenEngine_calls (some ⟨b, 0, none⟩) c fs room _ HR.out (.inr ⟨b, rfl⟩) (hP.below HAL.out) (sentC hE HAL.out))
  have hosm := open_small fs room
  have HOS : Hid ((openB fs room).isSome = true → (openA (openB fs room)).length = 0 → (openE (openB fs room)).1 = fs ∧ (openE (openB fs room)).2.1 = room) := open_same
  have HKB : Hid (okB fs room a q ds = ((openB fs room).isSome && (decide ((openA (openB fs room)).length = 0) && (decide ((openE (openB fs room)).2.2.1 = a) && (decide ((openE (openB fs room)).2.2.2.1 = q) && decide ((openE (openB fs room)).2.2.2.2 = ds)))))) := rfl
  have HUNI : Hid (∀ W e W', OpenPost W (openB fs room) e W' → ∃ A c Ad cd Aa ca, e = .returned (.tuple #[.agg (engC A (openE (openB fs room)).1.length c (openE (openB fs room)).2.1 (openE (openB fs room)).2.2.1 (openE (openB fs room)).2.2.2.1 Ad (openE (openB fs room)).2.2.2.2.length cd), .slice Aa (openA (openB fs room)).length ca, .bool (openB fs room).isSome]) ∧ FiOwn W' W.heap.size (.slice A (openE (openB fs room)).1.length c) (openE (openB fs room)).1 ∧ SpOwn W' W.heap.size (.slice Ad (openE (openB fs room)).2.2.2.2.length cd) (openE (openB fs room)).2.2.2.2 ∧ AcOwn W' W.heap.size (.slice Aa (openA (openB fs room)).length ca) (openA (openB fs room)) ∧ Below W.heap.size W W') := fun W e W' h => open_uni h
  have p0 := blk_cell H1.out 0
  have p1 := blk_cell H1.out 1
  clear h hs hP hE
  generalize okB fs room a q ds = ok at HKB ⊢
  go_enter Tryz.func11, Tryz.ntmps11
  go_wp2_with fail
  go_at_call 22
  refine HOP.out.mono ?_
  intro e w1 hp
  obtain ⟨A1, c1, Ad1, cd1, Aa, ca, rfl, hf1, hs1, ha1, hb1⟩ := HUNI.out _ _ _ hp
  have HF1 : Hid (FiRow w1 A1 c1 (openE (openB fs room)).1) := fi_rowK hf1 hosm.2.1
  have HS1 : Hid (SpRow w1 Ad1 cd1 (openE (openB fs room)).2.2.2.2) := sp_rowK hs1 hosm.2.2.2.1
  have hal := hosm.2.2.2.2
  clear hp hf1 hs1 ha1 HUNI HOP hosm p0 p1
  have HB1 := Lib.hid (HAL.out.trans (hb1.mono HAL.out.size))
  have K1 := Lib.hid (blk_below H1.out hb1)
  have HR1 := Lib.hid (HR.out.below hb1)
  have HT1 := Lib.hid (HS.out.below hb1)
  clear hb1 H1 HR HS
  generalize (openB fs room).isSome = iso at HOS HKB ⊢
  generalize (openA (openB fs room)).length = n at HOS HKB hal ⊢
  generalize openE (openB fs room) = E at HOS HKB HF1 HS1 ⊢
  obtain ⟨F, rm, ac, sq, D⟩ := E
  dsimp only at HOS HKB HF1 HS1 ⊢
  have HAL2 : Hid (Below w1.heap.size w1 (w1.alloc (engCO A1 F.length c1 rm ac sq Ad1 D.length cd1))) := (Below.refl _ _).alloc (Nat.le_refl _) _
  have K2 := Lib.hid (blk_below K1.out HAL2.out)
  have K3 : Hid ((w1.alloc (engCO A1 F.length c1 rm ac sq Ad1 D.length cd1)).heap[w1.heap.size]? = some (engCO A1 F.length c1 rm ac sq Ad1 D.length cd1)) := blk_new _ _
  have HB2 := Lib.hid (HB1.out.trans (HAL2.out.mono HB1.out.size))
  have HR2 := Lib.hid (HR1.out.below HAL2.out)
  have HT2 := Lib.hid (HT1.out.below HAL2.out)
  have HF2 := Lib.hid (HF1.out.below HAL2.out)
  have HS2 := Lib.hid (HS1.out.below HAL2.out)
  clear HAL HAL2 K1 HB1 HR1 HT1 HF1 HS1
  cases iso with
  | false =>
    have HKF : Hid (ok = false) := HKB.out
    go_wp2
    go_ret
    exact ⟨by rw [HKF.out]; rfl, HB2.out⟩
  | true =>
    by_cases hn : n = 0
    · obtain ⟨e1, e2⟩ := HOS.out rfl hn
      subst e1 e2 hn
      have HKT : Hid (ok = (decide (ac = a) && (decide (sq = q) && decide (D = ds)))) := HKB.out
      have a0 := blk_cell K2.out 0
      have a1 := blk_cell K2.out 1
      have a2 := blk_cell K2.out 2
      have a3 := blk_cell K2.out 3
      have a4 := blk_cell K2.out 4
      have b0 := blk_cell K3.out 0
      have b1' := blk_cell K3.out 1
      have b2 := blk_cell K3.out 2
      have b3 := blk_cell K3.out 3
      have b4 := blk_cell K3.out 4
      clear HOS HKB
      go_wp2_with fail
      go_at_call 32
      refine (impl_sameEngine_calls A1 (some ⟨b, 0, none⟩) Ad1 Ad c1 c cd1 cd F rm ac sq a q D ds _ HF2.out HR2.out HS2.out HT2.out).mono ?_
      rintro e w2 ⟨rfl, hb⟩
      have HB3 := Lib.hid (HB2.out.trans (hb.mono HB2.out.size))
      rw [← HKT.out]
      clear hb HKT
      go_wp2
      go_ret
      exact ⟨rfl, HB3.out⟩
    · have HKF : Hid (ok = false) := by rw [Hid, HKB.out, decide_eq_false hn]; rfl
      have hnz : ((n : Int) == 0) = false := by rw [eq_int]; exact decide_eq_false (by omega)
      clear hn HOS HKB
      go_wp2
      go_ret
      exact ⟨by rw [HKF.out]; rfl, HB2.out⟩
end Go.Proofs.YtaacpdejpcbbbaaGreatDoor

namespace Go.Proofs.YtaacpdejpcbbbaaGreatDoor
set_option linter.unusedVariables false
set_option linter.unusedSimpArgs false
open Go.RowKit
attribute [local go_sem] bs_size List.length_cons List.length_nil
set_option maxHeartbeats 8000000 in
set_option maxRecDepth 100000 in
theorem spec_EngineOk_calls (b c : Nat) (Ad : Option Addr) (cd : Nat) (fs : List FiD) (room a q : Int) (ds : List SpotD) (w : World) (h : FiRow w (some ⟨b, 0, none⟩) c fs) (hs : SpRow w Ad cd ds) :
    Calls Tryz.prog 9 #[.agg (engC (some ⟨b, 0, none⟩) fs.length c room a q Ad ds.length cd)] w fun e w' => e = .returned (.bool (okB fs room a q ds)) ∧ Below w.heap.size w w' := by
  have HAL : Hid (Below w.heap.size w (w.alloc (engCO (some ⟨b, 0, none⟩) fs.length c room a q Ad ds.length cd))) := (Below.refl _ _).alloc (Nat.le_refl _) _
  have H1 : Hid ((w.alloc (engCO (some ⟨b, 0, none⟩) fs.length c room a q Ad ds.length cd)).heap[w.heap.size]? = some (engCO (some ⟨b, 0, none⟩) fs.length c room a q Ad ds.length cd)) := blk_new _ _
  have HR := Lib.hid (h.below HAL.out)
  have HS := Lib.hid (hs.below HAL.out)
  have HOP := Lib.hid (spec_OpenEngine_calls b c fs room _ HR.out)
  have hosm := open_small fs room
  have HKB : Hid (okB fs room a q ds = ((openB fs room).isSome && (decide ((openA (openB fs room)).length = 0) && (decide ((openE (openB fs room)).2.2.1 = a) && (decide ((openE (openB fs room)).2.2.2.1 = q) && decide ((openE (openB fs room)).2.2.2.2 = ds)))))) := rfl
  have HUNI : Hid (∀ W e W', OpenPost W (openB fs room) e W' → ∃ A c Ad cd Aa ca, e = .returned (.tuple #[.agg (engC A (openE (openB fs room)).1.length c (openE (openB fs room)).2.1 (openE (openB fs room)).2.2.1 (openE (openB fs room)).2.2.2.1 Ad (openE (openB fs room)).2.2.2.2.length cd), .slice Aa (openA (openB fs room)).length ca, .bool (openB fs room).isSome]) ∧ FiOwn W' W.heap.size (.slice A (openE (openB fs room)).1.length c) (openE (openB fs room)).1 ∧ SpOwn W' W.heap.size (.slice Ad (openE (openB fs room)).2.2.2.2.length cd) (openE (openB fs room)).2.2.2.2 ∧ AcOwn W' W.heap.size (.slice Aa (openA (openB fs room)).length ca) (openA (openB fs room)) ∧ Below W.heap.size W W') := fun W e W' h => open_uni h
  have p0 := blk_cell H1.out 0
  have p1 := blk_cell H1.out 1
  have hdl := hs.len
  clear h hs
  generalize okB fs room a q ds = ok at HKB ⊢
  go_enter Tryz.func9, Tryz.ntmps9
  go_wp2_with fail
  go_at_call 20
  refine HOP.out.mono ?_
  intro e w1 hp
  obtain ⟨A1, c1, Ad1, cd1, Aa, ca, rfl, hf1, hs1, ha1, hb1⟩ := HUNI.out _ _ _ hp
  have HS1 : Hid (SpRow w1 Ad1 cd1 (openE (openB fs room)).2.2.2.2) := sp_rowK hs1 hosm.2.2.2.1
  have hal := hosm.2.2.2.2
  have hdd := hosm.2.2.1
  clear hp hf1 hs1 ha1 HUNI HOP hosm p0 p1
  have HB1 := Lib.hid (HAL.out.trans (hb1.mono HAL.out.size))
  have K1 := Lib.hid (blk_below H1.out hb1)
  have HT1 := Lib.hid (HS.out.below hb1)
  clear hb1 H1 HR HS
  generalize (openB fs room).isSome = iso at HKB ⊢
  generalize (openA (openB fs room)).length = n at HKB hal ⊢
  generalize openE (openB fs room) = E at HKB HS1 hdd ⊢
  obtain ⟨F, rm, ac, sq, D⟩ := E
  dsimp only at HKB HS1 hdd ⊢
  have HAL2 : Hid (Below w1.heap.size w1 (w1.alloc (engCO A1 F.length c1 rm ac sq Ad1 D.length cd1))) := (Below.refl _ _).alloc (Nat.le_refl _) _
  have K2 := Lib.hid (blk_below K1.out HAL2.out)
  have K3 : Hid ((w1.alloc (engCO A1 F.length c1 rm ac sq Ad1 D.length cd1)).heap[w1.heap.size]? = some (engCO A1 F.length c1 rm ac sq Ad1 D.length cd1)) := blk_new _ _
  have HB2 := Lib.hid (HB1.out.trans (HAL2.out.mono HB1.out.size))
  have HT2 := Lib.hid (HT1.out.below HAL2.out)
  have HS2 := Lib.hid (HS1.out.below HAL2.out)
  clear HAL HAL2 K1 HB1 HT1 HS1
  cases iso with
  | false =>
    have HKF : Hid (ok = false) := HKB.out
    go_wp2
    go_ret
    exact ⟨by rw [HKF.out]; rfl, HB2.out⟩
  | true =>
    have a2 := blk_cell K2.out 2
    have a3 := blk_cell K2.out 3
    have a4 := blk_cell K2.out 4
    have b2 := blk_cell K3.out 2
    have b3 := blk_cell K3.out 3
    have b4 := blk_cell K3.out 4
    by_cases hn : n = 0
    · subst hn
      by_cases ha : ac = a
      · subst ha
        have hab : (ac != ac) = false := by simp
        by_cases hq : sq = q
        · subst hq
          have hqb : (sq != sq) = false := by simp
          by_cases hl : D.length = ds.length
          · have HKT : Hid (ok = decide (D = ds)) := by rw [Hid, HKB.out]; simp
            have hlb : ((D.length : Int) != (ds.length : Int)) = false := by rw [hl]; simp
            have HL := Lib.hid hl
            clear hl HKB
            go_wp2
            clear a2 a3 a4 b2 b3 b4 hab hqb hlb
            generalize w1.alloc (engCO A1 F.length c1 rm ac sq Ad1 D.length cd1) = W2 at K2 K3 HB2 HT2 HS2 ⊢
            go_loopw [6] (fun iv wr => ∃ i : Nat, i ≤ D.length ∧ iv = .int .i64 (i : Int) ∧ Hid (∀ (j : Nat) x y, j < i → D[j]? = some x → ds[j]? = some y → x = y) ∧ Hid (Below W2.heap.size W2 wr)) (fun iv _ => D.length - (intOf iv).toNat)
            case atStart => exact ⟨0, Nat.zero_le _, rfl, fun j x y hj => by omega, Below.refl _ _⟩
            case round =>
              obtain ⟨i, hi, rfl, HT, HB⟩ := hrel
              rename World => wz
              have k4 := blk_cell (blk_below K2.out HB.out) 4
              have j4 := blk_cell (blk_below K3.out HB.out) 4
              by_cases hlt : i < D.length
              · obtain ⟨ad, x, hA, HX, hz1, hc0, hc1, hc2, hc3⟩ := (HS2.out.below HB.out).at_ hlt
                obtain ⟨ad', y, hA', HY, hz1', hd0, hd1, hd2, hd3⟩ := (HT2.out.below HB.out).at_ (show i < ds.length from HL.out ▸ hlt)
                cases hA
                cases hA'
                have hli : (i : Int) < (D.length : Int) := by omega
                have hli2 : (i : Int) < (ds.length : Int) := by rw [← HL.out]; omega
                by_cases hxy : x = y
                · subst hxy
                  have HT3 : Hid (∀ (j : Nat) x y, j < i + 1 → D[j]? = some x → ds[j]? = some y → x = y) := fun j x' y' hj h1 h2 => by
                    by_cases e : j = i
                    · subst e
                      exact Option.some.inj ((h1.symm.trans HX.out).trans (HY.out.symm.trans h2))
                    · exact HT.out j x' y' (by omega) h1 h2
                  obtain ⟨n, a1, a2, a3⟩ := x
                  dsimp only at hz1 hc0 hc1 hc2 hc3 hd0 hd1 hd2 hd3
                  go_wp2
                  go_quiet (fail)
                  go_wp2
                  go_roundw
                  case rel => first | exact ⟨i + 1, by omega, by go_num, HT3, blwN HB.out _⟩ | (repeat (first | (refine ⟨?relx, rfl⟩; exact ⟨i + 1, by omega, by go_num, HT3, blwN HB.out _⟩) | (refine ⟨?relx, ?eqs⟩; (case eqs => (and_intros <;> rfl)); exact ⟨i + 1, by omega, by go_num, HT3, blwN HB.out _⟩) | apply Exists.intro))
                  case measure => simp [intOf]; omega
                · have HN : Hid (ok = false) := by
                    rw [Hid, HKT.out]
                    exact decide_eq_false fun e => hxy (by
                      have := HX.out
                      rw [e, HY.out] at this
                      exact (Option.some.inj this).symm)
                  obtain ⟨n, a1, a2, a3⟩ := x
                  obtain ⟨n', b1, b2, b3⟩ := y
                  dsimp only at hz1 hz1' hc0 hc1 hc2 hc3 hd0 hd1 hd2 hd3
                  have HD := sp_ne hxy
                  clear hxy
                  rcases HD with h0 | ⟨h0, h1⟩ | ⟨h0, h1, h2⟩ | ⟨h0, h1, h2, h3⟩ <;>
                    (go_wp2
                     go_quiet (fail)
                     go_wp2
                     go_ret
                     exact ⟨by rw [HN.out]; rfl, blwN (HB2.out.trans (HB.out.mono HB2.out.size)) _⟩)
              · obtain rfl : i = D.length := by omega
                have HN : Hid (ok = true) := by rw [Hid, HKT.out]; exact decide_eq_true (sp_pref HL.out HT.out)
                go_wp2
                go_ret
                exact ⟨by rw [HN.out]; rfl, HB2.out.trans (HB.out.mono HB2.out.size)⟩
          · have HKF : Hid (ok = false) := by
              have : decide (D = ds) = false := decide_eq_false fun e => hl (by rw [e])
              rw [Hid, HKB.out, this]; simp
            have hlb : ((D.length : Int) != (ds.length : Int)) = true := by simp; omega
            clear hl HKB
            go_wp2
            go_ret
            exact ⟨by rw [HKF.out]; rfl, HB2.out⟩
        · have HKF : Hid (ok = false) := by rw [Hid, HKB.out, decide_eq_false hq]; simp
          have hqb : (sq != q) = true := by simp [hq]
          clear hq HKB
          go_wp2
          go_ret
          exact ⟨by rw [HKF.out]; rfl, HB2.out⟩
      · have HKF : Hid (ok = false) := by rw [Hid, HKB.out, decide_eq_false ha]; simp
        have hab : (ac != a) = true := by simp [ha]
        clear ha HKB
        go_wp2
        go_ret
        exact ⟨by rw [HKF.out]; rfl, HB2.out⟩
    · have HKF : Hid (ok = false) := by rw [Hid, HKB.out, decide_eq_false hn]; rfl
      have hnz : (0 : Int) < (n : Int) := by omega
      clear hn HKB
      go_wp2
      go_ret
      exact ⟨by rw [HKF.out]; rfl, HB2.out⟩
end Go.Proofs.YtaacpdejpcbbbaaGreatDoor

namespace Go.Proofs.YtaacpdejpcbbbaaGreatDoor
set_option linter.unusedVariables false
set_option linter.unusedSimpArgs false
open Go.RowKit

theorem spRow_of_trod {H : Type} {enc : TypeId × Value → H} {P : Program} {w : World} {base : Nat} {held : Bool} {t e : TypeId} {f0 f1 f2 f3 : Field} {fuel : Nat} {A : Option Addr} {len cap : Nat} {x : DataW H × List MemPlace}
    (ht : P.underlying t = some (.slice e)) (he : P.underlying e = some (.struct #[f0, f1, f2, f3])) (ce : P.cellsOf e = 4) (o0 : f0.offset = 0) (o1 : f1.offset = 1) (o2 : f2.offset = 2) (o3 : f3.offset = 3) (c0 : P.cellsOf f0.type = 1) (c1 : P.cellsOf f1.type = 1) (c2 : P.cellsOf f2.type = 1) (c3 : P.cellsOf f3.type = 1)
    (u0 : P.underlying f0.type = some .string) (u1 : P.underlying f1.type = some (.int .i64)) (u2 : P.underlying f2.type = some (.int .i64)) (u3 : P.underlying f3.type = some (.int .i64))
    (h : DataW.trod enc P w base (fun _ => true) held fuel t [.slice A len cap] = some x) : ∃ fs : List SpotD, len = fs.length ∧ SpRow w A cap fs := by
  rcases Go.Deep.open_slice ht h with ⟨hcs, _⟩ | ⟨a, len', cap', m, n, D, Pl, hcs, hb, hl, hm, hmm, _, hx⟩
  · simp at hcs
    obtain ⟨rfl, rfl, rfl⟩ := hcs
    exact ⟨[], rfl, by simp, by simp, by simp, fun h0 => by simp at h0⟩
  · simp at hcs
    obtain ⟨rfl, rfl, rfl⟩ := hcs
    rw [if_pos rfl] at hmm
    have each : ∀ i, i < len → ∃ q : SpotD, w.cell? (a.add (i * 4)) = some (.string q.1) ∧ w.cell? ((a.add (i * 4)).add 1) = some (.int .i64 q.2.1) ∧ w.cell? ((a.add (i * 4)).add 2) = some (.int .i64 q.2.2.1) ∧ w.cell? ((a.add (i * 4)).add 3) = some (.int .i64 q.2.2.2) ∧ q.1.size ≤ maxLen := by
      intro i hi
      obtain ⟨cs', h1, h2⟩ := hx i (by omega)
      rw [ce] at h1
      obtain ⟨_, hlen, hcell⟩ := World.cells?_some h1
      obtain ⟨xs, k, hk, hxy, _, hxl, hf⟩ := DataW.trod_struct he h2
      match xs, hxl, cs', hlen with
      | [y0, y1, y2, y3], _, [v0, v1, v2, v3], _ =>
        have g0 := hf 0 f0 rfl
        have g1 := hf 1 f1 rfl
        have g2 := hf 2 f2 rfl
        have g3 := hf 3 f3 rfl
        simp [o0, o1, o2, o3, c0, c1, c2, c3] at g0 g1 g2 g3
        obtain ⟨s0, e0, _, z0⟩ := DataW.trod_string u0 g0
        obtain ⟨k1, e1, _, _⟩ := DataW.trod_int u1 g1
        obtain ⟨k2, e2, _, _⟩ := DataW.trod_int u2 g2
        obtain ⟨k3, e3, _, _⟩ := DataW.trod_int u3 g3
        have d0 := hcell 0 (by omega)
        have d1 := hcell 1 (by omega)
        have d2 := hcell 2 (by omega)
        have d3 := hcell 3 (by omega)
        simp at e0 e1 e2 e3
        subst e0 e1 e2 e3
        refine ⟨(s0, k1, k2, k3), ?_, d1, d2, d3, z0⟩
        have : (a.add (i * 4)).add 0 = a.add (i * 4) := by simp [Addr.add]
        rwa [this] at d0
    obtain ⟨q, hq⟩ := Go.Deep.choose_lt each
    have hlen : ((List.range len).map q).length = len := by simp
    refine ⟨(List.range len).map q, hlen.symm, by rw [hlen]; exact hl, by unfold maxLen at hm; exact hm, fun y hy => ?_, fun h0 => ⟨a, rfl, ?_, fun j y hy => ?_⟩⟩
    · obtain ⟨i, hi, rfl⟩ := List.mem_map.1 hy
      have := hq i (List.mem_range.1 hi)
      unfold maxLen at this
      exact this.2.2.2.2
    · have := World.block_lt_of_cell? w _ (hq 0 (by rw [hlen] at h0; exact h0)).1
      rwa [add_block] at this
    · have hj := (List.getElem?_eq_some_iff.1 hy).1
      rw [hlen] at hj
      simp [hj] at hy
      subst hy
      obtain ⟨d0, d1, d2, d3, _⟩ := hq j hj
      refine ⟨d0, ?_, ?_, ?_⟩
      · simpa [Addr.add] using d1
      · simpa [Addr.add] using d2
      · simpa [Addr.add] using d3
set_option maxRecDepth 100000 in
theorem engine_of_trod {H : Type} {enc : TypeId × Value → H} {w : World} {base b0 : Nat} {held : Bool} {r : Reach} {v : Value} {d : DataW H} {p : List MemPlace} (hv : Value.okWide Tryz.prog w r b0 27 v) (h : DataW.Trod enc Tryz.prog w base (fun _ => true) held 27 v d p) :
    ∃ A c fs room a q Ad cd ds, v = .agg (engC A (List.length fs) c room a q Ad (List.length ds) cd) ∧ FiRow w A c fs ∧ SpRow w Ad cd ds := by
  obtain ⟨cs, rfl, hsz⟩ := Go.WideShapes.okWide_struct Tryz.underlying27 hv
  have e1 : Tryz.prog.cellsOf 27 = 5 := by kernel_rfl
  rw [e1] at hsz
  obtain ⟨fuel, hf⟩ := h
  obtain ⟨xs, n, _, _, _, hxl, hx⟩ := DataW.trod_struct Tryz.underlying27 hf
  have g0 := hx 0 _ rfl
  have g1 := hx 1 _ rfl
  have g2 := hx 2 _ rfl
  have g3 := hx 3 _ rfl
  have g4 := hx 4 _ rfl
  obtain ⟨l⟩ := cs
  have es : Tryz.prog.cellsOf 24 = 1 := by kernel_rfl
  have ei : Tryz.prog.cellsOf 3 = 1 := by kernel_rfl
  have ed : Tryz.prog.cellsOf 25 = 1 := by kernel_rfl
  match l, hsz with
  | [v0, v1, v2, v3, v4], _ =>
    match xs, hxl with
    | [y0, y1, y2, y3, y4], _ =>
      simp [Value.cells, es, ei, ed] at g0 g1 g2 g3 g4
      obtain ⟨k1, e1', _, _⟩ := DataW.trod_int Tryz.underlying3 g1
      obtain ⟨k2, e2', _, _⟩ := DataW.trod_int Tryz.underlying3 g2
      obtain ⟨k3, e3', _, _⟩ := DataW.trod_int Tryz.underlying3 g3
      simp at e1' e2' e3'
      subst e1' e2' e3'
      obtain ⟨xs0, n0, _, _, _, hxl0, hx0⟩ := DataW.trod_struct Tryz.underlying24 g0
      have q0 := hx0 0 _ rfl
      have e2 : Tryz.prog.cellsOf 22 = 1 := by kernel_rfl
      match xs0, hxl0 with
      | [z0], _ =>
        have q1 : DataW.trod enc Tryz.prog w base (fun _ => true) held n0 22 [v0] = some z0 := by
          have := q0
          simp [Value.cells, e2] at this
          exact this
        have hd : ∃ A c fs, v0 = .slice A (List.length fs) c ∧ FiRow w A c fs := by
          rcases Go.Deep.open_slice Tryz.underlying22 q1 with ⟨hcs, _⟩ | ⟨a, len', cap', m, n', D, Pl, hcs, _⟩
          · simp at hcs
            subst hcs
            exact ⟨none, 0, [], rfl, by simp, by simp, by simp, fun h0 => by simp at h0⟩
          · simp at hcs
            subst hcs
            obtain ⟨fs, hl, hr⟩ := fiRow_of_trod Tryz.underlying22 Tryz.underlying124 (by kernel_rfl) rfl rfl rfl (by kernel_rfl) (by kernel_rfl) (by kernel_rfl) Tryz.underlying9 Tryz.underlying9 Tryz.underlying3 q1
            subst hl
            exact ⟨_, _, fs, rfl, hr⟩
        have hs : ∃ A c ds, v4 = .slice A (List.length ds) c ∧ SpRow w A c ds := by
          rcases Go.Deep.open_slice Tryz.underlying25 g4 with ⟨hcs, _⟩ | ⟨a, len', cap', m, n', D, Pl, hcs, _⟩
          · simp at hcs
            subst hcs
            exact ⟨none, 0, [], rfl, by simp, by simp, by simp, fun h0 => by simp at h0⟩
          · simp at hcs
            subst hcs
            obtain ⟨ds, hl, hr⟩ := spRow_of_trod Tryz.underlying25 Tryz.underlying102 (by kernel_rfl) rfl rfl rfl rfl (by kernel_rfl) (by kernel_rfl) (by kernel_rfl) (by kernel_rfl) Tryz.underlying9 Tryz.underlying3 Tryz.underlying3 Tryz.underlying3 g4
            subst hl
            exact ⟨_, _, ds, rfl, hr⟩
        obtain ⟨A, c, fs, rfl, hA⟩ := hd
        obtain ⟨Ad, cd, ds, rfl, hD⟩ := hs
        exact ⟨A, c, fs, k1, k2, k3, Ad, cd, ds, rfl, hA, hD⟩
end Go.Proofs.YtaacpdejpcbbbaaGreatDoor
