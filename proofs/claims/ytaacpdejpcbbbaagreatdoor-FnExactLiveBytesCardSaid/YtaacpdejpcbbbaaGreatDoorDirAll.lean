/- The program's map of spots: plain. The directory of a disk: DirOf of the reference. The directory of a disk: how great it is. -/
import Derived.Test.YtaacpdejpcbbbaaGreatDoorDiskAll
import Derived.Maps.OwnSet
import Derived.Sort.KeysCollected
import Derived.Test.YtaacpdejpcbbbaaGreatDoorSegAll
import Derived.StillTailTactics
namespace Go.Proofs.YtaacpdejpcbbbaaGreatDoor
set_option linter.unusedVariables false
set_option linter.unusedSimpArgs false
open Go.RowKit Go.Maps

/-- What a spot reads as. -/
def spDat (x : SpotD) : DataW Unit := .agg [.lit (.string (ub x.1)), .lit (.int .i64 x.2.1), .lit (.int .i64 x.2.2.1), .lit (.int .i64 x.2.2.2)]
def spElem : Value → Option (DataW Unit × List MemPlace)
  | .agg cs => match cs.toList with
    | [.string k, .int .i64 a, .int .i64 b, .int .i64 c] => some (spDat (k, a, b, c), [])
    | _ => none
  | _ => none
theorem spElem_mk (x : SpotD) : spElem (.agg #[.string x.1, .int .i64 x.2.1, .int .i64 x.2.2.1, .int .i64 x.2.2.2]) = some (spDat x, []) := rfl
theorem spDat_inj {x y : SpotD} (h : spDat x = spDat y) : x = y := by
  obtain ⟨k, a, b, c⟩ := x
  obtain ⟨k', a', b', c'⟩ := y
  unfold spDat at h
  simp only [DataW.agg.injEq, List.cons.injEq, DataW.lit.injEq, Lit.string.injEq, Lit.int.injEq, true_and, and_true] at h
  obtain ⟨h1, rfl, rfl, rfl⟩ := h
  have : k = k' := by rw [← bs_ub k, h1, bs_ub]
  rw [this]
theorem spElem_inv {v : Value} {x : SpotD} {ps : List MemPlace} (h : spElem v = some (spDat x, ps)) : v = .agg #[.string x.1, .int .i64 x.2.1, .int .i64 x.2.2.1, .int .i64 x.2.2.2] := by
  unfold spElem at h
  split at h
  · rename_i cs
    split at h
    · rename_i k a b c hc
      simp only [Option.some.injEq, Prod.mk.injEq] at h
      have := spDat_inj h.1
      subst this
      have hc' : cs = #[.string k, .int .i64 a, .int .i64 b, .int .i64 c] := by
        apply Array.toList_inj.1
        rw [hc]
      rw [hc']
    · cases h
  · cases h
/-- The map whose entries are these spots. -/
def spE (G : List SpotD) : List (Lit × DataW Unit) := G.map fun x => (.string (ub x.1), spDat x)
def spM (G : List SpotD) : DataW Unit := .map (spE G)
def Srt (G : List SpotD) : Prop := G.Pairwise fun x y => ub x.1 < ub y.1
theorem less_lt : ∀ a b : List UInt8, Op.bytesLess a b = decide (a < b)
  | [], [] => by simp [Op.bytesLess]
  | [], _ :: _ => by simp [Op.bytesLess]
  | _ :: _, [] => by simp [Op.bytesLess]
  | a :: r, b :: s => by
    rw [Op.bytesLess, less_lt r s]
    by_cases h : a < b
    · simp [h, List.cons_lt_cons_iff]
    · by_cases e : a = b
      · subst e; simp [List.cons_lt_cons_iff]
      · simp [h, e, List.cons_lt_cons_iff]
theorem before_lt : ∀ a b : List UInt8, bytesBefore a b = decide (a < b)
  | [], [] => by simp [bytesBefore]
  | [], _ :: _ => by simp [bytesBefore]
  | _ :: _, [] => by simp [bytesBefore]
  | a :: r, b :: s => by
    rw [bytesBefore, before_lt r s]
    by_cases h : a < b
    · simp [h, List.cons_lt_cons_iff]
    · by_cases e : a = b
      · subst e; simp [List.cons_lt_cons_iff]
      · simp [h, e, List.cons_lt_cons_iff]
theorem toList_ub (s : ByteArray) : s.toList = ub s := by rw [ByteArray.toList_eq]; rfl
theorem ltSp_iff {y x : SpotD} : ltSp y x = true ↔ ub y.1 < ub x.1 := by unfold ltSp; rw [less_lt, toList_ub, toList_ub]; simp
theorem gtSp_iff {y x : SpotD} : gtSp y x = true ↔ ub x.1 < ub y.1 := by
  unfold gtSp
  rw [less_lt, toList_ub, toList_ub]
  simp only [Bool.not_eq_true', Bool.or_eq_false_iff, decide_eq_false_iff_not, beq_eq_false_iff_ne]
  constructor
  · rintro ⟨h1, h2⟩
    rcases List.le_iff_lt_or_eq.1 (List.not_lt.1 h1) with h | h
    · exact h
    · exact absurd h.symm h2
  · intro h
    exact ⟨fun h2 => List.lt_irrefl _ (List.lt_trans h h2), fun e => List.lt_irrefl _ (by rw [e] at h; exact h)⟩
theorem srt_filter {G : List SpotD} (h : Srt G) (p : SpotD → Bool) : Srt (G.filter p) := h.filter _
theorem srt_setB {G : List SpotD} (h : Srt G) (x : SpotD) (g : Bool) : Srt (setB G x g) := by
  unfold setB setMid setLo
  refine List.pairwise_append.2 ⟨List.pairwise_append.2 ⟨srt_filter h _, ?_, ?_⟩, srt_filter h _, ?_⟩
  · split <;> simp
  · intro a ha b hb
    split at hb
    · simp at hb
    · obtain rfl := List.mem_singleton.1 hb
      exact ltSp_iff.1 (List.mem_filter.1 ha).2
  · intro a ha b hb
    have hb2 := gtSp_iff.1 (List.mem_filter.1 hb).2
    rcases List.mem_append.1 ha with ha | ha
    · exact List.lt_trans (ltSp_iff.1 (List.mem_filter.1 ha).2) hb2
    · split at ha
      · simp at ha
      · obtain rfl := List.mem_singleton.1 ha
        exact hb2
theorem filter_ne {x : SpotD} : ∀ {G : List SpotD}, Srt G → G.filter (fun y => ltSp y x) ++ G.filter (fun y => gtSp y x) = G.filter fun y => !((ub y.1) == (ub x.1))
  | [], _ => rfl
  | y :: G, h => by
    have h' := List.pairwise_cons.1 h
    have ih := filter_ne (x := x) h'.2
    rcases Decidable.em (ub y.1 < ub x.1) with hl | hl
    · have h1 : ltSp y x = true := ltSp_iff.2 hl
      have h2 : gtSp y x = false := by
        cases hg : gtSp y x with
        | false => rfl
        | true => exact absurd (List.lt_trans hl (gtSp_iff.1 hg)) (List.lt_irrefl _)
      have h3 : (ub y.1 == ub x.1) = false := by
        cases he : ub y.1 == ub x.1 with
        | false => rfl
        | true => rw [beq_iff_eq.1 he] at hl; exact absurd hl (List.lt_irrefl _)
      simp only [List.filter_cons, h1, h2, h3, if_true, Bool.not_false, Bool.false_eq_true, if_false, List.cons_append, ih]
    · have h1 : ltSp y x = false := by
        cases hg : ltSp y x with
        | false => rfl
        | true => exact absurd (ltSp_iff.1 hg) hl
      have hlo : G.filter (fun y => ltSp y x) = [] := by
        rw [List.filter_eq_nil_iff]
        intro z hz hzl
        exact hl (List.lt_trans (h'.1 z hz) (ltSp_iff.1 hzl))
      rw [hlo, List.nil_append] at ih
      rw [List.filter_cons, h1, if_neg Bool.false_ne_true, hlo, List.nil_append, List.filter_cons, List.filter_cons, ih]
      have h4 : gtSp y x = !(ub y.1 == ub x.1) := by
        cases he : ub y.1 == ub x.1 with
        | true =>
          cases hg : gtSp y x with
          | false => rfl
          | true => have := gtSp_iff.1 hg; rw [beq_iff_eq.1 he] at this; exact absurd this (List.lt_irrefl _)
        | false =>
          rcases List.le_iff_lt_or_eq.1 (List.not_lt.1 hl) with hh | hh
          · rw [gtSp_iff.2 hh]; rfl
          · rw [hh] at he; simp at he
      rw [h4]
theorem spE_filter (G : List SpotD) (k : List UInt8) : (spE G).filter (fun p => !p.1.sameKey (.string k)) = spE (G.filter fun y => !((ub y.1) == k)) := by
  induction G with
  | nil => rfl
  | cons y G ih =>
    unfold spE at ih ⊢
    rw [List.map_cons, List.filter_cons, List.filter_cons, ih]
    show (if (!(ub y.1 == k)) = true then _ else _) = _
    split <;> rfl
theorem spM_del {G : List SpotD} (h : Srt G) (x : SpotD) : (spM G).del (.string (ub x.1)) = spM (setB G x true) := by
  unfold spM
  rw [DataW.del_eq]
  have : ChangeMaps.delKey (.string (ub x.1)) (spE G) = (spE G).filter (fun p => !p.1.sameKey (.string (ub x.1))) := rfl
  rw [this, spE_filter, ← filter_ne h]
  unfold setB setMid setLo
  rw [if_pos rfl, List.append_nil]
theorem insert_lo {x : SpotD} : ∀ (L R : List SpotD), (∀ y ∈ L, ub y.1 < ub x.1) → (∀ y ∈ R, ub x.1 < ub y.1) → DataW.insert (.string (ub x.1), spDat x) (spE (L ++ R)) = spE (L ++ x :: R)
  | [], [], _, _ => rfl
  | [], y :: R, _, h => by
    have h1 := h y (by simp)
    show (if (Lit.string (ub x.1)).before (.string (ub y.1)) then _ else _) = _
    rw [if_pos (by rw [Lit.before, before_lt]; simpa using h1)]
    rfl
  | y :: L, R, hL, hR => by
    have h1 := hL y (by simp)
    have ih := insert_lo L R (fun z hz => hL z (by simp [hz])) hR
    show (if (Lit.string (ub x.1)).before (.string (ub y.1)) then _ else _) = _
    rw [if_neg (by rw [Lit.before, before_lt]; simpa using List.not_lt.1 (fun h2 => List.lt_irrefl _ (List.lt_trans h1 h2)))]
    show _ :: DataW.insert (.string (ub x.1), spDat x) (spE (L ++ R)) = _
    rw [ih]
    rfl
theorem spM_put {G : List SpotD} (h : Srt G) (x : SpotD) : (spM G).put (.string (ub x.1)) (spDat x) = spM (setB G x false) := by
  unfold spM
  rw [DataW.put_eq]
  have : ChangeMaps.putKey (.string (ub x.1)) (spDat x) (spE G) = DataW.insert (.string (ub x.1), spDat x) ((spE G).filter (fun p => !p.1.sameKey (.string (ub x.1)))) := rfl
  rw [this, spE_filter, ← filter_ne h, insert_lo _ _ (fun y hy => ltSp_iff.1 (List.mem_filter.1 hy).2) (fun y hy => gtSp_iff.1 (List.mem_filter.1 hy).2)]
  unfold setB setMid setLo
  rw [if_neg Bool.false_ne_true, List.append_assoc]
  rfl
theorem spM_at {x : SpotD} (z : DataW Unit) : ∀ {G : List SpotD}, Srt G → x ∈ G → (spM G).atKey (.string (ub x.1)) z = spDat x
  | [], _, hx => by simp at hx
  | y :: G, h, hx => by
    have h' := List.pairwise_cons.1 h
    have e : (spM (y :: G)).atKey (.string (ub x.1)) z = if (ub y.1 == ub x.1) = true then spDat y else (spM G).atKey (.string (ub x.1)) z := by
      unfold spM DataW.atKey spE
      dsimp only
      rw [List.map_cons, List.find?_cons]
      have : (Lit.string (ub y.1)).sameKey (.string (ub x.1)) = (ub y.1 == ub x.1) := rfl
      rw [this]
      cases ub y.1 == ub x.1 <;> rfl
    rw [e]
    rcases List.mem_cons.1 hx with rfl | hx
    · rw [beq_self_eq_true, if_pos rfl]
    · have hne : (ub y.1 == ub x.1) = false := by
        cases he : ub y.1 == ub x.1 with
        | false => rfl
        | true => have := h'.1 x hx; rw [beq_iff_eq.1 he] at this; exact absurd this (List.lt_irrefl _)
      rw [hne, if_neg Bool.false_ne_true]
      exact spM_at z h'.2 hx
theorem spM_keys (G : List SpotD) : strKeys (spM G) = G.map fun x => ub x.1 := by
  show (spE G).map (fun p => strOf p.1) = _
  unfold spE
  rw [List.map_map]
  rfl
theorem spM_size (G : List SpotD) : Maps.size (spM G) = G.length := by
  show (spE G).length = _
  unfold spE
  rw [List.length_map]
theorem spM_sort {G : List SpotD} (h : Srt G) {ss : List (List UInt8)} (hp : ss.Perm (strKeys (spM G))) : ss.mergeSort leB = G.map fun x => ub x.1 := by
  rw [mergeSort_of_perm hp, spM_keys]
  refine List.mergeSort_of_pairwise ?_
  refine List.pairwise_map.2 (h.imp fun {a b} hab => ?_)
  simpa [leB] using List.le_of_lt hab
theorem srt_nil : Srt [] := List.Pairwise.nil
theorem srt_fold {α : Type} {f : List SpotD → α → List SpotD} (hf : ∀ G a, Srt G → Srt (f G a)) : ∀ (l : List α) (G : List SpotD), Srt G → Srt (l.foldl f G)
  | [], _, h => h
  | a :: l, G, h => srt_fold hf l _ (hf G a h)
theorem srt_ch (n a q : Int) (G : List SpotD) (c : ChD) (h : Srt G) : Srt (dirCh n a q G c) := srt_setB h _ _
theorem srt_pl (n : Int) (G : List SpotD) (p : PlD) (h : Srt G) : Srt (dirPl n G p) := srt_fold (srt_ch n _ _) _ _ h
theorem srt_seg (fs : List FiD) (G : List SpotD) (n : Nat) (h : Srt G) : Srt (dirSeg fs G n) := srt_fold (srt_pl _) _ _ h
theorem spM_ch {G : List SpotD} (h : Srt G) (n a q : Int) (c : ChD) : (if c.2.2 = true then (spM G).del (.string (ub c.1)) else (spM G).put (.string (ub c.1)) (spDat (c.1, n, a, q))) = spM (dirCh n a q G c) := by
  unfold dirCh
  cases hg : c.2.2
  · rw [if_neg Bool.false_ne_true]; exact spM_put h (c.1, n, a, q)
  · rw [if_pos rfl]; exact spM_del h (c.1, n, a, q)
end Go.Proofs.YtaacpdejpcbbbaaGreatDoor

namespace Go.Proofs.YtaacpdejpcbbbaaGreatDoor
set_option linter.unusedVariables false
set_option linter.unusedSimpArgs false
open Go.RowKit
attribute [local go_sem] bs_size List.length_cons List.length_nil List.length_append

set_option maxRecDepth 100000 in
theorem spec_l07Size_calls (q : Int) (A : Option Addr) (c : Nat) (cs : List ChD) (r : ByteArray) (w : World) (h : ChRow w A c cs) (ht : batText (q, cs) = some (ub r)) (hr : 1 ≤ r.size ∧ r.size ≤ 9000) :
    Calls Tryz.prog 37 #[.agg #[.int .i64 q, .slice A cs.length c]] w fun e w' => e = .returned (.int .i64 (frameLen r : Int)) ∧ Below w.heap.size w w' := by
  have HAL : Hid (Below w.heap.size w (w.alloc (.cells #[.int .i64 q, .slice A cs.length c] 62))) := (Below.refl _ _).alloc (Nat.le_refl _) _
  have HR := Lib.hid (h.below HAL.out)
  have HT : Hid (varRes (batText (q, cs)) = .tuple #[.string r, .bool true]) := by rw [Hid, ht]; show Value.tuple #[.string (bs (ub r)), .bool true] = _; rw [bs_ub]
  have hfr : frameB (ub r) = some (varBytes r.size ++ (sum4 (ub r) ++ ub r)) := by rw [frameB_yes (by rw [ub_length]; exact hr), ub_length]
  obtain ⟨L, hL1, hL2⟩ : ∃ L, frameB (ub r) = some L ∧ frameLen r = L.length := ⟨_, hfr, by unfold frameLen; rw [hfr]⟩
  have HF : Hid (varRes (frameB (ub r)) = .tuple #[.string (bs L), .bool true]) := by rw [Hid, hL1]; rfl
  have HL := Lib.hid hL2
  clear h ht hfr hL1 hL2
  go_enter Tryz.func37, Tryz.ntmps37
  go_wp2_with fail
  go_at_call 80
  refine (spec_BatchText_calls q A c cs _ HR.out).mono ?_
  rw [HT.out]
  rintro e w1 ⟨rfl, hb1⟩
  have HB1 := Lib.hid (HAL.out.trans (hb1.mono HAL.out.size))
  clear hb1
  go_wp2_with fail
  go_at_call 81
  refine (spec_Frame_calls r _ (by omega)).mono ?_
  rw [HF.out]
  rintro e w2 ⟨rfl, hb2⟩
  have HB2 := Lib.hid (HB1.out.trans (hb2.mono HB1.out.size))
  clear hb2
  go_wp2
  go_ret
  exact ⟨by rw [HL.out]; rfl, HB2.out⟩
/-- What ReadSegment and HeadText give of a segment of a right disk, in one form. -/
theorem segUni (fs : List FiD) (m : Nat) (hm : m ≤ 99) : ∃ (f l en : Nat) (pls : List PlD) (ok : Bool) (Lh : List UInt8), batsAt fs m = pls ∧
    (∀ (w : World) (e : Ending) (w' : World), SegPost w (segPl (m : Int) ((fileB fs (segNm (m : Int))).getD ⟨#[]⟩)) e w' → ∃ v, e = .returned (.tuple #[.int .i64 (f : Int), v, .int .i64 (en : Int), .bool ok]) ∧ BatsOwn w' w.heap.size v (pls.map Prod.fst) ∧ Below w.heap.size w w') ∧
    headText (m : Int) (f : Int) = some Lh ∧ l = Lh.length ∧ l ≤ 9020 ∧ pls.length ≤ 20000 ∧
    (∀ p ∈ pls, p.2.1 ≤ 200000000 ∧ ∃ r, batText p.1 = some (ub r) ∧ (1 ≤ r.size ∧ r.size ≤ 9000) ∧ p.2.2 = frameLen r) ∧ ∀ j p, pls[j]? = some p → p.2.1 = atOf l pls j := by
  unfold batsAt
  cases hs : segPl (m : Int) ((fileB fs (segNm (m : Int))).getD ⟨#[]⟩) with
  | none =>
    have h1 := headBytes_len (n := m) (f := 0) (by omega) (by omega)
    have hfr : frameB (headBytes m 0) = some (varBytes (headBytes m 0).length ++ (sum4 (headBytes m 0) ++ headBytes m 0)) := frameB_yes ⟨h1.1, by omega⟩
    have hv := var_len (n := (headBytes m 0).length) (by omega)
    have h4 := sum4_len (headBytes m 0)
    have hh : headText (m : Int) ((0 : Nat) : Int) = some (varBytes (headBytes m 0).length ++ (sum4 (headBytes m 0) ++ headBytes m 0)) := by rw [headText_yes hm (Nat.zero_le _), hfr]
    refine ⟨0, _, 0, [], false, _, rfl, fun w e w' hp => ?_, hh, rfl, by simp only [List.length_append]; omega, by simp, fun p hp => by simp at hp, fun j p hp => by simp at hp⟩
    obtain ⟨hb, v, he, ho⟩ := hp
    exact ⟨v, he, ho, hb⟩
  | some x =>
    obtain ⟨f, l, pls⟩ := x
    obtain ⟨h1, h2, h3, h4⟩ := segPl_pls hs
    obtain ⟨h5, h6, h7⟩ := segPl_bound hs
    cases hh : headText (m : Int) (f : Int) with
    | none => exact absurd hh h1
    | some Lh =>
      have hl9 : l ≤ 9020 := by
        obtain ⟨r, rs, hu, hl, _⟩ := segPl_some h5
        obtain ⟨_, _, hsm⟩ := unframeB_le ((fileB fs (segNm (m : Int))).getD ⟨#[]⟩)
        rw [hu] at hsm
        rw [hl]
        exact frameLen_le (hsm r (by simp)).2
      refine ⟨f, l, endOf l pls, pls, true, Lh, rfl, fun w e w' hp => ?_, hh, h2 Lh hh, hl9, h6, fun p hp => ⟨(h7 p hp).1, h3 p hp⟩, h4⟩
      obtain ⟨hb, v, he, ho⟩ := hp
      exact ⟨v, he, ho, hb⟩
theorem dirSeg_eq {fs : List FiD} {n : Nat} {pls : List PlD} (h : batsAt fs n = pls) (out : List SpotD) : dirSeg fs out n = pls.foldl (dirPl (n : Int)) out := by unfold dirSeg; rw [h]
theorem keep5 {W W' : World} {a0 a1 a2 a3 a4 : Addr} {x0 x1 x2 x3 x4 : Value} (h : W.cell? a0 = some x0 ∧ W.cell? a1 = some x1 ∧ W.cell? a2 = some x2 ∧ W.cell? a3 = some x3 ∧ W.cell? a4 = some x4) (hb : Below W.heap.size W W') : W'.cell? a0 = some x0 ∧ W'.cell? a1 = some x1 ∧ W'.cell? a2 = some x2 ∧ W'.cell? a3 = some x3 ∧ W'.cell? a4 = some x4 ∧ Hid (Below W.heap.size W W') := by
  have k : ∀ {a v}, W.cell? a = some v → W'.cell? a = some v := fun h => (hb.cell (World.block_lt_of_cell? W _ h)).trans h
  exact ⟨k h.1, k h.2.1, k h.2.2.1, k h.2.2.2.1, k h.2.2.2.2, hb⟩
theorem keepL {w W W' : World} {A : Option Addr} {n c b1 i : Nat} {v : Value} (hv : VD w A n c W) (hc : W.cell? ⟨b1, i, none⟩ = some v) (hb : Below W.heap.size W W') : W'.cell? ⟨w.heap.size, 0, none⟩ = some (.slice A n c) ∧ W'.cell? ⟨b1, i, none⟩ = some v ∧ Hid (Below W.heap.size W W') := ⟨(hv.go hb).cell, (hb.cell (World.block_lt_of_cell? W _ hc)).trans hc, hb⟩
def DirPost (w : World) (fs : List FiD) (e : Ending) (w' : World) : Prop := ∃ v, e = .returned (.tuple #[v, .bool (!(segsB fs).isEmpty)]) ∧ SpOwn w' w.heap.size v (dirB fs) ∧ Below w.heap.size w w'
theorem spOwn_eq {w : World} {B : Nat} {v : Value} {ds ds' : List SpotD} (h : ds' = ds) (ho : SpOwn w B v ds) : SpOwn w B v ds' := by rw [h]; exact ho
theorem SpOwn.below' {w w' : World} {B : Nat} {v : Value} {ds : List SpotD} (h : SpOwn w B v ds) (hb : Below w.heap.size w w') : SpOwn w' B v ds := own_keep h hb
set_option maxHeartbeats 8000000 in
set_option maxRecDepth 100000 in
theorem spec_DirOf_calls (A : Option Addr) (c : Nat) (fs : List FiD) (w : World) (h : FiRow w A c fs) :
    Calls Tryz.prog 54 #[.agg #[.slice A fs.length c]] w (DirPost w fs) := by
  have HF := Lib.hid h
  have HV := Lib.hid (vd_start w A fs.length c)
  have HV0 := Lib.hid (HV.out.alloc (.cells #[] 56))
  have p0 := HV0.out.cell
  have hw5 : (W5 w A fs.length c).heap.size = w.heap.size + 1 := by simp
  have HO0 : Hid (SpOwn ((W5 w A fs.length c).alloc (.cells #[] 56)) (w.heap.size + 1) (.slice (some ⟨w.heap.size + 1, 0, none⟩) 0 0) []) := by
    have : ((W5 w A fs.length c).alloc (.cells #[] 56)).ownsRow (w.heap.size + 1) 56 4 (.slice (some ⟨(W5 w A fs.length c).heap.size, 0, none⟩) 0 0) 0 [] := World.ownsRow_made (w := W5 w A fs.length c) #[] 0 (by rw [hw5]; exact Nat.le_refl _) (Nat.zero_le _) rfl
    rw [hw5] at this
    exact this
  have HSP := Lib.hid (spec_Segments_calls A c fs _ (HF.out.below HV0.out.from_))
  unfold SegsPost at HSP
  have HDS : Hid (∀ i n, (segsB fs)[i]? = some n → diskOkB fs = true ∧ n ≤ 99) := fun i n hi => by
    have hm := List.mem_of_getElem? hi
    refine ⟨?_, by have := (segs_lt hm).1; omega⟩
    cases hd : diskOkB fs with
    | true => rfl
    | false => rw [segs_no hd] at hm; simp at hm
  have hsl := segs_len fs
  have HDP : Hid (∀ e w', (∃ v, e = .returned (.tuple #[v, .bool (!(segsB fs).isEmpty)]) ∧ SpOwn w' w.heap.size v ((segsB fs).foldl (dirSeg fs) []) ∧ Below w.heap.size w w') → DirPost w fs e w') := fun e w' h => h
  generalize segsB fs = L at HSP HDS hsl HDP
  clear h
  go_enter Tryz.func54, Tryz.ntmps54
  go_wp2_with fail
  go_at_call 51
  refine HSP.out.mono ?_
  rintro e w1 ⟨v1, rfl, ho1, hb1⟩
  obtain ⟨A1, c1, hv1⟩ := ho1.form
  rw [List.length_map] at hv1
  subst hv1
  have HV1 := Lib.hid (HV0.out.go hb1)
  have HR1 := Lib.hid (ho1.mono (B' := w.heap.size + 1) (by simp))
  have HO1 := Lib.hid (HO0.out.below' hb1)
  clear ho1 hb1 p0 HSP hw5
  cases hLe : L.isEmpty
  · have hpos : 0 < L.length := by
      cases L with
      | nil => cases hLe
      | cons m L => simp
    go_wp2
    go_loopw [4, 7] (fun ov iv wr => ∃ i : Nat, i ≤ L.length ∧ iv = .int .i64 (i : Int) ∧ Hid (((L.take i).foldl (dirSeg fs) []).length ≤ 800000 * i) ∧ Hid (SpSmall ((L.take i).foldl (dirSeg fs) [])) ∧ Hid (SpOwn wr (w.heap.size + 1) ov ((L.take i).foldl (dirSeg fs) [])) ∧ Hid (Below w1.heap.size w1 wr)) (fun _ iv _ => L.length - (intOf iv).toNat)
    case atStart => exact ⟨0, Nat.zero_le _, rfl, Nat.zero_le _, (fun x hx => by simp at hx), HO1, Below.refl _ _⟩
    case round =>
      obtain ⟨i, hi, rfl, HLN, HSM, HOW, HBL⟩ := hrel
      by_cases hlt : i < L.length
      · obtain ⟨m, hm⟩ : ∃ m, L[i]? = some m := ⟨_, List.getElem?_eq_getElem hlt⟩
        have hdm := HDS.out i m hm
        have HNX := Lib.hid (foldl_snoc (dirSeg fs) [] L hm)
        obtain ⟨f, l, en, pls, ok, Lh, hba, hsg, hht, hlL, hl9, hpl, htx, hat⟩ := segUni fs m hdm.2
        have HDE := Lib.hid (fun out => dirSeg_eq (fs := fs) (n := m) hba out)
        have HSG := Lib.hid hsg
        have HHT := Lib.hid hht
        have HTX := Lib.hid htx
        have HAT := Lib.hid hat
        have hts := show ((fileB fs (segNm (m : Int))).getD ⟨#[]⟩).size ≤ 20000 from by
          cases hf : fileB fs (segNm (m : Int)) with
          | none => decide
          | some t => exact fileB_small hdm.1 hf
        have HRES := Lib.hid (show fiRes (fileB fs (segNm (m : Int))) = .tuple #[.string ((fileB fs (segNm (m : Int))).getD ⟨#[]⟩), .bool (fileB fs (segNm (m : Int))).isSome] from by cases fileB fs (segNm (m : Int)) <;> rfl)
        generalize (fileB fs (segNm (m : Int))).getD ⟨#[]⟩ = t at hts HRES HSG
        generalize (fileB fs (segNm (m : Int))).isSome = ob at HRES
        have HLHL := Lib.hid hlL
        clear hba hsg hht htx hat hlL
        obtain ⟨b1, hA1, hc1⟩ := (HR1.out.below HBL.out).at_ (j := i) (x := (m : Int)) (by rw [List.getElem?_map, hm]; rfl)
        subst hA1
        have hm99 := hdm.2
        have HM := Lib.hid hm
        have HVD := Lib.hid ((HV1.out.go HBL.out).drew)
        have HBD : Hid (Below wr.heap.size wr wr.drew) := Below.drew (Below.refl _ _)
        have HC1 := Lib.hid hc1
        clear hm hdm hc1
        have hil : (i : Int) < (L.length : Int) := by omega
        go_wp2_with fail
        have HCD : Hid (wr.drew.cell? ⟨b1, i, none⟩ = some (.int .i64 (m : Int))) := HC1.out
        go_region_held3 (fun w' => w'.cell? ⟨w.heap.size, 0, none⟩ = some (.slice A fs.length c) ∧ w'.cell? ⟨b1, i, none⟩ = some (.int .i64 (m : Int)) ∧ Hid (Below wr.drew.heap.size wr.drew w')) (first | exact keepL HVD.out HCD.out (Below.refl _ _) | exact keepL HVD.out HCD.out hbA | exact keepL HVD.out HCD.out (hbA.trans (hbB.mono hbA.size))) (first | (go_at_call 77; refine (spec_SegNm_calls (m : Int) _).mono ?_; rintro e w2 ⟨rfl, hbA⟩) | (go_at_call 76; refine (spec_FileAt_calls (segNm (m : Int)) A c fs _ (HF.out.below (HVD.out.go hbA).from_)).mono ?_; rw [HRES.out]; rintro e w3 ⟨rfl, hbB⟩))
        obtain ⟨_, hc3, HBW⟩ := ‹_ ∧ _ ∧ Hid (Below wr.drew.heap.size wr.drew _)›
        have HB3 := Lib.hid (HBL.out.trans ((HBD.out.trans (HBW.out.mono HBD.out.size)).mono HBL.out.size))
        have HO3 := Lib.hid (HOW.out.below' (HBD.out.trans (HBW.out.mono HBD.out.size)))
        have HC3 := Lib.hid hc3
        clear hbA hbB
        go_wp2_with fail
        go_at_call 98
        refine (spec_ReadSegment_calls (m : Int) t _ (by omega)).mono ?_
        rintro e w4 hp
        obtain ⟨v4, rfl, ho4, hb4⟩ := HSG.out _ _ _ hp
        obtain ⟨A4, c4, hv4⟩ := ListC.form ho4
        rw [List.length_map] at hv4
        subst hv4
        have HO4 := Lib.hid ho4
        have HB4 := Lib.hid (HB3.out.trans (hb4.mono HB3.out.size))
        have HW4 := Lib.hid (HO3.out.below' hb4)
        have hc4 : w4.cell? ⟨b1, i, none⟩ = some (.int .i64 (m : Int)) := (hb4.cell (World.block_lt_of_cell? w3 _ HC3.out)).trans HC3.out
        have HC4 := Lib.hid hc4
        clear hp ho4 hb4 hc3
        go_wp2_with fail
        go_at_call 101
        refine (spec_HeadText_calls (m : Int) (f : Int) _).mono ?_
        rw [HHT.out]
        simp only [varRes]
        rintro e w5 ⟨rfl, hb5⟩
        have HB5 := Lib.hid (HB4.out.trans (hb5.mono HB4.out.size))
        have HW5 := Lib.hid (HW4.out.below' hb5)
        have HO5 := Lib.hid (ListC.below HO4.out hb5)
        have hc5 : w5.cell? ⟨b1, i, none⟩ = some (.int .i64 (m : Int)) := (hb5.cell (World.block_lt_of_cell? w4 _ hc4)).trans hc4
        have HC5 := Lib.hid hc5
        have hll : (Lh.length : Int) = (l : Int) := by rw [HLHL.out]
        clear hb5 hc4 hc5
        go_wp2
        generalize (L.take i).foldl (dirSeg fs) [] = D at HLN HSM HW5 HNX HOW HO3 HW4
        go_loopw [4, 16, 17] (fun ov av kv wr2 => ∃ k : Nat, k ≤ pls.length ∧ kv = .int .i64 (k : Int) ∧ av = .int .i64 (atOf l pls k : Int) ∧ Hid (((pls.take k).foldl (dirPl (m : Int)) D).length ≤ 800000 * i + 40 * k) ∧ Hid (SpSmall ((pls.take k).foldl (dirPl (m : Int)) D)) ∧ Hid (SpOwn wr2 (w.heap.size + 1) ov ((pls.take k).foldl (dirPl (m : Int)) D)) ∧ Hid (Below w5.heap.size w5 wr2)) (fun _ _ kv _ => pls.length - (intOf kv).toNat)
        case atStart => exact ⟨0, Nat.zero_le _, rfl, by rw [atOf_zero], HLN.out, HSM, HW5, Below.refl _ _⟩
        case round =>
          obtain ⟨k, hk, rfl, rfl, HLN2, HSM2, HOW2, HBL2⟩ := hrel
          rename World => w6
          by_cases hlt2 : k < pls.length
          · obtain ⟨⟨⟨q, cs⟩, a, z⟩, hp⟩ : ∃ p, pls[k]? = some p := ⟨_, List.getElem?_eq_getElem hlt2⟩
            have hz := HAT.out k _ hp
            obtain ⟨ha2, r, hbt, hrs, hzr⟩ := HTX.out _ (List.mem_of_getElem? hp)
            have hst := atOf_step (a := l) hp
            dsimp only at hz ha2 hbt hzr hst
            subst hz
            obtain ⟨g4, u, hA4, hcc, hu, hsm⟩ := ListC.at_ (ListC.below HO5.out HBL2.out) (fun _ => rfl) (j := k) (x := (q, cs)) (by rw [List.getElem?_map, hp]; rfl)
            subst hA4
            obtain ⟨Au, cu, hform, hrow⟩ := hu.row hsm
            dsimp only at hform hrow
            subst hform
            have k0 := hcc 0 (by omega)
            have k1 := hcc 1 (by omega)
            simp only [batVals, Nat.add_zero, List.getElem?_cons_zero, List.getElem?_cons_succ] at k0 k1
            have hcl : cs.length ≤ 40 := (batOk_parts (isBat_parts (show IsBat r (q, cs) from hbt)).1).2.1
            have HNX2 := Lib.hid (foldl_snoc (dirPl (m : Int)) D pls hp)
            have HAL : Hid (Below w6.heap.size w6 (w6.alloc (.cells #[.int .i64 q, .slice Au cs.length cu] 62))) := (Below.refl _ _).alloc (Nat.le_refl _) _
            have HBX : Hid ((w6.alloc (.cells #[.int .i64 q, .slice Au cs.length cu] 62)).heap[w6.heap.size]? = some (.cells #[.int .i64 q, .slice Au cs.length cu] 62 (0, 0))) := blk_new _ _
            have HCR := Lib.hid (hrow.below HAL.out)
            have HOW3 := Lib.hid (HOW2.out.below' HAL.out)
            have HC6 : Hid ((w6.alloc (.cells #[.int .i64 q, .slice Au cs.length cu] 62)).cell? ⟨b1, i, none⟩ = some (.int .i64 (m : Int))) := cell_new ((HBL2.out.cell (World.block_lt_of_cell? w5 _ HC5.out)).trans HC5.out) _
            have HB6 := Lib.hid (HBL2.out.trans (HAL.out.mono HBL2.out.size))
            have HBT := Lib.hid hbt
            have HST := Lib.hid hst
            have HZR := Lib.hid hzr
            have hrs1 := hrs
            clear hp hcc hu hsm hrow hbt hst hzr
            generalize (pls.take k).foldl (dirPl (m : Int)) D = E at HLN2 HSM2 HOW2 HNX2 HOW3
            go_wp2
            generalize w6.alloc (.cells #[.int .i64 q, .slice Au cs.length cu] 62) = wb at HAL HBX HCR HOW3 HC6 HB6 ⊢
            generalize w6.heap.size = gx at HBX ⊢
            clear HAL HOW2 HBL2 k0 k1
            go_loopw [4, 19] (fun ov jv wr3 => ∃ j : Nat, j ≤ cs.length ∧ jv = .int .i64 (j : Int) ∧ Hid (((cs.take j).foldl (dirCh (m : Int) (atOf l pls k : Int) q) E).length ≤ 800000 * i + 40 * k + j) ∧ Hid (SpSmall ((cs.take j).foldl (dirCh (m : Int) (atOf l pls k : Int) q) E)) ∧ Hid (SpOwn wr3 (w.heap.size + 1) ov ((cs.take j).foldl (dirCh (m : Int) (atOf l pls k : Int) q) E)) ∧ Hid (Below wb.heap.size wb wr3)) (fun _ jv _ => cs.length - (intOf jv).toNat)
            case atStart => exact ⟨0, Nat.zero_le _, rfl, HLN2.out, HSM2, HOW3, Below.refl _ _⟩
            case round =>
              obtain ⟨j, hj, rfl, HLN3, HSM3, HOW4, HBL3⟩ := hrel
              rename World => w7
              have HBX7 := Lib.hid (blk_below HBX.out HBL3.out)
              have x0 := blk_cell HBX7.out 0
              have x1 := blk_cell HBX7.out 1
              by_cases hlt3 : j < cs.length
              · obtain ⟨ad, y, hA, HY, hy1, _, hd0, _, hd2⟩ := (HCR.out.below HBL3.out).at_ hlt3
                cases hA
                obtain ⟨ck, cv, cg⟩ := y
                dsimp only at hy1 hd0 hd2
                have HNX3 := Lib.hid (foldl_snoc (dirCh (m : Int) (atOf l pls k : Int) q) E cs HY.out)
                generalize (cs.take j).foldl (dirCh (m : Int) (atOf l pls k : Int) q) E = G at HLN3 HSM3 HOW4 HNX3
                obtain ⟨A5, c5, hv5, hrow5⟩ := HOW4.out.row HSM3.out
                subst hv5
                have hgl : G.length ≤ 1000000000 := by have := HLN3.out; omega
                have HROW5 := Lib.hid hrow5
                have hjl : (j : Int) < (cs.length : Int) := by omega
                have hc7 : w7.cell? ⟨b1, i, none⟩ = some (.int .i64 (m : Int)) := (HBL3.out.cell (World.block_lt_of_cell? wb _ HC6.out)).trans HC6.out
                have H5 : Hid (w7.drew.cell? ⟨gx, 0, none⟩ = some (.int .i64 q) ∧ w7.drew.cell? ⟨gx, 1, none⟩ = some (.slice (some ad) cs.length cu) ∧ w7.drew.cell? (ad.add (j * 3)) = some (.string ck) ∧ w7.drew.cell? ⟨(ad.add (j * 3)).block, (ad.add (j * 3)).off + 2, none⟩ = some (.bool cg) ∧ w7.drew.cell? ⟨b1, i, none⟩ = some (.int .i64 (m : Int))) := ⟨x0, x1, hd0, hd2, hc7⟩
                have HSL : Hid (SpSmall (setB G (ck, (m : Int), (atOf l pls k : Int), q) cg)) := setB_small HSM3.out hy1
                have HSN : Hid ((setB G (ck, (m : Int), (atOf l pls k : Int), q) cg).length ≤ 800000 * i + 40 * k + (j + 1)) := by have h1 := setB_len G (ck, (m : Int), (atOf l pls k : Int), q) cg; have h2 := HLN3.out; rw [Hid]; omega
                have HNY : Hid ((cs.take (j + 1)).foldl (dirCh (m : Int) (atOf l pls k : Int) q) E = setB G (ck, (m : Int), (atOf l pls k : Int), q) cg) := HNX3.out
                have HD7 : Hid (Below w7.heap.size w7 w7.drew) := Below.drew (Below.refl _ _)
                have HWB : Hid (w.heap.size + 1 ≤ w7.drew.heap.size) := by have h1 := HB6.out.size; have h2 := HBL3.out.size; have h3 := HV1.out.size; have h4 := HB5.out.size; show w.heap.size + 1 ≤ w7.heap.size; omega
                clear hrow5 HNX3
                go_wp2_with fail
                go_still_tail 21, (by kernel_rfl)
                change wpList _ _ _ _ _ w7.drew
                go_wp2_with fail
                go_at_call 102
                refine (spec_l07Set_calls _ _ G _ _ _ _ _ _ (HROW5.out.below HD7.out) hgl).mono ?_
                rintro e w8 ⟨v8, rfl, ho8, hb8⟩
                have HB8 := Lib.hid hb8
                have HO8 : Hid (SpOwn w8 (w.heap.size + 1) v8 ((cs.take (j + 1)).foldl (dirCh (m : Int) (atOf l pls k : Int) q) E)) := by rw [Hid, HNY.out]; exact ho8.mono HWB.out
                have HL8 : Hid (((cs.take (j + 1)).foldl (dirCh (m : Int) (atOf l pls k : Int) q) E).length ≤ 800000 * i + 40 * k + (j + 1)) := by rw [Hid, HNY.out]; exact HSN.out
                have HM8 : Hid (SpSmall ((cs.take (j + 1)).foldl (dirCh (m : Int) (atOf l pls k : Int) q) E)) := by rw [Hid, HNY.out]; exact HSL.out
                have HBL8 := Lib.hid (HBL3.out.trans ((HD7.out.trans (HB8.out.mono HD7.out.size)).mono HBL3.out.size))
                clear ho8 hb8
                go_wp2
                go_roundw
                case rel => first | exact ⟨j + 1, by omega, by go_num, HL8, HM8, HO8, HBL8⟩ | (repeat (first | (refine ⟨?relx, rfl⟩; exact ⟨j + 1, by omega, by go_num, HL8, HM8, HO8, HBL8⟩) | (refine ⟨?relx, ?eqs⟩; (case eqs => (and_intros <;> rfl)); exact ⟨j + 1, by omega, by go_num, HL8, HM8, HO8, HBL8⟩) | apply Exists.intro))
                case measure => simp [intOf]; omega
              · obtain rfl : j = cs.length := by omega
                rw [List.take_length] at HOW4 HLN3 HSM3
                have hjl : ¬ (cs.length : Int) < (cs.length : Int) := by omega
                have HCR7 := Lib.hid (HCR.out.below HBL3.out)
                go_wp2_with fail
                go_at_call 37
                refine (spec_l07Size_calls q Au cu cs r _ HCR7.out HBT.out hrs1).mono ?_
                rintro e w8 ⟨rfl, hb8⟩
                have HB8 := Lib.hid (HBL3.out.trans (hb8.mono HBL3.out.size))
                have HNY : Hid ((pls.take (k + 1)).foldl (dirPl (m : Int)) D = cs.foldl (dirCh (m : Int) (atOf l pls k : Int) q) E) := HNX2.out
                have HO8 := Lib.hid (spOwn_eq HNY.out (HOW4.out.below' hb8))
                have HL8 : Hid (((pls.take (k + 1)).foldl (dirPl (m : Int)) D).length ≤ 800000 * i + 40 * (k + 1)) := by rw [Hid, HNY.out]; have := HLN3.out; omega
                have HM8 : Hid (SpSmall ((pls.take (k + 1)).foldl (dirPl (m : Int)) D)) := by rw [Hid, HNY.out]; exact HSM3.out
                have HBL8 := Lib.hid (HB6.out.trans (HB8.out.mono HB6.out.size))
                have hat9 : (atOf l pls k : Int) + (frameLen r : Int) = ((atOf l pls (k + 1) : Nat) : Int) := by rw [HST.out, HZR.out]; omega
                have hfl9 := frameLen_le hrs1.2
                clear hb8
                go_wp2
                go_roundw
                case rel => first | exact ⟨k + 1, by omega, by go_num, by go_num, HL8, HM8, HO8, HBL8⟩ | (repeat (first | (refine ⟨?relx, rfl⟩; exact ⟨k + 1, by omega, by go_num, by go_num, HL8, HM8, HO8, HBL8⟩) | (refine ⟨?relx, ?eqs⟩; (case eqs => (and_intros <;> rfl)); exact ⟨k + 1, by omega, by go_num, by go_num, HL8, HM8, HO8, HBL8⟩) | apply Exists.intro))
                case measure => simp [intOf]; omega
          · obtain rfl : k = pls.length := by omega
            rw [List.take_length] at HOW2 HLN2 HSM2
            have HNY : Hid ((L.take (i + 1)).foldl (dirSeg fs) [] = pls.foldl (dirPl (m : Int)) D) := by rw [Hid, HNX.out]; exact HDE.out D
            have HL8 : Hid (((L.take (i + 1)).foldl (dirSeg fs) []).length ≤ 800000 * (i + 1)) := by rw [Hid, HNY.out]; have := HLN2.out; omega
            have HM8 : Hid (SpSmall ((L.take (i + 1)).foldl (dirSeg fs) [])) := by rw [Hid, HNY.out]; exact HSM2.out
            have HBL8 := Lib.hid (HB5.out.trans (HBL2.out.mono HB5.out.size))
            have HO8 := Lib.hid (spOwn_eq HNY.out HOW2.out)
            have hkl : ¬ (pls.length : Int) < (pls.length : Int) := by omega
            go_wp2
            go_roundw
            case rel => first | exact ⟨i + 1, by omega, by go_num, HL8, HM8, HO8, HBL8⟩ | (repeat (first | (refine ⟨?relx, rfl⟩; exact ⟨i + 1, by omega, by go_num, HL8, HM8, HO8, HBL8⟩) | (refine ⟨?relx, ?eqs⟩; (case eqs => (and_intros <;> rfl)); exact ⟨i + 1, by omega, by go_num, HL8, HM8, HO8, HBL8⟩) | apply Exists.intro))
            case measure => simp [intOf]; omega
      · obtain rfl : i = L.length := by omega
        rw [List.take_length] at HOW
        have hnl : ¬ (L.length : Int) < (L.length : Int) := by omega
        have HVE := Lib.hid ((HV1.out.go HBL.out).from_)
        go_wp2
        go_ret2
        refine HDP.out _ _ ⟨_, ?_, HOW.out.mono (Nat.le_succ _), HVE.out⟩
        rw [hLe]
        rfl
  · obtain rfl : L = [] := List.isEmpty_iff.1 hLe
    go_wp2
    go_ret2
    exact HDP.out _ _ ⟨_, rfl, HO1.out.mono (Nat.le_succ _), HV1.out.from_⟩
end Go.Proofs.YtaacpdejpcbbbaaGreatDoor

namespace Go.Proofs.YtaacpdejpcbbbaaGreatDoor
set_option linter.unusedVariables false
set_option linter.unusedSimpArgs false
open Go.RowKit

theorem dirChs_len (n a q : Int) : ∀ (cs : List ChD) (out : List SpotD), (cs.foldl (dirCh n a q) out).length ≤ out.length + cs.length
  | [], out => by simp
  | c :: cs, out => by
    have h1 := dirChs_len n a q cs (dirCh n a q out c)
    have h2 := setB_len out (c.1, n, a, q) c.2.2
    rw [List.foldl_cons, List.length_cons]
    unfold dirCh at h1 ⊢
    omega
theorem dirPls_len (n : Int) : ∀ (pls : List PlD) (out : List SpotD), (∀ p ∈ pls, p.1.2.length ≤ 40) → (pls.foldl (dirPl n) out).length ≤ out.length + 40 * pls.length
  | [], out, _ => by simp
  | p :: pls, out, h => by
    have h1 := dirPls_len n pls (dirPl n out p) (fun x hx => h x (by simp [hx]))
    have h2 := dirChs_len n (p.2.1 : Int) p.1.1 p.1.2 out
    have h3 := h p (by simp)
    rw [List.foldl_cons, List.length_cons]
    unfold dirPl at h1 ⊢
    omega
theorem pl_parts {fs : List FiD} {m : Nat} (hm : m ≤ 99) : (batsAt fs m).length ≤ 20000 ∧ ∀ p ∈ batsAt fs m, p.1.2.length ≤ 40 ∧ ∀ c ∈ p.1.2, c.1.size ≤ 20 := by
  obtain ⟨f, l, en, pls, ok, Lh, hba, _, _, _, _, hpl, htx, _⟩ := segUni fs m hm
  rw [hba]
  refine ⟨hpl, fun p hp => ?_⟩
  obtain ⟨_, r, hb, _⟩ := htx p hp
  obtain ⟨_, h2, h3⟩ := batOk_parts (isBat_parts (show IsBat r p.1 from hb)).1
  exact ⟨h2, fun c hc => (h3 c hc).1⟩
theorem dirSegs_len (fs : List FiD) : ∀ (L : List Nat) (out : List SpotD), (∀ m ∈ L, m ≤ 99) → (L.foldl (dirSeg fs) out).length ≤ out.length + 800000 * L.length
  | [], out, _ => by simp
  | m :: L, out, h => by
    have h1 := dirSegs_len fs L (dirSeg fs out m) (fun x hx => h x (by simp [hx]))
    obtain ⟨h2, h3⟩ := pl_parts (fs := fs) (h m (by simp))
    have h4 := dirPls_len (m : Int) (batsAt fs m) out (fun p hp => (h3 p hp).1)
    rw [List.foldl_cons, List.length_cons]
    unfold dirSeg at h1 ⊢
    omega
theorem dirB_len (fs : List FiD) : (dirB fs).length ≤ 80000000 := by
  have h := dirSegs_len fs (segsB fs) [] (fun m hm => by have := (segs_lt hm).1; omega)
  have h2 := segs_len fs
  unfold dirB
  simp only [List.length_nil] at h
  omega
def Sp20 (ds : List SpotD) : Prop := ∀ x ∈ ds, x.1.size ≤ 20
theorem sp20_chs (n a q : Int) : ∀ (cs : List ChD) (out : List SpotD), Sp20 out → (∀ c ∈ cs, c.1.size ≤ 20) → Sp20 (cs.foldl (dirCh n a q) out)
  | [], _, h, _ => h
  | c :: cs, out, h, hc => by
    rw [List.foldl_cons]
    refine sp20_chs n a q cs _ (fun x hx => ?_) (fun y hy => hc y (by simp [hy]))
    unfold dirCh at hx
    rcases setB_mem hx with hx | rfl
    · exact h x hx
    · exact hc c (by simp)
theorem sp20_pls (n : Int) : ∀ (pls : List PlD) (out : List SpotD), Sp20 out → (∀ p ∈ pls, ∀ c ∈ p.1.2, c.1.size ≤ 20) → Sp20 (pls.foldl (dirPl n) out)
  | [], _, h, _ => h
  | p :: pls, out, h, hc => by
    rw [List.foldl_cons]
    exact sp20_pls n pls _ (sp20_chs n _ _ _ _ h (hc p (by simp))) fun y hy => hc y (by simp [hy])
theorem sp20_segs (fs : List FiD) : ∀ (L : List Nat) (out : List SpotD), Sp20 out → (∀ m ∈ L, m ≤ 99) → Sp20 (L.foldl (dirSeg fs) out)
  | [], _, h, _ => h
  | m :: L, out, h, hm => by
    rw [List.foldl_cons]
    exact sp20_segs fs L _ (sp20_pls _ _ _ h fun p hp => ((pl_parts (hm m (by simp))).2 p hp).2) fun x hx => hm x (by simp [hx])
theorem dirB_small (fs : List FiD) : Sp20 (dirB fs) := sp20_segs fs (segsB fs) [] (fun x hx => by simp at hx) fun m hm => by have := (segs_lt hm).1; omega
end Go.Proofs.YtaacpdejpcbbbaaGreatDoor
