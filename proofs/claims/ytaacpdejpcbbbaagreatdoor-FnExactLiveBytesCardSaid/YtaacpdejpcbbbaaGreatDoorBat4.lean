/- Batches: the program's BatchText. -/
import Derived.Test.YtaacpdejpcbbbaaGreatDoorBat3
import Derived.Test.YtaacpdejpcbbbaaGreatDoorBl
import Derived.Deep.RegionHeld3
namespace Go.Proofs.YtaacpdejpcbbbaaGreatDoor
set_option linter.unusedVariables false
set_option linter.unusedSimpArgs false
open Go.RowKit
attribute [local go_sem] bs_size List.length_cons List.length_nil List.length_append

theorem chsBytes_snoc {cs : List ChD} {i : Nat} {x : ChD} (h : cs[i]? = some x) : chsBytes (cs.take (i + 1)) = chsBytes (cs.take i) ++ chBytes x := by
  rw [take_snoc h]
  simp [chsBytes]
theorem chBytes_len {x : ChD} (h : x.1.size ≤ 20 ∧ x.2.1.size ≤ 2000) : (chBytes x).length ≤ 2100 := by
  have h1 := shortB_len x.1 (by omega)
  have h2 := shortB_len x.2.1 (by omega)
  unfold chBytes
  rw [List.length_append, List.length_cons]
  omega
theorem chsBytes_len : ∀ (cs : List ChD), (∀ x ∈ cs, x.1.size ≤ 20 ∧ x.2.1.size ≤ 2000) → (chsBytes cs).length ≤ 2100 * cs.length
  | [], _ => by simp [chsBytes]
  | x :: cs, h => by
    have h1 := chBytes_len (h x (by simp))
    have h2 := chsBytes_len cs fun y hy => h y (by simp [hy])
    have e : chsBytes (x :: cs) = chBytes x ++ chsBytes cs := by simp [chsBytes]
    rw [e, List.length_append, List.length_cons]
    omega
theorem batHead_len {d : BatD} (h : 0 ≤ d.1 ∧ d.1 ≤ 1000000000) (hn : d.2.length ≤ 40) : (batHead d).length ≤ 30 := by
  have h1 := var_len (n := d.1.toNat) (by omega)
  have h2 := var_len (n := d.2.length) (by omega)
  unfold batHead
  rw [List.length_cons, List.length_append]
  omega
theorem keep3 {w w' : World} {a b d : Addr} {x y z : Value} (h1 : w.cell? a = some x) (h2 : w.cell? b = some y) (h3 : w.cell? d = some z) (hb : Below w.heap.size w w') : w'.cell? a = some x ∧ w'.cell? b = some y ∧ w'.cell? d = some z ∧ Hid (Below w.heap.size w w') :=
  ⟨(hb.cell (World.block_lt_of_cell? w _ h1)).trans h1, (hb.cell (World.block_lt_of_cell? w _ h2)).trans h2, (hb.cell (World.block_lt_of_cell? w _ h3)).trans h3, hb⟩
theorem ch_text (k v : ByteArray) (g : Bool) : (bs (shortB (ub k)) ++ bs [flagB g]) ++ bs (shortB (ub v)) = bs (chBytes (k, v, g)) := by
  rw [bs_append, bs_append, chBytes]
  simp
theorem bat_head (u n : Nat) (cs : List ChD) (h : cs.length = n) : (⟨#[66]⟩ : ByteArray) ++ bs (varsB [u, n]) = bs (batHead ((u : Int), cs)) := by
  subst h
  have e : (⟨#[66]⟩ : ByteArray) = bs [66] := rfl
  rw [e, bs_append, batHead]
  simp [varsB]
set_option maxHeartbeats 4000000 in
set_option maxRecDepth 100000 in
theorem impl_BatchText_calls (q : Int) (A : Option Addr) (c : Nat) (cs : List ChD) (w : World) (h : ChRow w A c cs) :
    Calls Tryz.prog 140 #[.agg #[.int .i64 q, .slice A cs.length c]] w fun e w' => e = .returned (varRes (batText (q, cs))) ∧ Below w.heap.size w w' := by
  have hl := h.len
  have hal : Below w.heap.size w (w.alloc (.cells #[.int .i64 q, .slice A cs.length c] 62)) := (Below.refl _ _).alloc (Nat.le_refl _) _
  have HR := Lib.hid (h.below hal)
  have HB := Lib.hid hal
  clear h hal
  cases hok : batOkB (q, cs)
  · have HE : Hid (batText (q, cs) = none) := by rw [Hid, batText, hok]; simp
    have HK := Lib.hid hok
    clear hok
    go_enter Tryz.func140, Tryz.ntmps140
    go_wp2_with fail
    go_at_call 173
    refine (impl_BatchOk_calls q A c cs _ HR.out).mono ?_
    rw [HK.out]
    rintro e w1 ⟨rfl, hb⟩
    go_wp2
    go_ret2
    exact ⟨by rw [HE.out]; rfl, HB.out.trans (hb.mono HB.out.size)⟩
  · obtain ⟨hq, hn40, hx⟩ := batOk_parts hok
    dsimp only at hq hn40 hx
    have HX := Lib.hid hx
    have HK := Lib.hid hok
    have HHL := Lib.hid (batHead_len (d := (q, cs)) hq hn40)
    clear hok hx
    obtain ⟨u, rfl⟩ := Int.eq_ofNat_of_zero_le hq.1
    go_enter Tryz.func140, Tryz.ntmps140
    go_wp2_with fail
    go_at_call 173
    refine (impl_BatchOk_calls u A c cs _ HR.out).mono ?_
    rw [HK.out]
    rintro e w1 ⟨rfl, hb⟩
    have HB1 := Lib.hid (HB.out.trans (hb.mono HB.out.size))
    have HR1 := Lib.hid (HR.out.below hb)
    have b0 : w1.cell? ⟨w.heap.size, 0, none⟩ = some (.int .i64 (u : Int)) := (hb.cell (by simp)).trans (blk_cell (blk_new w _) 0)
    have b1 : w1.cell? ⟨w.heap.size, 1, none⟩ = some (.slice A cs.length c) := (hb.cell (by simp)).trans (blk_cell (blk_new w _) 1)
    have HB1' := Lib.hid b1
    clear hb
    go_wp2_with fail
    go_at_call 159
    refine (impl_vars_calls _ 2 [u, cs.length] _ (natRow_two w1 u cs.length) (by simp; omega) (by simp)).mono ?_
    rintro e w2 ⟨rfl, hb⟩
    have hal2 : Below w1.heap.size w1 w2 := ((Below.refl w1.heap.size w1).alloc (Nat.le_refl _) _).trans (hb.mono (by simp))
    have HB2 := Lib.hid (HB1.out.trans (hal2.mono HB1.out.size))
    have HR2 := Lib.hid (HR1.out.below hal2)
    have b1 : w2.cell? ⟨w.heap.size, 1, none⟩ = some (.slice A cs.length c) := (hal2.cell (World.block_lt_of_cell? w1 _ HB1'.out)).trans HB1'.out
    have hvl : (varsB [u, cs.length]).length ≤ 18 := varsB_len [u, cs.length] (by simp; omega)
    clear hb hal2 b0
    go_wp2
    have HST := Lib.hid (bat_head u cs.length cs rfl)
    go_loopw [6, 27] (fun v iv wr => ∃ (i : Nat) (S : ByteArray), i ≤ cs.length ∧ iv = .int .i64 (i : Int) ∧ v = .string S ∧ Hid (S = bs (batHead ((u : Int), cs) ++ chsBytes (cs.take i))) ∧ Hid (Below w2.heap.size w2 wr)) (fun _ iv _ => cs.length - (intOf iv).toNat)
    case atStart => exact ⟨0, _, Nat.zero_le _, rfl, rfl, by rw [Hid, HST.out]; simp [chsBytes], Below.refl _ _⟩
    case round =>
      obtain ⟨i, S, hi, rfl, rfl, HS, HBE⟩ := hrel
      have hS : S.size ≤ 90000 := by
        have h1 := chsBytes_len (cs.take i) fun x hx => HX.out x (List.mem_of_mem_take hx)
        have h2 : (cs.take i).length ≤ 40 := by rw [List.length_take]; omega
        have h3 := HHL.out
        rw [HS.out, bs_size, List.length_append]
        omega
      by_cases hlt : i < cs.length
      · obtain ⟨ad, x, hA, HXI, hz1, hz2, hc0, hc1, hc2⟩ := (HR2.out.below HBE.out).at_ hlt
        cases hA
        have hsm := HX.out x (List.mem_of_getElem? HXI.out)
        have HSN := Lib.hid (chsBytes_snoc HXI.out)
        obtain ⟨k, v, g⟩ := x
        dsimp only at hz1 hz2 hc0 hc1 hc2 hsm
        have hk20 : k.size ≤ 20000 := by omega
        have hv20 : v.size ≤ 20000 := by omega
        have hk := shortB_len k (by omega)
        have hv := shortB_len v (by omega)
        have HCT := Lib.hid (ch_text k v g)
        have f0 : (wr.alloc (.cells #[.string k, .string v, .bool g] 121)).cell? ⟨wr.heap.size, 0, none⟩ = some (.string k) := blk_cell (blk_new wr _) 0
        have f1 : (wr.alloc (.cells #[.string k, .string v, .bool g] 121)).cell? ⟨wr.heap.size, 1, none⟩ = some (.string v) := blk_cell (blk_new wr _) 1
        have f2 : (wr.alloc (.cells #[.string k, .string v, .bool g] 121)).cell? ⟨wr.heap.size, 2, none⟩ = some (.bool g) := blk_cell (blk_new wr _) 2
        have HBA : Hid (Below w2.heap.size w2 (wr.alloc (.cells #[.string k, .string v, .bool g] 121))) := HBE.out.alloc HBE.out.size _
        have s1 : (9223372036854775807 < (shortB (ub k)).length + 1) = False := eq_false (by omega)
        have s2 : (9223372036854775807 < (shortB (ub k)).length + 1 + (shortB (ub v)).length) = False := eq_false (by omega)
        have s3 : (9223372036854775807 < S.size + ((shortB (ub k)).length + 1 + (shortB (ub v)).length)) = False := eq_false (by omega)
        go_wp2_with fail
        generalize hWA : wr.alloc (.cells #[.string k, .string v, .bool g] 121) = WA at f0 f1 f2 HBA ⊢
        clear hWA hc0 hc1 hc2
        have HH0 : Hid (Below WA.heap.size WA WA.drew) := Below.drew (Below.refl _ _)
        go_region_held3 (fun w' => w'.cell? ⟨wr.heap.size, 0, none⟩ = some (.string k) ∧ w'.cell? ⟨wr.heap.size, 1, none⟩ = some (.string v) ∧ w'.cell? ⟨wr.heap.size, 2, none⟩ = some (.bool g) ∧ Hid (Below WA.heap.size WA w')) (first | exact keep3 f0 f1 f2 HH0.out | (refine keep3 f0 f1 f2 ?_; repeat (first | exact Below.refl _ _ | refine bl_call ?_ (by assumption) | refine bl_drew ?_ | refine bl_alloc ?_ _))) (first | (go_at_call 174; refine (impl_short_calls _ _ (by assumption)).mono ?_; rintro e w' ⟨rfl, hb⟩) | (go_at_call 175; refine (impl_flag_calls g _).mono ?_; rintro e w' ⟨rfl, rfl⟩))
        have HKB := And.right (And.right (And.right ‹_ ∧ _ ∧ _ ∧ Hid (Below WA.heap.size WA _)›))
        have HNS : Hid (S ++ (bs (shortB (ub k)) ++ bs [flagB g] ++ bs (shortB (ub v))) = bs (batHead ((u : Int), cs) ++ chsBytes (cs.take (i + 1)))) := by rw [Hid, HCT.out, HS.out, bs_append, HSN.out, List.append_assoc]
        have HBN : Hid (Below w2.heap.size w2 _) := HBA.out.trans (HKB.out.mono HBA.out.size)
        go_wp2
        go_roundw
        case rel => first | exact ⟨i + 1, _, by omega, by go_num, rfl, HNS, HBN⟩ | (repeat (first | (refine ⟨?relx, rfl⟩; exact ⟨i + 1, _, by omega, by go_num, rfl, HNS, HBN⟩) | (refine ⟨?relx, ?eqs⟩; (case eqs => (and_intros <;> rfl)); exact ⟨i + 1, _, by omega, by go_num, rfl, HNS, HBN⟩) | apply Exists.intro))
        case measure => simp [intOf]; omega
      · obtain rfl : i = cs.length := by omega
        have HSB : Hid (S = bs (batBytes ((u : Int), cs))) := by have h := HS.out; rw [List.take_length] at h; exact h
        have hsz : S.size = (batBytes ((u : Int), cs)).length := by rw [HSB.out, bs_size]
        have HSZ := Lib.hid hsz
        have HBF := Lib.hid (HB2.out.trans (HBE.out.mono HB2.out.size))
        clear hsz
        by_cases hbig : 9000 < S.size
        · have HE : Hid (batText ((u : Int), cs) = none) := by rw [Hid, batText, if_neg]; rintro ⟨_, h⟩; have := HSZ.out; omega
          have hbi : (9000 : Int) < (S.size : Int) := by omega
          go_wp2
          go_ret2
          exact ⟨by rw [HE.out]; rfl, HBF.out⟩
        · have HE : Hid (batText ((u : Int), cs) = some (batBytes ((u : Int), cs))) := by rw [Hid, batText, if_pos ⟨HK.out, by have := HSZ.out; omega⟩]
          have hbi : ¬ (9000 : Int) < (S.size : Int) := by omega
          go_wp2
          go_ret2
          exact ⟨by rw [HE.out, HSB.out]; rfl, HBF.out⟩
end Go.Proofs.YtaacpdejpcbbbaaGreatDoor
