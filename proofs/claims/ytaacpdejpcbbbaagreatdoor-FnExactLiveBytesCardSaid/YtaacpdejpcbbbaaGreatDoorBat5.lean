/- Batches: the reference's BatchText. -/
import Derived.Test.YtaacpdejpcbbbaaGreatDoorBat4
import Derived.Test.YtaacpdejpcbbbaaGreatDoorSh
import Derived.Deep.RegionHeldLaw
namespace Go.Proofs.YtaacpdejpcbbbaaGreatDoor
set_option linter.unusedVariables false
set_option linter.unusedSimpArgs false
open Go.RowKit
attribute [local go_sem] bs_size List.length_cons List.length_nil List.length_append

theorem bytes_cells (w : World) (s : ByteArray) : ∀ j u, (vB (ub s))[j]? = some u → (Lib.bytesWorld w 5 s).cell? ((⟨w.heap.size, 0, none⟩ : Addr).add j) = some u := by
  intro j u hu
  have hj : j < s.size := by
    have := (List.getElem?_eq_some_iff.1 hu).1
    rw [vB_length, ub_length] at this
    exact this
  rw [add_plain, Lib.bytesWorld_cell w 5 s j hj]
  have h' : j < s.data.toList.length := by rw [Array.length_toList]; exact hj
  simp only [vB, ub, List.getElem?_map, List.getElem?_eq_getElem h', Option.map_some, Option.some.injEq] at hu
  rw [← hu, List.getD_eq_getElem?_getD, List.getElem?_eq_getElem h']
  rfl
theorem keep2b {w w' : World} {a b : Addr} {x y : Value} (h1 : w.cell? a = some x) (h2 : w.cell? b = some y) (hb : Below w.heap.size w w') : w'.cell? a = some x ∧ w'.cell? b = some y ∧ Hid (Below w.heap.size w w') :=
  ⟨(hb.cell (World.block_lt_of_cell? w _ h1)).trans h1, (hb.cell (World.block_lt_of_cell? w _ h2)).trans h2, hb⟩
theorem bl_bytes {a W : World} (h : Below a.heap.size a W) (s : ByteArray) : Below a.heap.size a (Lib.bytesWorld W 5 s) := bytes_below h h.size s
theorem bat_start {w1 w' : World} (u : Nat) (cs : List ChD) (hb : Below w1.heap.size w1 w') (h30 : (batHead ((u : Int), cs)).length ≤ 30) :
    OwnB (Lib.bytesWorld w' 5 ((⟨#[66]⟩ : ByteArray) ++ bs (varBytes u) ++ bs (varBytes cs.length))) w1.heap.size (.slice (some ⟨w'.heap.size, 0, none⟩) (1 + (varBytes u).length + (varBytes cs.length).length) (grownCap w' (1 + (varBytes u).length + (varBytes cs.length).length) 0 5)) (batHead ((u : Int), cs)) := by
  have e : (⟨#[66]⟩ : ByteArray) ++ bs (varBytes u) ++ bs (varBytes cs.length) = bs (batHead ((u : Int), cs)) := by
    have e0 : (⟨#[66]⟩ : ByteArray) = bs [66] := rfl
    rw [e0, bs_append, bs_append, batHead]
    simp
  have z : 1 + (varBytes u).length + (varBytes cs.length).length = (bs (batHead ((u : Int), cs))).size := by
    rw [bs_size, batHead]
    simp
    omega
  rw [e, z]
  have := ownB_bytes w' w1.heap.size (bs (batHead ((u : Int), cs))) hb.size (by rw [bs_size]; unfold maxLen; omega)
  rw [ub_bs] at this
  exact this
theorem step_appB {ops : Array Oper} {o : Oper} {a : Act} {w : World} {K : Act → World → Prop} {Q : Exit → Act → World → Prop} {E : Prop} (hgd : o.guard = none) (sl x : Operand)
    (ho : o.op = .call { callee := .builtin .append, args := #[sl, x], argTypes := #[141, 141] }) (base : Nat) (v : Value) (l : List UInt8) (hs : a.eval sl = v) (hown : OwnB w base v l)
    (ad : Addr) (c : Nat) (k : List UInt8) (hx : a.eval x = .slice (some ad) k.length c) (hnews : ∀ j u, (vB k)[j]? = some u → w.cell? (ad.add j) = some u) (hbytes : l.length + k.length ≤ 140737488355328) (hbase : base ≤ w.heap.size)
    (hK : ∀ v' w', OwnB w' base v' (l ++ k) → w.grownBy w' v.ownBlock → K (a.put o.dst v') w') :
    if Region.wanted o (yielded ops a.tmps) = true then Oper.wp Tryz.prog o a w K Q else E := by
  have hw : Region.wanted o (yielded ops a.tmps) = true := by simp [Region.wanted, hgd]
  rw [if_pos hw]
  obtain ⟨v', w', hr, h2, h3⟩ := run_append_B w base o.type v l hown ad c k hnews hbytes hbase
  unfold Oper.wp execOp
  simp only [ho, resolve, invoke, builtin, Sem.run_bind, Sem.run_pure, Result.andThen_ok, List.map_toArray, List.map_cons, List.map_nil, hs, hx, hr]
  exact hK _ _ h2 h3
theorem keepG {w w' : World} {g : Nat} {r : Option Nat} {x y z : Value} (h1 : w.cell? ⟨g, 0, none⟩ = some x) (h2 : w.cell? ⟨g, 1, none⟩ = some y) (h3 : w.cell? ⟨g, 2, none⟩ = some z) (hne : ∀ k, r = some k → k ≠ g) (hg : w.grownBy w' r) : w'.cell? ⟨g, 0, none⟩ = some x ∧ w'.cell? ⟨g, 1, none⟩ = some y ∧ w'.cell? ⟨g, 2, none⟩ = some z ∧ Hid (w.grownBy w' r) :=
  ⟨hg.cell h1 (fun e => hne g e.symm rfl), hg.cell h2 (fun e => hne g e.symm rfl), hg.cell h3 (fun e => hne g e.symm rfl), hg⟩
set_option maxHeartbeats 4000000 in
set_option maxRecDepth 100000 in
theorem spec_BatchText_calls (q : Int) (A : Option Addr) (c : Nat) (cs : List ChD) (w : World) (h : ChRow w A c cs) :
    Calls Tryz.prog 80 #[.agg #[.int .i64 q, .slice A cs.length c]] w fun e w' => e = .returned (varRes (batText (q, cs))) ∧ Below w.heap.size w w' := by
  have hl := h.len
  have hal : Below w.heap.size w (w.alloc (.cells #[.int .i64 q, .slice A cs.length c] 62)) := (Below.refl _ _).alloc (Nat.le_refl _) _
  have HR := Lib.hid (h.below hal)
  have HB := Lib.hid hal
  clear h hal
  cases hok : batOkB (q, cs)
  · have HE : Hid (batText (q, cs) = none) := by rw [Hid, batText, hok]; simp
    have HK := Lib.hid hok
    clear hok
    go_enter Tryz.func80, Tryz.ntmps80
    go_wp2_with fail
    go_at_call 118
    refine (spec_BatchOk_calls q A c cs _ HR.out).mono ?_
    rw [HK.out]
    rintro e w1 ⟨rfl, hb⟩
    go_wp2
    go_ret2
    exact ⟨by rw [HE.out]; rfl, HB.out.trans (hb.mono HB.out.size)⟩
  · obtain ⟨hq, hn40, hx⟩ := batOk_parts hok
    dsimp only at hq hn40 hx
    have HX := Lib.hid hx
    have HK := Lib.hid hok
    have HHL := Lib.hid (batHead_len (d := (q, cs)) hq hn40)
    clear hok hx
    obtain ⟨u, rfl⟩ := Int.eq_ofNat_of_zero_le hq.1
    have kb := run_bytes
    go_enter Tryz.func80, Tryz.ntmps80
    go_wp2_with fail
    go_at_call 118
    refine (spec_BatchOk_calls u A c cs _ HR.out).mono ?_
    rw [HK.out]
    rintro e w1 ⟨rfl, hb⟩
    have HB1 := Lib.hid (HB.out.trans (hb.mono HB.out.size))
    have HR1 := Lib.hid (HR.out.below hb)
    have b0 : w1.cell? ⟨w.heap.size, 0, none⟩ = some (.int .i64 (u : Int)) := (hb.cell (by simp)).trans (blk_cell (blk_new w _) 0)
    have b1 : w1.cell? ⟨w.heap.size, 1, none⟩ = some (.slice A cs.length c) := (hb.cell (by simp)).trans (blk_cell (blk_new w _) 1)
    have HB1' := Lib.hid b1
    clear hb
    have hvu := var_len (n := u) (by omega)
    have hvn := var_len (n := cs.length) (by omega)
    have s1 : (9223372036854775807 < 1 + (varBytes u).length) = False := eq_false (by omega)
    have s2 : (9223372036854775807 < 1 + (varBytes u).length + (varBytes cs.length).length) = False := eq_false (by omega)
    have HH0 : Hid (Below w1.heap.size w1 w1.drew) := Below.drew (Below.refl _ _)
    have hu9 : u ≤ 9223372036854775807 := by omega
    go_wp2
    go_region_held_law (fun w' => w'.cell? ⟨w.heap.size, 0, none⟩ = some (.int .i64 (u : Int)) ∧ w'.cell? ⟨w.heap.size, 1, none⟩ = some (.slice A cs.length c) ∧ Hid (Below w1.heap.size w1 w')) (first | exact keep2b b0 b1 HH0.out | (refine keep2b b0 b1 ?_; repeat (first | exact Below.refl _ _ | refine bl_call ?_ (by assumption) | refine bl_drew ?_ | refine bl_alloc ?_ _ | refine bl_bytes ?_ _))) (first | (go_simp; go_at_call 119; refine (spec_l01Var_calls _ _ (by assumption)).mono ?_; rintro e w' ⟨rfl, hb⟩))
    have HS := ‹_ ∧ _ ∧ Hid (Below w1.heap.size w1 _)›
    obtain ⟨_, b1', HBX⟩ := HS
    have HBL : Hid (Below w1.heap.size w1 w') := (by repeat (first | exact Below.refl _ _ | refine bl_call ?_ (by assumption) | refine bl_drew ?_))
    have HOB := Lib.hid (bat_start u cs HBL.out HHL.out)
    have HB1'' := Lib.hid b1'
    clear b0 b1 s1 s2 hvu hvn b1'
    generalize Lib.bytesWorld _ 5 _ = W2 at HOB HBX HB1'' ⊢
    have HR2 := Lib.hid (HR1.out.below HBX.out)
    have HB2 := Lib.hid (HB1.out.trans (HBX.out.mono HB1.out.size))
    generalize Value.slice (some ⟨_, 0, none⟩) (1 + (varBytes u).length + (varBytes cs.length).length) _ = v0 at HOB ⊢
    go_wp2
    go_loopw [4, 5] (fun av iv wr => ∃ (i : Nat) (v0 : Value), i ≤ cs.length ∧ iv = .int .i64 (i : Int) ∧ v0 = av ∧ Hid (OwnB wr w1.heap.size v0 (batHead ((u : Int), cs) ++ chsBytes (cs.take i))) ∧ Hid (Below w1.heap.size w1 wr)) (fun _ iv _ => cs.length - (intOf iv).toNat)
    case atStart => exact ⟨0, _, Nat.zero_le _, rfl, rfl, by have h := HOB.out; simpa [Hid, chsBytes] using h, HBX⟩
    case round =>
      obtain ⟨i, v0, hi, rfl, rfl, HO, HBE⟩ := hrel
      have b1 : wr.cell? ⟨w.heap.size, 1, none⟩ = some (.slice A cs.length c) := (HBE.out.cell (World.block_lt_of_cell? w1 _ HB1'.out)).trans HB1'.out
      have hlb : (batHead ((u : Int), cs) ++ chsBytes (cs.take i)).length ≤ 90000 := by
        have h1 := chsBytes_len (cs.take i) fun x hx => HX.out x (List.mem_of_mem_take hx)
        have h2 : (cs.take i).length ≤ 40 := by rw [List.length_take]; omega
        have h3 := HHL.out
        rw [List.length_append]
        omega
      by_cases hlt : i < cs.length
      · obtain ⟨ad, x, hA, HXI, hz1, hz2, hc0, hc1, hc2⟩ := (HR1.out.below HBE.out).at_ hlt
        cases hA
        have hsm := HX.out x (List.mem_of_getElem? HXI.out)
        have HSN := Lib.hid (chsBytes_snoc HXI.out)
        obtain ⟨k, v, g⟩ := x
        dsimp only at hz1 hz2 hc0 hc1 hc2 hsm
        have hk20 : k.size ≤ 1125899906842624 := by omega
        have hv20 : v.size ≤ 1125899906842624 := by omega
        have hk := shortB_len k (by omega)
        have hv := shortB_len v (by omega)
        have hli : (i : Int) < (cs.length : Int) := by omega
        have HCT := Lib.hid (ch_text k v g)
        have f0 : (wr.alloc (.cells #[.string k, .string v, .bool g] 121)).cell? ⟨wr.heap.size, 0, none⟩ = some (.string k) := blk_cell (blk_new wr _) 0
        have f1 : (wr.alloc (.cells #[.string k, .string v, .bool g] 121)).cell? ⟨wr.heap.size, 1, none⟩ = some (.string v) := blk_cell (blk_new wr _) 1
        have f2 : (wr.alloc (.cells #[.string k, .string v, .bool g] 121)).cell? ⟨wr.heap.size, 2, none⟩ = some (.bool g) := blk_cell (blk_new wr _) 2
        have HBA : Hid (Below w1.heap.size w1 (wr.alloc (.cells #[.string k, .string v, .bool g] 121))) := HBE.out.alloc HBE.out.size _
        have HOA := Lib.hid (HO.out.alloc (.cells #[.string k, .string v, .bool g] 121))
        have HNE := Lib.hid (fun b hb => Nat.ne_of_lt (HO.out.lt b hb).2)
        have s1 : (9223372036854775807 < (shortB (ub k)).length + 1) = False := eq_false (by omega)
        have s2 : (9223372036854775807 < (shortB (ub k)).length + 1 + (shortB (ub v)).length) = False := eq_false (by omega)
        have HKL : Hid ((chBytes (k, v, g)).length = (shortB (ub k)).length + 1 + (shortB (ub v)).length) := by rw [Hid, chBytes]; simp; omega
        have HNW : Hid (∀ (w' : World) j u, (vB (chBytes (k, v, g)))[j]? = some u → (Lib.bytesWorld w' 5 ((bs (shortB (ub k)) ++ bs [flagB g]) ++ bs (shortB (ub v)))).cell? ((⟨w'.heap.size, 0, none⟩ : Addr).add j) = some u) := fun w' => by rw [HCT.out]; have h := bytes_cells w' (bs (chBytes (k, v, g))); rw [ub_bs] at h; exact h
        go_wp2_with fail
        generalize hWA : wr.alloc (.cells #[.string k, .string v, .bool g] 121) = WA at f0 f1 f2 HBA HOA ⊢
        clear hWA hc0 hc1 hc2
        have HBC : Hid (Below WA.heap.size WA WA.drew) := Below.drew (Below.refl _ _)
        go_region_held_law (fun w' => w'.cell? ⟨wr.heap.size, 0, none⟩ = some (.string k) ∧ w'.cell? ⟨wr.heap.size, 1, none⟩ = some (.string v) ∧ w'.cell? ⟨wr.heap.size, 2, none⟩ = some (.bool g) ∧ Hid (WA.grownBy w' v0.ownBlock)) (first | exact keepG f0 f1 f2 HNE.out (grown_of_below HBC.out) | exact keepG f0 f1 f2 HNE.out (grown_of_below (bl_bytes HBC.out _)) | exact keepG f0 f1 f2 HNE.out ((grown_of_below (bl_bytes HBC.out _)).trans hgrow4)) (first | (go_simp; go_at_call 120; refine (spec_l05Short_calls _ _ (by assumption)).mono ?_; rintro e w' ⟨rfl, hb⟩; have HBC := Lib.hid (bl_call HBC.out hb)) | (go_simp; go_at_call 121; refine (spec_l05Flag_calls g _).mono ?_; rintro e w' ⟨rfl, rfl⟩) | (refine step_appB (by rfl) (.tmp 32) (.tmp 44) (by rfl) w1.heap.size v0 _ (by simp [Act.eval, Act.put]) (HOA.out.below (bl_bytes HBC.out _)) ⟨w'.heap.size, 0, none⟩ (grownCap w' ((shortB (ub k)).length + 1 + (shortB (ub v)).length) 0 5) (chBytes (k, v, g)) (by rw [HKL.out]; simp [Act.eval, Act.put]) (HNW.out w') (by have := HKL.out; omega) (Nat.le_trans HBA.out.size (bl_bytes HBC.out _).size) ?_; intro v4 w4 hown4 hgrow4))
        have HON : Hid (OwnB w4 w1.heap.size v4 (batHead ((u : Int), cs) ++ chsBytes (cs.take (i + 1)))) := by rw [Hid, HSN.out, ← List.append_assoc]; exact hown4
        have hbw := HBA.out.trans ((bl_bytes HBC.out ((bs (shortB (ub k)) ++ bs [flagB g]) ++ bs (shortB (ub v)))).mono HBA.out.size)
        have HBN : Hid (Below w1.heap.size w1 w4) := hbw.grown hgrow4 hbw.size fun b hb => (HOA.out.lt b hb).1
        clear hown4 hgrow4 hbw
        go_wp2
        go_roundw
        case rel => first | exact ⟨i + 1, v4, by omega, by go_num, rfl, HON, HBN⟩ | (repeat (first | (refine ⟨?relx, rfl⟩; exact ⟨i + 1, v4, by omega, by go_num, rfl, HON, HBN⟩) | (refine ⟨?relx, ?eqs⟩; (case eqs => (and_intros <;> rfl)); exact ⟨i + 1, v4, by omega, by go_num, rfl, HON, HBN⟩) | apply Exists.intro))
        case measure => simp [intOf]; omega
      · obtain rfl : i = cs.length := by omega
        have HOE : Hid (OwnB wr w1.heap.size v0 (batBytes ((u : Int), cs))) := by have h := HO.out; rw [List.take_length] at h; exact h
        have HBF := Lib.hid (HB1.out.trans (HBE.out.mono HB1.out.size))
        have HBT : Hid (batText ((u : Int), cs) = if (batBytes ((u : Int), cs)).length ≤ 9000 then some (batBytes ((u : Int), cs)) else none) := by rw [Hid, batText, HK.out]; simp
        clear hlb
        generalize batBytes ((u : Int), cs) = BB at HOE HBT
        obtain ⟨A', c', rfl⟩ := HOE.out.slice
        have hcv := HOE.out.string
        have hni : ¬ (cs.length : Int) < (cs.length : Int) := by omega
        by_cases hbig : 9000 < BB.length
        · have HE : Hid (batText ((u : Int), cs) = none) := by rw [Hid, HBT.out, if_neg (by omega)]
          have hbi : (9000 : Int) < (BB.length : Int) := by omega
          go_wp2
          go_ret2
          exact ⟨by rw [HE.out]; rfl, HBF.out⟩
        · have HE : Hid (batText ((u : Int), cs) = some BB) := by rw [Hid, HBT.out, if_pos (by omega)]
          have hbi : ¬ (9000 : Int) < (BB.length : Int) := by omega
          go_wp2
          go_ret2
          exact ⟨by rw [HE.out]; rfl, HBF.out⟩
end Go.Proofs.YtaacpdejpcbbbaaGreatDoor
