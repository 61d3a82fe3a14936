/- Directories: the reference's HintText. -/
import Derived.Test.YtekhfplbhcfdmaaHReadI
import Derived.Test.YtekhfplbhcfdmaaVal3
import Derived.Deep.RegionHeldLaw
namespace Go.Proofs.Ytekhfplbhcfdmaa
set_option linter.unusedVariables false
set_option linter.unusedSimpArgs false
open Go.RowKit
attribute [local go_sem] bs_size List.length_cons List.length_nil List.length_append

theorem spsBytes_snoc {ds : List SpotD} {i : Nat} {x : SpotD} (h : ds[i]? = some x) : spsBytes (ds.take (i + 1)) = spsBytes (ds.take i) ++ spBytes x := by
  rw [take_snoc h]
  simp [spsBytes]
theorem hbytes_cells (w : World) (s : ByteArray) : ∀ j u, (vB (ub s))[j]? = some u → (Lib.bytesWorld w 5 s).cell? ((⟨w.heap.size, 0, none⟩ : Addr).add j) = some u := by
  intro j u hu
  have hj : j < s.size := by
    have := (List.getElem?_eq_some_iff.1 hu).1
    rw [vB_length, ub_length] at this
    exact this
  rw [add_plain, Lib.bytesWorld_cell w 5 s j hj]
  have h' : j < s.data.toList.length := by rw [Array.length_toList]; exact hj
  simp only [vB, ub, List.getElem?_map, List.getElem?_eq_getElem h', Option.map_some, Option.some.injEq] at hu
  rw [← hu, List.getD_eq_getElem?_getD, List.getElem?_eq_getElem h']
  rfl
theorem hb_call {a W W' : World} (h : Below a.heap.size a W) (hb : Below W.heap.size W W') : Below a.heap.size a W' := h.trans (hb.mono h.size)
theorem hb_bytes {a W : World} (h : Below a.heap.size a W) (s : ByteArray) : Below a.heap.size a (Lib.bytesWorld W 5 s) := bytes_below h h.size s
theorem step_appH {ops : Array Oper} {o : Oper} {a : Act} {w : World} {K : Act → World → Prop} {Q : Exit → Act → World → Prop} {E : Prop} (hgd : o.guard = none) (sl x : Operand)
    (ho : o.op = .call { callee := .builtin .append, args := #[sl, x], argTypes := #[35, 35] }) (base : Nat) (v : Value) (l : List UInt8) (hs : a.eval sl = v) (hown : OwnB w base v l)
    (ad : Addr) (c : Nat) (k : List UInt8) (hx : a.eval x = .slice (some ad) k.length c) (hnews : ∀ j u, (vB k)[j]? = some u → w.cell? (ad.add j) = some u) (hbytes : l.length + k.length ≤ 140737488355328) (hbase : base ≤ w.heap.size)
    (hK : ∀ v' w', OwnB w' base v' (l ++ k) → w.grownBy w' v.ownBlock → K (a.put o.dst v') w') :
    if Region.wanted o (yielded ops a.tmps) = true then Oper.wp Try.prog o a w K Q else E := by
  have hw : Region.wanted o (yielded ops a.tmps) = true := by simp [Region.wanted, hgd]
  rw [if_pos hw]
  obtain ⟨v', w', hr, h2, h3⟩ := run_append_B w base o.type v l hown ad c k hnews hbytes hbase
  unfold Oper.wp execOp
  simp only [ho, resolve, invoke, builtin, Sem.run_bind, Sem.run_pure, Result.andThen_ok, List.map_toArray, List.map_cons, List.map_nil, hs, hx, hr]
  exact hK _ _ h2 h3
theorem keepH {w w' : World} {g : Nat} {r : Option Nat} {x y z u : Value} (h1 : w.cell? ⟨g, 0, none⟩ = some x) (h2 : w.cell? ⟨g, 1, none⟩ = some y) (h3 : w.cell? ⟨g, 2, none⟩ = some z) (h4 : w.cell? ⟨g, 3, none⟩ = some u) (hne : ∀ k, r = some k → k ≠ g) (hg : w.grownBy w' r) : w'.cell? ⟨g, 0, none⟩ = some x ∧ w'.cell? ⟨g, 1, none⟩ = some y ∧ w'.cell? ⟨g, 2, none⟩ = some z ∧ w'.cell? ⟨g, 3, none⟩ = some u ∧ Hid (w.grownBy w' r) :=
  ⟨hg.cell h1 (fun e => hne g e.symm rfl), hg.cell h2 (fun e => hne g e.symm rfl), hg.cell h3 (fun e => hne g e.symm rfl), hg.cell h4 (fun e => hne g e.symm rfl), hg⟩
theorem sp_text (k : ByteArray) (g p q : Nat) : bs (shortB (ub k)) ++ bs (varBytes g) ++ bs (varBytes p) ++ bs (varBytes q) = bs (spBytes (k, (g : Int), (p : Int), (q : Int))) := by
  rw [bs_append, bs_append, bs_append, spBytes]
  simp [List.append_assoc]
set_option maxHeartbeats 4000000 in
set_option maxRecDepth 100000 in
theorem spec_HintText_calls (A : Option Addr) (c : Nat) (ds : List SpotD) (w : World) (h : SpRow w A c ds) :
    Calls Try.prog 42 #[.slice A ds.length c] w fun e w' => e = .returned (varRes (hintText ds)) ∧ Below w.heap.size w w' := by
  have hl := h.len
  have HR := Lib.hid h
  clear h
  cases hok : dirOkB ds
  · have HE : Hid (hintText ds = none) := by rw [Hid, hintText, hok]; simp
    have HK := Lib.hid hok
    clear hok
    go_enter Try.func42, Try.ntmps42
    go_wp2_with fail
    go_at_call 87
    refine (spec_DirOk_calls A c ds _ HR.out).mono ?_
    rw [HK.out]
    rintro e w1 ⟨rfl, hb⟩
    go_wp2
    go_ret2
    exact ⟨by rw [HE.out]; rfl, hb⟩
  · obtain ⟨hn, hx⟩ := dirOk_parts hok
    have HX := Lib.hid hx
    have HK := Lib.hid hok
    have HIL := Lib.hid (hintInner_len hok)
    have HE : Hid (hintText ds = some (hintInner ds ++ sum4 (hintInner ds))) := by rw [Hid, hintText, if_pos hok]
    clear hok hx
    have kb := run_bytes
    go_enter Try.func42, Try.ntmps42
    go_wp2_with fail
    go_at_call 87
    refine (spec_DirOk_calls A c ds _ HR.out).mono ?_
    rw [HK.out]
    rintro e w1 ⟨rfl, hb⟩
    have HB1 := Lib.hid hb
    have HR1 := Lib.hid (HR.out.below hb)
    clear hb
    have hvn := var_len (n := ds.length) (by omega)
    go_wp2_with fail
    go_at_call 76
    refine (spec_l01Var_calls _ _ (by omega)).mono ?_
    rintro e w2 ⟨rfl, hb⟩
    have HB2 := Lib.hid hb
    clear hb
    have HBX : Hid (Below w1.heap.size w1 (Lib.bytesWorld w2 5 (bs (varBytes ds.length)))) := hb_bytes HB2.out _
    have HOB : Hid (OwnB (Lib.bytesWorld w2 5 (bs (varBytes ds.length))) w1.heap.size (.slice (some ⟨w2.heap.size, 0, none⟩) (varBytes ds.length).length (grownCap w2 (varBytes ds.length).length 0 5)) (varBytes ds.length)) := by
      have h := ownB_bytes w2 w1.heap.size (bs (varBytes ds.length)) HB2.out.size (by rw [bs_size]; unfold maxLen; omega)
      rw [ub_bs, bs_size] at h
      exact h
    go_wp2
    generalize Lib.bytesWorld w2 5 (bs (varBytes ds.length)) = W2 at HOB HBX ⊢
    generalize Value.slice (some ⟨w2.heap.size, 0, none⟩) (varBytes ds.length).length (grownCap w2 (varBytes ds.length).length 0 5) = v0 at HOB ⊢
    go_loopw [4, 5] (fun av iv wr => ∃ (i : Nat) (v0 : Value), i ≤ ds.length ∧ iv = .int .i64 (i : Int) ∧ v0 = av ∧ Hid (OwnB wr w1.heap.size v0 (varBytes ds.length ++ spsBytes (ds.take i))) ∧ Hid (Below w1.heap.size w1 wr)) (fun _ iv _ => ds.length - (intOf iv).toNat)
    case atStart => exact ⟨0, _, Nat.zero_le _, rfl, rfl, by have h := HOB.out; simpa [Hid, spsBytes] using h, HBX⟩
    case round =>
      obtain ⟨i, v0, hi, rfl, rfl, HO, HBE⟩ := hrel
      have hlb : (varBytes ds.length ++ spsBytes (ds.take i)).length ≤ 90000 := by
        have h1 := spsBytes_len (ds.take i) fun x hx => HX.out x (List.mem_of_mem_take hx)
        have h2 : (ds.take i).length ≤ 200 := by rw [List.length_take]; omega
        rw [List.length_append]
        omega
      by_cases hlt : i < ds.length
      · obtain ⟨ad, x, hA, HXI, hz1, hc0, hc1, hc2, hc3⟩ := (HR1.out.below HBE.out).at_ hlt
        cases hA
        have hsm := spOk_parts (HX.out x (List.mem_of_getElem? HXI.out))
        have HSL := Lib.hid (spBytes_len (HX.out x (List.mem_of_getElem? HXI.out)))
        have HSN := Lib.hid (spsBytes_snoc HXI.out)
        obtain ⟨k, g, p, q⟩ := x
        dsimp only at hz1 hc0 hc1 hc2 hc3 hsm
        obtain ⟨hsk, hsg, hsp, hsq⟩ := hsm
        obtain ⟨g, rfl⟩ := Int.eq_ofNat_of_zero_le hsg.1
        obtain ⟨p, rfl⟩ := Int.eq_ofNat_of_zero_le hsp.1
        obtain ⟨q, rfl⟩ := Int.eq_ofNat_of_zero_le hsq.1
        have hk20 : k.size ≤ 1125899906842624 := by omega
        have hg20 : g ≤ 9223372036854775807 := by omega
        have hp20 : p ≤ 9223372036854775807 := by omega
        have hq20 : q ≤ 9223372036854775807 := by omega
        have hk := shortB_len k (by omega)
        have hg := var_len hg20
        have hp := var_len hp20
        have hq := var_len hq20
        have hli : (i : Int) < (ds.length : Int) := by omega
        have HCT := Lib.hid (sp_text k g p q)
        have f0 : (wr.alloc (.cells #[.string k, .int .i64 (g : Int), .int .i64 (p : Int), .int .i64 (q : Int)] 61)).cell? ⟨wr.heap.size, 0, none⟩ = some (.string k) := blk_cell (blk_new wr _) 0
        have f1 : (wr.alloc (.cells #[.string k, .int .i64 (g : Int), .int .i64 (p : Int), .int .i64 (q : Int)] 61)).cell? ⟨wr.heap.size, 1, none⟩ = some (.int .i64 (g : Int)) := blk_cell (blk_new wr _) 1
        have f2 : (wr.alloc (.cells #[.string k, .int .i64 (g : Int), .int .i64 (p : Int), .int .i64 (q : Int)] 61)).cell? ⟨wr.heap.size, 2, none⟩ = some (.int .i64 (p : Int)) := blk_cell (blk_new wr _) 2
        have f3 : (wr.alloc (.cells #[.string k, .int .i64 (g : Int), .int .i64 (p : Int), .int .i64 (q : Int)] 61)).cell? ⟨wr.heap.size, 3, none⟩ = some (.int .i64 (q : Int)) := blk_cell (blk_new wr _) 3
        have HBA : Hid (Below w1.heap.size w1 (wr.alloc (.cells #[.string k, .int .i64 (g : Int), .int .i64 (p : Int), .int .i64 (q : Int)] 61))) := HBE.out.alloc HBE.out.size _
        have HOA := Lib.hid (HO.out.alloc (.cells #[.string k, .int .i64 (g : Int), .int .i64 (p : Int), .int .i64 (q : Int)] 61))
        have HNE := Lib.hid (fun b hb => Nat.ne_of_lt (HO.out.lt b hb).2)
        have s1 : (9223372036854775807 < (shortB (ub k)).length + (varBytes g).length) = False := eq_false (by omega)
        have s2 : (9223372036854775807 < (shortB (ub k)).length + (varBytes g).length + (varBytes p).length) = False := eq_false (by omega)
        have s3 : (9223372036854775807 < (shortB (ub k)).length + (varBytes g).length + (varBytes p).length + (varBytes q).length) = False := eq_false (by omega)
        have HKL : Hid ((spBytes (k, (g : Int), (p : Int), (q : Int))).length = (shortB (ub k)).length + (varBytes g).length + (varBytes p).length + (varBytes q).length) := by rw [Hid, spBytes]; simp; omega
        have HNW : Hid (∀ (w' : World) j u, (vB (spBytes (k, (g : Int), (p : Int), (q : Int))))[j]? = some u → (Lib.bytesWorld w' 5 (bs (shortB (ub k)) ++ bs (varBytes g) ++ bs (varBytes p) ++ bs (varBytes q))).cell? ((⟨w'.heap.size, 0, none⟩ : Addr).add j) = some u) := fun w' => by rw [HCT.out]; have h := hbytes_cells w' (bs (spBytes (k, (g : Int), (p : Int), (q : Int)))); rw [ub_bs] at h; exact h
        go_wp2_with fail
        generalize hWA : wr.alloc (.cells #[.string k, .int .i64 (g : Int), .int .i64 (p : Int), .int .i64 (q : Int)] 61) = WA at f0 f1 f2 f3 HBA HOA ⊢
        clear hWA hc0 hc1 hc2 hc3
        have HBC : Hid (Below WA.heap.size WA WA.drew) := Below.drew (Below.refl _ _)
        go_region_held_law (fun w' => w'.cell? ⟨wr.heap.size, 0, none⟩ = some (.string k) ∧ w'.cell? ⟨wr.heap.size, 1, none⟩ = some (.int .i64 (g : Int)) ∧ w'.cell? ⟨wr.heap.size, 2, none⟩ = some (.int .i64 (p : Int)) ∧ w'.cell? ⟨wr.heap.size, 3, none⟩ = some (.int .i64 (q : Int)) ∧ Hid (WA.grownBy w' v0.ownBlock)) (first | exact keepH f0 f1 f2 f3 HNE.out (grown_of_below HBC.out) | exact keepH f0 f1 f2 f3 HNE.out (grown_of_below (hb_bytes HBC.out _)) | exact keepH f0 f1 f2 f3 HNE.out ((grown_of_below (hb_bytes HBC.out _)).trans hgrow4)) (first | (go_simp; go_at_call 77; refine (spec_l05Short_calls _ _ (by assumption)).mono ?_; rintro e w' ⟨rfl, hb⟩; have HBC := Lib.hid (hb_call HBC.out hb)) | (go_simp; go_at_call 76; refine (spec_l01Var_calls _ _ (by assumption)).mono ?_; rintro e w' ⟨rfl, hb⟩; have HBC := Lib.hid (hb_call HBC.out hb)) | (refine step_appH (by rfl) (.tmp 24) (.tmp 40) (by rfl) w1.heap.size v0 _ (by simp [Act.eval, Act.put]) (HOA.out.below (hb_bytes HBC.out _)) ⟨w'.heap.size, 0, none⟩ (grownCap w' ((shortB (ub k)).length + (varBytes g).length + (varBytes p).length + (varBytes q).length) 0 5) (spBytes (k, (g : Int), (p : Int), (q : Int))) (by rw [HKL.out]; simp [Act.eval, Act.put]) (HNW.out w') (by have := HSL.out; omega) (Nat.le_trans HBA.out.size (hb_bytes HBC.out _).size) ?_; intro v4 w4 hown4 hgrow4))
        have HON : Hid (OwnB w4 w1.heap.size v4 (varBytes ds.length ++ spsBytes (ds.take (i + 1)))) := by rw [Hid, HSN.out, ← List.append_assoc]; exact hown4
        have hbw := HBA.out.trans ((hb_bytes HBC.out (bs (shortB (ub k)) ++ bs (varBytes g) ++ bs (varBytes p) ++ bs (varBytes q))).mono HBA.out.size)
        have HBN : Hid (Below w1.heap.size w1 w4) := hbw.grown hgrow4 hbw.size fun b hb => (HOA.out.lt b hb).1
        clear hown4 hgrow4 hbw
        go_wp2
        go_roundw
        case rel => first | exact ⟨i + 1, v4, by omega, by go_num, rfl, HON, HBN⟩ | (repeat (first | (refine ⟨?relx, rfl⟩; exact ⟨i + 1, v4, by omega, by go_num, rfl, HON, HBN⟩) | (refine ⟨?relx, ?eqs⟩; (case eqs => (and_intros <;> rfl)); exact ⟨i + 1, v4, by omega, by go_num, rfl, HON, HBN⟩) | apply Exists.intro))
        case measure => simp [intOf]; omega
      · obtain rfl : i = ds.length := by omega
        have HOE : Hid (OwnB wr w1.heap.size v0 (hintInner ds)) := by have h := HO.out; rw [List.take_length] at h; exact h
        have HBF := Lib.hid (HB1.out.trans (HBE.out.mono HB1.out.size))
        have hil := HIL.out
        have HS : Hid (sealedB (ub (bs (hintInner ds))) = some (hintInner ds ++ sum4 (hintInner ds))) := by rw [Hid, ub_bs, sealedB_yes (by omega)]
        clear hlb
        generalize hintInner ds ++ sum4 (hintInner ds) = RR at HE HS
        generalize hintInner ds = BB at HOE HS hil
        obtain ⟨A', c', rfl⟩ := HOE.out.slice
        have hcv := HOE.out.string
        have hni : ¬ (ds.length : Int) < (ds.length : Int) := by omega
        go_wp2_with fail
        go_at_call 88
        refine (spec_Sealed_calls (bs BB) _ (by rw [bs_size]; omega)).mono ?_
        rw [HS.out]
        rintro e w5 ⟨rfl, hb⟩
        simp only [varRes]
        go_wp2
        go_ret2
        exact ⟨by rw [HE.out]; rfl, hb_call HBF.out hb⟩
end Go.Proofs.Ytekhfplbhcfdmaa
