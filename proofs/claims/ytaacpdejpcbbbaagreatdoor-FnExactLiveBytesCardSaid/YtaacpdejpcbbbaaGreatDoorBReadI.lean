/- The program's ReadBatch: what it reads (readBatI), and in what memory. -/
import Derived.Test.YtaacpdejpcbbbaaGreatDoorBEach
import Derived.Test.YtaacpdejpcbbbaaGreatDoorBat4
namespace Go.Proofs.YtaacpdejpcbbbaaGreatDoor
set_option linter.unusedVariables false
set_option linter.unusedSimpArgs false
open Go.RowKit
attribute [local go_sem] bs_size List.length_cons List.length_nil List.length_append

/-- A row of changes of the call's own, made from block B on. -/
def ChOwn (w : World) (B : Nat) (v : Value) (cs : List ChD) : Prop := w.ownsRow B 121 3 v cs.length (chFlat cs)
theorem ChOwn.row {w : World} {B : Nat} {v : Value} {cs : List ChD} (h : ChOwn w B v cs) (hs : ∀ x ∈ cs, x.1.size ≤ 9223372036854775807 ∧ x.2.1.size ≤ 9223372036854775807) : ∃ A c, v = .slice A cs.length c ∧ ChRow w A c cs := by
  rcases own_cells (f := chVals) (m := 3) (fun _ => rfl) h with ⟨rfl, rfl⟩ | ⟨g, cap, rfl, _, hg, hn, hm, hc⟩
  · exact ⟨none, 0, rfl, by simp, by simp, hs, fun h0 => by simp at h0⟩
  · refine ⟨_, cap, rfl, hn, hm, hs, fun _ => ⟨_, rfl, hg, fun j x hx => ?_⟩⟩
    rw [add_plain]
    exact ⟨hc j x 0 hx (by omega), hc j x 1 hx (by omega), hc j x 2 hx (by omega)⟩
theorem ChOwn.below {w w' : World} {B : Nat} {v : Value} {cs : List ChD} (h : ChOwn w B v cs) (hb : Below w.heap.size w w') : ChOwn w' B v cs := by
  refine World.ownsRow.kept h (grown_of_below (r := none) hb) ?_
  cases v.ownBlock
  · exact .inl rfl
  · exact .inr (by simp)
/-- What ReadBatch leaves. -/
def BatPost (w : World) (o : Option BatD) (e : Ending) (w' : World) : Prop := Below w.heap.size w w' ∧ match o with
  | none => e = .returned (.tuple #[.agg #[.int .i64 0, .slice none 0 0], .bool false])
  | some (q, cs) => ∃ v, e = .returned (.tuple #[.agg #[.int .i64 q, v], .bool true]) ∧ ChOwn w' w.heap.size v cs
abbrev zBat : Obj := .cells #[.int .i64 0, .slice none 0 0] 62
theorem info_bat : (Tryz.prog.info? 62).map (·.size) = some 2 := by kernel_rfl
theorem und_bat : ∃ fs, Tryz.prog.underlying 62 = some (.struct fs) := ⟨_, Tryz.underlying62⟩
/-- The last step: the result's block is written, and read. -/
theorem bat_end {fn : Func} {tr : TypeId} {os : List (Nat × Obj)} {s : ByteArray} {gv gr : Nat} {q : Int} {cs : List ChD} {v : Value} {a : Nat} {bad : Bool} {W w : World} {o : Option BatD} {A B : Value} {b : Bool} {tmps : Array Value}
    (hf : fn.results = #[.cell 2 62, .tmp 3]) (h : GSt tr 62 121 3 (W.heap.size + 1) gv gr os s [.int .i64 q] cs.length (chFlat cs) v a bad (W.alloc zBat) w) (h2 : tmps.getD 2 undef = .pointer (some ⟨W.heap.size, 0, none⟩)) (h3 : tmps.getD 3 undef = .bool b)
    (hp : Below W.heap.size W (set2 w W.heap.size A B) → ChOwn (set2 w W.heap.size A B) W.heap.size v cs → BatPost W o (.returned (.tuple #[.agg #[A, B], .bool b])) (set2 w W.heap.size A B)) :
    bodyPost Tryz.prog fn (BatPost W o) .ret ⟨tmps, []⟩ (set2 w W.heap.size A B) := by
  obtain ⟨fs, hu⟩ := und_bat
  have hg := set2_grown w W.heap.size A B
  have hres : w.heap[W.heap.size]? = some zBat := (h.bel.block W.heap.size (by omega)).trans (blk_new W _)
  have hbel : Below W.heap.size W w := ((Below.refl W.heap.size W).alloc (Nat.le_refl _) zBat).trans (h.bel.mono (by omega))
  refine bodyPost_ret (v := .tuple #[.agg #[A, B], .bool b]) ?_ rfl (hp (gr_below hbel hg hbel.size (fun k e => by cases e; omega)) ?_)
  · rw [gres_row2 hf tmps _ W.heap.size 62 #[A, B] (0, 0) (.struct fs) h2 (set2_blk hres) hu rfl info_bat, h3]
  · refine own_low (h.own.kept hg ?_) (Nat.le_succ _)
    cases hv : v.ownBlock with
    | none => exact .inl rfl
    | some g => exact .inr (fun e => by have h1 := (h.own.lt g hv).1; have h2 := Option.some.inj e; omega)
theorem bst_start (s : ByteArray) (w w1 : World) (a1 : Nat) (b1 : Bool) (q : Int) (hr : RdAt 160 w1 (w.heap.size + 1) s a1 b1)
    (hg : (((w.alloc zBat).alloc (.cells #[.string s, .int .i64 0, .bool false] 160)).alloc (ptrObj 158 (w.heap.size + 1))).grownBy w1 (some (w.heap.size + 1))) :
    BSt (w.heap.size + 1) (w.heap.size + 1 + 1) w1.heap.size (w.heap.size + 1) s q [] (.slice none 0 0) a1 b1 (w.alloc zBat) (w1.alloc (.cells #[.int .i64 q, .slice none 0 0] 62)) := by
  have hs := hg.size
  simp at hs
  have hb : Below (w.heap.size + 1) (w.alloc zBat) (((w.alloc zBat).alloc (.cells #[.string s, .int .i64 0, .bool false] 160)).alloc (ptrObj 158 (w.heap.size + 1))) :=
    ((Below.refl _ _).alloc (by simp) _).alloc (by simp) _
  refine ⟨(gr_below hb hg (by simp) (fun k e => by cases e; omega)).alloc (by omega) _, blk_new w1 _, gr_old hr _, World.ownsRow_nil _ _ _ _, fun p hp => ?_, by simp [Value.ownBlock], by omega⟩
  obtain rfl := List.mem_singleton.1 hp
  refine ⟨by show w.heap.size + 1 ≤ w.heap.size + 1 + 1; omega, gr_old ?_ _, by show w.heap.size + 1 + 1 ≠ w1.heap.size; omega, by show w.heap.size + 1 + 1 ≠ w.heap.size + 1; omega, by simp [Value.ownBlock]⟩
  rw [hg.block (w.heap.size + 1 + 1) (by simp) (by simp)]
  have := blk_new ((w.alloc zBat).alloc (.cells #[.string s, .int .i64 0, .bool false] 160)) (ptrObj 158 (w.heap.size + 1))
  simpa using this
theorem bst_res {tr te tv : TypeId} {sz : Nat} {os : List (Nat × Obj)} {s : ByteArray} {gv gr n : Nat} {pre fl : List Value} {v : Value} {a : Nat} {bad : Bool} {W w : World} {o : Obj} (h : GSt tr tv te sz (W.heap.size + 1) gv gr os s pre n fl v a bad (W.alloc o) w) : w.heap[W.heap.size]? = some o := (h.bel.block W.heap.size (by omega)).trans (blk_new W _)
theorem biX_small (s : ByteArray) : ∀ x ∈ (biX s).1, x.1.size ≤ 9223372036854775807 ∧ x.2.1.size ≤ 9223372036854775807 := items_all (fun a => by
  have h1 := hText_len s a false
  have h2 := hText_len s (btG s a false).2.1 (btG s a false).2.2
  show (bs (btK s a false).1).size ≤ _ ∧ (bs (btV s a false).1).size ≤ _
  rw [bs_size, bs_size]
  unfold btK btV
  omega) _ _ _
theorem readBatI_no {s : ByteArray} (h : ¬ ((biL s).1 = 66 ∧ (biX s).2.2 = false ∧ batText (biD s) = some (ub s))) : readBatI s = none := if_neg h
theorem readBatI_yes {s : ByteArray} (h1 : (biL s).1 = 66) (h2 : (biX s).2.2 = false) (h3 : batText (biD s) = some (ub s)) : readBatI s = some (((biQ s).1 : Int), (biX s).1) := if_pos ⟨h1, h2, h3⟩
set_option maxHeartbeats 4000000 in
set_option maxRecDepth 100000 in
theorem impl_ReadBatch_calls (s : ByteArray) (w : World) (hs : s.size ≤ 1099511627776) : Calls Tryz.prog 91 #[.string s] w (BatPost w (readBatI s)) := by
  have hmf : ∀ (fn : Fn) (first cap : Array Value) (w : World), (Instr.makeFunc fn first cap).run Tryz.prog w = .ok (.func fn first cap) w := fun _ _ _ _ => rfl
  go_enter Tryz.func91, Tryz.ntmps91
  have HRD : Hid (RdAt 160 (((w.alloc zBat).alloc (.cells #[.string s, .int .i64 0, .bool false] 160)).alloc (ptrObj 158 (w.heap.size + 1))) (w.heap.size + 1) s 0 false) := by
    refine gr_old ?_ _
    have := blk_new (w.alloc zBat) (.cells #[.string s, .int .i64 0, .bool false] 160)
    simpa using this
  have a1 : (biL s).2.1 ≤ s.size := (rByte_le s false (Nat.zero_le _)).1
  have a2 : (biQ s).2.1 ≤ s.size := (rNum_le s _ _ a1).2.1
  have a3 : (biN s).2.1 ≤ s.size := (rNum_le s _ _ a2).2.1
  have a4 : (biX s).2.1 ≤ s.size := items_le (f := chI s) (fun a h => chI_le s h) _ _ _ a3
  go_wp2_with fail
  go_at_call 126
  refine (impl_byte_calls _ s 0 false _ HRD.out (Nat.zero_le _) (by omega)).mono ?_
  rw [show rByte s 0 false = biL s from rfl]
  rintro e w1 ⟨rfl, hr, hg⟩
  have cp0 : w1.cell? ⟨w.heap.size + 1 + 1, 0, none⟩ = some (.pointer (some ⟨w.heap.size + 1, 0, none⟩)) := by
    refine hg.cell ?_ (by simp)
    have := blk_cell (blk_new ((w.alloc zBat).alloc (.cells #[.string s, .int .i64 0, .bool false] 160)) (ptrObj 158 (w.heap.size + 1))) 0
    simpa using this
  have HRD1 := Lib.hid hr
  have HG1 := Lib.hid hg
  clear hr hg
  go_wp2_with fail
  go_at_call 127
  refine (impl_num_calls _ s _ _ _ HRD1.out a1 (by omega)).mono ?_
  rw [show rNum s (biL s).2.1 (biL s).2.2 = biQ s from rfl]
  rintro e w2 ⟨rfl, hr, hg⟩
  have HV1 := Lib.hid (bst_start s w w2 _ _ (biQ s).1 hr (gr_trans HG1.out hg))
  clear hr hg cp0
  have cp1 : (w2.alloc (.cells #[.int .i64 ((biQ s).1 : Int), .slice none 0 0] 62)).cell? ⟨w.heap.size + 1 + 1, 0, none⟩ = some (.pointer (some ⟨w.heap.size + 1, 0, none⟩)) := blk_cell (HV1.out.at_ (List.mem_cons_self ..)) 0
  go_wp2_with fail
  go_at_call 137
  refine (impl_each_ReadBatch_calls _ _ _ _ s _ _ _ _ _ _ HV1.out a2 hs).mono ?_
  rw [show rNum s (biQ s).2.1 (biQ s).2.2 = biN s from rfl, show itemsBy (chI s) (biN s).1 (biN s).2.1 (biN s).2.2 = biX s from rfl]
  rintro e w3 ⟨rfl, v, hv⟩
  obtain ⟨A, c, rfl, hrow⟩ := ChOwn.row hv.own (biX_small s)
  have HV2 := Lib.hid hv
  have HRW := Lib.hid hrow
  have x0 : w3.cell? ⟨w2.heap.size, 0, none⟩ = some (.int .i64 ((biQ s).1 : Int)) := HV2.out.cv 0
  have x1 : w3.cell? ⟨w2.heap.size, 1, none⟩ = some (.slice A (biX s).1.length c) := HV2.out.cv 1
  clear hv hrow cp1
  by_cases hgood : (biL s).1 = 66 ∧ (biX s).2.2 = false ∧ batText (biD s) = some (ub s)
  · have HE := Lib.hid (readBatI_yes hgood.1 hgood.2.1 hgood.2.2)
    have HO : Hid (batText (((biQ s).1 : Int), (biX s).1) = some (ub s)) := hgood.2.2
    have hl : (((biL s).1 : Int) != 66) = false := by rw [hgood.1]; rfl
    have hbf := Lib.hid hgood.2.1
    have hq : ((bs (ub s)).toList == s.toList) = true := by rw [bs_ub]; simp
    clear hgood
    go_wp2_with fail
    go_at_call 140
    refine (impl_BatchText_calls _ A c _ _ HRW.out).mono ?_
    rw [HO.out]
    rintro e w4 ⟨rfl, hb⟩
    simp only [varRes]
    have HV3 := Lib.hid (HV2.out.below hb)
    have y0 := gr_frozen (bst_res HV3.out) 0
    have y1 := gr_frozen (bst_res HV3.out) 1
    have z0 : w4.cell? ⟨w.heap.size, 0, none⟩ = some (.int .i64 0) := blk_cell (bst_res HV3.out) 0
    have z1 : w4.cell? ⟨w.heap.size, 1, none⟩ = some (.slice none 0 0) := blk_cell (bst_res HV3.out) 1
    have q0 : w4.cell? ⟨w2.heap.size, 0, none⟩ = some (.int .i64 ((biQ s).1 : Int)) := HV3.out.cv 0
    have q1 : w4.cell? ⟨w2.heap.size, 1, none⟩ = some (.slice A (biX s).1.length c) := HV3.out.cv 1
    have cp : w4.cell? ⟨w.heap.size + 1 + 1, 0, none⟩ = some (.pointer (some ⟨w.heap.size + 1, 0, none⟩)) := blk_cell (HV3.out.at_ (List.mem_cons_self ..)) 0
    have xb : w4.cell? ⟨w.heap.size + 1, 2, none⟩ = some (.bool false) := by have := HV3.out.rd.c2; rw [hbf.out] at this; exact this
    clear hb x0 x1
    go_wp2
    exact bat_end (A := .int .i64 ((biQ s).1 : Int)) (B := .slice A (biX s).1.length c) rfl HV3.out rfl rfl (fun hb ho => ⟨hb, by rw [HE.out]; exact ⟨_, rfl, ho⟩⟩)
  · have HE := Lib.hid (readBatI_no hgood)
    by_cases hlet : (biL s).1 = 66
    · have hl : (((biL s).1 : Int) != 66) = false := by rw [hlet]; rfl
      cases hbd : (biX s).2.2
      · have hbf := Lib.hid hbd
        cases ho : batText (biD s)
        · have HO := Lib.hid ho
          clear hgood hlet hbd ho
          go_wp2_with fail
          go_at_call 140
          refine (impl_BatchText_calls _ A c _ _ HRW.out).mono ?_
          rw [show batText (((biQ s).1 : Int), (biX s).1) = none from HO.out]
          rintro e w4 ⟨rfl, hb⟩
          simp only [varRes]
          have HV3 := Lib.hid (HV2.out.below hb)
          have y0 := gr_frozen (bst_res HV3.out) 0
          have y1 := gr_frozen (bst_res HV3.out) 1
          have z0 : w4.cell? ⟨w.heap.size, 0, none⟩ = some (.int .i64 0) := blk_cell (bst_res HV3.out) 0
          have z1 : w4.cell? ⟨w.heap.size, 1, none⟩ = some (.slice none 0 0) := blk_cell (bst_res HV3.out) 1
          have q0 : w4.cell? ⟨w2.heap.size, 0, none⟩ = some (.int .i64 ((biQ s).1 : Int)) := HV3.out.cv 0
          have q1 : w4.cell? ⟨w2.heap.size, 1, none⟩ = some (.slice A (biX s).1.length c) := HV3.out.cv 1
          have cp : w4.cell? ⟨w.heap.size + 1 + 1, 0, none⟩ = some (.pointer (some ⟨w.heap.size + 1, 0, none⟩)) := blk_cell (HV3.out.at_ (List.mem_cons_self ..)) 0
          have xb : w4.cell? ⟨w.heap.size + 1, 2, none⟩ = some (.bool false) := by have := HV3.out.rd.c2; rw [hbf.out] at this; exact this
          clear hb x0 x1
          go_wp2
          exact bat_end (A := .int .i64 0) (B := .slice none 0 0) rfl HV3.out rfl rfl (fun hb _ => ⟨hb, by rw [HE.out]⟩)
        · rename_i l
          have HO := Lib.hid ho
          have hq : ((bs l).toList == s.toList) = false := beq_eq_false_iff_ne.mpr fun z => hgood ⟨hlet, hbd, by rw [ho, ← toList_inj.mp z, ub_bs]⟩
          clear hgood hlet hbd ho
          go_wp2_with fail
          go_at_call 140
          refine (impl_BatchText_calls _ A c _ _ HRW.out).mono ?_
          rw [show batText (((biQ s).1 : Int), (biX s).1) = (some l) from HO.out]
          rintro e w4 ⟨rfl, hb⟩
          simp only [varRes]
          have HV3 := Lib.hid (HV2.out.below hb)
          have y0 := gr_frozen (bst_res HV3.out) 0
          have y1 := gr_frozen (bst_res HV3.out) 1
          have z0 : w4.cell? ⟨w.heap.size, 0, none⟩ = some (.int .i64 0) := blk_cell (bst_res HV3.out) 0
          have z1 : w4.cell? ⟨w.heap.size, 1, none⟩ = some (.slice none 0 0) := blk_cell (bst_res HV3.out) 1
          have q0 : w4.cell? ⟨w2.heap.size, 0, none⟩ = some (.int .i64 ((biQ s).1 : Int)) := HV3.out.cv 0
          have q1 : w4.cell? ⟨w2.heap.size, 1, none⟩ = some (.slice A (biX s).1.length c) := HV3.out.cv 1
          have cp : w4.cell? ⟨w.heap.size + 1 + 1, 0, none⟩ = some (.pointer (some ⟨w.heap.size + 1, 0, none⟩)) := blk_cell (HV3.out.at_ (List.mem_cons_self ..)) 0
          have xb : w4.cell? ⟨w.heap.size + 1, 2, none⟩ = some (.bool false) := by have := HV3.out.rd.c2; rw [hbf.out] at this; exact this
          clear hb x0 x1
          go_wp2
          exact bat_end (A := .int .i64 0) (B := .slice none 0 0) rfl HV3.out rfl rfl (fun hb _ => ⟨hb, by rw [HE.out]⟩)
      · have hbf := Lib.hid hbd
        cases ho : batText (biD s)
        all_goals
          have HO := Lib.hid ho
          clear hgood hlet hbd ho
          go_wp2_with fail
          go_at_call 140
          refine (impl_BatchText_calls _ A c _ _ HRW.out).mono ?_
          rw [show batText (((biQ s).1 : Int), (biX s).1) = _ from HO.out]
          rintro e w4 ⟨rfl, hb⟩
          simp only [varRes]
          have HV3 := Lib.hid (HV2.out.below hb)
          have y0 := gr_frozen (bst_res HV3.out) 0
          have y1 := gr_frozen (bst_res HV3.out) 1
          have z0 : w4.cell? ⟨w.heap.size, 0, none⟩ = some (.int .i64 0) := blk_cell (bst_res HV3.out) 0
          have z1 : w4.cell? ⟨w.heap.size, 1, none⟩ = some (.slice none 0 0) := blk_cell (bst_res HV3.out) 1
          have q0 : w4.cell? ⟨w2.heap.size, 0, none⟩ = some (.int .i64 ((biQ s).1 : Int)) := HV3.out.cv 0
          have q1 : w4.cell? ⟨w2.heap.size, 1, none⟩ = some (.slice A (biX s).1.length c) := HV3.out.cv 1
          have cp : w4.cell? ⟨w.heap.size + 1 + 1, 0, none⟩ = some (.pointer (some ⟨w.heap.size + 1, 0, none⟩)) := blk_cell (HV3.out.at_ (List.mem_cons_self ..)) 0
          have xb : w4.cell? ⟨w.heap.size + 1, 2, none⟩ = some (.bool true) := by have := HV3.out.rd.c2; rw [hbf.out] at this; exact this
          clear hb x0 x1
          go_wp2
          exact bat_end (A := .int .i64 0) (B := .slice none 0 0) rfl HV3.out rfl rfl (fun hb _ => ⟨hb, by rw [HE.out]⟩)
    · have hl : (((biL s).1 : Int) != 66) = true := bne_iff_ne.mpr (by omega)
      cases ho : batText (biD s)
      all_goals
        have HO := Lib.hid ho
        clear hgood hlet ho
        go_wp2_with fail
        go_at_call 140
        refine (impl_BatchText_calls _ A c _ _ HRW.out).mono ?_
        rw [show batText (((biQ s).1 : Int), (biX s).1) = _ from HO.out]
        rintro e w4 ⟨rfl, hb⟩
        simp only [varRes]
        have HV3 := Lib.hid (HV2.out.below hb)
        have y0 := gr_frozen (bst_res HV3.out) 0
        have y1 := gr_frozen (bst_res HV3.out) 1
        have z0 : w4.cell? ⟨w.heap.size, 0, none⟩ = some (.int .i64 0) := blk_cell (bst_res HV3.out) 0
        have z1 : w4.cell? ⟨w.heap.size, 1, none⟩ = some (.slice none 0 0) := blk_cell (bst_res HV3.out) 1
        have q0 : w4.cell? ⟨w2.heap.size, 0, none⟩ = some (.int .i64 ((biQ s).1 : Int)) := HV3.out.cv 0
        have q1 : w4.cell? ⟨w2.heap.size, 1, none⟩ = some (.slice A (biX s).1.length c) := HV3.out.cv 1
        have cp : w4.cell? ⟨w.heap.size + 1 + 1, 0, none⟩ = some (.pointer (some ⟨w.heap.size + 1, 0, none⟩)) := blk_cell (HV3.out.at_ (List.mem_cons_self ..)) 0
        clear hb x0 x1
        go_wp2
        exact bat_end (A := .int .i64 0) (B := .slice none 0 0) rfl HV3.out rfl rfl (fun hb _ => ⟨hb, by rw [HE.out]⟩)
end Go.Proofs.YtaacpdejpcbbbaaGreatDoor
