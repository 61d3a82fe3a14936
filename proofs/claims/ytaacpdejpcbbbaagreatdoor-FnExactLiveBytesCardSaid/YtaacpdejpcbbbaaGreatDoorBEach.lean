/- The reader's each, at the closure of ReadBatch: one change more behind the batch's changes, in whatever memory. -/
import Derived.Test.YtaacpdejpcbbbaaGreatDoorGrow
import Derived.Test.YtaacpdejpcbbbaaGreatDoorBatL
namespace Go.Proofs.YtaacpdejpcbbbaaGreatDoor
set_option linter.unusedVariables false
set_option linter.unusedSimpArgs false
open Go.RowKit
attribute [local go_sem] bs_size List.length_cons List.length_nil List.length_append

def chVals (c : ChD) : List Value := [.string c.1, .string c.2.1, .bool c.2.2]
def chFlat (cs : List ChD) : List Value := (cs.map chVals).flatten
theorem chFlat_len : ∀ cs : List ChD, (chFlat cs).length = cs.length * 3
  | [] => rfl
  | c :: cs => by
    have := chFlat_len cs
    unfold chFlat at this ⊢
    rw [List.map_cons, List.flatten_cons, List.length_append, this]
    simp [chVals]
    omega
theorem chFlat_snoc (cs : List ChD) (c : ChD) : chFlat (cs ++ [c]) = chFlat cs ++ chVals c := by simp [chFlat]
abbrev ptrObj (ty : TypeId) (gr : Nat) : Obj := .cells #[.pointer (some ⟨gr, 0, none⟩)] ty
/-- A batch under way. -/
abbrev BSt (B gp gv gr : Nat) (s : ByteArray) (q : Int) (cs : List ChD) (v : Value) (a : Nat) (bad : Bool) (w0 w : World) : Prop :=
  GSt 160 62 121 3 B gv gr [(gp, ptrObj 158 gr)] s [.int .i64 q] cs.length (chFlat cs) v a bad w0 w
theorem info_ch : (Tryz.prog.info? 121).map (fun i => (i.zero, i.size, i.bytes)) = some (some (.agg #[.string ⟨#[]⟩, .string ⟨#[]⟩, .bool false]), 3, 40) := by kernel_rfl
theorem int_eq1 (n : Nat) : ((n : Int) == 1) = decide (n = 1) := by
  by_cases h : n = 1
  · simp [h]
  · rw [decide_eq_false h]
    exact beq_eq_false_iff_ne.mpr (by omega)
set_option maxRecDepth 100000 in
theorem impl_ReadBatch1_calls (B gp gv gr : Nat) (s : ByteArray) (q : Int) (cs : List ChD) (v : Value) (a : Nat) (w0 w : World) (h : BSt B gp gv gr s q cs v a false w0 w) (ha : a ≤ s.size) (hs : s.size ≤ 1099511627776) (hn : cs.length ≤ 1099511627776) :
    Calls Tryz.prog 138 #[.pointer (some ⟨gp, 0, none⟩), .pointer (some ⟨gv, 0, none⟩)] w fun e w' => e = .returned (.tuple #[]) ∧ ∃ v', BSt B gp gv gr s q (cs ++ [(chI s a).1]) v' (chI s a).2.1 (chI s a).2.2 w0 w' := by
  obtain ⟨i0, hi, hz, hsz, hby⟩ := info_parts info_ch
  have HR := Lib.hid h
  clear h
  have a1 : (btK s a false).2.1 ≤ s.size := (rText_le s false ha).1
  have a2 : (btG s a false).2.1 ≤ s.size := (rByte_le s _ a1).1
  have cp : w.cell? ⟨gp, 0, none⟩ = some (.pointer (some ⟨gr, 0, none⟩)) := blk_cell (HR.out.at_ (g := gp) (o := ptrObj 158 gr) (by simp)) 0
  go_enter Tryz.func138, Tryz.ntmps138
  go_wp2_with fail
  go_at_call 139
  refine (impl_text_calls gr s a false _ HR.out.rd ha (by omega)).mono ?_
  rw [show rText s a false = btK s a false from rfl]
  rintro e w1 ⟨rfl, hr, hg⟩
  have HL := Lib.hid (HR.out.read hr hg).lt_
  have HD : Hid (∀ p ∈ [(gp, ptrObj 158 gr)], p.1 ≠ w1.heap.size) := fun p hp e => by have := HL.out p hp; omega
  have H1 := Lib.hid ((HR.out.read hr hg).push (.cells #[.string (bs (btK s a false).1), .string ⟨#[]⟩, .bool false] 121))
  clear hr hg cp
  have cp : (w1.alloc (.cells #[.string (bs (btK s a false).1), .string ⟨#[]⟩, .bool false] 121)).cell? ⟨gp, 0, none⟩ = some (.pointer (some ⟨gr, 0, none⟩)) := blk_cell (H1.out.at_ (g := gp) (o := ptrObj 158 gr) (by simp)) 0
  go_wp2_with fail
  go_at_call 126
  refine (impl_byte_calls gr s _ _ _ H1.out.rd a1 (by omega)).mono ?_
  rw [show rByte s (btK s a false).2.1 (btK s a false).2.2 = btG s a false from rfl]
  rintro e w2 ⟨rfl, hr, hg⟩
  have H2 := Lib.hid (H1.out.read hr hg)
  have hq := int_eq1 (btG s a false).1
  have d2 : w2.cell? ⟨w1.heap.size, 2, none⟩ = some (.bool false) := blk_cell (H2.out.at_ (List.mem_cons_self ..)) 2
  have f2 := gr_frozen (H2.out.at_ (List.mem_cons_self ..)) 2
  have H3 := Lib.hid (H2.out.setTop HD.out 2 (.bool (decide ((btG s a false).1 = 1))))
  clear hr hg cp
  have cp : (w2.setCell ⟨w1.heap.size, 2, none⟩ (.bool (decide ((btG s a false).1 = 1)))).cell? ⟨gp, 0, none⟩ = some (.pointer (some ⟨gr, 0, none⟩)) := blk_cell (H3.out.at_ (g := gp) (o := ptrObj 158 gr) (by simp)) 0
  go_wp2_with fail
  go_at_call 139
  refine (impl_text_calls gr s _ _ _ H3.out.rd a2 (by omega)).mono ?_
  rw [show rText s (btG s a false).2.1 (btG s a false).2.2 = btV s a false from rfl]
  rintro e w3 ⟨rfl, hr, hg⟩
  have H4 := Lib.hid (H3.out.read hr hg)
  have d1 : w3.cell? ⟨w1.heap.size, 1, none⟩ = some (.string ⟨#[]⟩) := blk_cell (H4.out.at_ (List.mem_cons_self ..)) 1
  have f1 := gr_frozen (H4.out.at_ (List.mem_cons_self ..)) 1
  have H5 := Lib.hid (H4.out.setTop HD.out 1 (.string (bs (btV s a false).1)))
  clear hr hg cp
  generalize hw5 : w3.setCell ⟨w1.heap.size, 1, none⟩ (.string (bs (btV s a false).1)) = w5 at H5
  have x0 : w5.cell? ⟨w1.heap.size, 0, none⟩ = some (.string (bs (btK s a false).1)) := blk_cell (H5.out.at_ (List.mem_cons_self ..)) 0
  have x1 : w5.cell? ⟨w1.heap.size, 1, none⟩ = some (.string (bs (btV s a false).1)) := blk_cell (H5.out.at_ (List.mem_cons_self ..)) 1
  have x2 : w5.cell? ⟨w1.heap.size, 2, none⟩ = some (.bool (decide ((btG s a false).1 = 1))) := blk_cell (H5.out.at_ (List.mem_cons_self ..)) 2
  have cv : w5.cell? ⟨gv, 1, none⟩ = some v := H5.out.cv 1
  have H6 := Lib.hid (H5.out.pop.alloc (.cells (chVals (chI s a).1).toArray 121))
  have HOWN := Lib.hid H6.out.own
  have HBASE := Lib.hid H6.out.base
  have HNEWS : Hid (∀ j u, (chVals (chI s a).1)[j]? = some u → (w5.alloc (.cells (chVals (chI s a).1).toArray 121)).cell? ((⟨w5.heap.size, 0, none⟩ : Addr).add j) = some u) := World.news_of_block (heap_alloc_new w5 _)
  go_wp2_with (at_builtin; refine wpList_append_lies _ rfl _ _ _ rfl B 121 i0 (.agg #[.string ⟨#[]⟩, .string ⟨#[]⟩, .bool false]) 3 40 Tryz.underlying60 hi hz hsz hby rfl (by omega) v cs.length (chFlat cs) rfl HOWN.out ⟨w5.heap.size, 0, none⟩ 1 1 (chVals (chI s a).1) rfl rfl HNEWS.out (by simp [Value.oneCell', chVals]) (by omega) (by unfold maxLen; omega) (by omega) HBASE.out _ rfl ?_; intro g cap w6 hown hgrow hat hlt; have HA := Lib.hid (H6.out.app hown hgrow hat); clear hown hgrow hat hlt; have c6 : w6.cell? ⟨gv, 1, none⟩ = some v := HA.out.cv 1; have f6 := gr_frozen HA.out.hv 1)
  all_goals
    go_end0
    have HF := HA.out.stored 1 rfl
    rw [← chFlat_snoc, show cs.length + 1 = (cs ++ [(chI s a).1]).length by simp] at HF
    rw [show cs.length + 1 = (cs ++ [(chI s a).1]).length by simp]
    exact ⟨rfl, _, HF⟩
theorem chI_le (s : ByteArray) {a : Nat} (h : a ≤ s.size) : (chI s a).2.1 ≤ s.size := (rText_le s _ (rByte_le s _ (rText_le s false h).1).1).1
set_option maxRecDepth 100000 in
theorem impl_each_ReadBatch_calls (B gp gv gr : Nat) (s : ByteArray) (q : Int) (v : Value) (a : Nat) (bad : Bool) (w0 w : World) (h : BSt B gp gv gr s q [] v a bad w0 w) (ha : a ≤ s.size) (hs : s.size ≤ 1099511627776) :
    Calls Tryz.prog 137 #[.pointer (some ⟨gr, 0, none⟩), .func (.func 138) #[] #[.pointer (some ⟨gp, 0, none⟩), .pointer (some ⟨gv, 0, none⟩)]] w fun e w' => e = .returned (.tuple #[]) ∧
      ∃ v', BSt B gp gv gr s q (itemsBy (chI s) (rNum s a bad).1 (rNum s a bad).2.1 (rNum s a bad).2.2).1 v' (itemsBy (chI s) (rNum s a bad).1 (rNum s a bad).2.1 (rNum s a bad).2.2).2.1 (itemsBy (chI s) (rNum s a bad).1 (rNum s a bad).2.1 (rNum s a bad).2.2).2.2 w0 w' := by
  obtain ⟨hn, ha1, _⟩ := rNum_le s a bad ha
  have HR := Lib.hid h
  have HW := Lib.hid (Reads.start (chI s) (rNum s a bad).1 (rNum s a bad).2.1 (rNum s a bad).2.2)
  generalize hW : itemsBy (chI s) (rNum s a bad).1 (rNum s a bad).2.1 (rNum s a bad).2.2 = W at HW ⊢
  clear h hW
  go_enter Tryz.func137, Tryz.ntmps137
  go_wp2_with fail
  go_at_call 127
  refine (impl_num_calls gr s a bad _ HR.out.rd ha (by omega)).mono ?_
  rintro e w1 ⟨rfl, hr, hg⟩
  have HV := Lib.hid (HR.out.read hr hg)
  clear hr hg
  generalize rNum s a bad = r at HW HV hn ha1 ⊢
  go_wp2
  go_loopw [5] (fun iv wr => ∃ (i : Nat) (acc : List ChD) (v : Value) (a : Nat) (bad : Bool), i ≤ r.1 ∧ iv = .int .i64 (i : Int) ∧ acc.length = i ∧ a ≤ s.size ∧ Reads (chI s) r.1 W i acc a bad ∧ BSt B gp gv gr s q acc v a bad w0 wr) (fun iv _ => r.1 - (intOf iv).toNat)
  case atStart => exact ⟨0, [], v, r.2.1, r.2.2, Nat.zero_le _, rfl, rfl, ha1, HW.out, HV.out⟩
  case round =>
    obtain ⟨i, acc, v, a, bad, hi, rfl, hacc, ha, hrd, hst⟩ := hrel
    have HQ := Lib.hid hrd
    have HS := Lib.hid hst
    have c2 := hst.rd.c2
    clear hrd hst
    by_cases hlt : i < r.1
    · cases bad
      · go_wp2_with fail
        go_at_call 138
        refine (impl_ReadBatch1_calls B gp gv gr s q acc v a w0 _ HS.out ha hs (by omega)).mono ?_
        rintro e w' ⟨rfl, v', hv⟩
        have HV2 := Lib.hid hv
        clear hv
        go_wp2
        go_roundw
        case rel => first | exact ⟨i + 1, acc ++ [(chI s a).1], v', (chI s a).2.1, (chI s a).2.2, by omega, by go_num, by simp; omega, chI_le s ha, HQ.out.step hlt, HV2.out⟩ | (repeat (first | (refine ⟨?relx, rfl⟩; exact ⟨i + 1, acc ++ [(chI s a).1], v', (chI s a).2.1, (chI s a).2.2, by omega, by go_num, by simp; omega, chI_le s ha, HQ.out.step hlt, HV2.out⟩) | (refine ⟨?relx, ?eqs⟩; (case eqs => (and_intros <;> rfl)); exact ⟨i + 1, acc ++ [(chI s a).1], v', (chI s a).2.1, (chI s a).2.2, by omega, by go_num, by simp; omega, chI_le s ha, HQ.out.step hlt, HV2.out⟩) | apply Exists.intro))
        case measure => simp [intOf]; omega
      · go_wp2
        go_end0
        obtain rfl := HQ.out.stop (by simp)
        exact ⟨rfl, v, HS.out⟩
    · obtain rfl : i = r.1 := by omega
      go_wp2
      go_end0
      obtain rfl := HQ.out.stop (by simp)
      exact ⟨rfl, v, HS.out⟩
end Go.Proofs.YtaacpdejpcbbbaaGreatDoor
