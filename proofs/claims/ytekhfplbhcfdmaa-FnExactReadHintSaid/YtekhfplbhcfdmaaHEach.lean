/- The reader's each, at the closure of ReadHint: one spot more, in whatever memory. -/
import Derived.Test.YtekhfplbhcfdmaaHint1
namespace Go.Proofs.Ytekhfplbhcfdmaa
set_option linter.unusedVariables false
set_option linter.unusedSimpArgs false
open Go.RowKit
attribute [local go_sem] bs_size List.length_cons List.length_nil List.length_append

abbrev hpObj (ty : TypeId) (gr : Nat) : Obj := .cells #[.pointer (some ⟨gr, 0, none⟩)] ty
/-- A directory under way: a block of one cell. -/
abbrev HSt (B gp gv gr : Nat) (s : ByteArray) (ds : List SpotD) (v : Value) (a : Nat) (bad : Bool) (w0 w : World) : Prop :=
  GSt 70 22 61 4 B gv gr [(gp, hpObj 68 gr)] s [] ds.length (spFlat ds) v a bad w0 w
theorem info_sp : (Try.prog.info? 61).map (fun i => (i.zero, i.size, i.bytes)) = some (some (.agg #[.string ⟨#[]⟩, .int .i64 0, .int .i64 0, .int .i64 0]), 4, 40) := by kernel_rfl
set_option maxRecDepth 100000 in
theorem impl_ReadHint1_calls (B gp gv gr : Nat) (s : ByteArray) (ds : List SpotD) (v : Value) (a : Nat) (w0 w : World) (h : HSt B gp gv gr s ds v a false w0 w) (ha : a ≤ s.size) (hs : s.size ≤ 1099511627776) (hn : ds.length ≤ 1099511627776) :
    Calls Try.prog 49 #[.pointer (some ⟨gp, 0, none⟩), .pointer (some ⟨gv, 0, none⟩)] w fun e w' => e = .returned (.tuple #[]) ∧ ∃ v', HSt B gp gv gr s (ds ++ [(spI s a).1]) v' (spI s a).2.1 (spI s a).2.2 w0 w' := by
  obtain ⟨i0, hi, hz, hsz, hby⟩ := info_parts info_sp
  have H0 := Lib.hid h
  clear h
  have a1 : (htK s a false).2.1 ≤ s.size := (rText_le s false ha).1
  have a2 : (htS s a false).2.1 ≤ s.size := (rNum_le s _ _ a1).2.1
  have a3 : (htA s a false).2.1 ≤ s.size := (rNum_le s _ _ a2).2.1
  have cp : w.cell? ⟨gp, 0, none⟩ = some (.pointer (some ⟨gr, 0, none⟩)) := blk_cell (H0.out.at_ (g := gp) (o := hpObj 68 gr) (by simp)) 0
  go_enter Try.func49, Try.ntmps49
  go_wp2_with fail
  go_at_call 50
  refine (impl_text_calls gr s a false _ H0.out.rd ha (by omega)).mono ?_
  rw [show rText s a false = htK s a false from rfl]
  rintro e w1 ⟨rfl, hr, hg⟩
  have HL := Lib.hid (H0.out.read hr hg).lt_
  have HD : Hid (∀ p ∈ [(gp, hpObj 68 gr)], p.1 ≠ w1.heap.size) := fun p hp e => by have := HL.out p hp; omega
  have H1 := Lib.hid ((H0.out.read hr hg).push (.cells #[.string (bs (htK s a false).1), .int .i64 0, .int .i64 0, .int .i64 0] 61))
  clear hr hg cp
  have cp : (w1.alloc (.cells #[.string (bs (htK s a false).1), .int .i64 0, .int .i64 0, .int .i64 0] 61)).cell? ⟨gp, 0, none⟩ = some (.pointer (some ⟨gr, 0, none⟩)) := blk_cell (H1.out.at_ (g := gp) (o := hpObj 68 gr) (by simp)) 0
  go_wp2_with fail
  go_at_call 51
  refine (impl_num_calls gr s _ _ _ H1.out.rd a1 (by omega)).mono ?_
  rw [show rNum s (htK s a false).2.1 (htK s a false).2.2 = htS s a false from rfl]
  rintro e w2 ⟨rfl, hr, hg⟩
  have H2 := Lib.hid (H1.out.read hr hg)
  have d1 : w2.cell? ⟨w1.heap.size, 1, none⟩ = some (.int .i64 0) := blk_cell (H2.out.at_ (List.mem_cons_self ..)) 1
  have f1 := gr_frozen (H2.out.at_ (List.mem_cons_self ..)) 1
  have H3 := Lib.hid (H2.out.setTop HD.out 1 (.int .i64 ((htS s a false).1 : Int)))
  clear hr hg cp
  have cp : (w2.setCell ⟨w1.heap.size, 1, none⟩ (.int .i64 ((htS s a false).1 : Int))).cell? ⟨gp, 0, none⟩ = some (.pointer (some ⟨gr, 0, none⟩)) := blk_cell (H3.out.at_ (g := gp) (o := hpObj 68 gr) (by simp)) 0
  go_wp2_with fail
  go_at_call 51
  refine (impl_num_calls gr s _ _ _ H3.out.rd a2 (by omega)).mono ?_
  rw [show rNum s (htS s a false).2.1 (htS s a false).2.2 = htA s a false from rfl]
  rintro e w3 ⟨rfl, hr, hg⟩
  have H4 := Lib.hid (H3.out.read hr hg)
  have d2 : w3.cell? ⟨w1.heap.size, 2, none⟩ = some (.int .i64 0) := blk_cell (H4.out.at_ (List.mem_cons_self ..)) 2
  have f2 := gr_frozen (H4.out.at_ (List.mem_cons_self ..)) 2
  have H5 := Lib.hid (H4.out.setTop HD.out 2 (.int .i64 ((htA s a false).1 : Int)))
  clear hr hg cp
  have cp : (w3.setCell ⟨w1.heap.size, 2, none⟩ (.int .i64 ((htA s a false).1 : Int))).cell? ⟨gp, 0, none⟩ = some (.pointer (some ⟨gr, 0, none⟩)) := blk_cell (H5.out.at_ (g := gp) (o := hpObj 68 gr) (by simp)) 0
  go_wp2_with fail
  go_at_call 51
  refine (impl_num_calls gr s _ _ _ H5.out.rd a3 (by omega)).mono ?_
  rw [show rNum s (htA s a false).2.1 (htA s a false).2.2 = htQ s a false from rfl]
  rintro e w4 ⟨rfl, hr, hg⟩
  have H6 := Lib.hid (H5.out.read hr hg)
  have d3 : w4.cell? ⟨w1.heap.size, 3, none⟩ = some (.int .i64 0) := blk_cell (H6.out.at_ (List.mem_cons_self ..)) 3
  have f3 := gr_frozen (H6.out.at_ (List.mem_cons_self ..)) 3
  have H7 := Lib.hid (H6.out.setTop HD.out 3 (.int .i64 ((htQ s a false).1 : Int)))
  clear hr hg cp
  generalize hw5 : w4.setCell ⟨w1.heap.size, 3, none⟩ (.int .i64 ((htQ s a false).1 : Int)) = w5 at H7
  have x0 : w5.cell? ⟨w1.heap.size, 0, none⟩ = some (.string (bs (htK s a false).1)) := blk_cell (H7.out.at_ (List.mem_cons_self ..)) 0
  have x1 : w5.cell? ⟨w1.heap.size, 1, none⟩ = some (.int .i64 ((htS s a false).1 : Int)) := blk_cell (H7.out.at_ (List.mem_cons_self ..)) 1
  have x2 : w5.cell? ⟨w1.heap.size, 2, none⟩ = some (.int .i64 ((htA s a false).1 : Int)) := blk_cell (H7.out.at_ (List.mem_cons_self ..)) 2
  have x3 : w5.cell? ⟨w1.heap.size, 3, none⟩ = some (.int .i64 ((htQ s a false).1 : Int)) := blk_cell (H7.out.at_ (List.mem_cons_self ..)) 3
  have cv : w5.cell? ⟨gv, 0, none⟩ = some v := H7.out.cv 0
  have H8 := Lib.hid (H7.out.pop.alloc (.cells (spVals (spI s a).1).toArray 61))
  have HOWN := Lib.hid H8.out.own
  have HBASE := Lib.hid H8.out.base
  have HNEWS : Hid (∀ j u, (spVals (spI s a).1)[j]? = some u → (w5.alloc (.cells (spVals (spI s a).1).toArray 61)).cell? ((⟨w5.heap.size, 0, none⟩ : Addr).add j) = some u) := World.news_of_block (heap_alloc_new w5 _)
  go_wp2_with (at_builtin; refine wpList_append_lies _ rfl _ _ _ rfl B 61 i0 (.agg #[.string ⟨#[]⟩, .int .i64 0, .int .i64 0, .int .i64 0]) 4 40 Try.underlying22 hi hz hsz hby rfl (by omega) v ds.length (spFlat ds) rfl HOWN.out ⟨w5.heap.size, 0, none⟩ 1 1 (spVals (spI s a).1) rfl rfl HNEWS.out (by simp [Value.oneCell', spVals]) (by omega) (by unfold maxLen; omega) (by omega) HBASE.out _ rfl ?_; intro g cap w6 hown hgrow hat hlt; have HA := Lib.hid (H8.out.app hown hgrow hat); clear hown hgrow hat hlt; have c6 : w6.cell? ⟨gv, 0, none⟩ = some v := HA.out.cv 0; have f6 := gr_frozen HA.out.hv 0)
  all_goals
    go_end0
    have HF := HA.out.stored 0 rfl
    rw [← spFlat_snoc, show ds.length + 1 = (ds ++ [(spI s a).1]).length by simp] at HF
    rw [show ds.length + 1 = (ds ++ [(spI s a).1]).length by simp]
    exact ⟨rfl, _, HF⟩
theorem spI_le (s : ByteArray) {a : Nat} (h : a ≤ s.size) : (spI s a).2.1 ≤ s.size := (rNum_le s _ _ (rNum_le s _ _ (rNum_le s _ _ (rText_le s false h).1).2.1).2.1).2.1
set_option maxRecDepth 100000 in
theorem impl_each_ReadHint_calls (B gp gv gr : Nat) (s : ByteArray) (v : Value) (a : Nat) (bad : Bool) (w0 w : World) (h : HSt B gp gv gr s [] v a bad w0 w) (ha : a ≤ s.size) (hs : s.size ≤ 1099511627776) :
    Calls Try.prog 48 #[.pointer (some ⟨gr, 0, none⟩), .func (.func 49) #[] #[.pointer (some ⟨gp, 0, none⟩), .pointer (some ⟨gv, 0, none⟩)]] w fun e w' => e = .returned (.tuple #[]) ∧
      ∃ v', HSt B gp gv gr s (itemsBy (spI s) (rNum s a bad).1 (rNum s a bad).2.1 (rNum s a bad).2.2).1 v' (itemsBy (spI s) (rNum s a bad).1 (rNum s a bad).2.1 (rNum s a bad).2.2).2.1 (itemsBy (spI s) (rNum s a bad).1 (rNum s a bad).2.1 (rNum s a bad).2.2).2.2 w0 w' := by
  obtain ⟨hn, ha1, _⟩ := rNum_le s a bad ha
  have HR := Lib.hid h
  have HW := Lib.hid (Reads.start (spI s) (rNum s a bad).1 (rNum s a bad).2.1 (rNum s a bad).2.2)
  generalize hW : itemsBy (spI s) (rNum s a bad).1 (rNum s a bad).2.1 (rNum s a bad).2.2 = W at HW ⊢
  clear h hW
  go_enter Try.func48, Try.ntmps48
  go_wp2_with fail
  go_at_call 51
  refine (impl_num_calls gr s a bad _ HR.out.rd ha (by omega)).mono ?_
  rintro e w1 ⟨rfl, hr, hg⟩
  have HV := Lib.hid (HR.out.read hr hg)
  clear hr hg
  generalize rNum s a bad = r at HW HV hn ha1 ⊢
  go_wp2
  go_loopw [5] (fun iv wr => ∃ (i : Nat) (acc : List SpotD) (v : Value) (a : Nat) (bad : Bool), i ≤ r.1 ∧ iv = .int .i64 (i : Int) ∧ acc.length = i ∧ a ≤ s.size ∧ Reads (spI s) r.1 W i acc a bad ∧ HSt B gp gv gr s acc v a bad w0 wr) (fun iv _ => r.1 - (intOf iv).toNat)
  case atStart => exact ⟨0, [], v, r.2.1, r.2.2, Nat.zero_le _, rfl, rfl, ha1, HW.out, HV.out⟩
  case round =>
    obtain ⟨i, acc, v, a, bad, hi, rfl, hacc, ha, hrd, hst⟩ := hrel
    have HQ := Lib.hid hrd
    have HS := Lib.hid hst
    have c2 := hst.rd.c2
    clear hrd hst
    by_cases hlt : i < r.1
    · cases bad
      · go_wp2_with fail
        go_at_call 49
        refine (impl_ReadHint1_calls B gp gv gr s acc v a w0 _ HS.out ha hs (by omega)).mono ?_
        rintro e w' ⟨rfl, v', hv⟩
        have HV2 := Lib.hid hv
        clear hv
        go_wp2
        go_roundw
        case rel => first | exact ⟨i + 1, acc ++ [(spI s a).1], v', (spI s a).2.1, (spI s a).2.2, by omega, by go_num, by simp; omega, spI_le s ha, HQ.out.step hlt, HV2.out⟩ | (repeat (first | (refine ⟨?relx, rfl⟩; exact ⟨i + 1, acc ++ [(spI s a).1], v', (spI s a).2.1, (spI s a).2.2, by omega, by go_num, by simp; omega, spI_le s ha, HQ.out.step hlt, HV2.out⟩) | (refine ⟨?relx, ?eqs⟩; (case eqs => (and_intros <;> rfl)); exact ⟨i + 1, acc ++ [(spI s a).1], v', (spI s a).2.1, (spI s a).2.2, by omega, by go_num, by simp; omega, spI_le s ha, HQ.out.step hlt, HV2.out⟩) | apply Exists.intro))
        case measure => simp [intOf]; omega
      · go_wp2
        go_end0
        obtain rfl := HQ.out.stop (by simp)
        exact ⟨rfl, v, HS.out⟩
    · obtain rfl : i = r.1 := by omega
      go_wp2
      go_end0
      obtain rfl := HQ.out.stop (by simp)
      exact ⟨rfl, v, HS.out⟩
end Go.Proofs.Ytekhfplbhcfdmaa
