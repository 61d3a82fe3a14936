/- The draws: bytes of one kind, a text spoilt. -/
import Derived.Test.YtdoaemagednclaaDoorDraw3
import Derived.Deep.RegionHeld3
namespace Go.Proofs.YtdoaemagednclaaDoor
set_option linter.unusedVariables false
set_option linter.unusedSimpArgs false
open Go.RowKit
attribute [local go_sem] bs_size List.length_cons List.length_nil List.length_append

theorem vB_rep (n : Nat) (b : UInt8) : vB (List.replicate n b) = List.replicate n (Value.int .u8 b.toNat) := by simp [vB]
def LongAt (w wr : World) (n : Nat) (b : UInt8) (k : Nat) : Prop := wr.heap[w.heap.size]? = some (.cells (vB (List.replicate k b) ++ List.replicate (n - k) (Value.int .u8 0)).toArray 5 (0, 0)) ∧ Below w.heap.size w wr
theorem longAt_step {w wr : World} {n k : Nat} {b : UInt8} (h : LongAt w wr n b k) (hk : k < n) : LongAt w (wr.setCell ⟨w.heap.size, k, none⟩ (.int .u8 b.toNat)) n b (k + 1) := by
  refine ⟨?_, h.2.setCell (Nat.le_refl _) _⟩
  rw [blk_set h.1, set_next _ _ _ k n (by rw [vB_length, List.length_replicate]) hk]
  congr 4
  rw [vB_rep, vB_rep, List.replicate_succ']
theorem longAt_own {w wr : World} {n : Nat} {b : UInt8} (h : LongAt w wr n b n) (hn : n ≤ 100000) : OwnB wr w.heap.size (.slice (some ⟨w.heap.size, 0, none⟩) n n) (List.replicate n b) := by
  refine .inr ⟨w.heap.size, n, _, (0, 0), by rw [List.length_replicate], Nat.le_refl _, h.1, by rw [List.length_replicate]; exact Nat.le_refl _, by unfold maxLen; omega, by simp [vB], ?_, .inl rfl⟩
  simp [vB]
theorem infoU8 : (Tryd.prog.info? 5).map (fun i => (i.zero, i.size, i.bytes)) = some (some (.int .u8 0), 1, 1) := by kernel_rfl
theorem Cu.drew {w : World} {g : Nat} (h : Cu w g) : Cu w.drew g := h
theorem Drawn.drew {w w' : World} {g : Nat} (h : Drawn w g w') : Drawn w g w'.drew := ⟨h.1, h.2.os, h.2.tape, h.2.output, h.2.size, h.2.block⟩
set_option maxHeartbeats 4000000 in
set_option maxRecDepth 100000 in
theorem spec_l02Spoilt_calls (g : Nat) (s : ByteArray) (w : World) (h : Cu w g) (hs : s.size ≤ 1000000) :
    Calls Tryd.prog 51 #[.pointer (some ⟨g, 0, none⟩), .string s] w fun e w' => ∃ x, e = .returned (.string x) ∧ x.size ≤ s.size + 1 ∧ Drawn w g w' := by
  have HC := Lib.hid h
  have HL := Lib.hid h.lt
  clear h
  go_enter Tryd.func51, Tryd.ntmps51
  go_wp2_with fail
  go_at_call 25
  refine (spec_l01Below_calls g 12 _ HC.out (by omega)).mono ?_
  rintro e w1 ⟨x, rfl, hx0, hx1, _, hd⟩
  have hx1 := hx1 (by omega)
  have HD := Lib.hid hd
  clear hd
  by_cases x0 : x = 0
  · subst x0
    go_wp2_with fail
    go_at_call 46
    refine (spec_l01Text_calls g 1 _ HD.out.1 (by omega) (by omega)).mono ?_
    rintro e w2 ⟨y, rfl, hy, hd⟩
    have HD2 := Lib.hid (HD.out.trans hd)
    clear hd
    have hyn : y.size = 1 := by omega
    go_wp2
    go_ret
    exact ⟨_, rfl, by simp [hyn], HD2.out⟩
  · have b0 : (x == 0) = false := beq_eq_false_iff_ne.mpr x0
    by_cases x1 : x = 1
    · subst x1
      go_wp2_with fail
      go_at_call 25
      refine (spec_l01Below_calls g (s.size + 1) _ HD.out.1 (by omega)).mono ?_
      rintro e w2 ⟨y, rfl, hy0, hy1, _, hd⟩
      have hy1 := hy1 (by omega)
      have HD2 := Lib.hid (HD.out.trans hd)
      clear hd
      obtain ⟨k, rfl⟩ := Int.eq_ofNat_of_zero_le hy0
      have hk : (k : Int) ≤ (s.size : Int) := by omega
      go_wp2
      go_ret
      exact ⟨_, rfl, by simp; omega, HD2.out⟩
    · have b1 : (x == 1) = false := beq_eq_false_iff_ne.mpr x1
      by_cases x2 : x = 2 ∨ x = 3
      · by_cases hs0 : 0 < s.size
        · have hsi : (0 : Int) < (s.size : Int) := by omega
          rcases x2 with rfl | rfl
          all_goals
            go_wp2_with fail
            go_at_call 25
            refine (spec_l01Below_calls g s.size _ HD.out.1 (by omega)).mono ?_
            rintro e w2 ⟨y, rfl, hy0, hy1, _, hd⟩
            have hy1 := hy1 (by omega)
            have HD2 := Lib.hid (HD.out.trans hd)
            clear hd
            obtain ⟨k, rfl⟩ := Int.eq_ofNat_of_zero_le hy0
            have hk : (k : Int) ≤ (s.size : Int) := by omega
            have hk1 : (k : Int) + 1 ≤ (s.size : Int) := by omega
            have HD2D := Lib.hid (HD2.out.drew)
            have hs1 : (9223372036854775807 < min k s.size + 1) = False := eq_false (by omega)
            have hs2 : (9223372036854775807 < min k s.size + 1 + (s.size - (k + 1))) = False := eq_false (by omega)
            have hwk : IntKind.i64.wrap ((k : Int) + 1) = (k : Int) + 1 := by rw [IntKind.wrap_i64]; omega
            have hk2 : (0 : Int) ≤ (k : Int) + 1 := by omega
            have hk3 : (0 : Int) ≤ (k : Int) := by omega
            have hks : ((s.extract 0 k).size : Int) = (k : Int) := by simp; omega
            have hke : ((s.extract (k + 1) s.size).size : Int) = (s.size : Int) - (k + 1) := by simp; omega
            go_wp2
            go_region_held3 (fun w' => Hid (Drawn w g w')) (first | exact HD2D | exact Lib.hid (HD2D.out.trans hd)) (first | (go_at_call 46; refine (spec_l01Text_calls g 1 _ HD2D.out.1 (by omega) (by omega)).mono ?_; rintro e w' ⟨z, rfl, hz, hd⟩; have hzn : z.size = 1 := by omega))
            have HD3 : Hid (Drawn w g w') := ‹Hid (Drawn w g w')›
            go_wp2
            go_ret
            exact ⟨_, rfl, by simp [hzn]; omega, HD3.out⟩
        · have hs00 : s.size = 0 := by omega
          rcases x2 with rfl | rfl
          all_goals
            go_wp2
            go_ret
            exact ⟨_, rfl, by omega, HD.out⟩
      · have b2 : (x == 2) = false := beq_eq_false_iff_ne.mpr (fun e => x2 (.inl e))
        have b3 : (x == 3) = false := beq_eq_false_iff_ne.mpr (fun e => x2 (.inr e))
        go_wp2
        go_ret
        exact ⟨_, rfl, by omega, HD.out⟩
end Go.Proofs.YtdoaemagednclaaDoor
