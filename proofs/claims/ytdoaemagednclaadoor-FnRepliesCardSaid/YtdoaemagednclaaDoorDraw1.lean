/- The reference's draws: a cursor over bytes that came in; what is drawn is some number below the bound. -/
import Derived.Test.YtdoaemagednclaaDoorStrs
import Derived.Laws.Bits
namespace Go.Proofs.YtdoaemagednclaaDoor
set_option linter.unusedVariables false
set_option linter.unusedSimpArgs false
open Go.RowKit
attribute [local go_sem] bs_size List.length_cons List.length_nil List.length_append

/-- n bytes that came in. -/
def ByRow (w : World) (A : Option Addr) (n : Nat) : Prop := n ≤ 9223372036854775807 ∧ (0 < n → ∃ ad : Addr, A = some ad ∧ ad.block < w.heap.size ∧ ∀ j, j < n → ∃ z : Int, 0 ≤ z ∧ z ≤ 255 ∧ w.cell? (ad.add j) = some (.int .u8 z))
/-- Block g holds a cursor. -/
def Cu (w : World) (g : Nat) : Prop := ∃ (A : Option Addr) (c n i : Nat) (h : Int), i ≤ n ∧ w.heap[g]? = some (.cells #[.slice A n c, .int .i64 (i : Int), .int .i64 h] 63 (0, 0)) ∧ ByRow w A n ∧ ∀ ad, A = some ad → 0 < n → ad.block < g
/-- What a draw leaves: the cursor's block and new ones apart nothing is another. -/
def Drawn (w : World) (g : Nat) (w' : World) : Prop := Cu w' g ∧ w.grownBy w' (some g)
theorem Drawn.trans {w w1 w2 : World} {g : Nat} (h : Drawn w g w1) (h2 : Drawn w1 g w2) : Drawn w g w2 := ⟨h2.1, h.2.trans h2.2⟩
theorem and255 (x : Int) : 0 ≤ bits .and .i64 x 255 ∧ bits .and .i64 x 255 ≤ 255 := by
  have h : (BitVec.ofInt 64 x &&& BitVec.ofInt 64 255).toNat ≤ 255 := by
    rw [BitVec.toNat_and]
    exact Nat.le_trans Nat.and_le_right (by decide)
  show 0 ≤ IntKind.i64.wrap ((BitVec.ofInt 64 x &&& BitVec.ofInt 64 255).toNat : Int) ∧ IntKind.i64.wrap ((BitVec.ofInt 64 x &&& BitVec.ofInt 64 255).toNat : Int) ≤ 255
  rw [IntKind.wrap_i64]
  omega
theorem drawn_of {w w' : World} {g : Nat} {A : Option Addr} {c n i : Nat} {h : Int} (hi : i ≤ n) (hb : w'.heap[g]? = some (.cells #[.slice A n c, .int .i64 (i : Int), .int .i64 h] 63 (0, 0))) (hr : ByRow w A n) (hne : ∀ ad, A = some ad → 0 < n → ad.block < g) (hg : w.grownBy w' (some g)) : Drawn w g w' := by
  refine ⟨⟨A, c, n, i, h, hi, hb, ⟨hr.1, fun hp => ?_⟩, hne⟩, hg⟩
  obtain ⟨ad, e, hl, hc⟩ := hr.2 hp
  refine ⟨ad, e, Nat.lt_of_lt_of_le hl hg.size, fun j hj => ?_⟩
  obtain ⟨z, h0, h1, h2⟩ := hc j hj
  refine ⟨z, h0, h1, ?_⟩
  have := hg.block (ad.add j).block (by rw [add_block]; exact hl) (by rw [add_block]; intro e2; exact Nat.ne_of_lt (hne ad e hp) (Option.some.inj e2))
  exact (World.cell?_of_block this).trans h2
theorem grown_set' {w wr : World} {b : Nat} (h : w.grownBy wr (some b)) (j : Nat) (v : Value) : w.grownBy (wr.setCell ⟨b, j, none⟩ v) (some b) :=
  ⟨h.os, h.tape, h.output, by simpa using h.size, fun i hi hne => (Below.heap_setCell wr ⟨b, j, none⟩ v i (fun e => hne (by rw [e]))).trans (h.block i hi hne)⟩
theorem grown_drewN {w wr : World} {row : Option Nat} (h : w.grownBy wr row) (n : Nat) : w.grownBy (wr.drewN n) row := ⟨h.os, h.tape, h.output, h.size, h.block⟩
theorem Cu.lt {w : World} {g : Nat} (h : Cu w g) : g < w.heap.size := by
  obtain ⟨A, c, n, i, hh, hi, hb, _⟩ := h
  exact blk_lt hb
/-- Another row beyond the cursor, or new ones, may change. -/
theorem Cu.grown {w w' : World} {g : Nat} {row : Option Nat} (h : Cu w g) (hg : w.grownBy w' row) (hne : ∀ k, row = some k → g < k) : Cu w' g := by
  obtain ⟨A, c, n, i, hh, hi, hb, hr, hl⟩ := h
  refine ⟨A, c, n, i, hh, hi, (hg.block g (blk_lt hb) (fun e => Nat.lt_irrefl _ (hne g e.symm))).trans hb, ⟨hr.1, fun hp => ?_⟩, hl⟩
  obtain ⟨ad, e, hlt, hc⟩ := hr.2 hp
  refine ⟨ad, e, Nat.lt_of_lt_of_le hlt hg.size, fun j hj => ?_⟩
  obtain ⟨z, h0, h1, h2⟩ := hc j hj
  refine ⟨z, h0, h1, (World.cell?_of_block (hg.block (ad.add j).block (by rw [add_block]; exact hlt) ?_)).trans h2⟩
  rw [add_block]
  intro e2
  have := hne _ e2.symm
  have := hl ad e hp
  omega
theorem Drawn.grown {w wr w1 : World} {g : Nat} {row : Option Nat} (h : Drawn w g wr) (hlt : g < w.heap.size) (hg : wr.grownBy w1 row) (hr : ∀ k, row = some k → w.heap.size ≤ k) : Drawn w g w1 := by
  refine ⟨h.1.grown hg fun k e => Nat.lt_of_lt_of_le hlt (hr k e), ⟨hg.os.trans h.2.os, hg.tape.trans h.2.tape, hg.output.trans h.2.output, Nat.le_trans h.2.size hg.size, fun k hk hne => (hg.block k (Nat.lt_of_lt_of_le hk h.2.size) fun e => ?_).trans (h.2.block k hk hne)⟩⟩
  have := hr k e.symm
  omega
theorem Drawn.alloc' {w wr : World} {g : Nat} (h : Drawn w g wr) (hlt : g < w.heap.size) (o : Obj) : Drawn w g (wr.alloc o) := h.grown hlt (World.grownBy_alloc wr o none) fun k e => by cases e
theorem Drawn.below {w wr w1 : World} {g : Nat} (h : Drawn w g wr) (hlt : g < w.heap.size) (hb : Below wr.heap.size wr w1) : Drawn w g w1 := h.grown (row := none) hlt ⟨hb.os, hb.tape, hb.output, hb.size, fun k hk _ => hb.block k hk⟩ fun k e => by cases e
/-- Seen from ahead of the cursor's making. -/
theorem Drawn.seen {w0 w w' : World} {g : Nat} (h : Drawn w g w') (hb : Below w0.heap.size w0 w) (hg : w0.heap.size ≤ g) : Below w0.heap.size w0 w' := hb.grown h.2 hb.size fun k e => by cases e; exact hg
set_option maxHeartbeats 4000000 in
set_option maxRecDepth 100000 in
theorem spec_l01Byte_calls (g : Nat) (w : World) (h : Cu w g) :
    Calls Tryd.prog 32 #[.pointer (some ⟨g, 0, none⟩)] w fun e w' => ∃ x : Int, e = .returned (.int .i64 x) ∧ 0 ≤ x ∧ x ≤ 255 ∧ Drawn w g w' := by
  obtain ⟨A, c, n, i, hh, hi, hb, hrow, hne⟩ := h
  have HB := Lib.hid hb
  have c0 : w.cell? ⟨g, 0, none⟩ = some (.slice A n c) := by rw [cell_of_row w g 0 _ _ (0, 0) hb]; rfl
  have c1 : w.cell? ⟨g, 1, none⟩ = some (.int .i64 (i : Int)) := by rw [cell_of_row w g 1 _ _ (0, 0) hb]; rfl
  have c2 : w.cell? ⟨g, 2, none⟩ = some (.int .i64 hh) := by rw [cell_of_row w g 2 _ _ (0, 0) hb]; rfl
  have f1 := blk_frozen hb 1
  have f2 := blk_frozen hb 2
  have hn := hrow.1
  have HR := Lib.hid hrow
  have HNE := Lib.hid hne
  clear hb hrow hne
  by_cases hlt : i < n
  · obtain ⟨ad, hA, hadl, hcell⟩ := HR.out.2 (by omega)
    obtain ⟨z, hz0, hz1, hcz⟩ := hcell i hlt
    subst hA
    have hg : decide ((i : Int) < (n : Int)) = true := decide_eq_true (by omega)
    have hi0 : (0 : Int) ≤ (i : Int) := by omega
    have hi1 : (i : Int) < (n : Int) := by omega
    have hcz' : ∀ V : Value, (w.setCell ⟨g, 2, none⟩ V).cell? (ad.add i) = some (.int .u8 z) := fun V => (World.cell?_of_block (by
      rw [add_block]
      exact Below.heap_setCell w ⟨g, 2, none⟩ V ad.block (Nat.ne_of_lt (HNE.out ad rfl (by omega))))).trans hcz
    go_enter Tryd.func32, Tryd.ntmps32
    go_wp2
    go_quiet (fail)
    go_wp2
    go_quiet (fail)
    go_wp2
    go_quiet (fail)
    go_wp2
    go_ret
    refine ⟨_, rfl, (and255 _).1, (and255 _).2, drawn_of (i := i + 1) (n := n) (c := c) (h := wrap64 (wrap64 (hh * 6364136223846793005) + 1442695040888963407)) (by omega) ?_ HR.out HNE.out (grown_set' (grown_drewN (grown_set' (World.grownBy.refl w _) 2 _) _) 1 _)⟩
    exact (blk_set (blk_set HB.out 2 _) 1 _).trans rfl
  · have hg : decide ((i : Int) < (n : Int)) = false := decide_eq_false (by omega)
    go_enter Tryd.func32, Tryd.ntmps32
    go_wp2
    go_quiet (fail)
    go_wp2
    go_quiet (fail)
    go_wp2
    go_ret
    refine ⟨_, rfl, (and255 _).1, (and255 _).2, drawn_of (i := i) (n := n) (c := c) (h := wrap64 (wrap64 (hh * 6364136223846793005) + 1442695040888963407)) hi ?_ HR.out HNE.out (grown_drewN (grown_drewN (grown_set' (World.grownBy.refl w _) 2 _) _) _)⟩
    exact (blk_set HB.out 2 _).trans rfl
set_option maxHeartbeats 4000000 in
set_option maxRecDepth 100000 in
theorem spec_l01Below_calls (g : Nat) (n : Int) (w : World) (h : Cu w g) (hn : n ≤ 4294967296) :
    Calls Tryd.prog 25 #[.pointer (some ⟨g, 0, none⟩), .int .i64 n] w fun e w' => ∃ x : Int, e = .returned (.int .i64 x) ∧ 0 ≤ x ∧ (0 < n → x < n) ∧ (n ≤ 0 → x = 0) ∧ Drawn w g w' := by
  have HC := Lib.hid h
  clear h
  by_cases h0 : n ≤ 0
  · go_enter Tryd.func25, Tryd.ntmps25
    go_wp2
    go_ret
    exact ⟨0, rfl, by omega, fun h => by omega, fun _ => rfl, HC.out, World.grownBy.refl w _⟩
  · by_cases h256 : n ≤ 256
    · have hnz : (n == 0) = false := beq_eq_false_iff_ne.mpr (by omega)
      go_enter Tryd.func25, Tryd.ntmps25
      go_wp2_with fail
      go_at_call 32
      refine (spec_l01Byte_calls g _ HC.out).mono ?_
      rintro e w1 ⟨x, rfl, hx0, hx1, hd⟩
      have HD := Lib.hid hd
      clear hd
      have hm0 : 0 ≤ x % n := Int.emod_nonneg _ (by omega)
      have hm1 : x % n < n := Int.emod_lt_of_pos _ (by omega)
      have htm : x.tmod n = x % n := Int.tmod_eq_emod_of_nonneg hx0
      go_wp2
      go_ret
      refine ⟨_, rfl, ?_, fun _ => ?_, fun h => by omega, HD.out⟩
      · omega
      · omega
    · have hnz : (n == 0) = false := beq_eq_false_iff_ne.mpr (by omega)
      go_enter Tryd.func25, Tryd.ntmps25
      go_wp2_with fail
      go_at_call 32
      refine (spec_l01Byte_calls g _ HC.out).mono ?_
      rintro e w1 ⟨x, rfl, hx0, hx1, hd⟩
      have HD := Lib.hid hd
      clear hd
      go_wp2_with fail
      go_at_call 32
      refine (spec_l01Byte_calls g _ HD.out.1).mono ?_
      rintro e w2 ⟨y, rfl, hy0, hy1, hd⟩
      have HD2 := Lib.hid (HD.out.trans hd)
      clear hd
      go_wp2_with fail
      go_at_call 32
      refine (spec_l01Byte_calls g _ HD2.out.1).mono ?_
      rintro e w3 ⟨z, rfl, hz0, hz1, hd⟩
      have HD3 := Lib.hid (HD2.out.trans hd)
      clear hd
      go_wp2_with fail
      go_at_call 32
      refine (spec_l01Byte_calls g _ HD3.out.1).mono ?_
      rintro e w4 ⟨v, rfl, hv0, hv1, hd⟩
      have HD4 := Lib.hid (HD3.out.trans hd)
      clear hd
      have hs0 : 0 ≤ x * 16777216 + y * 65536 + z * 256 + v := by omega
      have hm0 : 0 ≤ (x * 16777216 + y * 65536 + z * 256 + v) % n := Int.emod_nonneg _ (by omega)
      have hm1 : (x * 16777216 + y * 65536 + z * 256 + v) % n < n := Int.emod_lt_of_pos _ (by omega)
      have htm : (x * 16777216 + y * 65536 + z * 256 + v).tmod n = (x * 16777216 + y * 65536 + z * 256 + v) % n := Int.tmod_eq_emod_of_nonneg hs0
      go_wp2
      go_ret
      refine ⟨_, rfl, ?_, fun _ => ?_, fun h => by omega, HD4.out⟩
      · omega
      · omega
theorem spec_l01Pick_calls (g : Nat) (A : Option Addr) (c : Nat) (xs : List ByteArray) (w : World) (h : Cu w g) (hr : StrRow w A c xs) (hp : 0 < xs.length) (hl : xs.length ≤ 1000) (hne : ∀ ad, A = some ad → ad.block ≠ g) :
    Calls Tryd.prog 41 #[.pointer (some ⟨g, 0, none⟩), .slice A xs.length c] w fun e w' => ∃ x ∈ xs, e = .returned (.string x) ∧ Drawn w g w' := by
  have HC := Lib.hid h
  have HR := Lib.hid hr
  clear h hr
  go_enter Tryd.func41, Tryd.ntmps41
  go_wp2_with fail
  go_at_call 25
  refine (spec_l01Below_calls g xs.length _ HC.out (by omega)).mono ?_
  rintro e w1 ⟨k, rfl, hk0, hk1, _, hd⟩
  obtain ⟨j, rfl⟩ := Int.eq_ofNat_of_zero_le hk0
  have hj : j < xs.length := by have := hk1 (by omega); omega
  have HD := Lib.hid hd
  obtain ⟨ad, x, hA, hc, _, HX⟩ := HR.out.at_ hj
  have hc' : w1.cell? (ad.add j) = some (.string x) := by
    have hb : ad.block < w.heap.size := by cases hA; exact HR.out.block hj
    exact (World.cell?_of_block (hd.2.block (ad.add j).block (by rw [add_block]; exact hb) (by rw [add_block]; intro e2; exact hne ad hA (Option.some.inj e2)))).trans hc
  have HM := Lib.hid (List.mem_of_getElem? HX.out)
  subst hA
  have hji : (j : Int) < (xs.length : Int) := by omega
  clear hd hk1 hc
  go_wp2
  go_ret
  exact ⟨x, HM.out, rfl, HD.out⟩
end Go.Proofs.YtdoaemagednclaaDoor
