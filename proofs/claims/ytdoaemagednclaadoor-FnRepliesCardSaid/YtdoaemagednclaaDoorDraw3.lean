/- The draws: words, keys, drawn bytes, a text spoilt. -/
import Derived.Test.YtdoaemagednclaaDoorDraw2
import Derived.Test.YtdoaemagednclaaDoorBytes
namespace Go.Proofs.YtdoaemagednclaaDoor
set_option linter.unusedVariables false
set_option linter.unusedSimpArgs false
open Go.RowKit
attribute [local go_sem] bs_size List.length_cons List.length_nil List.length_append

theorem own_ne {w : World} {B g : Nat} {v : Value} (h : ∀ k, v.ownBlock = some k → B ≤ k ∧ k < w.heap.size) (hg : g < B) : v.ownBlock = none ∨ v.ownBlock ≠ some g := by
  cases hv : v.ownBlock with
  | none => exact .inl rfl
  | some k => exact .inr fun e => by have := (h k hv).1; cases e; omega
set_option maxHeartbeats 4000000 in
set_option maxRecDepth 100000 in
theorem spec_l01Text_calls (g : Nat) (n : Int) (w : World) (h : Cu w g) (h0 : 0 ≤ n) (h1 : n ≤ 5000) :
    Calls Tryd.prog 46 #[.pointer (some ⟨g, 0, none⟩), .int .i64 n] w fun e w' => ∃ x, e = .returned (.string x) ∧ (x.size : Int) = n ∧ Drawn w g w' := by
  have HC := Lib.hid h
  have HL := Lib.hid h.lt
  clear h
  obtain ⟨m, rfl⟩ := Int.eq_ofNat_of_zero_le h0
  go_enter Tryd.func46, Tryd.ntmps46
  go_wp2
  go_loopw [5, 6] (fun v iv wr => ∃ (i : Nat) (l : List UInt8), iv = .int .i64 (i : Int) ∧ i ≤ m ∧ l.length = i ∧ OwnB wr w.heap.size v l ∧ Drawn w g wr) (fun _ iv _ => m - (intOf iv).toNat)
  case atStart => exact ⟨0, [], rfl, Nat.zero_le _, rfl, .inr ⟨w.heap.size, 0, #[], (0, 0), rfl, Nat.le_refl _, heap_alloc_new w _, Nat.le_refl _, by decide, rfl, rfl, .inl rfl⟩, Drawn.alloc HC.out _⟩
  case round =>
    obtain ⟨i, l, rfl, him, hl, hown, hd⟩ := hrel
    have HE := Lib.hid hl
    have HO := Lib.hid hown
    have HD := Lib.hid hd
    have HLL : Hid (l.length ≤ 5000) := by rw [Hid]; omega
    clear hl hown hd
    by_cases hlt : i < m
    · have hli : (i : Int) < (m : Int) := by omega
      go_wp2_with fail
      go_at_call 32
      refine (spec_l01Byte_calls g _ HD.out.1).mono ?_
      rintro e w1 ⟨x, rfl, hx0, hx1, hd⟩
      have HO1 := Lib.hid (HO.out.kept hd.2 (own_ne HO.out.lt HL.out))
      have HBS : Hid (w.heap.size ≤ w1.heap.size) := Nat.le_trans HD.out.2.size hd.2.size
      have HD1 := Lib.hid (HD.out.trans hd)
      have hwx : IntKind.u8.wrap x = x := by rw [IntKind.wrap_u8]; omega
      clear hd
      go_wp2_with (at_builtin; refine wpList_appB1 rfl _ _ rfl w.heap.size _ _ rfl HO1.out _ (by omega) (by omega) _ rfl (by have := HLL.out; omega) HBS.out ?_; intro v1 w2 hown1 hgrow1)
      have HO2 := Lib.hid hown1
      have HD2 := Lib.hid ((HD1.out.alloc' HL.out _).grown HL.out hgrow1 fun k e => (HO1.out.lt k e).1)
      clear hown1 hgrow1
      go_roundw
      case rel => first | exact ⟨i + 1, _, by go_num, by omega, by rw [List.length_append, HE.out]; rfl, HO2.out, HD2.out⟩ | (repeat (first | (refine ⟨?relx, rfl⟩; exact ⟨i + 1, _, by go_num, by omega, by rw [List.length_append, HE.out]; rfl, HO2.out, HD2.out⟩) | (refine ⟨?relx, ?eqs⟩; (case eqs => (and_intros <;> rfl)); exact ⟨i + 1, _, by go_num, by omega, by rw [List.length_append, HE.out]; rfl, HO2.out, HD2.out⟩) | apply Exists.intro))
      case measure => simp [intOf]; omega
    · obtain rfl : i = m := by omega
      have hcv := HO.out.string
      go_wp2
      go_ret
      exact ⟨_, rfl, by rw [bs_size, HE.out], HD.out⟩
end Go.Proofs.YtdoaemagednclaaDoor
