/- ReadShort, the reader's text, byte and done; the cursor's Take and ReadShort. -/
import Derived.Test.YtaacpdejpcbbbaaGreatDoorRd
namespace Go.Proofs.YtaacpdejpcbbbaaGreatDoor
set_option linter.unusedVariables false
set_option linter.unusedSimpArgs false
open Go.RowKit
attribute [local go_sem] bs_size List.length_cons List.length_nil List.length_append

def readShort (l : List UInt8) : Option (List UInt8 × Nat) := match readVar l with
  | some (n, k) => if n ≤ 20000 ∧ n ≤ l.length - k then some ((l.drop k).take n, k + n) else none
  | none => none
def rsRes (a : Nat) (o : Option (List UInt8 × Nat)) : Value := match o with
  | some (t, m) => .tuple #[.string (bs t), .int .i64 ((a + m : Nat) : Int), .bool true]
  | none => .tuple #[.string ⟨#[]⟩, .int .i64 0, .bool false]
theorem ret_rs {a : Nat} {o o' : Option (List UInt8 × Nat)} (h : o = o') : Ending.returned (rsRes a o') = Ending.returned (rsRes a o) := by rw [h]
theorem ret_rs3 {a m : Nat} {x : List UInt8} {z : ByteArray} {y : Int} (hz : z = bs x) (hy : y = ((a + m : Nat) : Int)) {o : Option (List UInt8 × Nat)} (h : o = some (x, m)) : Ending.returned (.tuple #[.string z, .int .i64 y, .bool true]) = Ending.returned (rsRes a o) := by rw [h, hz, hy]; rfl
theorem readShort_none {l : List UInt8} (h : readVar l = none) : readShort l = none := by unfold readShort; rw [h]
theorem readShort_no {l : List UInt8} {n k : Nat} (h : readVar l = some (n, k)) (h1 : ¬ (n ≤ 20000 ∧ n ≤ l.length - k)) : readShort l = none := by unfold readShort; rw [h]; exact if_neg h1
theorem readShort_yes {l : List UInt8} {n k : Nat} (h : readVar l = some (n, k)) (h1 : n ≤ 20000 ∧ n ≤ l.length - k) : readShort l = some ((l.drop k).take n, k + n) := by unfold readShort; rw [h]; exact if_pos h1
theorem tail_tail (s : ByteArray) (a k : Nat) : (tail_ s a).drop k = tail_ s (a + k) := by unfold tail_; rw [List.drop_drop]
theorem readVar_bound {s : ByteArray} {a n k : Nat} (h : readVar (tail_ s a) = some (n, k)) : n ≤ 1000000000 ∧ a + k ≤ s.size + (a - s.size) ∧ 1 ≤ k := by
  obtain ⟨h1, _, h3, h4, _⟩ := readVar_spec h
  rw [tail_len] at h3
  exact ⟨h1, by omega, h4⟩
set_option maxRecDepth 100000 in
theorem impl_ReadShort_calls (s : ByteArray) (a : Nat) (w : World) (ha : a ≤ s.size) (hs : s.size ≤ 1125899906842624) :
    Calls Tryz.prog 172 #[.string s, .int .i64 (a : Int)] w fun e w' => e = .returned (rsRes a (readShort (tail_ s a))) ∧ Below w.heap.size w w' := by
  cases hv : readVar (tail_ s a) with
  | none =>
    have HR := Lib.hid (readShort_none hv)
    have HV := Lib.hid hv
    clear hv
    go_enter Tryz.func172, Tryz.ntmps172
    go_wp2_with fail
    go_at_call 136
    refine (impl_ReadVar_calls s a _ ha hs).mono ?_
    rw [HV.out]
    rintro e w' ⟨rfl, hb⟩
    simp only [rvRes]
    go_wp2
    go_ret3
    exact ⟨ret_rs HR.out, hb⟩
  | some pk =>
    obtain ⟨n, k⟩ := pk
    obtain ⟨hn, hk, _⟩ := readVar_bound hv
    have hl := tail_len s a
    by_cases h1 : n ≤ 20000
    · by_cases h2 : n ≤ s.size - (a + k)
      · have HR := Lib.hid (readShort_yes hv ⟨h1, by omega⟩)
        have HV := Lib.hid hv
        have hsl : s.extract (a + k) (a + k + n) = bs (((tail_ s a).drop k).take n) := by rw [extract_tail, tail_tail]
        have hz1 : ((a : Int) + (k : Int)).toNat = a + k := by omega
        have hz2 : ((a : Int) + (k : Int) + (n : Int)).toNat = a + k + n := by omega
        clear hv
        go_enter Tryz.func172, Tryz.ntmps172
        go_wp2_with fail
        go_at_call 136
        refine (impl_ReadVar_calls s a _ ha hs).mono ?_
        rw [HV.out]
        rintro e w' ⟨rfl, hb⟩
        simp only [rvRes]
        go_wp2
        go_ret3
        exact ⟨ret_rs3 rfl (by omega) HR.out, hb⟩
      · have HR := Lib.hid (readShort_no hv (by omega))
        have HV := Lib.hid hv
        clear hv
        go_enter Tryz.func172, Tryz.ntmps172
        go_wp2_with fail
        go_at_call 136
        refine (impl_ReadVar_calls s a _ ha hs).mono ?_
        rw [HV.out]
        rintro e w' ⟨rfl, hb⟩
        simp only [rvRes]
        go_wp2
        go_ret3
        exact ⟨ret_rs HR.out, hb⟩
    · have HR := Lib.hid (readShort_no hv (by omega))
      have HV := Lib.hid hv
      clear hv
      go_enter Tryz.func172, Tryz.ntmps172
      go_wp2_with fail
      go_at_call 136
      refine (impl_ReadVar_calls s a _ ha hs).mono ?_
      rw [HV.out]
      rintro e w' ⟨rfl, hb⟩
      simp only [rvRes]
      go_wp2
      go_ret3
      exact ⟨ret_rs HR.out, hb⟩
end Go.Proofs.YtaacpdejpcbbbaaGreatDoor
