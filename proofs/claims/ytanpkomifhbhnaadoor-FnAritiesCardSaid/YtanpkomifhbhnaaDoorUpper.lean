/- Upper: the program's and the reference's both return the text with 97 .. 122 lowered by 32. -/
import Derived.Test.YtanpkomifhbhnaaDoorBytes
namespace Go.Proofs.YtanpkomifhbhnaaDoor
set_option linter.unusedVariables false
set_option linter.unusedSimpArgs false
open Go.RowKit

def bt (s : ByteArray) (i : Nat) : Int := (((ub s).getD i 0).toNat : Int)
theorem bt_range (s : ByteArray) (i : Nat) : 0 ≤ bt s i ∧ bt s i ≤ 255 := by
  unfold bt
  have := ((ub s).getD i 0).toNat_lt
  omega
def upB (b : UInt8) : UInt8 := if 97 ≤ b.toNat ∧ b.toNat ≤ 122 then b - 32 else b
def upS (s : ByteArray) : ByteArray := bs ((ub s).map upB)
def upN (n : Int) : Int := if 97 ≤ n ∧ n ≤ 122 then n - 32 else n
theorem upN_yes {n : Int} (h1 : 97 ≤ n) (h2 : n ≤ 122) : n - 32 = upN n := by unfold upN; rw [if_pos ⟨h1, h2⟩]
theorem upN_no {n : Int} (h : ¬ (97 ≤ n ∧ n ≤ 122)) : upN n = n := by unfold upN; rw [if_neg h]
theorem upB_N (b : UInt8) : ((upB b).toNat : Int) = upN (b.toNat : Int) := by
  unfold upB upN
  by_cases h : 97 ≤ b.toNat ∧ b.toNat ≤ 122
  · rw [if_pos h, if_pos (by omega), UInt8.toNat_sub]
    have : (32 : UInt8).toNat = 32 := rfl
    omega
  · rw [if_neg h, if_neg (by omega)]
/-- The new block behind k rounds: its first k bytes are raised. -/
def UpAt (B : Nat) (s : ByteArray) (k : Nat) (wr : World) : Prop :=
  (∀ j, j < s.size → wr.cell? ⟨B, j, none⟩ = some (.int .u8 (if j < k then upN (bt s j) else bt s j))) ∧
  (∀ j, j < s.size → wr.frozen? ⟨B, j, none⟩ = false)
theorem upAt_start (w : World) (s : ByteArray) : UpAt w.heap.size s 0 (Lib.bytesWorld w 5 s) := by
  refine ⟨fun j hj => ?_, fun j hj => ?_⟩
  · rw [Lib.bytesWorld_cell w 5 s j hj]
    rfl
  · unfold World.frozen?
    rw [Lib.bytesWorld_at_new]
    have hz : s.size ≤ (Lib.bytesCells w 5 s).size := by
      have : s.data.size = s.size := rfl
      simp only [Lib.bytesCells, Array.size_append, Array.size_map, Array.size_replicate, this]
      omega
    simp
    omega
theorem upAt_step {B : Nat} {s : ByteArray} {k : Nat} {wr : World} (h : UpAt B s k wr) (hk : k < s.size) (v : Int) (hv : v = upN (bt s k)) : UpAt B s (k + 1) (wr.setCell ⟨B, k, none⟩ (.int .u8 v)) := by
  subst hv
  refine ⟨fun j hj => ?_, fun j hj => ?_⟩
  · by_cases e : j = k
    · subst e
      rw [World.cell?_setCell_same _ _ _ (h.1 j hj), if_pos (Nat.lt_succ_self j)]
    · have hne : (⟨B, j, none⟩ : Addr) ≠ ⟨B, k, none⟩ := fun x => e (by injection x)
      rw [World.cell?_setCell_other _ _ _ _ (Ne.symm hne), h.1 j hj]
      by_cases l : j < k
      · rw [if_pos l, if_pos (by omega)]
      · rw [if_neg l, if_neg (by omega)]
  · simp [h.2 j hj]
theorem upAt_keep {B : Nat} {s : ByteArray} {k : Nat} {wr : World} (h : UpAt B s k wr) (hv : upN (bt s k) = bt s k) : UpAt B s (k + 1) wr := by
  refine ⟨fun j hj => ?_, h.2⟩
  rw [h.1 j hj]
  by_cases e : j = k
  · subst e
    rw [if_neg (Nat.lt_irrefl j), if_pos (Nat.lt_succ_self j), hv]
  · by_cases l : j < k
    · rw [if_pos l, if_pos (by omega)]
    · rw [if_neg l, if_neg (by omega)]
theorem upAt_end {B : Nat} {s : ByteArray} {wr : World} (h : UpAt B s s.size wr) (c : Nat) : (convert 38 9 (.slice (some ⟨B, 0, none⟩) s.size c)).run Tryd.prog wr = .ok (.string (upS s)) wr := by
  have e : strOfNums ((ub s).map fun b => ((upB b).toNat : Int)) = upS s := by
    unfold strOfNums upS bs
    congr 2
    rw [List.map_map]
    exact List.map_congr_left fun b _ => by simp
  rw [← e]
  refine run_convert_bytes_arg wr 38 5 Tryd.underlying38 Tryd.underlying5 B 0 s.size c _ (by rw [List.length_map, ub_length]) (fun i hi => ?_) 9 Tryd.underlying9
  rw [Nat.zero_add, h.1 i hi, if_pos hi]
  have hl : i < (ub s).length := by rw [ub_length]; exact hi
  unfold bt
  rw [List.getD_eq_getElem?_getD, List.getD_eq_getElem?_getD, List.getElem?_map, List.getElem?_eq_getElem hl]
  simp only [Option.getD_some, Option.map_some, upB_N]
set_option maxRecDepth 100000 in
theorem spec_Upper_calls (s : ByteArray) (w : World) (hs : s.size ≤ 9223372036854775807) :
    Calls Tryd.prog 36 #[.string s] w fun e w' => e = .returned (.string (upS s)) ∧ Below w.heap.size w w' := by
  have kb := run_bytes
  have ST := Lib.hid (upAt_start w s)
  have HB0 := Lib.hid (bytes_below (Below.refl w.heap.size w) (Nat.le_refl _) s)
  go_enter Tryd.func36, Tryd.ntmps36
  go_wp2
  go_loopw [4] (fun i wr => ∃ k : Nat, k ≤ s.size ∧ i = .int .i64 k ∧ UpAt w.heap.size s k wr ∧ Below w.heap.size w wr) (fun i _ => s.size - (intOf i).toNat)
  case atStart => exact ⟨0, Nat.zero_le _, rfl, ST.out, HB0.out⟩
  case round =>
    obtain ⟨k, hk, rfl, hat, hbel⟩ := hrel
    have HAT := Lib.hid hat
    have HBEL := Lib.hid hbel
    by_cases hlt : k < s.size
    · have hc := hat.1 k hlt
      have hf := hat.2 k hlt
      have hr := bt_range s k
      rw [if_neg (Nat.lt_irrefl k)] at hc
      clear hat hbel
      by_cases h1 : 97 ≤ bt s k
      · by_cases h2 : bt s k ≤ 122
        · go_wp2
          go_roundw
          case rel => exact ⟨k + 1, by omega, by go_num, upAt_step HAT.out hlt _ (upN_yes h1 h2), HBEL.out.setCell (Nat.le_refl _) _⟩
          case measure => simp [intOf]; omega
        · go_wp2
          go_roundw
          case rel => exact ⟨k + 1, by omega, by go_num, upAt_keep HAT.out (upN_no (by omega)), HBEL.out⟩
          case measure => simp [intOf]; omega
      · go_wp2
        go_roundw
        case rel => exact ⟨k + 1, by omega, by go_num, upAt_keep HAT.out (upN_no (by omega)), HBEL.out⟩
        case measure => simp [intOf]; omega
    · obtain rfl : k = s.size := by omega
      have hcv := upAt_end hat
      clear hat hbel
      go_wp2
      go_ret
      exact ⟨rfl, HBEL.out⟩
set_option maxRecDepth 100000 in
theorem impl_Upper_calls (s : ByteArray) (w : World) (hs : s.size ≤ 9223372036854775807) :
    Calls Tryd.prog 81 #[.string s] w fun e w' => e = .returned (.string (upS s)) ∧ Below w.heap.size w w' := by
  have kb := run_bytes
  have ST := Lib.hid (upAt_start w s)
  have HB0 := Lib.hid (bytes_below (Below.refl w.heap.size w) (Nat.le_refl _) s)
  go_enter Tryd.func81, Tryd.ntmps81
  go_wp2
  go_loopw [10] (fun i wr => ∃ k : Nat, k ≤ s.size ∧ i = .int .i64 k ∧ UpAt w.heap.size s k wr ∧ Below w.heap.size w wr) (fun i _ => s.size - (intOf i).toNat)
  case atStart => exact ⟨0, Nat.zero_le _, rfl, ST.out, HB0.out⟩
  case round =>
    obtain ⟨k, hk, rfl, hat, hbel⟩ := hrel
    have HAT := Lib.hid hat
    have HBEL := Lib.hid hbel
    by_cases hlt : k < s.size
    · have hc := hat.1 k hlt
      have hf := hat.2 k hlt
      have hr := bt_range s k
      rw [if_neg (Nat.lt_irrefl k)] at hc
      clear hat hbel
      by_cases h1 : 97 ≤ bt s k
      · by_cases h2 : bt s k ≤ 122
        · go_wp2
          go_roundw
          case rel => exact ⟨k + 1, by omega, by go_num, upAt_step HAT.out hlt _ (upN_yes h1 h2), HBEL.out.setCell (Nat.le_refl _) _⟩
          case measure => simp [intOf]; omega
        · go_wp2
          go_roundw
          case rel => exact ⟨k + 1, by omega, by go_num, upAt_keep HAT.out (upN_no (by omega)), HBEL.out⟩
          case measure => simp [intOf]; omega
      · go_wp2
        go_roundw
        case rel => exact ⟨k + 1, by omega, by go_num, upAt_keep HAT.out (upN_no (by omega)), HBEL.out⟩
        case measure => simp [intOf]; omega
    · obtain rfl : k = s.size := by omega
      have hcv := upAt_end hat
      clear hat hbel
      go_wp2
      go_ret
      exact ⟨rfl, HBEL.out⟩
end Go.Proofs.YtanpkomifhbhnaaDoor
