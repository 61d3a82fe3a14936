/- For every text s: the program's Upper and the reference's Upper both return s with 97..122 lowered by 32 (upS); the law FnExactUpper returns true. No condition but the form's own reach. -/
import Derived.Test.YtldneiodfhpiaaaPFnExactUpperx0
import Derived.Lib.Hide
namespace Go.Proofs.Ytldneiodfhpiaaa.CUpper
open Go.RowKit Go.Proofs.YtldneiodfhpiaaaW.PrintWords Go.Proofs.YtldneiodfhpiaaaW.PrintLast Go.Proofs.YtldneiodfhpiaaaW.PrintMore
def upN (n : Int) : Int := if 97 ≤ n ∧ n ≤ 122 then n - 32 else n
def upList (s : ByteArray) : List Int := (bytesOf s).map upN
def upS (s : ByteArray) : ByteArray := strOfNums (upList s)
/-- The new block behind k rounds: its first k bytes are raised. -/
def UpAt (B : Nat) (s : ByteArray) (k : Nat) (wr : World) : Prop :=
  (∀ j, j < s.size → wr.cell? ⟨B, j, none⟩ = some (.int .u8 (if j < k then upN (bt s j) else bt s j))) ∧
  (∀ j, j < s.size → wr.frozen? ⟨B, j, none⟩ = false)
theorem upAt_start (w : World) (s : ByteArray) : UpAt w.heap.size s 0 (Lib.bytesWorld w 5 s) := by
  refine ⟨fun j hj => ?_, fun j hj => ?_⟩
  · rw [Lib.bytesWorld_cell w 5 s j hj]
    simp [bt, hj, List.getD_eq_getElem?_getD]
    rfl
  · unfold World.frozen?
    rw [Lib.bytesWorld_at_new]
    have hz : s.size ≤ (Lib.bytesCells w 5 s).size := by
      simp [Lib.bytesCells]
    simp
    omega
theorem cell_set_same {w : World} {g k : Nat} {u v : Value} (h : w.cell? ⟨g, k, none⟩ = some u) : (w.setCell ⟨g, k, none⟩ v).cell? ⟨g, k, none⟩ = some v :=
  World.cell?_setCell_same _ _ _ h
theorem upAt_step {B : Nat} {s : ByteArray} {k : Nat} {wr : World} (h : UpAt B s k wr) (hk : k < s.size) (v : Int) (hv : v = upN (bt s k)) : UpAt B s (k + 1) (wr.setCell ⟨B, k, none⟩ (.int .u8 v)) := by
  subst hv
  refine ⟨fun j hj => ?_, fun j hj => ?_⟩
  · by_cases e : j = k
    · subst e
      rw [cell_set_same (h.1 j hj), if_pos (Nat.lt_succ_self j)]
    · have hne : (⟨B, j, none⟩ : Addr) ≠ ⟨B, k, none⟩ := fun x => e (by injection x)
      rw [World.cell?_setCell_other _ _ _ _ (Ne.symm hne), h.1 j hj]
      by_cases l : j < k
      · rw [if_pos l, if_pos (by omega)]
      · rw [if_neg l, if_neg (by omega)]
  · simp [h.2 j hj]
theorem upAt_keep {B : Nat} {s : ByteArray} {k : Nat} {wr : World} (h : UpAt B s k wr) (hv : upN (bt s k) = bt s k) : UpAt B s (k + 1) wr := by
  refine ⟨fun j hj => ?_, h.2⟩
  rw [h.1 j hj]
  by_cases e : j = k
  · subst e
    rw [if_neg (Nat.lt_irrefl j), if_pos (Nat.lt_succ_self j), hv]
  · by_cases l : j < k
    · rw [if_pos l, if_pos (by omega)]
    · rw [if_neg l, if_neg (by omega)]
theorem upList_get (s : ByteArray) (i : Nat) (h : i < s.size) : (upList s).getD i 0 = upN (bt s i) := by
  have e := rd_bytesOf s i
  unfold rd at e
  simp only [Int.toNat_natCast] at e
  have hl : i < (bytesOf s).length := by rw [bytesOf_length]; exact h
  rw [← e, upList, List.getD_eq_getElem?_getD, List.getD_eq_getElem?_getD, List.getElem?_map, List.getElem?_eq_getElem hl]
  rfl
theorem upN_yes {n : Int} (h1 : 97 ≤ n) (h2 : n ≤ 122) : n - 32 = upN n := by unfold upN; rw [if_pos ⟨h1, h2⟩]
theorem upN_no {n : Int} (h : ¬ (97 ≤ n ∧ n ≤ 122)) : upN n = n := by unfold upN; rw [if_neg h]
set_option maxRecDepth 100000 in
theorem spec_Upper.calls (s : ByteArray) (w : World) (hs : s.size ≤ 140737488351232) :
    Calls Try.prog 14 #[.string s] w fun e w' => e = .returned (.string (upS s)) ∧ Below w.heap.size w w' := by
  have kb := fun W => print_bytes (P := Try.prog) 9 33 5 Try.underlying9 Try.underlying33 Try.underlying5 s W
  have ST := Lib.hid (upAt_start w s)
  have HB0 := Lib.hid (bytes_below (Below.refl w.heap.size w) (Nat.le_refl _) 5 s)
  go_enter Try.func14, Try.ntmps14
  go_wp2
  go_loopw [4] (fun i wr => ∃ k : Nat, k ≤ s.size ∧ i = .int .i64 k ∧ UpAt w.heap.size s k wr ∧ Below w.heap.size w wr) (fun i _ => s.size - (intOf i).toNat)
  case atStart => exact ⟨0, Nat.zero_le _, rfl, ST.out, HB0.out⟩
  case round =>
    obtain ⟨k, hk, rfl, hat, hbel⟩ := hrel
    by_cases hlt : k < s.size
    · have hc := hat.1 k hlt
      have hf := hat.2 k hlt
      have hr := bt_range s k
      rw [if_neg (Nat.lt_irrefl k)] at hc
      have HAT := Lib.hid hat
      have HBEL := Lib.hid hbel
      clear hat hbel
      by_cases h1 : 97 ≤ bt s k
      · by_cases h2 : bt s k ≤ 122
        · go_wp2
          go_roundw
          case rel => exact ⟨k + 1, by omega, by go_num, upAt_step HAT.out hlt _ (upN_yes h1 h2), HBEL.out.setCell (Nat.le_refl _) _⟩
          case measure => simp [intOf]; omega
        · go_wp2
          go_roundw
          case rel => exact ⟨k + 1, by omega, by go_num, upAt_keep HAT.out (upN_no (by omega)), HBEL.out⟩
          case measure => simp [intOf]; omega
      · go_wp2
        go_roundw
        case rel => exact ⟨k + 1, by omega, by go_num, upAt_keep HAT.out (upN_no (by omega)), HBEL.out⟩
        case measure => simp [intOf]; omega
    · obtain rfl : k = s.size := by omega
      have HBEL := Lib.hid hbel
      clear hbel
      have hcv : ∀ c, (convert 33 9 (.slice (some ⟨w.heap.size, 0, none⟩) s.size c)).run Try.prog wr = .ok (.string (upS s)) wr := fun c => by
        refine run_convert_bytes_arg wr 33 5 Try.underlying33 Try.underlying5 w.heap.size 0 s.size c (upList s) (by simp [upList, bytesOf_length]) (fun i hi => ?_) 9 Try.underlying9
        have hi' : i < s.size := by simpa [upList, bytesOf_length] using hi
        rw [Nat.zero_add, hat.1 i hi', if_pos hi', upList_get s i hi']
      clear hat
      go_wp2
      go_ret
      exact ⟨rfl, HBEL.out⟩
set_option maxRecDepth 100000 in
theorem impl_Upper.calls (s : ByteArray) (w : World) (hs : s.size ≤ 140737488351232) :
    Calls Try.prog 15 #[.string s] w fun e w' => e = .returned (.string (upS s)) ∧ Below w.heap.size w w' := by
  have kb := fun W => print_bytes (P := Try.prog) 9 33 5 Try.underlying9 Try.underlying33 Try.underlying5 s W
  have ST := Lib.hid (upAt_start w s)
  have HB0 := Lib.hid (bytes_below (Below.refl w.heap.size w) (Nat.le_refl _) 5 s)
  go_enter Try.func15, Try.ntmps15
  go_wp2
  go_loopw [10] (fun i wr => ∃ k : Nat, k ≤ s.size ∧ i = .int .i64 k ∧ UpAt w.heap.size s k wr ∧ Below w.heap.size w wr) (fun i _ => s.size - (intOf i).toNat)
  case atStart => exact ⟨0, Nat.zero_le _, rfl, ST.out, HB0.out⟩
  case round =>
    obtain ⟨k, hk, rfl, hat, hbel⟩ := hrel
    by_cases hlt : k < s.size
    · have hc := hat.1 k hlt
      have hf := hat.2 k hlt
      have hr := bt_range s k
      rw [if_neg (Nat.lt_irrefl k)] at hc
      have HAT := Lib.hid hat
      have HBEL := Lib.hid hbel
      clear hat hbel
      by_cases h1 : 97 ≤ bt s k
      · by_cases h2 : bt s k ≤ 122
        · go_wp2
          go_roundw
          case rel => exact ⟨k + 1, by omega, by go_num, upAt_step HAT.out hlt _ (upN_yes h1 h2), HBEL.out.setCell (Nat.le_refl _) _⟩
          case measure => simp [intOf]; omega
        · go_wp2
          go_roundw
          case rel => exact ⟨k + 1, by omega, by go_num, upAt_keep HAT.out (upN_no (by omega)), HBEL.out⟩
          case measure => simp [intOf]; omega
      · go_wp2
        go_roundw
        case rel => exact ⟨k + 1, by omega, by go_num, upAt_keep HAT.out (upN_no (by omega)), HBEL.out⟩
        case measure => simp [intOf]; omega
    · obtain rfl : k = s.size := by omega
      have HBEL := Lib.hid hbel
      clear hbel
      have hcv : ∀ c, (convert 33 9 (.slice (some ⟨w.heap.size, 0, none⟩) s.size c)).run Try.prog wr = .ok (.string (upS s)) wr := fun c => by
        refine run_convert_bytes_arg wr 33 5 Try.underlying33 Try.underlying5 w.heap.size 0 s.size c (upList s) (by simp [upList, bytesOf_length]) (fun i hi => ?_) 9 Try.underlying9
        have hi' : i < s.size := by simpa [upList, bytesOf_length] using hi
        rw [Nat.zero_add, hat.1 i hi', if_pos hi', upList_get s i hi']
      clear hat
      go_wp2
      go_ret
      exact ⟨rfl, HBEL.out⟩
set_option maxRecDepth 100000 in
theorem walk (a0 : ByteArray) (w : World) (hs : a0.size ≤ 140737488351232) :
    Calls Try.prog 6 #[.string a0] w fun e w' => e = .returned (.bool true) ∧ Below w.heap.size w w' := by
  by_cases h : 1048576 < a0.size
  · go_enter Try.func6, Try.ntmps6
    go_wp2
    go_ret
    exact ⟨rfl, Below.refl _ _⟩
  · go_enter Try.func6, Try.ntmps6
    go_wp2_with (first
      | (go_at_call 14; refine (spec_Upper.calls a0 _ hs).mono ?_; rintro e w' ⟨rfl, hb⟩)
      | (go_at_call 15; refine (impl_Upper.calls a0 _ hs).mono ?_; rintro e w' ⟨rfl, hb'⟩))
    go_ret
    exact ⟨by simp, hb.trans (hb'.mono hb.size)⟩
end Go.Proofs.Ytldneiodfhpiaaa.CUpper
