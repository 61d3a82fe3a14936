/- Array: the program's and the reference's both write the head and every text of the list, one behind the other. -/
import Derived.Test.YtdoaemagednclaaDoorNum
import Derived.Test.YtdoaemagednclaaDoorStrs
import Derived.Test.YtdoaemagednclaaDoorBytes
namespace Go.Proofs.YtdoaemagednclaaDoor
set_option linter.unusedVariables false
set_option linter.unusedSimpArgs false
open Go.RowKit
attribute [local go_sem] bs_size List.length_cons List.length_nil List.length_append

def flat (xs : List ByteArray) : List UInt8 := (xs.map ub).flatten
theorem flat_snoc (xs : List ByteArray) (x : ByteArray) : flat (xs ++ [x]) = flat xs ++ ub x := by simp [flat]
theorem flat_len (xs : List ByteArray) : ((flat xs).length : Int) = szs xs := by
  induction xs with
  | nil => rfl
  | cons x xs ih =>
    have : flat (x :: xs) = ub x ++ flat xs := by simp [flat]
    rw [this, List.length_append, ub_length]
    have : szs (x :: xs) = x.size + szs xs := by simp [szs]
    omega
theorem flat_take (xs : List ByteArray) (k : Nat) : (flat (xs.take k)).length ≤ (flat xs).length := by
  have e : flat xs = flat (xs.take k) ++ flat (xs.drop k) := by
    unfold flat
    rw [← List.flatten_append, ← List.map_append, List.take_append_drop]
  rw [e, List.length_append]
  omega
def headText (n : Int) : List UInt8 := 42 :: Lib.itoa n ++ [13, 10]
theorem headText_eq (n : Int) : ((⟨#[42]⟩ : ByteArray) ++ bs (Lib.itoa n)) ++ (⟨#[13, 10]⟩ : ByteArray) = bs (headText n) := by
  show bs [42] ++ bs (Lib.itoa n) ++ bs [13, 10] = _
  rw [bs_append, bs_append]; rfl
theorem headText_len (n : Int) (h0 : -9223372036854775808 ≤ n) (h1 : n ≤ 9223372036854775807) : (headText n).length ≤ 34 := by
  have := itoa_len n h0 h1
  simp [headText]
  omega
def arrText (xs : List ByteArray) : List UInt8 := headText xs.length ++ flat xs
def ArrRel (xs : List ByteArray) (w : World) (k : Nat) (v : Value) (wr : World) : Prop := OwnB wr w.heap.size v (headText xs.length ++ flat (xs.take k)) ∧ Below w.heap.size w wr
theorem arr_step {xs : List ByteArray} {w wr w1 : World} {k : Nat} {v v1 : Value} {x : ByteArray} (h : ArrRel xs w k v wr) (hx : xs[k]? = some x) {W : World} (hb : Below wr.heap.size wr W)
    (h1 : OwnB w1 w.heap.size v1 ((headText xs.length ++ flat (xs.take k)) ++ ub x)) (hg : W.grownBy w1 v.ownBlock) : ArrRel xs w (k + 1) v1 w1 := by
  refine ⟨?_, (h.2.trans (hb.mono h.2.size)).grown hg (Nat.le_trans h.2.size hb.size) fun b hb => (h.1.lt b hb).1⟩
  rw [take_snoc hx, flat_snoc, ← List.append_assoc]
  exact h1
theorem arr_bound {xs : List ByteArray} {k : Nat} {x : ByteArray} (hx : xs[k]? = some x) (hs : (xs.length : Int) + szs xs ≤ 1048576) : (headText (xs.length : Int) ++ flat (xs.take k)).length + x.size ≤ 140737488355328 := by
  have h1 := flat_take xs (k + 1)
  have h2 := flat_len xs
  rw [take_snoc hx, flat_snoc, List.length_append, ub_length] at h1
  have h3 : 0 ≤ (xs.length : Int) := by omega
  have h4 := headText_len xs.length (by omega) (by omega)
  rw [List.length_append]
  omega
theorem szs_nonneg (xs : List ByteArray) : 0 ≤ szs xs := by rw [← flat_len]; omega
theorem arr_start (xs : List ByteArray) (w w' : World) (hb : Below w.heap.size w w') (hn : xs.length ≤ 1048576) :
    ArrRel xs w 0 (.slice (some ⟨w'.heap.size, 0, none⟩) (1 + (Lib.itoa (xs.length : Int)).length + 2) (grownCap w' (1 + (Lib.itoa (xs.length : Int)).length + 2) 0 5)) (Lib.bytesWorld w' 5 (((⟨#[42]⟩ : ByteArray) ++ bs (Lib.itoa (xs.length : Int))) ++ (⟨#[13, 10]⟩ : ByteArray))) := by
  have hh := headText_len xs.length (by omega) (by omega)
  have z : 1 + (Lib.itoa (xs.length : Int)).length + 2 = (bs (headText xs.length)).size := by rw [bs_size]; simp [headText]; omega
  rw [headText_eq, z]
  have := ownB_bytes w' w.heap.size (bs (headText xs.length)) hb.size (by rw [bs_size]; unfold maxLen; omega)
  rw [ub_bs] at this
  exact ⟨by simpa [flat] using this, bytes_below hb hb.size _⟩
theorem arr_end {xs : List ByteArray} {w wr : World} {v : Value} (h : ArrRel xs w xs.length v wr) : (convert 22 9 v).run Tryd.prog wr = .ok (.string (bs (arrText xs))) wr := by
  have := h.1
  rw [List.take_length] at this
  exact this.string
set_option maxRecDepth 100000 in
theorem impl_Array_calls (A : Option Addr) (c : Nat) (xs : List ByteArray) (w : World) (h : StrRow w A c xs) (hs : (xs.length : Int) + szs xs ≤ 1048576) (hP : Pow w) :
    Calls Tryd.prog 8 #[.slice A xs.length c] w fun e w' => e = .returned (.string (bs (arrText xs))) ∧ Below w.heap.size w w' := by
  have hz := szs_nonneg xs
  have hl := itoa_len xs.length (by omega) (by omega)
  have hh := headText_len xs.length (by omega) (by omega)
  have hn : xs.length ≤ 1048576 := by omega
  have HR := Lib.hid h
  have HP := Lib.hid hP
  have HS := Lib.hid hs
  clear h hP hs
  have kb := run_bytes
  go_enter Tryd.func8, Tryd.ntmps8
  go_wp2_with (go_at_call 27; refine (impl_Decimal_calls _ _ (by omega) (by omega) HP.out).mono ?_; rintro e w' ⟨rfl, hb⟩)
  have HST := Lib.hid (arr_start xs w w' hb hn)
  clear hb
  go_loopw [3, 14] (fun v i wr => ∃ k : Nat, k ≤ xs.length ∧ i = .int .i64 k ∧ ArrRel xs w k v wr) (fun _ i _ => xs.length - (intOf i).toNat)
  case atStart => exact ⟨0, Nat.zero_le _, rfl, HST.out⟩
  case round =>
    obtain ⟨k, hk, rfl, hrel⟩ := hrel
    have HT := Lib.hid hrel
    by_cases hlt : k < xs.length
    · obtain ⟨ad, x, hA, hc, hz, HX⟩ := (HR.out.below hrel.2).at_ hlt
      clear hrel
      cases hA
      go_wp2_with (at_builtin; refine wpList_appBs rfl _ _ rfl w.heap.size _ _ rfl HT.out.1 x rfl (arr_bound HX.out HS.out) HT.out.2.size ?_; intro v1 w1 hown1 hgrow1)
      go_roundw
      case rel => exact ⟨k + 1, by omega, by go_num, arr_step HT.out HX.out (Below.refl _ _) hown1 hgrow1⟩
      case measure => simp [intOf]; omega
    · obtain rfl : k = xs.length := by omega
      have hcv := arr_end hrel
      clear hrel
      go_wp2
      go_ret
      exact ⟨rfl, HT.out.2⟩
theorem bytes_cells (w : World) (s : ByteArray) : ∀ j u, (vB (ub s))[j]? = some u → (Lib.bytesWorld w 5 s).cell? ((⟨w.heap.size, 0, none⟩ : Addr).add j) = some u := by
  intro j u hu
  have hj : j < s.size := by
    have := (List.getElem?_eq_some_iff.1 hu).1
    rw [vB_length, ub_length] at this
    exact this
  rw [add_plain, Lib.bytesWorld_cell w 5 s j hj]
  have h' : j < s.data.toList.length := by rw [Array.length_toList]; exact hj
  simp only [vB, ub, List.getElem?_map, List.getElem?_eq_getElem h', Option.map_some, Option.some.injEq] at hu
  rw [← hu, List.getD_eq_getElem?_getD, List.getElem?_eq_getElem h']
  rfl
set_option maxRecDepth 100000 in
theorem spec_Array_calls (A : Option Addr) (c : Nat) (xs : List ByteArray) (w : World) (h : StrRow w A c xs) (hs : (xs.length : Int) + szs xs ≤ 1048576) :
    Calls Tryd.prog 44 #[.slice A xs.length c] w fun e w' => e = .returned (.string (bs (arrText xs))) ∧ Below w.heap.size w w' := by
  have hz := szs_nonneg xs
  have hl := itoa_len xs.length (by omega) (by omega)
  have hh := headText_len xs.length (by omega) (by omega)
  have hn : xs.length ≤ 1048576 := by omega
  have HR := Lib.hid h
  have HS := Lib.hid hs
  clear h hs
  have kb := run_bytes
  go_enter Tryd.func44, Tryd.ntmps44
  go_wp2_with (go_at_call 19; refine (spec_Decimal_calls _ _ (by omega) (by omega)).mono ?_; rintro e w' ⟨rfl, hb⟩)
  have HST := Lib.hid (arr_start xs w w' hb hn)
  clear hb
  go_loopw [3, 4] (fun v i wr => ∃ k : Nat, k ≤ xs.length ∧ i = .int .i64 k ∧ ArrRel xs w k v wr) (fun _ i _ => xs.length - (intOf i).toNat)
  case atStart => exact ⟨0, Nat.zero_le _, rfl, HST.out⟩
  case round =>
    obtain ⟨k, hk, rfl, hrel⟩ := hrel
    have HT := Lib.hid hrel
    by_cases hlt : k < xs.length
    · obtain ⟨ad, x, hA, hc, hz, HX⟩ := (HR.out.below hrel.2).at_ hlt
      have HBW := Lib.hid (bytes_below (Below.refl wr.heap.size wr) (Nat.le_refl _) x)
      clear hrel
      cases hA
      go_wp2_with (at_builtin; refine wpList_appB rfl _ _ rfl w.heap.size _ _ rfl (HT.out.1.below HBW.out) ⟨wr.heap.size, 0, none⟩ _ (ub x) rfl (bytes_cells wr x) (by rw [ub_length]; exact arr_bound HX.out HS.out) (Nat.le_trans HT.out.2.size HBW.out.size) ?_; intro v1 w1 hown1 hgrow1)
      go_roundw
      case rel => exact ⟨k + 1, by omega, by go_num, arr_step HT.out HX.out HBW.out hown1 hgrow1⟩
      case measure => simp [intOf]; omega
    · obtain rfl : k = xs.length := by omega
      have hcv := arr_end hrel
      clear hrel
      go_wp2
      go_ret
      exact ⟨rfl, HT.out.2⟩
end Go.Proofs.YtdoaemagednclaaDoor
