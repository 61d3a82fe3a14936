/- RequestText: the program's and the reference's both refuse more than eight arguments and any of more than 60 bytes, and else write the head and each argument's Bulk. -/
import Derived.Test.YtanpkomifhbhnaaDoorArr
import Derived.Deep.RegionHeld3

namespace Go.Proofs.YtanpkomifhbhnaaDoor
set_option linter.unusedVariables false
set_option linter.unusedSimpArgs false
open Go.RowKit
attribute [local go_sem] bs_size List.length_cons List.length_nil List.length_append

def bulks (xs : List ByteArray) : List UInt8 := (xs.map fun x => bulkText (ub x)).flatten
theorem bulks_snoc (xs : List ByteArray) (x : ByteArray) : bulks (xs ++ [x]) = bulks xs ++ bulkText (ub x) := by simp [bulks]
theorem bulkText_len (x : ByteArray) (h : x.size ≤ 140737488351232) : (bulkText (ub x)).length ≤ x.size + 36 := by
  have := itoa_len ((ub x).length : Int) (by omega) (by rw [ub_length]; omega)
  have := ub_length x
  simp [bulkText]
  omega
def fitAll (xs : List ByteArray) : Bool := xs.all fun x => decide (x.size ≤ 60)
theorem fitAll_snoc (xs : List ByteArray) (x : ByteArray) : fitAll (xs ++ [x]) = (fitAll xs && decide (x.size ≤ 60)) := by simp [fitAll]
theorem bulks_len (xs : List ByteArray) (h : fitAll xs = true) : (bulks xs).length ≤ 96 * xs.length := by
  induction xs with
  | nil => simp [bulks]
  | cons x xs ih =>
    have e : bulks (x :: xs) = bulkText (ub x) ++ bulks xs := by simp [bulks]
    simp only [fitAll, List.all_cons, Bool.and_eq_true, decide_eq_true_eq] at h
    have := ih (by simpa [fitAll] using h.2)
    have := bulkText_len x (by omega)
    rw [e, List.length_append, List.length_cons]
    omega
/-- What RequestText hands back. -/
def reqText (xs : List ByteArray) : Option (List UInt8) := if xs.length ≤ 8 then if fitAll xs = true then some (headText xs.length ++ bulks xs) else none else none
def optText (o : Option (List UInt8)) : Value := match o with
  | some l => .tuple #[.string (bs l), .bool true]
  | none => .tuple #[.string ⟨#[]⟩, .bool false]
theorem req_long {xs : List ByteArray} (h : 8 < xs.length) : Ending.returned (.tuple #[.string ⟨#[]⟩, .bool false]) = .returned (optText (reqText xs)) := by
  unfold reqText
  rw [if_neg (by omega)]
  rfl
theorem req_wide {xs : List ByteArray} {k : Nat} {x : ByteArray} (hx : xs[k]? = some x) (h : 60 < x.size) : Ending.returned (.tuple #[.string ⟨#[]⟩, .bool false]) = .returned (optText (reqText xs)) := by
  have : fitAll xs = false := by
    unfold fitAll
    refine List.all_eq_false.2 ⟨x, List.mem_of_getElem? hx, by simp; omega⟩
  unfold reqText
  rw [this]
  split <;> rfl
theorem req_done {xs : List ByteArray} (h : xs.length ≤ 8) (hf : fitAll (xs.take xs.length) = true) {s : ByteArray} (hs : s = bs (headText xs.length ++ bulks (xs.take xs.length))) : Ending.returned (.tuple #[.string s, .bool true]) = .returned (optText (reqText xs)) := by
  rw [List.take_length] at hf hs
  unfold reqText
  rw [if_pos h, if_pos hf, hs]
  rfl
def ReqRel (xs : List ByteArray) (k : Nat) (s : ByteArray) : Prop := fitAll (xs.take k) = true ∧ s = bs (headText xs.length ++ bulks (xs.take k))
theorem req_step {xs : List ByteArray} {k : Nat} {s x : ByteArray} (h : ReqRel xs k s) (hx : xs[k]? = some x) (hf : x.size ≤ 60) {t : ByteArray} (ht : t = s ++ bs (bulkText (ub x))) : ReqRel xs (k + 1) t := by
  refine ⟨by rw [take_snoc hx, fitAll_snoc, h.1]; simpa using hf, ?_⟩
  rw [ht, h.2, bs_append, take_snoc hx, bulks_snoc, List.append_assoc]
theorem req_size {xs : List ByteArray} {k : Nat} {s : ByteArray} (h : ReqRel xs k s) (hx : xs.length ≤ 8) : s.size ≤ 1000 := by
  have h1 := bulks_len _ h.1
  have h2 := headText_len xs.length (by omega) (by omega)
  have h3 : (xs.take k).length ≤ 8 := by rw [List.length_take]; omega
  rw [h.2, bs_size, List.length_append]
  omega
theorem req_start (xs : List ByteArray) : ReqRel xs 0 (((⟨#[42]⟩ : ByteArray) ++ bs (Lib.itoa (xs.length : Int))) ++ (⟨#[13, 10]⟩ : ByteArray)) :=
  ⟨rfl, by rw [headText_eq]; simp [bulks]⟩
set_option maxRecDepth 100000 in
theorem impl_RequestText_calls (A : Option Addr) (c : Nat) (xs : List ByteArray) (w : World) (h : StrRow w A c xs) (hP : Pow w) :
    Calls Tryd.prog 32 #[.slice A xs.length c] w fun e w' => e = .returned (optText (reqText xs)) ∧ Below w.heap.size w w' := by
  have hm := h.len
  have HR := Lib.hid h
  have HP := Lib.hid hP
  clear h hP
  by_cases h8 : 8 < xs.length
  · go_enter Tryd.func32, Tryd.ntmps32
    go_wp2
    go_ret2
    exact ⟨req_long h8, Below.refl _ _⟩
  · have hl := itoa_len xs.length (by omega) (by omega)
    have HST := Lib.hid (req_start xs)
    go_enter Tryd.func32, Tryd.ntmps32
    go_wp2_with (go_at_call 68; refine (impl_Decimal_calls _ _ (by omega) (by omega) HP.out).mono ?_; rintro e w' ⟨rfl, hb⟩)
    have HB := Lib.hid hb
    clear hb
    go_loopw [4, 17] (fun s i wr => ∃ (k : Nat) (S : ByteArray), k ≤ xs.length ∧ i = .int .i64 k ∧ s = .string S ∧ ReqRel xs k S ∧ Below w.heap.size w wr) (fun _ i _ => xs.length - (intOf i).toNat)
    case atStart => exact ⟨0, _, Nat.zero_le _, rfl, rfl, HST.out, HB.out⟩
    case round =>
      obtain ⟨k, S, hk, rfl, rfl, hrel, hbel⟩ := hrel
      have hS := req_size hrel (by omega)
      have HT := Lib.hid hrel
      have HBE := Lib.hid hbel
      clear hrel
      by_cases hlt : k < xs.length
      · obtain ⟨ad, x, hA, hc, hz, HX⟩ := (HR.out.below hbel).at_ hlt
        clear hbel
        cases hA
        by_cases h60 : 60 < x.size
        · go_wp2
          go_ret2
          exact ⟨req_wide HX.out h60, HBE.out⟩
        · have hbl := bulkText_len x (by omega)
          go_wp2_with (go_at_call 46; refine (impl_Bulk_calls x _ (by omega) (HP.out.below HBE.out)).mono ?_; rintro e w2 ⟨rfl, hb2⟩)
          go_roundw
          case rel => exact ⟨k + 1, _, by omega, by go_num, rfl, req_step HT.out HX.out (by omega) rfl, HBE.out.trans (hb2.mono HBE.out.size)⟩
          case measure => simp [intOf]; omega
      · obtain rfl : k = xs.length := by omega
        clear hbel
        go_wp2
        go_ret2
        exact ⟨req_done (by omega) HT.out.1 HT.out.2, HBE.out⟩
theorem req_step2 {xs : List ByteArray} {k : Nat} {s x : ByteArray} (h : ReqRel xs k s) (hx : xs[k]? = some x) (hf : x.size ≤ 60) : ReqRel xs (k + 1) (((((s ++ (⟨#[36]⟩ : ByteArray)) ++ bs (Lib.itoa (x.size : Int))) ++ (⟨#[13, 10]⟩ : ByteArray)) ++ x) ++ (⟨#[13, 10]⟩ : ByteArray)) := by
  refine req_step h hx hf ?_
  rw [← bulkText_eq x _ rfl]
  simp only [ByteArray.append_assoc]
end Go.Proofs.YtanpkomifhbhnaaDoor
