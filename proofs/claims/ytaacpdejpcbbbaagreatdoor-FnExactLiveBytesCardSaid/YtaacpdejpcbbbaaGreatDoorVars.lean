/- Numbers in a row, and their texts: vars. -/
import Derived.Test.YtaacpdejpcbbbaaGreatDoorSh
import Derived.Test.YtaacpdejpcbbbaaGreatDoorBytes
import Derived.Test.YtaacpdejpcbbbaaGreatDoorStrs
namespace Go.Proofs.YtaacpdejpcbbbaaGreatDoor
set_option linter.unusedVariables false
set_option linter.unusedSimpArgs false
open Go.RowKit
attribute [local go_sem] bs_size List.length_cons List.length_nil List.length_append

/-- Numbers in a row. -/
def NatRow (w : World) (g : Nat) (ns : List Nat) : Prop := ∀ (j n : Nat), ns[j]? = some n → w.cell? ⟨g, j, none⟩ = some (.int .i64 (n : Int))
theorem NatRow.below {w w' : World} {g : Nat} {ns : List Nat} (h : NatRow w g ns) (hb : Below w.heap.size w w') : NatRow w' g ns :=
  fun j n hj => (hb.cell (World.block_lt_of_cell? w _ (h j n hj))).trans (h j n hj)
def varsB (ns : List Nat) : List UInt8 := (ns.map varBytes).flatten
theorem varsB_snoc {ns : List Nat} {j n : Nat} (h : ns[j]? = some n) : varsB (ns.take (j + 1)) = varsB (ns.take j) ++ varBytes n := by
  rw [take_snoc h]
  simp [varsB]
theorem varsB_len : ∀ (ns : List Nat), (∀ n ∈ ns, n ≤ 1000000000) → (varsB ns).length ≤ 9 * ns.length
  | [], _ => by simp [varsB]
  | n :: ns, h => by
    have h1 := var_len (n := n) (by have := h n (by simp); omega)
    have h2 := varsB_len ns fun m hm => h m (by simp [hm])
    have e : varsB (n :: ns) = varBytes n ++ varsB ns := by simp [varsB]
    rw [e, List.length_append, List.length_cons]
    omega
set_option maxRecDepth 100000 in
theorem impl_vars_calls (g c : Nat) (ns : List Nat) (w : World) (h : NatRow w g ns) (hn : ∀ n ∈ ns, n ≤ 1000000000) (hl : ns.length ≤ 1000) :
    Calls Tryz.prog 159 #[.slice (some ⟨g, 0, none⟩) ns.length c] w fun e w' => e = .returned (.tuple #[.string (bs (varsB ns)), .bool true]) ∧ Below w.heap.size w w' := by
  have HT := Lib.hid h
  have HN := Lib.hid hn
  have kb := run_bytes
  clear h hn
  go_enter Tryz.func159, Tryz.ntmps159
  go_wp2

  go_loopw [4, 11] (fun v iv wr => ∃ i : Nat, i ≤ ns.length ∧ iv = .int .i64 (i : Int) ∧ Hid (OwnB wr w.heap.size v (varsB (ns.take i))) ∧ Hid (Below w.heap.size w wr)) (fun _ iv _ => ns.length - (intOf iv).toNat)
  case atStart => exact ⟨0, Nat.zero_le _, rfl, OwnB.nil _ _, Below.refl _ _⟩
  case round =>
    obtain ⟨i, hi, rfl, HO, HB⟩ := hrel
    by_cases hlt : i < ns.length
    · obtain ⟨n, hx⟩ : ∃ n, ns[i]? = some n := ⟨_, List.getElem?_eq_getElem hlt⟩
      have hc := HT.out.below HB.out i n hx
      have hn1 := HN.out n (List.mem_of_getElem? hx)
      have HV := Lib.hid (varText_nat hn1)
      have HS := Lib.hid (varsB_snoc hx)
      have hvl := var_len (n := n) (by omega)
      have hrl := varsB_len (ns.take i) fun m hm => HN.out m (List.mem_of_mem_take hm)
      rw [List.length_take] at hrl
      clear hx
      go_wp2_with fail
      go_at_call 141
      refine (impl_VarText_calls n _).mono ?_
      rw [HV.out]
      rintro e w1 ⟨rfl, hb⟩
      have HO1 := Lib.hid (HO.out.below hb)
      have HB1 := Lib.hid (HB.out.trans (hb.mono HB.out.size))
      clear hb
      simp only [varRes]
      go_wp2_with (at_builtin; refine wpList_appBs rfl _ _ rfl w.heap.size _ _ rfl HO1.out (bs (varBytes n)) rfl (by rw [bs_size]; omega) HB1.out.size ?_; intro v1 w2 hown1 hgrow1)
      go_roundw
      case rel => first | exact ⟨i + 1, by omega, by go_num, (by rw [Hid, HS.out]; rw [ub_bs] at hown1; exact hown1), HB1.out.grown hgrow1 HB1.out.size fun k e => (HO1.out.lt k e).1⟩ | (repeat (first | (refine ⟨?relx, rfl⟩; exact ⟨i + 1, by omega, by go_num, (by rw [Hid, HS.out]; rw [ub_bs] at hown1; exact hown1), HB1.out.grown hgrow1 HB1.out.size fun k e => (HO1.out.lt k e).1⟩) | (refine ⟨?relx, ?eqs⟩; (case eqs => (and_intros <;> rfl)); exact ⟨i + 1, by omega, by go_num, (by rw [Hid, HS.out]; rw [ub_bs] at hown1; exact hown1), HB1.out.grown hgrow1 HB1.out.size fun k e => (HO1.out.lt k e).1⟩) | apply Exists.intro))
      case measure => simp [intOf]; omega
    · obtain rfl : i = ns.length := by omega
      have hcv := HO.out.string
      rw [List.take_length] at hcv
      go_wp2
      go_ret2
      exact ⟨rfl, HB.out⟩
theorem natRow_two (w : World) (a b : Nat) : NatRow (w.alloc (.cells #[.int .i64 (a : Int), .int .i64 (b : Int)] 3)) w.heap.size [a, b] := by
  intro j n hj
  have hb := blk_cell (blk_new w (.cells #[.int .i64 (a : Int), .int .i64 (b : Int)] 3)) j
  rw [hb]
  match j with
  | 0 => obtain rfl : a = n := by simpa using hj
         rfl
  | 1 => obtain rfl : b = n := by simpa using hj
         rfl
  | j + 2 => simp at hj
end Go.Proofs.YtaacpdejpcbbbaaGreatDoor
