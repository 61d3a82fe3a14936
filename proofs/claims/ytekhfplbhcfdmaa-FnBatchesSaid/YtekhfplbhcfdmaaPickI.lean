/- The draws: a pick out of a list of numbers. -/
import Derived.Test.YtekhfplbhcfdmaaDraw4
namespace Go.Proofs.Ytekhfplbhcfdmaa
set_option linter.unusedVariables false
set_option linter.unusedSimpArgs false
open Go.RowKit
attribute [local go_sem] bs_size List.length_cons List.length_nil List.length_append

theorem pickInt_at (g b n c : Nat) (zs : List Int) (W : World) (h : Cu W g) (hb : W.heap[b]? = some (.cells (zs.map (Value.int .i64)).toArray 3)) (hbg : b ≠ g) (hn : n = zs.length) (hc : c = zs.length) (hp : 0 < zs.length) (hl : zs.length ≤ 1000) :
    Calls Try.prog 98 #[.pointer (some ⟨g, 0, none⟩), .slice (some ⟨b, 0, none⟩) n c] W fun e w' => ∃ x ∈ zs, e = .returned (.int .i64 x) ∧ Drawn W g w' := by
  subst hn hc
  have HC := Lib.hid h
  have HBK := Lib.hid hb
  have HNE := Lib.hid hbg
  clear h hb hbg
  go_enter Try.func98, Try.ntmps98
  go_wp2_with fail
  go_at_call 97
  refine (spec_l01Below_calls g zs.length _ HC.out (by omega)).mono ?_
  rintro e w1 ⟨k, rfl, hk0, hk1, _, hd⟩
  obtain ⟨j, rfl⟩ := Int.eq_ofNat_of_zero_le hk0
  have hj : j < zs.length := by have := hk1 (by omega); omega
  have HD := Lib.hid hd
  obtain ⟨x, hx⟩ : ∃ x, zs[j]? = some x := ⟨_, List.getElem?_eq_getElem hj⟩
  have hb : w1.heap[b]? = some (.cells (zs.map (Value.int .i64)).toArray 3) := (hd.2.block _ (blk_lt HBK.out) (by intro e2; have := Option.some.inj e2; exact HNE.out this)).trans HBK.out
  have hc' : w1.cell? ⟨b, j, none⟩ = some (.int .i64 x) := by
    rw [blk_cell hb j, List.getElem?_toArray, List.getElem?_map, hx]
    rfl
  have HM := Lib.hid (List.mem_of_getElem? hx)
  have hji : (j : Int) < (zs.length : Int) := by omega
  clear hd hk1 hx hb HBK HC
  go_wp2
  go_ret
  exact ⟨x, HM.out, rfl, HD.out⟩
theorem pickInt_lit (g n c : Nat) (zs : List Int) (cs : Array Value) (w : World) (h : Cu w g) (hcs : cs = (zs.map (Value.int .i64)).toArray) (hn : n = zs.length) (hc : c = zs.length) (hp : 0 < zs.length) (hl : zs.length ≤ 1000) :
    Calls Try.prog 98 #[.pointer (some ⟨g, 0, none⟩), .slice (some ⟨w.heap.size, 0, none⟩) n c] (w.alloc (.cells cs 3)) fun e w' => ∃ x ∈ zs, e = .returned (.int .i64 x) ∧ Drawn w g w' := by
  subst hcs
  refine (pickInt_at g _ n c zs _ (h.alloc _) (blk_new w _) (by have := h.lt; omega) hn hc hp hl).mono ?_
  rintro e w' ⟨x, hx, he, hd⟩
  exact ⟨x, hx, he, (Drawn.alloc h _).trans hd⟩
end Go.Proofs.Ytekhfplbhcfdmaa
