/- Sort and DeleteFunc on a row of ints of the call's own. -/
import Derived.Test.YticnhfflppkpoaaGreatDoorSegsS
import Derived.Test.YticnhfflppkpoaaGreatDoorShelf
import Derived.Sort.OwnSortedInts
import Derived.Shelf.Slices.In.SortNone
namespace Go.Proofs.YticnhfflppkpoaaGreatDoor
set_option linter.unusedVariables false
set_option linter.unusedSimpArgs false
open Go.RowKit
attribute [local go_sem] bs_size List.length_cons List.length_nil List.length_append

theorem impl_Segments1_calls (x a : Int) (g : Nat) (w : World) (h : w.cell? ⟨g, 0, none⟩ = some (.int .i64 a)) :
    Calls Tryz.prog 45 #[.int .i64 x, .pointer (some ⟨g, 0, none⟩)] w fun e w' => e = .returned (.bool (decide (x < a))) ∧ w' = w := by
  by_cases hx : x < a
  · have hd : decide (x < a) = true := decide_eq_true hx
    go_enter Tryz.func45, Tryz.ntmps45
    go_wp2
    go_ret
    exact ⟨by first | rfl | exact ret_bool hd.symm | simp [hx], rfl⟩
  · have hd : decide (x < a) = false := decide_eq_false hx
    go_enter Tryz.func45, Tryz.ntmps45
    go_wp2
    go_ret
    exact ⟨by first | rfl | exact ret_bool hd.symm | simp [hx], rfl⟩
theorem sort_own {B : Nat} {v : Value} {ns : List Int} {w : World} (h : OwnI w B v ns) (hl : ns.length ≤ 1000000) :
    Calls Tryz.prog 43 #[v] w fun e w' => e = .returned (.tuple #[]) ∧ OwnI w' B v (ns.mergeSort fun x y => decide (x ≤ y)) ∧ w.grownBy w' v.ownBlock := by
  have hm : (ns.mergeSort fun x y => decide (x ≤ y)).length = ns.length := List.length_mergeSort _
  rcases h.2 with ⟨rfl, h0⟩ | ⟨g, cap, cur, rfl, hg, hb, h1, h2, h3, h4⟩
  · have hn : ns = [] := List.eq_nil_of_length_eq_zero h0
    subst hn
    refine (Any.slices_Sort_int_none Tryz.lays189 none 0 w).mono fun e w' ⟨he, hw⟩ => ?_
    subst hw
    exact ⟨he, by simpa using h, World.grownBy.refl _ _⟩
  · rw [Nat.mul_one] at h4
    refine (Tryz.slices_Sort_int g 0 cap ns w (holds_of_blockI hb h4) (Array.getElem?_eq_some_iff.1 hb).1 (by omega)).mono fun e w' ⟨he, n, os, hw⟩ => ?_
    subst hw
    refine ⟨he, ?_, grownBy_sortedI _⟩
    unfold OwnI
    rw [hm]
    exact ownsRow_sortedI hm hg hb h1 h2 h3
theorem OwnI.short {w : World} {B : Nat} {g cap : Nat} {xs zs : List Int} (h : OwnI w B (.slice (some ⟨g, 0, none⟩) (xs ++ zs).length cap) (xs ++ zs)) : OwnI w B (.slice (some ⟨g, 0, none⟩) xs.length cap) xs := by
  rcases h.2 with ⟨h0, _⟩ | ⟨g', cap', cur, e, hg, hb, h1, h2, h3, h4⟩
  · cases h0
  · cases e
    rw [List.length_append] at h1
    refine ⟨by simp, .inr ⟨g, cap, cur, rfl, hg, hb, by omega, h2, h3, ?_⟩⟩
    rw [Nat.mul_one] at h4 ⊢
    have := congrArg (List.take xs.length) h4
    rw [List.take_take, List.map_append, List.length_append, Nat.min_eq_left (by omega), List.take_left' (by simp)] at this
    exact this
set_option maxRecDepth 100000 in
theorem delete_own {B gl : Nat} {a : Int} {v : Value} {ns : List Int} {w : World} (h : OwnI w B v ns) (hl : ns.length ≤ 1000000) (hc : w.cell? ⟨gl, 0, none⟩ = some (.int .i64 a)) (hgl : gl < B) :
    Calls Tryz.prog 44 #[v, .func (.func 45) #[] #[.pointer (some ⟨gl, 0, none⟩)]] w fun e w' => ∃ v', e = .returned v' ∧ OwnI w' B v' (ns.filter fun x => !decide (x < a)) ∧ w.grownBy w' v.ownBlock := by
  have hgw := World.block_lt_of_cell? w _ hc
  rcases h.2 with ⟨rfl, h0⟩ | ⟨g, cap, cur, rfl, hg, hb, h1, h2, h3, h4⟩
  · have hn : ns = [] := List.eq_nil_of_length_eq_zero h0
    subst hn
    have HO := Lib.hid h
    clear h h0 hl hc hgl hgw
    go_enter Tryz.func44, Tryz.ntmps44
    go_wp2_with fail
    go_at_call 73
    refine (Tryz.slices_IndexFunc_empty (α := Int) none 0 _ _).mono ?_
    rintro e w' ⟨rfl, rfl⟩
    go_wp2
    go_ret
    exact ⟨_, rfl, HO.out, World.grownBy.refl _ _⟩
  · rw [Nat.mul_one] at h4
    have hns : ns.toArray.size = ns.length := by simp
    have key : ∀ (W : World) (x : Int), W.cell? ⟨gl, 0, none⟩ = some (.int .i64 a) → FnGives Tryz.prog 45 #[.pointer (some ⟨gl, 0, none⟩)] #[.int .i64 x] (.bool (decide (x < a))) W := fun W x hW =>
      (impl_Segments1_calls x a gl W hW).mono fun e w' ⟨he, hw⟩ => ⟨he, 0, by rw [hw]; rfl⟩
    have hD := Tryz.slices_DeleteFunc (Value.int .i64) (fun _ => rfl) (fun x : Int => decide (x < a)) 45 #[.pointer (some ⟨gl, 0, none⟩)] (fun _ _ => rfl) (0 : Int) (fun _ => rfl) g 0 cap ns.toArray w
      (fun W x hW => key W x ((hW.cell hgw).trans hc)) (fun n os dk x hs => key _ x ((World.cell?_of_block ((grownBy_sortedI (w := w) (g := g) (n := n) (os := os) dk).block gl hgw (by intro e; have := Option.some.inj e; omega))).trans hc)) (holds_of_blockI hb h4) (by rw [hns]; omega) (by rw [hns]; exact h1)
    rw [hns] at hD
    refine hD.mono fun e w' ⟨he, q, hw⟩ => ?_
    rw [show ns.toArray.toList = ns from rfl] at he hw
    generalize hF : ns.filter (fun x => !decide (x < a)) = F at he hw ⊢
    have hFl : F.length ≤ ns.length := by rw [← hF]; exact List.length_filter_le _ _
    have hz : (F ++ List.replicate (ns.length - F.length) (0 : Int)).length = ns.length := by rw [List.length_append, List.length_replicate]; omega
    have hw2 : w' = Sort.grow (Sort.putRow (Value.int .i64) (Sort.ahead w q) g 0 (F ++ List.replicate (ns.length - F.length) (0 : Int)).toArray) #[] := by rw [hw]; simp
    subst hw2
    refine ⟨_, he, ?_, grownBy_sortedI _⟩
    refine OwnI.short (zs := List.replicate (ns.length - F.length) (0 : Int)) ?_
    unfold OwnI
    rw [hz]
    exact ownsRow_sortedI hz hg hb h1 h2 h3
end Go.Proofs.YticnhfflppkpoaaGreatDoor
