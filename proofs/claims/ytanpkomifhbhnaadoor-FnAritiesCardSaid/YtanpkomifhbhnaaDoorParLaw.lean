/- The walk of the law FnExactParseRequest. -/
import Derived.Test.YtanpkomifhbhnaaDoorReq8
import Derived.Test.YtanpkomifhbhnaaDoorMark
import Derived.Shelf.LaysM
namespace Go.Proofs.YtanpkomifhbhnaaDoor
set_option linter.unusedVariables false
set_option linter.unusedSimpArgs false
open Go.RowKit
attribute [local go_sem] bs_size List.length_cons List.length_nil List.length_append

theorem maxAt_of_shaped {w : World} (h : w.ShapedOpen Tryd.prog) : MaxAt w := by
  obtain ⟨m, hm⟩ := Go.Proofs.cell_of_shapedOpen_int (zero := #[.int .i64 0]) (g := 4) (t := 3) h (of_decide_eq_true (by kernel_rfl)) (by kernel_rfl) rfl (by kernel_rfl) (by kernel_rfl) Tryd.underlying3
  exact ⟨World.block_lt_of_cell? w _ hm, m, hm⟩
theorem StrRow.other {w w' : World} {c' : Nat} {A : Option Addr} {v : Value} {xs : List ByteArray} (h : StrRow w A c' xs) (hg : w.grownBy w' v.ownBlock) (hne : ∀ ad, A = some ad → v.ownBlock ≠ some ad.block) : StrRow w' A c' xs :=
  ⟨h.1, h.2.1, h.2.2.1, fun hp => by
    obtain ⟨ad, e, hl, hc⟩ := h.2.2.2 hp
    refine ⟨ad, e, Nat.lt_of_lt_of_le hl hg.size, fun j hj => ?_⟩
    have := hg.block (ad.add j).block (by rw [add_block]; exact hl) (by rw [add_block]; exact fun e2 => hne ad e e2.symm)
    exact (World.cell?_of_block this).trans (hc j hj)⟩
theorem StrOwn.lt {w : World} {B : Nat} {v : Value} {xs : List ByteArray} (h : StrOwn w B v xs) : ∀ k, v.ownBlock = some k → B ≤ k ∧ k < w.heap.size := by
  intro k hk
  rcases h with ⟨rfl, _⟩ | ⟨b, c, rfl, hB, more, hb, _⟩
  · simp [Value.ownBlock] at hk
  · simp only [Value.ownBlock, Option.some.injEq] at hk
    subst hk
    exact ⟨hB, blk_lt hb⟩
theorem StrOwn.rowMarks {w : World} {B n c k : Nat} {A : Option Addr} (h : StrOwn w B (.slice A n c) (marks k n)) (hk : k + n ≤ 1000000000000) : StrRow w A c (marks k n) := by
  obtain ⟨A', c', e, hr⟩ := h.row (marks_size hk)
  injection e with e1 e2 e3
  subst e1 e3
  exact hr
theorem own_apart {w1 w2 : World} {B n c1 c2 : Nat} {A1 A2 : Option Addr} {xs ys : List ByteArray} (h1 : StrOwn w1 B (.slice A1 xs.length c1) xs) (h2 : StrOwn w2 w1.heap.size (.slice A2 n c2) ys) : ∀ ad, A1 = some ad → (Value.slice A2 n c2).ownBlock ≠ some ad.block := by
  intro ad e h
  have h3 := (h2.lt _ h).1
  subst e
  rcases h1 with ⟨e, _⟩ | ⟨b, c, e, _, more, hb, _⟩
  · cases e
  · injection e with e1 e2 e3
    injection e1 with e1
    subst e1
    have := blk_lt hb
    simp at h3
    omega
theorem argsB_small : ∀ (m : Nat) (l : List UInt8), (argsB m l).1.length ≤ m ∧ ∀ x ∈ (argsB m l).1, x.length ≤ 60
  | 0, _ => by simp [argsB]
  | m + 1, l => by
    by_cases h : (bulkB l).2.2 = 1
    · rw [argsB_succ (x := (bulkB l).1) (u := (bulkB l).2.1) (Prod.ext rfl (Prod.ext rfl h))]
      obtain ⟨h1, h2⟩ := argsB_small m (l.drop (bulkB l).2.1)
      split
      · simp
      · refine ⟨by simp; omega, fun x hx => ?_⟩
        rcases List.mem_cons.1 hx with rfl | hx
        · exact (bulkB_ok (x := (bulkB l).1) (u := (bulkB l).2.1) (Prod.ext rfl (Prod.ext rfl h))).2
        · exact h2 x hx
    · rw [argsB_fail h]; simp
theorem lineB_small (l : List UInt8) : (lineB l).1.length ≤ 8 ∧ ∀ x ∈ (lineB l).1, x.length ≤ 60 := by
  unfold lineB
  split
  · simp
  · split
    · simp
    · split
      · simp
      · rename_i h
        unfold wordsBad at h
        simp only [Bool.or_eq_true, not_or, List.any_eq_true, not_exists, not_and, decide_eq_true_eq] at h
        exact ⟨Nat.le_of_not_lt h.2, fun x hx => by have := h.1 x hx; omega⟩
theorem reqB_small (l : List UInt8) : (reqB l).1.length ≤ 8 ∧ ∀ x ∈ (reqB l).1, x.length ≤ 60 := by
  unfold reqB
  split
  · simp
  · split
    · exact lineB_small l
    · split
      · simp
      · rename_i h
        have hm := (numB_most (most := 8) (l := l.drop 1) (n := (numB 8 (l.drop 1)).1) (u := (numB 8 (l.drop 1)).2.1) (Prod.ext rfl (Prod.ext rfl (Decidable.not_not.1 h)))).1
        split
        · simp
        · obtain ⟨h1, h2⟩ := argsB_small (numB 8 (l.drop 1)).1 (l.drop (1 + (numB 8 (l.drop 1)).2.1))
          exact ⟨by show (argsB _ _).1.length ≤ 8; omega, h2⟩
set_option maxHeartbeats 4000000 in
set_option maxRecDepth 100000 in
theorem walk_FnExactParseRequest (s : ByteArray) (w : World) (hz : s.size ≤ 140737488351232) (hM : MaxAt w) :
    Calls Tryd.prog 5 #[.string s] w fun e w' => e = .returned (.bool true) ∧ Below w.heap.size w w' := by
  have HM := Lib.hid hM
  have HM1 := Lib.hid hM.1
  clear hM
  by_cases hs : s.size ≤ 1048576
  · obtain ⟨hn0, hx0⟩ := reqB_small (ub s)
    have HX : Hid (∀ x ∈ (reqB (ub s)).1.map bs, x.size ≤ 9223372036854775807) := fun x hx => by
      obtain ⟨y, hy, rfl⟩ := List.mem_map.1 hx
      have := hx0 y hy
      rw [bs_size]
      omega
    have hn : ((reqB (ub s)).1.map bs).length ≤ 8 := by rw [List.length_map]; exact hn0
    have HSP := Lib.hid (fun w => spec_ParseRequest_calls s w hs)
    have HIM := Lib.hid (fun w hM => impl_ParseRequest_calls s w hs hM)
    unfold ReqPost at HSP HIM
    clear hn0 hx0
    generalize (reqB (ub s)).1.map bs = xs at HX hn HSP HIM
    generalize (reqB (ub s)).2.1 = n1 at HSP HIM
    generalize (reqB (ub s)).2.2 = n2 at HSP HIM
    have hb1 : ((n1 : Int) != (n1 : Int)) = false := by simp
    have hb2 : ((n2 : Int) != (n2 : Int)) = false := by simp
    have he := eqS_self xs
    go_enter Tryd.func5, Tryd.ntmps5
    go_wp2_with fail
    go_at_call 19
    refine (HSP.out _).mono ?_
    rintro e w1 ⟨hb1, v1, rfl, ho1⟩
    obtain ⟨A1, c1, rfl, hr1⟩ := ho1.row HX.out
    have HB1 := Lib.hid hb1
    have HO1 := Lib.hid ho1
    have HR1 := Lib.hid hr1
    clear hb1 ho1 hr1
    go_wp2_with fail
    go_at_call 20
    refine (HIM.out _ (HM.out.below HB1.out HM1.out)).mono ?_
    rintro e w2 ⟨hb2, v2, rfl, ho2⟩
    obtain ⟨A2, c2, rfl, hr2⟩ := ho2.row HX.out
    have HB2 := Lib.hid (HB1.out.trans (hb2.mono HB1.out.size))
    have HR12 := Lib.hid (HR1.out.below hb2)
    have HO2 := Lib.hid ho2
    have HR2 := Lib.hid hr2
    have HAP := Lib.hid (own_apart HO1.out ho2)
    have HBK : Hid (∀ k, (Value.slice A2 xs.length c2).ownBlock = some k → w.heap.size ≤ k) := fun k hk => Nat.le_trans HB1.out.size (ho2.lt k hk).1
    clear hb2 ho2 hr2
    go_wp2_with fail
    go_at_call 16
    refine (laws_eqStringS_calls _ _ xs _ _ xs _ HR2.out HR12.out).mono ?_
    rw [he]
    rintro e w3 ⟨rfl, hb3⟩
    have HR13 := Lib.hid (HR12.out.below hb3)
    have HO3 := Lib.hid (HO2.out.below hb3)
    have HB3 := Lib.hid (HB2.out.trans (hb3.mono HB2.out.size))
    clear hb3
    go_wp2_with fail
    go_at_call 21
    refine (laws_markStringS_calls _ _ xs 1 _ HO3.out (by omega) (by omega)).mono ?_
    rintro e w4 ⟨rfl, ho4, hg4⟩
    have HR14 := Lib.hid (HR13.out.other hg4 HAP.out)
    have HR4 := Lib.hid (ho4.rowMarks (by omega))
    have HB4 := Lib.hid (HB3.out.grown hg4 HB3.out.size HBK.out)
    clear ho4 hg4
    go_wp2_with fail
    go_at_call 22
    refine (laws_heldStringS_calls _ _ xs.length 1 _ HR4.out (by omega) (by omega)).mono ?_
    rintro e w5 ⟨rfl, hb5⟩
    have HR15 := Lib.hid (HR14.out.below hb5)
    have HR5 := Lib.hid (HR4.out.below hb5)
    have HB5 := Lib.hid (HB4.out.trans (hb5.mono HB4.out.size))
    clear hb5
    go_wp2_with fail
    go_at_call 20
    refine (HIM.out _ (HM.out.below HB5.out HM1.out)).mono ?_
    rintro e w6 ⟨hb6, v6, rfl, ho6⟩
    obtain ⟨A6, c6, rfl, hr6⟩ := ho6.row HX.out
    have HB6 := Lib.hid (HB5.out.trans (hb6.mono HB5.out.size))
    have HR16 := Lib.hid (HR15.out.below hb6)
    have HR56 := Lib.hid (HR5.out.below hb6)
    have HR6 := Lib.hid hr6
    clear hb6 ho6 hr6
    go_wp2_with fail
    go_at_call 16
    refine (laws_eqStringS_calls _ _ xs _ _ xs _ HR6.out HR16.out).mono ?_
    rw [he]
    rintro e w7 ⟨rfl, hb7⟩
    have HR7 := Lib.hid (HR56.out.below hb7)
    have HB7 := Lib.hid (HB6.out.trans (hb7.mono HB6.out.size))
    clear hb7
    go_wp2_with fail
    go_at_call 22
    refine (laws_heldStringS_calls _ _ xs.length 1 _ HR7.out (by omega) (by omega)).mono ?_
    rintro e w8 ⟨rfl, hb8⟩
    have HB8 := Lib.hid (HB7.out.trans (hb8.mono HB7.out.size))
    clear hb8
    go_wp2
    go_ret
    exact ⟨rfl, HB8.out⟩
  · go_enter Tryd.func5, Tryd.ntmps5
    go_wp2
    go_ret
    exact ⟨rfl, Below.refl _ _⟩
end Go.Proofs.YtanpkomifhbhnaaDoor
