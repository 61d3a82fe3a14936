/- The walk of the law FnExactReadSegment. -/
import Derived.Test.YtekhfplbhcfdmaaSeg6
import Derived.Test.YtekhfplbhcfdmaaSeg7
namespace Go.Proofs.Ytekhfplbhcfdmaa
set_option linter.unusedVariables false
set_option linter.unusedSimpArgs false
open Go.RowKit
attribute [local go_sem] bs_size List.length_cons List.length_nil List.length_append

theorem placedGo_few : ∀ (rs : List ByteArray) (last : Option Int) (a : Nat), ∀ p ∈ placedGo last a rs, p.1.2.length ≤ 40
  | [], last, a, p, hp => by simp [placedGo] at hp
  | r :: rs, last, a, p, hp => by
    have ih := fun b => placedGo_few rs (some b) (a + frameLen r) p
    have go : ∀ b : BatD, readBatS r = some b → p ∈ (b, a, frameLen r) :: placedGo (some b.1) (a + frameLen r) rs → p.1.2.length ≤ 40 := by
      intro b hb hp
      rcases List.mem_cons.1 hp with rfl | hp
      · exact (batD_small hb).2.2
      · exact ih b.1 hp
    cases hb : readBatS r with
    | none => rw [placedGo_none hb] at hp; simp at hp
    | some b =>
      cases last with
      | none => rw [placedGo_first hb] at hp; exact go b hb hp
      | some q =>
        by_cases hq : b.1 ≤ q
        · rw [placedGo_low hb hq] at hp; simp at hp
        · rw [placedGo_next hb hq] at hp; exact go b hb hp
theorem segPl_few {n : Int} {s : ByteArray} {f l : Nat} {pls : List PlD} (h : segPl n s = some (f, l, pls)) : ∀ p ∈ pls, p.1.2.length ≤ 40 := by
  cases hh : headOfB n s with
  | none => rw [segPl_none hh] at h; cases h
  | some x =>
    obtain ⟨f', l'⟩ := x
    obtain ⟨r, rs, hu, hl, he⟩ := segPl_some hh
    rw [he] at h
    simp only [Option.some.injEq, Prod.mk.injEq] at h
    obtain ⟨rfl, rfl, rfl⟩ := h
    exact placedGo_few _ _ _
theorem cntB_small : ∀ (bs : List BatD), (∀ b ∈ bs, b.2.length ≤ 40) → cntB bs bs.length ≤ 121 * bs.length
  | [], _ => by simp [cntB]
  | b :: bs, h => by
    have h1 := h b (by simp)
    have h2 := cntB_small bs fun x hx => h x (by simp [hx])
    have e : cntB (b :: bs) (b :: bs).length = (1 + b.2.length * 3) + cntB bs bs.length := by simp [cntB]
    rw [e, List.length_cons]
    omega
/-- Both readings in one form. -/
theorem segPost_uni (n : Int) (s : ByteArray) : ∃ (f en : Int) (bs : List BatD) (b : Bool), bs.length ≤ 20000 ∧ cntB bs bs.length ≤ 10000000 ∧
    ∀ (w : World) (e : Ending) (w' : World), SegPost w (segPl n s) e w' → Below w.heap.size w w' ∧ ∃ v, e = .returned (.tuple #[.int .i64 f, v, .int .i64 en, .bool b]) ∧ BatsOwn w' w.heap.size v bs := by
  cases h : segPl n s with
  | none => exact ⟨0, 0, [], false, by simp, by simp [cntB], fun w e w' hp => ⟨hp.1, hp.2⟩⟩
  | some x =>
    obtain ⟨f, l, pls⟩ := x
    obtain ⟨_, h2, _⟩ := segPl_bound h
    have h3 := cntB_small (pls.map Prod.fst) fun b hb => by
      obtain ⟨p, hp, rfl⟩ := List.mem_map.1 hb
      exact segPl_few h p hp
    rw [List.length_map] at h3
    exact ⟨f, endOf l pls, pls.map Prod.fst, true, by rw [List.length_map]; exact h2, by rw [List.length_map]; omega, fun w e w' hp => ⟨hp.1, hp.2⟩⟩
set_option maxHeartbeats 1000000 in
set_option maxRecDepth 100000 in
theorem walk_FnExactReadSegment (n : Int) (s : ByteArray) (w : World) (hn0 : -9223372036854775808 ≤ n) (hn1 : n ≤ 9223372036854775807) (hz : s.size ≤ 140737488351232) :
    Calls Try.prog 7 #[.int .i64 n, .string s] w fun e w' => e = .returned (.bool true) ∧ Below w.heap.size w w' := by
  by_cases hs : s.size ≤ 1048576
  · obtain ⟨f, en, xs, b, hn, hcn, hpost⟩ := segPost_uni n s
    have HP := Lib.hid hpost
    have hbb : (b != b) = false := by simp
    have hff : (f != f) = false := by simp
    have hee : (en != en) = false := by simp
    clear hpost
    go_enter Try.func7, Try.ntmps7
    go_wp2_with fail
    go_at_call 35
    refine (spec_ReadSegment_calls n s _ (by omega)).mono ?_
    intro e w1 hp
    obtain ⟨hb1, v1, rfl, ho1⟩ := HP.out _ _ _ hp
    have HB1 := Lib.hid hb1
    have HO1 := Lib.hid ho1
    clear hp hb1 ho1
    go_wp2_with fail
    go_at_call 36
    refine (impl_ReadSegment_calls n s _ (by omega)).mono ?_
    intro e w2 hp
    obtain ⟨hb2, v2, rfl, ho2⟩ := HP.out _ _ _ hp
    have HO12 := Lib.hid (HO1.out.below hb2)
    have HO2 := Lib.hid ho2
    have HX2 := Lib.hid hb2
    clear hp hb2 ho2
    go_wp2_with fail
    go_at_call 37
    refine (laws_eqBatchS_calls _ _ v2 v1 xs _ HO2.out HO12.out (by omega)).mono ?_
    rintro e w3 ⟨rfl, hb3⟩
    have HO23 := Lib.hid (HO2.out.below hb3)
    have HX3 := Lib.hid (HX2.out.trans (hb3.mono HX2.out.size))
    clear hb3
    go_wp2_with fail
    go_at_call 38
    refine (laws_markBatchS_calls _ v2 xs 1 _ HO23.out (by omega) (by omega) (by omega) HX3.out.size).mono ?_
    rintro e w4 ⟨rfl, ho4, hb4⟩
    have HX4 := Lib.hid (HX3.out.trans hb4)
    have HO14 := Lib.hid (HO1.out.below HX4.out)
    have HO24 := Lib.hid ho4
    clear ho4 hb4
    go_wp2_with fail
    go_at_call 39
    refine (laws_heldBatchS_calls _ v2 xs 1 _ HO24.out (by omega) (by omega) (by omega)).mono ?_
    rintro e w5 ⟨rfl, hb5⟩
    have HO15 := Lib.hid (HO14.out.below hb5)
    have HO25 := Lib.hid (HO24.out.below hb5)
    have HX5 := Lib.hid (HX4.out.trans (hb5.mono HX4.out.size))
    clear hb5
    have hneg : ¬ ((1 + cntB xs xs.length : Nat) : Int) < 0 := by omega
    go_wp2_with fail
    go_at_call 36
    refine (impl_ReadSegment_calls n s _ (by omega)).mono ?_
    intro e w6 hp
    obtain ⟨hb6, v6, rfl, ho6⟩ := HP.out _ _ _ hp
    have HO16 := Lib.hid (HO15.out.below hb6)
    have HO26 := Lib.hid (HO25.out.below hb6)
    have HO6 := Lib.hid ho6
    have HX6 := Lib.hid (HX5.out.trans (hb6.mono HX5.out.size))
    clear hp hb6 ho6
    go_wp2_with fail
    go_at_call 37
    refine (laws_eqBatchS_calls _ _ v6 v1 xs _ HO6.out HO16.out (by omega)).mono ?_
    rintro e w7 ⟨rfl, hb7⟩
    have HO27 := Lib.hid (HO26.out.below hb7)
    have HX7 := Lib.hid (HX6.out.trans (hb7.mono HX6.out.size))
    clear hb7
    go_wp2_with fail
    go_at_call 39
    refine (laws_heldBatchS_calls _ v2 xs 1 _ HO27.out (by omega) (by omega) (by omega)).mono ?_
    rintro e w8 ⟨rfl, hb8⟩
    have HX8 := Lib.hid (HX7.out.trans (hb8.mono HX7.out.size))
    clear hb8
    go_wp2
    go_ret
    exact ⟨rfl, HB1.out.trans (HX8.out.mono HB1.out.size)⟩
  · go_enter Try.func7, Try.ntmps7
    go_wp2
    go_ret
    exact ⟨rfl, Below.refl _ _⟩
end Go.Proofs.Ytekhfplbhcfdmaa
