/- The draws: rows of replies; texts of replies, some of them spoilt. -/
import Derived.Test.YtdoaemagednclaaDoorDrawR
namespace Go.Proofs.YtdoaemagednclaaDoor
set_option linter.unusedVariables false
set_option linter.unusedSimpArgs false
open Go.RowKit
attribute [local go_sem] bs_size List.length_cons List.length_nil List.length_append

theorem own_lowS {w : World} {B B' : Nat} {v : Value} {xs : List ByteArray} (h : OwnS w B v xs) (hb : B' ≤ B) : OwnS w B' v xs := by
  refine ⟨h.1, ?_⟩
  rcases h.2 with h2 | ⟨g, cap, cur, e, h3, r⟩
  · exact .inl h2
  · exact .inr ⟨g, cap, cur, e, Nat.le_trans hb h3, r⟩
set_option maxHeartbeats 4000000 in
set_option maxRecDepth 100000 in
theorem spec_DrawArray_calls (A : Option Addr) (c n : Nat) (w : World) (h : ByRow w A n) :
    Calls Tryd.prog 6 #[.slice A n c] w fun e w' => ∃ b c' xs, e = .returned (.slice (some ⟨b, 0, none⟩) xs.length c') ∧ OwnS w' w.heap.size (.slice (some ⟨b, 0, none⟩) xs.length c') xs ∧ xs.length ≤ 4 ∧ RepsOk 3 xs ∧ Below w.heap.size w w' := by
  have HBR := Lib.hid h
  clear h
  go_enter Tryd.func6, Tryd.ntmps6
  go_wp2_with fail
  go_at_call 24
  refine (spec_l01New_calls A c n _ HBR.out).mono ?_
  rintro e w1 ⟨g, rfl, hg, hcu, hb⟩
  have HG := Lib.hid hg
  have HC := Lib.hid hcu
  have HB1 := Lib.hid hb
  have HGL := Lib.hid hcu.lt
  clear hg hcu hb
  go_wp2
  go_loopw [4, 5] (fun v iv wr => ∃ (i b c : Nat) (xs : List ByteArray), iv = .int .i64 (i : Int) ∧ i ≤ 4 ∧ v = .slice (some ⟨b, 0, none⟩) xs.length c ∧ OwnS wr w1.heap.size (.slice (some ⟨b, 0, none⟩) xs.length c) xs ∧ xs.length = i ∧ RepsOk 3 xs ∧ Drawn w1 g wr) (fun _ iv _ => 4 - (intOf iv).toNat)
  case atStart => exact ⟨0, _, _, [], rfl, by omega, rfl, ownS_lit (w := w1) (Nat.le_refl _) _ [] rfl (by simp), rfl, fun x hx => by simp at hx, Drawn.alloc HC.out _⟩
  case round =>
    obtain ⟨i, b, c, xs, rfl, hi4, rfl, hown, hlen, hok, hd⟩ := hrel
    have HO := Lib.hid hown
    have HLEN := Lib.hid hlen
    have HOK := Lib.hid hok
    have HD := Lib.hid hd
    clear hown hlen hok hd
    go_wp2_with fail
    go_at_call 25
    refine (spec_l01Below_calls g 5 _ HD.out.1 (by omega)).mono ?_
    rintro e w4 ⟨z, rfl, hz0, hz1, _, hd4⟩
    have hz1 := hz1 (by omega)
    have HD4 := Lib.hid (HD.out.trans hd4)
    have HO4 : Hid (OwnS w4 w1.heap.size (.slice (some ⟨b, 0, none⟩) xs.length c) xs) := World.ownsRow.kept HO.out hd4.2 (own_ne HO.out.lt HGL.out)
    clear hd4
    by_cases hlt : (i : Int) < z
    · go_wp2_with fail
      go_at_call 26
      refine (drawsRep 3 (Nat.le_refl _) g 0 _ rfl HD4.out.1).mono ?_
      rintro e w5 ⟨q, rfl, hq, hd5⟩
      have HQ := Lib.hid hq
      have HD5 := Lib.hid (HD4.out.trans hd5)
      have HO5 : Hid (OwnS (w5.alloc (.cells #[.string q] 9)) w1.heap.size (.slice (some ⟨b, 0, none⟩) xs.length c) xs) := World.ownsRow.alloc (World.ownsRow.kept HO4.out hd5.2 (own_ne HO.out.lt HGL.out)) _
      clear hd5 hq
      go_wp2_with (at_builtin; refine wpList_appS rfl _ _ rfl w1.heap.size b c xs [q] rfl HO5.out ⟨w5.heap.size, 0, none⟩ 1 1 rfl rfl (World.news_of_block (heap_alloc_new w5 _)) (by have := HLEN.out; simp; omega) (by have := HD5.out.2.size; simp; omega) ?_; intro g2 cap w6 hown hgrow)
      have HO6 := Lib.hid hown
      have HD6 := Lib.hid ((HD5.out.alloc' HGL.out _).grown HGL.out hgrow fun k e => (HO5.out.lt k e).1)
      have HS6 := Lib.hid (HOK.out.snoc HQ.out)
      clear hown hgrow
      go_wp2
      go_roundw
      case rel => first | exact ⟨i + 1, _, _, xs ++ [q], by go_num, by omega, by first | rfl | simp, HO6.out, by rw [List.length_append, HLEN.out]; rfl, HS6.out, HD6.out⟩ | (repeat (first | (refine ⟨?relx, rfl⟩; exact ⟨i + 1, _, _, xs ++ [q], by go_num, by omega, by first | rfl | simp, HO6.out, by rw [List.length_append, HLEN.out]; rfl, HS6.out, HD6.out⟩) | (refine ⟨?relx, ?eqs⟩; (case eqs => (and_intros <;> rfl)); exact ⟨i + 1, _, _, xs ++ [q], by go_num, by omega, by first | rfl | simp, HO6.out, by rw [List.length_append, HLEN.out]; rfl, HS6.out, HD6.out⟩) | apply Exists.intro))
      case measure => simp [intOf]; omega
    · go_wp2
      go_ret
      exact ⟨b, c, xs, rfl, own_lowS HO4.out HB1.out.size, by have := HLEN.out; omega, HOK.out, HD4.out.seen HB1.out HG.out⟩
/-- A text spoilt: what may become of its bytes. -/
def SpoilOf (l l' : List UInt8) : Prop := l' = l ∨ (∃ b, l' = l ++ [b]) ∨ (∃ k, l' = l.take k) ∨ ∃ i b, i < l.length ∧ l' = l.take i ++ [b] ++ l.drop (i + 1)
theorem spoil_nearly {l l' : List UInt8} (h : Chunks l) (h' : SpoilOf l l') : Nearly l' := by
  rcases h' with rfl | ⟨b, rfl⟩ | ⟨k, rfl⟩ | ⟨i, b, hi, rfl⟩
  · exact h.nearly
  · exact h.push b
  · exact h.nearly.take k
  · exact h.put hi b
theorem one_byte {s : ByteArray} (h : s.size = 1) : ∃ b, ub s = [b] := by
  have h1 : (ub s).length = 1 := by rw [ub_length]; exact h
  match hu : ub s, h1 with
  | [b], _ => exact ⟨b, rfl⟩
theorem ub_extract (s : ByteArray) (a b : Nat) : ub (s.extract a b) = ((ub s).take b).drop a := by rw [bs_extract, ub_bs]
set_option maxHeartbeats 4000000 in
set_option maxRecDepth 100000 in
theorem spec_l02Spoil_calls (g : Nat) (s : ByteArray) (w : World) (h : Cu w g) (hs : s.size ≤ 1000000) :
    Calls Tryd.prog 51 #[.pointer (some ⟨g, 0, none⟩), .string s] w fun e w' => ∃ x, e = .returned (.string x) ∧ SpoilOf (ub s) (ub x) ∧ Drawn w g w' := by
  have HC := Lib.hid h
  have HL := Lib.hid h.lt
  clear h
  go_enter Tryd.func51, Tryd.ntmps51
  go_wp2_with fail
  go_at_call 25
  refine (spec_l01Below_calls g 12 _ HC.out (by omega)).mono ?_
  rintro e w1 ⟨x, rfl, hx0, hx1, _, hd⟩
  have hx1 := hx1 (by omega)
  have HD := Lib.hid hd
  clear hd
  by_cases x0 : x = 0
  · subst x0
    go_wp2_with fail
    go_at_call 46
    refine (spec_l01Text_calls g 1 _ HD.out.1 (by omega) (by omega)).mono ?_
    rintro e w2 ⟨y, rfl, hy, hd⟩
    have HD2 := Lib.hid (HD.out.trans hd)
    clear hd
    have hyn : y.size = 1 := by omega
    go_wp2
    go_ret
    obtain ⟨b, hb⟩ := one_byte hyn
    exact ⟨_, rfl, .inr (.inl ⟨b, by rw [ub_app, hb]⟩), HD2.out⟩
  · have b0 : (x == 0) = false := beq_eq_false_iff_ne.mpr x0
    by_cases x1 : x = 1
    · subst x1
      go_wp2_with fail
      go_at_call 25
      refine (spec_l01Below_calls g (s.size + 1) _ HD.out.1 (by omega)).mono ?_
      rintro e w2 ⟨y, rfl, hy0, hy1, _, hd⟩
      have hy1 := hy1 (by omega)
      have HD2 := Lib.hid (HD.out.trans hd)
      clear hd
      obtain ⟨k, rfl⟩ := Int.eq_ofNat_of_zero_le hy0
      have hk : (k : Int) ≤ (s.size : Int) := by omega
      go_wp2
      go_ret
      exact ⟨_, rfl, .inr (.inr (.inl ⟨k, by rw [ub_extract]; simp⟩)), HD2.out⟩
    · have b1 : (x == 1) = false := beq_eq_false_iff_ne.mpr x1
      by_cases x2 : x = 2 ∨ x = 3
      · by_cases hs0 : 0 < s.size
        · have hsi : (0 : Int) < (s.size : Int) := by omega
          rcases x2 with rfl | rfl
          all_goals
            go_wp2_with fail
            go_at_call 25
            refine (spec_l01Below_calls g s.size _ HD.out.1 (by omega)).mono ?_
            rintro e w2 ⟨y, rfl, hy0, hy1, _, hd⟩
            have hy1 := hy1 (by omega)
            have HD2 := Lib.hid (HD.out.trans hd)
            clear hd
            obtain ⟨k, rfl⟩ := Int.eq_ofNat_of_zero_le hy0
            have hk : (k : Int) ≤ (s.size : Int) := by omega
            have hk1 : (k : Int) + 1 ≤ (s.size : Int) := by omega
            have HD2D := Lib.hid (HD2.out.drew)
            have hs1 : (9223372036854775807 < min k s.size + 1) = False := eq_false (by omega)
            have hs2 : (9223372036854775807 < min k s.size + 1 + (s.size - (k + 1))) = False := eq_false (by omega)
            have hwk : IntKind.i64.wrap ((k : Int) + 1) = (k : Int) + 1 := by rw [IntKind.wrap_i64]; omega
            have hk2 : (0 : Int) ≤ (k : Int) + 1 := by omega
            have hk3 : (0 : Int) ≤ (k : Int) := by omega
            have hks : ((s.extract 0 k).size : Int) = (k : Int) := by simp; omega
            have hke : ((s.extract (k + 1) s.size).size : Int) = (s.size : Int) - (k + 1) := by simp; omega
            go_wp2
            go_region_held3 (fun w' => Hid (Drawn w g w')) (first | exact HD2D | exact Lib.hid (HD2D.out.trans hd)) (first | (go_at_call 46; refine (spec_l01Text_calls g 1 _ HD2D.out.1 (by omega) (by omega)).mono ?_; rintro e w' ⟨z, rfl, hz, hd⟩; have hzn : z.size = 1 := by omega))
            have HD3 : Hid (Drawn w g w') := ‹Hid (Drawn w g w')›
            go_wp2
            go_ret
            obtain ⟨b, hb⟩ := one_byte hzn
            refine ⟨_, rfl, .inr (.inr (.inr ⟨k, b, by rw [ub_length]; omega, ?_⟩)), HD3.out⟩
            rw [ub_app, ub_app, hb, ub_extract, ub_extract, List.drop_zero, ← ub_length s, List.take_length]
        · have hs00 : s.size = 0 := by omega
          rcases x2 with rfl | rfl
          all_goals
            go_wp2
            go_ret
            exact ⟨_, rfl, .inl rfl, HD.out⟩
      · have b2 : (x == 2) = false := beq_eq_false_iff_ne.mpr (fun e => x2 (.inl e))
        have b3 : (x == 3) = false := beq_eq_false_iff_ne.mpr (fun e => x2 (.inr e))
        go_wp2
        go_ret
        exact ⟨_, rfl, .inl rfl, HD.out⟩
/-- What may be put behind the replies of a text. -/
def lateB (l : List UInt8) : Bool := l == [58] || l == [58, 45, 48, 13, 10] || l == [36, 45, 50, 13, 10] || l == [42, 49, 13, 10, 42, 49, 13, 10, 42, 49, 13, 10, 42, 49, 13, 10, 42, 48, 13, 10] || l == [42, 49, 13, 10, 42, 49, 13, 10, 42, 49, 13, 10, 42, 48, 13, 10] || l == [36, 53, 13, 10, 97, 98, 13, 10] || l == [42, 50, 13, 10, 43, 97, 13, 10] || l == [58, 48, 49, 13, 10]
def lateS (s : ByteArray) : Bool := lateB s.data.toList && decide (s.size ≤ 20)
theorem late_nearly {l x : List UInt8} (h : Chunks l) (hx : lateB x = true) : Nearly (l ++ x) := by
  simp only [lateB, Bool.or_eq_true, beq_iff_eq] at hx
  have c : ∀ (b r : List UInt8), b.length ≤ 8 → Chunks r → Chunks (b ++ 13 :: 10 :: r) := Chunks.cons
  rcases hx with ((((((rfl | rfl) | rfl) | rfl) | rfl) | rfl) | rfl) | rfl
  · exact h.push 58
  · exact (h.app (c [58, 45, 48] [] (by decide) .nil)).nearly
  · exact (h.app (c [36, 45, 50] [] (by decide) .nil)).nearly
  · exact (h.app (c [42, 49] _ (by decide) (c [42, 49] _ (by decide) (c [42, 49] _ (by decide) (c [42, 49] _ (by decide) (c [42, 48] [] (by decide) .nil)))))).nearly
  · exact (h.app (c [42, 49] _ (by decide) (c [42, 49] _ (by decide) (c [42, 49] _ (by decide) (c [42, 48] [] (by decide) .nil))))).nearly
  · exact (h.app (c [36, 53] _ (by decide) (c [97, 98] [] (by decide) .nil))).nearly
  · exact (h.app (c [42, 50] _ (by decide) (c [43, 97] [] (by decide) .nil))).nearly
  · exact (h.app (c [58, 48, 49] [] (by decide) .nil)).nearly
theorem ub_nil : ub (⟨#[]⟩ : ByteArray) = [] := rfl
set_option maxHeartbeats 4000000 in
set_option maxRecDepth 100000 in
theorem spec_l12Text_calls (g : Nat) (w : World) (h : Cu w g) :
    Calls Tryd.prog 30 #[.pointer (some ⟨g, 0, none⟩)] w fun e w' => ∃ s, e = .returned (.string s) ∧ s.size ≤ 30000 ∧ Nearly (ub s) ∧ Drawn w g w' := by
  have HC := Lib.hid h
  have HL := Lib.hid h.lt
  clear h
  go_enter Tryd.func30, Tryd.ntmps30
  go_wp2
  go_loopw [3, 4] (fun sv iv wr => ∃ (i : Nat) (s : ByteArray), sv = .string s ∧ iv = .int .i64 (i : Int) ∧ i ≤ 4 ∧ s.size ≤ 5000 * i ∧ Hid (Chunks (ub s)) ∧ Hid (Drawn w g wr)) (fun _ iv _ => 4 - (intOf iv).toNat)
  case atStart => exact ⟨0, _, rfl, rfl, by omega, by decide, by rw [ub_nil]; exact Chunks.nil, Drawn.refl HC.out⟩
  case round =>
    obtain ⟨i, s, rfl, rfl, hi4, hsz, HCH, HD⟩ := hrel
    go_wp2_with fail
    go_at_call 25
    refine (spec_l01Below_calls g 5 _ HD.out.1 (by omega)).mono ?_
    rintro e w1 ⟨y, rfl, hy0, hy1, _, hd1⟩
    have hy1 := hy1 (by omega)
    have HD1 := Lib.hid (HD.out.trans hd1)
    clear hd1
    by_cases hlt : (i : Int) < y
    · go_wp2_with fail
      go_at_call 26
      refine (drawsRep 3 (Nat.le_refl _) g 0 _ rfl HD1.out.1).mono ?_
      rintro e w2 ⟨q, rfl, hq, hd5⟩
      have hqs := Nat.le_trans (rep_size hq).2 (repMax_le (Nat.le_refl 3))
      have HCQ : Hid (Chunks (ub (s ++ q))) := by rw [Hid, ub_app]; exact HCH.out.app (rep_chunks hq)
      have HD2 := Lib.hid (HD1.out.trans hd5)
      clear hd5 hq
      go_wp2
      go_roundw
      case rel => first | exact ⟨i + 1, s ++ q, rfl, by go_num, by omega, by rw [ByteArray.size_append]; omega, HCQ, HD2⟩ | (repeat (first | (refine ⟨?relx, rfl⟩; exact ⟨i + 1, s ++ q, rfl, by go_num, by omega, by rw [ByteArray.size_append]; omega, HCQ, HD2⟩) | (refine ⟨?relx, ?eqs⟩; (case eqs => (and_intros <;> rfl)); exact ⟨i + 1, s ++ q, rfl, by go_num, by omega, by rw [ByteArray.size_append]; omega, HCQ, HD2⟩) | apply Exists.intro))
      case measure => simp [intOf]; omega
    · have hs4 : s.size ≤ 20000 := by omega
      clear hsz
      go_wp2_with fail
      go_at_call 25
      refine (spec_l01Below_calls g 8 _ HD1.out.1 (by omega)).mono ?_
      rintro e w2 ⟨u, rfl, hu0, hu1, _, hd2⟩
      have hu1 := hu1 (by omega)
      have HD2 := Lib.hid (HD1.out.trans hd2)
      clear hd2
      by_cases u0 : u = 0
      · subst u0
        go_wp2_with fail
        go_at_call 51
        refine (spec_l02Spoil_calls g s _ HD2.out.1 (by omega)).mono ?_
        rintro e w3 ⟨z, rfl, hz, hd3⟩
        have HD3 := Lib.hid (HD2.out.trans hd3)
        have HZ := Lib.hid (spoil_nearly HCH.out hz)
        have hzs : z.size ≤ 20001 := by
          rw [← ub_length]
          have hl := ub_length s
          rcases hz with e | ⟨b, e⟩ | ⟨k, e⟩ | ⟨j, b, hj, e⟩
          · rw [e]; omega
          · rw [e, List.length_append, List.length_singleton]; omega
          · rw [e, List.length_take]; omega
          · rw [e]; simp; omega
        clear hd3 hz
        go_wp2
        go_ret
        exact ⟨z, rfl, by omega, HZ.out, HD3.out⟩
      · have bu0 : (u == 0) = false := beq_eq_false_iff_ne.mpr u0
        by_cases u1 : u = 1
        · subst u1
          go_wp2_with fail
          go_at_call 25
          refine (spec_l01Below_calls g (s.size + 1) _ HD2.out.1 (by omega)).mono ?_
          rintro e w3 ⟨q, rfl, hq0, hq1, _, hd3⟩
          have hq1 := hq1 (by omega)
          have HD3 := Lib.hid (HD2.out.trans hd3)
          clear hd3
          obtain ⟨k, rfl⟩ := Int.eq_ofNat_of_zero_le hq0
          have hk : (k : Int) ≤ (s.size : Int) := by omega
          go_wp2
          go_ret
          exact ⟨_, rfl, by simp; omega, by rw [ub_extract]; exact HCH.out.nearly.take k, HD3.out⟩
        · have bu1 : (u == 1) = false := beq_eq_false_iff_ne.mpr u1
          by_cases u2 : u = 2
          · subst u2
            go_wp2_with fail
            go_at_call 41
            refine (pick_P lateS g _ _ _ _ HD2.out.1 (by kernel_rfl) (by rfl) (by rfl)).mono ?_
            rintro e w3 ⟨z, rfl, hz, hd3⟩
            have HD3 := Lib.hid (HD2.out.trans hd3)
            simp only [lateS, Bool.and_eq_true, decide_eq_true_eq] at hz
            obtain ⟨hz1, hz2⟩ := hz
            have HZ : Hid (Nearly (ub (s ++ z))) := by rw [Hid, ub_app]; exact late_nearly HCH.out hz1
            clear hd3 hz1
            go_wp2
            go_ret
            exact ⟨_, rfl, by rw [ByteArray.size_append]; omega, HZ.out, HD3.out⟩
          · have bu2 : (u == 2) = false := beq_eq_false_iff_ne.mpr u2
            go_wp2
            go_ret
            exact ⟨_, rfl, by omega, HCH.out.nearly, HD2.out⟩
theorem spec_DrawReplies_calls (A : Option Addr) (c n : Nat) (w : World) (h : ByRow w A n) :
    Calls Tryd.prog 11 #[.slice A n c] w fun e w' => ∃ s, e = .returned (.string s) ∧ s.size ≤ 30000 ∧ Nearly (ub s) ∧ Below w.heap.size w w' := by
  have HBR := Lib.hid h
  clear h
  go_enter Tryd.func11, Tryd.ntmps11
  go_wp2_with fail
  go_at_call 24
  refine (spec_l01New_calls A c n _ HBR.out).mono ?_
  rintro e w1 ⟨g, rfl, hg, hcu, hb⟩
  have HG := Lib.hid hg
  have HC := Lib.hid hcu
  have HB1 := Lib.hid hb
  clear hg hcu hb
  go_wp2_with fail
  go_at_call 30
  refine (spec_l12Text_calls g _ HC.out).mono ?_
  rintro e w2 ⟨s, rfl, hs, hn, hd⟩
  have HN := Lib.hid hn
  have HB2 := Lib.hid (hd.seen HB1.out HG.out)
  clear hn hd
  go_wp2
  go_ret
  exact ⟨s, rfl, hs, HN.out, HB2.out⟩
end Go.Proofs.YtdoaemagednclaaDoor
