/- The draws: bytes with requests in them. -/
import Derived.Test.YtldneiodfhpiaaaDoorDraw6
import Derived.Test.YtldneiodfhpiaaaDoorReq
import Derived.Deep.RegionHeld3
namespace Go.Proofs.YtldneiodfhpiaaaDoor
set_option linter.unusedVariables false
set_option linter.unusedSimpArgs false
open Go.RowKit
attribute [local go_sem] bs_size List.length_cons List.length_nil List.length_append

theorem req_text {xs : List ByteArray} (hk : xs.length ≤ 8) (hs : ∀ x ∈ xs, x.size ≤ 60) : ∃ t : ByteArray, optText (reqText xs) = .tuple #[.string t, .bool true] ∧ t.size ≤ 1000 := by
  have hf : fitAll xs = true := List.all_eq_true.2 fun x hx => decide_eq_true (hs x hx)
  refine ⟨bs (headText xs.length ++ bulks xs), ?_, ?_⟩
  · unfold reqText
    rw [if_pos hk, if_pos hf]
    rfl
  · have h1 := bulks_len xs hf
    have h2 : (headText xs.length).length ≤ 40 := by
      have := itoa_len xs.length (by omega) (by omega)
      simp [headText]
      omega
    rw [bs_size, List.length_append]
    omega
theorem StrRow.grown {w w' : World} {c : Nat} {A : Option Addr} {xs : List ByteArray} {row : Option Nat} (h : StrRow w A c xs) (hg : w.grownBy w' row) (hne : ∀ ad, A = some ad → row ≠ some ad.block) : StrRow w' A c xs :=
  ⟨h.1, h.2.1, h.2.2.1, fun hp => by
    obtain ⟨ad, e, hl, hc⟩ := h.2.2.2 hp
    refine ⟨ad, e, Nat.lt_of_lt_of_le hl hg.size, fun j hj => ?_⟩
    have := hg.block (ad.add j).block (by rw [add_block]; exact hl) (by rw [add_block]; exact fun e2 => hne ad e e2.symm)
    exact (World.cell?_of_block this).trans (hc j hj)⟩
/-- What stays while texts are picked: a cell that is read, and the draw. -/
def HeldD (w : World) (g : Nat) (a : Addr) (x : ByteArray) (W : World) : Prop := W.cell? a = some (.string x) ∧ Hid (Drawn w g W)
theorem heldD_alloc {w W : World} {g : Nat} {a : Addr} {x : ByteArray} (h : HeldD w g a x W) (hl : g < w.heap.size) (o : Obj) : HeldD w g a x (W.alloc o) :=
  ⟨(World.cell?_of_block ((World.grownBy_alloc W o none).block a.block (World.block_lt_of_cell? W _ h.1) (by simp))).trans h.1, h.2.out.alloc' hl o⟩
theorem heldD_drew {w W : World} {g : Nat} {a : Addr} {x : ByteArray} (h : HeldD w g a x W) : HeldD w g a x W.drew := ⟨h.1, h.2.out.drew⟩
theorem heldD_drawn {w W W' : World} {g : Nat} {a : Addr} {x : ByteArray} (h : HeldD w g a x W) (hne : some g ≠ some a.block) (hd : Drawn W g W') : HeldD w g a x W' :=
  ⟨(World.cell?_of_block (hd.2.block a.block (World.block_lt_of_cell? W _ h.1) (fun e => hne e.symm))).trans h.1, h.2.out.trans hd⟩
theorem spec_l01Long_calls' (m : Int) (n : Nat) (x : Int) (b : UInt8) (w : World) (hm : m = (n : Int)) (hx : x = (b.toNat : Int)) (h1 : n ≤ 1000) :
    Calls Tryd.prog 55 #[.int .i64 m, .int .u8 x] w fun e w' => ∃ x, e = .returned (.string x) ∧ x.size = n ∧ Below w.heap.size w w' := by
  subst hm
  exact spec_l01Long_calls n x b w hx h1
set_option maxHeartbeats 16000000 in
set_option maxRecDepth 100000 in
theorem spec_l11Buf_calls (g : Nat) (w : World) (h : Cu w g) :
    Calls Tryd.prog 35 #[.pointer (some ⟨g, 0, none⟩)] w fun e w' => ∃ s, e = .returned (.string s) ∧ s.size ≤ 10000 ∧ Drawn w g w' := by
  have HC := Lib.hid h
  have HL := Lib.hid h.lt
  clear h
  go_enter Tryd.func35, Tryd.ntmps35
  go_wp2
  go_loopw [3, 4] (fun sv iv wr => ∃ (i : Nat) (s : ByteArray), sv = .string s ∧ iv = .int .i64 (i : Int) ∧ i ≤ 4 ∧ s.size ≤ 1100 * i ∧ Hid (Drawn w g wr)) (fun _ iv _ => 4 - (intOf iv).toNat)
  case atStart => exact ⟨0, _, rfl, rfl, by omega, by decide, Drawn.refl HC.out⟩
  case round =>
    obtain ⟨i, s, rfl, rfl, hi4, hsz, HD⟩ := hrel
    go_wp2_with fail
    go_at_call 50
    refine (spec_l01Below_calls g 4 _ HD.out.1 (by omega)).mono ?_
    rintro e w1 ⟨y, rfl, hy0, hy1, _, hd1⟩
    have hy1 := hy1 (by omega)
    have HD1 := Lib.hid (HD.out.trans hd1)
    clear hd1
    by_cases hlt : (i : Int) < y
    · go_wp2_with fail
      go_at_call 51
      refine (spec_l11Args_calls g _ HD1.out.1).mono ?_
      rintro e w2 ⟨b, c, xs, rfl, ho, hk, hsm, hd⟩
      have HD2 := Lib.hid (HD1.out.trans hd)
      obtain ⟨A, c', hv, hrow⟩ := (ho.own (Nat.le_refl _)).row (fun x hx => by have := hsm x hx; omega)
      injection hv with e1 e2 e3
      subst e1 e3
      have HROW := Lib.hid hrow
      have HBG : Hid (some g ≠ some b) := by have := (World.ownsRow.lt ho b rfl).1; have := HL.out; have := HD1.out.2.size; intro e; have := Option.some.inj e; omega
      have HSM := Lib.hid hsm
      obtain ⟨t, ht, htz⟩ := req_text hk hsm
      have HT := Lib.hid ht
      clear ho hd hrow hsm ht e2
      go_wp2_with fail
      go_at_call 31
      refine (spec_RequestText_calls _ _ xs _ HROW.out).mono ?_
      rw [HT.out]
      rintro e w3 ⟨rfl, hb⟩
      have HD3 := Lib.hid (HD2.out.below HL.out hb)
      have HROW3 := Lib.hid (HROW.out.below hb)
      clear hb HROW
      go_upto_if 23 with (go_at_call 52; refine (spec_l01Once_calls g 4 _ HD3.out.1 (by omega)).mono ?_; rintro e w4 ⟨b4, rfl, hd4⟩)
      have HD4 := Lib.hid (HD3.out.trans hd4)
      have HROW4 := Lib.hid (HROW3.out.grown hd4.2 fun ad e => by cases e; exact HBG.out)
      clear hd4 HROW3
      go_cut [6] from 9 to 48 (fun v wx => ∃ t : ByteArray, v = .string t ∧ t.size ≤ 1000 ∧ Hid (Drawn w g wx))
      case first =>
        cases b4
        · go_wp2
          go_meet
          case rel => exact ⟨t, rfl, htz, HD4⟩
        · go_wp2_with fail
          go_loopw [6, 8] (fun tv kv wr => ∃ (k : Nat) (t : ByteArray), tv = .string t ∧ kv = .int .i64 (k : Int) ∧ k ≤ xs.length ∧ t.size ≤ 63 * k ∧ Hid (Drawn w g wr) ∧ Hid (StrRow wr (some ⟨b, 0, none⟩) c xs)) (fun _ kv _ => xs.length - (intOf kv).toNat)
          case atStart => exact ⟨0, _, rfl, rfl, Nat.zero_le _, by decide, HD4, HROW4⟩
          case round =>
            obtain ⟨k, t, rfl, rfl, hkx, htk, HD5, HROW5⟩ := hrel
            by_cases hkl : k < xs.length
            · have hkli : (k : Int) < (xs.length : Int) := by omega
              obtain ⟨ad, x, hA, hc, _, HX⟩ := HROW5.out.at_ hkl
              cases hA
              rw [add_plain] at hc
              have hxs := HSM.out x (List.mem_of_getElem? HX.out)
              have HH : HeldD w g ⟨b, k, none⟩ x wr := ⟨hc, HD5⟩
              have hk0 : (0 : Int) ≤ (k : Int) := by omega
              go_wp2_with fail
              go_region_held3 (fun w' => w'.cell? ⟨b, k, none⟩ = some (.string x) ∧ HeldD w g ⟨b, k, none⟩ x w') (first | exact ⟨hc, heldD_drew HH⟩ | (have hk' := heldD_drawn (heldD_drew HH) HBG.out hd6; exact ⟨hk'.1, hk'⟩) | (have hk' := heldD_drew (heldD_alloc HH HL.out (.cells #[.string ⟨#[]⟩, .string ⟨#[32]⟩, .string ⟨#[32, 32]⟩] 9)); exact ⟨hk'.1, hk'⟩)) (first | (go_at_call 53; refine (pick_lit g _ _ 2 _ wr.drew (heldD_drew HH).2.out.1 (by kernel_rfl) (by rfl) (by rfl)).mono ?_; rintro e w6 ⟨z, rfl, hz, hd6⟩; have hs1 : (9223372036854775807 < t.size + z.size) = False := eq_false (by omega); have hs2 : (9223372036854775807 < t.size + z.size + x.size) = False := eq_false (by omega); have hs3 : (9223372036854775807 < t.size + z.size + x.size + 1) = False := eq_false (by omega)))
              have HD6 : Hid (Drawn w g w6) := (heldD_drawn (heldD_drew HH) HBG.out hd6).2
              have HROW6 : Hid (StrRow w6 (some ⟨b, 0, none⟩) c xs) := HROW5.out.grown (⟨hd6.2.os, hd6.2.tape, hd6.2.output, hd6.2.size, hd6.2.block⟩ : wr.grownBy w6 (some g)) fun ad e => by cases e; exact HBG.out
              clear hd6
              go_wp2
              go_roundw
              case rel => first | exact ⟨k + 1, t ++ z ++ x ++ ⟨#[32]⟩, rfl, by go_num, by omega, by (have h32 : (⟨#[32]⟩ : ByteArray).size = 1 := rfl); simp only [ByteArray.size_append]; omega, HD6, HROW6⟩ | (repeat (first | (refine ⟨?relx, rfl⟩; exact ⟨k + 1, t ++ z ++ x ++ ⟨#[32]⟩, rfl, by go_num, by omega, by (have h32 : (⟨#[32]⟩ : ByteArray).size = 1 := rfl); simp only [ByteArray.size_append]; omega, HD6, HROW6⟩) | (refine ⟨?relx, ?eqs⟩; (case eqs => (and_intros <;> rfl)); exact ⟨k + 1, t ++ z ++ x ++ ⟨#[32]⟩, rfl, by go_num, by omega, by (have h32 : (⟨#[32]⟩ : ByteArray).size = 1 := rfl); simp only [ByteArray.size_append]; omega, HD6, HROW6⟩) | apply Exists.intro))
              case measure => simp [intOf]; omega
            · obtain rfl : k = xs.length := by omega
              go_wp2_with fail
              go_at_call 53
              refine (pick_lit g _ _ 20 _ _ HD5.out.1 (by kernel_rfl) (by rfl) (by rfl)).mono ?_
              rintro e w6 ⟨z, rfl, hz, hd6⟩
              have HD6 := Lib.hid (HD5.out.trans hd6)
              clear hd6
              go_wp2
              go_meet
              case rel => exact ⟨_, rfl, by simp; omega, HD6⟩
      case rest =>
        obtain ⟨t2, rfl, ht2, HD5⟩ := hcut
        go_wp2
        go_roundw
        case rel => first | exact ⟨i + 1, _, rfl, by go_num, by omega, by simp; omega, HD5⟩ | (repeat (first | (refine ⟨?relx, rfl⟩; exact ⟨i + 1, _, rfl, by go_num, by omega, by simp; omega, HD5⟩) | (refine ⟨?relx, ?eqs⟩; (case eqs => (and_intros <;> rfl)); exact ⟨i + 1, _, rfl, by go_num, by omega, by simp; omega, HD5⟩) | apply Exists.intro))
        case measure => simp [intOf]; omega
    · have hsz4 : s.size ≤ 4400 := by omega
      go_wp2_with fail
      go_at_call 50
      refine (spec_l01Below_calls g 10 _ HD1.out.1 (by omega)).mono ?_
      rintro e w2 ⟨u, rfl, hu0, hu1, _, hd2⟩
      have hu1 := hu1 (by omega)
      have HD2 := Lib.hid (HD1.out.trans hd2)
      clear hd2 hsz
      by_cases u0 : u = 0
      · subst u0
        go_wp2_with fail
        go_at_call 54
        refine (spec_l02Spoilt_calls g s _ HD2.out.1 (by omega)).mono ?_
        rintro e w3 ⟨z, rfl, hz, hd3⟩
        have HD3 := Lib.hid (HD2.out.trans hd3)
        clear hd3
        go_wp2
        go_ret
        exact ⟨z, rfl, by omega, HD3.out⟩
      · have bu0 : (u == 0) = false := beq_eq_false_iff_ne.mpr u0
        by_cases u1 : u = 1
        · subst u1
          go_wp2_with fail
          go_at_call 50
          refine (spec_l01Below_calls g (s.size + 1) _ HD2.out.1 (by omega)).mono ?_
          rintro e w3 ⟨q, rfl, hq0, hq1, _, hd3⟩
          have hq1 := hq1 (by omega)
          have HD3 := Lib.hid (HD2.out.trans hd3)
          clear hd3
          obtain ⟨k, rfl⟩ := Int.eq_ofNat_of_zero_le hq0
          have hk : (k : Int) ≤ (s.size : Int) := by omega
          go_wp2
          go_ret
          exact ⟨_, rfl, by simp; omega, HD3.out⟩
        · have bu1 : (u == 1) = false := beq_eq_false_iff_ne.mpr u1
          by_cases u2 : u = 2
          · subst u2
            go_wp2_with fail
            go_at_call 53
            refine (pick_lit g _ _ 20 _ _ HD2.out.1 (by kernel_rfl) (by rfl) (by rfl)).mono ?_
            rintro e w3 ⟨z, rfl, hz, hd3⟩
            have HD3 := Lib.hid (HD2.out.trans hd3)
            clear hd3
            go_wp2
            go_ret
            exact ⟨_, rfl, by simp; omega, HD3.out⟩
          · have bu2 : (u == 2) = false := beq_eq_false_iff_ne.mpr u2
            by_cases u3 : u = 3
            · subst u3
              go_wp2_with fail
              go_at_call 50
              refine (spec_l01Below_calls g 2 _ HD2.out.1 (by omega)).mono ?_
              rintro e w3 ⟨q, rfl, hq0, hq1, _, hd3⟩
              have hq1 := hq1 (by omega)
              have HD3 := Lib.hid (HD2.out.trans hd3)
              clear hd3
              go_wp2_with fail
              go_at_call 55
              refine (spec_l01Long_calls' (80 + q) (80 + q.toNat) 97 97 _ (by omega) rfl (by omega)).mono ?_
              rintro e w4 ⟨z, rfl, hz, hb⟩
              have HD4 := Lib.hid (HD3.out.below HL.out hb)
              clear hb
              have hz2 : z.size ≤ 82 := by omega
              clear hz
              go_wp2_with fail
              go_at_call 53
              refine (pick_lit g _ _ 20 _ _ HD4.out.1 (by kernel_rfl) (by rfl) (by rfl)).mono ?_
              rintro e w5 ⟨z3, rfl, hz3, hd5⟩
              have HD5 := Lib.hid (HD4.out.trans hd5)
              clear hd5
              go_wp2
              go_ret
              exact ⟨_, rfl, by simp; omega, HD5.out⟩
            · have bu3 : (u == 3) = false := beq_eq_false_iff_ne.mpr u3
              go_wp2
              go_ret
              exact ⟨_, rfl, by omega, HD2.out⟩
end Go.Proofs.YtldneiodfhpiaaaDoor
