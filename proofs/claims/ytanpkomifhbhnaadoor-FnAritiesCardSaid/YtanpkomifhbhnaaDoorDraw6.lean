/- The draws: a command's texts. By wip/tools/genargs.py. -/
import Derived.Test.YtanpkomifhbhnaaDoorDraw5
import Derived.Test.YtanpkomifhbhnaaDoorCmds
import Derived.Deep.CutBlock
namespace Go.Proofs.YtanpkomifhbhnaaDoor
set_option linter.unusedVariables false
set_option linter.unusedSimpArgs false
open Go.RowKit
attribute [local go_sem] bs_size List.length_cons List.length_nil List.length_append

/-- A row of texts that was drawn. -/
def RowAt (w : World) (g : Nat) (v : Value) (xs : List ByteArray) (wr : World) : Prop := ∃ b c, v = .slice (some ⟨b, 0, none⟩) xs.length c ∧ OwnS wr w.heap.size (.slice (some ⟨b, 0, none⟩) xs.length c) xs ∧ (∀ x ∈ xs, x.size ≤ 60) ∧ Drawn w g wr
theorem small_one {z : ByteArray} {xs : List ByteArray} (h : ∀ x ∈ xs, x.size ≤ 60) (hz : z.size ≤ 60) : ∀ x ∈ xs ++ [z], x.size ≤ 60 := by
  intro q hq
  rcases List.mem_append.1 hq with hq | hq
  · exact h q hq
  · obtain rfl := List.mem_singleton.1 hq
    exact hz
theorem ownS_set {w : World} {B b c : Nat} {x y : ByteArray} {xs : List ByteArray} (h : OwnS w B (.slice (some ⟨b, 0, none⟩) (x :: xs).length c) (x :: xs)) : OwnS (w.setCell ⟨b, 0, none⟩ (.string y)) B (.slice (some ⟨b, 0, none⟩) (y :: xs).length c) (y :: xs) := by
  refine ⟨by simp, ?_⟩
  rcases h.2 with ⟨e, _⟩ | ⟨g, cap, cur, e, hB, hb, hn, hm, hc, ht⟩
  · cases e
  · injection e with e1 e2 e3
    obtain rfl : b = g := by injection e1 with e1; injection e1
    subst e3
    refine .inr ⟨b, c, cur.setIfInBounds 0 (.string y), rfl, hB, blk_set hb 0 _, hn, hm, by simpa using hc, ?_⟩
    obtain ⟨l⟩ := cur
    simp only [List.length_cons, Nat.mul_one] at ht ⊢
    cases l with
    | nil => simp at ht
    | cons v l =>
      simp only [List.take_succ_cons, List.map_cons, List.cons.injEq] at ht
      simp [ht.2]
theorem ownS_drop {w : World} {B b c : Nat} {xs : List ByteArray} (h : OwnS w B (.slice (some ⟨b, 0, none⟩) xs.length c) xs) (n : Nat) (hn : n ≤ xs.length) : OwnS w B (.slice (some ⟨b, 0, none⟩) n c) (xs.take n) := by
  have hl : (xs.take n).length = n := by rw [List.length_take]; omega
  unfold OwnS
  rw [hl]
  refine ⟨by simp; omega, ?_⟩
  rcases h.2 with ⟨e, _⟩ | ⟨g, cap, cur, e, hB, hb, hn2, hm, hc, ht⟩
  · cases e
  · injection e with e1 e2 e3
    obtain rfl : b = g := by injection e1 with e1; injection e1
    subst e3
    refine .inr ⟨b, c, cur, rfl, hB, hb, by omega, hm, hc, ?_⟩
    have := congrArg (List.take n) ht
    rw [List.take_take] at this
    simp only [Nat.mul_one] at this ⊢
    rw [Nat.min_eq_left hn] at this
    rw [this, List.map_take]
theorem ownS_wr {w : World} {B b c : Nat} {x : ByteArray} {xs : List ByteArray} (h : OwnS w B (.slice (some ⟨b, 0, none⟩) (x :: xs).length c) (x :: xs)) : w.frozen? ⟨b, 0, none⟩ = false ∧ w.cell? ⟨b, 0, none⟩ = some (.string x) := by
  have hc := World.ownsRow.cells h (g := b) rfl 0 (.string x) rfl
  rw [add_plain] at hc
  refine ⟨?_, hc⟩
  rcases h.2 with ⟨e, _⟩ | ⟨g, cap, cur, e, hB, hb, _⟩
  · cases e
  · injection e with e1 e2 e3
    obtain rfl : b = g := by injection e1 with e1; injection e1
    exact blk_frozen hb 0
theorem rowAt_post {w wr : World} {g : Nat} {v : Value} {xs : List ByteArray} (h : RowAt w g v xs wr) (hk : xs.length ≤ 8) : RowPost w g 8 (.returned v) wr := by
  obtain ⟨b, c, rfl, ho, hs, hd⟩ := h
  exact ⟨b, c, xs, rfl, ho, hk, hs, hd⟩
theorem rowAt_n {w wr : World} {g n m : Nat} {A : Option Addr} {c : Nat} {xs : List ByteArray} (h : Hid (RowAt w g (.slice A m c) xs wr)) (hn : n = m) : Hid (RowAt w g (.slice A n c) xs wr) := by
  subst hn
  exact h
theorem rowAt_grow {w w5 w6 : World} {g b gg cap : Nat} {xs ws : List ByteArray} {o : Obj} (hd : Drawn w g w5) (hl : g < w.heap.size) (hb : w.heap.size ≤ b) (hs : ∀ x ∈ xs, x.size ≤ 60) (hw : ∀ x ∈ ws, x.size ≤ 60)
    (hown : OwnS w6 w.heap.size (.slice (some ⟨gg, 0, none⟩) (xs ++ ws).length cap) (xs ++ ws)) (hgrow : (w5.alloc o).grownBy w6 (some b)) : RowAt w g (.slice (some ⟨gg, 0, none⟩) (xs ++ ws).length cap) (xs ++ ws) w6 :=
  ⟨gg, cap, rfl, hown, fun x hx => by rcases List.mem_append.1 hx with h | h; exact hs x h; exact hw x h, (hd.alloc' hl o).grown hl hgrow fun k e => by cases e; exact hb⟩
theorem rowAt_grow' {w w5 w6 : World} {g b gg cap : Nat} {xs ws : List ByteArray} (hd : Drawn w g w5) (hl : g < w.heap.size) (hb : w.heap.size ≤ b) (hs : ∀ x ∈ xs, x.size ≤ 60) (hw : ∀ x ∈ ws, x.size ≤ 60)
    (hown : OwnS w6 w.heap.size (.slice (some ⟨gg, 0, none⟩) (xs ++ ws).length cap) (xs ++ ws)) (hgrow : w5.grownBy w6 (some b)) : RowAt w g (.slice (some ⟨gg, 0, none⟩) (xs ++ ws).length cap) (xs ++ ws) w6 :=
  ⟨gg, cap, rfl, hown, fun x hx => by rcases List.mem_append.1 hx with h | h; exact hs x h; exact hw x h, hd.grown hl hgrow fun k e => by cases e; exact hb⟩
theorem cmdW_small : ∀ x ∈ cmdW, x.size ≤ 60 := fun s hs => of_decide_eq_true (List.all_eq_true.1 (show cmdW.all (fun s => decide (s.size ≤ 60)) = true by kernel_rfl) s hs)
set_option maxHeartbeats 16000000 in
set_option maxRecDepth 100000 in
theorem spec_l11Args_calls (g : Nat) (w : World) (h : Cu w g) :
    Calls Tryd.prog 72 #[.pointer (some ⟨g, 0, none⟩)] w (RowPost w g 8) := by
  have HC := Lib.hid h
  have HL := Lib.hid h.lt
  clear h
  go_enter Tryd.func72, Tryd.ntmps72
  go_wp2_with fail
  go_at_call 56
  refine (spec_Commands_calls _).mono ?_
  rintro e w1 ⟨b1, rfl, hlt1, hblk, hb⟩
  have HD1 := Lib.hid ((Drawn.refl HC.out).below HL.out hb)
  have HBK := Lib.hid hblk
  have HB1 := Lib.hid hlt1
  clear hblk hlt1 hb
  have hcl : (cmdW.length : Int) = 41 := by decide
  go_wp2_with fail
  go_at_call 71
  refine (spec_l01Below_calls g _ _ HD1.out.1 (by decide)).mono ?_
  rintro e w2 ⟨y, rfl, hy0, hy1, _, hd⟩
  have hy1 := hy1 (by decide)
  have HD2 := Lib.hid (HD1.out.trans hd)
  obtain ⟨j, rfl⟩ := Int.eq_ofNat_of_zero_le hy0
  have hj : j < cmdW.length := by omega
  obtain ⟨ad, x, hA, hc, _, HX⟩ := (HBK.out.row fun s hs => by have := cmdW_small s hs; omega).at_ hj
  cases hA
  have hbl : b1 < w1.heap.size := blk_lt HBK.out.choose_spec.1
  have hbg : b1 ≠ g := by have := HL.out; have := HB1.out; omega
  have hc2 : w2.cell? ((⟨b1, 0, none⟩ : Addr).add j) = some (.string x) := (World.cell?_of_block (hd.2.block ((⟨b1, 0, none⟩ : Addr).add j).block (by rw [add_block]; exact hbl) (by rw [add_block]; intro e; exact hbg (Option.some.inj e)))).trans hc
  rw [add_plain] at hc2
  have hxs : x.size ≤ 60 := cmdW_small x (List.mem_of_getElem? HX.out)
  clear hd hc HBK
  have hji : (j : Int) < (cmdW.length : Int) := by omega
  go_upto_if 17 with (go_at_call 93; refine (spec_l01Once_calls g 3 _ HD2.out.1 (by omega)).mono ?_; rintro e w3 ⟨b3, rfl, hd3⟩; have HD3 := Lib.hid (HD2.out.trans hd3); clear hd3)
  go_cut [4] from 16 (fun v wx => ∃ x : ByteArray, v = .string x ∧ x.size ≤ 60 ∧ Hid (Drawn w g wx))
  case first =>
    cases b3
    · go_wp2
      go_meet
      case rel => exact ⟨x, rfl, hxs, HD3⟩
    · go_wp2_with fail
      go_at_call 94
      refine (pick_lit g _ _ 20 _ _ HD3.out.1 (by kernel_rfl) (by rfl) (by rfl)).mono ?_
      rintro e w5 ⟨z, rfl, hz, hd5⟩
      have HD5 := Lib.hid (HD3.out.trans hd5)
      clear hd5
      go_wp2
      go_meet
      case rel => exact ⟨z, rfl, by omega, HD5⟩
  case rest =>
  obtain ⟨nm, rfl, hnm, HDN⟩ := hcut
  clear hc2 HX hxs HD3 HD2 HD1
  go_upto_if 24 with (go_at_call 93; refine (spec_l01Once_calls g 8 _ ((HDN.out.alloc' HL.out _).1) (by omega)).mono ?_; rintro e w4 ⟨b4, rfl, hd4⟩)
  have HO4 := Lib.hid (World.ownsRow.kept (ownS_lit (w := w) HDN.out.2.size _ [nm] rfl (by simp)) hd4.2 (own_ne (World.ownsRow.lt (ownS_lit (w := w) HDN.out.2.size _ [nm] rfl (by simp))) HL.out))
  have HD4 := Lib.hid ((HDN.out.alloc' HL.out _).trans hd4)
  have HWC : Hid (w.heap.size ≤ wc.heap.size) := HDN.out.2.size
  clear hd4 HDN
  generalize wc.heap.size = b at HO4 HWC ⊢
  go_cut [5] from 23 (fun v wx => ∃ x : ByteArray, Hid (RowAt w g v [x] wx))
  case first =>
    cases b4
    · go_wp2
      go_meet
      case rel => exact ⟨nm, b, _, rfl, HO4.out, by intro q hq; simp at hq; subst hq; omega, HD4.out⟩
    · go_wp2_with fail
      go_at_call 94
      refine (pick_lit g _ _ 20 _ _ HD4.out.1 (by kernel_rfl) (by rfl) (by rfl)).mono ?_
      rintro e w5 ⟨z, rfl, hz, hd5⟩
      have HD5 := Lib.hid (HD4.out.trans hd5)
      have HO5 := Lib.hid (World.ownsRow.kept HO4.out hd5.2 (own_ne HO4.out.lt HL.out))
      clear hd5
      obtain ⟨hfz, hcl0⟩ := ownS_wr HO5.out
      have HSET : Hid (RowAt w g (.slice (some ⟨b, 0, none⟩) 1 1) [z] (w5.setCell ⟨b, 0, none⟩ (.string z))) := ⟨b, _, rfl, ownS_set HO5.out, by intro q hq; simp at hq; subst hq; omega, HD5.out.grown HL.out (grown_set' (World.grownBy.refl w5 _) 0 _) fun k e => by cases e; exact HWC.out⟩
      go_wp2
      go_meet
      case rel => exact ⟨z, HSET⟩
  case rest =>
  clear HO4 HD4 HWC
  obtain ⟨x0, HR0⟩ := hcut
  obtain ⟨b0, c0, hv0, ho0, hs0, hd0⟩ := HR0.out
  subst hv0
  have HO0 := Lib.hid ho0
  have HS0 := Lib.hid hs0
  have HD0 := Lib.hid hd0
  have HB0 : Hid (w.heap.size ≤ b0) := (World.ownsRow.lt ho0 b0 rfl).1
  clear ho0 hs0 hd0
  generalize wc = wd at *
  go_upto_block 0 with fail
  go_cut [5] from 31 (fun v wx => ∃ xs : List ByteArray, 1 ≤ xs.length ∧ xs.length ≤ 7 ∧ Hid (RowAt w g v xs wx))
  case first =>
    cases q0 : nm.toList == [80, 73, 78, 71]
    case true =>
      go_wp2
      go_meet
      case rel => exact ⟨[x0], by simp, by simp, HR0⟩
    cases q1 : nm.toList == [75, 69, 89, 83]
    case true =>
      go_wp2
      go_meet
      case rel => exact ⟨[x0], by simp, by simp, HR0⟩
    cases q2 : nm.toList == [68, 66, 83, 73, 90, 69]
    case true =>
      go_wp2
      go_meet
      case rel => exact ⟨[x0], by simp, by simp, HR0⟩
    cases q3 : nm.toList == [70, 76, 85, 83, 72, 65, 76, 76]
    case true =>
      go_wp2
      go_meet
      case rel => exact ⟨[x0], by simp, by simp, HR0⟩
    cases q4 : nm.toList == [69, 67, 72, 79]
    case true =>
      go_wp2_with fail
      go_at_call 95
      refine (spec_l10Word_calls g _ HD0.out.1).mono ?_
      rintro e w5 ⟨z, rfl, hz, hd5⟩
      have HD5 := Lib.hid (HD0.out.trans hd5)
      have HO5 : Hid (OwnS (w5.alloc (.cells #[.string z] 9)) w.heap.size (.slice (some ⟨b0, 0, none⟩) [x0].length c0) [x0]) := World.ownsRow.alloc (World.ownsRow.kept HO0.out hd5.2 (own_ne HO0.out.lt HL.out)) _
      clear hd5
      go_wp2_with (at_builtin; refine wpList_appS rfl _ _ rfl w.heap.size b0 c0 [x0] [z] rfl HO5.out ⟨w5.heap.size, 0, none⟩ 1 1 rfl rfl (World.news_of_block (heap_alloc_new w5 _)) (by simp) (by have := HD5.out.2.size; simp; omega) ?_; intro gg cap w6 hown hgrow; have HRR := Lib.hid (rowAt_grow HD5.out HL.out HB0.out HS0.out (by intro q hq; simp at hq; subst hq; omega) hown hgrow); clear hown hgrow)
      go_meet
      case rel => exact ⟨_, by simp, by simp, rowAt_n HRR (by simp)⟩
    cases q5 : nm.toList == [77, 71, 69, 84]
    case true =>
      go_wp2_with fail
      go_loopw [5, 6] (fun v iv wr => ∃ (i : Nat) (xs : List ByteArray), iv = .int .i64 (i : Int) ∧ i ≤ 3 ∧ Hid (xs.length = i + 1) ∧ Hid (RowAt w g v xs wr)) (fun _ iv _ => 3 - (intOf iv).toNat)
      case atStart => exact ⟨0, [x0], rfl, by omega, rfl, HR0⟩
      case round =>
        obtain ⟨i, xs, rfl, hi3, HLEN, HR1⟩ := hrel
        obtain ⟨b, c, hv, ho, hs, hd⟩ := HR1.out
        subst hv
        have HO := Lib.hid ho
        have HS := Lib.hid hs
        have HD := Lib.hid hd
        have HBB : Hid (w.heap.size ≤ b) := (World.ownsRow.lt ho b rfl).1
        clear ho hs hd
        go_wp2_with fail
        go_at_call 71
        refine (spec_l01Below_calls g 3 _ HD.out.1 (by omega)).mono ?_
        rintro e w4 ⟨y, rfl, hy0, hy1, _, hd4⟩
        have hy1 := hy1 (by omega)
        have HD4 := Lib.hid (HD.out.trans hd4)
        have HO4 := Lib.hid (World.ownsRow.kept HO.out hd4.2 (own_ne HO.out.lt HL.out))
        clear hd4
        by_cases hlt : (i : Int) < 1 + y
        · go_wp2_with fail
          go_at_call 96
          refine (spec_l05Key_calls g _ HD4.out.1).mono ?_
          rintro e w5 ⟨z, rfl, hz, hd5⟩
          have HD5 := Lib.hid (HD4.out.trans hd5)
          have HO5 : Hid (OwnS (w5.alloc (.cells #[.string z] 9)) w.heap.size (.slice (some ⟨b, 0, none⟩) xs.length c) xs) := World.ownsRow.alloc (World.ownsRow.kept HO4.out hd5.2 (own_ne HO.out.lt HL.out)) _
          clear hd5
          go_wp2_with (at_builtin; refine wpList_appS rfl _ _ rfl w.heap.size b c xs [z] rfl HO5.out ⟨w5.heap.size, 0, none⟩ 1 1 rfl rfl (World.news_of_block (heap_alloc_new w5 _)) (by have := HLEN.out; simp; omega) (by have := HD5.out.2.size; simp; omega) ?_; intro gg cap w6 hown hgrow; have HRR := Lib.hid (rowAt_grow HD5.out HL.out HBB.out HS.out (by intro q hq; simp at hq; subst hq; omega) hown hgrow); clear hown hgrow)
          have HLN : Hid ((xs ++ [z]).length = i + 1 + 1) := by rw [Hid, List.length_append, HLEN.out]; rfl
          go_roundw
          case rel => first | exact ⟨i + 1, _, by go_num, by omega, HLN, rowAt_n HRR (by simp)⟩ | (repeat (first | (refine ⟨?relx, rfl⟩; exact ⟨i + 1, _, by go_num, by omega, HLN, rowAt_n HRR (by simp)⟩) | (refine ⟨?relx, ?eqs⟩; (case eqs => (and_intros <;> rfl)); exact ⟨i + 1, _, by go_num, by omega, HLN, rowAt_n HRR (by simp)⟩) | apply Exists.intro))
          case measure => simp [intOf]; omega
        · go_wp2
          go_meet
          case rel => exact ⟨xs, by have := HLEN.out; omega, by have := HLEN.out; omega, b, c, rfl, HO4.out, HS.out, HD4.out⟩
    cases q6 : nm.toList == [68, 69, 76]
    case true =>
      go_wp2_with fail
      go_loopw [5, 6] (fun v iv wr => ∃ (i : Nat) (xs : List ByteArray), iv = .int .i64 (i : Int) ∧ i ≤ 3 ∧ Hid (xs.length = i + 1) ∧ Hid (RowAt w g v xs wr)) (fun _ iv _ => 3 - (intOf iv).toNat)
      case atStart => exact ⟨0, [x0], rfl, by omega, rfl, HR0⟩
      case round =>
        obtain ⟨i, xs, rfl, hi3, HLEN, HR1⟩ := hrel
        obtain ⟨b, c, hv, ho, hs, hd⟩ := HR1.out
        subst hv
        have HO := Lib.hid ho
        have HS := Lib.hid hs
        have HD := Lib.hid hd
        have HBB : Hid (w.heap.size ≤ b) := (World.ownsRow.lt ho b rfl).1
        clear ho hs hd
        go_wp2_with fail
        go_at_call 71
        refine (spec_l01Below_calls g 3 _ HD.out.1 (by omega)).mono ?_
        rintro e w4 ⟨y, rfl, hy0, hy1, _, hd4⟩
        have hy1 := hy1 (by omega)
        have HD4 := Lib.hid (HD.out.trans hd4)
        have HO4 := Lib.hid (World.ownsRow.kept HO.out hd4.2 (own_ne HO.out.lt HL.out))
        clear hd4
        by_cases hlt : (i : Int) < 1 + y
        · go_wp2_with fail
          go_at_call 96
          refine (spec_l05Key_calls g _ HD4.out.1).mono ?_
          rintro e w5 ⟨z, rfl, hz, hd5⟩
          have HD5 := Lib.hid (HD4.out.trans hd5)
          have HO5 : Hid (OwnS (w5.alloc (.cells #[.string z] 9)) w.heap.size (.slice (some ⟨b, 0, none⟩) xs.length c) xs) := World.ownsRow.alloc (World.ownsRow.kept HO4.out hd5.2 (own_ne HO.out.lt HL.out)) _
          clear hd5
          go_wp2_with (at_builtin; refine wpList_appS rfl _ _ rfl w.heap.size b c xs [z] rfl HO5.out ⟨w5.heap.size, 0, none⟩ 1 1 rfl rfl (World.news_of_block (heap_alloc_new w5 _)) (by have := HLEN.out; simp; omega) (by have := HD5.out.2.size; simp; omega) ?_; intro gg cap w6 hown hgrow; have HRR := Lib.hid (rowAt_grow HD5.out HL.out HBB.out HS.out (by intro q hq; simp at hq; subst hq; omega) hown hgrow); clear hown hgrow)
          have HLN : Hid ((xs ++ [z]).length = i + 1 + 1) := by rw [Hid, List.length_append, HLEN.out]; rfl
          go_roundw
          case rel => first | exact ⟨i + 1, _, by go_num, by omega, HLN, rowAt_n HRR (by simp)⟩ | (repeat (first | (refine ⟨?relx, rfl⟩; exact ⟨i + 1, _, by go_num, by omega, HLN, rowAt_n HRR (by simp)⟩) | (refine ⟨?relx, ?eqs⟩; (case eqs => (and_intros <;> rfl)); exact ⟨i + 1, _, by go_num, by omega, HLN, rowAt_n HRR (by simp)⟩) | apply Exists.intro))
          case measure => simp [intOf]; omega
        · go_wp2
          go_meet
          case rel => exact ⟨xs, by have := HLEN.out; omega, by have := HLEN.out; omega, b, c, rfl, HO4.out, HS.out, HD4.out⟩
    cases q7 : nm.toList == [69, 88, 73, 83, 84, 83]
    case true =>
      go_wp2_with fail
      go_loopw [5, 6] (fun v iv wr => ∃ (i : Nat) (xs : List ByteArray), iv = .int .i64 (i : Int) ∧ i ≤ 3 ∧ Hid (xs.length = i + 1) ∧ Hid (RowAt w g v xs wr)) (fun _ iv _ => 3 - (intOf iv).toNat)
      case atStart => exact ⟨0, [x0], rfl, by omega, rfl, HR0⟩
      case round =>
        obtain ⟨i, xs, rfl, hi3, HLEN, HR1⟩ := hrel
        obtain ⟨b, c, hv, ho, hs, hd⟩ := HR1.out
        subst hv
        have HO := Lib.hid ho
        have HS := Lib.hid hs
        have HD := Lib.hid hd
        have HBB : Hid (w.heap.size ≤ b) := (World.ownsRow.lt ho b rfl).1
        clear ho hs hd
        go_wp2_with fail
        go_at_call 71
        refine (spec_l01Below_calls g 3 _ HD.out.1 (by omega)).mono ?_
        rintro e w4 ⟨y, rfl, hy0, hy1, _, hd4⟩
        have hy1 := hy1 (by omega)
        have HD4 := Lib.hid (HD.out.trans hd4)
        have HO4 := Lib.hid (World.ownsRow.kept HO.out hd4.2 (own_ne HO.out.lt HL.out))
        clear hd4
        by_cases hlt : (i : Int) < 1 + y
        · go_wp2_with fail
          go_at_call 96
          refine (spec_l05Key_calls g _ HD4.out.1).mono ?_
          rintro e w5 ⟨z, rfl, hz, hd5⟩
          have HD5 := Lib.hid (HD4.out.trans hd5)
          have HO5 : Hid (OwnS (w5.alloc (.cells #[.string z] 9)) w.heap.size (.slice (some ⟨b, 0, none⟩) xs.length c) xs) := World.ownsRow.alloc (World.ownsRow.kept HO4.out hd5.2 (own_ne HO.out.lt HL.out)) _
          clear hd5
          go_wp2_with (at_builtin; refine wpList_appS rfl _ _ rfl w.heap.size b c xs [z] rfl HO5.out ⟨w5.heap.size, 0, none⟩ 1 1 rfl rfl (World.news_of_block (heap_alloc_new w5 _)) (by have := HLEN.out; simp; omega) (by have := HD5.out.2.size; simp; omega) ?_; intro gg cap w6 hown hgrow; have HRR := Lib.hid (rowAt_grow HD5.out HL.out HBB.out HS.out (by intro q hq; simp at hq; subst hq; omega) hown hgrow); clear hown hgrow)
          have HLN : Hid ((xs ++ [z]).length = i + 1 + 1) := by rw [Hid, List.length_append, HLEN.out]; rfl
          go_roundw
          case rel => first | exact ⟨i + 1, _, by go_num, by omega, HLN, rowAt_n HRR (by simp)⟩ | (repeat (first | (refine ⟨?relx, rfl⟩; exact ⟨i + 1, _, by go_num, by omega, HLN, rowAt_n HRR (by simp)⟩) | (refine ⟨?relx, ?eqs⟩; (case eqs => (and_intros <;> rfl)); exact ⟨i + 1, _, by go_num, by omega, HLN, rowAt_n HRR (by simp)⟩) | apply Exists.intro))
          case measure => simp [intOf]; omega
        · go_wp2
          go_meet
          case rel => exact ⟨xs, by have := HLEN.out; omega, by have := HLEN.out; omega, b, c, rfl, HO4.out, HS.out, HD4.out⟩
    cases q8 : nm.toList == [77, 83, 69, 84]
    case true =>
      go_wp2_with fail
      go_loopw [5, 7] (fun v iv wr => ∃ (i : Nat) (xs : List ByteArray), iv = .int .i64 (i : Int) ∧ i ≤ 3 ∧ Hid (xs.length = 2 * i + 1) ∧ Hid (RowAt w g v xs wr)) (fun _ iv _ => 3 - (intOf iv).toNat)
      case atStart => exact ⟨0, [x0], rfl, by omega, rfl, HR0⟩
      case round =>
        obtain ⟨i, xs, rfl, hi3, HLEN, HR1⟩ := hrel
        obtain ⟨b, c, hv, ho, hs, hd⟩ := HR1.out
        subst hv
        have HO := Lib.hid ho
        have HS := Lib.hid hs
        have HD := Lib.hid hd
        have HBB : Hid (w.heap.size ≤ b) := (World.ownsRow.lt ho b rfl).1
        clear ho hs hd
        go_wp2_with fail
        go_at_call 71
        refine (spec_l01Below_calls g 3 _ HD.out.1 (by omega)).mono ?_
        rintro e w4 ⟨y, rfl, hy0, hy1, _, hd4⟩
        have hy1 := hy1 (by omega)
        have HD4 := Lib.hid (HD.out.trans hd4)
        have HO4 := Lib.hid (World.ownsRow.kept HO.out hd4.2 (own_ne HO.out.lt HL.out))
        clear hd4
        by_cases hlt : (i : Int) < 1 + y
        · go_wp2_with fail
          go_at_call 96
          refine (spec_l05Key_calls g _ HD4.out.1).mono ?_
          rintro e w5 ⟨z, rfl, hz, hd5⟩
          have HD5 := Lib.hid (HD4.out.trans hd5)
          have HO5 := Lib.hid (World.ownsRow.kept HO4.out hd5.2 (own_ne HO.out.lt HL.out))
          clear hd5
          go_wp2_with fail
          go_at_call 95
          refine (spec_l10Word_calls g _ HD5.out.1).mono ?_
          rintro e w6 ⟨z2, rfl, hz2, hd6⟩
          have HD6 := Lib.hid (HD5.out.trans hd6)
          have HO6 : Hid (OwnS (w6.alloc (.cells #[.string z, .string z2] 9)) w.heap.size (.slice (some ⟨b, 0, none⟩) xs.length c) xs) := World.ownsRow.alloc (World.ownsRow.kept HO5.out hd6.2 (own_ne HO.out.lt HL.out)) _
          clear hd6
          go_wp2_with (at_builtin; refine wpList_appS rfl _ _ rfl w.heap.size b c xs [z, z2] rfl HO6.out ⟨w6.heap.size, 0, none⟩ 2 2 rfl rfl (World.news_of_block (heap_alloc_new w6 _)) (by have := HLEN.out; simp; omega) (by have := HD6.out.2.size; simp; omega) ?_; intro gg cap w7 hown hgrow; have HRR := Lib.hid (rowAt_grow HD6.out HL.out HBB.out HS.out (by intro q hq; simp at hq; rcases hq with rfl | rfl <;> omega) hown hgrow); clear hown hgrow)
          have HLN : Hid ((xs ++ [z, z2]).length = 2 * (i + 1) + 1) := by rw [Hid, List.length_append, HLEN.out]; rfl
          go_roundw
          case rel => first | exact ⟨i + 1, _, by go_num, by omega, HLN, rowAt_n HRR (by simp)⟩ | (repeat (first | (refine ⟨?relx, rfl⟩; exact ⟨i + 1, _, by go_num, by omega, HLN, rowAt_n HRR (by simp)⟩) | (refine ⟨?relx, ?eqs⟩; (case eqs => (and_intros <;> rfl)); exact ⟨i + 1, _, by go_num, by omega, HLN, rowAt_n HRR (by simp)⟩) | apply Exists.intro))
          case measure => simp [intOf]; omega
        · go_wp2
          go_meet
          case rel => exact ⟨xs, by have := HLEN.out; omega, by have := HLEN.out; omega, b, c, rfl, HO4.out, HS.out, HD4.out⟩
    go_wp2_with fail
    go_at_call 96
    refine (spec_l05Key_calls g _ HD0.out.1).mono ?_
    rintro e w5 ⟨z, rfl, hz, hd5⟩
    have HD5 := Lib.hid (HD0.out.trans hd5)
    have HO5 : Hid (OwnS (w5.alloc (.cells #[.string z] 9)) w.heap.size (.slice (some ⟨b0, 0, none⟩) [x0].length c0) [x0]) := World.ownsRow.alloc (World.ownsRow.kept HO0.out hd5.2 (own_ne HO0.out.lt HL.out)) _
    clear hd5
    go_wp2_with (at_builtin; refine wpList_appS rfl _ _ rfl w.heap.size b0 c0 [x0] [z] rfl HO5.out ⟨w5.heap.size, 0, none⟩ 1 1 rfl rfl (World.news_of_block (heap_alloc_new w5 _)) (by simp) (by have := HD5.out.2.size; simp; omega) ?_; intro gg cap w6 hown hgrow; have HRR := Lib.hid (rowAt_grow HD5.out HL.out HB0.out HS0.out (by intro q hq; simp at hq; subst hq; omega) hown hgrow); clear hown hgrow)
    obtain ⟨b6, c6, hv6, ho6, hs6, hd6⟩ := HRR.out
    injection hv6 with e1 e2 e3
    obtain rfl : gg = b6 := by injection e1 with e1; injection e1
    subst e3
    have HO6 := Lib.hid ho6
    have HS6 := Lib.hid hs6
    have HD6 := Lib.hid hd6
    have HB6 : Hid (w.heap.size ≤ gg) := (World.ownsRow.lt ho6 gg rfl).1
    clear ho6 hs6 hd6 e1 e2
    go_at_call 97
    refine (spec_l11Rest_calls g nm _ HD6.out.1).mono ?_
    rintro e w7 ⟨b7, c7, ws, rfl, ho7, hk7, hs7, hd7⟩
    have HD7 := Lib.hid (HD6.out.trans hd7)
    have HO7 := Lib.hid (World.ownsRow.kept HO6.out hd7.2 (own_ne HO6.out.lt HL.out))
    have HN7 := Lib.hid (World.ownsRow.cells ho7 (g := b7) rfl)
    have HS7 := Lib.hid hs7
    clear hd7 ho7 hs7
    go_wp2_with (at_builtin; refine wpList_appS rfl _ _ rfl w.heap.size gg cap ([x0] ++ [z]) ws rfl HO7.out ⟨b7, 0, none⟩ ws.length c7 rfl rfl HN7.out (by simp; omega) HD7.out.2.size ?_; intro gg2 cap2 w8 hown hgrow; have HRR2 := Lib.hid (rowAt_grow' HD7.out HL.out HB6.out HS6.out HS7.out hown hgrow); clear hown hgrow)
    go_meet
    case rel => exact ⟨_, by simp, by simp; omega, rowAt_n HRR2 (by simp)⟩
  case rest =>
  obtain ⟨xs, hx1, hx7, HR1⟩ := hcut
  obtain ⟨b2, c2, hv2, ho2, hs2, hd2⟩ := HR1.out
  subst hv2
  have HO2 := Lib.hid ho2
  have HS2 := Lib.hid hs2
  have HD2 := Lib.hid hd2
  have HB2 : Hid (w.heap.size ≤ b2) := (World.ownsRow.lt ho2 b2 rfl).1
  have hcap : (xs.length : Int) ≤ (c2 : Int) ∧ c2 ≤ 9223372036854775807 := by
    rcases ho2.2 with ⟨e, _⟩ | ⟨_, cap, _, e, _, _, h1, h2, _⟩
    · cases e
    · injection e with e1 e2 e3
      subst e3
      unfold maxLen at h2
      omega
  clear ho2 hs2 hd2
  go_wp2_with fail
  go_at_call 71
  refine (spec_l01Below_calls g 20 _ HD2.out.1 (by omega)).mono ?_
  rintro e w4 ⟨y, rfl, hy0, hy1, _, hd4⟩
  have hy1 := hy1 (by omega)
  have HD4 := Lib.hid (HD2.out.trans hd4)
  have HO4 := Lib.hid (World.ownsRow.kept HO2.out hd4.2 (own_ne HO2.out.lt HL.out))
  clear hd4
  by_cases y0 : y = 0
  · subst y0
    have HO5 : Hid (OwnS (w4.alloc (.cells #[.string ⟨#[120]⟩] 9)) w.heap.size (.slice (some ⟨b2, 0, none⟩) xs.length c2) xs) := World.ownsRow.alloc HO4.out _
    go_wp2_with (at_builtin; refine wpList_appS rfl _ _ rfl w.heap.size b2 c2 xs [⟨#[120]⟩] rfl HO5.out ⟨w4.heap.size, 0, none⟩ 1 1 rfl rfl (World.news_of_block (heap_alloc_new w4 _)) (by simp; omega) (by have := HD4.out.2.size; simp; omega) ?_; intro gg cap w6 hown hgrow; have HRR := Lib.hid (rowAt_grow HD4.out HL.out HB2.out HS2.out (by intro q hq; simp at hq; subst hq; decide) hown hgrow); clear hown hgrow)
    go_ret
    exact rowAt_post (rowAt_n HRR (by simp)).out (by simp; omega)
  · have b0' : (y == 0) = false := beq_eq_false_iff_ne.mpr y0
    by_cases y1 : y = 1
    · subst y1
      have hc0 : (0 : Int) ≤ (xs.length : Int) - 1 := by omega
      have hc1 : (xs.length : Int) - 1 ≤ (c2 : Int) := by omega
      have HDR := Lib.hid (ownS_drop HO4.out (xs.length - 1) (by omega))
      have hln : (xs.take (xs.length - 1)).length = xs.length - 1 := by rw [List.length_take]; omega
      have HLN := Lib.hid hln
      clear hln
      go_wp2
      go_ret
      refine rowAt_post (xs := xs.take (xs.length - 1)) ⟨b2, c2, ?_, ?_, fun x hx => HS2.out x (List.mem_of_mem_take hx), HD4.out⟩ (by rw [HLN.out]; omega)
      · rw [HLN.out]; rfl
      · rw [HLN.out]; exact HDR.out
    · have b1' : (y == 1) = false := beq_eq_false_iff_ne.mpr y1
      go_wp2
      go_ret
      exact rowAt_post ⟨b2, c2, rfl, HO4.out, HS2.out, HD4.out⟩ (by omega)
end Go.Proofs.YtanpkomifhbhnaaDoor
