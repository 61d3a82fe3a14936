/- The draws: replies, rows of replies, texts of replies that may be spoilt. -/
import Derived.Test.YtdoaemagednclaaDoorRepRT
import Derived.Test.YtdoaemagednclaaDoorDraw5
namespace Go.Proofs.YtdoaemagednclaaDoor
set_option linter.unusedVariables false
set_option linter.unusedSimpArgs false
open Go.RowKit
attribute [local go_sem] bs_size List.length_cons List.length_nil List.length_append

theorem ub_app (a b : ByteArray) : ub (a ++ b) = ub a ++ ub b := by
  have h := bs_append (ub a) (ub b)
  rw [bs_ub, bs_ub] at h
  rw [h, ub_bs]
def litP (P : ByteArray → Bool) (cs : Array Value) : Bool := decide (0 < cs.size) && decide (cs.size ≤ 1000) && cs.toList.all fun v => match v with | .string s => decide (s.size ≤ 1000000) && P s | _ => false
theorem litP_list {P : ByteArray → Bool} {cs : Array Value} (h : litP P cs = true) : 0 < cs.size ∧ cs.size ≤ 1000 ∧ ∃ ws : List ByteArray, cs = (ws.map Value.string).toArray ∧ ∀ x ∈ ws, x.size ≤ 1000000 ∧ P x = true := by
  simp only [litP, Bool.and_eq_true, decide_eq_true_eq] at h
  refine ⟨h.1.1, h.1.2, ?_⟩
  obtain ⟨l⟩ := cs
  have h2 := h.2
  simp only at h2
  clear h
  induction l with
  | nil => exact ⟨[], rfl, by simp⟩
  | cons v l ih =>
    simp only [List.all_cons, Bool.and_eq_true] at h2
    obtain ⟨ws, e, hw⟩ := ih h2.2
    cases v with
    | string s =>
      refine ⟨s :: ws, ?_, fun x hx => ?_⟩
      · have : l = ws.map Value.string := by simpa using e
        rw [this]
        rfl
      · rcases List.mem_cons.1 hx with rfl | hx
        · simpa using h2.1
        · exact hw x hx
    | _ => simp at h2
theorem pick_P (P : ByteArray → Bool) (g : Nat) (n c : Nat) (cs : Array Value) (w : World) (h : Cu w g) (hok : litP P cs = true) (hn : n = cs.size) (hc : c = cs.size) :
    Calls Tryd.prog 41 #[.pointer (some ⟨g, 0, none⟩), .slice (some ⟨w.heap.size, 0, none⟩) n c] (w.alloc (.cells cs 9)) fun e w' => ∃ x, e = .returned (.string x) ∧ P x = true ∧ Drawn w g w' := by
  subst hn hc
  obtain ⟨h0, h1, ws, rfl, hw⟩ := litP_list hok
  have hl : ws.length = (ws.map Value.string).toArray.size := by simp
  have hblk : StrBlk (w.alloc (.cells (ws.map Value.string).toArray 9)) w.heap.size ws.length ws := ⟨[], by rw [blk_new, List.append_nil], rfl, by omega⟩
  rw [← hl] at h0 h1 ⊢
  refine (spec_l01Pick_calls g (some ⟨w.heap.size, 0, none⟩) ws.length ws _ (h.alloc _) (hblk.row fun s hs => by have := (hw s hs).1; omega) h0 h1 ?_).mono ?_
  · intro ad e
    have := h.lt
    cases e
    show w.heap.size ≠ g
    omega
  · rintro e w' ⟨x, hx, rfl, hd⟩
    exact ⟨x, rfl, (hw x hx).2, (Drawn.alloc h _).trans hd⟩
def simpleS (s : ByteArray) : ByteArray := ((⟨#[43]⟩ : ByteArray) ++ s) ++ (⟨#[13, 10]⟩ : ByteArray)
def faultR (s : ByteArray) : ByteArray := ((⟨#[45]⟩ : ByteArray) ++ s) ++ (⟨#[13, 10]⟩ : ByteArray)
theorem spec_Simple_calls (s : ByteArray) (w : World) (hs : s.size ≤ 1000000000000) : Calls Tryd.prog 40 #[.string s] w fun e w' => e = .returned (.string (simpleS s)) ∧ w = w' := by
  go_enter Tryd.func40, Tryd.ntmps40
  go_wp2
  go_ret
  exact ⟨rfl, rfl⟩
theorem impl_Simple_calls (s : ByteArray) (w : World) (hs : s.size ≤ 1000000000000) : Calls Tryd.prog 15 #[.string s] w fun e w' => e = .returned (.string (simpleS s)) ∧ w = w' := by
  go_enter Tryd.func15, Tryd.ntmps15
  go_wp2
  go_ret
  exact ⟨rfl, rfl⟩
theorem spec_FaultR_calls (s : ByteArray) (w : World) (hs : s.size ≤ 1000000000000) : Calls Tryd.prog 42 #[.string s] w fun e w' => e = .returned (.string (faultR s)) ∧ w = w' := by
  go_enter Tryd.func42, Tryd.ntmps42
  go_wp2
  go_ret
  exact ⟨rfl, rfl⟩
theorem impl_FaultR_calls (s : ByteArray) (w : World) (hs : s.size ≤ 1000000000000) : Calls Tryd.prog 16 #[.string s] w fun e w' => e = .returned (.string (faultR s)) ∧ w = w' := by
  go_enter Tryd.func16, Tryd.ntmps16
  go_wp2
  go_ret
  exact ⟨rfl, rfl⟩
theorem spec_Nil_calls (w : World) : Calls Tryd.prog 43 #[] w fun e w' => e = .returned (.string ⟨#[36, 45, 49, 13, 10]⟩) ∧ w = w' := by
  go_enter Tryd.func43, Tryd.ntmps43
  go_wp2
  go_ret
  exact ⟨rfl, rfl⟩
theorem impl_Nil_calls (w : World) : Calls Tryd.prog 14 #[] w fun e w' => e = .returned (.string ⟨#[36, 45, 49, 13, 10]⟩) ∧ w = w' := by
  go_enter Tryd.func14, Tryd.ntmps14
  go_wp2
  go_ret
  exact ⟨rfl, rfl⟩
def okS (s : ByteArray) : Bool := decide (s.size ≤ 5) && s.data.toList.all (fun c => c != 13)
theorem okS_iff {s : ByteArray} (h : okS s = true) : s.size ≤ 5 ∧ ∀ b ∈ ub s, b ≠ 13 := by
  simp only [okS, Bool.and_eq_true, decide_eq_true_eq, List.all_eq_true, bne_iff_ne] at h
  exact h
theorem rep_simple {d : Nat} {s : ByteArray} (h : okS s = true) : Rep d (ub (simpleS s)) := by
  obtain ⟨h1, h2⟩ := okS_iff h
  refine Rep.one (.inl ⟨43, ub s, .inl rfl, by rw [ub_length]; exact h1, h2, ?_⟩)
  rw [simpleS, ub_app, ub_app]
  rfl
theorem rep_fault {d : Nat} {s : ByteArray} (h : okS s = true) : Rep d (ub (faultR s)) := by
  obtain ⟨h1, h2⟩ := okS_iff h
  refine Rep.one (.inl ⟨45, ub s, .inr rfl, by rw [ub_length]; exact h1, h2, ?_⟩)
  rw [faultR, ub_app, ub_app]
  rfl
theorem rep_num {d : Nat} {n : Int} (h : -1000 ≤ n ∧ n < 1000) : Rep d (ub (bs (numText n))) := by
  rw [ub_bs]
  exact Rep.one (.inr (.inl ⟨n, h.1, h.2, rfl⟩))
theorem rep_nil {d : Nat} : Rep d (ub (⟨#[36, 45, 49, 13, 10]⟩ : ByteArray)) := Rep.one (.inr (.inr (.inl rfl)))
theorem rep_bulk {d : Nat} {s : ByteArray} (h : s.size ≤ 8) : Rep d (ub (bs (bulkText (ub s)))) := by
  rw [ub_bs]
  exact Rep.one (.inr (.inr (.inr ⟨ub s, by rw [ub_length]; exact h, rfl⟩)))
theorem rep_arr {d : Nat} {xs : List ByteArray} (h : xs.length ≤ 4) (hx : ∀ x ∈ xs, Rep d (ub x)) : Rep (d + 1) (ub (bs (arrText xs))) := by
  rw [ub_bs]
  exact .inr ⟨xs, h, hx, rfl⟩
theorem rep_size {d : Nat} {x : ByteArray} (h : Rep d (ub x)) : 0 < x.size ∧ x.size ≤ repMax d := by
  have := rep_len h
  rwa [ub_length] at this
theorem reps_szs : ∀ (xs : List ByteArray) (m : Nat), (∀ x ∈ xs, x.size ≤ m) → szs xs ≤ xs.length * m
  | [], m, _ => by simp [szs]
  | x :: xs, m, h => by
    have h1 := reps_szs xs m fun y hy => h y (by simp [hy])
    have h2 := h x (by simp)
    have e : szs (x :: xs) = (x.size : Int) + szs xs := by simp [szs]
    have e2 : (((x :: xs).length : Nat) : Int) * (m : Int) = (xs.length : Int) * m + m := by rw [List.length_cons]; push_cast; rw [Int.add_mul, Int.one_mul]
    rw [e, e2]
    omega
theorem repMax_le : ∀ {d : Nat}, d ≤ 3 → repMax d ≤ 5000
  | 0, _ => by decide
  | 1, _ => by decide
  | 2, _ => by decide
  | 3, _ => by decide
  | d + 4, h => by omega
/-- A row of drawn replies. -/
def RepsOk (d : Nat) (xs : List ByteArray) : Prop := ∀ x ∈ xs, Rep d (ub x)
theorem RepsOk.szs {d : Nat} {xs : List ByteArray} (h : RepsOk d xs) (hd : d ≤ 3) (hl : xs.length ≤ 4) : (xs.length : Int) + szs xs ≤ 20004 := by
  have h1 := reps_szs xs 5000 fun x hx => Nat.le_trans (rep_size (h x hx)).2 (repMax_le hd)
  omega
theorem RepsOk.snoc {d : Nat} {xs : List ByteArray} {x : ByteArray} (h : RepsOk d xs) (hx : Rep d (ub x)) : RepsOk d (xs ++ [x]) := by
  intro y hy
  rcases List.mem_append.1 hy with hy | hy
  · exact h y hy
  · obtain rfl := List.mem_singleton.1 hy
    exact hx
theorem RepsOk.small {d : Nat} {xs : List ByteArray} (h : RepsOk d xs) (hd : d ≤ 3) : ∀ x ∈ xs, x.size ≤ 9223372036854775807 := fun x hx => by
  have := (rep_size (h x hx)).2
  have := repMax_le hd
  omega
/-- A reply is drawn, d deep at most. -/
def DrawsRep (d : Nat) : Prop := ∀ (g : Nat) (dp : Int) (w : World), dp = 3 - (d : Int) → Cu w g →
  Calls Tryd.prog 26 #[.pointer (some ⟨g, 0, none⟩), .int .i64 dp] w fun e w' => ∃ x, e = .returned (.string x) ∧ Rep d (ub x) ∧ Drawn w g w'
set_option maxHeartbeats 8000000 in
set_option maxRecDepth 100000 in
theorem drawsRep_step (d : Nat) (hd3 : d ≤ 3) (hi : d = 0 ∨ ∃ j, d = j + 1 ∧ DrawsRep j) : DrawsRep d := by
  intro g dp w hdp h
  have HC := Lib.hid h
  have HL := Lib.hid h.lt
  have HI := Lib.hid hi
  have HDP := Lib.hid hdp
  have hdp0 : 0 ≤ dp := by omega
  have hdp9 : dp ≤ 3 := by omega
  clear h hi hdp
  have HSI : Hid (∀ s, okS s = true → Rep d (ub (simpleS s))) := fun s h => rep_simple h
  have HFA : Hid (Rep d (ub (faultR ⟨#[69, 82, 82, 32, 120]⟩))) := rep_fault (by decide)
  have HNU : Hid (∀ n : Int, (-1000 ≤ n ∧ n < 1000) → Rep d (ub (bs (numText n)))) := fun n h => rep_num h
  have HNI : Hid (Rep d (ub (⟨#[36, 45, 49, 13, 10]⟩ : ByteArray))) := rep_nil
  have HBU : Hid (∀ s : ByteArray, s.size ≤ 8 → Rep d (ub (bs (bulkText (ub s))))) := fun s h => rep_bulk h
  go_enter Tryd.func26, Tryd.ntmps26
  go_wp2_with fail
  go_at_call 25
  refine (spec_l01Below_calls g 6 _ HC.out (by omega)).mono ?_
  rintro e w1 ⟨y, rfl, hy0, hy1, _, hd⟩
  have hy1 := hy1 (by omega)
  have HD1 := Lib.hid hd
  clear hd
  by_cases y0 : y = 0
  · subst y0
    go_wp2_with fail
    go_at_call 41
    refine (pick_P okS g _ _ _ _ HD1.out.1 (by kernel_rfl) (by rfl) (by rfl)).mono ?_
    rintro e w2 ⟨x, rfl, hx, hd⟩
    have HX := Lib.hid hx
    have hxs := (okS_iff hx).1
    have HD2 := Lib.hid (HD1.out.trans hd)
    clear hd hx
    go_wp2_with (go_at_call 40; refine (spec_Simple_calls x _ (by omega)).mono ?_; rintro e w' ⟨rfl, rfl⟩)
    go_ret
    exact ⟨_, rfl, HSI.out x HX.out, HD2.out⟩
  · have b0 : (y == 0) = false := beq_eq_false_iff_ne.mpr y0
    by_cases y1 : y = 1
    · subst y1
      go_wp2_with (go_at_call 42; refine (spec_FaultR_calls ⟨#[69, 82, 82, 32, 120]⟩ _ (by decide)).mono ?_; rintro e w' ⟨rfl, rfl⟩)
      go_ret
      exact ⟨_, rfl, HFA.out, HD1.out⟩
    · have b1 : (y == 1) = false := beq_eq_false_iff_ne.mpr y1
      by_cases y2 : y = 2
      · subst y2
        go_wp2_with fail
        go_at_call 25
        refine (spec_l01Below_calls g 2000 _ HD1.out.1 (by omega)).mono ?_
        rintro e w2 ⟨z, rfl, hz0, hz1, _, hd⟩
        have hz1 := hz1 (by omega)
        have HD2 := Lib.hid (HD1.out.trans hd)
        clear hd
        have HN := Lib.hid (HNU.out (z - 1000) (by omega))
        go_wp2_with fail
        go_at_call 22
        refine (spec_Number_calls (z - 1000) _ (by omega) (by omega)).mono ?_
        rintro e w3 ⟨rfl, hb⟩
        have HD3 := Lib.hid (HD2.out.below HL.out hb)
        clear hb
        go_wp2
        go_ret
        exact ⟨_, rfl, HN.out, HD3.out⟩
      · have b2 : (y == 2) = false := beq_eq_false_iff_ne.mpr y2
        by_cases y3 : y = 3
        · subst y3
          go_wp2_with (go_at_call 43; refine (spec_Nil_calls _).mono ?_; rintro e w' ⟨rfl, rfl⟩)
          go_ret
          exact ⟨_, rfl, HNI.out, HD1.out⟩
        · have b3 : (y == 3) = false := beq_eq_false_iff_ne.mpr y3
          by_cases y4 : y = 4 ∧ dp < 3
          · obtain ⟨rfl, hdp3⟩ := y4
            have HJ : Hid (∃ j, d = j + 1 ∧ DrawsRep j) := by
              rcases HI.out with e | h
              · have := HDP.out
                omega
              · exact h
            obtain ⟨j, hj, hcalls⟩ := HJ.out
            have HCA := Lib.hid hcalls
            have hj3 : j ≤ 2 := by omega
            have HDJ : Hid (dp + 1 = 3 - (j : Int)) := by (have := HDP.out; rw [Hid]; omega)
            have HARR : Hid (∀ xs : List ByteArray, xs.length ≤ 4 → RepsOk j xs → Rep d (ub (bs (arrText xs)))) := fun xs h1 h2 => by rw [hj]; exact rep_arr h1 h2
            clear hcalls HJ hj
            go_wp2_with fail
            go_loopw [5, 6] (fun v iv wr => ∃ (i b c : Nat) (xs : List ByteArray), iv = .int .i64 (i : Int) ∧ i ≤ 3 ∧ v = .slice (some ⟨b, 0, none⟩) xs.length c ∧ OwnS wr w.heap.size (.slice (some ⟨b, 0, none⟩) xs.length c) xs ∧ xs.length = i ∧ RepsOk j xs ∧ Drawn w g wr) (fun _ iv _ => 3 - (intOf iv).toNat)
            case atStart => exact ⟨0, _, _, [], rfl, by omega, rfl, ownS_lit (w := w) HD1.out.2.size _ [] rfl (by simp), rfl, fun x hx => by simp at hx, HD1.out.alloc' HL.out _⟩
            case round =>
              obtain ⟨i, b, c, xs, rfl, hi3, rfl, hown, hlen, hok, hd⟩ := hrel
              have HO := Lib.hid hown
              have HLEN := Lib.hid hlen
              have HOK := Lib.hid hok
              have HD := Lib.hid hd
              clear hown hlen hok hd
              go_wp2_with fail
              go_at_call 25
              refine (spec_l01Below_calls g 4 _ HD.out.1 (by omega)).mono ?_
              rintro e w4 ⟨z, rfl, hz0, hz1, _, hd4⟩
              have hz1 := hz1 (by omega)
              have HD4 := Lib.hid (HD.out.trans hd4)
              have HO4 : Hid (OwnS w4 w.heap.size (.slice (some ⟨b, 0, none⟩) xs.length c) xs) := World.ownsRow.kept HO.out hd4.2 (own_ne HO.out.lt HL.out)
              clear hd4
              by_cases hlt : (i : Int) < z
              · go_wp2_with fail
                go_at_call 26
                refine (HCA.out g _ _ HDJ.out HD4.out.1).mono ?_
                rintro e w5 ⟨q, rfl, hq, hd5⟩
                have HQ := Lib.hid hq
                have HD5 := Lib.hid (HD4.out.trans hd5)
                have HO5 : Hid (OwnS (w5.alloc (.cells #[.string q] 9)) w.heap.size (.slice (some ⟨b, 0, none⟩) xs.length c) xs) := World.ownsRow.alloc (World.ownsRow.kept HO4.out hd5.2 (own_ne HO.out.lt HL.out)) _
                clear hd5 hq
                go_wp2_with (at_builtin; refine wpList_appS rfl _ _ rfl w.heap.size b c xs [q] rfl HO5.out ⟨w5.heap.size, 0, none⟩ 1 1 rfl rfl (World.news_of_block (heap_alloc_new w5 _)) (by have := HLEN.out; simp; omega) (by have := HD5.out.2.size; simp; omega) ?_; intro g2 cap w6 hown hgrow)
                have HO6 := Lib.hid hown
                have HD6 := Lib.hid ((HD5.out.alloc' HL.out _).grown HL.out hgrow fun k e => (HO5.out.lt k e).1)
                have HS6 := Lib.hid (HOK.out.snoc HQ.out)
                clear hown hgrow
                go_wp2
                go_roundw
                case rel => first | exact ⟨i + 1, _, _, xs ++ [q], by go_num, by omega, by first | rfl | simp, HO6.out, by rw [List.length_append, HLEN.out]; rfl, HS6.out, HD6.out⟩ | (repeat (first | (refine ⟨?relx, rfl⟩; exact ⟨i + 1, _, _, xs ++ [q], by go_num, by omega, by first | rfl | simp, HO6.out, by rw [List.length_append, HLEN.out]; rfl, HS6.out, HD6.out⟩) | (refine ⟨?relx, ?eqs⟩; (case eqs => (and_intros <;> rfl)); exact ⟨i + 1, _, _, xs ++ [q], by go_num, by omega, by first | rfl | simp, HO6.out, by rw [List.length_append, HLEN.out]; rfl, HS6.out, HD6.out⟩) | apply Exists.intro))
                case measure => simp [intOf]; omega
              · have HSZ := Lib.hid (HOK.out.szs (by omega) (by have := HLEN.out; omega))
                have HRES := Lib.hid (HARR.out xs (by have := HLEN.out; omega) HOK.out)
                obtain ⟨A, c', hv, hrow⟩ := (HO4.out.own (Nat.le_refl _)).row (HOK.out.small (by omega))
                injection hv with e1 e2 e3
                subst e1 e3
                have HROW := Lib.hid hrow
                clear hrow e2
                go_wp2_with fail
                go_at_call 44
                refine (spec_Array_calls _ _ xs _ HROW.out (by have := HSZ.out; omega)).mono ?_
                rintro e w5 ⟨rfl, hb⟩
                have HD5 := Lib.hid (HD4.out.below HL.out hb)
                clear hb
                go_wp2
                go_ret
                exact ⟨_, rfl, HRES.out, HD5.out⟩
          · have b4 : (y == 4) = decide (y = 4) := by rw [Bool.eq_iff_iff]; simp
            have fin : ∀ hb : Bool, (y == 4) = hb → (hb = true → ¬ dp < 3) → True := fun _ _ _ => trivial
            clear fin
            by_cases y44 : y = 4
            · subst y44
              have hdp3 : ¬ dp < 3 := fun e => y4 ⟨rfl, e⟩
              clear y4 b4
              go_wp2_with fail
              go_at_call 25
              refine (spec_l01Below_calls g 9 _ HD1.out.1 (by omega)).mono ?_
              rintro e w2 ⟨z, rfl, hz0, hz1, _, hd⟩
              have hz1 := hz1 (by omega)
              have HD2 := Lib.hid (HD1.out.trans hd)
              clear hd
              go_wp2_with fail
              go_at_call 46
              refine (spec_l01Text_calls g z _ HD2.out.1 hz0 (by omega)).mono ?_
              rintro e w3 ⟨x, rfl, hx, hd⟩
              have HD3 := Lib.hid (HD2.out.trans hd)
              have HBB := Lib.hid (HBU.out x (by omega))
              have hxs : x.size ≤ 8 := by omega
              clear hd hx
              go_wp2_with fail
              go_at_call 45
              refine (spec_Bulk_calls x _ (by omega)).mono ?_
              rintro e w4 ⟨rfl, hb⟩
              have HD4 := Lib.hid (HD3.out.below HL.out hb)
              clear hb
              go_wp2
              go_ret
              exact ⟨_, rfl, HBB.out, HD4.out⟩
            · have b44 : (y == 4) = false := beq_eq_false_iff_ne.mpr y44
              clear y4 b4
              go_wp2_with fail
              go_at_call 25
              refine (spec_l01Below_calls g 9 _ HD1.out.1 (by omega)).mono ?_
              rintro e w2 ⟨z, rfl, hz0, hz1, _, hd⟩
              have hz1 := hz1 (by omega)
              have HD2 := Lib.hid (HD1.out.trans hd)
              clear hd
              go_wp2_with fail
              go_at_call 46
              refine (spec_l01Text_calls g z _ HD2.out.1 hz0 (by omega)).mono ?_
              rintro e w3 ⟨x, rfl, hx, hd⟩
              have HD3 := Lib.hid (HD2.out.trans hd)
              have HBB := Lib.hid (HBU.out x (by omega))
              have hxs : x.size ≤ 8 := by omega
              clear hd hx
              go_wp2_with fail
              go_at_call 45
              refine (spec_Bulk_calls x _ (by omega)).mono ?_
              rintro e w4 ⟨rfl, hb⟩
              have HD4 := Lib.hid (HD3.out.below HL.out hb)
              clear hb
              go_wp2
              go_ret
              exact ⟨_, rfl, HBB.out, HD4.out⟩
theorem drawsRep : ∀ d, d ≤ 3 → DrawsRep d
  | 0, h => drawsRep_step 0 h (.inl rfl)
  | d + 1, h => drawsRep_step (d + 1) h (.inr ⟨d, rfl, drawsRep d (by omega)⟩)
end Go.Proofs.YtdoaemagednclaaDoor
