/- The laws' marks in changes: markChangeS, heldChangeS, markBatch, heldBatch. -/
import Derived.Test.YtekhfplbhcfdmaaBReadI
import Derived.Test.YtekhfplbhcfdmaaBat6
import Derived.Test.YtekhfplbhcfdmaaMk
namespace Go.Proofs.Ytekhfplbhcfdmaa
set_option linter.unusedVariables false
set_option linter.unusedSimpArgs false
open Go.RowKit
attribute [local go_sem] bs_size List.length_cons List.length_nil List.length_append

def mkCh (k : Nat) : ChD := (mText k, mText (k + 1), decide ((k + 2) % 3 = 0))
def marksCh (k n : Nat) : List ChD := (List.range n).map fun i => mkCh (k + i * 3)
theorem marksCh_length (k n : Nat) : (marksCh k n).length = n := by simp [marksCh]
theorem marksCh_get {k n i : Nat} (h : i < n) : (marksCh k n)[i]? = some (mkCh (k + i * 3)) := by simp [marksCh, h]
theorem marksCh_succ (k n : Nat) : marksCh k (n + 1) = marksCh k n ++ [mkCh (k + n * 3)] := by simp [marksCh, List.range_succ]
theorem marksCh_small {k n : Nat} (h : k + n * 3 ≤ 1000000000000) : ∀ x ∈ marksCh k n, x.1.size ≤ 9223372036854775807 ∧ x.2.1.size ≤ 9223372036854775807 := by
  intro s hs
  obtain ⟨i, hi, rfl⟩ := List.mem_map.1 hs
  have := List.mem_range.1 hi
  have h1 := mText_size (k + i * 3) (by omega)
  have h2 := mText_size (k + i * 3 + 1) (by omega)
  exact ⟨by show (mText (k + i * 3)).size ≤ _; omega, by show (mText (k + i * 3 + 1)).size ≤ _; omega⟩
theorem chFlat_drop {cs : List ChD} {j : Nat} (h : j < cs.length) (more : List Value) : chFlat (cs.drop j) ++ more = chVals cs[j] ++ (chFlat (cs.drop (j + 1)) ++ more) := by
  unfold chFlat
  rw [List.drop_eq_getElem_cons h, List.map_cons, List.flatten_cons, List.append_assoc]
/-- What markChangeS does. -/
def MarkedCh (w : World) (B : Nat) (v : Value) (k n : Nat) (e : Ending) (w' : World) : Prop := e = .returned (.int .i64 ((k + n * 3 : Nat) : Int)) ∧ ChOwn w' B v (marksCh k n) ∧ w.grownBy w' v.ownBlock
theorem mod3 (k j : Nat) : (((k : Int) + (j : Int) * 3 + 1 + 1) % 3 == 0) = decide ((k + j * 3 + 2) % 3 = 0) := by
  by_cases h : (k + j * 3 + 2) % 3 = 0
  · rw [decide_eq_true h]
    exact beq_iff_eq.mpr (by omega)
  · rw [decide_eq_false h]
    exact beq_eq_false_iff_ne.mpr (by omega)
theorem mark_next {w wr : World} {b : Nat} {ty : TypeId} {k j : Nat} {c : ChD} {R : List Value} (h : MkAt w wr b ty (chFlat (marksCh k j)) ((((chVals c).set 0 (.string (mText (k + j * 3)))).set 1 (.string (mText (k + j * 3 + 1)))).set 2 (.bool (decide ((k + j * 3 + 2) % 3 = 0)))) R) : MkAt w wr b ty (chFlat (marksCh k (j + 1))) [] R := by
  rw [marksCh_succ, chFlat_snoc]
  exact h.next (M' := []) rfl
theorem markCh_end {cs : List ChD} {k b B c : Nat} {more : List Value} {w wr : World} (h : MkAt w wr b 80 (chFlat (marksCh k cs.length)) [] (chFlat (cs.drop cs.length) ++ more)) (hc : (chFlat cs ++ more).length = c * 3) (hm : c ≤ maxLen) (hB : B ≤ b) :
    MarkedCh w B (.slice (some ⟨b, 0, none⟩) cs.length c) k cs.length (.returned (.int .i64 ((k + cs.length * 3 : Nat) : Int))) wr := by
  have hl : (chFlat (marksCh k cs.length)).length = cs.length * 3 := by rw [chFlat_len, marksCh_length]
  have h1 := h.1
  rw [List.drop_length, List.nil_append, show chFlat ([] : List ChD) = [] from rfl, List.nil_append] at h1
  rw [List.length_append, chFlat_len] at hc
  refine ⟨rfl, ⟨by rw [marksCh_length]; exact hl, .inr ⟨b, c, _, by rw [marksCh_length], hB, h1, by rw [marksCh_length]; omega, hm, by simp [hl]; omega, ?_⟩⟩, h.2⟩
  rw [marksCh_length, ← hl]
  exact List.take_left' rfl
set_option maxRecDepth 100000 in
theorem laws_markChangeS_calls (B : Nat) (v : Value) (cs : List ChD) (k : Nat) (w : World) (h : ChOwn w B v cs) (h0 : 1 ≤ k) (h1 : k + cs.length * 3 ≤ 1000000000000) :
    Calls Try.prog 60 #[v, .int .i64 (k : Int)] w (MarkedCh w B v k cs.length) := by
  have hfl := h.1
  rcases h.2 with ⟨rfl, h00⟩ | ⟨b, c, cur, rfl, hB, hg, hn, hm, hc, ht⟩
  · obtain rfl := List.eq_nil_of_length_eq_zero h00
    go_enter Try.func60, Try.ntmps60
    go_wp2
    refine wp_loop_rounds 1 ?_
    rw [rounds_succ]
    go_wp2
    go_ret
    exact ⟨rfl, World.ownsRow_nil _ _ _ _, ⟨rfl, rfl, rfl, Nat.le_refl _, fun _ _ _ => rfl⟩⟩
  · have hl : cs.length ≤ 1000000000000 := by omega
    obtain ⟨more, hcur⟩ : ∃ more : List Value, cur.toList = chFlat cs ++ more := ⟨cur.toList.drop (cs.length * 3), by rw [← ht, List.take_append_drop]⟩
    have hblk : w.heap[b]? = some (.cells (chFlat cs ++ more).toArray 80 (0, 0)) := by rw [hg, ← hcur]
    have hst : Hid (MkAt w w b 80 (chFlat (marksCh k 0)) [] (chFlat (cs.drop 0) ++ more)) := ⟨hblk, rfl, rfl, rfl, Nat.le_refl _, fun _ _ _ => rfl⟩
    have HC : Hid ((chFlat cs ++ more).length = c * 3) := by rw [Hid, ← hcur, Array.length_toList]; exact hc
    clear hblk hc ht hcur hg hfl
    go_enter Try.func60, Try.ntmps60
    go_wp2
    go_loopw [1, 5] (fun q i wr => ∃ j : Nat, j ≤ cs.length ∧ i = .int .i64 j ∧ q = .int .i64 ((k + j * 3 : Nat) : Int) ∧ MkAt w wr b 80 (chFlat (marksCh k j)) [] (chFlat (cs.drop j) ++ more)) (fun _ i _ => cs.length - (intOf i).toNat)
    case atStart => exact ⟨0, Nat.zero_le _, rfl, by go_num, hst.out⟩
    case round =>
      obtain ⟨j, hj, rfl, rfl, hrel⟩ := hrel
      by_cases hlt : j < cs.length
      · have hrel' : MkAt w wr b 80 (chFlat (marksCh k j)) (chVals cs[j]) (chFlat (cs.drop (j + 1)) ++ more) := by
          have := hrel.next (M' := chVals cs[j]) (R' := chFlat (cs.drop (j + 1)) ++ more) (chFlat_drop hlt more)
          rwa [List.append_nil] at this
        have hPl : (chFlat (marksCh k j)).length = j * 3 := by rw [chFlat_len, marksCh_length]
        have HP := Lib.hid hPl
        have HT := Lib.hid hrel'
        clear hrel hrel' hPl
        go_wp2_with fail
        go_at_call 55
        refine (laws_markText_calls (k + j * 3) _ (by omega) (by omega)).mono ?_
        rintro e w1 ⟨rfl, hb⟩
        have HT1 := Lib.hid (HT.out.below hb)
        clear hb
        have f0 := HT1.out.fz (j * 3)
        have c0 := HT1.out.cell 0 (j * 3) (by rw [HP.out]; rfl) (by simp [chVals])
        rw [show (chVals cs[j])[0]? = some (.string cs[j].1) from rfl] at c0
        have HT2 := Lib.hid (HT1.out.set 0 (j * 3) (by rw [HP.out]; rfl) (by simp [chVals]) (.string (mText (k + j * 3))))
        go_wp2_with fail
        go_at_call 55
        rw [show (k : Int) + (j : Int) * 3 + 1 = ((k + j * 3 + 1 : Nat) : Int) by omega]
        refine (laws_markText_calls (k + j * 3 + 1) _ (by omega) (by omega)).mono ?_
        rintro e w2 ⟨rfl, hb⟩
        have HT3 := Lib.hid (HT2.out.below hb)
        clear hb
        have f1 := HT3.out.fz (j * 3 + 1)
        have c1 := HT3.out.cell 1 (j * 3 + 1) (by rw [HP.out]) (by simp [chVals])
        rw [show ((chVals cs[j]).set 0 (.string (mText (k + j * 3))))[1]? = some (.string cs[j].2.1) from rfl] at c1
        have HT4 := Lib.hid (HT3.out.set 1 (j * 3 + 1) (by rw [HP.out]) (by simp [chVals]) (.string (mText (k + j * 3 + 1))))
        have f2 := HT4.out.fz (j * 3 + 2)
        have c2 := HT4.out.cell 2 (j * 3 + 2) (by rw [HP.out]) (by simp [chVals])
        rw [show (((chVals cs[j]).set 0 (.string (mText (k + j * 3)))).set 1 (.string (mText (k + j * 3 + 1))))[2]? = some (.bool cs[j].2.2) from rfl] at c2
        have HT5 := Lib.hid (HT4.out.set 2 (j * 3 + 2) (by rw [HP.out]) (by simp [chVals]) (.bool (decide ((k + j * 3 + 2) % 3 = 0))))
        have HM := Lib.hid (mod3 k j)
        have HN := Lib.hid (mark_next HT5.out)
        go_wp2
        go_roundw
        case rel => exact ⟨j + 1, by omega, by go_num, by go_num, by rw [HM.out]; exact HN.out⟩
        case measure => simp [intOf]; omega
      · obtain rfl : j = cs.length := by omega
        have HT := Lib.hid hrel
        clear hrel
        go_wp2
        go_ret
        exact markCh_end HT.out HC.out hm hB
set_option maxHeartbeats 1000000 in
set_option maxRecDepth 100000 in
theorem laws_heldChangeS_calls (A : Option Addr) (c n : Nat) (k : Nat) (w : World) (h : ChRow w A c (marksCh k n)) (h0 : 1 ≤ k) (h1 : k + n * 3 ≤ 1000000000000) :
    Calls Try.prog 61 #[.slice A n c, .int .i64 (k : Int)] w fun e w' => e = .returned (.int .i64 ((k + n * 3 : Nat) : Int)) ∧ Below w.heap.size w w' := by
  have HR := Lib.hid h
  clear h
  go_enter Try.func61, Try.ntmps61
  go_wp2
  go_loopw [1, 5] (fun q i wr => ∃ j : Nat, j ≤ n ∧ i = .int .i64 j ∧ q = .int .i64 ((k + j * 3 : Nat) : Int) ∧ Below w.heap.size w wr) (fun _ i _ => n - (intOf i).toNat)
  case atStart => exact ⟨0, Nat.zero_le _, rfl, by go_num, Below.refl _ _⟩
  case round =>
    obtain ⟨j, hj, rfl, rfl, hbel⟩ := hrel
    have HB := Lib.hid hbel
    by_cases hlt : j < n
    · obtain ⟨ad, x, hA, HX, hz1, hz2, hc0, hc1, hc2⟩ := (HR.out.below hbel).at_ (k := j) (by rw [marksCh_length]; exact hlt)
      obtain rfl : mkCh (k + j * 3) = x := by
        have := HX.out
        rw [marksCh_get hlt] at this
        exact Option.some.inj this
      clear HX hbel
      cases hA
      unfold mkCh at hz1 hz2 hc0 hc1 hc2
      dsimp only at hz1 hz2 hc0 hc1 hc2
      have H3 := Lib.hid (And.intro hc0 (And.intro hc1 hc2))
      have HH0 : Hid (Below wr.heap.size wr wr.drew) := Below.drew (Below.refl _ _)
      go_wp2_with fail
      go_region_held3 (fun w' => w'.cell? (ad.add (j * 3)) = some (.string (mText (k + j * 3))) ∧ w'.cell? ⟨(ad.add (j * 3)).block, (ad.add (j * 3)).off + 1, none⟩ = some (.string (mText (k + j * 3 + 1))) ∧ w'.cell? ⟨(ad.add (j * 3)).block, (ad.add (j * 3)).off + 2, none⟩ = some (.bool (decide ((k + j * 3 + 2) % 3 = 0))) ∧ Hid (Below wr.heap.size wr w')) (first | exact keep3 H3.out.1 H3.out.2.1 H3.out.2.2 HH0.out | exact keep3 H3.out.1 H3.out.2.1 H3.out.2.2 (HH0.out.trans (hb.mono (Nat.le_refl _)))) (first | (go_at_call 55; refine (laws_markText_calls (k + j * 3) _ (by omega) (by omega)).mono ?_; rintro e w' ⟨rfl, hb⟩))
      obtain ⟨k0, k1, k2, HKB⟩ := ‹_ ∧ _ ∧ _ ∧ Hid (Below wr.heap.size wr w')›
      have H4 := Lib.hid (And.intro k0 (And.intro k1 k2))
      have HH1 : Hid (Below w'.heap.size w' w'.drew) := Below.drew (Below.refl _ _)
      clear hb hc0 hc1 hc2
      go_wp2_with fail
      go_region_held3 (fun w2 => w2.cell? (ad.add (j * 3)) = some (.string (mText (k + j * 3))) ∧ w2.cell? ⟨(ad.add (j * 3)).block, (ad.add (j * 3)).off + 1, none⟩ = some (.string (mText (k + j * 3 + 1))) ∧ w2.cell? ⟨(ad.add (j * 3)).block, (ad.add (j * 3)).off + 2, none⟩ = some (.bool (decide ((k + j * 3 + 2) % 3 = 0))) ∧ Hid (Below w'.heap.size w' w2)) (first | exact keep3 H4.out.1 H4.out.2.1 H4.out.2.2 HH1.out | exact keep3 H4.out.1 H4.out.2.1 H4.out.2.2 (HH1.out.trans (hb.mono (Nat.le_refl _)))) (first | (go_at_call 55; rw [show (k : Int) + (j : Int) * 3 + 1 = ((k + j * 3 + 1 : Nat) : Int) by omega]; refine (laws_markText_calls (k + j * 3 + 1) _ (by omega) (by omega)).mono ?_; rintro e w2 ⟨rfl, hb⟩))
      obtain ⟨l0, l1, l2, HKC⟩ := ‹_ ∧ _ ∧ _ ∧ Hid (Below w'.heap.size w' w2)›
      have HM := mod3 k j
      have hbb : (decide ((k + j * 3 + 2) % 3 = 0) != decide ((k + j * 3 + 2) % 3 = 0)) = false := by simp
      clear hb k0 k1 k2
      go_wp2
      go_roundw
      case rel => exact ⟨j + 1, by omega, by go_num, by go_num, HB.out.trans ((HKB.out.trans (HKC.out.mono HKB.out.size)).mono HB.out.size)⟩
      case measure => simp [intOf]; omega
    · obtain rfl : j = n := by omega
      clear hbel
      go_wp2
      go_ret
      exact ⟨rfl, HB.out⟩
set_option maxRecDepth 100000 in
theorem laws_markBatch_calls (B : Nat) (q : Int) (A : Option Addr) (c : Nat) (cs : List ChD) (m : Nat) (w : World) (h : ChOwn w B (.slice A cs.length c) cs) (h0 : 1 ≤ m) (h1 : m + cs.length * 3 ≤ 1000000000000) :
    Calls Try.prog 17 #[.agg #[.int .i64 q, .slice A cs.length c], .int .i64 (m : Int)] w (MarkedCh w B (.slice A cs.length c) m cs.length) := by
  have hb : Below w.heap.size w (w.alloc (.cells #[.int .i64 q, .slice A cs.length c] 30)) := (Below.refl _ _).alloc (Nat.le_refl _) _
  have HO := Lib.hid (h.below hb)
  have HG := Lib.hid (World.grownBy_alloc w (.cells #[.int .i64 q, .slice A cs.length c] 30) (Value.slice A cs.length c).ownBlock)
  clear h hb
  go_enter Try.func17, Try.ntmps17
  go_wp2_with fail
  go_at_call 60
  refine (laws_markChangeS_calls B _ cs m _ HO.out h0 h1).mono ?_
  rintro e w3 ⟨rfl, ho, hg⟩
  have HO3 := Lib.hid ho
  have HG3 := Lib.hid (HG.out.trans hg)
  clear ho hg
  go_wp2
  go_ret
  exact ⟨rfl, HO3.out, HG3.out⟩
set_option maxRecDepth 100000 in
theorem laws_heldBatch_calls (q : Int) (A : Option Addr) (c n m : Nat) (w : World) (h : ChRow w A c (marksCh m n)) (h0 : 1 ≤ m) (h1 : m + n * 3 ≤ 1000000000000) :
    Calls Try.prog 18 #[.agg #[.int .i64 q, .slice A n c], .int .i64 (m : Int)] w fun e w' => e = .returned (.int .i64 ((m + n * 3 : Nat) : Int)) ∧ Below w.heap.size w w' := by
  have hb : Below w.heap.size w (w.alloc (.cells #[.int .i64 q, .slice A n c] 30)) := (Below.refl _ _).alloc (Nat.le_refl _) _
  have HR := Lib.hid (h.below hb)
  have HB := Lib.hid hb
  clear h hb
  go_enter Try.func18, Try.ntmps18
  go_wp2_with fail
  go_at_call 61
  refine (laws_heldChangeS_calls A c n m _ HR.out h0 h1).mono ?_
  rintro e w3 ⟨rfl, hb3⟩
  have hneg : ¬ ((m + n * 3 : Nat) : Int) < 0 := by omega
  go_wp2
  go_ret
  exact ⟨rfl, bl_call HB.out hb3⟩
end Go.Proofs.Ytekhfplbhcfdmaa
