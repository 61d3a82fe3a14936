/- Segments: what a segment's file tells, plain; placedIn. -/
import Derived.Test.YtaacpdejpcbbbaaGreatDoorSeg3
namespace Go.Proofs.YtaacpdejpcbbbaaGreatDoor
set_option linter.unusedVariables false
set_option linter.unusedSimpArgs false
open Go.RowKit
attribute [local go_sem] bs_size List.length_cons List.length_nil List.length_append

/-- A batch, the place at which its frame begins, how long that is. -/
abbrev PlD := BatD × Nat × Nat
def placedGo : Option Int → Nat → List ByteArray → List PlD
  | _, _, [] => []
  | last, a, r :: rs => match readBatS r with
    | none => []
    | some b => if (match last with | none => false | some q => decide (b.1 ≤ q)) = true then [] else (b, a, frameLen r) :: placedGo (some b.1) (a + frameLen r) rs
/-- Of a segment's file: its from, how long the head's frame is, its batches. -/
def segPl (n : Int) (s : ByteArray) : Option (Nat × Nat × List PlD) := match (unframeB s).1 with
  | [] => none
  | r :: rs => match hdI n r with
    | none => none
    | some f => some (f, frameLen r, placedGo none (frameLen r) rs)
theorem segPl_head (n : Int) (s : ByteArray) : (segPl n s).map (fun x => (x.1, x.2.1)) = headOfB n s := by
  unfold segPl headOfB
  cases (unframeB s).1 with
  | nil => rfl
  | cons r rs =>
    dsimp only
    cases hdI n r <;> rfl
theorem segPl_none {n : Int} {s : ByteArray} (h : headOfB n s = none) : segPl n s = none := by
  have := segPl_head n s
  rw [h] at this
  cases hq : segPl n s with
  | none => rfl
  | some x => rw [hq] at this; cases this
theorem segPl_some {n : Int} {s : ByteArray} {f l : Nat} (h : headOfB n s = some (f, l)) : ∃ r rs, (unframeB s).1 = r :: rs ∧ l = frameLen r ∧ segPl n s = some (f, l, placedGo none l rs) := by
  unfold headOfB at h
  unfold segPl
  cases hu : (unframeB s).1 with
  | nil => rw [hu] at h; cases h
  | cons r rs =>
    rw [hu] at h
    dsimp only at h ⊢
    cases hd : hdI n r with
    | none => rw [hd] at h; cases h
    | some g =>
      rw [hd] at h
      simp only [Option.some.injEq, Prod.mk.injEq] at h
      obtain ⟨rfl, rfl⟩ := h
      exact ⟨r, rs, rfl, rfl, rfl⟩
def lastSeq (pls : List PlD) : Option Int := pls.getLast?.map fun p => p.1.1
theorem lastSeq_snoc (pls : List PlD) (p : PlD) : lastSeq (pls ++ [p]) = some p.1.1 := by unfold lastSeq; rw [List.getLast?_concat]; rfl
theorem placedGo_none {last : Option Int} {a : Nat} {r : ByteArray} {rs : List ByteArray} (h : readBatS r = none) : placedGo last a (r :: rs) = [] := by unfold placedGo; rw [h]
theorem placedGo_low {q : Int} {a : Nat} {r : ByteArray} {rs : List ByteArray} {b : BatD} (h : readBatS r = some b) (hq : b.1 ≤ q) : placedGo (some q) a (r :: rs) = [] := by unfold placedGo; rw [h]; simp [hq]
theorem placedGo_first {a : Nat} {r : ByteArray} {rs : List ByteArray} {b : BatD} (h : readBatS r = some b) : placedGo none a (r :: rs) = (b, a, frameLen r) :: placedGo (some b.1) (a + frameLen r) rs := by rw [placedGo, h]; rfl
theorem placedGo_next {q : Int} {a : Nat} {r : ByteArray} {rs : List ByteArray} {b : BatD} (h : readBatS r = some b) (hq : ¬ b.1 ≤ q) : placedGo (some q) a (r :: rs) = (b, a, frameLen r) :: placedGo (some b.1) (a + frameLen r) rs := by rw [placedGo, h]; simp [hq]
theorem batD_small {r : ByteArray} {b : BatD} (h : readBatS r = some b) : ChSmall b.2 ∧ (0 ≤ b.1 ∧ b.1 ≤ 1000000000) ∧ b.2.length ≤ 40 := by
  obtain ⟨h1, h2, h3⟩ := batOk_parts (isBat_parts (readBatS_is h)).1
  exact ⟨fun x hx => by have := h3 x hx; omega, h1, h2⟩
/-- Where placedIn's loop stands: it has acc, stands at a, j records are read. -/
def PlAt (whole : List PlD) (rs : List ByteArray) (j : Nat) (acc : List PlD) (a : Nat) : Prop := whole = acc ++ placedGo (lastSeq acc) a (rs.drop j) ∧ acc.length = j ∧ a ≤ 9020 * (j + 1)
theorem plAt_stop {whole acc : List PlD} {rs : List ByteArray} {j a : Nat} (h : PlAt whole rs j acc a) (hg : placedGo (lastSeq acc) a (rs.drop j) = []) : whole = acc := by rw [h.1, hg, List.append_nil]
theorem plAt_end {whole acc : List PlD} {rs : List ByteArray} {j a : Nat} (h : PlAt whole rs j acc a) (hj : rs.length ≤ j) : whole = acc := plAt_stop h (by rw [List.drop_eq_nil_of_le hj]; unfold placedGo; rfl)
theorem plAt_step {whole acc : List PlD} {rs : List ByteArray} {j a : Nat} {r : ByteArray} {b : BatD} (h : PlAt whole rs j acc a) (hr : rs[j]? = some r) (hs : r.size ≤ 9000) (hg : placedGo (lastSeq acc) a (r :: rs.drop (j + 1)) = (b, a, frameLen r) :: placedGo (some b.1) (a + frameLen r) (rs.drop (j + 1))) :
    PlAt whole rs (j + 1) (acc ++ [(b, a, frameLen r)]) (a + frameLen r) := by
  obtain ⟨hj, e⟩ := List.getElem?_eq_some_iff.1 hr
  have hl := frameLen_le hs
  refine ⟨?_, by rw [List.length_append, h.2.1]; rfl, by have := h.2.2; omega⟩
  rw [lastSeq_snoc, h.1, List.drop_eq_getElem_cons hj, e, hg, List.append_assoc]
  rfl
theorem drop_get {rs : List ByteArray} {j : Nat} {r : ByteArray} (hr : rs[j]? = some r) : rs.drop j = r :: rs.drop (j + 1) := by
  obtain ⟨hj, e⟩ := List.getElem?_eq_some_iff.1 hr
  rw [List.drop_eq_getElem_cons hj, e]
/-- A placed's cells. -/
def plVals (z : Value × PlD) : List Value := [.int .i64 z.2.1.1, z.1, .int .i64 (z.2.2.1 : Int), .int .i64 (z.2.2.2 : Int)]
def PlOwn (w : World) (B : Nat) (v : Value) (pls : List PlD) : Prop := ListC 75 4 plVals (fun p => p.1.2) w B v pls
def PlPost (w : World) (o : Option (Nat × Nat × List PlD)) (e : Ending) (w' : World) : Prop := Below w.heap.size w w' ∧ match o with
  | none => e = .returned (.tuple #[.int .i64 0, .slice none 0 0, .bool false])
  | some (f, _, pls) => ∃ v, e = .returned (.tuple #[.int .i64 (f : Int), v, .bool true]) ∧ PlOwn w' w.heap.size v pls
theorem ownS_at {w : World} {B : Nat} {v : Value} {xs : List ByteArray} (h : OwnS w B v xs) : (v = .slice none 0 0 ∧ xs = []) ∨ ∃ g cap, v = .slice (some ⟨g, 0, none⟩) xs.length cap ∧ B ≤ g ∧ g < w.heap.size ∧ xs.length ≤ cap ∧ cap ≤ 9223372036854775807 ∧ ∀ j x, xs[j]? = some x → w.cell? ⟨g, j, none⟩ = some (.string x) := by
  have e : (xs.map fun x : ByteArray => [Value.string x]).flatten = xs.map Value.string := by
    clear h
    induction xs with
    | nil => rfl
    | cons x l ih => rw [List.map_cons, List.flatten_cons, ih]; rfl
  rcases own_cells (f := fun x : ByteArray => [Value.string x]) (m := 1) (fun _ => rfl) (xs := xs) (by rw [e]; exact h) with h | ⟨g, cap, h1, h2, h3, h4, h5, h6⟩
  · exact .inl h
  · exact .inr ⟨g, cap, h1, h2, h3, h4, h5, fun j x hx => by have := h6 j x 0 hx (by omega); rwa [Nat.mul_one, Nat.add_zero] at this⟩
theorem plPost_of {w w' : World} {o : Option (Nat × Nat × List PlD)} {f l : Nat} {pls acc : List PlD} {v : Value} (he : o = some (f, l, pls)) (hw : pls = acc) (ho : PlOwn w' w.heap.size v acc) (hb : Below w.heap.size w w') : PlPost w o (.returned (.tuple #[.int .i64 (f : Int), v, .bool true])) w' := by
  subst he hw
  exact ⟨hb, v, rfl, ho⟩
theorem info_pl : (Tryz.prog.info? 75).map (fun i => (i.zero, i.size, i.bytes)) = some (some (.agg #[.int .i64 0, .slice none 0 0, .int .i64 0, .int .i64 0]), 4, 48) := by kernel_rfl
set_option maxHeartbeats 4000000 in
set_option maxRecDepth 100000 in
theorem impl_placedIn_calls (n : Int) (s : ByteArray) (w : World) (hs : s.size ≤ 1125899906842624) : Calls Tryz.prog 41 #[.int .i64 n, .string s] w (PlPost w (segPl n s)) := by
  obtain ⟨i0, hi0, hz, hsz, hby⟩ := info_parts info_pl
  cases hh : headOfB n s with
  | none =>
    have HE := Lib.hid (segPl_none hh)
    have HH := Lib.hid hh
    clear hh
    go_enter Tryz.func41, Tryz.ntmps41
    go_wp2_with fail
    go_at_call 84
    refine (impl_headOf_calls n s _ hs).mono ?_
    rw [HH.out]
    rintro e w1 ⟨rfl, hb⟩
    simp only [hoRes]
    go_wp2
    go_ret3
    exact ⟨hb, by rw [HE.out]; rfl⟩
  | some fl =>
    obtain ⟨f, l⟩ := fl
    obtain ⟨r, rs, hu, hl, he⟩ := segPl_some hh
    have HE := Lib.hid he
    have HH := Lib.hid hh
    have HU := Lib.hid hu
    obtain ⟨_, hlen, hsm⟩ := unframeB_le s
    rw [hu] at hlen hsm
    rw [List.length_cons] at hlen
    have hl9 : l ≤ 9020 := by rw [hl]; exact frameLen_le (hsm r (by simp)).2
    have HSM := Lib.hid (fun x hx => hsm x (List.mem_cons_of_mem _ hx))
    have HP : Hid (PlAt (placedGo none l rs) rs 0 [] l) := ⟨rfl, rfl, by omega⟩
    clear hh hu he hl hsm
    generalize placedGo none l rs = W at HP HE
    go_enter Tryz.func41, Tryz.ntmps41
    go_wp2_with fail
    go_at_call 84
    refine (impl_headOf_calls n s _ hs).mono ?_
    rw [HH.out]
    rintro e w1 ⟨rfl, hb⟩
    simp only [hoRes]
    have HB1 := Lib.hid hb
    clear hb
    go_wp2_with fail
    go_at_call 90
    refine (impl_Unframe_calls s _ hs).mono ?_
    rintro e w2 ⟨v, rfl, ho, hb⟩
    rw [HU.out] at ho
    rcases ownS_at ho with ⟨_, h0⟩ | ⟨g, cap, rfl, hgB, hgl, hcap, hcm, hcells⟩
    · cases h0
    rw [List.length_cons] at hcap
    have HB2 := Lib.hid (HB1.out.trans (hb.mono HB1.out.size))
    have HC := Lib.hid (fun j x (hx : rs[j]? = some x) => hcells (j + 1) x (by simpa using hx))
    clear hb ho hcells
    rw [List.length_cons]
    by_cases hc1 : cap = 1
    · obtain rfl : rs = [] := List.eq_nil_of_length_eq_zero (by omega)
      subst hc1
      have HWE := Lib.hid (plAt_end HP.out (Nat.le_refl _))
      go_wp2
      refine wp_loop_rounds 1 ?_
      rw [rounds_succ]
      go_wp2
      go_ret3
      exact ⟨HB2.out, by rw [HE.out, HWE.out]; exact ⟨_, rfl, ListC.nil _ _⟩⟩
    · obtain ⟨c2, rfl⟩ : ∃ c2, cap = c2 + 2 := ⟨cap - 2, by omega⟩
      go_wp2
      go_loopw [8, 12, 36] (fun av ov iv wr => ∃ (j : Nat) (acc : List PlD) (a : Nat) (v : Value), j ≤ rs.length ∧ iv = .int .i64 (j : Int) ∧ av = .int .i64 (a : Int) ∧ v = ov ∧ PlAt W rs j acc a ∧ PlOwn wr w2.heap.size v acc ∧ Below w2.heap.size w2 wr) (fun _ _ iv _ => rs.length - (intOf iv).toNat)
      case atStart => exact ⟨0, [], l, _, Nat.zero_le _, rfl, rfl, rfl, HP.out, ListC.nil _ _, Below.refl _ _⟩
      case round =>
        obtain ⟨j, acc, a, v, hj, rfl, rfl, rfl, hat, hown, hbel⟩ := hrel
        have HAT := Lib.hid hat
        have HO := Lib.hid hown
        have HB := Lib.hid hbel
        have ha : a ≤ 200000000 := by have := hat.2.2; omega
        have HAL := Lib.hid hat.2.1
        obtain ⟨A, c, rfl⟩ := hown.form
        rw [hat.2.1] at HO ⊢
        clear hat hown hbel
        by_cases hlt : j < rs.length
        · obtain ⟨x, hx⟩ : ∃ x, rs[j]? = some x := ⟨_, List.getElem?_eq_getElem hlt⟩
          have hxs := HSM.out x (List.mem_of_getElem? hx)
          have hcx : wr.cell? ⟨g, j + 1, none⟩ = some (.string x) := (HB.out.cell hgl).trans (HC.out j x hx)
          have hcy : wr.cell? ⟨g, 1 + j, none⟩ = some (.string x) := by rw [Nat.add_comm]; exact hcx
          have HX := Lib.hid hx
          clear hx
          cases hb : readBatS x with
          | none =>
            have HWE := Lib.hid (plAt_stop HAT.out (by rw [drop_get HX.out]; exact placedGo_none hb))
            have HRB := Lib.hid hb
            clear hb
            go_wp2_with fail
            go_at_call 91
            refine (impl_ReadBatch_calls x _ (by omega)).mono ?_
            rw [readBat_same, HRB.out]
            rintro e w3 ⟨hb3, rfl⟩
            have HO3 := Lib.hid (HO.out.below hb3)
            have HB3 := Lib.hid (HB.out.trans (hb3.mono HB.out.size))
            clear hb3
            go_wp2
            go_quiet (fail)
            go_wp2
            go_ret3
            exact plPost_of HE.out HWE.out (((HO3.out.alloc _).below (blwN (Below.refl _ _) _)).mono HB2.out.size) (HB2.out.trans ((blwN (HB3.out.alloc HB3.out.size _) _).mono HB2.out.size))
          | some b =>
            obtain ⟨q, cs⟩ := b
            have HRB := Lib.hid hb
            have hfr : ∃ L, frameB (ub x) = some L ∧ frameLen x = L.length := ⟨_, frameB_yes (by rw [ub_length]; exact hxs), by unfold frameLen; rw [frameB_yes (by rw [ub_length]; exact hxs)]⟩
            obtain ⟨L, hL1, hL2⟩ := hfr
            have HL1 := Lib.hid hL1
            have HL2 := Lib.hid hL2
            have HBS := Lib.hid (batD_small hb)
            clear hL1 hL2
            go_wp2_with fail
            go_at_call 91
            refine (impl_ReadBatch_calls x _ (by omega)).mono ?_
            rw [readBat_same, HRB.out]
            rintro e w3 ⟨hb3, vb, rfl, hvb⟩
            obtain ⟨Ab, cb, rfl, hrb⟩ := hvb.row HBS.out.1
            have HO3 := Lib.hid (HO.out.below hb3)
            have HB3 := Lib.hid (HB.out.trans (hb3.mono HB.out.size))
            have HV3 := Lib.hid hvb
            have HW3 := Lib.hid hb3
            clear hb3 hvb
            have HW4 : Hid (Below w3.heap.size w3 (w3.alloc (.cells #[.int .i64 q, .slice Ab cs.length cb] 62))) := (Below.refl _ _).alloc (Nat.le_refl _) _
            have HO4 := Lib.hid (HO3.out.below HW4.out)
            have y0 : (w3.alloc (.cells #[.int .i64 q, .slice Ab cs.length cb] 62)).cell? ⟨w3.heap.size, 0, none⟩ = some (.int .i64 q) := blk_cell (blk_new w3 _) 0
            have y1 : (w3.alloc (.cells #[.int .i64 q, .slice Ab cs.length cb] 62)).cell? ⟨w3.heap.size, 1, none⟩ = some (.slice Ab cs.length cb) := blk_cell (blk_new w3 _) 1
            clear hrb
            by_cases hj0 : j = 0
            · have hacc : acc = [] := List.eq_nil_of_length_eq_zero (by rw [HAL.out, hj0])
              have HST := Lib.hid (plAt_step HAT.out HX.out hxs.2 (by rw [hacc]; exact placedGo_first hb))
              have g0 : decide (0 < j) = false := decide_eq_false (by omega)
              clear hb hj0 hacc
              go_wp2
              go_quiet (fail)
              go_wp2_with fail
              go_at_call 92
              refine (impl_Frame_calls x _ (by omega)).mono ?_
              rw [HL1.out]
              rintro e w5 ⟨rfl, hb5⟩
              simp only [varRes]
              have HX5 : Hid (Below (w3.alloc (.cells #[.int .i64 q, .slice Ab cs.length cb] 62)).heap.size (w3.alloc (.cells #[.int .i64 q, .slice Ab cs.length cb] 62)) w5) := (blwN (Below.refl _ _) _).trans hb5
              have z0 : w5.cell? ⟨w3.heap.size, 0, none⟩ = some (.int .i64 q) := (HX5.out.cell (by simp)).trans y0
              have z1 : w5.cell? ⟨w3.heap.size, 1, none⟩ = some (.slice Ab cs.length cb) := (HX5.out.cell (by simp)).trans y1
              clear hb5 y0 y1
              have HL3 := HL2.out
              have HX6 : Hid (Below wr.heap.size wr (w5.alloc (.cells (plVals (.slice Ab cs.length cb, ((q, cs), a, L.length))).toArray 75))) := by
                have e1 := HW3.out.trans (HW4.out.mono HW3.out.size)
                have e2 := e1.trans (HX5.out.mono e1.size)
                exact e2.alloc e2.size _
              have HU6 : Hid (ChOwn (w5.alloc (.cells (plVals (.slice Ab cs.length cb, ((q, cs), a, L.length))).toArray 75)) w2.heap.size (.slice Ab cs.length cb) cs) := by
                have e1 := HW4.out.trans (HX5.out.mono HW4.out.size)
                exact (HV3.out.mono HB.out.size).below (e1.alloc e1.size _)
              obtain ⟨fl, hfl, hpush⟩ := ListC.push HO.out (x := ((q, cs), a, L.length)) HX6.out HU6.out HBS.out.1 (fun k hk => (HV3.out.lt k hk).1)
              rw [HAL.out] at hfl hpush
              have HFL := Lib.hid hfl
              have HPU := Lib.hid hpush
              have HBASE : Hid (w2.heap.size ≤ (w5.alloc (.cells (plVals (.slice Ab cs.length cb, ((q, cs), a, L.length))).toArray 75)).heap.size) := Nat.le_trans HB.out.size HX6.out.size
              have HNEWS : Hid (∀ j u, (plVals (.slice Ab cs.length cb, ((q, cs), a, L.length)))[j]? = some u → (w5.alloc (.cells (plVals (.slice Ab cs.length cb, ((q, cs), a, L.length))).toArray 75)).cell? ((⟨w5.heap.size, 0, none⟩ : Addr).add j) = some u) := World.news_of_block (heap_alloc_new w5 _)
              have hLl : L.length ≤ 9020 := by rw [← HL3]; exact frameLen_le hxs.2
              clear hfl hpush HL3
              go_wp2_with (at_builtin; refine wpList_append_lies _ rfl _ _ _ rfl w2.heap.size 75 i0 (.agg #[.int .i64 0, .slice none 0 0, .int .i64 0, .int .i64 0]) 4 48 Tryz.underlying71 hi0 hz hsz hby rfl (by omega) _ j fl rfl HFL.out ⟨w5.heap.size, 0, none⟩ 1 1 (plVals (.slice Ab cs.length cb, ((q, cs), a, L.length))) rfl rfl HNEWS.out (by simp [Value.oneCell', plVals]) (by omega) (by unfold maxLen; omega) (by omega) HBASE.out _ rfl ?_; intro b7 cap7 w7 hown7 hgrow7 hat7 hlt7; have HN7 := Lib.hid (HPU.out b7 cap7 w7 hown7 hgrow7 hat7); have HB7 : Hid (Below w2.heap.size w2 w7) := gr_below (HB.out.trans (HX6.out.mono HB.out.size)) hgrow7 HBASE.out (fun k e => (HO.out.lt k e).1); clear hown7 hgrow7 hat7 hlt7)
              go_roundw
              case rel => exact ⟨j + 1, acc ++ [((q, cs), a, L.length)], a + L.length, _, by omega, by go_num, by go_num, rfl, by have h := HST.out; rw [HL2.out] at h; exact h, HN7.out, HB7.out⟩
              case measure => simp [intOf]; omega
            · obtain ⟨i, hi⟩ : ∃ i, j = i + 1 := ⟨j - 1, by omega⟩
              have hil : i < acc.length := by rw [HAL.out]; omega
              obtain ⟨p, hp⟩ : ∃ p, acc[i]? = some p := ⟨_, List.getElem?_eq_getElem hil⟩
              have hls : lastSeq acc = some p.1.1 := by
                unfold lastSeq
                rw [List.getLast?_eq_getElem?, HAL.out, hi, Nat.add_sub_cancel, hp]
                rfl
              obtain ⟨b0, u0, hA, hcl, _, _⟩ := HO4.out.at_ (fun _ => rfl) hp
              subst hA
              have hlc := hcl 0 (by omega)
              rw [show (plVals (u0, p))[0]? = some (.int .i64 p.1.1) from rfl, Nat.add_zero] at hlc
              have ht : ((j : Int) - 1).toNat = i := by omega
              have hw : IntKind.i64.wrap ((j : Int) - 1) = (j : Int) - 1 := by rw [IntKind.wrap_i64]; omega
              have hb0 : (0 : Int) ≤ (j : Int) - 1 := by omega
              have hbx : (j : Int) - 1 < (j : Int) := by omega
              have g0 : decide (0 < j) = true := decide_eq_true (by omega)
              by_cases hq : q ≤ p.1.1
              · have HWE := Lib.hid (plAt_stop HAT.out (by rw [drop_get HX.out, hls]; exact placedGo_low hb hq))
                have hqd : decide (q ≤ p.1.1) = true := decide_eq_true hq
                clear hb hi hp hls hcl hil hj0 hq
                go_wp2
                go_quiet (fail)
                go_wp2
                go_ret3
                exact plPost_of HE.out HWE.out ((HO4.out.below (blwN (Below.refl _ _) _)).mono HB2.out.size) (HB2.out.trans ((blwN (HB3.out.trans (HW4.out.mono HB3.out.size)) _).mono HB2.out.size))
              · have HST := Lib.hid (plAt_step HAT.out HX.out hxs.2 (by rw [hls]; exact placedGo_next hb hq))
                have hqd : decide (q ≤ p.1.1) = false := decide_eq_false hq
                clear hb hi hp hls hcl hil hj0 hq
                go_wp2
                go_quiet (fail)
                go_wp2_with fail
                go_at_call 92
                refine (impl_Frame_calls x _ (by omega)).mono ?_
                rw [HL1.out]
                rintro e w5 ⟨rfl, hb5⟩
                simp only [varRes]
                have HX5 : Hid (Below (w3.alloc (.cells #[.int .i64 q, .slice Ab cs.length cb] 62)).heap.size (w3.alloc (.cells #[.int .i64 q, .slice Ab cs.length cb] 62)) w5) := (blwN (Below.refl _ _) _).trans hb5
                have z0 : w5.cell? ⟨w3.heap.size, 0, none⟩ = some (.int .i64 q) := (HX5.out.cell (by simp)).trans y0
                have z1 : w5.cell? ⟨w3.heap.size, 1, none⟩ = some (.slice Ab cs.length cb) := (HX5.out.cell (by simp)).trans y1
                clear hb5 y0 y1
                have HL3 := HL2.out
                have HX6 : Hid (Below wr.heap.size wr (w5.alloc (.cells (plVals (.slice Ab cs.length cb, ((q, cs), a, L.length))).toArray 75))) := by
                  have e1 := HW3.out.trans (HW4.out.mono HW3.out.size)
                  have e2 := e1.trans (HX5.out.mono e1.size)
                  exact e2.alloc e2.size _
                have HU6 : Hid (ChOwn (w5.alloc (.cells (plVals (.slice Ab cs.length cb, ((q, cs), a, L.length))).toArray 75)) w2.heap.size (.slice Ab cs.length cb) cs) := by
                  have e1 := HW4.out.trans (HX5.out.mono HW4.out.size)
                  exact (HV3.out.mono HB.out.size).below (e1.alloc e1.size _)
                obtain ⟨fl, hfl, hpush⟩ := ListC.push HO.out (x := ((q, cs), a, L.length)) HX6.out HU6.out HBS.out.1 (fun k hk => (HV3.out.lt k hk).1)
                rw [HAL.out] at hfl hpush
                have HFL := Lib.hid hfl
                have HPU := Lib.hid hpush
                have HBASE : Hid (w2.heap.size ≤ (w5.alloc (.cells (plVals (.slice Ab cs.length cb, ((q, cs), a, L.length))).toArray 75)).heap.size) := Nat.le_trans HB.out.size HX6.out.size
                have HNEWS : Hid (∀ j u, (plVals (.slice Ab cs.length cb, ((q, cs), a, L.length)))[j]? = some u → (w5.alloc (.cells (plVals (.slice Ab cs.length cb, ((q, cs), a, L.length))).toArray 75)).cell? ((⟨w5.heap.size, 0, none⟩ : Addr).add j) = some u) := World.news_of_block (heap_alloc_new w5 _)
                have hLl : L.length ≤ 9020 := by rw [← HL3]; exact frameLen_le hxs.2
                clear hfl hpush HL3
                go_wp2_with (at_builtin; refine wpList_append_lies _ rfl _ _ _ rfl w2.heap.size 75 i0 (.agg #[.int .i64 0, .slice none 0 0, .int .i64 0, .int .i64 0]) 4 48 Tryz.underlying71 hi0 hz hsz hby rfl (by omega) _ j fl rfl HFL.out ⟨w5.heap.size, 0, none⟩ 1 1 (plVals (.slice Ab cs.length cb, ((q, cs), a, L.length))) rfl rfl HNEWS.out (by simp [Value.oneCell', plVals]) (by omega) (by unfold maxLen; omega) (by omega) HBASE.out _ rfl ?_; intro b7 cap7 w7 hown7 hgrow7 hat7 hlt7; have HN7 := Lib.hid (HPU.out b7 cap7 w7 hown7 hgrow7 hat7); have HB7 : Hid (Below w2.heap.size w2 w7) := gr_below (HB.out.trans (HX6.out.mono HB.out.size)) hgrow7 HBASE.out (fun k e => (HO.out.lt k e).1); clear hown7 hgrow7 hat7 hlt7)
                go_roundw
                case rel => exact ⟨j + 1, acc ++ [((q, cs), a, L.length)], a + L.length, _, by omega, by go_num, by go_num, rfl, by have h := HST.out; rw [HL2.out] at h; exact h, HN7.out, HB7.out⟩
                case measure => simp [intOf]; omega
        · obtain rfl : j = rs.length := by omega
          have HWE := Lib.hid (plAt_end HAT.out (Nat.le_refl _))
          go_wp2
          go_ret3
          exact plPost_of HE.out HWE.out (HO.out.mono HB2.out.size) (HB2.out.trans (HB.out.mono HB2.out.size))
end Go.Proofs.YtaacpdejpcbbbaaGreatDoor
