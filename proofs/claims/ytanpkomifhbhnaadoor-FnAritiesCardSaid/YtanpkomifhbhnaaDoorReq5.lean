/- A request that is a line: the program's lineRequest tells lineB. -/
import Derived.Test.YtanpkomifhbhnaaDoorReqL2
import Derived.Test.YtanpkomifhbhnaaDoorReq4
import Derived.Test.YtanpkomifhbhnaaDoorOwn
import Derived.Test.YtanpkomifhbhnaaDoorShelf
namespace Go.Proofs.YtanpkomifhbhnaaDoor
set_option linter.unusedVariables false
set_option linter.unusedSimpArgs false
open Go.RowKit
attribute [local go_sem] bs_size List.length_cons List.length_nil List.length_append

/-- What a reading of a request leaves. -/
def ReqPost (w : World) (r : List (List UInt8) × Nat × Nat) (e : Ending) (w' : World) : Prop := Below w.heap.size w w' ∧ ∃ v, e = .returned (.tuple #[v, .int .i64 (r.2.1 : Int), .int .i64 (r.2.2 : Int)]) ∧ StrOwn w' w.heap.size v (r.1.map bs)
theorem reqPost_of {w w' : World} {r : List (List UInt8) × Nat × Nat} {xs : List (List UInt8)} {n h : Nat} (hr : r = (xs, n, h)) {v : Value} {x y : Int} (hx : x = (n : Int)) (hy : y = (h : Int)) (hb : Below w.heap.size w w') (ho : StrOwn w' w.heap.size v (xs.map bs)) : ReqPost w r (.returned (.tuple #[v, .int .i64 x, .int .i64 y])) w' := by
  subst hr hx hy
  exact ⟨hb, v, rfl, ho⟩
/-- internal/bytealg.MaxLen holds some number. -/
def MaxAt (w : World) : Prop := 4 < w.heap.size ∧ ∃ m : Int, w.cell? ⟨4, 0, none⟩ = some (.int .i64 m)
theorem MaxAt.below {w w' : World} {B : Nat} (h : MaxAt w) (hb : Below B w w') (hB : 4 < B) : MaxAt w' := by
  obtain ⟨h1, m, h2⟩ := h
  exact ⟨Nat.lt_of_lt_of_le h1 hb.size, m, (hb.cell hB).trans h2⟩
theorem lineB_long {l : List UInt8} (h : 80 < lineN l) : lineB l = ([], 0, 2) := by unfold lineB; rw [if_pos h]
theorem lineB_open {l : List UInt8} (h : ¬ 80 < lineN l) (h1 : lineN l = l.length) : lineB l = ([], 0, 0) := by unfold lineB; rw [if_neg h, if_pos h1]
theorem lineB_bad {l : List UInt8} (h : ¬ 80 < lineN l) (h1 : lineN l ≠ l.length) (h2 : wordsBad (words (trimB (l.take (lineN l)))) = true) : lineB l = ([], 0, 2) := by unfold lineB; rw [if_neg h, if_neg h1, if_pos h2]
theorem lineB_ok {l : List UInt8} (h : ¬ 80 < lineN l) (h1 : lineN l ≠ l.length) (h2 : wordsBad (words (trimB (l.take (lineN l)))) = false) : lineB l = (words (trimB (l.take (lineN l))), lineN l + 1, 1) := by unfold lineB; rw [if_neg h, if_neg h1, if_neg (by rw [h2]; simp)]
theorem split_blank (s : ByteArray) : Lib.splitB ⟨#[32]⟩ 0 (Lib.countB s ⟨#[32]⟩) s = (pieces (ub s)).map bs ∧ Lib.countB s ⟨#[32]⟩ + 1 = (pieces (ub s)).length := by
  have h1 : (Lib.splitB ⟨#[32]⟩ 0 (Lib.countB s ⟨#[32]⟩) s).map (·.data.toList) = pieces (ub s) := by
    rw [Lib.splitB_data]
    exact splitK_pieces (ub s)
  have h2 : (Lib.splitB ⟨#[32]⟩ 0 (Lib.countB s ⟨#[32]⟩) s).length = Lib.countB s ⟨#[32]⟩ + 1 := Lib.splitB_all ⟨#[32]⟩ (by decide) 0 _ s rfl
  refine ⟨?_, ?_⟩
  · rw [← h1, List.map_map]
    have : (bs ∘ fun x : ByteArray => x.data.toList) = id := by funext x; exact bs_ub x
    rw [this, List.map_id]
  · rw [← h2, ← h1, List.length_map]
theorem pieces_le : ∀ (l : List UInt8), (pieces l).length ≤ l.length + 1
  | [] => by simp [pieces]
  | c :: l => by
    have := pieces_le l
    rw [pieces]
    split
    · simp; omega
    · split
      · rename_i p ps hp
        rw [hp] at this
        simp at this ⊢
        omega
      · simp
/-- Of the first j pieces the words. -/
def wordsTo (P : List (List UInt8)) (j : Nat) : List (List UInt8) := (P.take j).filter fun p => !p.isEmpty
theorem wordsTo_step {P : List (List UInt8)} {j : Nat} {p : List UInt8} (h : P[j]? = some p) : wordsTo P (j + 1) = if p = [] then wordsTo P j else wordsTo P j ++ [p] := by
  obtain ⟨hj, rfl⟩ := List.getElem?_eq_some_iff.1 h
  unfold wordsTo
  rw [List.take_succ_eq_append_getElem hj, List.filter_append]
  by_cases he : P[j] = []
  · simp [he]
  · have : P[j].isEmpty = false := by simpa using he
    simp [he]
theorem wordsTo_len (P : List (List UInt8)) (j : Nat) : (wordsTo P j).length ≤ P.length := by
  unfold wordsTo
  have h1 := List.length_filter_le (fun p : List UInt8 => !p.isEmpty) (P.take j)
  rw [List.length_take] at h1
  omega
theorem wordsTo_all (l : List UInt8) : wordsTo (pieces l) (pieces l).length = words l := by unfold wordsTo words; rw [List.take_length]
theorem bad_piece {l : List UInt8} {j : Nat} {p : List UInt8} (h : (pieces l)[j]? = some p) (hp : 60 < p.length) : wordsBad (words l) = true := by
  unfold wordsBad
  have : p ∈ words l := by
    unfold words
    refine List.mem_filter.2 ⟨List.mem_of_getElem? h, ?_⟩
    cases p with
    | nil => simp at hp
    | cons => rfl
  rw [List.any_eq_true.2 ⟨p, this, by simpa using hp⟩]
  rfl
theorem bad_all {l : List UInt8} (h : ∀ j p, j < (pieces l).length → (pieces l)[j]? = some p → p.length ≤ 60) : wordsBad (words l) = decide (8 < (words l).length) := by
  unfold wordsBad
  rw [List.any_eq_false.2, Bool.false_or]
  intro p hp
  unfold words at hp
  obtain ⟨j, hj, e⟩ := List.mem_iff_getElem.1 (List.mem_filter.1 hp).1
  have := h j p hj (by rw [List.getElem?_eq_getElem hj, e])
  simp
  omega
set_option maxHeartbeats 4000000 in
set_option maxRecDepth 100000 in
theorem impl_lineRequest_calls (s : ByteArray) (w : World) (hs : s.size ≤ 1048576) (hM : MaxAt w) :
    Calls Tryd.prog 62 #[.string s] w (ReqPost w (lineB (ub s))) := by
  obtain ⟨i0, hi, hz, hsz, hby⟩ := info_parts info_str
  obtain ⟨hM1, m, hM2⟩ := hM
  have hc := cut_lf (ub s)
  have hul := ub_length s
  have hle := lineN_le (ub s)
  have hm2 : ∀ n : Nat, (w.drewN n).cell? ⟨4, 0, none⟩ = some (.int .i64 m) := fun n => hM2
  by_cases h1 : lineN (ub s) = (ub s).length
  · rw [if_pos h1] at hc
    have HC := Lib.hid hc
    clear hc
    go_enter Tryd.func62, Tryd.ntmps62
    go_wp2_with fail
    go_at_call 87
    refine (Tryd.strings_Cut s _ m _ (by omega) hM2).mono ?_
    rw [show Lib.cut s.data.toList (⟨#[10]⟩ : ByteArray).data.toList = (ub s, [], false) from HC.out]
    dsimp only
    rw [show (⟨(ub s).toArray⟩ : ByteArray) = s from bs_ub s]
    rintro e w' ⟨rfl, n, rfl⟩
    by_cases h80 : 80 < s.size
    · have HR := Lib.hid (lineB_long (l := ub s) (by omega))
      go_wp2
      go_ret3
      exact reqPost_of HR.out rfl rfl (blwN (Below.refl _ _) n) (.inl ⟨rfl, rfl⟩)
    · have HR := Lib.hid (lineB_open (l := ub s) (by omega) h1)
      go_wp2
      go_ret3
      exact reqPost_of HR.out rfl rfl (blwN (Below.refl _ _) n) (.inl ⟨rfl, rfl⟩)
  · rw [if_neg h1] at hc
    have HC := Lib.hid hc
    have hti : ((ub s).take (lineN (ub s))).length = lineN (ub s) := by rw [List.length_take]; omega
    have hnl : lineN (ub s) ≤ 1048576 := by omega
    clear hc
    by_cases h80 : 80 < lineN (ub s)
    · have HR := Lib.hid (lineB_long h80)
      go_enter Tryd.func62, Tryd.ntmps62
      go_wp2_with fail
      go_at_call 87
      refine (Tryd.strings_Cut s _ m _ (by omega) hM2).mono ?_
      rw [show Lib.cut s.data.toList (⟨#[10]⟩ : ByteArray).data.toList = _ from HC.out]
      dsimp only
      rintro e w' ⟨rfl, n, rfl⟩
      rw [lit_bs]
      go_wp2
      go_ret3
      exact reqPost_of HR.out rfl rfl (blwN (Below.refl _ _) n) (.inl ⟨rfl, rfl⟩)
    · have H1 := Lib.hid h1
      have H80 := Lib.hid h80
      have hnn : ¬ (80 : Int) < (lineN (ub s) : Int) := by omega
      have hT1 := trimB_le ((ub s).take (lineN (ub s)))
      rw [hti] at hT1
      have HTR : Hid (Lib.trimSuffix ((ub s).take (lineN (ub s))) [13] = trimB ((ub s).take (lineN (ub s)))) := trim_cr _
      have HOK := Lib.hid (fun h1 h2 => lineB_ok (l := ub s) h80 h1 h2)
      have HBAD := Lib.hid (fun h1 h2 => lineB_bad (l := ub s) h80 h1 h2)
      clear h1 h80
      generalize hT : trimB ((ub s).take (lineN (ub s))) = T at HTR HOK HBAD hT1
      have HPZ := Lib.hid (split_blank (bs T))
      rw [Hid, ub_bs] at HPZ
      have HPZ : Hid _ := HPZ
      have hpl := pieces_le T
      have HWA := Lib.hid (wordsTo_all T)
      have HBP := Lib.hid (fun j p h hp => bad_piece (l := T) (j := j) (p := p) h hp)
      have HBA := Lib.hid (bad_all (l := T))
      have hwl := wordsTo_len (pieces T)
      clear hT
      generalize pieces T = P at HPZ hpl HWA HBP HBA hwl
      go_enter Tryd.func62, Tryd.ntmps62
      go_wp2_with fail
      go_at_call 87
      refine (Tryd.strings_Cut s _ m _ (by omega) hM2).mono ?_
      rw [show Lib.cut s.data.toList (⟨#[10]⟩ : ByteArray).data.toList = _ from HC.out]
      dsimp only
      rintro e w' ⟨rfl, nd, rfl⟩
      rw [lit_bs]
      go_wp2_with fail
      go_at_call 89
      refine (Tryd.strings_TrimSuffix _ _ _ (by rw [bs_size]; omega)).mono ?_
      rw [show Lib.trimSuffix (bs ((ub s).take (lineN (ub s)))).data.toList (⟨#[13]⟩ : ByteArray).data.toList = T from HTR.out, lit_bs]
      rintro e w' ⟨rfl, rfl⟩
      go_wp2_with fail
      go_at_call 88
      refine (Tryd.strings_Split _ _ m _ (by rw [bs_size]; omega) (hm2 nd) (by decide)).mono ?_
      rw [HPZ.out.2, HPZ.out.1, List.map_map]
      rintro e w' ⟨rfl, rfl⟩
      have hbl := blk_new (w.drewN nd) (.cells (P.map (Value.string ∘ bs)).toArray 9)
      have HBL := Lib.hid hbl
      have HB0 : Hid (Below w.heap.size w ((w.drewN nd).alloc (.cells (P.map (Value.string ∘ bs)).toArray 9))) := (blwN (Below.refl _ _) nd).alloc (Nat.le_refl _) _
      clear hbl
      go_wp2
      go_loopw [8, 26] (fun av jv wr => ∃ (j : Nat) (acc : List ByteArray) (v : Value), j ≤ P.length ∧ jv = .int .i64 (j : Int) ∧ v = av ∧ acc = (wordsTo P j).map bs ∧ (∀ i p, i < j → P[i]? = some p → p.length ≤ 60) ∧ OwnS wr (w.heap.size + 1) v acc ∧ Below (w.heap.size + 1) ((w.drewN nd).alloc (.cells (P.map (Value.string ∘ bs)).toArray 9)) wr) (fun _ jv _ => P.length - (intOf jv).toNat)
      case atStart => exact ⟨0, [], _, Nat.zero_le _, rfl, rfl, rfl, fun i p hi => by omega, OwnS.nil _ _, Below.refl _ _⟩
      case round =>
        obtain ⟨j, acc, v, hj, rfl, rfl, hacc, hall, hown, hbel⟩ := hrel
        have HACC := Lib.hid hacc
        have HALL := Lib.hid hall
        have HOW := Lib.hid hown
        have HBE := Lib.hid hbel
        have hal : acc.length ≤ 82 := by rw [hacc, List.length_map]; have := hwl j; omega
        clear hacc hall hown
        by_cases hlt : j < P.length
        · obtain ⟨p, hp⟩ : ∃ p, P[j]? = some p := ⟨_, List.getElem?_eq_getElem hlt⟩
          have hcell : wr.cell? ⟨w.heap.size, j, none⟩ = some (.string (bs p)) := by
            have h1 : wr.heap[w.heap.size]? = _ := (hbel.block _ (by omega)).trans HBL.out
            rw [blk_cell h1]
            simp [hp]
          have HP := Lib.hid hp
          clear hbel hp
          by_cases h60 : 60 < p.length
          · have HR := Lib.hid (HBAD.out H1.out (HBP.out j p HP.out h60))
            go_wp2
            go_ret3
            exact reqPost_of HR.out rfl rfl (HB0.out.trans (HBE.out.mono (by omega))) (.inl ⟨rfl, rfl⟩)
          · have HALL2 : Hid (∀ i q, i < j + 1 → P[i]? = some q → q.length ≤ 60) := fun i q hi hq => by
              by_cases he : i = j
              · subst he
                rw [HP.out] at hq
                cases hq
                omega
              · exact HALL.out i q (by omega) hq
            by_cases hpe : p = []
            · have HN : Hid (acc = (wordsTo P (j + 1)).map bs) := by rw [Hid, wordsTo_step HP.out, if_pos hpe]; exact HACC.out
              subst hpe
              have hq : ((bs []).toList == []) = true := by rw [ByteArray.toList_eq]; rfl
              go_wp2
              go_roundw
              case rel => first | exact ⟨j + 1, acc, _, by omega, by go_num, rfl, HN.out, HALL2.out, HOW.out, HBE.out⟩ | (repeat (first | (refine ⟨?relx, rfl⟩; exact ⟨j + 1, acc, _, by omega, by go_num, rfl, HN.out, HALL2.out, HOW.out, HBE.out⟩) | (refine ⟨?relx, ?eqs⟩; (case eqs => (and_intros <;> rfl)); exact ⟨j + 1, acc, _, by omega, by go_num, rfl, HN.out, HALL2.out, HOW.out, HBE.out⟩) | apply Exists.intro))
              case measure => simp [intOf]; omega
            · have HN : Hid (acc ++ [bs p] = (wordsTo P (j + 1)).map bs) := by rw [Hid, wordsTo_step HP.out, if_neg hpe, List.map_append, HACC.out]; rfl
              have hq : ((bs p).toList == []) = false := beq_eq_false_iff_ne.mpr fun e => hpe (by
                rw [ByteArray.toList_eq] at e
                exact e)
              have HOWN : Hid ((wr.alloc (.cells #[.string (bs p)] 9)).ownsRow (w.heap.size + 1) 9 1 v acc.length (acc.map Value.string)) := World.ownsRow.alloc HOW.out _
              have HNEWS : Hid (∀ j u, [Value.string (bs p)][j]? = some u → (wr.alloc (.cells #[.string (bs p)] 9)).cell? ((⟨wr.heap.size, 0, none⟩ : Addr).add j) = some u) := World.news_of_block (heap_alloc_new wr _)
              have HWS : Hid (w.heap.size + 1 ≤ wr.heap.size) := by have := HBE.out.size; simp at this; exact this
              have HBASE : Hid (w.heap.size + 1 ≤ (wr.alloc (.cells #[.string (bs p)] 9)).heap.size) := by have := HWS.out; rw [Hid]; simp; omega
              clear hpe
              go_wp2_with (at_builtin; refine wpList_append_lies _ rfl _ _ _ rfl (w.heap.size + 1) 9 i0 (.string ByteArray.empty) 1 16 Tryd.underlying22 hi hz hsz hby rfl (by omega) v acc.length (acc.map Value.string) rfl HOWN.out ⟨wr.heap.size, 0, none⟩ 1 1 [.string (bs p)] rfl rfl HNEWS.out (by simp [Value.oneCell']) (by omega) (by unfold maxLen; omega) (by omega) HBASE.out _ rfl ?_; intro g cap w2 hown hgrow hat hlt2)
              have HPU := Lib.hid (OwnS.pushed hown)
              have HBN := Lib.hid (below_push HBE.out HWS.out HOW.out hgrow)
              clear hown hgrow hat
              go_wp2
              go_roundw
              case rel => first | exact ⟨j + 1, acc ++ [bs p], _, by omega, by go_num, rfl, HN.out, HALL2.out, HPU.out, HBN.out⟩ | (repeat (first | (refine ⟨?relx, rfl⟩; exact ⟨j + 1, acc ++ [bs p], _, by omega, by go_num, rfl, HN.out, HALL2.out, HPU.out, HBN.out⟩) | (refine ⟨?relx, ?eqs⟩; (case eqs => (and_intros <;> rfl)); exact ⟨j + 1, acc ++ [bs p], _, by omega, by go_num, rfl, HN.out, HALL2.out, HPU.out, HBN.out⟩) | apply Exists.intro))
              case measure => simp [intOf]; omega
        · obtain rfl : j = P.length := by omega
          obtain ⟨A, c, rfl⟩ := HOW.out.form
          have HW2 := Lib.hid (HBA.out fun i q hi hq => HALL.out i q hi hq)
          have HAL : Hid (acc.length = (words T).length) := by rw [Hid, HACC.out, List.length_map, HWA.out]
          clear hbel
          by_cases h8 : 8 < acc.length
          · have HR := Lib.hid (HBAD.out H1.out (by rw [HW2.out, ← HAL.out]; exact decide_eq_true h8))
            go_wp2
            go_ret3
            exact reqPost_of HR.out rfl rfl (HB0.out.trans (HBE.out.mono (by omega))) (.inl ⟨rfl, rfl⟩)
          · have HR := Lib.hid (HOK.out H1.out (by rw [HW2.out, ← HAL.out]; exact decide_eq_false h8))
            go_wp2
            go_ret3
            exact reqPost_of HR.out (by omega) rfl (HB0.out.trans (HBE.out.mono (by omega))) (by rw [← HWA.out, ← HACC.out]; exact HOW.out.own (by omega))
end Go.Proofs.YtanpkomifhbhnaaDoor
