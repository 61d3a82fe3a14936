/- ParseRequest: the program's tells reqB. -/
import Derived.Test.YtanpkomifhbhnaaDoorReq5
import Derived.Test.YtanpkomifhbhnaaDoorReq3
namespace Go.Proofs.YtanpkomifhbhnaaDoor
set_option linter.unusedVariables false
set_option linter.unusedSimpArgs false
open Go.RowKit
attribute [local go_sem] bs_size List.length_cons List.length_nil List.length_append

theorem bulkB_how (l : List UInt8) : (bulkB l).2.2 ≠ 1 → bulkB l = ([], 0, (bulkB l).2.2) := by
  by_cases h0 : l = []
  · rw [h0, bulkB_nil]; intro _; rfl
  · by_cases h1 : l[0]? = some 36
    · by_cases h2 : (numB 60 (l.drop 1)).2.2 = 1
      · rw [bulkB_at h1 (Prod.ext rfl (Prod.ext rfl h2))]
        split
        · intro _; rfl
        · split
          · intro _; rfl
          · intro h; exact (h rfl).elim
      · rw [bulkB_num h1 h2]; intro _; rfl
    · rw [bulkB_other h0 h1]; intro _; rfl
theorem bulkB_ok {l : List UInt8} {x : List UInt8} {u : Nat} (h : bulkB l = (x, u, 1)) : u ≤ l.length ∧ x.length ≤ 60 := by
  by_cases h0 : l = []
  · rw [h0, bulkB_nil] at h; simp at h
  · by_cases h1 : l[0]? = some 36
    · by_cases h2 : (numB 60 (l.drop 1)).2.2 = 1
      · have e : numB 60 (l.drop 1) = ((numB 60 (l.drop 1)).1, (numB 60 (l.drop 1)).2.1, 1) := Prod.ext rfl (Prod.ext rfl h2)
        obtain ⟨h3, h4, h5⟩ := numB_most e
        rw [bulkB_at h1 e] at h
        rw [List.length_drop] at h5
        split at h
        · simp at h
        · split at h
          · simp at h
          · rename_i _ h7
            simp only [Prod.mk.injEq, and_true] at h
            obtain ⟨rfl, rfl⟩ := h
            rw [List.length_drop] at h7
            rw [List.length_take, List.length_drop]
            omega
      · rw [bulkB_num h1 h2] at h
        simp only [Prod.mk.injEq] at h
        exact (h2 h.2.2).elim
    · rw [bulkB_other h0 h1] at h; simp at h
theorem argsB_how : ∀ (m : Nat) (l : List UInt8), (argsB m l).2.2 ≠ 1 → argsB m l = ([], 0, (argsB m l).2.2)
  | 0, _, h => by simp [argsB] at h
  | m + 1, l, h => by
    unfold argsB at h ⊢
    split at h
    · rename_i h1; rw [if_pos h1]
    · rename_i h1
      rw [if_neg h1]
      split at h
      · rename_i h2; rw [if_pos h2]
      · simp at h
theorem argsB_succ {k u : Nat} {l x : List UInt8} (h : bulkB l = (x, u, 1)) : argsB (k + 1) l = if (argsB k (l.drop u)).2.2 ≠ 1 then ([], 0, (argsB k (l.drop u)).2.2) else (x :: (argsB k (l.drop u)).1, u + (argsB k (l.drop u)).2.1, 1) := by
  rw [argsB, h]
  exact if_neg (by simp)
theorem argsB_fail {k : Nat} {l : List UInt8} (h : (bulkB l).2.2 ≠ 1) : argsB (k + 1) l = ([], 0, (bulkB l).2.2) := by
  rw [argsB]
  exact if_pos h
/-- Where the arguments stand: i of m are read, from a0 to a. -/
def ArgSt (s : ByteArray) (m a0 i a : Nat) (acc : List (List UInt8)) : Prop := a0 ≤ a ∧ a ≤ s.size ∧ i ≤ m ∧ argsB m (tail_ s a0) = if (argsB (m - i) (tail_ s a)).2.2 = 1 then (acc ++ (argsB (m - i) (tail_ s a)).1, a - a0 + (argsB (m - i) (tail_ s a)).2.1, 1) else ([], 0, (argsB (m - i) (tail_ s a)).2.2)
theorem ArgSt.start {s : ByteArray} {m a : Nat} (ha : a ≤ s.size) : ArgSt s m a 0 a [] := by
  refine ⟨Nat.le_refl _, ha, Nat.zero_le _, ?_⟩
  rw [Nat.sub_zero, Nat.sub_self]
  by_cases h : (argsB m (tail_ s a)).2.2 = 1
  · rw [if_pos h]
    simp only [List.nil_append, Nat.zero_add]
    rw [← h]
  · rw [if_neg h]
    exact argsB_how m _ h
theorem ArgSt.step {s : ByteArray} {m a0 i a u : Nat} {acc : List (List UInt8)} {x : List UInt8} (h : ArgSt s m a0 i a acc) (hi : i < m) (hb : bulkB (tail_ s a) = (x, u, 1)) : ArgSt s m a0 (i + 1) (a + u) (acc ++ [x]) := by
  obtain ⟨h1, h2, h3, h4⟩ := h
  have hu := (bulkB_ok hb).1
  rw [tail_len] at hu
  refine ⟨by omega, by omega, hi, ?_⟩
  rw [h4, show m - i = m - (i + 1) + 1 by omega, argsB_succ hb, tail_drop]
  generalize argsB (m - (i + 1)) (tail_ s (a + u)) = r
  obtain ⟨r1, r2, r3⟩ := r
  by_cases hk : r3 = 1
  · subst hk
    simp only [ne_eq, not_true, if_false, if_true, List.append_assoc, List.singleton_append]
    rw [show a - a0 + (u + r2) = a + u - a0 + r2 by omega]
  · simp only [ne_eq, hk, not_false_eq_true, if_true, if_false]
theorem ArgSt.fail {s : ByteArray} {m a0 i a : Nat} {acc : List (List UInt8)} (h : ArgSt s m a0 i a acc) (hi : i < m) (hb : (bulkB (tail_ s a)).2.2 ≠ 1) : argsB m (tail_ s a0) = ([], 0, (bulkB (tail_ s a)).2.2) := by
  obtain ⟨h1, h2, h3, h4⟩ := h
  rw [h4, show m - i = m - (i + 1) + 1 by omega, argsB_fail hb]
  show (if (bulkB (tail_ s a)).2.2 = 1 then _ else _) = _
  rw [if_neg hb]
theorem ArgSt.done {s : ByteArray} {m a0 a : Nat} {acc : List (List UInt8)} (h : ArgSt s m a0 m a acc) : argsB m (tail_ s a0) = (acc, a - a0, 1) := by
  obtain ⟨h1, h2, h3, h4⟩ := h
  rw [h4, Nat.sub_self, argsB]
  simp
theorem reqB_line {l : List UInt8} (h : l ≠ []) (h1 : l[0]? ≠ some 42) : reqB l = lineB l := by unfold reqB; rw [if_neg h, if_pos h1]
theorem reqB_num {l : List UInt8} (h1 : l[0]? = some 42) (h2 : (numB 8 (l.drop 1)).2.2 ≠ 1) : reqB l = ([], 0, (numB 8 (l.drop 1)).2.2) := by
  have h : l ≠ [] := by rintro rfl; simp at h1
  unfold reqB
  rw [if_neg h, if_neg (by rw [h1]; simp), if_pos h2]
theorem reqB_args {l : List UInt8} {m u : Nat} (h1 : l[0]? = some 42) (h2 : numB 8 (l.drop 1) = (m, u, 1)) : reqB l = if (argsB m (l.drop (1 + u))).2.2 ≠ 1 then ([], 0, (argsB m (l.drop (1 + u))).2.2) else ((argsB m (l.drop (1 + u))).1, 1 + u + (argsB m (l.drop (1 + u))).2.1, 1) := by
  have h : l ≠ [] := by rintro rfl; simp at h1
  unfold reqB
  rw [if_neg h, if_neg (by rw [h1]; simp), h2, if_neg (by simp)]
set_option maxHeartbeats 4000000 in
set_option maxRecDepth 100000 in
theorem impl_ParseRequest_calls (s : ByteArray) (w : World) (hs : s.size ≤ 1048576) (hM : MaxAt w) :
    Calls Tryd.prog 20 #[.string s] w (ReqPost w (reqB (ub s))) := by
  obtain ⟨i0, hi, hz, hsz, hby⟩ := info_parts info_str
  have HM := Lib.hid hM
  clear hM
  by_cases he : s.size = 0
  · obtain rfl : s = ⟨#[]⟩ := by rw [← bs_ub s]; exact congrArg bs (List.eq_nil_of_length_eq_zero (by rw [ub_length, he]))
    go_enter Tryd.func20, Tryd.ntmps20
    go_wp2
    go_ret3
    exact reqPost_of (r := reqB (ub ⟨#[]⟩)) (xs := []) (n := 0) (h := 0) rfl rfl rfl (Below.refl _ _) (.inl ⟨rfl, rfl⟩)
  · have hs0 : 0 < s.size := by omega
    have hq : (s.toList == []) = false := beq_eq_false_iff_ne.mpr fun e => he (by
      rw [ByteArray.toList_eq] at e
      have := ub_length s
      unfold ub at this
      rw [e] at this
      simpa using this.symm)
    obtain ⟨d, hd, hsd, hc, hcd⟩ := tail_byte (s := s) (a := 0) (i := 0) (by omega)
    have hc' : (ub s)[0]? = some (UInt8.ofNat d) := hc
    have hsd' : (s[0]'hs0).toNat = d := by simpa using hsd
    have hsi : (0 : Int) < (s.size : Int) := by omega
    by_cases h42 : d = 42
    · have hhd : (ub s)[0]? = some 42 := by rw [hc', h42]; rfl
      have hdr : (ub s).drop 1 = tail_ s 1 := rfl
      subst h42
      clear hsd hc hc' hcd he
      cases hr : numB 8 (tail_ s 1) with
      | mk m q =>
        obtain ⟨u, h⟩ := q
        by_cases h1 : h = 1
        · subst h1
          obtain ⟨hm, hu, hul⟩ := numB_most hr
          rw [tail_len] at hul
          have hRA := reqB_args hhd (by rw [hdr]; exact hr)
          rw [show (ub s).drop (1 + u) = tail_ s (1 + u) from rfl] at hRA
          have HRA := Lib.hid hRA
          have HRR := Lib.hid hr
          have HST := Lib.hid (ArgSt.start (s := s) (m := m) (a := 1 + u) (by omega))
          clear hr hRA hhd hdr
          go_enter Tryd.func20, Tryd.ntmps20
          go_wp2_with fail
          go_at_call 63
          refine (impl_countAt_calls s 1 8 _ (by omega) (by omega) (by omega)).mono ?_
          rw [HRR.out]
          rintro e w' ⟨rfl, rfl⟩
          simp only [cntRes, if_true]
          go_wp2
          go_loopw [6, 8, 9] (fun kv av iv wr => ∃ (i a : Nat) (out : List (List UInt8)) (acc : List ByteArray) (v : Value), iv = .int .i64 (i : Int) ∧ kv = .int .i64 (a : Int) ∧ v = av ∧ acc = out.map bs ∧ acc.length = i ∧ ArgSt s m (1 + u) i a out ∧ OwnS wr w'.heap.size v acc ∧ Below w'.heap.size w' wr) (fun _ _ iv _ => m - (intOf iv).toNat)
          case atStart => exact ⟨0, 1 + u, [], [], _, rfl, rfl, rfl, rfl, rfl, HST.out, OwnS.nil _ _, Below.refl _ _⟩
          case round =>
            obtain ⟨i, a, out, acc, v, rfl, rfl, rfl, hacc, hai, hst, hown, hbel⟩ := hrel
            have HACC := Lib.hid hacc
            have HAI := Lib.hid hai
            have HSA := Lib.hid hst
            have HOW := Lib.hid hown
            have HBE := Lib.hid hbel
            have hal : acc.length ≤ 8 := by have := hst.2.2.1; omega
            have ha1 := hst.2.1
            clear hacc hai hst hown hbel
            by_cases him : i < m
            · cases hb : bulkB (tail_ s a) with
              | mk x q =>
                obtain ⟨ux, hx⟩ := q
                have HB := Lib.hid hb
                by_cases hx1 : hx = 1
                · subst hx1
                  have hux := (bulkB_ok hb).1
                  rw [tail_len] at hux
                  have hxl := (bulkB_ok hb).2
                  have HN := Lib.hid (HSA.out.step him hb)
                  have HAN : Hid (acc ++ [bs x] = (out ++ [x]).map bs) := by rw [Hid, List.map_append, HACC.out]; rfl
                  have HOWN : Hid ((wr.alloc (.cells #[.string (bs x)] 9)).ownsRow w'.heap.size 9 1 v acc.length (acc.map Value.string)) := World.ownsRow.alloc HOW.out _
                  have HNEWS : Hid (∀ j u, [Value.string (bs x)][j]? = some u → (wr.alloc (.cells #[.string (bs x)] 9)).cell? ((⟨wr.heap.size, 0, none⟩ : Addr).add j) = some u) := World.news_of_block (heap_alloc_new wr _)
                  have HWS : Hid (w'.heap.size ≤ wr.heap.size) := HBE.out.size
                  have HBASE : Hid (w'.heap.size ≤ (wr.alloc (.cells #[.string (bs x)] 9)).heap.size) := by have := HWS.out; rw [Hid]; simp; omega
                  clear hb
                  go_wp2_with fail
                  go_at_call 64
                  refine (impl_bulkAt_calls s a _ ha1 (by omega)).mono ?_
                  rw [HB.out]
                  rintro e w3 ⟨rfl, rfl⟩
                  simp only [bulkRes, if_true]
                  go_wp2_with (at_builtin; refine wpList_append_lies _ rfl _ _ _ rfl w'.heap.size 9 i0 (.string ByteArray.empty) 1 16 Tryd.underlying22 hi hz hsz hby rfl (by omega) v acc.length (acc.map Value.string) rfl HOWN.out ⟨w3.heap.size, 0, none⟩ 1 1 [.string (bs x)] rfl rfl HNEWS.out (by simp [Value.oneCell']) (by omega) (by unfold maxLen; omega) (by omega) HBASE.out _ rfl ?_; intro g cap w2 hown hgrow hat hlt2)
                  have HPU := Lib.hid (OwnS.pushed hown)
                  have HBN := Lib.hid (below_push HBE.out HWS.out HOW.out hgrow)
                  clear hown hgrow hat
                  go_wp2
                  go_roundw
                  case rel => first | exact ⟨i + 1, a + ux, out ++ [x], acc ++ [bs x], _, by go_num, by go_num, rfl, HAN.out, by rw [List.length_append, HAI.out]; rfl, HN.out, HPU.out, HBN.out⟩ | (repeat (first | (refine ⟨?relx, rfl⟩; exact ⟨i + 1, a + ux, out ++ [x], acc ++ [bs x], _, by go_num, by go_num, rfl, HAN.out, by rw [List.length_append, HAI.out]; rfl, HN.out, HPU.out, HBN.out⟩) | (refine ⟨?relx, ?eqs⟩; (case eqs => (and_intros <;> rfl)); exact ⟨i + 1, a + ux, out ++ [x], acc ++ [bs x], _, by go_num, by go_num, rfl, HAN.out, by rw [List.length_append, HAI.out]; rfl, HN.out, HPU.out, HBN.out⟩) | apply Exists.intro))
                  case measure => simp [intOf]; omega
                · have HF := Lib.hid (HSA.out.fail him (by rw [hb]; exact hx1))
                  have HR : Hid (reqB (ub s) = ([], 0, hx)) := by rw [Hid, HRA.out, HF.out, hb, if_pos hx1]
                  have hxb : ((hx : Int) != 1) = true := bne_iff_ne.mpr (by omega)
                  have HX1 := Lib.hid hx1
                  obtain ⟨A, cc, hv⟩ := HOW.out.form
                  subst hv
                  clear hb
                  go_wp2_with fail
                  go_at_call 64
                  refine (impl_bulkAt_calls s a _ ha1 (by omega)).mono ?_
                  rw [HB.out]
                  rintro e w3 ⟨rfl, rfl⟩
                  simp only [bulkRes, if_neg HX1.out]
                  go_wp2
                  go_ret3
                  exact reqPost_of HR.out rfl rfl HBE.out (.inl ⟨rfl, rfl⟩)
            · obtain rfl : m = i := by have := HSA.out.2.2.1; omega
              have HF := Lib.hid HSA.out.done
              have hle := HSA.out.1
              have HR : Hid (reqB (ub s) = (out, a, 1)) := by rw [Hid, HRA.out, HF.out, if_neg (by simp), show 1 + u + (a - (1 + u)) = a by omega]
              obtain ⟨A, cc, hv⟩ := HOW.out.form
              subst hv
              go_wp2
              go_ret3
              exact reqPost_of HR.out rfl rfl HBE.out (by rw [← HACC.out]; exact HOW.out.own (Nat.le_refl _))
        · have HR : Hid (reqB (ub s) = ([], 0, h)) := by rw [Hid, reqB_num hhd (by rw [hdr, hr]; exact h1), hdr, hr]
          have HRR := Lib.hid hr
          have hhb : ((h : Int) != 1) = true := bne_iff_ne.mpr (by omega)
          have H1 := Lib.hid h1
          clear hr hhd hdr h1
          go_enter Tryd.func20, Tryd.ntmps20
          go_wp2_with fail
          go_at_call 63
          refine (impl_countAt_calls s 1 8 _ (by omega) (by omega) (by omega)).mono ?_
          rw [HRR.out]
          rintro e w' ⟨rfl, rfl⟩
          simp only [cntRes, if_neg H1.out]
          go_wp2
          go_ret3
          exact reqPost_of HR.out rfl rfl (Below.refl _ _) (.inl ⟨rfl, rfl⟩)
    · have hdb : ((d : Int) != 42) = true := bne_iff_ne.mpr (by omega)
      have HR : Hid (reqB (ub s) = lineB (ub s)) := reqB_line (by intro e; rw [e] at hc'; simp at hc') (by rw [hc']; exact fun e => h42 ((ofNat_eq hcd 42 rfl).1 (Option.some.inj e)))
      clear hsd hc hc' hcd he
      go_enter Tryd.func20, Tryd.ntmps20
      go_wp2_with fail
      go_at_call 62
      refine (impl_lineRequest_calls s _ hs HM.out).mono ?_
      rintro e w' ⟨hb, v, rfl, ho⟩
      have HO := Lib.hid ho
      have HB := Lib.hid hb
      clear ho hb
      go_wp2
      go_ret3
      exact ⟨HB.out, v, by rw [HR.out]; rfl, by rw [HR.out]; exact HO.out⟩
end Go.Proofs.YtanpkomifhbhnaaDoor
