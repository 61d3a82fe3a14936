/- A request that is a line: the reference's l11Line tells lineB. By wip/tools/genreq6.py. -/
import Derived.Test.YtanpkomifhbhnaaDoorReq5
namespace Go.Proofs.YtanpkomifhbhnaaDoor
set_option linter.unusedVariables false
set_option linter.unusedSimpArgs false
open Go.RowKit
attribute [local go_sem] bs_size List.length_cons List.length_nil List.length_append

theorem lineN_ne : ∀ (l : List UInt8) (j : Nat), j < lineN l → ∃ d, l[j]? = some d ∧ d ≠ 10
  | [], j, h => by simp [lineN] at h
  | c :: l, j, h => by
    rw [lineN_cons] at h
    by_cases hc : c = 10
    · rw [if_pos hc] at h; omega
    · rw [if_neg hc] at h
      cases j with
      | zero => exact ⟨c, rfl, hc⟩
      | succ j => simpa using lineN_ne l j (by omega)
theorem lineN_is : ∀ (l : List UInt8), lineN l < l.length → l[lineN l]? = some 10
  | [], h => by simp at h
  | c :: l, h => by
    rw [lineN_cons] at h ⊢
    by_cases hc : c = 10
    · rw [if_pos hc, hc]; rfl
    · rw [if_neg hc] at h ⊢
      simpa using lineN_is l (by simpa using h)
theorem wordN_ne : ∀ (l : List UInt8) (j : Nat), j < wordN l → ∃ d, l[j]? = some d ∧ d ≠ 32
  | [], j, h => by simp [wordN] at h
  | c :: l, j, h => by
    rw [wordN_cons] at h
    by_cases hc : c = 32
    · rw [if_pos hc] at h; omega
    · rw [if_neg hc] at h
      cases j with
      | zero => exact ⟨c, rfl, hc⟩
      | succ j => simpa using wordN_ne l j (by omega)
theorem wordN_is : ∀ (l : List UInt8), wordN l < l.length → l[wordN l]? = some 32
  | [], h => by simp at h
  | c :: l, h => by
    rw [wordN_cons] at h ⊢
    by_cases hc : c = 32
    · rw [if_pos hc, hc]; rfl
    · rw [if_neg hc] at h ⊢
      simpa using wordN_is l (by simpa using h)
theorem bs_slice (T : List UInt8) (i n : Nat) : (bs T).extract i (i + n) = bs ((T.drop i).take n) := by
  have := extract_tail (bs T) i n
  rwa [tail_, ub_bs] at this
theorem toNat_ne {d : Nat} {c x : UInt8} (hd : (UInt8.ofNat d).toNat = d) (hx : x = UInt8.ofNat d) (h : x ≠ c) : d ≠ c.toNat := fun e => h (by rw [hx]; exact UInt8.toNat_inj.1 (by rw [hd, e]))
/-- The empty slice of the call's own that stands for nothing. -/
theorem strOwn_none {w wr : World} (h : Below (w.heap.size + 1) (w.alloc (.cells #[] 9)) wr) : StrOwn wr w.heap.size (.slice (some ⟨w.heap.size, 0, none⟩) 0 0) [] :=
  .inr ⟨w.heap.size, 0, rfl, Nat.le_refl _, [], (h.block _ (by omega)).trans (blk_new w _), rfl, by omega⟩
/-- Where the words of a line stand. -/
structure LnSt (T : List UInt8) (i : Nat) (out : List (List UInt8)) : Prop where
  le : i ≤ T.length
  eq : words T = out ++ words (T.drop i)
  few : out.length ≤ 8
  small : ∀ x ∈ out, x.length ≤ 60
theorem LnSt.start (T : List UInt8) : LnSt T 0 [] := ⟨Nat.zero_le _, rfl, by simp, by simp⟩
theorem LnSt.blank {T : List UInt8} {i : Nat} {out : List (List UInt8)} (h : LnSt T i out) (hc : T[i]? = some 32) : LnSt T (i + 1) out := by
  obtain ⟨hi, e⟩ := List.getElem?_eq_some_iff.1 hc
  refine ⟨hi, ?_, h.few, h.small⟩
  rw [h.eq, List.drop_eq_getElem_cons hi, e, words_blank]
theorem LnSt.head {T : List UInt8} {i : Nat} {c : UInt8} (hc : T[i]? = some c) (h1 : c ≠ 32) : words (T.drop i) = (T.drop i).take (wordN (T.drop i)) :: words (T.drop (i + wordN (T.drop i))) := by
  obtain ⟨hi, e⟩ := List.getElem?_eq_some_iff.1 hc
  have hd : T.drop i = c :: T.drop (i + 1) := by rw [List.drop_eq_getElem_cons hi, e]
  rw [← List.drop_drop]
  rw [hd]
  exact words_head h1
theorem LnSt.word {T : List UInt8} {i : Nat} {out : List (List UInt8)} (h : LnSt T i out) {c : UInt8} (hc : T[i]? = some c) (h1 : c ≠ 32) (h8 : out.length ≠ 8) (h60 : wordN (T.drop i) ≤ 60) : LnSt T (i + wordN (T.drop i)) (out ++ [(T.drop i).take (wordN (T.drop i))]) := by
  have hw := wordN_le (T.drop i)
  have hi := h.le
  have h8' := h.few
  rw [List.length_drop] at hw
  refine ⟨by omega, ?_, by rw [List.length_append, List.length_singleton]; omega, ?_⟩
  · rw [h.eq, LnSt.head hc h1]
    simp
  · intro x hx
    rcases List.mem_append.1 hx with hx | hx
    · exact h.small x hx
    · obtain rfl := List.mem_singleton.1 hx
      rw [List.length_take]
      omega
theorem LnSt.bad {T : List UInt8} {i : Nat} {out : List (List UInt8)} (h : LnSt T i out) {c : UInt8} (hc : T[i]? = some c) (h1 : c ≠ 32) (hb : out.length = 8 ∨ 60 < wordN (T.drop i)) : wordsBad (words T) = true := by
  have hw := wordN_le (T.drop i)
  unfold wordsBad
  rw [h.eq, LnSt.head hc h1]
  rcases hb with hb | hb
  · rw [show decide (8 < (out ++ (T.drop i).take (wordN (T.drop i)) :: words (T.drop (i + wordN (T.drop i)))).length) = true from decide_eq_true (by rw [List.length_append, List.length_cons]; omega), Bool.or_true]
  · rw [List.any_eq_true.2 ⟨(T.drop i).take (wordN (T.drop i)), by simp, by rw [List.length_take, decide_eq_true_eq]; omega⟩]
    rfl
theorem LnSt.done {T : List UInt8} {out : List (List UInt8)} (h : LnSt T T.length out) : words T = out ∧ wordsBad (words T) = false := by
  have e : words T = out := by rw [h.eq, List.drop_length, words_nil, List.append_nil]
  refine ⟨e, ?_⟩
  unfold wordsBad
  rw [e, Bool.or_eq_false_iff]
  refine ⟨List.any_eq_false.2 fun x hx => by have := h.small x hx; simp; omega, decide_eq_false (by have := h.few; omega)⟩
set_option maxHeartbeats 8000000 in
set_option maxRecDepth 100000 in
theorem spec_l11Line_calls (s : ByteArray) (w : World) (hs : s.size ≤ 1048576) : Calls Tryd.prog 59 #[.string s] w (ReqPost w (lineB (ub s))) := by
  obtain ⟨i0, hi, hz, hsz, hby⟩ := info_parts info_str
  have hul := ub_length s
  have hle := lineN_le (ub s)
  have HNE := Lib.hid (lineN_ne (ub s))
  have HIS := Lib.hid (lineN_is (ub s))
  have HUB := Lib.hid hul
  have HB0 : Hid (Below (w.heap.size + 1) (w.alloc (.cells #[] 9)) (w.alloc (.cells #[] 9))) := Below.refl _ _
  have HB1 : Hid (Below w.heap.size w (w.alloc (.cells #[] 9))) := (Below.refl _ _).alloc (Nat.le_refl _) _
  by_cases h1 : lineN (ub s) = (ub s).length
  · by_cases h80 : 80 < lineN (ub s)
    · have HR := Lib.hid (lineB_long h80)
      generalize lineN (ub s) = N at HNE HIS hle h1 h80
      go_enter Tryd.func59, Tryd.ntmps59
      go_wp2
      go_loopw [6] (fun iv wr => ∃ i : Nat, i ≤ N ∧ iv = .int .i64 (i : Int) ∧ wr = w.alloc (.cells #[] 9)) (fun iv _ => N - (intOf iv).toNat)
      case atStart => exact ⟨0, Nat.zero_le _, rfl, rfl⟩
      case round =>
        obtain ⟨i, hiN, rfl, rfl⟩ := hrel
        by_cases hi2 : i < N
        · obtain ⟨x, hx, hx10⟩ := HNE.out i hi2
          obtain ⟨d, hd, hsd, hc, hcd⟩ := tail_byte (s := s) (a := 0) (i := i) (by omega)
          have hsd' : (s[i]'(by omega)).toNat = d := by simpa using hsd
          have hdb : ((d : Int) != 10) = true := bne_iff_ne.mpr (by
            have h3 : (ub s)[i]? = some (UInt8.ofNat d) := hc
            rw [hx] at h3
            have := toNat_ne (c := 10) hcd (Option.some.inj h3) hx10
            have h10 : (10 : UInt8).toNat = 10 := rfl
            omega)
          clear hsd hc hcd hx
          go_wp2
          go_roundw
          case rel => first | exact ⟨i + 1, by omega, by go_num, by first | rfl | trivial⟩ | (repeat (first | (refine ⟨?relx, rfl⟩; exact ⟨i + 1, by omega, by go_num, by first | rfl | trivial⟩) | (refine ⟨?relx, ?eqs⟩; (case eqs => (and_intros <;> rfl)); exact ⟨i + 1, by omega, by go_num, by first | rfl | trivial⟩) | apply Exists.intro))
          case measure => simp [intOf]; omega
        · obtain rfl : N = i := by omega
          have hNe : ¬ (N : Int) < (s.size : Int) := by omega
          have hN80 : (80 : Int) < (N : Int) := by omega
          go_wp2
          go_ret3
          exact reqPost_of HR.out rfl rfl HB1.out (strOwn_none HB0.out)
    · have HR := Lib.hid (lineB_open h80 h1)
      generalize lineN (ub s) = N at HNE HIS hle h1 h80
      go_enter Tryd.func59, Tryd.ntmps59
      go_wp2
      go_loopw [6] (fun iv wr => ∃ i : Nat, i ≤ N ∧ iv = .int .i64 (i : Int) ∧ wr = w.alloc (.cells #[] 9)) (fun iv _ => N - (intOf iv).toNat)
      case atStart => exact ⟨0, Nat.zero_le _, rfl, rfl⟩
      case round =>
        obtain ⟨i, hiN, rfl, rfl⟩ := hrel
        by_cases hi2 : i < N
        · obtain ⟨x, hx, hx10⟩ := HNE.out i hi2
          obtain ⟨d, hd, hsd, hc, hcd⟩ := tail_byte (s := s) (a := 0) (i := i) (by omega)
          have hsd' : (s[i]'(by omega)).toNat = d := by simpa using hsd
          have hdb : ((d : Int) != 10) = true := bne_iff_ne.mpr (by
            have h3 : (ub s)[i]? = some (UInt8.ofNat d) := hc
            rw [hx] at h3
            have := toNat_ne (c := 10) hcd (Option.some.inj h3) hx10
            have h10 : (10 : UInt8).toNat = 10 := rfl
            omega)
          clear hsd hc hcd hx
          go_wp2
          go_roundw
          case rel => first | exact ⟨i + 1, by omega, by go_num, by first | rfl | trivial⟩ | (repeat (first | (refine ⟨?relx, rfl⟩; exact ⟨i + 1, by omega, by go_num, by first | rfl | trivial⟩) | (refine ⟨?relx, ?eqs⟩; (case eqs => (and_intros <;> rfl)); exact ⟨i + 1, by omega, by go_num, by first | rfl | trivial⟩) | apply Exists.intro))
          case measure => simp [intOf]; omega
        · obtain rfl : N = i := by omega
          have hNe : ¬ (N : Int) < (s.size : Int) := by omega
          have hN80 : ¬ (80 : Int) < (N : Int) := by omega
          have hNs : ((N : Int) == (s.size : Int)) = true := beq_iff_eq.mpr (by omega)
          go_wp2
          go_ret3
          exact reqPost_of HR.out rfl rfl HB1.out (strOwn_none HB0.out)
  · have hlt : lineN (ub s) < s.size := by omega
    by_cases h80 : 80 < lineN (ub s)
    · have HR := Lib.hid (lineB_long h80)
      generalize lineN (ub s) = N at HNE HIS hle hlt h80
      go_enter Tryd.func59, Tryd.ntmps59
      go_wp2
      go_loopw [6] (fun iv wr => ∃ i : Nat, i ≤ N ∧ iv = .int .i64 (i : Int) ∧ wr = w.alloc (.cells #[] 9)) (fun iv _ => N - (intOf iv).toNat)
      case atStart => exact ⟨0, Nat.zero_le _, rfl, rfl⟩
      case round =>
        obtain ⟨i, hiN, rfl, rfl⟩ := hrel
        by_cases hi2 : i < N
        · obtain ⟨x, hx, hx10⟩ := HNE.out i hi2
          obtain ⟨d, hd, hsd, hc, hcd⟩ := tail_byte (s := s) (a := 0) (i := i) (by omega)
          have hsd' : (s[i]'(by omega)).toNat = d := by simpa using hsd
          have hdb : ((d : Int) != 10) = true := bne_iff_ne.mpr (by
            have h3 : (ub s)[i]? = some (UInt8.ofNat d) := hc
            rw [hx] at h3
            have := toNat_ne (c := 10) hcd (Option.some.inj h3) hx10
            have h10 : (10 : UInt8).toNat = 10 := rfl
            omega)
          clear hsd hc hcd hx
          go_wp2
          go_roundw
          case rel => first | exact ⟨i + 1, by omega, by go_num, by first | rfl | trivial⟩ | (repeat (first | (refine ⟨?relx, rfl⟩; exact ⟨i + 1, by omega, by go_num, by first | rfl | trivial⟩) | (refine ⟨?relx, ?eqs⟩; (case eqs => (and_intros <;> rfl)); exact ⟨i + 1, by omega, by go_num, by first | rfl | trivial⟩) | apply Exists.intro))
          case measure => simp [intOf]; omega
        · obtain rfl : N = i := by omega
          have hsd' : (s[N]'hlt).toNat = 10 := by
            have h3 := HIS.out (by rw [HUB.out]; exact hlt)
            obtain ⟨h4, h5⟩ := List.getElem?_eq_some_iff.1 h3
            have h6 : s[N]'hlt = 10 := h5
            rw [h6]
            rfl
          have hN80 : (80 : Int) < (N : Int) := by omega
          go_wp2
          go_ret3
          exact reqPost_of HR.out rfl rfl HB1.out (strOwn_none HB0.out)
    · have HOK := Lib.hid (fun h2 => lineB_ok (l := ub s) h80 h1 h2)
      have HBAD := Lib.hid (fun h2 => lineB_bad (l := ub s) h80 h1 h2)
      have HSL : Hid (s.extract 0 (lineN (ub s)) = bs ((ub s).take (lineN (ub s)))) := by
        have := extract_tail s 0 (lineN (ub s))
        rw [Nat.zero_add] at this
        exact this
      have hel : ((ub s).take (lineN (ub s))).length = lineN (ub s) := by rw [List.length_take]; omega
      generalize hE : (ub s).take (lineN (ub s)) = E at HOK HBAD HSL hel
      generalize lineN (ub s) = N at HNE HIS hle hlt h80 HOK HBAD HSL hel
      have hN80 : ¬ (80 : Int) < (N : Int) := by omega
      have hNs : ((N : Int) == (s.size : Int)) = false := beq_eq_false_iff_ne.mpr (by omega)
      have HEL := Lib.hid hel
      clear hE h1
      by_cases hcr : E.getLast? = some 13
      · have hT : trimB E = E.dropLast := by unfold trimB; rw [if_pos hcr]
        rw [Hid, hT] at HOK HBAD
        have HOK : Hid _ := HOK
        have HBAD : Hid _ := HBAD
        have hpos : 0 < N := by
          rcases Nat.eq_zero_or_pos N with h | h
          · rw [h] at hel
            rw [List.eq_nil_of_length_eq_zero hel] at hcr
            cases hcr
          · exact h
        have hlast : ∀ h' : N - 1 < (bs E).size, ((bs E)[N - 1]'h').toNat = 13 := fun h' => by
          have h2 : E[N - 1]? = some 13 := by rw [← hcr, List.getLast?_eq_getElem?, hel]
          obtain ⟨h3, h4⟩ := List.getElem?_eq_some_iff.1 h2
          show (E.toArray[N - 1]).toNat = 13
          simp [h4]
        have ht1 : ((N : Int) - 1).toNat = N - 1 := by omega
        have hc0 : (0 : Int) ≤ (N : Int) - 1 := by omega
        have hc1 : (N : Int) - 1 < (N : Int) := by omega
        have hc2 : (0 : Int) < (N : Int) := by omega
        have hdl : (bs E).extract 0 (N - 1) = bs E.dropLast := by
          have := bs_slice E 0 (N - 1)
          rw [Nat.zero_add] at this
          rw [this, List.drop_zero, List.dropLast_eq_take, hel]
        have htl : E.dropLast.length ≤ 80 := by rw [List.length_dropLast]; omega
        generalize E.dropLast = T at HOK HBAD hdl htl
        clear hT hcr
        go_enter Tryd.func59, Tryd.ntmps59
        go_wp2
        go_loopw [6] (fun iv wr => ∃ i : Nat, i ≤ N ∧ iv = .int .i64 (i : Int) ∧ wr = w.alloc (.cells #[] 9)) (fun iv _ => N - (intOf iv).toNat)
        case atStart => exact ⟨0, Nat.zero_le _, rfl, rfl⟩
        case round =>
          obtain ⟨i, hiN, rfl, rfl⟩ := hrel
          by_cases hi2 : i < N
          · obtain ⟨x, hx, hx10⟩ := HNE.out i hi2
            obtain ⟨d, hd, hsd, hc, hcd⟩ := tail_byte (s := s) (a := 0) (i := i) (by omega)
            have hsd' : (s[i]'(by omega)).toNat = d := by simpa using hsd
            have hdb : ((d : Int) != 10) = true := bne_iff_ne.mpr (by
              have h3 : (ub s)[i]? = some (UInt8.ofNat d) := hc
              rw [hx] at h3
              have := toNat_ne (c := 10) hcd (Option.some.inj h3) hx10
              have h10 : (10 : UInt8).toNat = 10 := rfl
              omega)
            clear hsd hc hcd hx
            go_wp2
            go_roundw
            case rel => first | exact ⟨i + 1, by omega, by go_num, by first | rfl | trivial⟩ | (repeat (first | (refine ⟨?relx, rfl⟩; exact ⟨i + 1, by omega, by go_num, by first | rfl | trivial⟩) | (refine ⟨?relx, ?eqs⟩; (case eqs => (and_intros <;> rfl)); exact ⟨i + 1, by omega, by go_num, by first | rfl | trivial⟩) | apply Exists.intro))
            case measure => simp [intOf]; omega
          · obtain rfl : N = i := by omega
            have hsd' : (s[N]'hlt).toNat = 10 := by
              have h3 := HIS.out (by rw [HUB.out]; exact hlt)
              obtain ⟨h4, h5⟩ := List.getElem?_eq_some_iff.1 h3
              have h6 : s[N]'hlt = 10 := h5
              rw [h6]
              rfl
            have hsl := HSL.out
            have HBZ : Hid (Below (w.heap.size + 1) (w.alloc (.cells #[] 9)) ((w.alloc (.cells #[] 9)).alloc (.cells #[] 9))) := (Below.refl _ _).alloc (by simp) _
            have HOZ : Hid (OwnS ((w.alloc (.cells #[] 9)).alloc (.cells #[] 9)) (w.heap.size + 1) (.slice (some ⟨w.heap.size + 1, 0, none⟩) 0 0) []) := by
              have := OwnS.empty (w.alloc (.cells #[] 9)) (B := w.heap.size + 1) (by simp)
              rw [Hid]
              simpa using this
            go_wp2
            go_loopw [8, 9] (fun av iv wr => ∃ (j : Nat) (out : List (List UInt8)) (acc : List ByteArray) (v : Value), iv = .int .i64 (j : Int) ∧ v = av ∧ acc = out.map bs ∧ LnSt T j out ∧ OwnS wr (w.heap.size + 1) v acc ∧ Below (w.heap.size + 1) (w.alloc (.cells #[] 9)) wr) (fun _ iv _ => T.length - (intOf iv).toNat)
            case atStart => exact ⟨0, [], [], _, rfl, rfl, rfl, LnSt.start _, HOZ.out, HBZ.out⟩
            case round =>
              obtain ⟨j, out, acc, v, rfl, rfl, hacc, hst, hown, hbel⟩ := hrel
              have HACC := Lib.hid hacc
              have HST := Lib.hid hst
              have HOW := Lib.hid hown
              have HBE := Lib.hid hbel
              have hjl := hst.le
              have hal : acc.length = out.length := by rw [hacc, List.length_map]
              have hof := hst.few
              have HAL := Lib.hid hal
              have hal8 : acc.length ≤ 8 := by omega
              clear hacc hst hown hal
              by_cases hjt : j < T.length
              · obtain ⟨d, hd, hbd, hrd, hdd⟩ := byte_at hjt
                have HRD := Lib.hid hrd
                by_cases h32 : d = 32
                · have HN := Lib.hid (HST.out.blank (by rw [HRD.out, h32]; rfl))
                  subst h32
                  clear hbel hrd hdd
                  go_wp2
                  go_roundw
                  case rel => first | exact ⟨j + 1, out, acc, _, by go_num, rfl, HACC.out, HN.out, HOW.out, HBE.out⟩ | (repeat (first | (refine ⟨?relx, rfl⟩; exact ⟨j + 1, out, acc, _, by go_num, rfl, HACC.out, HN.out, HOW.out, HBE.out⟩) | (refine ⟨?relx, ?eqs⟩; (case eqs => (and_intros <;> rfl)); exact ⟨j + 1, out, acc, _, by go_num, rfl, HACC.out, HN.out, HOW.out, HBE.out⟩) | apply Exists.intro))
                  case measure => simp [intOf]; omega
                · have hdb : ((d : Int) == 32) = false := beq_eq_false_iff_ne.mpr (by omega)
                  have HC32 : Hid (UInt8.ofNat d ≠ 32) := fun e => h32 ((ofNat_eq hdd 32 rfl).1 e)
                  have hwl := wordN_le (T.drop j)
                  rw [List.length_drop] at hwl
                  have HWN := Lib.hid (wordN_ne (T.drop j))
                  have HWI := Lib.hid (wordN_is (T.drop j))
                  have HBD2 := Lib.hid (fun hb => HST.out.bad HRD.out HC32.out hb)
                  have HWD := Lib.hid (fun h8 h60 => HST.out.word HRD.out HC32.out h8 h60)
                  have hwpos : 0 < wordN (T.drop j) := by
                    rw [List.drop_eq_getElem_cons hjt, wordN_cons, if_neg (by
                      have h3 := HRD.out
                      obtain ⟨h4, h5⟩ := List.getElem?_eq_some_iff.1 h3
                      rw [h5]
                      exact HC32.out)]
                    omega
                  have HSX : Hid ((bs T).extract j (j + wordN (T.drop j)) = bs ((T.drop j).take (wordN (T.drop j)))) := bs_slice _ _ _
                  generalize (T.drop j).take (wordN (T.drop j)) = p at HSX HWD
                  have HDL : Hid ((T.drop j).length = T.length - j) := by rw [Hid, List.length_drop]
                  have HDG : Hid (∀ q, (T.drop j)[q]? = T[j + q]?) := fun q => List.getElem?_drop
                  generalize wordN (T.drop j) = N2 at HSX HWD HBD2 HWN HWI hwl hwpos
                  clear hbel hrd hdd
                  go_wp2
                  go_loopw [10] (fun kv wq => ∃ q : Nat, q ≤ N2 ∧ kv = .int .i64 ((j + q : Nat) : Int) ∧ wq = wr) (fun kv _ => T.length - (intOf kv).toNat)
                  case atStart => exact ⟨0, Nat.zero_le _, by simp, rfl⟩
                  case round =>
                    obtain ⟨q, hq, rfl, rfl⟩ := hrel
                    by_cases hq2 : q < N2
                    · obtain ⟨x, hx, hx32⟩ := HWN.out q hq2
                      rw [HDG.out] at hx
                      obtain ⟨e, he, hbe, hre, hee⟩ := byte_at (r := T) (n := j + q) (by omega)
                      have heb : ((e : Int) != 32) = true := bne_iff_ne.mpr (by
                        rw [hx] at hre
                        have := toNat_ne (c := 32) hee (Option.some.inj hre) hx32
                        have h32' : (32 : UInt8).toNat = 32 := rfl
                        omega)
                      have htq : ((j : Int) + (q : Int)).toNat = j + q := by omega
                      clear hx hre hee
                      go_wp2
                      go_roundw
                      case rel => first | exact ⟨q + 1, by omega, by go_num, by first | rfl | trivial⟩ | (repeat (first | (refine ⟨?relx, rfl⟩; exact ⟨q + 1, by omega, by go_num, by first | rfl | trivial⟩) | (refine ⟨?relx, ?eqs⟩; (case eqs => (and_intros <;> rfl)); exact ⟨q + 1, by omega, by go_num, by first | rfl | trivial⟩) | apply Exists.intro))
                      case measure => simp [intOf]; omega
                    · obtain rfl : N2 = q := by omega
                      have htq : ((j : Int) + (N2 : Int)).toNat = j + N2 := by omega
                      have hsub : IntKind.i64.wrap ((j : Int) + (N2 : Int) - (j : Int)) = (N2 : Int) := by rw [IntKind.wrap_i64]; omega
                      have hexit : (j + N2 = T.length ∧ ¬ (j : Int) + (N2 : Int) < (T.length : Int)) ∨ (j + N2 < T.length ∧ ∀ h' : j + N2 < (bs T).size, ((bs T)[j + N2]'h').toNat = 32) := by
                        rcases Nat.eq_or_lt_of_le (show j + N2 ≤ T.length by omega) with h | h
                        · exact .inl ⟨h, by omega⟩
                        · refine .inr ⟨h, fun h' => ?_⟩
                          have h2 := HWI.out (by rw [HDL.out]; omega)
                          rw [HDG.out] at h2
                          obtain ⟨h4, h5⟩ := List.getElem?_eq_some_iff.1 h2
                          show (T.toArray[j + N2]).toNat = 32
                          simp [h5]
                      by_cases h8 : acc.length = 8
                      · have HR := Lib.hid (HBAD.out (HBD2.out (.inl (by rw [← HAL.out]; exact h8))))
                        have h8b : ((acc.length : Int) == 8) = true := beq_iff_eq.mpr (by omega)
                        obtain ⟨A, cc, rfl⟩ := HOW.out.form
                        rcases hexit with ⟨-, hex⟩ | ⟨hex, hex2⟩
                        all_goals
                          go_wp2
                          go_ret3
                          exact reqPost_of HR.out rfl rfl (HB1.out.trans (HBE.out.mono (by omega))) (strOwn_none HBE.out)
                      · have h8b : ((acc.length : Int) == 8) = false := beq_eq_false_iff_ne.mpr (by omega)
                        by_cases h60 : 60 < N2
                        · have HR := Lib.hid (HBAD.out (HBD2.out (.inr h60)))
                          obtain ⟨A, cc, rfl⟩ := HOW.out.form
                          rcases hexit with ⟨-, hex⟩ | ⟨hex, hex2⟩
                          all_goals
                            go_wp2
                            go_ret3
                            exact reqPost_of HR.out rfl rfl (HB1.out.trans (HBE.out.mono (by omega))) (strOwn_none HBE.out)
                        · have HN := Lib.hid (HWD.out (by rw [← HAL.out]; exact h8) (by omega))
                          have HAN : Hid (acc ++ [bs p] = (out ++ [p]).map bs) := by rw [Hid, List.map_append, HACC.out]; rfl
                          have hsx := HSX.out
                          have HOWN : Hid ((wr.alloc (.cells #[.string (bs p)] 9)).ownsRow (w.heap.size + 1) 9 1 v acc.length (acc.map Value.string)) := World.ownsRow.alloc HOW.out _
                          have HNEWS : Hid (∀ j u, [Value.string (bs p)][j]? = some u → (wr.alloc (.cells #[.string (bs p)] 9)).cell? ((⟨wr.heap.size, 0, none⟩ : Addr).add j) = some u) := World.news_of_block (heap_alloc_new wr _)
                          have HWS : Hid (w.heap.size + 1 ≤ wr.heap.size) := by have := HBE.out.size; simp at this; exact this
                          have HBASE : Hid (w.heap.size + 1 ≤ (wr.alloc (.cells #[.string (bs p)] 9)).heap.size) := by have := HWS.out; rw [Hid]; simp; omega
                          obtain ⟨A, cc, hv⟩ := HOW.out.form
                          have HOW := Lib.hid HOW.out
                          subst hv
                          rcases hexit with ⟨-, hex⟩ | ⟨hex, hex2⟩
                          all_goals
                            go_wp2_with (at_builtin; refine wpList_append_lies _ rfl _ _ _ rfl (w.heap.size + 1) 9 i0 (.string ByteArray.empty) 1 16 Tryd.underlying22 hi hz hsz hby rfl (by omega) (.slice A acc.length cc) acc.length (acc.map Value.string) rfl HOWN.out ⟨wr.heap.size, 0, none⟩ 1 1 [.string (bs p)] rfl rfl HNEWS.out (by simp [Value.oneCell']) (by omega) (by unfold maxLen; omega) (by omega) HBASE.out _ rfl ?_; intro g cap w2 hown hgrow hat hlt2)
                            have HPU := Lib.hid (OwnS.pushed hown)
                            have HBN := Lib.hid (below_push HBE.out HWS.out HOW.out hgrow)
                            clear hown hgrow hat
                            go_wp2
                            go_roundw
                            case rel => first | exact ⟨j + N2, out ++ [p], acc ++ [bs p], _, by go_num, rfl, HAN.out, HN.out, HPU.out, HBN.out⟩ | (repeat (first | (refine ⟨?relx, rfl⟩; exact ⟨j + N2, out ++ [p], acc ++ [bs p], _, by go_num, rfl, HAN.out, HN.out, HPU.out, HBN.out⟩) | (refine ⟨?relx, ?eqs⟩; (case eqs => (and_intros <;> rfl)); exact ⟨j + N2, out ++ [p], acc ++ [bs p], _, by go_num, rfl, HAN.out, HN.out, HPU.out, HBN.out⟩) | apply Exists.intro))
                            case measure => simp [intOf]; omega
              · obtain rfl : j = T.length := by omega
                obtain ⟨hw1, hw2⟩ := HST.out.done
                have HR := Lib.hid (HOK.out hw2)
                have HW := Lib.hid hw1
                obtain ⟨A, cc, rfl⟩ := HOW.out.form
                clear hbel hw1 hw2
                go_wp2
                go_ret3
                exact reqPost_of HR.out (by omega) rfl (HB1.out.trans (HBE.out.mono (by omega))) (by rw [HW.out, ← HACC.out]; exact HOW.out.own (by omega))
      · have hT : trimB E = E := by unfold trimB; rw [if_neg hcr]
        rw [Hid, hT] at HOK HBAD
        have HOK : Hid _ := HOK
        have HBAD : Hid _ := HBAD
        have htl : E.length ≤ 80 := by omega
        clear hT
        by_cases hpos : 0 < N
        · obtain ⟨d, hd, hbd, hrd, hdd⟩ := byte_at (r := E) (n := N - 1) (by omega)
          have h13 : d ≠ 13 := by
            intro e
            refine hcr ?_
            rw [List.getLast?_eq_getElem?, hel, hrd, e]
            rfl
          have hdb : ((d : Int) == 13) = false := beq_eq_false_iff_ne.mpr (by omega)
          have ht1 : ((N : Int) - 1).toNat = N - 1 := by omega
          have hc0 : (0 : Int) ≤ (N : Int) - 1 := by omega
          have hc1 : (N : Int) - 1 < (N : Int) := by omega
          have hc2 : (0 : Int) < (N : Int) := by omega
          clear hrd hdd hcr
          go_enter Tryd.func59, Tryd.ntmps59
          go_wp2
          go_loopw [6] (fun iv wr => ∃ i : Nat, i ≤ N ∧ iv = .int .i64 (i : Int) ∧ wr = w.alloc (.cells #[] 9)) (fun iv _ => N - (intOf iv).toNat)
          case atStart => exact ⟨0, Nat.zero_le _, rfl, rfl⟩
          case round =>
            obtain ⟨i, hiN, rfl, rfl⟩ := hrel
            by_cases hi2 : i < N
            · obtain ⟨x, hx, hx10⟩ := HNE.out i hi2
              obtain ⟨d, hd, hsd, hc, hcd⟩ := tail_byte (s := s) (a := 0) (i := i) (by omega)
              have hsd' : (s[i]'(by omega)).toNat = d := by simpa using hsd
              have hdb : ((d : Int) != 10) = true := bne_iff_ne.mpr (by
                have h3 : (ub s)[i]? = some (UInt8.ofNat d) := hc
                rw [hx] at h3
                have := toNat_ne (c := 10) hcd (Option.some.inj h3) hx10
                have h10 : (10 : UInt8).toNat = 10 := rfl
                omega)
              clear hsd hc hcd hx
              go_wp2
              go_roundw
              case rel => first | exact ⟨i + 1, by omega, by go_num, by first | rfl | trivial⟩ | (repeat (first | (refine ⟨?relx, rfl⟩; exact ⟨i + 1, by omega, by go_num, by first | rfl | trivial⟩) | (refine ⟨?relx, ?eqs⟩; (case eqs => (and_intros <;> rfl)); exact ⟨i + 1, by omega, by go_num, by first | rfl | trivial⟩) | apply Exists.intro))
              case measure => simp [intOf]; omega
            · obtain rfl : N = i := by omega
              have hsd' : (s[N]'hlt).toNat = 10 := by
                have h3 := HIS.out (by rw [HUB.out]; exact hlt)
                obtain ⟨h4, h5⟩ := List.getElem?_eq_some_iff.1 h3
                have h6 : s[N]'hlt = 10 := h5
                rw [h6]
                rfl
              have hsl := HSL.out
              have HBZ : Hid (Below (w.heap.size + 1) (w.alloc (.cells #[] 9)) ((w.alloc (.cells #[] 9)).alloc (.cells #[] 9))) := (Below.refl _ _).alloc (by simp) _
              have HOZ : Hid (OwnS ((w.alloc (.cells #[] 9)).alloc (.cells #[] 9)) (w.heap.size + 1) (.slice (some ⟨w.heap.size + 1, 0, none⟩) 0 0) []) := by
                have := OwnS.empty (w.alloc (.cells #[] 9)) (B := w.heap.size + 1) (by simp)
                rw [Hid]
                simpa using this
              go_wp2
              go_loopw [8, 9] (fun av iv wr => ∃ (j : Nat) (out : List (List UInt8)) (acc : List ByteArray) (v : Value), iv = .int .i64 (j : Int) ∧ v = av ∧ acc = out.map bs ∧ LnSt E j out ∧ OwnS wr (w.heap.size + 1) v acc ∧ Below (w.heap.size + 1) (w.alloc (.cells #[] 9)) wr) (fun _ iv _ => E.length - (intOf iv).toNat)
              case atStart => exact ⟨0, [], [], _, rfl, rfl, rfl, LnSt.start _, HOZ.out, HBZ.out⟩
              case round =>
                obtain ⟨j, out, acc, v, rfl, rfl, hacc, hst, hown, hbel⟩ := hrel
                have HACC := Lib.hid hacc
                have HST := Lib.hid hst
                have HOW := Lib.hid hown
                have HBE := Lib.hid hbel
                have hjl := hst.le
                have hal : acc.length = out.length := by rw [hacc, List.length_map]
                have hof := hst.few
                have HAL := Lib.hid hal
                have hal8 : acc.length ≤ 8 := by omega
                clear hacc hst hown hal
                by_cases hjt : j < E.length
                · obtain ⟨d, hd, hbd, hrd, hdd⟩ := byte_at hjt
                  have hjN : j < N := by omega
                  have HRD := Lib.hid hrd
                  by_cases h32 : d = 32
                  · have HN := Lib.hid (HST.out.blank (by rw [HRD.out, h32]; rfl))
                    subst h32
                    clear hbel hrd hdd
                    go_wp2
                    go_roundw
                    case rel => first | exact ⟨j + 1, out, acc, _, by go_num, rfl, HACC.out, HN.out, HOW.out, HBE.out⟩ | (repeat (first | (refine ⟨?relx, rfl⟩; exact ⟨j + 1, out, acc, _, by go_num, rfl, HACC.out, HN.out, HOW.out, HBE.out⟩) | (refine ⟨?relx, ?eqs⟩; (case eqs => (and_intros <;> rfl)); exact ⟨j + 1, out, acc, _, by go_num, rfl, HACC.out, HN.out, HOW.out, HBE.out⟩) | apply Exists.intro))
                    case measure => simp [intOf]; omega
                  · have hdb : ((d : Int) == 32) = false := beq_eq_false_iff_ne.mpr (by omega)
                    have HC32 : Hid (UInt8.ofNat d ≠ 32) := fun e => h32 ((ofNat_eq hdd 32 rfl).1 e)
                    have hwl := wordN_le (E.drop j)
                    rw [List.length_drop] at hwl
                    have HWN := Lib.hid (wordN_ne (E.drop j))
                    have HWI := Lib.hid (wordN_is (E.drop j))
                    have HBD2 := Lib.hid (fun hb => HST.out.bad HRD.out HC32.out hb)
                    have HWD := Lib.hid (fun h8 h60 => HST.out.word HRD.out HC32.out h8 h60)
                    have hwpos : 0 < wordN (E.drop j) := by
                      rw [List.drop_eq_getElem_cons hjt, wordN_cons, if_neg (by
                        have h3 := HRD.out
                        obtain ⟨h4, h5⟩ := List.getElem?_eq_some_iff.1 h3
                        rw [h5]
                        exact HC32.out)]
                      omega
                    have HSX : Hid ((bs E).extract j (j + wordN (E.drop j)) = bs ((E.drop j).take (wordN (E.drop j)))) := bs_slice _ _ _
                    generalize (E.drop j).take (wordN (E.drop j)) = p at HSX HWD
                    have HDL : Hid ((E.drop j).length = E.length - j) := by rw [Hid, List.length_drop]
                    have HDG : Hid (∀ q, (E.drop j)[q]? = E[j + q]?) := fun q => List.getElem?_drop
                    generalize wordN (E.drop j) = N2 at HSX HWD HBD2 HWN HWI hwl hwpos
                    clear hbel hrd hdd
                    go_wp2
                    go_loopw [10] (fun kv wq => ∃ q : Nat, q ≤ N2 ∧ kv = .int .i64 ((j + q : Nat) : Int) ∧ wq = wr) (fun kv _ => E.length - (intOf kv).toNat)
                    case atStart => exact ⟨0, Nat.zero_le _, by simp, rfl⟩
                    case round =>
                      obtain ⟨q, hq, rfl, rfl⟩ := hrel
                      by_cases hq2 : q < N2
                      · obtain ⟨x, hx, hx32⟩ := HWN.out q hq2
                        rw [HDG.out] at hx
                        obtain ⟨e, he, hbe, hre, hee⟩ := byte_at (r := E) (n := j + q) (by omega)
                        have heb : ((e : Int) != 32) = true := bne_iff_ne.mpr (by
                          rw [hx] at hre
                          have := toNat_ne (c := 32) hee (Option.some.inj hre) hx32
                          have h32' : (32 : UInt8).toNat = 32 := rfl
                          omega)
                        have htq : ((j : Int) + (q : Int)).toNat = j + q := by omega
                        clear hx hre hee
                        go_wp2
                        go_roundw
                        case rel => first | exact ⟨q + 1, by omega, by go_num, by first | rfl | trivial⟩ | (repeat (first | (refine ⟨?relx, rfl⟩; exact ⟨q + 1, by omega, by go_num, by first | rfl | trivial⟩) | (refine ⟨?relx, ?eqs⟩; (case eqs => (and_intros <;> rfl)); exact ⟨q + 1, by omega, by go_num, by first | rfl | trivial⟩) | apply Exists.intro))
                        case measure => simp [intOf]; omega
                      · obtain rfl : N2 = q := by omega
                        have htq : ((j : Int) + (N2 : Int)).toNat = j + N2 := by omega
                        have hsub : IntKind.i64.wrap ((j : Int) + (N2 : Int) - (j : Int)) = (N2 : Int) := by rw [IntKind.wrap_i64]; omega
                        have hexit : (j + N2 = E.length ∧ ¬ (j : Int) + (N2 : Int) < (E.length : Int)) ∨ (j + N2 < E.length ∧ ∀ h' : j + N2 < (bs E).size, ((bs E)[j + N2]'h').toNat = 32) := by
                          rcases Nat.eq_or_lt_of_le (show j + N2 ≤ E.length by omega) with h | h
                          · exact .inl ⟨h, by omega⟩
                          · refine .inr ⟨h, fun h' => ?_⟩
                            have h2 := HWI.out (by rw [HDL.out]; omega)
                            rw [HDG.out] at h2
                            obtain ⟨h4, h5⟩ := List.getElem?_eq_some_iff.1 h2
                            show (E.toArray[j + N2]).toNat = 32
                            simp [h5]
                        by_cases h8 : acc.length = 8
                        · have HR := Lib.hid (HBAD.out (HBD2.out (.inl (by rw [← HAL.out]; exact h8))))
                          have h8b : ((acc.length : Int) == 8) = true := beq_iff_eq.mpr (by omega)
                          obtain ⟨A, cc, rfl⟩ := HOW.out.form
                          rcases hexit with ⟨-, hex⟩ | ⟨hex, hex2⟩
                          all_goals
                            go_wp2
                            go_ret3
                            exact reqPost_of HR.out rfl rfl (HB1.out.trans (HBE.out.mono (by omega))) (strOwn_none HBE.out)
                        · have h8b : ((acc.length : Int) == 8) = false := beq_eq_false_iff_ne.mpr (by omega)
                          by_cases h60 : 60 < N2
                          · have HR := Lib.hid (HBAD.out (HBD2.out (.inr h60)))
                            obtain ⟨A, cc, rfl⟩ := HOW.out.form
                            rcases hexit with ⟨-, hex⟩ | ⟨hex, hex2⟩
                            all_goals
                              go_wp2
                              go_ret3
                              exact reqPost_of HR.out rfl rfl (HB1.out.trans (HBE.out.mono (by omega))) (strOwn_none HBE.out)
                          · have HN := Lib.hid (HWD.out (by rw [← HAL.out]; exact h8) (by omega))
                            have HAN : Hid (acc ++ [bs p] = (out ++ [p]).map bs) := by rw [Hid, List.map_append, HACC.out]; rfl
                            have hsx := HSX.out
                            have HOWN : Hid ((wr.alloc (.cells #[.string (bs p)] 9)).ownsRow (w.heap.size + 1) 9 1 v acc.length (acc.map Value.string)) := World.ownsRow.alloc HOW.out _
                            have HNEWS : Hid (∀ j u, [Value.string (bs p)][j]? = some u → (wr.alloc (.cells #[.string (bs p)] 9)).cell? ((⟨wr.heap.size, 0, none⟩ : Addr).add j) = some u) := World.news_of_block (heap_alloc_new wr _)
                            have HWS : Hid (w.heap.size + 1 ≤ wr.heap.size) := by have := HBE.out.size; simp at this; exact this
                            have HBASE : Hid (w.heap.size + 1 ≤ (wr.alloc (.cells #[.string (bs p)] 9)).heap.size) := by have := HWS.out; rw [Hid]; simp; omega
                            obtain ⟨A, cc, hv⟩ := HOW.out.form
                            have HOW := Lib.hid HOW.out
                            subst hv
                            rcases hexit with ⟨-, hex⟩ | ⟨hex, hex2⟩
                            all_goals
                              go_wp2_with (at_builtin; refine wpList_append_lies _ rfl _ _ _ rfl (w.heap.size + 1) 9 i0 (.string ByteArray.empty) 1 16 Tryd.underlying22 hi hz hsz hby rfl (by omega) (.slice A acc.length cc) acc.length (acc.map Value.string) rfl HOWN.out ⟨wr.heap.size, 0, none⟩ 1 1 [.string (bs p)] rfl rfl HNEWS.out (by simp [Value.oneCell']) (by omega) (by unfold maxLen; omega) (by omega) HBASE.out _ rfl ?_; intro g cap w2 hown hgrow hat hlt2)
                              have HPU := Lib.hid (OwnS.pushed hown)
                              have HBN := Lib.hid (below_push HBE.out HWS.out HOW.out hgrow)
                              clear hown hgrow hat
                              go_wp2
                              go_roundw
                              case rel => first | exact ⟨j + N2, out ++ [p], acc ++ [bs p], _, by go_num, rfl, HAN.out, HN.out, HPU.out, HBN.out⟩ | (repeat (first | (refine ⟨?relx, rfl⟩; exact ⟨j + N2, out ++ [p], acc ++ [bs p], _, by go_num, rfl, HAN.out, HN.out, HPU.out, HBN.out⟩) | (refine ⟨?relx, ?eqs⟩; (case eqs => (and_intros <;> rfl)); exact ⟨j + N2, out ++ [p], acc ++ [bs p], _, by go_num, rfl, HAN.out, HN.out, HPU.out, HBN.out⟩) | apply Exists.intro))
                              case measure => simp [intOf]; omega
                · obtain rfl : j = E.length := by omega
                  obtain ⟨hw1, hw2⟩ := HST.out.done
                  have HR := Lib.hid (HOK.out hw2)
                  have HW := Lib.hid hw1
                  obtain ⟨A, cc, rfl⟩ := HOW.out.form
                  clear hbel hw1 hw2
                  go_wp2
                  go_ret3
                  exact reqPost_of HR.out (by omega) rfl (HB1.out.trans (HBE.out.mono (by omega))) (by rw [HW.out, ← HACC.out]; exact HOW.out.own (by omega))
        · obtain rfl : 0 = N := by omega
          obtain rfl : E = [] := List.eq_nil_of_length_eq_zero hel
          have hs0 : 0 < s.size := hlt
          have hsd' : (s[0]'hs0).toNat = 10 := by
            have h3 := HIS.out (by rw [HUB.out]; exact hlt)
            obtain ⟨h4, h5⟩ := List.getElem?_eq_some_iff.1 h3
            have h6 : s[0]'hs0 = 10 := h5
            rw [h6]
            rfl
          have hsi : (0 : Int) < (s.size : Int) := by omega
          have hsl := HSL.out
          have HR : Hid (lineB (ub s) = ([], 1, 1)) := HOK.out rfl
          clear hcr hel hN80 hNs h80 htl hpos
          have HBZ : Hid (Below (w.heap.size + 1) (w.alloc (.cells #[] 9)) ((w.alloc (.cells #[] 9)).alloc (.cells #[] 9))) := (Below.refl _ _).alloc (by simp) _
          have HOZ : Hid (OwnS ((w.alloc (.cells #[] 9)).alloc (.cells #[] 9)) (w.heap.size + 1) (.slice (some ⟨w.heap.size + 1, 0, none⟩) 0 0) []) := by
            have := OwnS.empty (w.alloc (.cells #[] 9)) (B := w.heap.size + 1) (by simp)
            rw [Hid]
            simpa using this
          go_enter Tryd.func59, Tryd.ntmps59
          go_wp2
          refine wp_loop_rounds 1 ?_
          rw [rounds_succ]
          go_wp2
          refine wp_loop_rounds 1 ?_
          rw [rounds_succ]
          go_wp2
          go_ret3
          exact reqPost_of HR.out rfl rfl (HB1.out.trans (HBZ.out.mono (by omega))) (HOZ.out.own (by omega))
end Go.Proofs.YtanpkomifhbhnaaDoor
