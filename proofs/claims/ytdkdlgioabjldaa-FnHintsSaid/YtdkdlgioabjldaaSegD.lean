/- The draws: the file of a segment. -/
import Derived.Test.YtdkdlgioabjldaaDrawB
import Derived.Test.YtdkdlgioabjldaaSegRT
import Derived.Test.YtdkdlgioabjldaaBat5
namespace Go.Proofs.Ytdkdlgioabjldaa
set_option linter.unusedVariables false
set_option linter.unusedSimpArgs false
open Go.RowKit
attribute [local go_sem] bs_size List.length_cons List.length_nil List.length_append

theorem few_bytes {q : Int} {cs : List ChD} {l : List UInt8} (h : batText (q, cs) = some l) (hf : Few 20 20 cs) (hl : cs.length ≤ 6) : l = batBytes (q, cs) ∧ 1 ≤ l.length ∧ l.length ≤ 400 := by
  unfold batText at h
  split at h
  · rename_i hc
    obtain rfl := Option.some.inj h
    obtain ⟨h1, h2, _⟩ := batOk_parts hc.1
    have h3 := batHead_len (d := (q, cs)) h1 h2
    have h4 : ∀ ds : List ChD, Few 20 20 ds → (chsBytes ds).length ≤ 60 * ds.length := by
      intro ds
      induction ds with
      | nil => intro _; simp [chsBytes]
      | cons x ds ih =>
        intro hx
        have h5 := ih fun y hy => hx y (by simp [hy])
        obtain ⟨h6, h7⟩ := hx x (by simp)
        have h8 := var_len (n := x.1.size) (by omega)
        have h9 := var_len (n := x.2.1.size) (by omega)
        have h10 : (chBytes x).length ≤ 60 := by
          unfold chBytes shortB
          simp only [List.length_append, List.length_cons, ub_length]
          omega
        unfold chsBytes at h5 ⊢
        rw [List.map_cons, List.flatten_cons, List.length_append, List.length_cons]
        omega
    have h5 := h4 cs hf
    refine ⟨rfl, ?_, ?_⟩
    · unfold batBytes batHead; simp only [List.length_append, List.length_cons]; omega
    · show (batHead (q, cs) ++ chsBytes cs).length ≤ 400
      rw [List.length_append]
      omega
  · cases h
/-- A segment's file under way: some batches, their numbers below q. -/
def SegUp (r : ByteArray) (q : Int) (i : Nat) (s : ByteArray) : Prop := ∃ rs ds, BatsIn none rs ds ∧ (∀ d ∈ ds, d.1 < q) ∧ ub s = frs (r :: rs) ∧ s.size ≤ 100 + 500 * i
theorem SegUp.size {r s : ByteArray} {q : Int} {i : Nat} (h : SegUp r q i s) : s.size ≤ 100 + 500 * i := by
  obtain ⟨_, _, _, _, _, h⟩ := h
  exact h
theorem SegUp.more {r s : ByteArray} {q q' : Int} {i j : Nat} (h : SegUp r q i s) (hq : q ≤ q') (hij : i ≤ j) : SegUp r q' j s := by
  obtain ⟨rs, ds, h1, h2, h3, h4⟩ := h
  exact ⟨rs, ds, h1, fun d hd => by have := h2 d hd; omega, h3, by omega⟩
theorem ub_app (s t : ByteArray) : ub (s ++ t) = ub s ++ ub t := by simp [ub]
theorem ub_inj {a b : ByteArray} (h : ub a = ub b) : a = b := by rw [← bs_ub a, h, bs_ub]
theorem segStep {r s : ByteArray} {q : Int} {i : Nat} {cs : List ChD} (h : SegUp r q i s) (hf : Few 20 20 cs) (hl : cs.length ≤ 6) :
    ∃ (t : ByteArray) (b : Bool) (fl : ByteArray) (b2 : Bool), varRes (batText (q, cs)) = .tuple #[.string t, .bool b] ∧ t.size ≤ 9000 ∧ varRes (frameB (ub t)) = .tuple #[.string fl, .bool b2] ∧ fl.size ≤ 500 ∧ ∀ q', q < q' → SegUp r q' (i + 1) (s ++ fl) := by
  cases hb : batText (q, cs) with
  | none =>
    have hn : frameB (ub ⟨#[]⟩) = none := frameB_no (by simp [ub])
    refine ⟨⟨#[]⟩, false, ⟨#[]⟩, false, rfl, by decide, by rw [hn]; rfl, by decide, fun q' hq => ?_⟩
    have e : s ++ (⟨#[]⟩ : ByteArray) = s := by
      apply ub_inj
      rw [ub_app]
      simp [ub]
    rw [e]
    exact h.more (by omega) (by omega)
  | some l =>
    obtain ⟨_, h1, h2⟩ := few_bytes hb hf hl
    have hfr : frameB l = some (varBytes l.length ++ (sum4 l ++ l)) := frameB_yes ⟨h1, by omega⟩
    have hv := var_len (n := l.length) (by omega)
    have h4 := sum4_len l
    refine ⟨bs l, true, bs (varBytes l.length ++ (sum4 l ++ l)), true, rfl, by rw [bs_size]; omega, by rw [ub_bs, hfr]; rfl, by rw [bs_size]; simp only [List.length_append]; omega, fun q' hq => ?_⟩
    obtain ⟨rs, ds, i1, i2, i3, i4⟩ := h
    have e : frB (bs l) = varBytes l.length ++ (sum4 l ++ l) := by unfold frB; rw [bs_size, ub_bs]
    refine ⟨rs ++ [bs l], ds ++ [(q, cs)], i1.snoc ⟨by rw [ub_bs]; exact hb, by rw [bs_size]; exact h1, by rw [bs_size]; omega⟩ i2 (fun _ e => by cases e), fun d hd => ?_, ?_, ?_⟩
    · rcases List.mem_append.1 hd with hd | hd
      · have := i2 d hd; omega
      · obtain rfl := List.mem_singleton.1 hd; exact hq
    · rw [ub_app, i3, ub_bs, frs_cons, frs_cons, frs_snoc, e, List.append_assoc]
    · rw [ByteArray.size_append, bs_size]
      simp only [List.length_append]
      omega
theorem segStart {n f : Nat} (hn : n ≤ 99) (hf : f ≤ n) : ∃ (r s : ByteArray), IsHead (n : Int) r f ∧ headText (n : Int) (f : Int) = some (ub s) ∧ ∀ q, SegUp r q 0 s := by
  have h1 := headBytes_len (n := n) (f := f) (by omega) (by omega)
  have hh : IsHead (n : Int) (bs (headBytes n f)) f := ⟨⟨by omega, by omega⟩, by omega, by rw [ub_bs]; rfl⟩
  have hsz : (bs (headBytes n f)).size = (headBytes n f).length := bs_size _
  have hr : 1 ≤ (bs (headBytes n f)).size ∧ (bs (headBytes n f)).size ≤ 9000 := by omega
  have hfr := frB_is hr
  rw [ub_bs] at hfr
  refine ⟨bs (headBytes n f), bs (frB (bs (headBytes n f))), hh, by rw [headText_yes hn hf, hfr, ub_bs], fun q => ⟨[], [], trivial, fun d hd => by simp at hd, by rw [ub_bs, frs_cons]; simp [frs], ?_⟩⟩
  have hv := var_len (n := (headBytes n f).length) (by omega)
  have h4 := sum4_len (headBytes n f)
  rw [bs_size]
  unfold frB
  rw [hsz, ub_bs, List.length_append, List.length_append]
  omega
theorem SegUp.done {n f : Nat} {r s : ByteArray} {q : Int} {i : Nat} (hh : IsHead (n : Int) r f) (h : SegUp r q i s) (hi : i ≤ 20) : ∃ rs ds, SegText n f r rs ds s := by
  obtain ⟨rs, ds, h1, h2, h3, h4⟩ := h
  exact ⟨rs, ds, hh, h1, h3, by omega⟩
def FilePost (w : World) (g n : Nat) (q : Int) (e : Ending) (w' : World) : Prop := ∃ (s r : ByteArray) (f : Nat) (rs : List ByteArray) (ds : List BatD) (q' : Int), e = .returned (.tuple #[.string s, .int .i64 q']) ∧ SegText n f r rs ds s ∧ q ≤ q' ∧ q' ≤ q + 6 ∧ Drawn w g w'
set_option maxHeartbeats 8000000 in
set_option maxRecDepth 100000 in
theorem spec_l06File_calls (g n : Nat) (q : Int) (w : World) (h : Cu w g) (hn : n ≤ 99) (hq0 : 0 ≤ q) (hq1 : q ≤ 1000000) :
    Calls Try.prog 59 #[.pointer (some ⟨g, 0, none⟩), .int .i64 (n : Int), .int .i64 q] w (FilePost w g n q) := by
  have HC := Lib.hid h
  have HGL := Lib.hid h.lt
  clear h
  go_enter Try.func59, Try.ntmps59
  go_wp2_with fail
  go_at_call 34
  refine (spec_l01Below_calls g ((n : Int) + 1) _ HC.out (by omega)).mono ?_
  rintro e w1 ⟨x, rfl, hx0, hx1, _, hd⟩
  have hx1 := hx1 (by omega)
  obtain ⟨f0, rfl⟩ := Int.eq_ofNat_of_zero_le hx0
  have HD1 := Lib.hid hd
  clear hd hx0
  go_upto_if 22 with (go_at_call 27; refine (spec_l01Once_calls g 4 _ HD1.out.1 (by omega)).mono ?_; rintro e w2 ⟨b, rfl, hd⟩)
  have HD2 := Lib.hid (HD1.out.trans hd)
  clear hd
  go_cut [8] from 16 to 57 (fun fv wx => ∃ f : Nat, fv = .int .i64 (f : Int) ∧ f ≤ n ∧ Hid (Drawn w g wx))
  case first =>
    cases b
    · go_wp2
      go_meet
      case rel => exact ⟨0, rfl, Nat.zero_le _, HD2⟩
    · go_wp2
      go_meet
      case rel => exact ⟨f0, rfl, by omega, HD2⟩
  case rest =>
    clear HD1 HD2
    obtain ⟨f, rfl, hfn, HD2⟩ := hcut
    obtain ⟨r, s0, hh, hht, hup0⟩ := segStart hn hfn
    have HHH := Lib.hid hh
    have HHT := Lib.hid hht
    have HUP := Lib.hid (hup0 q)
    have hs0 := (hup0 q).size
    clear hh hht hup0
    go_wp2_with fail
    go_at_call 56
    refine (spec_HeadText_calls (n : Int) (f : Int) _).mono ?_
    rw [HHT.out]
    simp only [varRes, bs_ub]
    rintro e w3 ⟨rfl, hb⟩
    have HD3 := Lib.hid (HD2.out.below HGL.out hb)
    clear hb
    go_wp2
    go_loopw [2, 9, 11] (fun qv sv iv wr => ∃ (i : Nat) (q' : Int) (s : ByteArray), iv = .int .i64 (i : Int) ∧ i ≤ 3 ∧ qv = .int .i64 q' ∧ q ≤ q' ∧ q' ≤ q + 2 * i ∧ sv = .string s ∧ Hid (SegUp r q' i s) ∧ Hid (Drawn w g wr)) (fun _ _ iv _ => 4 - (intOf iv).toNat)
    case atStart => exact ⟨0, q, s0, rfl, by omega, rfl, by omega, by omega, rfl, HUP, HD3⟩
    case round =>
      obtain ⟨i, q', s, rfl, hi3, rfl, hq2, hq3, rfl, HU, HD⟩ := hrel
      have hss := HU.out.size
      go_wp2_with fail
      go_at_call 34
      refine (spec_l01Below_calls g 4 _ HD.out.1 (by omega)).mono ?_
      rintro e w4 ⟨x, rfl, hx0, hx1, _, hd⟩
      have hx1 := hx1 (by omega)
      have HD4 := Lib.hid (HD.out.trans hd)
      clear hd
      by_cases hlt : (i : Int) < x
      · go_wp2_with fail
        go_at_call 72
        refine (spec_l05List_calls g _ HD4.out.1).mono ?_
        rintro e w5 ⟨cs, v, rfl, ho, _, hcl, hfw, hd⟩
        obtain ⟨A', c', rfl, hr⟩ := ho.row (fun x hx => by have := hfw x hx; omega)
        have HR := Lib.hid hr
        have HD5 := Lib.hid (HD4.out.trans hd)
        obtain ⟨t, b1, fl, b2, hvt, hts, hvf, hfs, hup⟩ := segStep HU.out hfw hcl
        have HVT := Lib.hid hvt
        have HVF := Lib.hid hvf
        have HUP2 := Lib.hid hup
        clear ho hfw hd hr hvt hvf hup
        go_wp2_with fail
        go_at_call 71
        refine (spec_BatchText_calls q' A' c' cs _ HR.out).mono ?_
        rw [HVT.out]
        rintro e w6 ⟨rfl, hb⟩
        have HD6 := Lib.hid (HD5.out.below HGL.out hb)
        clear hb
        go_wp2_with fail
        go_at_call 69
        refine (spec_Frame_calls t _ (by omega)).mono ?_
        rw [HVF.out]
        rintro e w7 ⟨rfl, hb⟩
        have HD7 := Lib.hid (HD6.out.below HGL.out hb)
        clear hb
        go_wp2_with fail
        go_at_call 34
        refine (spec_l01Below_calls g 2 _ HD7.out.1 (by omega)).mono ?_
        rintro e w8 ⟨y, rfl, hy0, hy1, _, hd⟩
        have hy1 := hy1 (by omega)
        have HD8 := Lib.hid (HD7.out.trans hd)
        have HU8 := Lib.hid (HUP2.out (q' + 1 + y) (by omega))
        clear hd
        go_wp2
        go_roundw
        case rel => first | exact ⟨i + 1, q' + 1 + y, s ++ fl, by go_num, by omega, rfl, by omega, by omega, rfl, HU8, HD8⟩ | (repeat (first | (refine ⟨?relx, rfl⟩; exact ⟨i + 1, q' + 1 + y, s ++ fl, by go_num, by omega, rfl, by omega, by omega, rfl, HU8, HD8⟩) | (refine ⟨?relx, ?eqs⟩; (case eqs => (and_intros <;> rfl)); exact ⟨i + 1, q' + 1 + y, s ++ fl, by go_num, by omega, rfl, by omega, by omega, rfl, HU8, HD8⟩) | apply Exists.intro))
        case measure => simp [intOf]; omega
      · go_wp2
        go_ret2
        obtain ⟨rs, ds, hst⟩ := HU.out.done HHH.out (by omega)
        exact ⟨s, r, f, rs, ds, q', rfl, hst, hq2, by omega, HD4.out⟩
end Go.Proofs.Ytdkdlgioabjldaa
