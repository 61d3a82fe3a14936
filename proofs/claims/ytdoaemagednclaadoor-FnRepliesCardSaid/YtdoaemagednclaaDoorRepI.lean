/- Replies, the program's: replyAt, ReplyAt, Replies. -/
import Derived.Test.YtdoaemagednclaaDoorRepL
import Derived.Test.YtdoaemagednclaaDoorDec2
import Derived.Test.YtdoaemagednclaaDoorOwn
import Derived.Test.YtdoaemagednclaaDoorShelf
namespace Go.Proofs.YtdoaemagednclaaDoor
set_option linter.unusedVariables false
set_option linter.unusedSimpArgs false
open Go.RowKit
attribute [local go_sem] bs_size List.length_cons List.length_nil List.length_append

/-- internal/bytealg.MaxLen holds some number. -/
def MaxAt (w : World) : Prop := 1 < w.heap.size ∧ ∃ m : Int, w.cell? ⟨1, 0, none⟩ = some (.int .i64 m)
theorem MaxAt.below {w w' : World} {B : Nat} (h : MaxAt w) (hb : Below B w w') (hB : 1 < B) : MaxAt w' := by
  obtain ⟨h1, m, h2⟩ := h
  exact ⟨Nat.lt_of_lt_of_le h1 hb.size, m, (hb.cell hB).trans h2⟩
/-- What the readings of replies need of the world. -/
structure RepW (w : World) : Prop where
  pow : Pow w
  sent : Sent w
  mx : MaxAt w
theorem RepW.below {w w' : World} (h : RepW w) (hb : Below w.heap.size w w') : RepW w' := ⟨h.pow.below hb, h.sent.below hb h.sent.big, h.mx.below hb h.mx.1⟩
theorem tail_drop (s : ByteArray) (a k : Nat) : (tail_ s a).drop k = tail_ s (a + k) := by unfold tail_; rw [List.drop_drop]
theorem tail_empty {s : ByteArray} {a : Nat} (h : s.size ≤ a) : tail_ s a = [] := List.eq_nil_of_length_eq_zero (by rw [tail_len]; omega)
theorem extract_end (s : ByteArray) (a : Nat) : s.extract a s.size = bs (tail_ s a) := by
  rw [bs_extract]
  congr 1
  rw [tail_, ← ub_length, List.take_length]
theorem tail_cons {s : ByteArray} {a d : Nat} (h : (tail_ s a)[0]? = some (UInt8.ofNat d)) : tail_ s a = UInt8.ofNat d :: tail_ s (a + 1) := by
  have e := tail_drop s a 1
  cases ht : tail_ s a with
  | nil => rw [ht] at h; simp at h
  | cons c r =>
    rw [ht] at h e
    obtain rfl : c = UInt8.ofNat d := by simpa using h
    rw [← e]
    rfl
/-- What a reading of a reply at a leaves. -/
def AtPost (a : Nat) (o : Option Nat) (e : Ending) : Prop := match o with
  | some u => e = .returned (.tuple #[.int .i64 ((a + u : Nat) : Int), .bool true])
  | none => ∃ n : Int, e = .returned (.tuple #[.int .i64 n, .bool false])
theorem atPost_none {a : Nat} {o : Option Nat} {n : Int} (h : o = none) : AtPost a o (.returned (.tuple #[.int .i64 n, .bool false])) := by subst h; exact ⟨n, rfl⟩
theorem atPost_some {a : Nat} {o : Option Nat} {u : Nat} {n : Int} (h : o = some u) (hn : n = ((a + u : Nat) : Int)) : AtPost a o (.returned (.tuple #[.int .i64 n, .bool true])) := by subst h hn; exact rfl
theorem atPost_bool {a : Nat} {o : Option Nat} {u : Nat} {n : Int} {b : Bool} (h : o = if b = true then some u else none) (hn : n = ((a + u : Nat) : Int)) : AtPost a o (.returned (.tuple #[.int .i64 n, .bool b])) := by
  cases b
  · exact atPost_none h
  · exact atPost_some h hn
theorem ofNat_iff {d e : Nat} (hd : d < 256) (c : UInt8) (hc : c.toNat = e) : UInt8.ofNat d = c ↔ d = e := by
  rw [← UInt8.toNat_inj, hc, UInt8.toNat_ofNat']
  omega
theorem line_sign {num : List UInt8 → Bool} {arr : Nat → List UInt8 → Option Nat} {r : List UInt8} {m d : Nat} (h : d = 43 ∨ d = 45) : repLine num arr (UInt8.ofNat d) r m = some (m + 3) := by
  unfold repLine
  rcases h with rfl | rfl
  · rw [if_pos (.inl rfl)]
  · rw [if_pos (.inr rfl)]
theorem line_num {num : List UInt8 → Bool} {arr : Nat → List UInt8 → Option Nat} {r : List UInt8} {m : Nat} : repLine num arr (UInt8.ofNat 58) r m = if num (r.take m) = true then some (m + 3) else none := by
  unfold repLine
  rw [if_neg (by decide), if_pos (by decide)]
theorem line_bulk {num : List UInt8 → Bool} {arr : Nat → List UInt8 → Option Nat} {r : List UInt8} {m : Nat} : repLine num arr (UInt8.ofNat 36) r m = if r.take m = [45, 49] then some (m + 3) else (decOf (r.take m)).bind fun n => if (r.drop (m + 2 + n)).take 2 = [13, 10] then some (m + 3 + n + 2) else none := by
  unfold repLine
  rw [if_neg (by decide), if_neg (by decide), if_pos (by decide)]
theorem line_arr {num : List UInt8 → Bool} {arr : Nat → List UInt8 → Option Nat} {r : List UInt8} {m : Nat} : repLine num arr (UInt8.ofNat 42) r m = (decOf (r.take m)).bind fun n => (arr n (r.drop (m + 2))).map (m + 3 + ·) := by
  unfold repLine
  rw [if_neg (by decide), if_neg (by decide), if_neg (by decide), if_pos (by decide)]
theorem line_other {num : List UInt8 → Bool} {arr : Nat → List UInt8 → Option Nat} {r : List UInt8} {m d : Nat} (hd : d < 256) (h : d ≠ 43 ∧ d ≠ 45 ∧ d ≠ 58 ∧ d ≠ 36 ∧ d ≠ 42) : repLine num arr (UInt8.ofNat d) r m = none := by
  unfold repLine
  rw [if_neg, if_neg, if_neg, if_neg]
  · exact fun e => h.2.2.2.2 ((ofNat_iff hd 42 rfl).1 e)
  · exact fun e => h.2.2.2.1 ((ofNat_iff hd 36 rfl).1 e)
  · exact fun e => h.2.2.1 ((ofNat_iff hd 58 rfl).1 e)
  · rintro (e | e)
    · exact h.1 ((ofNat_iff hd 43 rfl).1 e)
    · exact h.2.1 ((ofNat_iff hd 45 rfl).1 e)
theorem bs_toList (l : List UInt8) : (bs l).toList = l := by rw [ByteArray.toList_eq]; rfl
/-- A number behind ':': what Atoi tells of it. -/
theorem numI_bad {l : List UInt8} (h : ∀ v, Lib.atoiAll l ≠ .ok v) : numI l = false := by
  unfold numI
  split
  · rename_i v hv
    exact (h v hv).elim
  · rfl
theorem numI_ok {l : List UInt8} {v : Int} (h : Lib.atoiAll l = .ok v) : numI l = decide (Lib.itoa v = l) := by
  unfold numI
  rw [h]
/-- i of n things are read, u bytes. -/
def MRel (f : List UInt8 → Option Nat) (n : Nat) (L : List UInt8) (i u : Nat) : Prop := manyB f n L = (manyB f (n - i) (L.drop u)).map (u + ·)
theorem MRel.zero (f : List UInt8 → Option Nat) (n : Nat) (L : List UInt8) : MRel f n L 0 0 := by
  unfold MRel
  rw [Nat.sub_zero, List.drop_zero]
  cases manyB f n L <;> simp
theorem MRel.step {f : List UInt8 → Option Nat} {n i u v : Nat} {L : List UInt8} (h : MRel f n L i u) (hi : i < n) (hf : f (L.drop u) = some v) : MRel f n L (i + 1) (u + v) := by
  unfold MRel at h ⊢
  rw [h, show n - i = n - (i + 1) + 1 by omega, manyB, hf]
  dsimp only
  rw [List.drop_drop]
  cases manyB f (n - (i + 1)) (L.drop (u + v)) <;> simp [Nat.add_assoc]
theorem MRel.stop {f : List UInt8 → Option Nat} {n i u : Nat} {L : List UInt8} (h : MRel f n L i u) (hi : i < n) (hf : f (L.drop u) = none) : manyB f n L = none := by
  unfold MRel at h
  rw [h, show n - i = n - (i + 1) + 1 by omega, manyB, hf]
  rfl
theorem MRel.all {f : List UInt8 → Option Nat} {n u : Nat} {L : List UInt8} (h : MRel f n L n u) : manyB f n L = some u := by
  unfold MRel at h
  rw [h, Nat.sub_self]
  rfl
/-- replyAt, below a depth. -/
def AtCalls (k : Nat) : Prop := ∀ (s : ByteArray) (a : Nat) (dp : Int) (w : World), dp = 4 - (k : Int) → a ≤ s.size → s.size ≤ 1048576 → RepW w →
  Calls Tryd.prog 29 #[.string s, .int .i64 (a : Int), .int .i64 dp] w fun e w' => AtPost a (repB numI k (tail_ s a)) e ∧ Below w.heap.size w w'
set_option maxHeartbeats 4000000 in
set_option maxRecDepth 100000 in
theorem replyAt_none (k : Nat) (s : ByteArray) (a : Nat) (dp : Int) (w : World) (hlt : ¬ a < s.size) (ha : a ≤ s.size) : Calls Tryd.prog 29 #[.string s, .int .i64 (a : Int), .int .i64 dp] w fun e w' => AtPost a (repB numI k (tail_ s a)) e ∧ Below w.heap.size w w' := by
  have HR : Hid (repB numI k (tail_ s a) = none) := by
    rw [Hid, tail_empty (by omega)]
    cases k <;> rfl
  go_enter Tryd.func29, Tryd.ntmps29
  go_wp2
  go_ret2
  exact ⟨atPost_none HR.out, Below.refl _ _⟩
set_option maxHeartbeats 8000000 in
set_option maxRecDepth 100000 in
theorem replyAt_step (k : Nat) (hk : k ≤ 4) (hi : k = 0 ∨ ∃ j, k = j + 1 ∧ AtCalls j) : AtCalls k := by
  intro s a dp w hdp ha hs hW
  by_cases hlt : a < s.size
  · obtain ⟨arr, harr, hcase⟩ := repB_is numI k
    obtain ⟨d, hd, hsd, hc, hcd⟩ := tail_byte (s := s) (a := a) (i := 0) (by omega)
    have hsd' : (s[a]'hlt).toNat = d := hsd
    have hi0 : (0 : Int) ≤ (a : Int) := by omega
    have hi1 : (a : Int) < (s.size : Int) := by omega
    have htc := tail_cons hc
    have hsl : s.extract (a + 1) s.size = bs (tail_ s (a + 1)) := extract_end s _
    have hrl := tail_len s (a + 1)
    have hgd : ∀ n, (tail_ s (a + 1)).drop n = tail_ s (a + 1 + n) := tail_drop s (a + 1)
    have HGD := Lib.hid hgd
    have ht : ((a : Int) + 1).toNat = a + 1 := by omega
    have hb0 : (0 : Int) ≤ (a : Int) + 1 := by omega
    have hb1 : (a : Int) + 1 ≤ (s.size : Int) := by omega
    have hw1 : IntKind.i64.wrap ((a : Int) + 1) = (a : Int) + 1 := by rw [IntKind.wrap_i64]; omega
    have HRB : Hid (repB numI k (tail_ s a) = (lnB (tail_ s (a + 1))).bind (repLine numI arr (UInt8.ofNat d) (tail_ s (a + 1)))) := by rw [Hid, harr, htc]; rfl
    have HW := Lib.hid hW
    obtain ⟨hM1, mx, hM2⟩ := hW.mx
    have HCASE := Lib.hid hcase
    have HI := Lib.hid hi
    have HDP := Lib.hid hdp
    have hdk0 : 0 ≤ dp := by omega
    have hdk4 : dp ≤ 4 := by omega
    have HK := Lib.hid hk
    have HCU := Lib.hid (cut_crlf (tail_ s (a + 1)))
    clear hcd hgd htc hc hsd hW hcase hi harr hdp hk
    generalize tail_ s (a + 1) = r at HRB hsl hrl HGD HCU
    have hrs : (bs r).size ≤ 1048576 := by rw [bs_size]; omega
    cases hln : lnB r with
    | none =>
      have HR : Hid (repB numI k (tail_ s a) = none) := by rw [Hid, HRB.out, hln]; rfl
      have HC : Hid (Lib.cut r [13, 10] = (r, [], false)) := by rw [Hid, HCU.out, hln]
      clear hln
      go_enter Tryd.func29, Tryd.ntmps29
      go_wp2_with fail
      go_at_call 48
      refine (Tryd.strings_Cut (bs r) _ mx _ (by omega) hM2).mono ?_
      rw [show Lib.cut (bs r).data.toList (⟨#[13, 10]⟩ : ByteArray).data.toList = _ from HC.out]
      dsimp only
      rintro e w' ⟨rfl, n, rfl⟩
      go_wp2
      go_ret2
      exact ⟨atPost_none HR.out, blwN (Below.refl _ _) n⟩
    | some m =>
      have hm := lnB_spec hln
      have HR : Hid (repB numI k (tail_ s a) = repLine numI arr (UInt8.ofNat d) r m) := by rw [Hid, HRB.out, hln]; rfl
      have HC : Hid (Lib.cut r [13, 10] = (r.take m, r.drop (m + 2), true)) := by rw [Hid, HCU.out, hln]
      have hml : m + 2 ≤ r.length := hm.1
      have htl : (r.take m).length = m := by rw [List.length_take]; omega
      clear hln hm
      by_cases hd1 : d = 43 ∨ d = 45
      · have HR1 := Lib.hid (HR.out.trans (line_sign hd1))
        rcases hd1 with rfl | rfl
        all_goals
          go_enter Tryd.func29, Tryd.ntmps29
          go_wp2_with fail
          go_at_call 48
          refine (Tryd.strings_Cut (bs r) _ mx _ (by omega) hM2).mono ?_
          rw [show Lib.cut (bs r).data.toList (⟨#[13, 10]⟩ : ByteArray).data.toList = _ from HC.out]
          dsimp only
          rintro e w' ⟨rfl, n, rfl⟩
          rw [lit_bs]
          go_wp2
          go_ret2
          exact ⟨atPost_some HR1.out (by omega), blwN (Below.refl _ _) n⟩
      · by_cases hd2 : d = 58
        · subst hd2
          have HR2 := Lib.hid (HR.out.trans line_num)
          have HWN : Hid (∀ n, RepW (w.drewN n)) := fun n => HW.out.below (blwN (Below.refl _ _) n)
          have HH : Hid (ub (bs (r.take m)) = r.take m) := ub_bs _
          have hhs : (bs (r.take m)).size ≤ 1048576 := by rw [bs_size]; omega
          cases hat : Lib.atoiAll (bs (r.take m)).data.toList
          · rename_i v
            have hv := atoi_bound hat
            have HA := Lib.hid hat
            have HNI : Hid (numI (r.take m) = decide (Lib.itoa v = r.take m)) := numI_ok (by have h2 := hat; rw [show (bs (r.take m)).data.toList = r.take m from ub_bs _] at h2; exact h2)
            clear hat
            by_cases he : Lib.itoa v = r.take m
            · have HRN : Hid (repB numI k (tail_ s a) = some (m + 3)) := by rw [Hid, HR2.out, HNI.out, decide_eq_true he, if_pos rfl]
              have HX : Hid (bs (Lib.itoa v) = bs (r.take m)) := by rw [Hid, he]
              clear he
              go_enter Tryd.func29, Tryd.ntmps29
              go_wp2_with fail
              go_at_call 48
              refine (Tryd.strings_Cut (bs r) _ mx _ (by omega) hM2).mono ?_
              rw [show Lib.cut (bs r).data.toList (⟨#[13, 10]⟩ : ByteArray).data.toList = _ from HC.out]
              dsimp only
              rintro e w' ⟨rfl, n, rfl⟩
              rw [lit_bs]
              go_wp2_with fail
              go_at_call 49
              refine (Tryd.atoi_ok _ (by omega) v HA.out _).mono ?_
              rintro e w' ⟨rfl, hw⟩
              have HB : Hid (Below (w.drewN n).heap.size (w.drewN n) w') := by
                rcases hw with rfl | ⟨t, rfl⟩
                · exact Below.refl _ _
                · exact Lib.bytesWorld_below _ _ _
              clear hw
              go_wp2_with fail
              go_at_call 27
              refine (impl_Decimal_calls _ _ (by omega) (by omega) ((HWN.out n).pow.below HB.out)).mono ?_
              rw [HX.out]
              rintro e w2 ⟨rfl, hb2⟩
              have HB2 : Hid (Below w.heap.size w w2) := ((blwN (Below.refl _ _) n).trans HB.out).trans (hb2.mono ((blwN (Below.refl w.heap.size w) n).trans HB.out).size)
              clear hb2
              go_wp2
              go_ret2
              exact ⟨atPost_some HRN.out (by omega), HB2.out⟩
            · have HRN : Hid (repB numI k (tail_ s a) = none) := by rw [Hid, HR2.out, HNI.out, decide_eq_false he, if_neg (by simp)]
              obtain ⟨X, HX⟩ : ∃ X, Hid (bs (Lib.itoa v) = X) := ⟨_, rfl⟩
              have hq : (X.toList == (bs (r.take m)).toList) = false := beq_eq_false_iff_ne.mpr fun z => he (by
                have h2 := toList_inj.mp z
                rw [← HX.out] at h2
                exact bs_inj h2)
              clear he
              go_enter Tryd.func29, Tryd.ntmps29
              go_wp2_with fail
              go_at_call 48
              refine (Tryd.strings_Cut (bs r) _ mx _ (by omega) hM2).mono ?_
              rw [show Lib.cut (bs r).data.toList (⟨#[13, 10]⟩ : ByteArray).data.toList = _ from HC.out]
              dsimp only
              rintro e w' ⟨rfl, n, rfl⟩
              rw [lit_bs]
              go_wp2_with fail
              go_at_call 49
              refine (Tryd.atoi_ok _ (by omega) v HA.out _).mono ?_
              rintro e w' ⟨rfl, hw⟩
              have HB : Hid (Below (w.drewN n).heap.size (w.drewN n) w') := by
                rcases hw with rfl | ⟨t, rfl⟩
                · exact Below.refl _ _
                · exact Lib.bytesWorld_below _ _ _
              clear hw
              go_wp2_with fail
              go_at_call 27
              refine (impl_Decimal_calls _ _ (by omega) (by omega) ((HWN.out n).pow.below HB.out)).mono ?_
              rw [HX.out]
              rintro e w2 ⟨rfl, hb2⟩
              have HB2 : Hid (Below w.heap.size w w2) := ((blwN (Below.refl _ _) n).trans HB.out).trans (hb2.mono ((blwN (Below.refl w.heap.size w) n).trans HB.out).size)
              clear hb2
              go_wp2
              go_ret2
              exact ⟨atPost_none HRN.out, HB2.out⟩
          · have HRN : Hid (repB numI k (tail_ s a) = none) := by rw [Hid, HR2.out, numI_bad (fun v e => by rw [show (bs (r.take m)).data.toList = r.take m from ub_bs _] at hat; rw [hat] at e; cases e), if_neg (by simp)]
            obtain ⟨ev, hv, hk⟩ := HW.out.sent.syn
            have HA : Hid ((∀ v, Lib.atoiAll (bs (r.take m)).data.toList ≠ .ok v) ∧ Lib.atoiAll (bs (r.take m)).data.toList ≠ .range) := ⟨fun v e => by (rw [hat] at e; cases e), fun e => by (rw [hat] at e; cases e)⟩
            have HV : Hid (∀ n, (w.drewN n).cell? ⟨2, 0, none⟩ = some ev) := fun n => hv
            clear hat hv
            go_enter Tryd.func29, Tryd.ntmps29
            go_wp2_with fail
            go_at_call 48
            refine (Tryd.strings_Cut (bs r) _ mx _ (by omega) hM2).mono ?_
            rw [show Lib.cut (bs r).data.toList (⟨#[13, 10]⟩ : ByteArray).data.toList = _ from HC.out]
            dsimp only
            rintro e w' ⟨rfl, n, rfl⟩
            rw [lit_bs]
            go_wp2_with fail
            go_at_call 49
            refine (Tryd.atoi_bad _ (by omega) HA.out.1 HA.out.2 ev _ (HV.out n) hk).mono ?_
            rintro e w1 ⟨N, rfl, -, -, hb⟩
            go_wp2
            go_ret2
            exact ⟨atPost_none HRN.out, (blwN (Below.refl _ _) n).trans hb⟩
          · have HRN : Hid (repB numI k (tail_ s a) = none) := by rw [Hid, HR2.out, numI_bad (fun v e => by rw [show (bs (r.take m)).data.toList = r.take m from ub_bs _] at hat; rw [hat] at e; cases e), if_neg (by simp)]
            obtain ⟨ev, hv, hk⟩ := HW.out.sent.ran
            have HA := Lib.hid hat
            have HV : Hid (∀ n, (w.drewN n).cell? ⟨3, 0, none⟩ = some ev) := fun n => hv
            clear hat hv
            go_enter Tryd.func29, Tryd.ntmps29
            go_wp2_with fail
            go_at_call 48
            refine (Tryd.strings_Cut (bs r) _ mx _ (by omega) hM2).mono ?_
            rw [show Lib.cut (bs r).data.toList (⟨#[13, 10]⟩ : ByteArray).data.toList = _ from HC.out]
            dsimp only
            rintro e w' ⟨rfl, n, rfl⟩
            rw [lit_bs]
            go_wp2_with fail
            go_at_call 49
            refine (Tryd.atoi_range _ (by omega) HA.out ev _ (HV.out n) hk).mono ?_
            rintro e w1 ⟨N, rfl, -, -, hb⟩
            go_wp2
            go_ret2
            exact ⟨atPost_none HRN.out, (blwN (Below.refl _ _) n).trans hb⟩
        · by_cases hd3 : d = 36
          · subst hd3
            have HR3 := Lib.hid (HR.out.trans line_bulk)
            have HH : Hid (ub (bs (r.take m)) = r.take m) := ub_bs _
            have hhs : (bs (r.take m)).size ≤ 1048576 := by rw [bs_size]; omega
            by_cases hmin : r.take m = [45, 49]
            · have HRN : Hid (repB numI k (tail_ s a) = some (m + 3)) := by rw [Hid, HR3.out, if_pos hmin]
              have hq : ((bs (r.take m)).toList == [45, 49]) = true := by rw [bs_toList, hmin]; rfl
              clear hmin
              go_enter Tryd.func29, Tryd.ntmps29
              go_wp2_with fail
              go_at_call 48
              refine (Tryd.strings_Cut (bs r) _ mx _ (by omega) hM2).mono ?_
              rw [show Lib.cut (bs r).data.toList (⟨#[13, 10]⟩ : ByteArray).data.toList = _ from HC.out]
              dsimp only
              rintro e w' ⟨rfl, nd, rfl⟩
              rw [lit_bs]
              go_wp2
              go_ret2
              exact ⟨atPost_some HRN.out (by omega), blwN (Below.refl _ _) nd⟩
            · have hq : ((bs (r.take m)).toList == [45, 49]) = false := by rw [bs_toList]; exact beq_eq_false_iff_ne.mpr hmin
              have HRM : Hid (repB numI k (tail_ s a) = (decOf (r.take m)).bind fun n => if (r.drop (m + 2 + n)).take 2 = [13, 10] then some (m + 3 + n + 2) else none) := by rw [Hid, HR3.out, if_neg hmin]
              clear hmin
              cases hde : decOf (r.take m) with
              | none =>
                have HRN : Hid (repB numI k (tail_ s a) = none) := by rw [Hid, HRM.out, hde]; rfl
                have HDE := Lib.hid hde
                clear hde
                go_enter Tryd.func29, Tryd.ntmps29
                go_wp2_with fail
                go_at_call 48
                refine (Tryd.strings_Cut (bs r) _ mx _ (by omega) hM2).mono ?_
                rw [show Lib.cut (bs r).data.toList (⟨#[13, 10]⟩ : ByteArray).data.toList = _ from HC.out]
                dsimp only
                rintro e w' ⟨rfl, nd, rfl⟩
                rw [lit_bs]
                have HWD := Lib.hid (HW.out.below (blwN (Below.refl w.heap.size w) nd))
                go_wp2_with fail
                go_at_call 50
                refine (impl_ReadDecimal_calls _ _ (by omega) HWD.out.pow HWD.out.sent).mono ?_
                rw [HH.out, HDE.out]
                rintro e w1 ⟨rfl, hb⟩
                have HB1 : Hid (Below w.heap.size w w1) := (blwN (Below.refl _ _) nd).trans hb
                clear hb
                simp only [rdRes]
                go_wp2
                go_ret2
                exact ⟨atPost_none HRN.out, HB1.out⟩
              | some n =>
                have hn9 := (decOf_spec hde).1
                have HRQ : Hid (repB numI k (tail_ s a) = if (tail_ s (a + 1 + (m + 2 + n))).take 2 = [13, 10] then some (m + 3 + n + 2) else none) := by rw [Hid, HRM.out, hde, Option.bind_some, HGD.out]
                have HDE := Lib.hid hde
                have htn := tail_len s (a + 1 + (m + 2 + n))
                clear hde
                by_cases hfit : a + 1 + (m + 2 + n) + 2 ≤ s.size
                · have hex := extract_tail s (a + 1 + (m + 2 + n)) 2
                  have ht1 : ((a : Int) + 1 + (m : Int) + 2 + (n : Int)).toNat = a + 1 + (m + 2 + n) := by omega
                  have ht2 : ((a : Int) + 1 + (m : Int) + 2 + (n : Int) + 2).toNat = a + 1 + (m + 2 + n) + 2 := by omega
                  have hf0 : ¬ (s.size : Int) - ((a : Int) + 1 + (m : Int) + 2) - 2 < (n : Int) := by omega
                  have hf1 : (0 : Int) ≤ (a : Int) + 1 + (m : Int) + 2 + (n : Int) := by omega
                  have hf2 : (a : Int) + 1 + (m : Int) + 2 + (n : Int) ≤ (a : Int) + 1 + (m : Int) + 2 + (n : Int) + 2 := by omega
                  have hf3 : (a : Int) + 1 + (m : Int) + 2 + (n : Int) + 2 ≤ (s.size : Int) := by omega
                  by_cases hcr : (tail_ s (a + 1 + (m + 2 + n))).take 2 = [13, 10]
                  · have HRN : Hid (repB numI k (tail_ s a) = some (m + 3 + n + 2)) := by rw [Hid, HRQ.out, if_pos hcr]
                    have hq2 : ((bs ((tail_ s (a + 1 + (m + 2 + n))).take 2)).toList == [13, 10]) = true := by rw [bs_toList, hcr]; rfl
                    clear hcr htn
                    generalize bs ((tail_ s (a + 1 + (m + 2 + n))).take 2) = Y at hex hq2
                    generalize hP : a + 1 + (m + 2 + n) = P at hex ht1 ht2
                    clear hP
                    go_enter Tryd.func29, Tryd.ntmps29
                    go_wp2_with fail
                    go_at_call 48
                    refine (Tryd.strings_Cut (bs r) _ mx _ (by omega) hM2).mono ?_
                    rw [show Lib.cut (bs r).data.toList (⟨#[13, 10]⟩ : ByteArray).data.toList = _ from HC.out]
                    dsimp only
                    rintro e w' ⟨rfl, nd, rfl⟩
                    rw [lit_bs]
                    have HWD := Lib.hid (HW.out.below (blwN (Below.refl w.heap.size w) nd))
                    go_wp2_with fail
                    go_at_call 50
                    refine (impl_ReadDecimal_calls _ _ (by omega) HWD.out.pow HWD.out.sent).mono ?_
                    rw [HH.out, HDE.out]
                    rintro e w1 ⟨rfl, hb⟩
                    have HB1 : Hid (Below w.heap.size w w1) := (blwN (Below.refl _ _) nd).trans hb
                    clear hb
                    simp only [rdRes]
                    go_wp2
                    go_ret2
                    exact ⟨atPost_some HRN.out (by omega), HB1.out⟩
                  · have HRN : Hid (repB numI k (tail_ s a) = none) := by rw [Hid, HRQ.out, if_neg hcr]
                    have hq2 : ((bs ((tail_ s (a + 1 + (m + 2 + n))).take 2)).toList == [13, 10]) = false := by rw [bs_toList]; exact beq_eq_false_iff_ne.mpr hcr
                    clear hcr htn
                    generalize bs ((tail_ s (a + 1 + (m + 2 + n))).take 2) = Y at hex hq2
                    generalize hP : a + 1 + (m + 2 + n) = P at hex ht1 ht2
                    clear hP
                    go_enter Tryd.func29, Tryd.ntmps29
                    go_wp2_with fail
                    go_at_call 48
                    refine (Tryd.strings_Cut (bs r) _ mx _ (by omega) hM2).mono ?_
                    rw [show Lib.cut (bs r).data.toList (⟨#[13, 10]⟩ : ByteArray).data.toList = _ from HC.out]
                    dsimp only
                    rintro e w' ⟨rfl, nd, rfl⟩
                    rw [lit_bs]
                    have HWD := Lib.hid (HW.out.below (blwN (Below.refl w.heap.size w) nd))
                    go_wp2_with fail
                    go_at_call 50
                    refine (impl_ReadDecimal_calls _ _ (by omega) HWD.out.pow HWD.out.sent).mono ?_
                    rw [HH.out, HDE.out]
                    rintro e w1 ⟨rfl, hb⟩
                    have HB1 : Hid (Below w.heap.size w w1) := (blwN (Below.refl _ _) nd).trans hb
                    clear hb
                    simp only [rdRes]
                    go_wp2
                    go_ret2
                    exact ⟨atPost_none HRN.out, HB1.out⟩
                · have HRN : Hid (repB numI k (tail_ s a) = none) := by
                    rw [Hid, HRQ.out, if_neg]
                    intro e
                    have := congrArg List.length e
                    rw [List.length_take, htn] at this
                    simp only [List.length_cons, List.length_nil] at this
                    omega
                  have hf0 : (s.size : Int) - ((a : Int) + 1 + (m : Int) + 2) - 2 < (n : Int) := by omega
                  clear htn
                  go_enter Tryd.func29, Tryd.ntmps29
                  go_wp2_with fail
                  go_at_call 48
                  refine (Tryd.strings_Cut (bs r) _ mx _ (by omega) hM2).mono ?_
                  rw [show Lib.cut (bs r).data.toList (⟨#[13, 10]⟩ : ByteArray).data.toList = _ from HC.out]
                  dsimp only
                  rintro e w' ⟨rfl, nd, rfl⟩
                  rw [lit_bs]
                  have HWD := Lib.hid (HW.out.below (blwN (Below.refl w.heap.size w) nd))
                  go_wp2_with fail
                  go_at_call 50
                  refine (impl_ReadDecimal_calls _ _ (by omega) HWD.out.pow HWD.out.sent).mono ?_
                  rw [HH.out, HDE.out]
                  rintro e w1 ⟨rfl, hb⟩
                  have HB1 : Hid (Below w.heap.size w w1) := (blwN (Below.refl _ _) nd).trans hb
                  clear hb
                  simp only [rdRes]
                  go_wp2
                  go_ret2
                  exact ⟨atPost_none HRN.out, HB1.out⟩
          · by_cases hd4 : d = 42
            · subst hd4
              have HR3 := Lib.hid (HR.out.trans line_arr)
              have HH : Hid (ub (bs (r.take m)) = r.take m) := ub_bs _
              have hhs : (bs (r.take m)).size ≤ 1048576 := by rw [bs_size]; omega
              cases hde : decOf (r.take m) with
              | none =>
                have HRN : Hid (repB numI k (tail_ s a) = none) := by rw [Hid, HR3.out, hde]; rfl
                have HDE := Lib.hid hde
                clear hde
                go_enter Tryd.func29, Tryd.ntmps29
                go_wp2_with fail
                go_at_call 48
                refine (Tryd.strings_Cut (bs r) _ mx _ (by omega) hM2).mono ?_
                rw [show Lib.cut (bs r).data.toList (⟨#[13, 10]⟩ : ByteArray).data.toList = _ from HC.out]
                dsimp only
                rintro e w' ⟨rfl, nd, rfl⟩
                rw [lit_bs]
                have HWD := Lib.hid (HW.out.below (blwN (Below.refl w.heap.size w) nd))
                go_wp2_with fail
                go_at_call 50
                refine (impl_ReadDecimal_calls _ _ (by omega) HWD.out.pow HWD.out.sent).mono ?_
                rw [HH.out, HDE.out]
                rintro e w1 ⟨rfl, hb⟩
                have HB1 : Hid (Below w.heap.size w w1) := (blwN (Below.refl _ _) nd).trans hb
                clear hb
                simp only [rdRes]
                go_wp2
                go_ret2
                exact ⟨atPost_none HRN.out, HB1.out⟩
              | some n =>
                have hn9 := (decOf_spec hde).1
                have HRQ : Hid (repB numI k (tail_ s a) = (arr n (tail_ s (a + m + 3))).map (m + 3 + ·)) := by rw [Hid, HR3.out, hde, Option.bind_some, HGD.out, show a + 1 + (m + 2) = a + m + 3 by omega]
                have HDE := Lib.hid hde
                clear hde
                rcases HCASE.out with ⟨hk0, harr⟩ | ⟨j, hkj, harr⟩
                · have HRN : Hid (repB numI k (tail_ s a) = none) := by rw [Hid, HRQ.out, harr]; rfl
                  have hd4 : dp = 4 := by have := HDP.out; omega
                  clear harr hk0
                  subst hd4
                  go_enter Tryd.func29, Tryd.ntmps29
                  go_wp2_with fail
                  go_at_call 48
                  refine (Tryd.strings_Cut (bs r) _ mx _ (by omega) hM2).mono ?_
                  rw [show Lib.cut (bs r).data.toList (⟨#[13, 10]⟩ : ByteArray).data.toList = _ from HC.out]
                  dsimp only
                  rintro e w' ⟨rfl, nd, rfl⟩
                  rw [lit_bs]
                  have HWD := Lib.hid (HW.out.below (blwN (Below.refl w.heap.size w) nd))
                  go_wp2_with fail
                  go_at_call 50
                  refine (impl_ReadDecimal_calls _ _ (by omega) HWD.out.pow HWD.out.sent).mono ?_
                  rw [HH.out, HDE.out]
                  rintro e w1 ⟨rfl, hb⟩
                  have HB1 : Hid (Below w.heap.size w w1) := (blwN (Below.refl _ _) nd).trans hb
                  clear hb
                  simp only [rdRes]
                  go_wp2
                  go_ret2
                  exact ⟨atPost_none HRN.out, HB1.out⟩
                · have HJ : Hid (AtCalls j) := by
                    rcases HI.out with e | ⟨j', e, h⟩
                    · omega
                    · obtain rfl : j = j' := by omega
                      exact h
                  have hdp3 : dp ≤ 3 := by have := HDP.out; omega
                  have HDJ : Hid (dp + 1 = 4 - (j : Int)) := by (have := HDP.out; rw [Hid]; omega)
                  have HRM : Hid (repB numI k (tail_ s a) = (manyB (repB numI j) n (tail_ s (a + m + 3))).map (m + 3 + ·)) := by rw [Hid, HRQ.out, harr]
                  clear harr hkj
                  go_enter Tryd.func29, Tryd.ntmps29
                  go_wp2_with fail
                  go_at_call 48
                  refine (Tryd.strings_Cut (bs r) _ mx _ (by omega) hM2).mono ?_
                  rw [show Lib.cut (bs r).data.toList (⟨#[13, 10]⟩ : ByteArray).data.toList = _ from HC.out]
                  dsimp only
                  rintro e w' ⟨rfl, nd, rfl⟩
                  rw [lit_bs]
                  have HWD := Lib.hid (HW.out.below (blwN (Below.refl w.heap.size w) nd))
                  go_wp2_with fail
                  go_at_call 50
                  refine (impl_ReadDecimal_calls _ _ (by omega) HWD.out.pow HWD.out.sent).mono ?_
                  rw [HH.out, HDE.out]
                  rintro e w1 ⟨rfl, hb⟩
                  have HB1 : Hid (Below w.heap.size w w1) := (blwN (Below.refl _ _) nd).trans hb
                  clear hb
                  simp only [rdRes]
                  go_wp2_with fail
                  go_loopw [11, 18] (fun ev iv wr => ∃ i u : Nat, i ≤ n ∧ iv = .int .i64 (i : Int) ∧ ev = .int .i64 ((a : Int) + 1 + (m : Int) + 2 + (u : Int)) ∧ a + m + 3 + u ≤ s.size ∧ Hid (MRel (repB numI j) n (tail_ s (a + m + 3)) i u) ∧ Hid (Below w.heap.size w wr)) (fun _ iv _ => n - (intOf iv).toNat)
                  case atStart => exact ⟨0, 0, Nat.zero_le _, rfl, by simp, by omega, MRel.zero _ _ _, HB1.out⟩
                  case round =>
                    obtain ⟨i, u, hin, rfl, rfl, hu, HM, HB⟩ := hrel
                    by_cases hlt : i < n
                    · have hli : (i : Int) < (n : Int) := by omega
                      have HAC := Lib.hid (HJ.out s (a + m + 3 + u) (dp + 1) wr HDJ.out (by omega) hs (HW.out.below HB.out))
                      have HEQ : Hid ((tail_ s (a + m + 3)).drop u = tail_ s (a + m + 3 + u)) := tail_drop s _ _
                      have HTL := Lib.hid (tail_len s (a + m + 3 + u))
                      have hcast : ((a + m + 3 + u : Nat) : Int) = (a : Int) + 1 + (m : Int) + 2 + (u : Int) := by omega
                      rw [hcast] at HAC
                      cases hr : repB numI j (tail_ s (a + m + 3 + u)) with
                      | none =>
                        have HRN : Hid (repB numI k (tail_ s a) = none) := by rw [Hid, HRM.out, HM.out.stop hlt (by rw [HEQ.out]; exact hr)]; rfl
                        rw [hr] at HAC
                        clear hr hcast
                        go_wp2_with fail
                        go_at_call 29
                        refine HAC.out.mono ?_
                        rintro e w2 ⟨⟨q, rfl⟩, hb⟩
                        have HB2 := Lib.hid (HB.out.trans (hb.mono HB.out.size))
                        clear hb
                        go_wp2
                        go_ret2
                        exact ⟨atPost_none HRN.out, HB2.out⟩
                      | some v =>
                        have hv := (repB_reads numI j _ v hr).2.1
                        rw [HTL.out] at hv
                        have HMS := Lib.hid (HM.out.step hlt (by rw [HEQ.out]; exact hr))
                        rw [hr] at HAC
                        have hcast2 : ((a + m + 3 + u + v : Nat) : Int) = (a : Int) + 1 + (m : Int) + 2 + ((u + v : Nat) : Int) := by omega
                        clear hr hcast
                        go_wp2_with fail
                        go_at_call 29
                        refine HAC.out.mono ?_
                        rintro e w2 ⟨he, hb⟩
                        replace he : e = .returned (.tuple #[.int .i64 ((a + m + 3 + u + v : Nat) : Int), .bool true]) := he
                        rw [hcast2] at he
                        subst he
                        have HB2 := Lib.hid (HB.out.trans (hb.mono HB.out.size))
                        clear hb hcast2
                        go_wp2
                        go_roundw
                        case rel => first | exact ⟨i + 1, u + v, by omega, by go_num, by go_num, by omega, HMS, HB2⟩ | (repeat (first | (refine ⟨?relx, rfl⟩; exact ⟨i + 1, u + v, by omega, by go_num, by go_num, by omega, HMS, HB2⟩) | (refine ⟨?relx, ?eqs⟩; (case eqs => (and_intros <;> rfl)); exact ⟨i + 1, u + v, by omega, by go_num, by go_num, by omega, HMS, HB2⟩) | apply Exists.intro))
                        case measure => simp [intOf]; omega
                    · obtain rfl : i = n := by omega
                      have HRN : Hid (repB numI k (tail_ s a) = some (m + 3 + u)) := by rw [Hid, HRM.out, HM.out.all]; rfl
                      go_wp2
                      go_ret2
                      exact ⟨atPost_some HRN.out (by omega), HB.out⟩
            · have HRN := Lib.hid (HR.out.trans (line_other hd ⟨fun e => hd1 (.inl e), fun e => hd1 (.inr e), hd2, hd3, hd4⟩))
              have q1 : ((d : Int) == 43) = false := beq_eq_false_iff_ne.mpr (by omega)
              have q2 : ((d : Int) == 45) = false := beq_eq_false_iff_ne.mpr (by omega)
              have q3 : ((d : Int) == 58) = false := beq_eq_false_iff_ne.mpr (by omega)
              have q4 : ((d : Int) == 36) = false := beq_eq_false_iff_ne.mpr (by omega)
              have q5 : ((d : Int) == 42) = false := beq_eq_false_iff_ne.mpr (by omega)
              clear hd1 hd2 hd3 hd4
              go_enter Tryd.func29, Tryd.ntmps29
              go_wp2_with fail
              go_at_call 48
              refine (Tryd.strings_Cut (bs r) _ mx _ (by omega) hM2).mono ?_
              rw [show Lib.cut (bs r).data.toList (⟨#[13, 10]⟩ : ByteArray).data.toList = _ from HC.out]
              dsimp only
              rintro e w' ⟨rfl, nd, rfl⟩
              rw [lit_bs]
              go_wp2
              go_ret2
              exact ⟨atPost_none HRN.out, blwN (Below.refl _ _) nd⟩
  · exact replyAt_none k s a dp w hlt ha
end Go.Proofs.YtdoaemagednclaaDoor
