/- Replies, the program's: ReplyAt, Replies. -/
import Derived.Test.YtdoaemagednclaaDoorRepI
namespace Go.Proofs.YtdoaemagednclaaDoor
set_option linter.unusedVariables false
set_option linter.unusedSimpArgs false
open Go.RowKit
attribute [local go_sem] bs_size List.length_cons List.length_nil List.length_append

/-- What ReplyAt tells. -/
def atRes (a : Nat) (o : Option Nat) : Value := match o with
  | some u => .tuple #[.int .i64 ((a + u : Nat) : Int), .bool true]
  | none => .tuple #[.int .i64 0, .bool false]
theorem atRes_none {a : Nat} {o : Option Nat} (h : o = none) : Ending.returned (.tuple #[.int .i64 0, .bool false]) = .returned (atRes a o) := by subst h; rfl
theorem atRes_some {a u : Nat} {o : Option Nat} {n : Int} (h : o = some u) (hn : n = ((a + u : Nat) : Int)) : Ending.returned (.tuple #[.int .i64 n, .bool true]) = .returned (atRes a o) := by subst h hn; rfl
theorem impl_replyAt_all : ∀ k, k ≤ 4 → AtCalls k
  | 0, h => replyAt_step 0 h (.inl rfl)
  | k + 1, h => replyAt_step (k + 1) h (.inr ⟨k, rfl, impl_replyAt_all k (by omega)⟩)
set_option maxRecDepth 100000 in
theorem impl_ReplyAt_calls (s : ByteArray) (a : Nat) (w : World) (ha : a ≤ s.size) (hs : s.size ≤ 1048576) (hW : RepW w) :
    Calls Tryd.prog 9 #[.string s, .int .i64 (a : Int)] w fun e w' => e = .returned (atRes a (repB numI 4 (tail_ s a))) ∧ Below w.heap.size w w' := by
  have HI := Lib.hid (inR_true (n := (a : Int)) (lo := 0) (hi := (s.size : Int)) ⟨by omega, by omega⟩)
  have HAC := Lib.hid (impl_replyAt_all 4 (Nat.le_refl _) s a 0 w rfl ha hs hW)
  clear hW
  cases hr : repB numI 4 (tail_ s a) with
  | none =>
    rw [hr] at HAC
    clear hr
    go_enter Tryd.func9, Tryd.ntmps9
    go_wp2_with fail
    go_at_call 28
    refine (impl_within_calls _ _ _ _).mono ?_
    rw [HI.out]
    rintro e w' ⟨rfl, rfl⟩
    go_wp2_with fail
    go_at_call 29
    refine HAC.out.mono ?_
    rintro e w2 ⟨⟨q, rfl⟩, hb⟩
    go_wp2
    go_ret2
    exact ⟨atRes_none rfl, hb⟩
  | some v =>
    have hv := (repB_reads numI 4 _ v hr).2.1
    rw [tail_len] at hv
    rw [hr] at HAC
    clear hr
    go_enter Tryd.func9, Tryd.ntmps9
    go_wp2_with fail
    go_at_call 28
    refine (impl_within_calls _ _ _ _).mono ?_
    rw [HI.out]
    rintro e w' ⟨rfl, rfl⟩
    go_wp2_with fail
    go_at_call 29
    refine HAC.out.mono ?_
    rintro e w2 ⟨he, hb⟩
    replace he : e = .returned (.tuple #[.int .i64 ((a + v : Nat) : Int), .bool true]) := he
    subst he
    go_wp2
    go_ret2
    exact ⟨atRes_some rfl (by omega), hb⟩
/-- Where the replies stand: i of them are read, up to a. -/
def RsSt (num : List UInt8 → Bool) (s : ByteArray) (i a : Nat) (out : List ByteArray) : Prop := a ≤ s.size ∧ i ≤ a ∧ out.length = i ∧ repsF num (s.size + 1) (ub s) = (out.map ub ++ (repsF num (s.size + 1 - i) (tail_ s a)).1, (repsF num (s.size + 1 - i) (tail_ s a)).2)
theorem RsSt.start (num : List UInt8 → Bool) (s : ByteArray) : RsSt num s 0 0 [] := by
  refine ⟨Nat.zero_le _, Nat.le_refl _, rfl, ?_⟩
  simp [tail_]
theorem tail_ne {s : ByteArray} {a : Nat} (h : a < s.size) : tail_ s a ≠ [] := fun e => by
  have := congrArg List.length e
  rw [tail_len] at this
  simp at this
  omega
theorem RsSt.step {num : List UInt8 → Bool} {s : ByteArray} {i a u : Nat} {out : List ByteArray} (h : RsSt num s i a out) (ha : a < s.size) (h1 : repB num 4 (tail_ s a) = some u) : RsSt num s (i + 1) (a + u) (out ++ [s.extract a (a + u)]) := by
  obtain ⟨h2, h3, h4, h5⟩ := h
  obtain ⟨h6, h7, _⟩ := repB_reads num 4 _ u h1
  rw [tail_len] at h7
  refine ⟨by omega, by omega, by rw [List.length_append, h4]; rfl, ?_⟩
  rw [h5, show s.size + 1 - i = s.size + 1 - (i + 1) + 1 by omega, repsF, if_neg (tail_ne ha), h1]
  dsimp only
  rw [tail_drop, extract_tail, List.map_append]
  simp [ub_bs]
theorem RsSt.stop {num : List UInt8 → Bool} {s : ByteArray} {i a : Nat} {out : List ByteArray} (h : RsSt num s i a out) (ha : a < s.size) (h1 : repB num 4 (tail_ s a) = none) : repsF num (s.size + 1) (ub s) = (out.map ub, false) := by
  obtain ⟨h2, h3, h4, h5⟩ := h
  rw [h5, show s.size + 1 - i = s.size + 1 - (i + 1) + 1 by omega, repsF, if_neg (tail_ne ha), h1]
  simp
theorem RsSt.all {num : List UInt8 → Bool} {s : ByteArray} {i a : Nat} {out : List ByteArray} (h : RsSt num s i a out) (ha : ¬ a < s.size) : repsF num (s.size + 1) (ub s) = (out.map ub, true) := by
  obtain ⟨h2, h3, h4, h5⟩ := h
  rw [h5, show s.size + 1 - i = s.size + 1 - (i + 1) + 1 by omega, repsF, if_pos (tail_empty (by omega))]
  simp
/-- What a reading of replies leaves. -/
def RsPost (w : World) (r : List (List UInt8) × Bool) (e : Ending) (w' : World) : Prop := Below w.heap.size w w' ∧ ∃ v, e = .returned (.tuple #[v, .bool r.2]) ∧ (r.2 = true → OwnS w' w.heap.size v (r.1.map bs))
theorem rsPost_no {w w' : World} {r : List (List UInt8) × Bool} {l : List (List UInt8)} {v : Value} (h : r = (l, false)) (hb : Below w.heap.size w w') : RsPost w r (.returned (.tuple #[v, .bool false])) w' := by
  subst h
  exact ⟨hb, v, rfl, fun h => by cases h⟩
theorem rsPost_yes {w w' : World} {r : List (List UInt8) × Bool} {xs : List ByteArray} {v : Value} (h : r = (xs.map ub, true)) (hb : Below w.heap.size w w') (ho : OwnS w' w.heap.size v xs) : RsPost w r (.returned (.tuple #[v, .bool true])) w' := by
  subst h
  refine ⟨hb, v, rfl, fun _ => ?_⟩
  have e : (xs.map ub).map bs = xs := by
    rw [List.map_map]
    have : (bs ∘ ub) = id := by funext x; exact bs_ub x
    rw [this, List.map_id]
  show OwnS w' w.heap.size v ((xs.map ub).map bs)
  rw [e]
  exact ho
set_option maxHeartbeats 4000000 in
set_option maxRecDepth 100000 in
theorem impl_Replies_calls (s : ByteArray) (w : World) (hs : s.size ≤ 1000000) (hW : RepW w) :
    Calls Tryd.prog 7 #[.string s] w (RsPost w (repsF numI (s.size + 1) (ub s))) := by
  obtain ⟨i0, hi, hz, hsz, hby⟩ := info_parts info_str
  have HW := Lib.hid hW
  clear hW
  go_enter Tryd.func7, Tryd.ntmps7
  go_wp2
  go_loopw [4, 5] (fun av kv wr => ∃ (i a : Nat) (out : List ByteArray) (v : Value), kv = .int .i64 (a : Int) ∧ v = av ∧ a ≤ s.size ∧ out.length ≤ 1000000 ∧ Hid (RsSt numI s i a out) ∧ Hid (OwnS wr w.heap.size v out) ∧ Hid (Below w.heap.size w wr)) (fun _ kv _ => s.size + 1 - (intOf kv).toNat)
  case atStart => exact ⟨0, 0, [], _, rfl, rfl, Nat.zero_le _, by simp, RsSt.start _ s, OwnS.nil _ _, Below.refl _ _⟩
  case round =>
    obtain ⟨i, a, out, v, rfl, rfl, ha, hol, HST, HO, HB⟩ := hrel
    by_cases hlt : a < s.size
    · have hlti : (a : Int) < (s.size : Int) := by omega
      have HAC := Lib.hid (impl_ReplyAt_calls s a wr ha (by omega) (HW.out.below HB.out))
      cases hr : repB numI 4 (tail_ s a) with
      | none =>
        have HR := Lib.hid (HST.out.stop hlt hr)
        rw [hr] at HAC
        clear hr
        go_wp2_with fail
        go_at_call 9
        refine HAC.out.mono ?_
        rintro e w2 ⟨rfl, hb⟩
        have HB2 := Lib.hid (HB.out.trans (hb.mono HB.out.size))
        clear hb
        simp only [atRes]
        go_wp2
        go_ret2
        exact rsPost_no HR.out HB2.out
      | some u =>
        have hu := repB_reads numI 4 _ u hr
        have hul := hu.2.1
        have hu3 := hu.1
        rw [tail_len] at hul
        have HS2 := Lib.hid (HST.out.step hlt hr)
        have hol2 : out.length + 1 ≤ 1000000 := by
          obtain ⟨q1, q2, q3, _⟩ := HS2.out
          rw [List.length_append, List.length_singleton] at q3
          omega
        rw [hr] at HAC
        clear hr hu
        have hcast : ((a + u : Nat) : Int) = (a : Int) + (u : Int) := by omega
        go_wp2_with fail
        go_at_call 9
        refine HAC.out.mono ?_
        rintro e w2 ⟨rfl, hb⟩
        have HB2 := Lib.hid (HB.out.trans (hb.mono HB.out.size))
        have HO2 := Lib.hid (HO.out.below hb)
        clear hb
        simp only [atRes]
        rw [hcast]
        have ht : ((a : Int) + (u : Int)).toNat = a + u := by omega
        have hb0 : (0 : Int) ≤ (a : Int) := by omega
        have hb1 : (a : Int) ≤ (a : Int) + (u : Int) := by omega
        have hb2 : (a : Int) + (u : Int) ≤ (s.size : Int) := by omega
        generalize hX : s.extract a (a + u) = X at HS2
        have HOWN : Hid ((w2.alloc (.cells #[.string X] 9)).ownsRow w.heap.size 9 1 v out.length (out.map Value.string)) := World.ownsRow.alloc HO2.out _
        have HNEWS : Hid (∀ j u, [Value.string X][j]? = some u → (w2.alloc (.cells #[.string X] 9)).cell? ((⟨w2.heap.size, 0, none⟩ : Addr).add j) = some u) := World.news_of_block (heap_alloc_new w2 _)
        have HBASE : Hid (w.heap.size ≤ (w2.alloc (.cells #[.string X] 9)).heap.size) := by have := HB2.out.size; rw [Hid]; simp; omega
        go_wp2_with (at_builtin; refine wpList_append_lies _ rfl _ _ _ rfl w.heap.size 9 i0 (.string ByteArray.empty) 1 16 Tryd.underlying24 hi hz hsz hby rfl (by omega) v out.length (out.map Value.string) rfl HOWN.out ⟨w2.heap.size, 0, none⟩ 1 1 [.string X] rfl rfl HNEWS.out (by simp [Value.oneCell']) (by omega) (by unfold maxLen; omega) (by omega) HBASE.out _ rfl ?_; intro g cap w4 hown hgrow hat hlt2)
        have HPU := Lib.hid (OwnS.pushed hown)
        have HBN := Lib.hid (below_push HB2.out HB2.out.size HO2.out hgrow)
        clear hown hgrow hat
        go_wp2
        go_roundw
        case rel => first | exact ⟨i + 1, a + u, out ++ [X], _, by go_num, rfl, by omega, by simp; omega, HS2, HPU, HBN⟩ | (repeat (first | (refine ⟨?relx, rfl⟩; exact ⟨i + 1, a + u, out ++ [X], _, by go_num, rfl, by omega, by simp; omega, HS2, HPU, HBN⟩) | (refine ⟨?relx, ?eqs⟩; (case eqs => (and_intros <;> rfl)); exact ⟨i + 1, a + u, out ++ [X], _, by go_num, rfl, by omega, by simp; omega, HS2, HPU, HBN⟩) | apply Exists.intro))
        case measure => simp [intOf]; omega
    · have HR := Lib.hid (HST.out.all hlt)
      go_wp2
      go_ret2
      exact rsPost_yes HR.out HB.out HO.out
end Go.Proofs.YtdoaemagednclaaDoor
