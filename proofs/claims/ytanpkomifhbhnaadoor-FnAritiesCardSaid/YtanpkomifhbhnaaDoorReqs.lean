/- Requests, the program's and the reference's: the requests at the head of some bytes. -/
import Derived.Test.YtanpkomifhbhnaaDoorSS
import Derived.Test.YtanpkomifhbhnaaDoorPreL
namespace Go.Proofs.YtanpkomifhbhnaaDoor
set_option linter.unusedVariables false
set_option linter.unusedSimpArgs false
open Go.RowKit
attribute [local go_sem] bs_size List.length_cons List.length_nil List.length_append

def reqsF : Nat → List UInt8 → List (List (List UInt8)) × Nat × Bool
  | 0, _ => ([], 0, false)
  | f + 1, l => if (reqB l).2.2 = 1 then ((reqB l).1 :: (reqsF f (l.drop (reqB l).2.1)).1, (reqB l).2.1 + (reqsF f (l.drop (reqB l).2.1)).2.1, (reqsF f (l.drop (reqB l).2.1)).2.2) else ([], 0, decide ((reqB l).2.2 = 2))
theorem reqsF_small : ∀ (f : Nat) (l : List UInt8), (reqsF f l).1.length ≤ f ∧ ∀ q ∈ (reqsF f l).1, q.length ≤ 8 ∧ ∀ x ∈ q, x.length ≤ 60
  | 0, _ => by simp [reqsF]
  | f + 1, l => by
    obtain ⟨h1, h2⟩ := reqsF_small f (l.drop (reqB l).2.1)
    rw [reqsF]
    split
    · refine ⟨by simp; omega, fun q hq => ?_⟩
      rcases List.mem_cons.1 hq with rfl | hq
      · exact reqB_small l
      · exact h2 q hq
    · simp
/-- Where the requests stand: i of them are read, up to a. -/
def RqSt (s : ByteArray) (i a : Nat) (out : List (List (List UInt8))) : Prop := a ≤ s.size ∧ i ≤ a ∧ out.length = i ∧ reqsF (s.size + 1) (ub s) = (out ++ (reqsF (s.size + 1 - i) (tail_ s a)).1, a + (reqsF (s.size + 1 - i) (tail_ s a)).2.1, (reqsF (s.size + 1 - i) (tail_ s a)).2.2)
theorem RqSt.start (s : ByteArray) : RqSt s 0 0 [] := by
  refine ⟨Nat.zero_le _, Nat.le_refl _, rfl, ?_⟩
  simp [tail_]
theorem RqSt.step {s : ByteArray} {i a : Nat} {out : List (List (List UInt8))} (h : RqSt s i a out) (h1 : (reqB (tail_ s a)).2.2 = 1) : RqSt s (i + 1) (a + (reqB (tail_ s a)).2.1) (out ++ [(reqB (tail_ s a)).1]) := by
  obtain ⟨h2, h3, h4, h5⟩ := h
  obtain ⟨h6, h7⟩ := reqB_used h1
  rw [tail_len] at h7
  refine ⟨by omega, by omega, by rw [List.length_append, h4]; rfl, ?_⟩
  rw [h5, show s.size + 1 - i = s.size + 1 - (i + 1) + 1 by omega, reqsF, if_pos h1, tail_drop]
  simp [Nat.add_assoc]
theorem RqSt.stop {s : ByteArray} {i a : Nat} {out : List (List (List UInt8))} (h : RqSt s i a out) (h1 : (reqB (tail_ s a)).2.2 ≠ 1) : reqsF (s.size + 1) (ub s) = (out, a, decide ((reqB (tail_ s a)).2.2 = 2)) := by
  obtain ⟨h2, h3, h4, h5⟩ := h
  rw [h5, show s.size + 1 - i = s.size + 1 - (i + 1) + 1 by omega, reqsF, if_neg h1]
  simp
/-- What a reading of requests leaves. -/
def RqPost (w : World) (r : List (List (List UInt8)) × Nat × Bool) (e : Ending) (w' : World) : Prop := Below w.heap.size w w' ∧ ∃ v, e = .returned (.tuple #[v, .int .i64 (r.2.1 : Int), .bool r.2.2]) ∧ OwnSS w' w.heap.size v (r.1.map (·.map bs))
theorem rqPost_of {w w' : World} {r : List (List (List UInt8)) × Nat × Bool} {xs : List (List (List UInt8))} {n : Nat} {b : Bool} (hr : r = (xs, n, b)) {v : Value} {x : Int} {y : Bool} (hx : x = (n : Int)) (hy : y = b) (hb : Below w.heap.size w w') (ho : OwnSS w' w.heap.size v (xs.map (·.map bs))) : RqPost w r (.returned (.tuple #[v, .int .i64 x, .bool y])) w' := by
  subst hr hx hy
  exact ⟨hb, v, rfl, ho⟩
theorem OwnSS.push {w w1 w2 : World} {B g cap : Nat} {v v1 : Value} {vs : List Value} {xss : List (List ByteArray)} {xs : List ByteArray} {o : Obj} (hr : Rows2 w B vs xss) (ho : Out2 w B v vs) (hb : Below w.heap.size w w1) (h1 : StrOwn w1 w.heap.size v1 xs) (hx : ∀ x ∈ xs, x.size ≤ 9223372036854775807) (hB : B ≤ w.heap.size)
    (hown : w2.ownsRow B 22 1 (.slice (some ⟨g, 0, none⟩) (vs.length + 1) cap) (vs.length + 1) (vs ++ [v1])) (hgrow : (w1.alloc o).grownBy w2 v.ownBlock) (hat : v.ownBlock = some g ∨ g = (w1.alloc o).heap.size) :
    OwnSS w2 B (.slice (some ⟨g, 0, none⟩) (vs.length + 1) cap) (xss ++ [xs]) := by
  have hsz := hb.size
  have hs1 : (w1.alloc o).heap.size = w1.heap.size + 1 := by simp
  have hlt := hr.lt
  have hlo := ho.1.lt
  have hl1 := h1.lt
  have g1 : w.grownBy (w1.alloc o) none := (⟨hb.os, hb.tape, hb.output, hb.size, fun k hk _ => hb.block k hk⟩ : w.grownBy w1 none).trans (World.grownBy_alloc w1 o none)
  have r1 : Rows2 (w1.alloc o) B vs xss := hr.kept g1 fun _ _ _ _ e => by cases e
  have r2 : Rows2 w2 B vs xss := r1.kept hgrow fun u hu k hk e => ho.2 k e u hu hk
  have s1 : StrOwn (w1.alloc o) w.heap.size v1 xs := h1.kept (World.grownBy_alloc w1 o none) fun _ _ e => by cases e
  have s2 : StrOwn w2 w.heap.size v1 xs := s1.kept hgrow fun k hk e => by have := (hlo k e).2; have := (hl1 k hk).1; omega
  refine ⟨vs ++ [v1], Rows2.snoc (s2.mono hB) hx r2 fun u hu k hk e => by have := (hlt u hu k hk).2; have := (hl1 k e).1; omega, ?_, ?_⟩
  · rw [List.length_append]
    exact hown
  · intro k hk u hu e
    simp only [Value.ownBlock, Option.some.injEq] at hk
    subst hk
    rcases List.mem_append.1 hu with hu | hu
    · rcases hat with hat | hat
      · exact ho.2 _ hat u hu e
      · have := (hlt u hu _ e).2; omega
    · obtain rfl := List.mem_singleton.1 hu
      rcases hat with hat | hat
      · have := (hlo _ hat).2; have := (hl1 _ e).1; omega
      · have := (hl1 _ e).2; omega
theorem info_slc : (Tryd.prog.info? 22).map (fun i => (i.zero, i.size, i.bytes)) = some (some (.slice none 0 0), 1, 24) := by kernel_rfl
theorem reqXs_small (l : List UInt8) : ∀ x ∈ (reqB l).1.map bs, x.size ≤ 9223372036854775807 := fun x hx => by
  obtain ⟨y, hy, rfl⟩ := List.mem_map.1 hx
  have := (reqB_small l).2 y hy
  rw [bs_size]
  omega
set_option maxHeartbeats 4000000 in
set_option maxRecDepth 100000 in
theorem impl_Requests_calls (s : ByteArray) (w : World) (hs : s.size ≤ 1048576) (hM : MaxAt w) :
    Calls Tryd.prog 26 #[.string s] w (RqPost w (reqsF (s.size + 1) (ub s))) := by
  obtain ⟨i0, hi, hz, hsz, hby⟩ := info_parts info_slc
  have HM := Lib.hid hM
  have HM1 := Lib.hid hM.1
  clear hM
  go_enter Tryd.func26, Tryd.ntmps26
  go_wp2
  go_loopw [5, 6] (fun av kv wr => ∃ (i a : Nat) (out : List (List (List UInt8))) (v : Value), kv = .int .i64 (a : Int) ∧ v = av ∧ RqSt s i a out ∧ OwnSS wr w.heap.size v (out.map (·.map bs)) ∧ Below w.heap.size w wr) (fun _ kv _ => s.size + 1 - (intOf kv).toNat)
  case atStart => exact ⟨0, 0, [], _, rfl, rfl, RqSt.start s, ⟨[], trivial, World.ownsRow_nil _ _ _ _, fun _ _ _ hu => by simp at hu⟩, Below.refl _ _⟩
  case round =>
    obtain ⟨i, a, out, v, rfl, rfl, hst, ⟨vs, hr, ho⟩, hbel⟩ := hrel
    have ha := hst.1
    have hia := hst.2.1
    have hvl : vs.length = i := by rw [hr.length, List.length_map, hst.2.2.1]
    have hvn : vs.length ≤ 1048577 := by omega
    obtain ⟨A, c, hv⟩ := ho.form
    subst hv
    have HST := Lib.hid hst
    have HR := Lib.hid hr
    have HO := Lib.hid ho
    have HB := Lib.hid hbel
    have HVL := Lib.hid hvl
    have hsl : s.extract a s.size = bs (tail_ s a) := extract_end s a
    have hub : ub (bs (tail_ s a)) = tail_ s a := ub_bs _
    have hts : (bs (tail_ s a)).size ≤ 1048576 := by rw [bs_size, tail_len]; omega
    have HP := Lib.hid (fun w hM => impl_ParseRequest_calls (bs (tail_ s a)) w hts hM)
    rw [Hid, hub] at HP
    have HP : Hid _ := HP
    have HXS := Lib.hid (reqXs_small (tail_ s a))
    have HSTEP := Lib.hid hst.step
    have HSTOP := Lib.hid hst.stop
    have HUSED := Lib.hid (fun h => reqB_used (l := tail_ s a) h)
    have hi0a : (0 : Int) ≤ (a : Int) := by omega
    have hi1a : (a : Int) ≤ (s.size : Int) := by omega
    clear hst hr ho hbel hvl hub hts
    generalize reqB (tail_ s a) = r at HP HXS HSTEP HSTOP HUSED
    obtain ⟨xs, n, h⟩ := r
    generalize tail_ s a = T at hsl HP HUSED
    by_cases h1 : h = 1
    · subst h1
      have hun := HUSED.out rfl
      have hTl : T.length ≤ s.size := by
        have h5 := congrArg ByteArray.size hsl
        rw [bs_size, ByteArray.size_extract] at h5
        omega
      have HN := Lib.hid (HSTEP.out rfl)
      have han : a + n ≤ s.size := HN.out.1
      go_wp2_with fail
      go_at_call 20
      refine (HP.out _ (HM.out.below HB.out HM1.out)).mono ?_
      rintro e w1 ⟨hb1, v1, rfl, ho1⟩
      obtain ⟨A1, c1, hv1⟩ := ho1.form
      subst hv1
      have HB1 := Lib.hid hb1
      have HO1 := Lib.hid ho1
      have HWS : Hid (w.heap.size ≤ w1.heap.size) := Nat.le_trans HB.out.size hb1.size
      have HOWN : Hid ((w1.alloc (.cells #[.slice A1 (xs.map bs).length c1] 22)).ownsRow w.heap.size 22 1 (.slice A vs.length c) vs.length vs) := ((HO.out.kept (row := none) ⟨hb1.os, hb1.tape, hb1.output, hb1.size, fun k hk _ => hb1.block k hk⟩ (fun _ _ e => by cases e)).1).alloc _
      have HNEWS : Hid (∀ j u, [Value.slice A1 (xs.map bs).length c1][j]? = some u → (w1.alloc (.cells #[.slice A1 (xs.map bs).length c1] 22)).cell? ((⟨w1.heap.size, 0, none⟩ : Addr).add j) = some u) := World.news_of_block (heap_alloc_new w1 _)
      have HBASE : Hid (w.heap.size ≤ (w1.alloc (.cells #[.slice A1 (xs.map bs).length c1] 22)).heap.size) := by have := HWS.out; rw [Hid]; simp; omega
      clear hb1 ho1
      generalize hxl : (xs.map bs).length = nx at HOWN HNEWS HBASE HO1 ⊢
      clear hxl
      go_wp2_with (at_builtin; refine wpList_append_lies _ rfl _ _ _ rfl w.heap.size 22 i0 (.slice none 0 0) 1 24 Tryd.underlying33 hi hz hsz hby rfl (by omega) (.slice A vs.length c) vs.length vs rfl HOWN.out ⟨w1.heap.size, 0, none⟩ 1 1 [.slice A1 nx c1] rfl rfl HNEWS.out (by simp [Value.oneCell']) (by omega) (by unfold maxLen; omega) (by omega) HBASE.out _ rfl ?_; intro g cap w2 hown hgrow hat hlt2)
      have HPU := Lib.hid (OwnSS.push HR.out HO.out HB1.out HO1.out HXS.out HB.out.size hown hgrow hat)
      have HBN : Hid (Below w.heap.size w w2) := ((HB.out.trans (HB1.out.mono HB.out.size)).alloc HWS.out _).grown hgrow (by have := HWS.out; simp; omega) fun k hk => (HO.out.1.lt k hk).1
      clear hown hgrow hat
      go_wp2
      go_roundw
      case rel => first | exact ⟨i + 1, a + n, out ++ [xs], _, by go_num, rfl, HN.out, by rw [List.map_append]; exact HPU.out, HBN.out⟩ | (repeat (first | (refine ⟨?relx, rfl⟩; exact ⟨i + 1, a + n, out ++ [xs], _, by go_num, rfl, HN.out, by rw [List.map_append]; exact HPU.out, HBN.out⟩) | (refine ⟨?relx, ?eqs⟩; (case eqs => (and_intros <;> rfl)); exact ⟨i + 1, a + n, out ++ [xs], _, by go_num, rfl, HN.out, by rw [List.map_append]; exact HPU.out, HBN.out⟩) | apply Exists.intro))
      case measure => simp [intOf]; omega
    · have HR1 := Lib.hid (HSTOP.out h1)
      have hhb : ((h : Int) != 1) = true := bne_iff_ne.mpr (by omega)
      have h2b : ((h : Int) == 2) = decide (h = 2) := by
        by_cases h2 : h = 2
        · subst h2; rfl
        · rw [decide_eq_false h2]; exact beq_eq_false_iff_ne.mpr (by omega)
      go_wp2_with fail
      go_at_call 20
      refine (HP.out _ (HM.out.below HB.out HM1.out)).mono ?_
      rintro e w1 ⟨hb1, v1, rfl, ho1⟩
      have HB1 := Lib.hid (HB.out.trans (hb1.mono HB.out.size))
      have HOS : Hid (OwnSS w1 w.heap.size (.slice A vs.length c) (out.map (·.map bs))) := OwnSS.below ⟨vs, HR.out, HO.out⟩ hb1
      clear hb1 ho1
      go_wp2
      go_ret3
      exact rqPost_of HR1.out rfl (by first | rfl | exact h2b) HB1.out HOS.out
end Go.Proofs.YtanpkomifhbhnaaDoor
