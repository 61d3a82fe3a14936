/- The bytes that live: plain. slices.Contains of a spot in a row of spots. The changes of a batch of which the directory tells: the program's. The bytes that live: the program's. The bytes that live: the reference's. The walk of the law FnExactLiveBytes: whatever the engine, it returns true. -/
import Derived.Test.YtaacpdejpcbbbaaGreatDoorActAll
import Derived.Test.YtaacpdejpcbbbaaGreatDoorValAll
import Derived.Test.YtaacpdejpcbbbaaGreatDoorDirAll
import Derived.Test.YtaacpdejpcbbbaaGreatDoorOkAll
import Derived.Test.YtaacpdejpcbbbaaGreatDoorMarkAll
import Derived.Test.YtaacpdejpcbbbaaGreatDoorBReadI
import Derived.Test.YtaacpdejpcbbbaaGreatDoorSegAll
import Derived.Carry
import Derived.Test.YtaacpdejpcbbbaaGreatDoorDecAll
namespace Go.Proofs.YtaacpdejpcbbbaaGreatDoor
set_option linter.unusedVariables false
set_option linter.unusedSimpArgs false
open Go.RowKit

theorem unfr_fuel : ∀ (f g : Nat) (l : List UInt8), l.length < f → l.length < g → unfr f l = unfr g l
  | 0, _, _, h, _ => by omega
  | _, 0, _, _, h => by omega
  | f + 1, g + 1, l, hf, hg => by
    cases h : frOf l with
    | none => rw [unfr_none h, unfr_none h]
    | some p =>
      obtain ⟨t, m⟩ := p
      obtain ⟨h1, h2, _⟩ := frOf_took h
      rw [unfr_some h, unfr_some h, unfr_fuel f g (l.drop m) (by rw [List.length_drop]; omega) (by rw [List.length_drop]; omega)]
/-- The records behind j of them begin where these end. -/
theorem unfr_at : ∀ (j f : Nat) (l : List UInt8) (r : ByteArray), l.length < f → (unfr f l).1[j]? = some r → sumFr ((unfr f l).1.take j) ≤ l.length ∧ ∀ g, l.length - sumFr ((unfr f l).1.take j) < g → (unfr g (l.drop (sumFr ((unfr f l).1.take j)))).1 = (unfr f l).1.drop j
  | 0, f, l, r, hf, _ => ⟨by simp [sumFr], fun g hg => by
    have : sumFr ((unfr f l).1.take 0) = 0 := by simp [sumFr]
    rw [this] at hg ⊢
    rw [List.drop_zero, List.drop_zero, unfr_fuel g f l (by omega) hf]⟩
  | j + 1, 0, l, r, hf, _ => by omega
  | j + 1, f + 1, l, r, hf, h => by
    cases hq : frOf l with
    | none => rw [unfr_none hq] at h; simp at h
    | some p =>
      obtain ⟨t, m⟩ := p
      obtain ⟨h1, h2, h3, h4, h5⟩ := frOf_took hq
      have hm : frameLen (bs t) = m := by
        unfold frameLen
        rw [ub_bs, h5]
        show (l.take m).length = m
        rw [List.length_take]
        omega
      rw [unfr_some hq] at h ⊢
      have ih := unfr_at j f (l.drop m) r (by rw [List.length_drop]; omega) (by simpa using h)
      rw [List.length_drop] at ih
      have hs : sumFr ((bs t :: (unfr f (l.drop m)).1).take (j + 1)) = m + sumFr ((unfr f (l.drop m)).1.take j) := by
        rw [List.take_succ_cons]
        unfold sumFr
        rw [List.map_cons, List.sum_cons, hm]
      dsimp only
      rw [hs]
      refine ⟨by omega, fun g hg => ?_⟩
      rw [List.drop_succ_cons, ← List.drop_drop]
      exact ih.2 g (by omega)
theorem ub_extractT (s : ByteArray) (a : Nat) : ub (s.extract a s.size) = (ub s).drop a := by
  rw [ub_extract, List.take_of_length_le]
  rw [List.length_drop, ub_length]
  exact Nat.le_refl _
/-- A batch of a segment stands at its place. -/
theorem l07_at {fs : List FiD} {n j : Nat} {p : PlD} (hd : diskOkB fs = true) (hp : (batsAt fs n)[j]? = some p) : l07B fs (n : Int) (p.2.1 : Int) = some p.1 ∧ ∃ r, batText p.1 = some (ub r) ∧ (1 ≤ r.size ∧ r.size ≤ 9000) ∧ p.2.2 = frameLen r := by
  unfold batsAt at hp
  cases hf : fileB fs (segNm (n : Int)) with
  | none =>
    rw [hf] at hp
    have : segPl (n : Int) ((none : Option ByteArray).getD ⟨#[]⟩) = none := segPl_empty (by
      unfold unframeB
      rw [if_pos (by show 0 ≤ 20000; omega)]
      exact congrArg Prod.fst (unfr_none frOf_nil _))
    rw [this] at hp
    simp at hp
  | some t =>
    rw [hf] at hp
    have hts := fileB_small hd hf
    dsimp only [Option.getD] at hp
    cases hs : segPl (n : Int) t with
    | none => rw [hs] at hp; simp at hp
    | some x =>
      obtain ⟨f, l, pls⟩ := x
      rw [hs] at hp
      dsimp only at hp
      obtain ⟨_, _, h3, _⟩ := segPl_pls hs
      obtain ⟨r0, rs, hu, hl, he⟩ := segPl_some (f := f) (l := l) (by have := segPl_head (n : Int) t; rw [hs] at this; exact this.symm)
      rw [hs] at he
      simp only [Option.some.injEq, Prod.mk.injEq, true_and] at he
      rw [he] at hp
      obtain ⟨r, h1, h2, h4, h5⟩ := placedGo_rec rs none l j p hp
      have hU : unframeB t = unfr (t.size + 1) (ub t) := by unfold unframeB; rw [if_pos hts]
      rw [hU] at hu
      obtain ⟨i1, i2⟩ := unfr_at (j + 1) (t.size + 1) (ub t) r (by rw [ub_length]; omega) (by rw [hu]; simpa using h1)
      rw [hu, List.take_succ_cons] at i1 i2
      have hsum : sumFr (r0 :: rs.take j) = p.2.1 := by
        rw [h4, hl]
        unfold sumFr
        rw [List.map_cons, List.sum_cons]
      rw [hsum, ub_length] at i1 i2
      rw [List.drop_succ_cons] at i2
      refine ⟨?_, h3 p (by rw [he]; exact List.mem_of_getElem? hp)⟩
      have hin : inR (p.2.1 : Int) 0 (t.size : Int) = true := by unfold inR; simp; omega
      have hun : (unframeB (t.extract (p.2.1 : Int).toNat t.size)).1 = r :: rs.drop (j + 1) := by
        rw [Int.toNat_natCast]
        unfold unframeB
        rw [if_pos (by rw [ByteArray.size_extract]; omega), ub_extractT, i2 _ (by rw [ByteArray.size_extract]; omega), drop_get h1]
      rw [l07_cons hf hin hun, h2]
/-- A spot tells of the place. -/
def atSp (x : SpotD) : Int × Int := (x.2.1, x.2.2.1)
def toldB (D : List SpotD) (n : Nat) (p : PlD) : Bool := p.1.2.any fun c => !c.2.2 && D.any fun y => decide (y = (c.1, (n : Int), (p.2.1 : Int), p.1.1))
/-- The program's sum. -/
def liveP (D : List SpotD) (n : Nat) (p : PlD) : Nat := if toldB D n p = true then p.2.2 else 0
def liveN (fs : List FiD) (D : List SpotD) (n : Nat) : Nat := ((batsAt fs n).map (liveP D n)).sum
def liveI (fs : List FiD) (D : List SpotD) : Nat := ((segsB fs).map (liveN fs D)).sum
/-- The reference's. -/
def szAt (fs : List FiD) (q : Int × Int) : Nat := match l07B fs q.1 q.2 with
  | none => 0
  | some b => match batText b with
    | none => 0
    | some l => frameLen (bs l)
def sumF (f : Int × Int → Nat) : List (Int × Int) → List (Int × Int) → Nat
  | _, [] => 0
  | seen, k :: r => (if k ∈ seen then 0 else f k) + sumF f (seen ++ [k]) r
def liveS (fs : List FiD) (D : List SpotD) : Nat := sumF (szAt fs) [] (D.map atSp)
theorem sum_out {g : Int × Int → Nat} {k : Int × Int} : ∀ {P : List (Int × Int)}, P.Nodup → k ∈ P → (P.map g).sum = g k + (P.map fun q => if q = k then 0 else g q).sum
  | [], _, h => by simp at h
  | q :: P, hn, h => by
    have hq := List.nodup_cons.1 hn
    rw [List.map_cons, List.map_cons, List.sum_cons, List.sum_cons]
    rcases List.mem_cons.1 h with rfl | hk
    · have : (P.map fun q => if q = k then 0 else g q) = P.map g := List.map_congr_left fun x hx => if_neg fun e => hq.1 (by rw [← e]; exact hx)
      rw [this, if_pos rfl]
      omega
    · have hne : q ≠ k := fun e => hq.1 (by rw [e]; exact hk)
      rw [if_neg hne, sum_out hq.2 hk]
      omega
theorem sumF_eq {f : Int × Int → Nat} {P : List (Int × Int)} (hP : P.Nodup) : ∀ (K seen : List (Int × Int)), (∀ k ∈ K, k ∈ P) → sumF f seen K = (P.map fun q => if q ∈ K ∧ q ∉ seen then f q else 0).sum
  | [], seen, _ => by
    rw [sumF]
    symm
    clear hP
    induction P with
    | nil => rfl
    | cons q P ih => rw [List.map_cons, List.sum_cons, ih (fun _ h => by simp at h), if_neg (by simp)]
  | k :: r, seen, h => by
    rw [sumF, sumF_eq hP r (seen ++ [k]) fun x hx => h x (by simp [hx])]
    by_cases hk : k ∈ seen
    · rw [if_pos hk, Nat.zero_add]
      congr 1
      refine List.map_congr_left fun q _ => ?_
      by_cases e : q = k
      · subst e
        rw [if_neg (by simp), if_neg (by simp [hk])]
      · simp [e]
    · rw [if_neg hk, sum_out (g := fun q => if q ∈ k :: r ∧ q ∉ seen then f q else 0) hP (h k (by simp)), if_pos ⟨by simp, hk⟩]
      congr 2
      refine List.map_congr_left fun q _ => ?_
      by_cases e : q = k
      · subst e
        rw [if_neg (by simp), if_pos rfl]
      · rw [if_neg e]
        simp [e]
/-- The spots of a directory tell of changes. -/
def SpFrom (fs : List FiD) (L : List Nat) (x : SpotD) : Prop := ∃ n ∈ L, ∃ p ∈ batsAt fs n, ∃ c ∈ p.1.2, c.2.2 = false ∧ x = (c.1, (n : Int), (p.2.1 : Int), p.1.1)
theorem dir_from {fs : List FiD} : ∀ (L : List Nat) (out : List SpotD) (L0 : List Nat), (∀ x ∈ out, SpFrom fs L0 x) → (∀ n ∈ L, n ∈ L0) → ∀ x ∈ L.foldl (dirSeg fs) out, SpFrom fs L0 x
  | [], out, L0, h, _ => h
  | n :: L, out, L0, h, hL => by
    refine dir_from L _ L0 ?_ fun m hm => hL m (by simp [hm])
    have hn := hL n (by simp)
    have chs : ∀ (p : PlD), p ∈ batsAt fs n → ∀ (cs : List ChD) (o : List SpotD), (∀ c ∈ cs, c ∈ p.1.2) → (∀ x ∈ o, SpFrom fs L0 x) → ∀ x ∈ cs.foldl (dirCh (n : Int) (p.2.1 : Int) p.1.1) o, SpFrom fs L0 x := by
      intro p hp cs
      induction cs with
      | nil => intro o _ ho; exact ho
      | cons c cs ih =>
        intro o hc ho
        refine ih _ (fun c hc' => hc c (by simp [hc'])) ?_
        intro x hx
        unfold dirCh at hx
        by_cases hg : c.2.2 = true
        · rw [hg] at hx
          unfold setB setMid at hx
          rw [if_pos rfl, List.append_nil] at hx
          rcases List.mem_append.1 hx with h1 | h1
          · exact ho x (List.mem_filter.1 h1).1
          · exact ho x (List.mem_filter.1 h1).1
        · rcases setB_mem hx with h1 | h1
          · exact ho x h1
          · exact ⟨n, hn, p, hp, c, hc c (by simp), by simpa using hg, h1⟩
    have pls : ∀ (ps : List PlD) (o : List SpotD), (∀ p ∈ ps, p ∈ batsAt fs n) → (∀ x ∈ o, SpFrom fs L0 x) → ∀ x ∈ ps.foldl (dirPl (n : Int)) o, SpFrom fs L0 x := by
      intro ps
      induction ps with
      | nil => intro o _ ho; exact ho
      | cons p ps ih =>
        intro o hp ho
        exact ih _ (fun q hq => hp q (by simp [hq])) (chs p (hp p (by simp)) p.1.2 o (fun c hc => hc) ho)
    exact pls (batsAt fs n) out (fun p hp => hp) h
theorem dirB_from (fs : List FiD) : ∀ x ∈ dirB fs, SpFrom fs (segsB fs) x := dir_from (segsB fs) [] (segsB fs) (fun x hx => by simp at hx) fun n hn => hn
/-- The places of the batches of a segment rise. -/
theorem bats_rise (fs : List FiD) (n : Nat) : (batsAt fs n).Pairwise fun p q => p.2.1 < q.2.1 := by
  have go : ∀ (rs : List ByteArray) (last : Option Int) (a : Nat), (∀ x ∈ rs, 1 ≤ x.size ∧ x.size ≤ 9000) → (placedGo last a rs).Pairwise (fun p q => p.2.1 < q.2.1) ∧ ∀ p ∈ placedGo last a rs, a ≤ p.2.1 := by
    intro rs
    induction rs with
    | nil => intro last a _; simp [placedGo]
    | cons r rs ih =>
      intro last a hr
      have hfl : 1 ≤ frameLen r := by
        have := hr r (by simp)
        unfold frameLen
        rw [frameB_yes (by rw [ub_length]; exact this)]
        simp only [List.length_append, ub_length]
        omega
      have hcons : ∀ b : BatD, ((b, a, frameLen r) :: placedGo (some b.1) (a + frameLen r) rs).Pairwise (fun p q => p.2.1 < q.2.1) ∧ ∀ p ∈ (b, a, frameLen r) :: placedGo (some b.1) (a + frameLen r) rs, a ≤ p.2.1 := by
        intro b
        obtain ⟨h1, h2⟩ := ih (some b.1) (a + frameLen r) fun x hx => hr x (by simp [hx])
        refine ⟨List.pairwise_cons.2 ⟨fun q hq => ?_, h1⟩, fun p hp => ?_⟩
        · have := h2 q hq
          show a < _
          omega
        · rcases List.mem_cons.1 hp with rfl | hp
          · exact Nat.le_refl _
          · have := h2 p hp
            omega
      cases hb : readBatS r with
      | none => rw [placedGo_none hb]; simp
      | some b =>
        cases last with
        | none => rw [placedGo_first hb]; exact hcons b
        | some q =>
          by_cases hq : b.1 ≤ q
          · rw [placedGo_low hb hq]; simp
          · rw [placedGo_next hb hq]; exact hcons b
  unfold batsAt
  cases hs : segPl (n : Int) ((fileB fs (segNm (n : Int))).getD ⟨#[]⟩) with
  | none => exact List.Pairwise.nil
  | some x =>
    obtain ⟨f, l, pls⟩ := x
    dsimp only
    obtain ⟨r0, rs, hu, hl, he⟩ := segPl_some (f := f) (l := l) (by have := segPl_head (n : Int) ((fileB fs (segNm (n : Int))).getD ⟨#[]⟩); rw [hs] at this; exact this.symm)
    rw [hs] at he
    simp only [Option.some.injEq, Prod.mk.injEq, true_and] at he
    rw [he]
    obtain ⟨_, _, hsm⟩ := unframeB_le ((fileB fs (segNm (n : Int))).getD ⟨#[]⟩)
    exact (go rs none l fun x hx => hsm x (by rw [hu]; simp [hx])).1
def placesN (fs : List FiD) (n : Nat) : List (Int × Int) := (batsAt fs n).map fun p => ((n : Int), (p.2.1 : Int))
def placesB (fs : List FiD) : List (Int × Int) := (segsB fs).flatMap (placesN fs)
theorem places_nodup (fs : List FiD) : (placesB fs).Nodup := by
  have one : ∀ n, (placesN fs n).Nodup := fun n => by
    unfold placesN List.Nodup
    rw [List.pairwise_map]
    exact (bats_rise fs n).imp fun {p q} h e => by
      injection e with _ e
      omega
  have all : ∀ L : List Nat, L.Pairwise (· < ·) → (L.flatMap (placesN fs)).Nodup := by
    intro L
    induction L with
    | nil => intro _; simp
    | cons n L ih =>
      intro h
      have hn := List.pairwise_cons.1 h
      rw [List.flatMap_cons]
      refine List.pairwise_append.2 ⟨one n, ih hn.2, fun x hx y hy e => ?_⟩
      subst e
      obtain ⟨m, hm, hy⟩ := List.mem_flatMap.1 hy
      have := hn.1 m hm
      unfold placesN at hx hy
      obtain ⟨p, _, rfl⟩ := List.mem_map.1 hx
      obtain ⟨q, _, e⟩ := List.mem_map.1 hy
      injection e with e _
      omega
  exact all _ (segs_incr fs)
theorem told_iff {fs : List FiD} {n : Nat} {p : PlD} (hp : p ∈ batsAt fs n) : toldB (dirB fs) n p = true ↔ ((n : Int), (p.2.1 : Int)) ∈ (dirB fs).map atSp := by
  unfold toldB
  rw [List.any_eq_true]
  constructor
  · rintro ⟨c, _, h⟩
    rw [Bool.and_eq_true, List.any_eq_true] at h
    obtain ⟨_, y, hy, e⟩ := h
    rw [decide_eq_true_eq] at e
    subst e
    exact List.mem_map.2 ⟨_, hy, rfl⟩
  · intro h
    obtain ⟨x, hx, e⟩ := List.mem_map.1 h
    obtain ⟨m, hm, q, hq, c, hc, hg, hxe⟩ := dirB_from fs x hx
    subst hxe
    unfold atSp at e
    dsimp only at e
    injection e with e1 e2
    obtain rfl : m = n := by omega
    have hqp : q = p := by
      obtain ⟨i, hi, rfl⟩ := List.getElem_of_mem hp
      obtain ⟨j, hj, rfl⟩ := List.getElem_of_mem hq
      have hr := List.pairwise_iff_getElem.1 (bats_rise fs m)
      by_cases h1 : i < j
      · have := hr i j hi hj h1; omega
      · by_cases h2 : j < i
        · have := hr j i hj hi h2; omega
        · have : i = j := by omega
          subst this
          rfl
    subst hqp
    exact ⟨c, hc, by rw [Bool.and_eq_true, List.any_eq_true]; exact ⟨by rw [hg]; rfl, _, hx, by simp⟩⟩
theorem sum_flat {f : Int × Int → Nat} {g : Nat → List (Int × Int)} : ∀ L : List Nat, ((L.flatMap g).map f).sum = (L.map fun n => ((g n).map f).sum).sum
  | [] => rfl
  | n :: L => by rw [List.flatMap_cons, List.map_append, List.sum_append, List.map_cons, List.sum_cons, sum_flat L]
/-- Both sums are one. -/
theorem live_eq {fs : List FiD} (hd : diskOkB fs = true) : liveI fs (dirB fs) = liveS fs (dirB fs) := by
  unfold liveS
  rw [sumF_eq (places_nodup fs) _ _ fun k hk => ?_]
  · unfold liveI placesB
    rw [sum_flat]
    congr 1
    refine List.map_congr_left fun n _ => ?_
    unfold liveN placesN
    rw [List.map_map]
    congr 1
    refine List.map_congr_left fun p hp => ?_
    obtain ⟨j, hj, e⟩ := List.getElem_of_mem hp
    obtain ⟨h1, r, h2, _, h3⟩ := l07_at hd (n := n) (j := j) (p := p) (by rw [List.getElem?_eq_getElem hj, e])
    have hsz : szAt fs ((n : Int), (p.2.1 : Int)) = p.2.2 := by
      unfold szAt
      dsimp only
      rw [h1]
      dsimp only
      rw [h2, h3]
      dsimp only
      rw [bs_ub]
    show liveP _ _ _ = (if _ ∧ _ then szAt fs _ else 0)
    unfold liveP
    rw [hsz]
    by_cases ht : toldB (dirB fs) n p = true
    · rw [if_pos ht, if_pos ⟨(told_iff hp).1 ht, by simp⟩]
    · rw [if_neg ht, if_neg fun h => ht ((told_iff hp).2 h.1)]
  · obtain ⟨x, hx, rfl⟩ := List.mem_map.1 hk
    obtain ⟨n, hn, p, hp, c, _, _, rfl⟩ := dirB_from fs x hx
    exact List.mem_flatMap.2 ⟨n, hn, List.mem_map.2 ⟨p, hp, rfl⟩⟩
end Go.Proofs.YtaacpdejpcbbbaaGreatDoor

namespace Go.Proofs.YtaacpdejpcbbbaaGreatDoor
set_option linter.unusedVariables false
set_option linter.unusedSimpArgs false
open Go.RowKit
attribute [local go_sem] bs_size List.length_cons List.length_nil
def hasSp (D : List SpotD) (x : SpotD) : Bool := D.any fun y => decide (y = x)
theorem hasSp_at {D : List SpotD} {x : SpotD} {i : Nat} (h : D[i]? = some x) : hasSp D x = true := by
  unfold hasSp
  rw [List.any_eq_true]
  exact ⟨x, List.mem_of_getElem? h, decide_eq_true rfl⟩
theorem hasSp_no {D : List SpotD} {x : SpotD} (h : ∀ (j : Nat) y, j < D.length → D[j]? = some y → y ≠ x) : hasSp D x = false := by
  unfold hasSp
  rw [List.any_eq_false]
  intro y hy
  obtain ⟨i, hi, rfl⟩ := List.getElem_of_mem hy
  simpa using h i _ hi (List.getElem?_eq_getElem hi)
set_option maxHeartbeats 4000000 in
set_option maxRecDepth 100000 in
theorem index_SpotOf_calls (A : Option Addr) (c : Nat) (ds : List SpotD) (n : ByteArray) (a1 a2 a3 : Int) (w : World) (h : SpRow w A c ds) :
    Calls Tryz.prog 143 #[.slice A ds.length c, .agg #[.string n, .int .i64 a1, .int .i64 a2, .int .i64 a3]] w fun e w' => (∃ r : Int, e = .returned (.int .i64 r) ∧ ((0 ≤ r ∧ hasSp ds (n, a1, a2, a3) = true) ∨ (r = -1 ∧ hasSp ds (n, a1, a2, a3) = false))) ∧ Below w.heap.size w w' := by
  have hl := h.len
  have HAL : Hid (Below w.heap.size w (w.alloc (.cells #[.string n, .int .i64 a1, .int .i64 a2, .int .i64 a3] 56))) := (Below.refl _ _).alloc (Nat.le_refl _) _
  have HX : Hid ((w.alloc (.cells #[.string n, .int .i64 a1, .int .i64 a2, .int .i64 a3] 56)).heap[w.heap.size]? = some (.cells #[.string n, .int .i64 a1, .int .i64 a2, .int .i64 a3] 56 (0, 0))) := blk_new _ _
  have HR := Lib.hid (h.below HAL.out)
  clear h
  go_enter Tryz.func143, Tryz.ntmps143
  go_wp2
  generalize w.alloc (.cells #[.string n, .int .i64 a1, .int .i64 a2, .int .i64 a3] 56) = W1 at HAL HX HR ⊢
  go_loopw [8] (fun iv wr => ∃ i : Nat, i ≤ ds.length ∧ iv = .int .i64 (i : Int) ∧ Hid (∀ (j : Nat) y, j < i → ds[j]? = some y → y ≠ (n, a1, a2, a3)) ∧ Hid (Below W1.heap.size W1 wr)) (fun iv _ => ds.length - (intOf iv).toNat)
  case atStart => exact ⟨0, Nat.zero_le _, rfl, fun j y hj => by omega, Below.refl _ _⟩
  case round =>
    obtain ⟨i, hi, rfl, HT, HB⟩ := hrel
    rename World => w1
    have x0 := blk_cell (blk_below HX.out HB.out) 0
    have x1 := blk_cell (blk_below HX.out HB.out) 1
    have x2 := blk_cell (blk_below HX.out HB.out) 2
    have x3 := blk_cell (blk_below HX.out HB.out) 3
    by_cases hlt : i < ds.length
    · obtain ⟨ad, y, hA, HY, hz1, hc0, hc1, hc2, hc3⟩ := (HR.out.below HB.out).at_ hlt
      cases hA
      have hli : (i : Int) < (ds.length : Int) := by omega
      by_cases hxy : (n, a1, a2, a3) = y
      · subst hxy
        have HE : Hid (hasSp ds (n, a1, a2, a3) = true) := hasSp_at HY.out
        dsimp only at hz1 hc0 hc1 hc2 hc3
        go_wp2
        go_quiet (fail)
        go_wp2
        go_ret
        exact ⟨⟨_, rfl, .inl ⟨by omega, HE.out⟩⟩, blwN (HAL.out.trans (HB.out.mono HAL.out.size)) _⟩
      · have HT2 : Hid (∀ (j : Nat) z, j < i + 1 → ds[j]? = some z → z ≠ (n, a1, a2, a3)) := fun j z hj h1 => by
          by_cases e : j = i
          · subst e
            rw [HY.out] at h1
            cases h1
            exact fun e => hxy e.symm
          · exact HT.out j z (by omega) h1
        obtain ⟨n', b1, b2, b3⟩ := y
        dsimp only at hz1 hc0 hc1 hc2 hc3
        have HD := sp_ne hxy
        clear hxy
        rcases HD with h0 | ⟨h0, h1⟩ | ⟨h0, h1, h2⟩ | ⟨h0, h1, h2, h3⟩
        · go_wp2
          go_quiet (fail)
          go_wp2
          go_roundw
          case rel => first | exact ⟨i + 1, by omega, by go_num, HT2, blwN HB.out _⟩ | (repeat (first | (refine ⟨?relx, rfl⟩; exact ⟨i + 1, by omega, by go_num, HT2, blwN HB.out _⟩) | (refine ⟨?relx, ?eqs⟩; (case eqs => (and_intros <;> rfl)); exact ⟨i + 1, by omega, by go_num, HT2, blwN HB.out _⟩) | apply Exists.intro))
          case measure => simp [intOf]; omega
        · go_wp2
          go_quiet (fail)
          go_wp2
          go_roundw
          case rel => first | exact ⟨i + 1, by omega, by go_num, HT2, blwN HB.out _⟩ | (repeat (first | (refine ⟨?relx, rfl⟩; exact ⟨i + 1, by omega, by go_num, HT2, blwN HB.out _⟩) | (refine ⟨?relx, ?eqs⟩; (case eqs => (and_intros <;> rfl)); exact ⟨i + 1, by omega, by go_num, HT2, blwN HB.out _⟩) | apply Exists.intro))
          case measure => simp [intOf]; omega
        · go_wp2
          go_quiet (fail)
          go_wp2
          go_roundw
          case rel => first | exact ⟨i + 1, by omega, by go_num, HT2, blwN HB.out _⟩ | (repeat (first | (refine ⟨?relx, rfl⟩; exact ⟨i + 1, by omega, by go_num, HT2, blwN HB.out _⟩) | (refine ⟨?relx, ?eqs⟩; (case eqs => (and_intros <;> rfl)); exact ⟨i + 1, by omega, by go_num, HT2, blwN HB.out _⟩) | apply Exists.intro))
          case measure => simp [intOf]; omega
        · go_wp2
          go_quiet (fail)
          go_wp2
          go_roundw
          case rel => first | exact ⟨i + 1, by omega, by go_num, HT2, blwN HB.out _⟩ | (repeat (first | (refine ⟨?relx, rfl⟩; exact ⟨i + 1, by omega, by go_num, HT2, blwN HB.out _⟩) | (refine ⟨?relx, ?eqs⟩; (case eqs => (and_intros <;> rfl)); exact ⟨i + 1, by omega, by go_num, HT2, blwN HB.out _⟩) | apply Exists.intro))
          case measure => simp [intOf]; omega
    · obtain rfl : i = ds.length := by omega
      have HN : Hid (hasSp ds (n, a1, a2, a3) = false) := hasSp_no HT.out
      go_wp2
      go_ret
      exact ⟨⟨_, rfl, .inr ⟨rfl, HN.out⟩⟩, HAL.out.trans (HB.out.mono HAL.out.size)⟩
set_option maxRecDepth 100000 in
theorem contains_Spot_calls (A : Option Addr) (c : Nat) (ds : List SpotD) (n : ByteArray) (a1 a2 a3 : Int) (w : World) (h : SpRow w A c ds) :
    Calls Tryz.prog 93 #[.slice A ds.length c, .agg #[.string n, .int .i64 a1, .int .i64 a2, .int .i64 a3]] w fun e w' => e = .returned (.bool (hasSp ds (n, a1, a2, a3))) ∧ Below w.heap.size w w' := by
  have HAL : Hid (Below w.heap.size w (w.alloc (.cells #[.string n, .int .i64 a1, .int .i64 a2, .int .i64 a3] 56))) := (Below.refl _ _).alloc (Nat.le_refl _) _
  have HX : Hid ((w.alloc (.cells #[.string n, .int .i64 a1, .int .i64 a2, .int .i64 a3] 56)).heap[w.heap.size]? = some (.cells #[.string n, .int .i64 a1, .int .i64 a2, .int .i64 a3] 56 (0, 0))) := blk_new _ _
  have HR := Lib.hid (h.below HAL.out)
  have x0 := blk_cell HX.out 0
  have x1 := blk_cell HX.out 1
  have x2 := blk_cell HX.out 2
  have x3 := blk_cell HX.out 3
  clear h
  go_enter Tryz.func93, Tryz.ntmps93
  go_wp2_with fail
  go_at_call 143
  refine (index_SpotOf_calls A c ds n a1 a2 a3 _ HR.out).mono ?_
  rintro e w1 ⟨⟨r, rfl, hr⟩, hb⟩
  have HB := Lib.hid (HAL.out.trans (hb.mono HAL.out.size))
  clear hb x0 x1 x2 x3
  rcases hr with ⟨h0, h1⟩ | ⟨rfl, h1⟩
  · have HE := Lib.hid h1
    have hge : decide (r ≥ 0) = true := decide_eq_true h0
    clear h1
    go_wp2
    go_ret
    exact ⟨by rw [HE.out]; rfl, HB.out⟩
  · have HE := Lib.hid h1
    clear h1
    go_wp2
    go_ret
    exact ⟨by rw [HE.out]; rfl, HB.out⟩
end Go.Proofs.YtaacpdejpcbbbaaGreatDoor

namespace Go.Proofs.YtaacpdejpcbbbaaGreatDoor
set_option linter.unusedVariables false
set_option linter.unusedSimpArgs false
open Go.RowKit
attribute [local go_sem] bs_size List.length_cons List.length_nil
theorem filt_any {α : Type} (P : α → Bool) : ∀ cs : List α, decide (0 < (cs.filter P).length) = cs.any P
  | [] => rfl
  | x :: r => by
    by_cases h : P x = true
    · rw [List.filter_cons_of_pos h, List.any_cons, h]
      simp
    · rw [List.filter_cons_of_neg h, List.any_cons, filt_any P r]
      simp [h]
theorem filt_yes {α : Type} {P : α → Bool} {cs : List α} {i : Nat} {x : α} (h : cs[i]? = some x) (hp : P x = true) : (cs.take (i + 1)).filter P = (cs.take i).filter P ++ [x] := by
  obtain ⟨hi, e⟩ := List.getElem?_eq_some_iff.1 h
  rw [List.take_succ_eq_append_getElem hi, List.filter_append, e, List.filter_cons_of_pos hp, List.filter_nil]
theorem filt_no {α : Type} {P : α → Bool} {cs : List α} {i : Nat} {x : α} (h : cs[i]? = some x) (hp : P x = false) : (cs.take (i + 1)).filter P = (cs.take i).filter P := by
  obtain ⟨hi, e⟩ := List.getElem?_eq_some_iff.1 h
  rw [List.take_succ_eq_append_getElem hi, List.filter_append, e, List.filter_cons_of_neg (by simp [hp]), List.filter_nil, List.append_nil]
theorem filt_len {α : Type} (P : α → Bool) (cs : List α) (i : Nat) : ((cs.take i).filter P).length ≤ i := Nat.le_trans (List.length_filter_le _ _) (by rw [List.length_take]; omega)
theorem chOwn_form {w : World} {B : Nat} {v : Value} {cs : List ChD} (h : ChOwn w B v cs) : ∃ A c, v = .slice A cs.length c := by
  rcases own_cells (f := chVals) (m := 3) (fun _ => rfl) h with ⟨rfl, rfl⟩ | ⟨g, cap, rfl, _⟩
  · exact ⟨none, 0, rfl⟩
  · exact ⟨_, cap, rfl⟩
set_option maxHeartbeats 4000000 in
set_option maxRecDepth 100000 in
theorem impl_toldOf_calls (A Ad Ac : Option Addr) (n0 c cd cc : Nat) (room act q : Int) (ds : List SpotD) (n sq at_ sz : Int) (cs : List ChD) (w : World) (hs : SpRow w Ad cd ds) (hc : ChRow w Ac cc cs) (hl : cs.length ≤ 1000000) :
    Calls Tryz.prog 42 #[.agg (engC A n0 c room act q Ad ds.length cd), .int .i64 n, .agg #[.int .i64 sq, .slice Ac cs.length cc, .int .i64 at_, .int .i64 sz]] w fun e w' => (∃ A' k c', e = .returned (.slice A' k c') ∧ decide (0 < k) = cs.any fun x => !x.2.2 && hasSp ds (x.1, n, at_, sq)) ∧ Below w.heap.size w w' := by
  obtain ⟨i0, hi0, hz, hsz, hby⟩ := info_parts info_ch
  have s1 : (w.alloc (.cells (engC A n0 c room act q Ad ds.length cd) 35)).heap.size = w.heap.size + 1 := by simp
  have HAL : Hid (Below w.heap.size w ((w.alloc (.cells (engC A n0 c room act q Ad ds.length cd) 35)).alloc (.cells #[.int .i64 sq, .slice Ac cs.length cc, .int .i64 at_, .int .i64 sz] 75))) := ((Below.refl _ _).alloc (Nat.le_refl _) _).alloc (by simp) _
  have HX : Hid (((w.alloc (.cells (engC A n0 c room act q Ad ds.length cd) 35)).alloc (.cells #[.int .i64 sq, .slice Ac cs.length cc, .int .i64 at_, .int .i64 sz] 75)).heap[w.heap.size]? = some (.cells (engC A n0 c room act q Ad ds.length cd) 35 (0, 0))) := by rw [Hid, Below.heap_alloc _ _ _ (by simp)]; exact blk_new _ _
  have HY : Hid (((w.alloc (.cells (engC A n0 c room act q Ad ds.length cd) 35)).alloc (.cells #[.int .i64 sq, .slice Ac cs.length cc, .int .i64 at_, .int .i64 sz] 75)).heap[w.heap.size + 1]? = some (.cells #[.int .i64 sq, .slice Ac cs.length cc, .int .i64 at_, .int .i64 sz] 75 (0, 0))) := by rw [Hid, ← s1]; exact blk_new _ _
  have HS := Lib.hid (hs.below HAL.out)
  have HC := Lib.hid (hc.below HAL.out)
  have y1 := blk_cell HY.out 1
  have hcn := hc.len
  clear hs hc s1
  obtain ⟨P, hP⟩ : ∃ P : ChD → Bool, P = fun x => !x.2.2 && hasSp ds (x.1, n, at_, sq) := ⟨_, rfl⟩
  have HPD := Lib.hid hP
  rw [← hP]
  clear hP
  go_enter Tryz.func42, Tryz.ntmps42
  go_wp2
  generalize (w.alloc (.cells (engC A n0 c room act q Ad ds.length cd) 35)).alloc (.cells #[.int .i64 sq, .slice Ac cs.length cc, .int .i64 at_, .int .i64 sz] 75) = W2 at HAL HX HY HS HC y1 ⊢
  clear y1
  go_loopw [7, 14] (fun ov iv wr => ∃ i : Nat, i ≤ cs.length ∧ iv = .int .i64 (i : Int) ∧ Hid (ChOwn wr W2.heap.size ov ((cs.take i).filter P)) ∧ Hid (Below W2.heap.size W2 wr)) (fun _ iv _ => cs.length - (intOf iv).toNat)
  case atStart => exact ⟨0, Nat.zero_le _, rfl, World.ownsRow_nil .., Below.refl _ _⟩
  case round =>
    obtain ⟨i, hi, rfl, HO, HB⟩ := hrel
    rename World => w6
    obtain ⟨A2, c2, hv⟩ := chOwn_form HO.out
    subst hv
    by_cases hlt : i < cs.length
    · obtain ⟨ad, x, hA, HX6, hz1, hz2, hc0, hc1, hc2⟩ := (HC.out.below HB.out).at_ (k := i) hlt
      cases hA
      have HAL2 : Hid (Below w6.heap.size w6 (w6.alloc (.cells #[.string x.1, .string x.2.1, .bool x.2.2] 121))) := (Below.refl _ _).alloc (Nat.le_refl _) _
      have HBX : Hid ((w6.alloc (.cells #[.string x.1, .string x.2.1, .bool x.2.2] 121)).heap[w6.heap.size]? = some (.cells #[.string x.1, .string x.2.1, .bool x.2.2] 121 (0, 0))) := blk_new _ _
      have HO2 : Hid (ChOwn (w6.alloc (.cells #[.string x.1, .string x.2.1, .bool x.2.2] 121)) W2.heap.size (.slice A2 ((cs.take i).filter P).length c2) ((cs.take i).filter P)) := HO.out.below HAL2.out
      have HB2 := Lib.hid (HB.out.trans (HAL2.out.mono HB.out.size))
      have hil : (i : Int) < (cs.length : Int) := by omega
      have HFL := Lib.hid (filt_len P cs i)
      cases hg : x.2.2 with
      | true =>
        have HNX : Hid ((cs.take (i + 1)).filter P = (cs.take i).filter P) := filt_no HX6.out (by rw [HPD.out]; dsimp only; rw [hg]; rfl)
        obtain ⟨ck, cv, cg⟩ := x
        dsimp only at hg hz1 hz2 hc0 hc1 hc2 HAL2 HBX HO2 HB2
        subst hg
        have z2 := blk_cell HBX.out 2
        have HO3 : Hid (ChOwn (w6.alloc (.cells #[.string ck, .string cv, .bool true] 121)) W2.heap.size (.slice A2 ((cs.take i).filter P).length c2) ((cs.take (i + 1)).filter P)) := by rw [Hid, HNX.out]; exact HO2.out
        clear HO HO2
        go_wp2
        go_roundw
        case rel => first | exact ⟨i + 1, by omega, by go_num, HO3, HB2⟩ | (repeat (first | (refine ⟨?relx, rfl⟩; exact ⟨i + 1, by omega, by go_num, HO3, HB2⟩) | (refine ⟨?relx, ?eqs⟩; (case eqs => (and_intros <;> rfl)); exact ⟨i + 1, by omega, by go_num, HO3, HB2⟩) | apply Exists.intro))
        case measure => simp [intOf]; omega
      | false =>
        have HPX : Hid (P x = hasSp ds (x.1, n, at_, sq)) := by rw [Hid, HPD.out]; dsimp only; rw [hg]; rfl
        have HPY : Hid (hasSp ds (x.1, n, at_, sq) = true → (cs.take (i + 1)).filter P = (cs.take i).filter P ++ [x]) := fun h => filt_yes HX6.out (HPX.out.trans h)
        have HPN : Hid (hasSp ds (x.1, n, at_, sq) = false → (cs.take (i + 1)).filter P = (cs.take i).filter P) := fun h => filt_no HX6.out (HPX.out.trans h)
        obtain ⟨ck, cv, cg⟩ := x
        dsimp only at hg hz1 hz2 hc0 hc1 hc2 HAL2 HBX HO2 HB2 HPY HPN
        subst hg
        have z0 := blk_cell HBX.out 0
        have z2 := blk_cell HBX.out 2
        have e4 := blk_cell (blk_below HX.out HB2.out) 4
        have p1 := blk_cell (blk_below HY.out HB2.out) 0
        have p2 := blk_cell (blk_below HY.out HB2.out) 2
        clear HO HPX HX6
        generalize (cs.take i).filter P = F at HO2 HPY HPN HFL
        go_wp2_with fail
        go_at_call 93
        refine (contains_Spot_calls Ad cd ds ck n at_ sq _ (HS.out.below HB2.out)).mono ?_
        rintro e w7 ⟨rfl, hb⟩
        have HB7 := Lib.hid (HB2.out.trans (hb.mono HB2.out.size))
        have HO7 := Lib.hid (HO2.out.below hb)
        have HBX7 := Lib.hid (blk_below HBX.out hb)
        clear hb z0 z2 e4 p1 p2 HO2 HBX HB2 HAL2
        cases hh : hasSp ds (ck, n, at_, sq) with
        | false =>
          have HO3 : Hid (ChOwn w7 W2.heap.size (.slice A2 F.length c2) ((cs.take (i + 1)).filter P)) := by rw [Hid, HPN.out hh]; exact HO7.out
          clear hh
          go_wp2
          go_roundw
          case rel => first | exact ⟨i + 1, by omega, by go_num, HO3, HB7⟩ | (repeat (first | (refine ⟨?relx, rfl⟩; exact ⟨i + 1, by omega, by go_num, HO3, HB7⟩) | (refine ⟨?relx, ?eqs⟩; (case eqs => (and_intros <;> rfl)); exact ⟨i + 1, by omega, by go_num, HO3, HB7⟩) | apply Exists.intro))
          case measure => simp [intOf]; omega
        | true =>
          have HT := Lib.hid (HPY.out hh)
          have z0 := blk_cell HBX7.out 0
          have z1 := blk_cell HBX7.out 1
          have z2 := blk_cell HBX7.out 2
          have HAL3 : Hid (Below w7.heap.size w7 (w7.alloc (.cells #[.string ck, .string cv, .bool false] 121))) := (Below.refl _ _).alloc (Nat.le_refl _) _
          have HOWN := Lib.hid (HO7.out.below HAL3.out)
          have HBASE := Lib.hid (Nat.le_trans HB7.out.size HAL3.out.size)
          have HNEWS : Hid (∀ j u, (chVals (ck, cv, false))[j]? = some u → (w7.alloc (.cells #[.string ck, .string cv, .bool false] 121)).cell? ((⟨w7.heap.size, 0, none⟩ : Addr).add j) = some u) := World.news_of_block (heap_alloc_new w7 _)
          have hfl : F.length ≤ 1000000 := Nat.le_trans HFL.out (by omega)
          clear hh HPY HPN
          go_wp2_with (at_builtin; refine wpList_append_lies _ rfl _ _ _ rfl W2.heap.size 121 i0 (.agg #[.string ⟨#[]⟩, .string ⟨#[]⟩, .bool false]) 3 40 Tryz.underlying60 hi0 hz hsz hby rfl (by omega) (.slice A2 F.length c2) F.length (chFlat F) rfl HOWN.out ⟨w7.heap.size, 0, none⟩ 1 1 (chVals (ck, cv, false)) rfl rfl HNEWS.out (by simp [Value.oneCell', chVals]) (by omega) (by unfold maxLen; omega) (by omega) HBASE.out _ rfl ?_; intro gg cap w8 hown hgrow hat hlt3; have HPU : Hid (ChOwn w8 W2.heap.size (.slice (some ⟨gg, 0, none⟩) (F.length + 1) cap) (F ++ [(ck, cv, false)])) := (by rw [Hid, ChOwn, chFlat_snoc, List.length_append]; exact hown); have HB8 := Lib.hid ((HB7.out.trans (HAL3.out.mono HB7.out.size)).grown hgrow HBASE.out (fun k e => (HOWN.out.lt k e).1)); clear hown hgrow hat)
          have HO3 : Hid (ChOwn w8 W2.heap.size (.slice (some ⟨gg, 0, none⟩) (F.length + 1) cap) ((cs.take (i + 1)).filter P)) := by rw [Hid, HT.out]; exact HPU.out
          go_roundw
          case rel => first | exact ⟨i + 1, by omega, by go_num, HO3, HB8⟩ | (repeat (first | (refine ⟨?relx, rfl⟩; exact ⟨i + 1, by omega, by go_num, HO3, HB8⟩) | (refine ⟨?relx, ?eqs⟩; (case eqs => (and_intros <;> rfl)); exact ⟨i + 1, by omega, by go_num, HO3, HB8⟩) | apply Exists.intro))
          case measure => simp [intOf]; omega
    · obtain rfl : i = cs.length := by omega
      rw [List.take_length] at HO
      have HAN := Lib.hid (filt_any P cs)
      go_wp2
      go_ret
      exact ⟨⟨_, _, _, by rw [List.take_length]; rfl, HAN.out⟩, HAL.out.trans (HB.out.mono HAL.out.size)⟩
end Go.Proofs.YtaacpdejpcbbbaaGreatDoor

namespace Go.Proofs.YtaacpdejpcbbbaaGreatDoor
set_option linter.unusedVariables false
set_option linter.unusedSimpArgs false
open Go.RowKit
attribute [local go_sem] bs_size List.length_cons List.length_nil

def liveB (fs : List FiD) (room a q : Int) (ds : List SpotD) : Int := if okB fs room a q ds = true then (liveI fs ds : Int) else 0
theorem sum_step {α : Type} (f : α → Nat) {l : List α} {i : Nat} {x : α} (h : l[i]? = some x) : ((l.take (i + 1)).map f).sum = ((l.take i).map f).sum + f x := by
  obtain ⟨hi, e⟩ := List.getElem?_eq_some_iff.1 h
  rw [List.take_succ_eq_append_getElem hi, List.map_append, List.sum_append, e]
  simp
theorem bat_size {fs : List FiD} {n : Nat} (hd : diskOkB fs = true) {p : PlD} (hp : p ∈ batsAt fs n) : p.2.2 ≤ 9020 := by
  obtain ⟨j, hj, rfl⟩ := List.getElem_of_mem hp
  obtain ⟨_, r, _, h2, h3⟩ := l07_at (n := n) hd (List.getElem?_eq_getElem hj)
  rw [h3]
  exact frameLen_le h2.2
set_option maxHeartbeats 16000000 in
set_option maxRecDepth 100000 in
theorem impl_LiveBytes_calls (b c : Nat) (Ad : Option Addr) (cd : Nat) (fs : List FiD) (room a q : Int) (ds : List SpotD) (w : World) (h : FiRow w (some ⟨b, 0, none⟩) c fs) (hs : SpRow w Ad cd ds) (hP : Pow w) (hE : Sent w) :
    Calls Tryz.prog 16 #[.agg (engC (some ⟨b, 0, none⟩) fs.length c room a q Ad ds.length cd)] w fun e w' => e = .returned (.int .i64 (liveB fs room a q ds)) ∧ Below w.heap.size w w' := by
  have HAL : Hid (Below w.heap.size w (w.alloc (engCO (some ⟨b, 0, none⟩) fs.length c room a q Ad ds.length cd))) := (Below.refl _ _).alloc (Nat.le_refl _) _
  have H1 : Hid ((w.alloc (engCO (some ⟨b, 0, none⟩) fs.length c room a q Ad ds.length cd)).heap[w.heap.size]? = some (engCO (some ⟨b, 0, none⟩) fs.length c room a q Ad ds.length cd)) := blk_new _ _
  have HF := Lib.hid h
  have HS := Lib.hid hs
  have HPE : Hid (Pow w ∧ Sent w) := ⟨hP, hE⟩
  have HOK := Lib.hid (impl_EngineOk_calls b c Ad cd fs room a q ds _ (h.below HAL.out) (hs.below HAL.out) (hP.below HAL.out) (sentC hE HAL.out))
  have HU : Hid (liveB fs room a q ds = if okB fs room a q ds = true then (liveI fs ds : Int) else 0) := rfl
  have HDK : Hid (okB fs room a q ds = true → diskOkB fs = true) := fun h => (ok_disk h).1
  have p0 := blk_cell H1.out 0
  have p1 := blk_cell H1.out 1
  have p2 := blk_cell H1.out 2
  have p3 := blk_cell H1.out 3
  have p4 := blk_cell H1.out 4
  clear h hs hP hE
  generalize okB fs room a q ds = ok at HOK HU HDK
  generalize liveB fs room a q ds = us at HU ⊢
  go_enter Tryz.func16, Tryz.ntmps16
  go_wp2_with fail
  go_at_call 11
  refine HOK.out.mono ?_
  rintro e w1 ⟨rfl, hb⟩
  have HB1 := Lib.hid (HAL.out.trans (hb.mono HAL.out.size))
  have K1 := Lib.hid (blk_below H1.out hb)
  have q0 := blk_cell K1.out 0
  clear hb p0 p1 p2 p3 p4 HOK HAL H1
  cases ok
  · have HUE : Hid (us = 0) := HU.out
    go_wp2
    go_ret
    exact ⟨by rw [HUE.out]; rfl, HB1.out⟩
  · have HUE : Hid (us = (liveI fs ds : Int)) := HU.out
    have HDT : Hid (diskOkB fs = true) := HDK.out rfl
    have HDS : Hid (∀ i n, (segsB fs)[i]? = some n → diskOkB fs = true ∧ n ≤ 99) := fun i n hi => segs_disk hi
    have hsl := segs_len fs
    have HSP := Lib.hid (impl_Segments_calls (some ⟨b, 0, none⟩) c fs _ (HF.out.below HB1.out) (HPE.out.1.below HB1.out) (sentB HPE.out.2 HB1.out))
    unfold SegsPost at HSP
    have HLI : Hid (liveI fs ds = ((segsB fs).map (liveN fs ds)).sum) := rfl
    clear HDK HU
    generalize segsB fs = L at HDS hsl HSP HLI
    go_wp2_with fail
    go_at_call 38
    refine HSP.out.mono ?_
    rintro e w2 ⟨v1, rfl, ho1, hb1⟩
    obtain ⟨A1, c1, hv1⟩ := ho1.form
    rw [List.length_map] at hv1
    subst hv1
    have HB2 := Lib.hid (HB1.out.trans (hb1.mono HB1.out.size))
    have K2 := Lib.hid (blk_below K1.out hb1)
    have HR2 := Lib.hid ho1
    clear ho1 hb1 q0 HSP K1
    go_wp2
    go_loopw [3, 26] (fun nv iv wr => ∃ i s : Nat, i ≤ L.length ∧ iv = .int .i64 (i : Int) ∧ nv = .int .i64 (s : Int) ∧ s ≤ 200000000 * i ∧ Hid (s = ((L.take i).map (liveN fs ds)).sum) ∧ Hid (Below w2.heap.size w2 wr)) (fun _ iv _ => L.length - (intOf iv).toNat)
    case atStart => exact ⟨0, 0, Nat.zero_le _, rfl, rfl, by omega, rfl, Below.refl _ _⟩
    case round =>
      obtain ⟨i, s, hi, rfl, rfl, hs, HSM, HB⟩ := hrel
      rename World => wa
      by_cases hlt : i < L.length
      · obtain ⟨m, hm⟩ : ∃ m, L[i]? = some m := ⟨_, List.getElem?_eq_getElem hlt⟩
        have hdm := HDS.out i m hm
        have HNX : Hid (((L.take (i + 1)).map (liveN fs ds)).sum = s + liveN fs ds m) := by rw [Hid, sum_step _ hm, HSM.out]
        obtain ⟨b1, hA1, hc1⟩ := (HR2.out.below HB.out).at_ (j := i) (x := (m : Int)) (by rw [List.getElem?_map, hm]; rfl)
        subst hA1
        have HVD : Hid (Below w.heap.size w wa.drew) := (HB2.out.trans (HB.out.mono HB2.out.size)).trans ((Below.drew (Below.refl _ _)).mono (HB2.out.trans (HB.out.mono HB2.out.size)).size)
        have HKD : Hid (wa.drew.heap[w.heap.size]? = some (engCO (some ⟨b, 0, none⟩) fs.length c room a q Ad ds.length cd)) := blk_below (blk_below K2.out HB.out) (Below.drew (Below.refl _ _))
        have HBD : Hid (Below w2.heap.size w2 wa.drew) := HB.out.trans ((Below.drew (Below.refl _ _)).mono HB.out.size)
        have HPP := Lib.hid (HPE.out.1.below HVD.out)
        obtain ⟨t, ht⟩ : ∃ t, (fileB fs (segNm (m : Int))).getD ⟨#[]⟩ = t := ⟨_, rfl⟩
        have hts : t.size ≤ 20000 := by rw [← ht]; exact get_small hdm.1
        obtain ⟨f, okp, hpl⟩ := plUni fs m t ht
        have HPL := Lib.hid hpl
        have hres := fiRes_get (fileB fs (segNm (m : Int)))
        rw [ht] at hres
        generalize (fileB fs (segNm (m : Int))).isSome = ob at hres
        have HRES := Lib.hid hres
        obtain ⟨hbl, hcs⟩ := pl_parts (fs := fs) hdm.2
        have HDE : Hid (liveN fs ds m = ((batsAt fs m).map (liveP ds m)).sum) := rfl
        have HZS : Hid (∀ p ∈ batsAt fs m, p.2.2 ≤ 9020) := fun p hp => bat_size HDT.out hp
        generalize batsAt fs m = pls at hbl hcs HDE HPL HZS
        have HCS := Lib.hid hcs
        have hm99 := hdm.2
        have hil : (i : Int) < (L.length : Int) := by omega
        clear hm hdm ht hpl hres hcs HB HSM
        go_wp2_with fail
        go_region_held3 (fun w' => w'.cell? ⟨w.heap.size, 0, none⟩ = some (.slice (some ⟨b, 0, none⟩) fs.length c) ∧ Hid (Below wa.drew.heap.size wa.drew w')) (first | exact ⟨blk_cell HKD.out 0, Below.refl _ _⟩ | exact ⟨blk_cell (blk_below HKD.out hb5) 0, hb5⟩ | exact ⟨blk_cell (blk_below (blk_below HKD.out hb5) hb6) 0, hb5.trans (hb6.mono hb5.size)⟩) (first | (go_at_call 40; refine (impl_SegNm_calls (m : Int) _ HPP.out).mono ?_; rintro e w' ⟨rfl, hb5⟩) | (go_at_call 39; refine (impl_FileAt_calls (segNm (m : Int)) (some ⟨b, 0, none⟩) c fs _ (HF.out.below (HVD.out.trans (hb5.mono HVD.out.size)))).mono ?_; rw [HRES.out]; rintro e w'' ⟨rfl, hb6⟩))
        obtain ⟨_, HXV⟩ := ‹_ ∧ Hid (Below wa.drew.heap.size wa.drew _)›
        have HB3 := Lib.hid (HBD.out.trans (HXV.out.mono HBD.out.size))
        clear HXV hb5 hb6
        go_wp2_with fail
        go_at_call 41
        refine (impl_placedIn_calls (m : Int) t _ (by omega)).mono ?_
        rintro e w8 hp
        obtain ⟨v8, rfl, ho8, hb8⟩ := HPL.out _ _ _ hp
        obtain ⟨A8, c8, hv8⟩ := ListC.form ho8
        subst hv8
        have HO8 := Lib.hid ho8
        have HB8 := Lib.hid (HB3.out.trans (hb8.mono HB3.out.size))
        clear hp ho8 hb8 HB3 HBD HKD HVD HPP
        go_wp2
        go_loopw [3, 47] (fun nv kv wr2 => ∃ k u : Nat, k ≤ pls.length ∧ kv = .int .i64 (k : Int) ∧ nv = .int .i64 (u : Int) ∧ u ≤ s + 9020 * k ∧ Hid (u = s + ((pls.take k).map (liveP ds m)).sum) ∧ Hid (Below w8.heap.size w8 wr2)) (fun _ kv _ => pls.length - (intOf kv).toNat)
        case atStart => exact ⟨0, s, Nat.zero_le _, rfl, rfl, by omega, rfl, Below.refl _ _⟩
        case round =>
          obtain ⟨k, u, hk, rfl, rfl, hu, HUM, HC⟩ := hrel
          rename World => w6
          by_cases hlt2 : k < pls.length
          · obtain ⟨⟨⟨sq, cs⟩, at_, z⟩, hp⟩ : ∃ p, pls[k]? = some p := ⟨_, List.getElem?_eq_getElem hlt2⟩
            obtain ⟨g, uv, hA8, hcc, huv, hsm⟩ := ListC.at_ (ListC.below HO8.out HC.out) (fun _ => rfl) hp
            subst hA8
            obtain ⟨Au, cu, hform, hrow⟩ := huv.row hsm
            dsimp only at hform hrow
            subst hform
            have k0 := hcc 0 (by omega)
            have k1 := hcc 1 (by omega)
            have k2 := hcc 2 (by omega)
            have k3 := hcc 3 (by omega)
            simp only [plVals, Nat.add_zero, List.getElem?_cons_zero, List.getElem?_cons_succ] at k0 k1 k2 k3
            obtain ⟨hcl, _⟩ := HCS.out _ (List.mem_of_getElem? hp)
            have hzz := HZS.out _ (List.mem_of_getElem? hp)
            dsimp only at hcl hzz
            have HNX2 : Hid (((pls.take (k + 1)).map (liveP ds m)).sum = ((pls.take k).map (liveP ds m)).sum + liveP ds m ((sq, cs), at_, z)) := sum_step _ hp
            have HLP : Hid (liveP ds m ((sq, cs), at_, z) = if (cs.any fun x => !x.2.2 && hasSp ds (x.1, (m : Int), (at_ : Int), sq)) = true then z else 0) := rfl
            have HAL : Hid (Below w6.heap.size w6 (w6.alloc (.cells #[.int .i64 sq, .slice Au cs.length cu, .int .i64 (at_ : Int), .int .i64 (z : Int)] 75))) := (Below.refl _ _).alloc (Nat.le_refl _) _
            have HBX : Hid ((w6.alloc (.cells #[.int .i64 sq, .slice Au cs.length cu, .int .i64 (at_ : Int), .int .i64 (z : Int)] 75)).heap[w6.heap.size]? = some (.cells #[.int .i64 sq, .slice Au cs.length cu, .int .i64 (at_ : Int), .int .i64 (z : Int)] 75 (0, 0))) := blk_new _ _
            have HROW := Lib.hid (hrow.below HAL.out)
            have HC2 := Lib.hid (HC.out.trans (HAL.out.mono HC.out.size))
            have HW2 := Lib.hid (HB8.out.trans (HC2.out.mono HB8.out.size))
            have HWW := Lib.hid (HB2.out.trans (HW2.out.mono HB2.out.size))
            have HK6 := Lib.hid (blk_below K2.out HW2.out)
            have hkl : (k : Int) < (pls.length : Int) := by omega
            have x0 := blk_cell HBX.out 0
            have x1 := blk_cell HBX.out 1
            have x2 := blk_cell HBX.out 2
            have x3 := blk_cell HBX.out 3
            have e0 := blk_cell HK6.out 0
            have e1 := blk_cell HK6.out 1
            have e2 := blk_cell HK6.out 2
            have e3 := blk_cell HK6.out 3
            have e4 := blk_cell HK6.out 4
            clear hp hcc huv hsm hrow
            have HTO : Hid (∀ W, SpRow W Ad cd ds → ChRow W Au cu cs → Calls Tryz.prog 42 #[.agg (engC (some ⟨b, 0, none⟩) fs.length c room a q Ad ds.length cd), .int .i64 (m : Int), .agg #[.int .i64 sq, .slice Au cs.length cu, .int .i64 (at_ : Int), .int .i64 (z : Int)]] W fun e w' => (∃ A' k c', e = .returned (.slice A' k c') ∧ decide (0 < k) = cs.any fun x => !x.2.2 && hasSp ds (x.1, (m : Int), (at_ : Int), sq)) ∧ Below W.heap.size W w') := fun W h1 h2 => impl_toldOf_calls _ Ad Au _ c cd cu room a q ds m sq at_ z cs W h1 h2 (by omega)
            generalize (cs.any fun x => !x.2.2 && hasSp ds (x.1, (m : Int), (at_ : Int), sq)) = told at HLP HTO
            go_wp2_with fail
            go_at_call 42
            refine (HTO.out _ (HS.out.below HWW.out) HROW.out).mono ?_
            rintro e w7 ⟨⟨A7, k7, c7, rfl, hk7⟩, hb7⟩
            have HC7 := Lib.hid (HC2.out.trans (hb7.mono HC2.out.size))
            have HBX7 := Lib.hid (blk_below HBX.out hb7)
            clear hb7 x0 x1 x2 x3 e0 e1 e2 e3 e4 HTO k0 k1 k2 k3 HROW HBX HC2
            cases told with
            | true =>
              have HLQ : Hid (u + z = s + ((pls.take (k + 1)).map (liveP ds m)).sum) := by rw [Hid, HNX2.out, HLP.out, if_pos rfl, HUM.out]; omega
              have hk8 : (0 : Int) < (k7 : Int) := by have := of_decide_eq_true hk7; omega
              have x3 := blk_cell HBX7.out 3
              clear hk7 HNX2 HLP HUM
              go_wp2
              go_roundw
              case rel => first | exact ⟨k + 1, u + z, by omega, by go_num, by go_num, by omega, HLQ, HC7⟩ | (repeat (first | (refine ⟨?relx, rfl⟩; exact ⟨k + 1, u + z, by omega, by go_num, by go_num, by omega, HLQ, HC7⟩) | (refine ⟨?relx, ?eqs⟩; (case eqs => (and_intros <;> rfl)); exact ⟨k + 1, u + z, by omega, by go_num, by go_num, by omega, HLQ, HC7⟩) | apply Exists.intro))
              case measure => simp [intOf]; omega
            | false =>
              have HLQ : Hid (u = s + ((pls.take (k + 1)).map (liveP ds m)).sum) := by rw [Hid, HNX2.out, HLP.out, if_neg Bool.false_ne_true, HUM.out]; omega
              have hk8 : ¬ (0 : Int) < (k7 : Int) := by have := of_decide_eq_false hk7; omega
              clear hk7 HNX2 HLP HUM
              go_wp2
              go_roundw
              case rel => first | exact ⟨k + 1, u, by omega, by go_num, rfl, by omega, HLQ, HC7⟩ | (repeat (first | (refine ⟨?relx, rfl⟩; exact ⟨k + 1, u, by omega, by go_num, rfl, by omega, HLQ, HC7⟩) | (refine ⟨?relx, ?eqs⟩; (case eqs => (and_intros <;> rfl)); exact ⟨k + 1, u, by omega, by go_num, rfl, by omega, HLQ, HC7⟩) | apply Exists.intro))
              case measure => simp [intOf]; omega
          · obtain rfl : k = pls.length := by omega
            rw [List.take_length] at HUM
            have hkl : ¬ (pls.length : Int) < (pls.length : Int) := by omega
            have HSM2 : Hid (u = ((L.take (i + 1)).map (liveN fs ds)).sum) := by rw [Hid, HNX.out, HDE.out, HUM.out]
            have HB9 := Lib.hid (HB8.out.trans (HC.out.mono HB8.out.size))
            go_wp2
            go_roundw
            case rel => first | exact ⟨i + 1, u, by omega, by go_num, rfl, by omega, HSM2, HB9⟩ | (repeat (first | (refine ⟨?relx, rfl⟩; exact ⟨i + 1, u, by omega, by go_num, rfl, by omega, HSM2, HB9⟩) | (refine ⟨?relx, ?eqs⟩; (case eqs => (and_intros <;> rfl)); exact ⟨i + 1, u, by omega, by go_num, rfl, by omega, HSM2, HB9⟩) | apply Exists.intro))
            case measure => simp [intOf]; omega
      · obtain rfl : i = L.length := by omega
        rw [List.take_length] at HSM
        have HE : Hid (us = (s : Int)) := by rw [Hid, HUE.out, HLI.out, HSM.out]
        go_wp2
        go_ret
        exact ⟨by rw [HE.out]; rfl, HB2.out.trans (HB.out.mono HB2.out.size)⟩
end Go.Proofs.YtaacpdejpcbbbaaGreatDoor

namespace Go.Proofs.YtaacpdejpcbbbaaGreatDoor
set_option linter.unusedVariables false
set_option linter.unusedSimpArgs false
open Go.RowKit
attribute [local go_sem] bs_size List.length_cons List.length_nil

theorem sumF_snoc {f : Int × Int → Nat} : ∀ (l seen : List (Int × Int)) (k : Int × Int), sumF f seen (l ++ [k]) = sumF f seen l + (if k ∈ seen ++ l then 0 else f k)
  | [], seen, k => by simp [sumF]
  | x :: l, seen, k => by
    rw [List.cons_append, sumF, sumF, sumF_snoc l (seen ++ [x]) k, List.append_assoc, List.singleton_append]
    omega
theorem live_step {fs : List FiD} {ds : List SpotD} {i : Nat} {x : SpotD} (h : ds[i]? = some x) : sumF (szAt fs) [] ((ds.take (i + 1)).map atSp) = sumF (szAt fs) [] ((ds.take i).map atSp) + (if atSp x ∈ (ds.take i).map atSp then 0 else szAt fs (atSp x)) := by
  obtain ⟨hi, e⟩ := List.getElem?_eq_some_iff.1 h
  rw [List.take_succ_eq_append_getElem hi, List.map_append, List.map_cons, List.map_nil, sumF_snoc, List.nil_append, e]
/-- Whether one of the spots stands at the place. -/
def seenB (ds : List SpotD) (x : SpotD) (j : Nat) : Bool := decide (atSp x ∈ (ds.take j).map atSp)
theorem seen_step {ds : List SpotD} {x y : SpotD} {j : Nat} (h : ds[j]? = some y) : seenB ds x (j + 1) = (seenB ds x j || (decide (y.2.1 = x.2.1) && decide (y.2.2.1 = x.2.2.1))) := by
  obtain ⟨hj, e⟩ := List.getElem?_eq_some_iff.1 h
  unfold seenB
  rw [List.take_succ_eq_append_getElem hj, List.map_append, List.map_cons, List.map_nil, e]
  rw [← Bool.decide_and, ← Bool.decide_or]
  congr 1
  rw [List.mem_append, List.mem_singleton]
  unfold atSp
  rw [Prod.mk.injEq]
  exact propext ⟨fun h => h.imp id fun e => ⟨e.1.symm, e.2.symm⟩, fun h => h.imp id fun e => ⟨e.1.symm, e.2.symm⟩⟩
theorem spot_at {fs : List FiD} (hd : diskOkB fs = true) {x : SpotD} (hx : x ∈ dirB fs) : ∃ (q : Int) (cs : List ChD) (r : ByteArray), l07B fs x.2.1 x.2.2.1 = some (q, cs) ∧ batText (q, cs) = some (ub r) ∧ (1 ≤ r.size ∧ r.size ≤ 9000) ∧ szAt fs (atSp x) = frameLen r := by
  obtain ⟨n, hn, p, hp, c, _, _, rfl⟩ := dirB_from fs x hx
  obtain ⟨j, hj, e⟩ := List.getElem_of_mem hp
  obtain ⟨h1, r, h2, h3, h4⟩ := l07_at hd (n := n) (j := j) (p := p) (by rw [List.getElem?_eq_getElem hj, e])
  obtain ⟨⟨q, cs⟩, a, z⟩ := p
  refine ⟨q, cs, r, h1, h2, h3, ?_⟩
  unfold szAt atSp
  dsimp only at h1 h2 ⊢
  rw [h1]
  dsimp only
  rw [h2]
  dsimp only
  rw [bs_ub]
theorem lv_keep {W W' : World} {a b c d : Addr} {x y u v : Value} (h : W.cell? a = some x ∧ W.cell? b = some y ∧ W.cell? c = some u ∧ W.cell? d = some v) (hb : Below W.heap.size W W') : W'.cell? a = some x ∧ W'.cell? b = some y ∧ W'.cell? c = some u ∧ W'.cell? d = some v ∧ Hid (Below W.heap.size W W') :=
  ⟨(hb.cell (World.block_lt_of_cell? W _ h.1)).trans h.1, (hb.cell (World.block_lt_of_cell? W _ h.2.1)).trans h.2.1, (hb.cell (World.block_lt_of_cell? W _ h.2.2.1)).trans h.2.2.1, (hb.cell (World.block_lt_of_cell? W _ h.2.2.2)).trans h.2.2.2, hb⟩
set_option maxHeartbeats 16000000 in
set_option maxRecDepth 100000 in
theorem spec_LiveBytes_calls (b c : Nat) (Ad : Option Addr) (cd : Nat) (fs : List FiD) (room a q : Int) (ds : List SpotD) (w : World) (h : FiRow w (some ⟨b, 0, none⟩) c fs) (hs : SpRow w Ad cd ds) :
    Calls Tryz.prog 15 #[.agg (engC (some ⟨b, 0, none⟩) fs.length c room a q Ad ds.length cd)] w fun e w' => e = .returned (.int .i64 (liveB fs room a q ds)) ∧ Below w.heap.size w w' := by
  have HAL : Hid (Below w.heap.size w (w.alloc (engCO (some ⟨b, 0, none⟩) fs.length c room a q Ad ds.length cd))) := (Below.refl _ _).alloc (Nat.le_refl _) _
  have H1 : Hid ((w.alloc (engCO (some ⟨b, 0, none⟩) fs.length c room a q Ad ds.length cd)).heap[w.heap.size]? = some (engCO (some ⟨b, 0, none⟩) fs.length c room a q Ad ds.length cd)) := blk_new _ _
  have HF := Lib.hid h
  have HS := Lib.hid hs
  have HOK := Lib.hid (spec_EngineOk_calls b c Ad cd fs room a q ds _ (h.below HAL.out) (hs.below HAL.out))
  have HU : Hid (liveB fs room a q ds = if okB fs room a q ds = true then (liveI fs ds : Int) else 0) := rfl
  have HDK : Hid (okB fs room a q ds = true → diskOkB fs = true ∧ liveI fs ds = sumF (szAt fs) [] (ds.map atSp) ∧ ds.length ≤ 80000000 ∧ ∀ x ∈ ds, ∃ (q : Int) (cs : List ChD) (r : ByteArray), l07B fs x.2.1 x.2.2.1 = some (q, cs) ∧ batText (q, cs) = some (ub r) ∧ (1 ≤ r.size ∧ r.size ≤ 9000) ∧ szAt fs (atSp x) = frameLen r) := fun h => by
    obtain ⟨h1, _, _, e⟩ := ok_disk h
    rw [e]
    exact ⟨h1, live_eq h1, dirB_len fs, fun x hx => spot_at h1 hx⟩
  have p0 := blk_cell H1.out 0
  have p1 := blk_cell H1.out 1
  have p2 := blk_cell H1.out 2
  have p3 := blk_cell H1.out 3
  have p4 := blk_cell H1.out 4
  clear h hs
  generalize okB fs room a q ds = ok at HOK HU HDK
  generalize liveB fs room a q ds = us at HU ⊢
  go_enter Tryz.func15, Tryz.ntmps15
  go_wp2_with fail
  go_at_call 9
  refine HOK.out.mono ?_
  rintro e w1 ⟨rfl, hb⟩
  have HB1 := Lib.hid (HAL.out.trans (hb.mono HAL.out.size))
  have K1 := Lib.hid (blk_below H1.out hb)
  clear hb p0 p1 p2 p3 p4 HOK HAL H1
  cases ok
  · have HUE : Hid (us = 0) := HU.out
    go_wp2
    go_ret
    exact ⟨by rw [HUE.out]; rfl, HB1.out⟩
  · have HUE : Hid (us = (liveI fs ds : Int)) := HU.out
    obtain ⟨hdt, hli, hdl, hat⟩ := HDK.out rfl
    have HDT := Lib.hid hdt
    have HLI := Lib.hid hli
    have HAT := Lib.hid hat
    clear hdt hli hat HDK HU
    go_wp2
    go_loopw [3, 4] (fun nv iv wr => ∃ i s : Nat, i ≤ ds.length ∧ iv = .int .i64 (i : Int) ∧ nv = .int .i64 (s : Int) ∧ s ≤ 9020 * i ∧ Hid (s = sumF (szAt fs) [] ((ds.take i).map atSp)) ∧ Hid (Below w1.heap.size w1 wr)) (fun _ iv _ => ds.length - (intOf iv).toNat)
    case atStart => exact ⟨0, 0, Nat.zero_le _, rfl, rfl, by omega, rfl, Below.refl _ _⟩
    case round =>
      obtain ⟨i, s, hi, rfl, rfl, hs, HSM, HB⟩ := hrel
      rename World => w2
      have K2 := Lib.hid (blk_below K1.out HB.out)
      have q0 := blk_cell K2.out 0
      have q4 := blk_cell K2.out 4
      by_cases hlt : i < ds.length
      · have HB2 := Lib.hid (HB1.out.trans (HB.out.mono HB1.out.size))
        obtain ⟨ad, x, hA, HX, hz1, hc0, hc1, hc2, hc3⟩ := (HS.out.below HB2.out).at_ hlt
        cases hA
        have HSE : Hid (∀ (j : Nat) y, ds[j]? = some y → seenB ds x (j + 1) = (seenB ds x j || (decide (y.2.1 = x.2.1) && decide (y.2.2.1 = x.2.2.1)))) := fun j y h => seen_step h
        have HNX := Lib.hid (live_step (fs := fs) HX.out)
        obtain ⟨q', cs, r, hb', ht', hr', hz'⟩ := HAT.out x (List.mem_of_getElem? HX.out)
        have HSN : Hid (seenB ds x i = decide (atSp x ∈ (ds.take i).map atSp)) := rfl
        have hsn0 : seenB ds x 0 = false := by unfold seenB; simp
        have HFR := Lib.hid (frameLen_le hr'.2)
        rw [hz'] at HNX
        obtain ⟨n, g, t, sq⟩ := x
        dsimp only at hz1 hc0 hc1 hc2 hc3 HSE hb'
        have HBT := Lib.hid hb'
        have HTX := Lib.hid ht'
        have HRS := Lib.hid hr'
        clear hb' ht' hr' hz'
        have hil : (i : Int) < (ds.length : Int) := by omega
        have HC4 : Hid (w2.cell? ⟨w.heap.size, 0, none⟩ = some (.slice (some ⟨b, 0, none⟩) fs.length c) ∧ w2.cell? ⟨w.heap.size, 4, none⟩ = some (.slice (some ad) ds.length cd) ∧ w2.cell? ⟨(ad.add (i * 4)).block, (ad.add (i * 4)).off + 1, none⟩ = some (.int .i64 g) ∧ w2.cell? ⟨(ad.add (i * 4)).block, (ad.add (i * 4)).off + 2, none⟩ = some (.int .i64 t)) := ⟨q0, q4, hc1, hc2⟩
        generalize hsb : seenB ds (n, g, t, sq) = sb at HSE HSN hsn0
        clear hsb
        go_wp2
        go_loopw [5, 6] (fun sv jv wr => ∃ j : Nat, j ≤ i ∧ jv = .int .i64 (j : Int) ∧ sv = .bool (sb j) ∧ Hid (Below w2.heap.size w2 wr)) (fun _ jv _ => i - (intOf jv).toNat)
        case atStart => exact ⟨0, Nat.zero_le _, rfl, by rw [hsn0], Below.refl _ _⟩
        case round =>
          obtain ⟨j, hj, rfl, rfl, HC⟩ := hrel
          rename World => w3
          obtain ⟨r0, r4, r1, r2, _⟩ := lv_keep HC4.out HC.out
          clear q0 q4 hc0 hc1 hc2 hc3
          by_cases hlt2 : j < i
          · obtain ⟨ad', y, hA', HY, hy1, hd0, hd1, hd2, hd3⟩ := ((HS.out.below HB2.out).below HC.out).at_ (k := j) (by omega)
            cases hA'
            have HST := Lib.hid (HSE.out j y HY.out)
            obtain ⟨n', g', t', sq'⟩ := y
            dsimp only at hy1 hd0 hd1 hd2 hd3 HST
            have hji : (j : Int) < (i : Int) := by omega
            have hjl : (j : Int) < (ds.length : Int) := by omega
            cases hsj : sb j with
            | true =>
              have HSV : Hid (sb (j + 1) = true) := by rw [Hid, HST.out, hsj]; rfl
              clear HST
              go_wp2
              go_quiet (fail)
              go_wp2
              go_roundw
              case rel => first | exact ⟨j + 1, by omega, by go_num, by rw [HSV.out], blwN HC.out _⟩ | (repeat (first | (refine ⟨?relx, rfl⟩; exact ⟨j + 1, by omega, by go_num, by rw [HSV.out], blwN HC.out _⟩) | (refine ⟨?relx, ?eqs⟩; (case eqs => (and_intros <;> rfl)); exact ⟨j + 1, by omega, by go_num, by rw [HSV.out], blwN HC.out _⟩) | apply Exists.intro))
              case measure => simp [intOf]; omega
            | false =>
              by_cases hg : g' = g
              · have hgg : (g' == g) = true := by rw [eq_int]; exact decide_eq_true hg
                by_cases ht : t' = t
                · have htt : (t' == t) = true := by rw [eq_int]; exact decide_eq_true ht
                  have HSV : Hid (sb (j + 1) = true) := by rw [Hid, HST.out, hsj, decide_eq_true hg, decide_eq_true ht]; rfl
                  clear HST hg ht
                  go_wp2
                  go_quiet (fail)
                  go_wp2
                  go_roundw
                  case rel => first | exact ⟨j + 1, by omega, by go_num, by rw [HSV.out], blwN HC.out _⟩ | (repeat (first | (refine ⟨?relx, rfl⟩; exact ⟨j + 1, by omega, by go_num, by rw [HSV.out], blwN HC.out _⟩) | (refine ⟨?relx, ?eqs⟩; (case eqs => (and_intros <;> rfl)); exact ⟨j + 1, by omega, by go_num, by rw [HSV.out], blwN HC.out _⟩) | apply Exists.intro))
                  case measure => simp [intOf]; omega
                · have htt : (t' == t) = false := by rw [eq_int]; exact decide_eq_false ht
                  have HSV : Hid (sb (j + 1) = false) := by rw [Hid, HST.out, hsj, decide_eq_true hg, decide_eq_false ht]; rfl
                  clear HST hg ht
                  go_wp2
                  go_quiet (fail)
                  go_wp2
                  go_roundw
                  case rel => first | exact ⟨j + 1, by omega, by go_num, by rw [HSV.out], blwN HC.out _⟩ | (repeat (first | (refine ⟨?relx, rfl⟩; exact ⟨j + 1, by omega, by go_num, by rw [HSV.out], blwN HC.out _⟩) | (refine ⟨?relx, ?eqs⟩; (case eqs => (and_intros <;> rfl)); exact ⟨j + 1, by omega, by go_num, by rw [HSV.out], blwN HC.out _⟩) | apply Exists.intro))
                  case measure => simp [intOf]; omega
              · have hgg : (g' == g) = false := by rw [eq_int]; exact decide_eq_false hg
                have HSV : Hid (sb (j + 1) = false) := by rw [Hid, HST.out, hsj, decide_eq_false hg]; rfl
                clear HST hg
                go_wp2
                go_quiet (fail)
                go_wp2
                go_roundw
                case rel => first | exact ⟨j + 1, by omega, by go_num, by rw [HSV.out], blwN HC.out _⟩ | (repeat (first | (refine ⟨?relx, rfl⟩; exact ⟨j + 1, by omega, by go_num, by rw [HSV.out], blwN HC.out _⟩) | (refine ⟨?relx, ?eqs⟩; (case eqs => (and_intros <;> rfl)); exact ⟨j + 1, by omega, by go_num, by rw [HSV.out], blwN HC.out _⟩) | apply Exists.intro))
                case measure => simp [intOf]; omega
          · obtain rfl : j = i := by omega
            have hji : ¬ (j : Int) < (j : Int) := by omega
            have HC5 : Hid (w3.cell? ⟨w.heap.size, 0, none⟩ = some (.slice (some ⟨b, 0, none⟩) fs.length c) ∧ w3.cell? ⟨w.heap.size, 4, none⟩ = some (.slice (some ad) ds.length cd) ∧ w3.cell? ⟨(ad.add (j * 4)).block, (ad.add (j * 4)).off + 1, none⟩ = some (.int .i64 g) ∧ w3.cell? ⟨(ad.add (j * 4)).block, (ad.add (j * 4)).off + 2, none⟩ = some (.int .i64 t)) := ⟨r0, r4, r1, r2⟩
            have HBD : Hid (Below w3.heap.size w3 w3.drew) := Below.drew (Below.refl _ _)
            have HB3 := Lib.hid (HB2.out.trans (HC.out.mono HB2.out.size))
            have HBW := Lib.hid (HB.out.trans (HC.out.mono HB.out.size))
            have HL7 : Hid (∀ W, FiRow W (some ⟨b, 0, none⟩) c fs → Calls Tryz.prog 36 #[.agg #[.slice (some ⟨b, 0, none⟩) fs.length c], .int .i64 g, .int .i64 t] W (BatPost W (some (q', cs)))) := fun W h1 => by
              have := spec_l07Batch_calls (some ⟨b, 0, none⟩) c fs g t W h1 HDT.out
              rw [HBT.out] at this
              exact this
            have HSM7 := Lib.hid (l07_small HBT.out)
            clear HC4
            have HFA : Hid (FiRow w3.drew (some ⟨b, 0, none⟩) c fs) := HF.out.below (HB3.out.trans (HBD.out.mono HB3.out.size))
            have HBB : Hid (Below w3.heap.size w3 (w3.alloc zBat).drew) := ((Below.refl _ _).alloc (Nat.le_refl _) _).trans (Below.drew (Below.refl _ _))
            have HFB : Hid (FiRow (w3.alloc zBat).drew (some ⟨b, 0, none⟩) c fs) := HF.out.below (HB3.out.trans (HBB.out.mono HB3.out.size))
            have HBX : Hid ((w3.alloc zBat).drew.heap[w3.heap.size]? = some zBat) := blk_new w3 _
            have HNS : Hid (w1.heap.size ≤ w3.heap.size ∧ (w3.alloc zBat).drew.heap.size = w3.heap.size + 1) := ⟨HBW.out.size, by show (w3.alloc zBat).heap.size = _; simp⟩
            have m0 := cell_new r0 zBat
            have m4 := cell_new r4 zBat
            have m1 := cell_new r1 zBat
            have m2 := cell_new r2 zBat
            have HCH := HSM7.out.1
            go_wp2_with fail
            go_region_held3 (fun w' => w'.cell? ⟨w.heap.size, 0, none⟩ = some (.slice (some ⟨b, 0, none⟩) fs.length c) ∧ w'.cell? ⟨w.heap.size, 4, none⟩ = some (.slice (some ad) ds.length cd) ∧ w'.cell? ⟨(ad.add (j * 4)).block, (ad.add (j * 4)).off + 1, none⟩ = some (.int .i64 g) ∧ w'.cell? ⟨(ad.add (j * 4)).block, (ad.add (j * 4)).off + 2, none⟩ = some (.int .i64 t) ∧ Hid (Below w3.heap.size w3 w')) (first | exact lv_keep HC5.out HBD.out | exact lv_keep HC5.out (HBD.out.trans (hb10.mono HBD.out.size)) | exact lv_keep HC5.out HBB.out | exact lv_keep HC5.out (HBB.out.trans (hb10.mono HBB.out.size)) | exact lv_keep HC5.out ((HBD.out.trans (hb10.mono HBD.out.size)).alloc (HBD.out.trans (hb10.mono HBD.out.size)).size _) | exact lv_keep HC5.out (((HBB.out.trans (hb10.mono HBB.out.size)).setCell (p := ⟨w3.heap.size, 0, none⟩) (Nat.le_refl _) _).setCell (p := ⟨w3.heap.size, 1, none⟩) (Nat.le_refl _) _)) (first | (go_at_call 36; refine (HL7.out _ HFA.out).mono ?_; rintro e w10 ⟨hb10, v7, rfl, ho7⟩; obtain ⟨A7, c7, rfl, hr7⟩ := ho7.row HCH) | (go_at_call 36; refine (HL7.out _ HFB.out).mono ?_; rintro e w10 ⟨hb10, v7, rfl, ho7⟩; obtain ⟨A7, c7, rfl, hr7⟩ := ho7.row HCH; have HB2' := Lib.hid (blk_below HBX.out hb10); have b0 := blk_cell HB2'.out 0; have b1 := blk_cell HB2'.out 1; have bf := blk_frozen HB2'.out 0; have bf1 := blk_frozen HB2'.out 1))
            · have HAL9 : Hid (Below w10.heap.size w10 (w10.alloc (.cells #[.int .i64 q', .slice A7 cs.length c7] 62))) := (Below.refl _ _).alloc (Nat.le_refl _) _
              have HB7 := Lib.hid ((HBW.out.trans (HBD.out.mono HBW.out.size)).trans (hb10.mono (HBW.out.trans (HBD.out.mono HBW.out.size)).size))
              have HB9 := Lib.hid (HB7.out.trans (HAL9.out.mono HB7.out.size))
              have HR9 := Lib.hid (hr7.below HAL9.out)
              have b0 := blk_cell (blk_new w10 (.cells #[.int .i64 q', .slice A7 cs.length c7] 62)) 0
              have b1 := blk_cell (blk_new w10 (.cells #[.int .i64 q', .slice A7 cs.length c7] 62)) 1
              clear hb10 ho7 hr7 r0 r4 r1 r2 m0 m4 m1 m2 HAL9 HB7 HBX HFA HFB HBB HC5
              generalize w10.alloc (.cells #[.int .i64 q', .slice A7 cs.length c7] 62) = W9 at HB9 HR9 b0 b1 ⊢
              generalize w10.heap.size = g9 at b0 b1 ⊢
              cases hsj : sb j with
              | true =>
                have HNE : Hid (s = sumF (szAt fs) [] ((ds.take (j + 1)).map atSp)) := by
                  rw [Hid, HNX.out, if_pos (of_decide_eq_true (HSN.out.symm.trans hsj)), HSM.out, Nat.add_zero]
                clear HNX HSM
                go_wp2
                go_roundw
                case rel => first | exact ⟨j + 1, s, by omega, by go_num, rfl, by omega, HNE, HB9⟩ | (repeat (first | (refine ⟨?relx, rfl⟩; exact ⟨j + 1, s, by omega, by go_num, rfl, by omega, HNE, HB9⟩) | (refine ⟨?relx, ?eqs⟩; (case eqs => (and_intros <;> rfl)); exact ⟨j + 1, s, by omega, by go_num, rfl, by omega, HNE, HB9⟩) | apply Exists.intro))
                case measure => simp [intOf]; omega
              | false =>
                have HNE : Hid (s + frameLen r = sumF (szAt fs) [] ((ds.take (j + 1)).map atSp)) := by
                  rw [Hid, HNX.out, if_neg (of_decide_eq_false (HSN.out.symm.trans hsj)), HSM.out]
                have hfr := HFR.out
                clear HNX HSM
                go_wp2_with fail
                go_at_call 37
                refine (spec_l07Size_calls q' A7 c7 cs r _ HR9.out HTX.out HRS.out).mono ?_
                rintro e w10 ⟨rfl, hb10⟩
                have HB10 := Lib.hid (HB9.out.trans (hb10.mono HB9.out.size))
                clear hb10 b0 b1
                generalize frameLen r = z at HNE hfr ⊢
                go_wp2
                go_roundw
                case rel => first | exact ⟨j + 1, s + z, by omega, by go_num, by go_num, by omega, HNE, HB10⟩ | (repeat (first | (refine ⟨?relx, rfl⟩; exact ⟨j + 1, s + z, by omega, by go_num, by go_num, by omega, HNE, HB10⟩) | (refine ⟨?relx, ?eqs⟩; (case eqs => (and_intros <;> rfl)); exact ⟨j + 1, s + z, by omega, by go_num, by go_num, by omega, HNE, HB10⟩) | apply Exists.intro))
                case measure => simp [intOf]; omega
            · have HB7 := Lib.hid ((HBW.out.trans (HBB.out.mono HBW.out.size)).trans (hb10.mono (HBW.out.trans (HBB.out.mono HBW.out.size)).size))
              have HX7 := Lib.hid (blk_below HBX.out hb10)
              have HX9 : Hid ((set2 w10 w3.heap.size (.int .i64 q') (.slice A7 cs.length c7)).heap[w3.heap.size]? = some (.cells #[.int .i64 q', .slice A7 cs.length c7] 62 (0, 0))) := by
                rw [Hid]
                unfold set2
                rw [blk_set (blk_set HX7.out 0 _) 1 _]
                rfl
              have HG9 := Lib.hid (set2_grown w10 w3.heap.size (.int .i64 q') (.slice A7 cs.length c7))
              have HB9 : Hid (Below w1.heap.size w1 (set2 w10 w3.heap.size (.int .i64 q') (.slice A7 cs.length c7))) := gr_below HB7.out HG9.out HB7.out.size (fun k e => by have h1 := HNS.out.1; have h2 : w3.heap.size = k := Option.some.inj e; omega)
              have HR9 : Hid (ChRow (set2 w10 w3.heap.size (.int .i64 q') (.slice A7 cs.length c7)) A7 c7 cs) := by
                have ho9 : ChOwn (set2 w10 w3.heap.size (.int .i64 q') (.slice A7 cs.length c7)) (w3.alloc zBat).drew.heap.size (.slice A7 cs.length c7) cs := ho7.kept HG9.out fun k hk e => by
                  have h1 := (ho7.lt k hk).1
                  have h2 := HNS.out.2
                  have h3 : w3.heap.size = k := Option.some.inj e
                  omega
                obtain ⟨A', c', e, hr⟩ := ho9.row HCH
                injection e with e1 e2 e3
                subst e1 e3
                exact hr
              clear b0 b1 bf bf1 HB2'
              have b0 := blk_cell HX9.out 0
              have b1 := blk_cell HX9.out 1
              clear hb10 ho7 hr7 r0 r4 r1 r2 m0 m4 m1 m2 HB7 HBX HFA HFB HBB HC5 HX7 HX9 HG9
              change Exit.then _ _ _ _ (set2 w10 w3.heap.size (.int .i64 q') (.slice A7 cs.length c7))
              generalize set2 w10 w3.heap.size (.int .i64 q') (.slice A7 cs.length c7) = W9 at HB9 HR9 b0 b1 ⊢
              generalize w3.heap.size = g9 at b0 b1 ⊢
              cases hsj : sb j with
              | true =>
                have HNE : Hid (s = sumF (szAt fs) [] ((ds.take (j + 1)).map atSp)) := by
                  rw [Hid, HNX.out, if_pos (of_decide_eq_true (HSN.out.symm.trans hsj)), HSM.out, Nat.add_zero]
                clear HNX HSM
                go_wp2
                go_roundw
                case rel => first | exact ⟨j + 1, s, by omega, by go_num, rfl, by omega, HNE, HB9⟩ | (repeat (first | (refine ⟨?relx, rfl⟩; exact ⟨j + 1, s, by omega, by go_num, rfl, by omega, HNE, HB9⟩) | (refine ⟨?relx, ?eqs⟩; (case eqs => (and_intros <;> rfl)); exact ⟨j + 1, s, by omega, by go_num, rfl, by omega, HNE, HB9⟩) | apply Exists.intro))
                case measure => simp [intOf]; omega
              | false =>
                have HNE : Hid (s + frameLen r = sumF (szAt fs) [] ((ds.take (j + 1)).map atSp)) := by
                  rw [Hid, HNX.out, if_neg (of_decide_eq_false (HSN.out.symm.trans hsj)), HSM.out]
                have hfr := HFR.out
                clear HNX HSM
                go_wp2_with fail
                go_at_call 37
                refine (spec_l07Size_calls q' A7 c7 cs r _ HR9.out HTX.out HRS.out).mono ?_
                rintro e w10 ⟨rfl, hb10⟩
                have HB10 := Lib.hid (HB9.out.trans (hb10.mono HB9.out.size))
                clear hb10 b0 b1
                generalize frameLen r = z at HNE hfr ⊢
                go_wp2
                go_roundw
                case rel => first | exact ⟨j + 1, s + z, by omega, by go_num, by go_num, by omega, HNE, HB10⟩ | (repeat (first | (refine ⟨?relx, rfl⟩; exact ⟨j + 1, s + z, by omega, by go_num, by go_num, by omega, HNE, HB10⟩) | (refine ⟨?relx, ?eqs⟩; (case eqs => (and_intros <;> rfl)); exact ⟨j + 1, s + z, by omega, by go_num, by go_num, by omega, HNE, HB10⟩) | apply Exists.intro))
                case measure => simp [intOf]; omega
      · obtain rfl : i = ds.length := by omega
        rw [List.take_length] at HSM
        have HE : Hid (us = (s : Int)) := by rw [Hid, HUE.out, HLI.out, HSM.out]
        go_wp2
        go_ret
        exact ⟨by rw [HE.out]; rfl, HB1.out.trans (HB.out.mono HB1.out.size)⟩
end Go.Proofs.YtaacpdejpcbbbaaGreatDoor

namespace Go.Proofs.YtaacpdejpcbbbaaGreatDoor
set_option linter.unusedVariables false
set_option linter.unusedSimpArgs false
open Go.RowKit
attribute [local go_sem] bs_size List.length_cons List.length_nil
theorem keepB {W W' : World} {g g' : Nat} {v0 v1 v2 v3 v4 u0 u1 u2 u3 u4 : Value} {t t' : TypeId} (h : W.heap[g]? = some (.cells #[v0, v1, v2, v3, v4] t (0, 0))) (h' : W.heap[g']? = some (.cells #[u0, u1, u2, u3, u4] t' (0, 0))) (hb : Below W.heap.size W W') :
    W'.cell? ⟨g, 0, none⟩ = some v0 ∧ W'.cell? ⟨g, 1, none⟩ = some v1 ∧ W'.cell? ⟨g, 2, none⟩ = some v2 ∧ W'.cell? ⟨g, 3, none⟩ = some v3 ∧ W'.cell? ⟨g, 4, none⟩ = some v4 ∧ W'.cell? ⟨g', 0, none⟩ = some u0 ∧ W'.cell? ⟨g', 1, none⟩ = some u1 ∧ W'.cell? ⟨g', 2, none⟩ = some u2 ∧ W'.cell? ⟨g', 3, none⟩ = some u3 ∧ W'.cell? ⟨g', 4, none⟩ = some u4 ∧ Hid (Below W.heap.size W W') := by
  have k := blk_below h hb
  have k' := blk_below h' hb
  exact ⟨blk_cell k 0, blk_cell k 1, blk_cell k 2, blk_cell k 3, blk_cell k 4, blk_cell k' 0, blk_cell k' 1, blk_cell k' 2, blk_cell k' 3, blk_cell k' 4, hb⟩
set_option maxHeartbeats 16000000 in
set_option maxRecDepth 100000 in
theorem walk_FnExactLiveBytes (A : Option Addr) (c : Nat) (fs : List FiD) (room a q : Int) (Ad : Option Addr) (cd : Nat) (ds : List SpotD) (w : World) (h : FiRow w A c fs) (h' : SpRow w Ad cd ds) (hP : Pow w ∧ Sent w) :
    Calls Tryz.prog 5 #[.agg (engC A fs.length c room a q Ad ds.length cd)] w fun e w' => e = .returned (.bool true) ∧ Below w.heap.size w w' := by
  have HF := Lib.hid h
  have HD := Lib.hid h'
  have HPE := Lib.hid hP
  have HA0 : Hid (Below w.heap.size w (w.alloc (.cells (engC A fs.length c room a q Ad ds.length cd) 27))) := (Below.refl _ _).alloc (Nat.le_refl _) _
  have HB0 : Hid ((w.alloc (.cells (engC A fs.length c room a q Ad ds.length cd) 27)).heap[w.heap.size]? = some (.cells (engC A fs.length c room a q Ad ds.length cd) 27 (0, 0))) := blk_new _ _
  have HSP : Hid (∀ b c' bd cd' W, FiRow W (some ⟨b, 0, none⟩) c' fs → SpRow W (some ⟨bd, 0, none⟩) cd' ds → Calls Tryz.prog 15 #[.agg (engC (some ⟨b, 0, none⟩) fs.length c' room a q (some ⟨bd, 0, none⟩) ds.length cd')] W fun e w' => e = .returned (.int .i64 (liveB fs room a q ds)) ∧ Below W.heap.size W w') := fun b c' bd cd' W h h' => spec_LiveBytes_calls b c' (some ⟨bd, 0, none⟩) cd' fs room a q ds W h h'
  have HIM : Hid (∀ b c' bd cd' W, FiRow W (some ⟨b, 0, none⟩) c' fs → SpRow W (some ⟨bd, 0, none⟩) cd' ds → Pow W → Sent W → Calls Tryz.prog 16 #[.agg (engC (some ⟨b, 0, none⟩) fs.length c' room a q (some ⟨bd, 0, none⟩) ds.length cd')] W fun e w' => e = .returned (.int .i64 (liveB fs room a q ds)) ∧ Below W.heap.size W w') := fun b c' bd cd' W h h' h1 h2 => impl_LiveBytes_calls b c' (some ⟨bd, 0, none⟩) cd' fs room a q ds W h h' h1 h2
  have x0 := blk_cell HB0.out 0
  have x1 := blk_cell HB0.out 1
  have x2 := blk_cell HB0.out 2
  have x3 := blk_cell HB0.out 3
  have x4 := blk_cell HB0.out 4
  clear h h' hP
  generalize liveB fs room a q ds = res at HSP HIM
  have hneq : (res != res) = false := by simp
  go_enter Tryz.func5, Tryz.ntmps5
  go_wp2_with fail
  go_at_call 8
  refine (laws_szEngine_calls A Ad c cd fs room a q ds 1048576 _ (HF.out.below HA0.out) (HD.out.below HA0.out) (by omega) (by omega)).mono ?_
  rintro e w1 ⟨⟨r, rfl, hr⟩, hb⟩
  have HA1 := Lib.hid (HA0.out.trans (hb.mono HA0.out.size))
  have HB1 := Lib.hid (blk_below HB0.out hb)
  clear hb x0 x1 x2 x3 x4 HA0 HB0
  rcases hr with hr | ⟨hr0, hr1, hr2, hr3⟩
  · go_wp2
    go_ret
    exact ⟨rfl, HA1.out⟩
  · have HN : Hid (fs.length ≤ 1048576) := by rw [Hid]; omega
    have HM : Hid (ds.length ≤ 1048576) := by rw [Hid]; omega
    have x0 := blk_cell HB1.out 0
    have x1 := blk_cell HB1.out 1
    have x2 := blk_cell HB1.out 2
    have x3 := blk_cell HB1.out 3
    have x4 := blk_cell HB1.out 4
    clear hr1 hr2 hr3
    go_wp2_with fail
    go_at_call 10
    refine (laws_toEngine_calls A Ad c cd fs room a q ds _ (HF.out.below HA1.out) (HD.out.below HA1.out) HN.out HM.out).mono ?_
    rintro e w2 ⟨b2, bd2, rfl, _, _, hf2, hs2, hb⟩
    have HA2 := Lib.hid (HA1.out.trans (hb.mono HA1.out.size))
    have HB2 := Lib.hid (blk_below HB1.out hb)
    have HF2 := Lib.hid hf2
    have HS2 := Lib.hid hs2
    clear hb hf2 hs2 x0 x1 x2 x3 x4 HA1 HB1
    go_wp2_with fail
    go_at_call 15
    refine (HSP.out _ _ _ _ _ HF2.out HS2.out).mono ?_
    rintro e w3 ⟨rfl, hb⟩
    have HA3 := Lib.hid (HA2.out.trans (hb.mono HA2.out.size))
    have HB3 := Lib.hid (blk_below HB2.out hb)
    clear hb HA2 HB2 HF2 HS2 HSP
    have x0 := blk_cell HB3.out 0
    have x1 := blk_cell HB3.out 1
    have x2 := blk_cell HB3.out 2
    have x3 := blk_cell HB3.out 3
    have x4 := blk_cell HB3.out 4
    go_wp2_with fail
    go_at_call 10
    refine (laws_toEngine_calls A Ad c cd fs room a q ds _ (HF.out.below HA3.out) (HD.out.below HA3.out) HN.out HM.out).mono ?_
    rintro e w4 ⟨b4, bd4, rfl, _, _, hf4, hs4, hb⟩
    have HAL : Hid (Below w4.heap.size w4 (w4.alloc (.cells (engC (some ⟨b4, 0, none⟩) fs.length fs.length room a q (some ⟨bd4, 0, none⟩) ds.length ds.length) 35))) := (Below.refl _ _).alloc (Nat.le_refl _) _
    have HA4 := Lib.hid ((HA3.out.trans (hb.mono HA3.out.size)).trans (HAL.out.mono (HA3.out.trans (hb.mono HA3.out.size)).size))
    have HB4 := Lib.hid (blk_below (blk_below HB3.out hb) HAL.out)
    have HF4 := Lib.hid (hf4.below HAL.out)
    have HS4 := Lib.hid (hs4.below HAL.out)
    have HX4 : Hid ((w4.alloc (.cells (engC (some ⟨b4, 0, none⟩) fs.length fs.length room a q (some ⟨bd4, 0, none⟩) ds.length ds.length) 35)).heap[w4.heap.size]? = some (.cells (engC (some ⟨b4, 0, none⟩) fs.length fs.length room a q (some ⟨bd4, 0, none⟩) ds.length ds.length) 35 (0, 0))) := blk_new _ _
    clear hb hf4 hs4 x0 x1 x2 x3 x4 HA3 HB3 HAL
    have y0 := blk_cell HX4.out 0
    have y1 := blk_cell HX4.out 1
    have y2 := blk_cell HX4.out 2
    have y3 := blk_cell HX4.out 3
    have y4 := blk_cell HX4.out 4
    go_wp2_with fail
    generalize w4.alloc (.cells (engC (some ⟨b4, 0, none⟩) fs.length fs.length room a q (some ⟨bd4, 0, none⟩) ds.length ds.length) 35) = W4 at HA4 HB4 HF4 HS4 HX4 y0 y1 y2 y3 y4 ⊢
    go_at_call 16
    refine (HIM.out _ _ _ _ _ HF4.out HS4.out (HPE.out.1.below HA4.out) (sentC HPE.out.2 HA4.out)).mono ?_
    rintro e w5 ⟨rfl, hb⟩
    have HA5 := Lib.hid (HA4.out.trans (hb.mono HA4.out.size))
    have HB5 := Lib.hid (blk_below HB4.out hb)
    have HX5 := Lib.hid (blk_below HX4.out hb)
    have HF5 := Lib.hid (HF4.out.below hb)
    have HS5 := Lib.hid (HS4.out.below hb)
    clear hb y0 y1 y2 y3 y4 HA4 HB4 HX4 HF4 HS4 HIM
    have HBD : Hid (Below w5.heap.size w5 w5.drew) := Below.drew (Below.refl _ _)
    go_wp2_with fail
    go_region_held3 (fun w' => w'.cell? ⟨w4.heap.size, 0, none⟩ = some (.slice (some ⟨b4, 0, none⟩) fs.length fs.length) ∧ w'.cell? ⟨w4.heap.size, 1, none⟩ = some (.int .i64 room) ∧ w'.cell? ⟨w4.heap.size, 2, none⟩ = some (.int .i64 a) ∧ w'.cell? ⟨w4.heap.size, 3, none⟩ = some (.int .i64 q) ∧ w'.cell? ⟨w4.heap.size, 4, none⟩ = some (.slice (some ⟨bd4, 0, none⟩) ds.length ds.length) ∧ w'.cell? ⟨w.heap.size, 0, none⟩ = some (.slice A fs.length c) ∧ w'.cell? ⟨w.heap.size, 1, none⟩ = some (.int .i64 room) ∧ w'.cell? ⟨w.heap.size, 2, none⟩ = some (.int .i64 a) ∧ w'.cell? ⟨w.heap.size, 3, none⟩ = some (.int .i64 q) ∧ w'.cell? ⟨w.heap.size, 4, none⟩ = some (.slice Ad ds.length cd) ∧ Hid (Below w5.heap.size w5 w')) (first | exact keepB HX5.out HB5.out HBD.out | exact keepB HX5.out HB5.out (HBD.out.trans (hb10.mono HBD.out.size)) | exact keepB HX5.out HB5.out ((HBD.out.trans (hb10.mono HBD.out.size)).trans (hb11.mono (HBD.out.trans (hb10.mono HBD.out.size)).size))) (first | (go_at_call 10; refine (laws_toEngine_calls A Ad c cd fs room a q ds _ (HF.out.below (HA5.out.trans (HBD.out.mono HA5.out.size))) (HD.out.below (HA5.out.trans (HBD.out.mono HA5.out.size))) HN.out HM.out).mono ?_; rintro e w10 ⟨b10, bd10, rfl, _, _, hrow10, hsp10, hb10⟩) | (go_at_call 12; refine (laws_eqEngine_calls _ _ _ _ _ _ _ _ fs room a q ds _ (HF5.out.below (HBD.out.trans (hb10.mono HBD.out.size))) hrow10 (HS5.out.below (HBD.out.trans (hb10.mono HBD.out.size))) hsp10).mono ?_; rintro e w11 ⟨rfl, hb11⟩))
    have HB11 := (‹_ ∧ _ ∧ _ ∧ _ ∧ _ ∧ _ ∧ _ ∧ _ ∧ _ ∧ _ ∧ Hid (Below w5.heap.size w5 _)›).2.2.2.2.2.2.2.2.2.2
    go_wp2
    go_ret
    exact ⟨rfl, HA5.out.trans (HB11.out.mono HA5.out.size)⟩
theorem laid_FnExactLiveBytes {W : World} (h : laidMetH Tryz.prog Rows.fnExactLiveBytesRow.laid W) : Pow W ∧ Sent W := by
  rw [MakeChecks.laidMetH_plain _ _ _ (by kernel_rfl)] at h
  exact ⟨pow_of_laid h.tail.tail, sent_of_laid h.tail.tail.tail⟩
end Go.Proofs.YtaacpdejpcbbbaaGreatDoor
