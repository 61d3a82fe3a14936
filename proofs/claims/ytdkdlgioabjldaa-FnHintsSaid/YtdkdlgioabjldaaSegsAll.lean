/- The segments of a disk: plain. SeqsRise: plain. Directories: l07Set of the reference. The directory of a disk: plain. Segments: the reference's ReadSegment. Rows of ints of the call's own. Segments of the reference. The directory of a disk: DirOf of the reference. -/
import Derived.Test.YtdkdlgioabjldaaFileC
import Derived.Test.YtdkdlgioabjldaaSeg5
import Derived.Test.YtdkdlgioabjldaaSpO
import Derived.Deep.RegionHeld3
import Derived.Laws.Cover1
import Derived.Deep.CutRange
import Derived.Test.YtdkdlgioabjldaaOwn
import Derived.Test.YtdkdlgioabjldaaBl
import Derived.Deep.AppendLies
import Derived.StillTailTactics
namespace Go.Proofs.Ytdkdlgioabjldaa
set_option linter.unusedVariables false
set_option linter.unusedSimpArgs false
open Go.RowKit

/-- What the file of a segment's name has: none, or its head's from, if it has a head. -/
def hdAt (fs : List FiD) (n : Nat) : Option (Option Nat) := (fileB fs (segNm (n : Int))).map fun t => (headOfB (n : Int) t).map Prod.fst
def hasF (fs : List FiD) (n : Nat) : Bool := (fileB fs (segNm (n : Int))).isSome
def hdFrom (fs : List FiD) (n : Nat) : Nat := match hdAt fs n with
  | some (some f) => f
  | _ => 0
def badF (fs : List FiD) (n : Nat) : Bool := match hdAt fs n with
  | some none => true
  | _ => false
def leastB (fs : List FiD) : Nat → Nat
  | 0 => 0
  | k + 1 => max (leastB fs k) (hdFrom fs k)
def outsB (fs : List FiD) (a : Nat) : Nat → List Nat
  | 0 => []
  | k + 1 => if a ≤ k ∧ hasF fs k = true then outsB fs a k ++ [k] else outsB fs a k
def allB (fs : List FiD) : List Nat := outsB fs (leastB fs 100) 100
def segsB (fs : List FiD) : List Nat := if diskOkB fs = true ∧ ((allB fs).all fun n => !badF fs n) = true then allB fs else []
theorem outs_none (fs : List FiD) {a : Nat} : ∀ {k : Nat}, k ≤ a → outsB fs a k = []
  | 0, _ => rfl
  | k + 1, h => by
    rw [outsB, if_neg (by omega), outs_none fs (by omega)]
theorem outs_mem (fs : List FiD) {a n : Nat} : ∀ {k : Nat}, n ∈ outsB fs a k ↔ a ≤ n ∧ n < k ∧ hasF fs n = true
  | 0 => by simp [outsB]
  | k + 1 => by
    rw [outsB]
    split
    · rename_i h
      rw [List.mem_append, outs_mem fs, List.mem_singleton]
      constructor
      · rintro (⟨h1, h2, h3⟩ | rfl)
        · exact ⟨h1, by omega, h3⟩
        · exact ⟨h.1, by omega, h.2⟩
      · rintro ⟨h1, h2, h3⟩
        by_cases e : n = k
        · exact .inr e
        · exact .inl ⟨h1, by omega, h3⟩
    · rename_i h
      rw [outs_mem fs]
      constructor
      · rintro ⟨h1, h2, h3⟩
        exact ⟨h1, by omega, h3⟩
      · rintro ⟨h1, h2, h3⟩
        refine ⟨h1, ?_, h3⟩
        by_cases e : n = k
        · subst e; exact absurd ⟨h1, h3⟩ h
        · omega
theorem outs_incr (fs : List FiD) {a : Nat} : ∀ {k : Nat}, (outsB fs a k).Pairwise (· < ·)
  | 0 => by simp [outsB]
  | k + 1 => by
    rw [outsB]
    split
    · refine List.pairwise_append.2 ⟨outs_incr fs, by simp, fun x hx y hy => ?_⟩
      obtain rfl := List.mem_singleton.1 hy
      exact ((outs_mem fs).1 hx).2.1
    · exact outs_incr fs
theorem outs_len (fs : List FiD) {a : Nat} : ∀ {k : Nat}, (outsB fs a k).length ≤ k
  | 0 => by simp [outsB]
  | k + 1 => by
    have := outs_len fs (a := a) (k := k)
    rw [outsB]
    split
    · rw [List.length_append]; simp; omega
    · omega
theorem hdFrom_le (fs : List FiD) (n : Nat) (hn : n ≤ 99) : hdFrom fs n ≤ n := by
  unfold hdFrom hdAt
  cases h : fileB fs (segNm (n : Int)) with
  | none => simp
  | some t =>
    cases h2 : headOfB (n : Int) t with
    | none => simp [h2]
    | some p =>
      simp only [Option.map_some, h2]
      obtain ⟨f, l⟩ := p
      obtain ⟨r, rs, hu, _, hs⟩ := segPl_some h2
      rw [headOf_cons hu] at h2
      cases h3 : hdI (n : Int) r with
      | none => rw [h3] at h2; cases h2
      | some f' =>
        rw [h3] at h2
        have h4 := (hdI_is h3).2.1
        simp only [Option.some.injEq, Prod.mk.injEq] at h2
        dsimp only
        omega
theorem least_le (fs : List FiD) : ∀ k, k ≤ 100 → leastB fs k ≤ 99
  | 0, _ => by simp [leastB]
  | k + 1, h => by
    have h1 := least_le fs k (by omega)
    have h2 := hdFrom_le fs k (by omega)
    rw [leastB]
    omega
theorem least_iff (fs : List FiD) {m : Nat} : ∀ {k : Nat}, leastB fs k ≤ m ↔ ∀ n, n < k → hdFrom fs n ≤ m
  | 0 => by simp [leastB]
  | k + 1 => by
    rw [leastB, Nat.max_le, least_iff fs]
    constructor
    · rintro ⟨h1, h2⟩ n hn
      by_cases e : n = k
      · subst e; exact h2
      · exact h1 n (by omega)
    · intro h
      exact ⟨fun n hn => h n (by omega), h k (by omega)⟩
theorem segs_no {fs : List FiD} (h : diskOkB fs = false) : segsB fs = [] := by unfold segsB; rw [if_neg (by simp [h])]
theorem segs_bad {fs : List FiD} {n : Nat} (hn : n ∈ allB fs) (h : badF fs n = true) : segsB fs = [] := by
  unfold segsB
  rw [if_neg]
  rintro ⟨_, ha⟩
  have := List.all_eq_true.1 ha n hn
  rw [h] at this
  cases this
theorem segs_good {fs : List FiD} (hd : diskOkB fs = true) (h : ∀ n ∈ allB fs, badF fs n = false) : segsB fs = allB fs := by
  unfold segsB
  rw [if_pos ⟨hd, List.all_eq_true.2 fun n hn => by rw [h n hn]; rfl⟩]
theorem segs_len (fs : List FiD) : (segsB fs).length ≤ 100 := by
  unfold segsB
  split
  · exact outs_len fs
  · simp
theorem segs_lt {fs : List FiD} {n : Nat} (h : n ∈ segsB fs) : n < 100 ∧ hasF fs n = true := by
  unfold segsB at h
  split at h
  · exact ((outs_mem fs).1 h).2
  · simp at h
theorem hd_none {fs : List FiD} {n : Nat} (h : fileB fs (segNm (n : Int)) = none) : hdFrom fs n = 0 ∧ hasF fs n = false := by
  unfold hdFrom hdAt hasF
  rw [h]
  exact ⟨rfl, rfl⟩
theorem hd_bad {fs : List FiD} {n : Nat} {t : ByteArray} (h : fileB fs (segNm (n : Int)) = some t) (h2 : headOfB (n : Int) t = none) : hdFrom fs n = 0 ∧ hasF fs n = true ∧ badF fs n = true := by
  unfold hdFrom badF hdAt hasF
  rw [h]
  simp [h2]
theorem hd_good {fs : List FiD} {n f l : Nat} {t : ByteArray} (h : fileB fs (segNm (n : Int)) = some t) (h2 : headOfB (n : Int) t = some (f, l)) : hdFrom fs n = f ∧ hasF fs n = true ∧ badF fs n = false := by
  unfold hdFrom badF hdAt hasF
  rw [h]
  simp [h2]
/-- Lists that rise, with the same things, are the same. -/
theorem incr_eq : ∀ {l m : List Int}, l.Pairwise (· < ·) → m.Pairwise (· < ·) → (∀ x, x ∈ l ↔ x ∈ m) → l = m
  | [], [], _, _, _ => rfl
  | [], y :: m, _, _, h => absurd ((h y).2 (by simp)) (by simp)
  | x :: l, [], _, _, h => absurd ((h x).1 (by simp)) (by simp)
  | x :: l, y :: m, hl, hm, h => by
    rw [List.pairwise_cons] at hl hm
    have e : x = y := by
      rcases List.mem_cons.1 ((h x).1 (by simp)) with e | e
      · exact e
      · rcases List.mem_cons.1 ((h y).2 (by simp)) with e2 | e2
        · exact e2.symm
        · have := hl.1 y e2
          have := hm.1 x e
          omega
    subst e
    congr 1
    refine incr_eq hl.2 hm.2 fun z => ?_
    constructor
    · intro hz
      rcases List.mem_cons.1 ((h z).1 (by simp [hz])) with e | e
      · subst e; exact absurd (hl.1 z hz) (by omega)
      · exact e
    · intro hz
      rcases List.mem_cons.1 ((h z).2 (by simp [hz])) with e | e
      · subst e; exact absurd (hm.1 z hz) (by omega)
      · exact e
/-- What the program makes: sorted, the low ones struck. -/
theorem sorted_outs {fs : List FiD} {ns : List Nat} {a : Nat} (hnd : ns.Nodup) (hm : ∀ n, n ∈ ns ↔ n < 100 ∧ hasF fs n = true) :
    ((ns.map Int.ofNat).mergeSort fun x y => decide (x ≤ y)).filter (fun x => !decide (x < (a : Int))) = (outsB fs a 100).map Int.ofNat := by
  have hp := List.mergeSort_perm (ns.map Int.ofNat) fun x y => decide (x ≤ y)
  have hs : ((ns.map Int.ofNat).mergeSort fun x y => decide (x ≤ y)).Pairwise (fun x y => decide (x ≤ y) = true) := List.pairwise_mergeSort (fun a b c h1 h2 => by simp only [decide_eq_true_eq] at *; omega) (fun a b => by simp only [Bool.or_eq_true, decide_eq_true_eq]; omega) _
  have hnd2 : ((ns.map Int.ofNat).mergeSort fun x y => decide (x ≤ y)).Nodup := hp.nodup_iff.2 (List.Pairwise.map Int.ofNat (fun a b h e => h (Int.ofNat.inj e)) hnd)
  refine incr_eq ?_ ?_ fun x => ?_
  · refine List.Pairwise.filter _ ?_
    refine (hs.and hnd2).imp fun {x y} h => ?_
    have h1 := of_decide_eq_true h.1
    have h2 := h.2
    omega
  · exact List.Pairwise.map _ (fun x y h => by show (x : Int) < (y : Int); omega) (outs_incr fs)
  · rw [List.mem_filter, hp.mem_iff, List.mem_map, List.mem_map]
    constructor
    · rintro ⟨⟨n, hn, rfl⟩, hx⟩
      refine ⟨n, (outs_mem fs).2 ⟨?_, (hm n).1 hn⟩, rfl⟩
      simp only [Bool.not_eq_true', decide_eq_false_iff_not] at hx
      have : ¬ ((n : Int) < (a : Int)) := hx
      omega
    · rintro ⟨n, hn, rfl⟩
      obtain ⟨h1, h2⟩ := (outs_mem fs).1 hn
      refine ⟨⟨n, (hm n).2 h2, rfl⟩, ?_⟩
      simp only [Bool.not_eq_true', decide_eq_false_iff_not]
      show ¬ ((n : Int) < (a : Int))
      omega
end Go.Proofs.Ytdkdlgioabjldaa

namespace Go.Proofs.Ytdkdlgioabjldaa
set_option linter.unusedVariables false
set_option linter.unusedSimpArgs false
open Go.RowKit

/-- The batches of a segment of a disk. -/
def batsAt (fs : List FiD) (n : Nat) : List PlD := match segPl (n : Int) ((fileB fs (segNm (n : Int))).getD ⟨#[]⟩) with
  | none => []
  | some (_, _, pls) => pls
def seqsAt (fs : List FiD) (n : Nat) : List Int := (batsAt fs n).map fun p => p.1.1
def riseGo : Int → List Int → Option Int
  | last, [] => some last
  | last, q :: qs => if q ≤ last then none else riseGo q qs
theorem riseGo_append : ∀ (a b : List Int) (l : Int), riseGo l (a ++ b) = (riseGo l a).bind fun m => riseGo m b
  | [], b, l => rfl
  | q :: a, b, l => by
    rw [List.cons_append, riseGo, riseGo]
    split
    · rfl
    · exact riseGo_append a b q
def riseL (L : List Nat) (sq : Nat → List Int) : Bool := !L.isEmpty && (riseGo (-1) ((L.map sq).flatten)).isSome
def riseB (fs : List FiD) : Bool := riseL (segsB fs) (seqsAt fs)
/-- Behind i segments, and j batches of the next, the last number is l. -/
def RiseAt (L : List Nat) (sq : Nat → List Int) (i j : Nat) (l : Int) : Prop := riseGo (-1) ((((L).take i).map (sq)).flatten ++ (match (L)[i]? with
  | none => []
  | some n => (sq n).take j)) = some l
theorem rise_start (L : List Nat) (sq : Nat → List Int) : RiseAt L sq 0 0 (-1) := by
  unfold RiseAt
  cases (L)[0]? <;> simp [riseGo]
theorem rise_in {L : List Nat} {sq : Nat → List Int} {i j n : Nat} {l q : Int} (h : RiseAt L sq i j l) (hi : (L)[i]? = some n) (hq : (sq n)[j]? = some q) (hlt : ¬ q ≤ l) : RiseAt L sq i (j + 1) q := by
  unfold RiseAt at h ⊢
  rw [hi] at h ⊢
  dsimp only at h ⊢
  rw [take_snoc hq, ← List.append_assoc, riseGo_append, h]
  simp [riseGo, hlt]
theorem rise_next {L : List Nat} {sq : Nat → List Int} {i j n : Nat} {l : Int} (h : RiseAt L sq i j l) (hi : (L)[i]? = some n) (hj : (sq n).length ≤ j) : RiseAt L sq (i + 1) 0 l := by
  unfold RiseAt at h ⊢
  rw [hi] at h
  dsimp only at h
  rw [List.take_of_length_le hj] at h
  rw [take_snoc hi, List.map_append, List.flatten_append]
  cases (L)[i + 1]? <;> simpa using h
theorem rise_end {L : List Nat} {sq : Nat → List Int} {i : Nat} {l : Int} (h : RiseAt L sq i 0 l) (hi : (L).length ≤ i) : riseL L sq = !(L).isEmpty := by
  unfold RiseAt at h
  rw [List.getElem?_eq_none hi, List.take_of_length_le hi] at h
  simp only [List.append_nil] at h
  unfold riseL
  rw [h]
  simp
theorem rise_bad {L : List Nat} {sq : Nat → List Int} {i j n : Nat} {l q : Int} (h : RiseAt L sq i j l) (hi : (L)[i]? = some n) (hq : (sq n)[j]? = some q) (hle : q ≤ l) : riseL L sq = false := by
  obtain ⟨hil, e⟩ := List.getElem?_eq_some_iff.1 hi
  obtain ⟨hjl, e2⟩ := List.getElem?_eq_some_iff.1 hq
  have hs : L = L.take i ++ (n :: L.drop (i + 1)) := by
    rw [← e, ← List.drop_eq_getElem_cons hil, List.take_append_drop]
  have hs2 : sq n = (sq n).take j ++ (q :: (sq n).drop (j + 1)) := by
    rw [← e2, ← List.drop_eq_getElem_cons hjl, List.take_append_drop]
  unfold RiseAt at h
  rw [hi] at h
  dsimp only at h
  have : riseGo (-1) ((L.map sq).flatten) = none := by
    rw [hs, List.map_append, List.flatten_append, List.map_cons, List.flatten_cons, hs2, List.append_assoc, ← List.append_assoc, riseGo_append, h]
    simp [riseGo, hle]
  unfold riseL
  rw [this]
  simp
end Go.Proofs.Ytdkdlgioabjldaa

namespace Go.Proofs.Ytdkdlgioabjldaa
set_option linter.unusedVariables false
set_option linter.unusedSimpArgs false
open Go.RowKit
attribute [local go_sem] bs_size List.length_cons List.length_nil List.length_append

def ltSp (y x : SpotD) : Bool := Op.bytesLess y.1.toList x.1.toList
def gtSp (y x : SpotD) : Bool := !(Op.bytesLess y.1.toList x.1.toList || y.1.toList == x.1.toList)
def setLo (ds : List SpotD) (x : SpotD) : List SpotD := ds.filter fun y => ltSp y x
def setMid (ds : List SpotD) (x : SpotD) (g : Bool) : List SpotD := setLo ds x ++ (if g = true then [] else [x])
def setB (ds : List SpotD) (x : SpotD) (g : Bool) : List SpotD := setMid ds x g ++ ds.filter fun y => gtSp y x
theorem setB_len (ds : List SpotD) (x : SpotD) (g : Bool) : (setB ds x g).length ≤ ds.length + 1 := by
  have h : (ds.filter fun y => ltSp y x).length + (ds.filter fun y => gtSp y x).length ≤ ds.length := by
    induction ds with
    | nil => simp
    | cons y ds ih =>
      rw [List.filter_cons, List.filter_cons, List.length_cons]
      by_cases hl : ltSp y x = true
      · have hg : gtSp y x = false := by
          unfold gtSp ltSp at *
          rw [hl]
          rfl
        rw [if_pos hl, if_neg (by rw [hg]; exact Bool.false_ne_true), List.length_cons]
        omega
      · rw [if_neg hl]
        split
        · rw [List.length_cons]; omega
        · omega
  unfold setB setMid setLo
  cases g <;> simp <;> omega
theorem setB_mem {ds : List SpotD} {x y : SpotD} {g : Bool} (h : y ∈ setB ds x g) : y ∈ ds ∨ y = x := by
  unfold setB setMid setLo at h
  rcases List.mem_append.1 h with h | h
  · rcases List.mem_append.1 h with h | h
    · exact .inl (List.mem_filter.1 h).1
    · split at h
      · simp at h
      · exact .inr (List.mem_singleton.1 h)
  · exact .inl (List.mem_filter.1 h).1
theorem filter_yes {p : SpotD → Bool} {ds : List SpotD} {i : Nat} {y : SpotD} (h : ds[i]? = some y) (hp : p y = true) : (ds.take (i + 1)).filter p = (ds.take i).filter p ++ [y] := by
  rw [take_snoc h, List.filter_append]
  simp [hp]
theorem filter_no {p : SpotD → Bool} {ds : List SpotD} {i : Nat} {y : SpotD} (h : ds[i]? = some y) (hp : p y = false) : (ds.take (i + 1)).filter p = (ds.take i).filter p := by
  rw [take_snoc h, List.filter_append]
  simp [hp]
theorem SpOwn.form {w : World} {B : Nat} {v : Value} {ds : List SpotD} (h : SpOwn w B v ds) : ∃ A c, v = .slice A ds.length c := by
  rcases h.2 with ⟨rfl, h0⟩ | ⟨g, cap, cur, rfl, _⟩
  · exact ⟨none, 0, by rw [h0]⟩
  · exact ⟨_, _, rfl⟩
theorem SpOwn.lt {w : World} {B : Nat} {v : Value} {ds : List SpotD} (h : SpOwn w B v ds) : ∀ k, v.ownBlock = some k → B ≤ k ∧ k < w.heap.size := World.ownsRow.lt h
theorem SpOwn.mono {w : World} {B B' : Nat} {v : Value} {ds : List SpotD} (h : SpOwn w B v ds) (hb : B' ≤ B) : SpOwn w B' v ds := own_low h hb
/-- The spot in its box, and the row under way. -/
structure SX (w : World) (x : SpotD) (v : Value) (ds : List SpotD) (W : World) : Prop where
  b : Below (w.heap.size + 1) (w.alloc (.cells (spVals x).toArray 31)) W
  own : SpOwn W (w.heap.size + 1) v ds
section
variable {w W W' : World} {x : SpotD} {v : Value} {ds : List SpotD}
theorem SX.from_ (h : SX w x v ds W) : Below w.heap.size w W := ((Below.refl _ _).alloc (Nat.le_refl _) _).trans (h.b.mono (by omega))
theorem SX.size (h : SX w x v ds W) : w.heap.size + 1 ≤ W.heap.size := by have := h.b.size; simpa using this
theorem SX.box (h : SX w x v ds W) : W.heap[w.heap.size]? = some (.cells (spVals x).toArray 31 (0, 0)) := (h.b.block _ (by omega)).trans (blk_new w _)
theorem SX.go (h : SX w x v ds W) (hb : Below W.heap.size W W') : SX w x v ds W' := ⟨h.b.trans (hb.mono h.size), own_keep h.own hb⟩
theorem SX.put {v' : Value} {ds' : List SpotD} (h : SX w x v ds W) (hg : W.grownBy W' v.ownBlock) (ho : SpOwn W' (w.heap.size + 1) v' ds') : SX w x v' ds' W' := ⟨h.b.grown hg h.size fun k e => (h.own.lt k e).1, ho⟩
end
set_option maxHeartbeats 8000000 in
set_option maxRecDepth 100000 in
theorem spec_l07Set_calls (A : Option Addr) (c : Nat) (ds : List SpotD) (key : ByteArray) (seg at_ sq : Int) (g : Bool) (w : World) (h : SpRow w A c ds) (hn : ds.length ≤ 1000000000) :
    Calls Try.prog 57 #[.slice A ds.length c, .agg #[.string key, .int .i64 seg, .int .i64 at_, .int .i64 sq], .bool g] w fun e w' => ∃ v, e = .returned v ∧ SpOwn w' w.heap.size v (setB ds (key, seg, at_, sq) g) ∧ Below w.heap.size w w' := by
  obtain ⟨i0, hi0, hz, hsz, hby⟩ := info_parts info_sp
  have HR := Lib.hid h
  have hs1 : (w.alloc (.cells #[.string key, .int .i64 seg, .int .i64 at_, .int .i64 sq] 31)).heap.size = w.heap.size + 1 := by simp
  have HS0 : Hid (SX w (key, seg, at_, sq) (.slice (some ⟨w.heap.size + 1, 0, none⟩) 0 0) [] ((w.alloc (.cells #[.string key, .int .i64 seg, .int .i64 at_, .int .i64 sq] 31)).alloc (.cells #[] 31))) := ⟨(Below.refl _ _).alloc (by simp) _, by
    have : ((w.alloc (.cells #[.string key, .int .i64 seg, .int .i64 at_, .int .i64 sq] 31)).alloc (.cells #[] 31)).ownsRow (w.heap.size + 1) 31 4 (.slice (some ⟨(w.alloc (.cells #[.string key, .int .i64 seg, .int .i64 at_, .int .i64 sq] 31)).heap.size, 0, none⟩) 0 0) 0 [] := World.ownsRow_made (w := w.alloc (.cells #[.string key, .int .i64 seg, .int .i64 at_, .int .i64 sq] 31)) #[] 0 (by rw [hs1]; exact Nat.le_refl _) (Nat.zero_le _) rfl
    rw [hs1] at this
    exact this⟩
  clear h hs1
  go_enter Try.func57, Try.ntmps57
  go_wp2
  go_loopw [7, 8] (fun ov iv wr => ∃ i : Nat, i ≤ ds.length ∧ iv = .int .i64 (i : Int) ∧ Hid (SX w (key, seg, at_, sq) ov ((ds.take i).filter fun y => ltSp y (key, seg, at_, sq)) wr)) (fun _ iv _ => ds.length - (intOf iv).toNat)
  case atStart => exact ⟨0, Nat.zero_le _, rfl, HS0⟩
  case round =>
    obtain ⟨i, hi, rfl, HS⟩ := hrel
    by_cases hlt : i < ds.length
    · obtain ⟨ad, y, hA, HY, hy1, hc0, hc1, hc2, hc3⟩ := (HR.out.below HS.out.from_).at_ hlt
      cases hA
      obtain ⟨yk, ys, ya, yq⟩ := y
      dsimp only at hy1 hc0 hc1 hc2 hc3
      have k0 := blk_cell HS.out.box 0
      obtain ⟨A2, c2, hv⟩ := HS.out.own.form
      subst hv
      have hfl : ((ds.take i).filter fun y => ltSp y (key, seg, at_, sq)).length ≤ i := by
        have h1 := List.length_filter_le (fun y => ltSp y (key, seg, at_, sq)) (ds.take i)
        have h2 : (ds.take i).length ≤ i := by rw [List.length_take]; omega
        omega
      have HFL := Lib.hid hfl
      have HCC := Lib.hid (And.intro hc0 (And.intro hc1 (And.intro hc2 hc3)))
      have HSD := Lib.hid (HS.out.go (Below.drew (Below.refl _ _)))
      have hli : (i : Int) < (ds.length : Int) := by omega
      have HFY := Lib.hid (fun hp => filter_yes (p := fun y => ltSp y (key, seg, at_, sq)) HY.out hp)
      have HFN := Lib.hid (fun hp => filter_no (p := fun y => ltSp y (key, seg, at_, sq)) HY.out hp)
      obtain ⟨lt, hlt2⟩ : ∃ b, ltSp (yk, ys, ya, yq) (key, seg, at_, sq) = b := ⟨_, rfl⟩
      have hll : Op.bytesLess yk.toList key.toList = lt := hlt2
      rw [hlt2] at HFY HFN
      clear hlt2 hfl
      generalize ((ds.take i).filter fun y => ltSp y (key, seg, at_, sq)) = F at HS HFL HSD HFY HFN ⊢
      go_wp2_with fail
      go_region_held3 (fun w' => w'.cell? (ad.add (i * 4)) = some (.string yk) ∧ w'.cell? ⟨w.heap.size, 0, none⟩ = some (.string key) ∧ Hid (SX w (key, seg, at_, sq) (.slice A2 F.length c2) F w')) (first | exact ⟨HCC.out.1, k0, HSD.out⟩) (fail)
      have HS2 := (‹_ ∧ _ ∧ Hid (SX w (key, seg, at_, sq) (.slice A2 F.length c2) F _)›).2.2
      cases lt
      · have HF2 := Lib.hid (HFN.out rfl)
        clear HFY HFN
        go_wp2
        go_roundw
        case rel => first | exact ⟨i + 1, by omega, by go_num, by rw [HF2.out]; exact HS2⟩ | (repeat (first | (refine ⟨?relx, rfl⟩; exact ⟨i + 1, by omega, by go_num, by rw [HF2.out]; exact HS2⟩) | (refine ⟨?relx, ?eqs⟩; (case eqs => (and_intros <;> rfl)); exact ⟨i + 1, by omega, by go_num, by rw [HF2.out]; exact HS2⟩) | apply Exists.intro))
        case measure => simp [intOf]; omega
      · have HF2 := Lib.hid (HFY.out rfl)
        clear HFY HFN
        have HC4 : Hid (wr.drew.cell? (ad.add (i * 4)) = some (.string yk) ∧ wr.drew.cell? ⟨(ad.add (i * 4)).block, (ad.add (i * 4)).off + 1, none⟩ = some (.int .i64 ys) ∧ wr.drew.cell? ⟨(ad.add (i * 4)).block, (ad.add (i * 4)).off + 2, none⟩ = some (.int .i64 ya) ∧ wr.drew.cell? ⟨(ad.add (i * 4)).block, (ad.add (i * 4)).off + 3, none⟩ = some (.int .i64 yq)) := HCC.out
        clear hc0 hc1 hc2 hc3 k0 HCC HSD
        have HSW := HS2
        have hfl := HFL.out
        generalize wr.drew = wd at HS2 HSW HC4 ⊢
        obtain ⟨hc0, hc1, hc2, hc3⟩ := HC4.out
        have HAL9 : Hid (Below wd.heap.size wd (wd.alloc (.cells #[.string yk, .int .i64 ys, .int .i64 ya, .int .i64 yq] 31))) := (Below.refl _ _).alloc (Nat.le_refl _) _
        have HS9 := Lib.hid (HSW.out.go HAL9.out)
        have HOWN := Lib.hid HS9.out.own
        have HBASE := Lib.hid HS9.out.size
        have HNEWS : Hid (∀ j u, (spVals (yk, ys, ya, yq))[j]? = some u → (wd.alloc (.cells #[.string yk, .int .i64 ys, .int .i64 ya, .int .i64 yq] 31)).cell? ((⟨wd.heap.size, 0, none⟩ : Addr).add j) = some u) := World.news_of_block (heap_alloc_new wd _)
        go_wp2_with (at_builtin; refine wpList_append_lies _ rfl _ _ _ rfl (w.heap.size + 1) 31 i0 (.agg #[.string ⟨#[]⟩, .int .i64 0, .int .i64 0, .int .i64 0]) 4 40 Try.underlying24 hi0 hz hsz hby rfl (by omega) (.slice A2 F.length c2) F.length (spFlat F) rfl HOWN.out ⟨wd.heap.size, 0, none⟩ 1 1 (spVals (yk, ys, ya, yq)) rfl rfl HNEWS.out (by simp [Value.oneCell', spVals]) (by omega) (by unfold maxLen; omega) (by omega) HBASE.out _ rfl ?_; intro gg cap w7 hown hgrow hat hlt2)
        have HPU : Hid (SpOwn w7 (w.heap.size + 1) (.slice (some ⟨gg, 0, none⟩) (F.length + 1) cap) (F ++ [(yk, ys, ya, yq)])) := by
          rw [Hid, SpOwn, spFlat_snoc, List.length_append]
          exact hown
        have HS7 := Lib.hid (HS9.out.put hgrow HPU.out)
        clear hown hgrow hat
        go_wp2
        go_roundw
        case rel => first | exact ⟨i + 1, by omega, by go_num, by rw [HF2.out]; exact HS7⟩ | (repeat (first | (refine ⟨?relx, rfl⟩; exact ⟨i + 1, by omega, by go_num, by rw [HF2.out]; exact HS7⟩) | (refine ⟨?relx, ?eqs⟩; (case eqs => (and_intros <;> rfl)); exact ⟨i + 1, by omega, by go_num, by rw [HF2.out]; exact HS7⟩) | apply Exists.intro))
        case measure => simp [intOf]; omega
    · obtain rfl : i = ds.length := by omega
      rw [List.take_length] at HS
      have hll : (ds.filter fun y => ltSp y (key, seg, at_, sq)).length ≤ ds.length := List.length_filter_le _ _
      obtain ⟨A2, c2, hv⟩ := HS.out.own.form
      subst hv
      have HMT : Hid (g = true → setMid ds (key, seg, at_, sq) g = ds.filter fun y => ltSp y (key, seg, at_, sq)) := fun h => by unfold setMid setLo; rw [if_pos h, List.append_nil]
      have HMF : Hid (g = false → setMid ds (key, seg, at_, sq) g = (ds.filter fun y => ltSp y (key, seg, at_, sq)) ++ [(key, seg, at_, sq)]) := fun h => by unfold setMid setLo; rw [if_neg (by simp [h])]
      have HML : Hid ((setMid ds (key, seg, at_, sq) g).length ≤ ds.length + 1) := by
        rw [Hid]
        unfold setMid setLo
        rw [List.length_append]
        cases g <;> simp <;> omega
      have HSB : Hid (setB ds (key, seg, at_, sq) g = setMid ds (key, seg, at_, sq) g ++ ds.filter fun y => gtSp y (key, seg, at_, sq)) := rfl
      generalize (ds.filter fun y => ltSp y (key, seg, at_, sq)) = F at HS hll HMT HMF ⊢
      generalize setMid ds (key, seg, at_, sq) g = M at HMT HMF HML HSB
      have hnl : ¬ (ds.length : Int) < (ds.length : Int) := by omega
      go_upto_if 33 with (fail)
      go_cut [7] from 10 to 59 (fun ov wx => Hid (SX w (key, seg, at_, sq) ov M wx))
      case first =>
        cases g
        · have HM := Lib.hid (HMF.out rfl)
          have k0 := blk_cell HS.out.box 0
          have k1 := blk_cell HS.out.box 1
          have k2 := blk_cell HS.out.box 2
          have k3 := blk_cell HS.out.box 3
          have HSW := HS
          simp only [spVals] at k0 k1 k2 k3
          have HAL9 : Hid (Below wr.heap.size wr (wr.alloc (.cells #[.string key, .int .i64 seg, .int .i64 at_, .int .i64 sq] 31))) := (Below.refl _ _).alloc (Nat.le_refl _) _
          have HS9 := Lib.hid (HSW.out.go HAL9.out)
          have HOWN := Lib.hid HS9.out.own
          have HBASE := Lib.hid HS9.out.size
          have HNEWS : Hid (∀ j u, (spVals (key, seg, at_, sq))[j]? = some u → (wr.alloc (.cells #[.string key, .int .i64 seg, .int .i64 at_, .int .i64 sq] 31)).cell? ((⟨wr.heap.size, 0, none⟩ : Addr).add j) = some u) := World.news_of_block (heap_alloc_new wr _)
          go_wp2_with (at_builtin; refine wpList_append_lies _ rfl _ _ _ rfl (w.heap.size + 1) 31 i0 (.agg #[.string ⟨#[]⟩, .int .i64 0, .int .i64 0, .int .i64 0]) 4 40 Try.underlying24 hi0 hz hsz hby rfl (by omega) (.slice A2 F.length c2) F.length (spFlat F) rfl HOWN.out ⟨wr.heap.size, 0, none⟩ 1 1 (spVals (key, seg, at_, sq)) rfl rfl HNEWS.out (by simp [Value.oneCell', spVals]) (by omega) (by unfold maxLen; omega) (by omega) HBASE.out _ rfl ?_; intro gg cap w7 hown hgrow hat hlt2)
          have HPU : Hid (SpOwn w7 (w.heap.size + 1) (.slice (some ⟨gg, 0, none⟩) (F.length + 1) cap) (F ++ [(key, seg, at_, sq)])) := by
            rw [Hid, SpOwn, spFlat_snoc, List.length_append]
            exact hown
          have HS7 := Lib.hid (HS9.out.put hgrow HPU.out)
          clear hown hgrow hat
          go_wp2
          go_meet
          case rel => rw [HM.out]; exact HS7
        · have HM := Lib.hid (HMT.out rfl)
          go_wp2
          go_meet
          case rel => rw [HM.out]; exact HS
      case rest =>
        clear HMT HMF hnl hll
        go_wp2
        go_loopw [7, 9] (fun ov iv wr => ∃ i : Nat, i ≤ ds.length ∧ iv = .int .i64 (i : Int) ∧ Hid (SX w (key, seg, at_, sq) ov (M ++ (ds.take i).filter fun y => gtSp y (key, seg, at_, sq)) wr)) (fun _ iv _ => ds.length - (intOf iv).toNat)
        case atStart => exact ⟨0, Nat.zero_le _, rfl, by rw [List.take_zero, List.filter_nil, List.append_nil]; exact hcut⟩
        case round =>
          clear hcut HS
          obtain ⟨i, hi, rfl, HS⟩ := hrel
          by_cases hlt : i < ds.length
          · obtain ⟨ad, y, hA, HY, hy1, hc0, hc1, hc2, hc3⟩ := (HR.out.below HS.out.from_).at_ hlt
            cases hA
            obtain ⟨yk, ys, ya, yq⟩ := y
            dsimp only at hy1 hc0 hc1 hc2 hc3
            have k0 := blk_cell HS.out.box 0
            obtain ⟨A2, c2, hv⟩ := HS.out.own.form
            subst hv
            have hfl : (M ++ (ds.take i).filter fun y => gtSp y (key, seg, at_, sq)).length ≤ ds.length + 1 + i := by
              have h3 := HML.out
              rw [List.length_append]
              have h1 := List.length_filter_le (fun y => gtSp y (key, seg, at_, sq)) (ds.take i)
              have h2 : (ds.take i).length ≤ i := by rw [List.length_take]; omega
              omega
            have HFL := Lib.hid hfl
            have HCC := Lib.hid (And.intro hc0 (And.intro hc1 (And.intro hc2 hc3)))
            have HSD := Lib.hid (HS.out.go (Below.drew (Below.refl _ _)))
            have hli : (i : Int) < (ds.length : Int) := by omega
            have HFY := Lib.hid (fun hp => congrArg (M ++ ·) (filter_yes (p := fun y => gtSp y (key, seg, at_, sq)) HY.out hp))
            have HFN := Lib.hid (fun hp => congrArg (M ++ ·) (filter_no (p := fun y => gtSp y (key, seg, at_, sq)) HY.out hp))
            obtain ⟨lt, hlt2⟩ : ∃ b, gtSp (yk, ys, ya, yq) (key, seg, at_, sq) = b := ⟨_, rfl⟩
            have hll : (!(Op.bytesLess yk.toList key.toList || yk.toList == key.toList)) = lt := hlt2
            rw [hlt2] at HFY HFN
            rw [← List.append_assoc] at HFY
            clear hlt2 hfl
            generalize (M ++ (ds.take i).filter fun y => gtSp y (key, seg, at_, sq)) = F at HS HFL HSD HFY HFN ⊢
            go_wp2_with fail
            go_region_held3 (fun w' => w'.cell? (ad.add (i * 4)) = some (.string yk) ∧ w'.cell? ⟨w.heap.size, 0, none⟩ = some (.string key) ∧ Hid (SX w (key, seg, at_, sq) (.slice A2 F.length c2) F w')) (first | exact ⟨HCC.out.1, k0, HSD.out⟩) (fail)
            have HS2 := (‹_ ∧ _ ∧ Hid (SX w (key, seg, at_, sq) (.slice A2 F.length c2) F _)›).2.2
            cases lt
            · have HF2 := Lib.hid (HFN.out rfl)
              clear HFY HFN
              go_wp2
              go_roundw
              case rel => first | exact ⟨i + 1, by omega, by go_num, by rw [HF2.out]; exact HS2⟩ | (repeat (first | (refine ⟨?relx, rfl⟩; exact ⟨i + 1, by omega, by go_num, by rw [HF2.out]; exact HS2⟩) | (refine ⟨?relx, ?eqs⟩; (case eqs => (and_intros <;> rfl)); exact ⟨i + 1, by omega, by go_num, by rw [HF2.out]; exact HS2⟩) | apply Exists.intro))
              case measure => simp [intOf]; omega
            · have HF2 := Lib.hid (HFY.out rfl)
              clear HFY HFN
              have HC4 : Hid (wr.drew.cell? (ad.add (i * 4)) = some (.string yk) ∧ wr.drew.cell? ⟨(ad.add (i * 4)).block, (ad.add (i * 4)).off + 1, none⟩ = some (.int .i64 ys) ∧ wr.drew.cell? ⟨(ad.add (i * 4)).block, (ad.add (i * 4)).off + 2, none⟩ = some (.int .i64 ya) ∧ wr.drew.cell? ⟨(ad.add (i * 4)).block, (ad.add (i * 4)).off + 3, none⟩ = some (.int .i64 yq)) := HCC.out
              clear hc0 hc1 hc2 hc3 k0 HCC HSD
              have HSW := HS2
              have hfl := HFL.out
              generalize wr.drew = wd at HS2 HSW HC4 ⊢
              obtain ⟨hc0, hc1, hc2, hc3⟩ := HC4.out
              have HAL9 : Hid (Below wd.heap.size wd (wd.alloc (.cells #[.string yk, .int .i64 ys, .int .i64 ya, .int .i64 yq] 31))) := (Below.refl _ _).alloc (Nat.le_refl _) _
              have HS9 := Lib.hid (HSW.out.go HAL9.out)
              have HOWN := Lib.hid HS9.out.own
              have HBASE := Lib.hid HS9.out.size
              have HNEWS : Hid (∀ j u, (spVals (yk, ys, ya, yq))[j]? = some u → (wd.alloc (.cells #[.string yk, .int .i64 ys, .int .i64 ya, .int .i64 yq] 31)).cell? ((⟨wd.heap.size, 0, none⟩ : Addr).add j) = some u) := World.news_of_block (heap_alloc_new wd _)
              go_wp2_with (at_builtin; refine wpList_append_lies _ rfl _ _ _ rfl (w.heap.size + 1) 31 i0 (.agg #[.string ⟨#[]⟩, .int .i64 0, .int .i64 0, .int .i64 0]) 4 40 Try.underlying24 hi0 hz hsz hby rfl (by omega) (.slice A2 F.length c2) F.length (spFlat F) rfl HOWN.out ⟨wd.heap.size, 0, none⟩ 1 1 (spVals (yk, ys, ya, yq)) rfl rfl HNEWS.out (by simp [Value.oneCell', spVals]) (by omega) (by unfold maxLen; omega) (by omega) HBASE.out _ rfl ?_; intro gg cap w7 hown hgrow hat hlt2)
              have HPU : Hid (SpOwn w7 (w.heap.size + 1) (.slice (some ⟨gg, 0, none⟩) (F.length + 1) cap) (F ++ [(yk, ys, ya, yq)])) := by
                rw [Hid, SpOwn, spFlat_snoc, List.length_append]
                exact hown
              have HS7 := Lib.hid (HS9.out.put hgrow HPU.out)
              clear hown hgrow hat
              go_wp2
              go_roundw
              case rel => first | exact ⟨i + 1, by omega, by go_num, by rw [HF2.out]; exact HS7⟩ | (repeat (first | (refine ⟨?relx, rfl⟩; exact ⟨i + 1, by omega, by go_num, by rw [HF2.out]; exact HS7⟩) | (refine ⟨?relx, ?eqs⟩; (case eqs => (and_intros <;> rfl)); exact ⟨i + 1, by omega, by go_num, by rw [HF2.out]; exact HS7⟩) | apply Exists.intro))
              case measure => simp [intOf]; omega
          · obtain rfl : i = ds.length := by omega
            rw [List.take_length] at HS
            go_wp2
            go_ret
            exact ⟨_, rfl, by rw [HSB.out]; exact HS.out.own.mono (Nat.le_succ _), HS.out.from_⟩
end Go.Proofs.Ytdkdlgioabjldaa

namespace Go.Proofs.Ytdkdlgioabjldaa
set_option linter.unusedVariables false
set_option linter.unusedSimpArgs false
open Go.RowKit

def dirCh (n a q : Int) (out : List SpotD) (c : ChD) : List SpotD := setB out (c.1, n, a, q) c.2.2
def dirPl (n : Int) (out : List SpotD) (p : PlD) : List SpotD := p.1.2.foldl (dirCh n (p.2.1 : Int) p.1.1) out
def dirSeg (fs : List FiD) (out : List SpotD) (n : Nat) : List SpotD := (batsAt fs n).foldl (dirPl (n : Int)) out
def dirB (fs : List FiD) : List SpotD := (segsB fs).foldl (dirSeg fs) []
/-- Texts of a list of spots are small. -/
def SpSmall (ds : List SpotD) : Prop := ∀ x ∈ ds, x.1.size ≤ 9223372036854775807
theorem setB_small {ds : List SpotD} {x : SpotD} {g : Bool} (h : SpSmall ds) (hx : x.1.size ≤ 9223372036854775807) : SpSmall (setB ds x g) := fun y hy => by
  rcases setB_mem hy with hy | rfl
  · exact h y hy
  · exact hx
theorem foldl_snoc {α β : Type} (f : β → α → β) (b : β) (l : List α) {i : Nat} {x : α} (h : l[i]? = some x) : (l.take (i + 1)).foldl f b = f ((l.take i).foldl f b) x := by
  rw [take_snoc h, List.foldl_append]
  rfl
/-- Each batch of a segment has its text; its size is the frame's. -/
theorem placedGo_text : ∀ (rs : List ByteArray) (last : Option Int) (a : Nat), (∀ x ∈ rs, 1 ≤ x.size ∧ x.size ≤ 9000) → ∀ p ∈ placedGo last a rs, ∃ r, batText p.1 = some (ub r) ∧ (1 ≤ r.size ∧ r.size ≤ 9000) ∧ p.2.2 = frameLen r
  | [], last, a, _, p, hp => by simp [placedGo] at hp
  | r :: rs, last, a, h, p, hp => by
    have ih := fun b => placedGo_text rs (some b) (a + frameLen r) (fun x hx => h x (by simp [hx])) p
    have go : ∀ b : BatD, readBatS r = some b → p ∈ (b, a, frameLen r) :: placedGo (some b.1) (a + frameLen r) rs → ∃ r, batText p.1 = some (ub r) ∧ (1 ≤ r.size ∧ r.size ≤ 9000) ∧ p.2.2 = frameLen r := by
      intro b hb hp
      rcases List.mem_cons.1 hp with rfl | hp
      · exact ⟨r, readBatS_is hb, h r (by simp), rfl⟩
      · exact ih b.1 hp
    cases hb : readBatS r with
    | none => rw [placedGo_none hb] at hp; simp at hp
    | some b =>
      cases last with
      | none => rw [placedGo_first hb] at hp; exact go b hb hp
      | some q =>
        by_cases hq : b.1 ≤ q
        · rw [placedGo_low hb hq] at hp; simp at hp
        · rw [placedGo_next hb hq] at hp; exact go b hb hp
/-- Where the batch behind j of them begins. -/
def atOf (a : Nat) (pls : List PlD) (j : Nat) : Nat := a + ((pls.take j).map fun p => p.2.2).sum
theorem atOf_zero (a : Nat) (pls : List PlD) : atOf a pls 0 = a := by simp [atOf]
theorem atOf_step {a : Nat} {pls : List PlD} {j : Nat} {p : PlD} (h : pls[j]? = some p) : atOf a pls (j + 1) = atOf a pls j + p.2.2 := by
  unfold atOf
  rw [take_snoc h, List.map_append, List.sum_append]
  simp
  omega
theorem placedGo_at : ∀ (rs : List ByteArray) (last : Option Int) (a j : Nat) (p : PlD), (placedGo last a rs)[j]? = some p → p.2.1 = atOf a (placedGo last a rs) j
  | [], last, a, j, p, h => by simp [placedGo] at h
  | r :: rs, last, a, j, p, h => by
    have go : ∀ b : BatD, ((b, a, frameLen r) :: placedGo (some b.1) (a + frameLen r) rs)[j]? = some p → p.2.1 = atOf a ((b, a, frameLen r) :: placedGo (some b.1) (a + frameLen r) rs) j := by
      intro b hp
      cases j with
      | zero =>
        obtain rfl : (b, a, frameLen r) = p := by simpa using hp
        rw [atOf_zero]
      | succ j =>
        have := placedGo_at rs (some b.1) (a + frameLen r) j p (by simpa using hp)
        rw [this]
        unfold atOf
        rw [List.take_succ_cons, List.map_cons, List.sum_cons]
        dsimp only
        omega
    cases hb : readBatS r with
    | none => rw [placedGo_none hb] at h; simp at h
    | some b =>
      cases last with
      | none => rw [placedGo_first hb] at h ⊢; exact go b h
      | some q =>
        by_cases hq : b.1 ≤ q
        · rw [placedGo_low hb hq] at h; simp at h
        · rw [placedGo_next hb hq] at h ⊢; exact go b h
theorem segPl_pls {n : Int} {s : ByteArray} {f l : Nat} {pls : List PlD} (h : segPl n s = some (f, l, pls)) : headText n (f : Int) ≠ none ∧ (∀ L, headText n (f : Int) = some L → l = L.length) ∧ (∀ p ∈ pls, ∃ r, batText p.1 = some (ub r) ∧ (1 ≤ r.size ∧ r.size ≤ 9000) ∧ p.2.2 = frameLen r) ∧ ∀ j p, pls[j]? = some p → p.2.1 = atOf l pls j := by
  have hh : headOfB n s = some (f, l) := by
    have := segPl_head n s
    rw [h] at this
    exact this.symm
  obtain ⟨r, rs, hu, hl, hs⟩ := segPl_some hh
  rw [h] at hs
  simp only [Option.some.injEq, Prod.mk.injEq, true_and] at hs
  obtain ⟨_, _, hsm⟩ := unframeB_le s
  rw [hu] at hsm
  rw [headOf_cons hu] at hh
  cases hd : hdI n r with
  | none => rw [hd] at hh; cases hh
  | some f' =>
    rw [hd] at hh
    simp only [Option.some.injEq, Prod.mk.injEq] at hh
    obtain ⟨rfl, _⟩ := hh
    have hfr := head_frame hd
    have hr := hsm r (by simp)
    refine ⟨?_, fun L hL => by rw [hl]; exact head_len hd hL, ?_, ?_⟩
    · rw [hfr, frameB_yes (by rw [ub_length]; exact hr)]
      simp
    · rw [hs]; exact placedGo_text rs none l fun x hx => hsm x (by simp [hx])
    · rw [hs]; exact fun j p hp => placedGo_at rs none l j p hp
end Go.Proofs.Ytdkdlgioabjldaa

namespace Go.Proofs.Ytdkdlgioabjldaa
set_option linter.unusedVariables false
set_option linter.unusedSimpArgs false
open Go.RowKit
attribute [local go_sem] bs_size List.length_cons List.length_nil List.length_append

theorem segPl_out {n : Int} {s : ByteArray} (h : ¬ (0 ≤ n ∧ n ≤ 99)) : segPl n s = none := by
  unfold segPl
  cases (unframeB s).1 with
  | nil => rfl
  | cons r rs => dsimp only; rw [hdI_range h r]
theorem segPl_empty {n : Int} {s : ByteArray} (h : (unframeB s).1 = []) : segPl n s = none := by unfold segPl; rw [h]
theorem segPl_nohead {n : Int} {s r : ByteArray} {rs : List ByteArray} (h : (unframeB s).1 = r :: rs) (h2 : hdI n r = none) : segPl n s = none := by unfold segPl; rw [h]; dsimp only; rw [h2]
theorem segPl_yes {n : Int} {s r : ByteArray} {rs : List ByteArray} {f : Nat} (h : (unframeB s).1 = r :: rs) (h2 : hdI n r = some f) : segPl n s = some (f, frameLen r, placedGo none (frameLen r) rs) := by unfold segPl; rw [h]; dsimp only; rw [h2]
theorem own_not_g {v : Value} {b g n c H : Nat} (hat : v.ownBlock = some b ∨ b = H) (hv : v.ownBlock ≠ some g) (hH : g < H) : (Value.slice (some ⟨b, 0, none⟩) n c).ownBlock ≠ some g := by
  simp only [Value.ownBlock, ne_eq, Option.some.injEq]
  rcases hat with h | h
  · intro e; rw [h, e] at hv; exact hv rfl
  · omega
/-- The end is where the loop stands. -/
theorem endOf_step (l : Nat) (acc : List PlD) (b : BatD) (a m : Nat) : endOf l (acc ++ [(b, a, m)]) = a + m := endOf_snoc _ _ _
set_option maxHeartbeats 8000000 in
set_option maxRecDepth 100000 in
theorem spec_ReadSegment_calls (n : Int) (s : ByteArray) (w : World) (hs : s.size ≤ 1125899906842624) : Calls Try.prog 55 #[.int .i64 n, .string s] w (SegPost w (segPl n s)) := by
  obtain ⟨i0, hi0, hz, hsz, hby⟩ := info_parts info_bt
  have HB0 : Hid (Below w.heap.size w (w.alloc (.cells #[] 90))) := (Below.refl _ _).alloc (Nat.le_refl _) _
  have HM0 : Hid (BatsOwn (w.alloc (.cells #[] 90)) w.heap.size (.slice (some ⟨w.heap.size, 0, none⟩) 0 0) []) := ListC.made (Nat.le_refl _)
  obtain ⟨_, hlen, hsm⟩ := unframeB_le s
  cases hr : inR n 0 99
  · have HE : Hid (segPl n s = none) := segPl_out (by unfold inR at hr; simp only [Bool.and_eq_false_iff, decide_eq_false_iff_not] at hr; omega)
    have HI := Lib.hid hr
    clear hr
    go_enter Try.func55, Try.ntmps55
    go_wp2_with fail
    go_at_call 67
    refine (spec_Unframe_calls s _ hs).mono ?_
    rintro e w1 ⟨v, rfl, ho, hb⟩
    go_wp2_with fail
    go_at_call 46
    refine (spec_l01In_calls _ _ _ _).mono ?_
    rw [HI.out]
    rintro e w' ⟨rfl, rfl⟩
    go_wp2
    refine bodyPost_ret (results_tmp4 rfl _ _ _) rfl ?_
    exact segPost_no HE.out (HM0.out.below hb) (HB0.out.trans (hb.mono HB0.out.size))
  · have hnr : 0 ≤ n ∧ n ≤ 99 := by unfold inR at hr; simp only [Bool.and_eq_true, decide_eq_true_eq] at hr; exact hr
    have HI := Lib.hid hr
    obtain ⟨n, rfl⟩ := Int.eq_ofNat_of_zero_le hnr.1
    clear hr
    cases hu : (unframeB s).1 with
    | nil =>
      have HE := Lib.hid (segPl_empty (n := (n : Int)) hu)
      have HU := Lib.hid hu
      clear hu
      go_enter Try.func55, Try.ntmps55
      go_wp2_with fail
      go_at_call 67
      refine (spec_Unframe_calls s _ hs).mono ?_
      rintro e w1 ⟨v, rfl, ho, hb⟩
      rw [HU.out] at ho
      obtain ⟨A, c, rfl⟩ := ho.form
      rw [List.length_nil]
      go_wp2_with fail
      go_at_call 46
      refine (spec_l01In_calls _ _ _ _).mono ?_
      rw [HI.out]
      rintro e w' ⟨rfl, rfl⟩
      go_wp2
      refine bodyPost_ret (results_tmp4 rfl _ _ _) rfl ?_
      exact segPost_no HE.out (HM0.out.below hb) (HB0.out.trans (hb.mono HB0.out.size))
    | cons r rs =>
      rw [hu] at hlen hsm
      rw [List.length_cons] at hlen
      have hr9 := hsm r (by simp)
      have hl9 := frameLen_le hr9.2
      have HSM := Lib.hid (fun x hx => hsm x (List.mem_cons_of_mem _ hx))
      have HU := Lib.hid hu
      have hsame := hd_same (n := (n : Int)) ⟨by omega, by omega⟩ r
      have hz0 : ((rs.length : Int) + 1 == 0) = false := beq_eq_false_iff_ne.mpr (by omega)
      have hzz : (0 : Int) < (rs.length : Int) + 1 := by omega
      cases hh : hdI (n : Int) r with
      | none =>
        have HE := Lib.hid (segPl_nohead hu hh)
        have HH : Hid (hdS (n : Int) r = none) := by rw [Hid, ← hsame, hh]
        clear hu hh hsame hsm
        go_enter Try.func55, Try.ntmps55
        go_wp2_with fail
        go_at_call 67
        refine (spec_Unframe_calls s _ hs).mono ?_
        rintro e w1 ⟨v, rfl, ho, hb⟩
        rw [HU.out] at ho
        obtain ⟨ad, c, rfl, hc0⟩ := ownS_at0 ho
        go_wp2_with fail
        go_at_call 46
        refine (spec_l01In_calls _ _ _ _).mono ?_
        rw [HI.out]
        rintro e w' ⟨rfl, rfl⟩
        go_wp2_with fail
        go_at_call 68
        refine (spec_l06Head_calls n r _ (by omega) (by omega)).mono ?_
        rw [HH.out]
        rintro e w2 ⟨rfl, hb2⟩
        simp only [hsRes]
        go_wp2
        refine bodyPost_ret (results_tmp4 rfl _ _ _) rfl ?_
        exact segPost_no HE.out ((HM0.out.below hb).below hb2) (HB0.out.trans ((hb.trans (hb2.mono hb.size)).mono HB0.out.size))
      | some f =>
        have HE := Lib.hid (segPl_yes hu hh)
        have HH : Hid (hdS (n : Int) r = some f) := by rw [Hid, ← hsame, hh]
        have hfr : frameB (ub r) = some (varBytes r.size ++ (sum4 (ub r) ++ ub r)) := by rw [frameB_yes (by rw [ub_length]; exact hr9), ub_length]
        obtain ⟨L, hL1, hL2⟩ : ∃ L, frameB (ub r) = some L ∧ frameLen r = L.length := ⟨_, hfr, by unfold frameLen; rw [hfr]⟩
        have HL1 := Lib.hid hL1
        have hLl : L.length ≤ 9020 := by rw [← hL2]; exact hl9
        rw [hL2] at HE
        have HP : Hid (PlAt (placedGo none L.length rs) rs 0 [] L.length) := ⟨rfl, rfl, by omega⟩
        clear hu hh hsame hsm hfr hL1 hL2 hl9
        generalize placedGo none L.length rs = W at HP HE
        go_enter Try.func55, Try.ntmps55
        go_wp2_with fail
        go_at_call 67
        refine (spec_Unframe_calls s _ hs).mono ?_
        rintro e w1 ⟨v, rfl, ho, hb⟩
        rw [HU.out] at ho
        rcases ownS_at ho with ⟨_, h0⟩ | ⟨g, cap, rfl, hgB, hgl, hcap, hcm, hcells⟩
        · cases h0
        have hc0 := hcells 0 r rfl
        have HC := Lib.hid (fun j x (hx : rs[j]? = some x) => hcells (j + 1) x (by simpa using hx))
        have HB1 := Lib.hid (HB0.out.trans (hb.mono HB0.out.size))
        have HM1 := Lib.hid (HM0.out.below hb)
        clear hb ho hcells
        rw [List.length_cons]
        go_wp2_with fail
        go_at_call 46
        refine (spec_l01In_calls _ _ _ _).mono ?_
        rw [HI.out]
        rintro e w' ⟨rfl, rfl⟩
        have HC0 := Lib.hid hc0
        go_wp2_with fail
        go_at_call 68
        refine (spec_l06Head_calls n r _ (by omega) (by omega)).mono ?_
        rw [HH.out]
        rintro e w2 ⟨rfl, hb2⟩
        simp only [hsRes]
        have hc0' := (hb2.cell (World.block_lt_of_cell? _ _ HC0.out)).trans HC0.out
        have HB2 := Lib.hid (HB1.out.trans (hb2.mono HB1.out.size))
        have HM2 := Lib.hid (HM1.out.below hb2)
        have HX2 := Lib.hid hb2
        clear hb2 hc0
        go_wp2_with fail
        go_at_call 69
        refine (spec_Frame_calls r _ (by omega)).mono ?_
        rw [HL1.out]
        rintro e w3 ⟨rfl, hb3⟩
        simp only [varRes]
        have HB3 := Lib.hid (HB2.out.trans (hb3.mono HB2.out.size))
        have HM3 := Lib.hid (HM2.out.below hb3)
        have HX3 := Lib.hid (HX2.out.trans (hb3.mono HX2.out.size))
        clear hb3 hc0'
        have HCX : Hid (∀ j x, rs[j]? = some x → w3.cell? ⟨g, j + 1, none⟩ = some (.string x)) := fun j x hx => (HX3.out.cell hgl).trans (HC.out j x hx)
        have hg3 : g < w3.heap.size := Nat.lt_of_lt_of_le hgl HX3.out.size
        have hgw : w.heap.size < g := by simp at hgB; omega
        go_wp2
        go_loopw [8, 15, 16] (fun ov ev iv wr => ∃ (j : Nat) (acc : List PlD) (a : Nat) (v : Value), j ≤ rs.length ∧ iv = .int .i64 ((1 + j : Nat) : Int) ∧ ev = .int .i64 (a : Int) ∧ v = ov ∧ PlAt W rs j acc a ∧ endOf L.length acc = a ∧ BatsOwn wr w.heap.size v (acc.map Prod.fst) ∧ Below w.heap.size w wr ∧ wr.heap[g]? = w3.heap[g]? ∧ v.ownBlock ≠ some g ∧ w3.heap.size ≤ wr.heap.size) (fun _ _ iv _ => rs.length + 1 - (intOf iv).toNat)
        case atStart => exact ⟨0, [], L.length, _, Nat.zero_le _, rfl, rfl, rfl, HP.out, rfl, HM3.out, HB3.out, rfl, by simp [Value.ownBlock]; omega, Nat.le_refl _⟩
        case round =>
          obtain ⟨j, acc, a, v, hj, rfl, rfl, rfl, hat, hen, hown, hbel, hgg, hvg, hsz3⟩ := hrel
          have HAT := Lib.hid hat
          have HEN := Lib.hid hen
          have HO := Lib.hid hown
          have HB := Lib.hid hbel
          have HG := Lib.hid hgg
          have HVG0 := Lib.hid hvg
          have HGL : Hid (w3.heap.size ≤ wr.heap.size ∧ g < w3.heap.size) := ⟨hsz3, hg3⟩
          have ha : a ≤ 200000000 := by have := hat.2.2; omega
          have HAL := Lib.hid hat.2.1
          obtain ⟨A, c, rfl⟩ := hown.form
          have HVG := HVG0
          rw [List.length_map, hat.2.1] at HO HVG ⊢
          clear hat hown hbel hgg hvg hen hsz3 HVG0
          by_cases hlt : j < rs.length
          · obtain ⟨x, hx⟩ : ∃ x, rs[j]? = some x := ⟨_, List.getElem?_eq_getElem hlt⟩
            have hxs := HSM.out x (List.mem_of_getElem? hx)
            have hcx : wr.cell? ⟨g, 1 + j, none⟩ = some (.string x) := (World.cell?_of_block (a := ⟨g, 1 + j, none⟩) HG.out).trans (by rw [Nat.add_comm]; exact HCX.out j x hx)
            have HX := Lib.hid hx
            have hli : 1 + (j : Int) < (rs.length : Int) + 1 := by omega
            have hti : (1 + (j : Int)).toNat = 1 + j := by omega
            clear hx
            cases hb : readBatS x with
            | none =>
              have HWE := Lib.hid (plAt_stop HAT.out (by rw [drop_get HX.out]; exact placedGo_none hb))
              have HRB := Lib.hid hb
              clear hb
              go_wp2_with fail
              go_at_call 70
              refine (spec_ReadBatch_calls x _ (by omega)).mono ?_
              rw [HRB.out]
              rintro e w4 ⟨hb4, rfl⟩
              have HO4 := Lib.hid (HO.out.below hb4)
              have HB4 := Lib.hid (HB.out.trans (hb4.mono HB.out.size))
              clear hb4
              go_wp2
              go_quiet (fail)
              go_wp2
              refine bodyPost_ret (results_tmp4 rfl _ _ _) rfl ?_
              exact segPost_of HE.out HWE.out HEN.out ((HO4.out.alloc _).below (blwN (Below.refl _ _) _)) (blwN (HB4.out.alloc HB4.out.size _) _)
            | some b =>
              obtain ⟨q, cs⟩ := b
              have HRB := Lib.hid hb
              obtain ⟨M, hM1, hM2⟩ : ∃ M, frameB (ub x) = some M ∧ frameLen x = M.length := ⟨_, frameB_yes (by rw [ub_length]; exact hxs), by unfold frameLen; rw [frameB_yes (by rw [ub_length]; exact hxs)]⟩
              have HF1 := Lib.hid hM1
              have HF2 := Lib.hid hM2
              have HBS := Lib.hid (batD_small hb)
              clear hM1 hM2
              go_wp2_with fail
              go_at_call 70
              refine (spec_ReadBatch_calls x _ (by omega)).mono ?_
              rw [HRB.out]
              rintro e w4 ⟨hb4, vb, rfl, hvb⟩
              obtain ⟨Ab, cb, rfl, hrb⟩ := hvb.row HBS.out.1
              have HO4 := Lib.hid (HO.out.below hb4)
              have HV4 := Lib.hid hvb
              have HW4 := Lib.hid hb4
              clear hb4 hvb hrb
              have HW5 : Hid (Below w4.heap.size w4 (w4.alloc (.cells #[.int .i64 q, .slice Ab cs.length cb] 90))) := (Below.refl _ _).alloc (Nat.le_refl _) _
              have HO5 := Lib.hid (HO4.out.below HW5.out)
              generalize hW5 : w4.alloc (.cells #[.int .i64 q, .slice Ab cs.length cb] 90) = WB at HW5 HO5
              have y0 : WB.cell? ⟨w4.heap.size, 0, none⟩ = some (.int .i64 q) := by rw [← hW5]; exact blk_cell (blk_new w4 _) 0
              have y1 : WB.cell? ⟨w4.heap.size, 1, none⟩ = some (.slice Ab cs.length cb) := by rw [← hW5]; exact blk_cell (blk_new w4 _) 1
              by_cases hj0 : j = 0
              · have hacc : acc = [] := List.eq_nil_of_length_eq_zero (by rw [HAL.out, hj0])
                have HST := Lib.hid (plAt_step HAT.out HX.out hxs.2 (by rw [hacc]; exact placedGo_first hb))
                have g0 : decide (0 < j) = false := decide_eq_false (by omega)
                clear hb hj0 hacc
                go_wp2
                go_quiet (fail)
                have HX5 : Hid (Below w4.heap.size w4 (WB.drewN nq)) := blwN HW5.out _
                have z0 : (WB.drewN nq).cell? ⟨w4.heap.size, 0, none⟩ = some (.int .i64 q) := y0
                have z1 : (WB.drewN nq).cell? ⟨w4.heap.size, 1, none⟩ = some (.slice Ab cs.length cb) := y1
                generalize WB.drewN nq = W5 at HX5 z0 z1 ⊢
                clear y0 y1
                have HX6 : Hid (Below wr.heap.size wr (W5.alloc (.cells (batVals (.slice Ab cs.length cb, (q, cs))).toArray 90))) := by
                  have e1 := HW4.out.trans (HX5.out.mono HW4.out.size)
                  exact e1.alloc e1.size _
                have HU6 : Hid (ChOwn (W5.alloc (.cells (batVals (.slice Ab cs.length cb, (q, cs))).toArray 90)) w.heap.size (.slice Ab cs.length cb) cs) := (HV4.out.mono HB.out.size).below (HX5.out.alloc HX5.out.size _)
                obtain ⟨fl, hfl, hpush⟩ := ListC.push HO.out (x := ((q, cs) : BatD)) HX6.out HU6.out HBS.out.1 (fun k hk => (HV4.out.lt k hk).1)
                rw [List.length_map, HAL.out] at hfl hpush
                have HFL := Lib.hid hfl
                have HPU := Lib.hid hpush
                have HBASE : Hid (w.heap.size ≤ (W5.alloc (.cells (batVals (.slice Ab cs.length cb, (q, cs))).toArray 90)).heap.size) := Nat.le_trans HB.out.size HX6.out.size
                have HNEWS : Hid (∀ j u, (batVals (.slice Ab cs.length cb, (q, cs)))[j]? = some u → (W5.alloc (.cells (batVals (.slice Ab cs.length cb, (q, cs))).toArray 90)).cell? ((⟨W5.heap.size, 0, none⟩ : Addr).add j) = some u) := World.news_of_block (heap_alloc_new W5 _)
                clear hfl hpush
                go_wp2_with (at_builtin; refine wpList_append_lies _ rfl _ _ _ rfl w.heap.size 90 i0 (.agg #[.int .i64 0, .slice none 0 0]) 2 32 Try.underlying84 hi0 hz hsz hby rfl (by omega) _ j fl rfl HFL.out ⟨W5.heap.size, 0, none⟩ 1 1 (batVals (.slice Ab cs.length cb, (q, cs))) rfl rfl HNEWS.out (by simp [Value.oneCell', batVals]) (by omega) (by unfold maxLen; omega) (by omega) HBASE.out _ rfl ?_; intro b7 cap7 w7 hown7 hgrow7 hat7 hlt7; have HN7 := Lib.hid (HPU.out b7 cap7 w7 hown7 hgrow7 hat7); have HB7 : Hid (Below w.heap.size w w7) := gr_below (HB.out.trans (HX6.out.mono HB.out.size)) hgrow7 HBASE.out (fun k e => (HO.out.lt k e).1); have HG7 : Hid (w7.heap[g]? = w3.heap[g]?) := (hgrow7.block g (Nat.lt_of_lt_of_le (by have := HGL.out; omega) HX6.out.size) (fun e => HVG.out e.symm)).trans ((HX6.out.block g (by have := HGL.out; omega)).trans HG.out); have HVG7 : Hid ((Value.slice (some ⟨b7, 0, none⟩) (j + 1) cap7).ownBlock ≠ some g) := own_not_g hat7 HVG.out (Nat.lt_of_lt_of_le (by have := HGL.out; omega) HX6.out.size); have HS7 : Hid (wr.heap.size ≤ w7.heap.size) := Nat.le_trans HX6.out.size hgrow7.size; have g7 : w7.cell? ⟨g, 1 + j, none⟩ = some (.string x) := (World.cell?_of_block (a := ⟨g, 1 + j, none⟩) HG7.out).trans (by rw [Nat.add_comm]; exact HCX.out j x HX.out); clear hown7 hgrow7 hat7 hlt7)
                go_wp2_with fail
                go_at_call 69
                refine (spec_Frame_calls x _ (by omega)).mono ?_
                rw [HF1.out]
                rintro e w8 ⟨rfl, hb8⟩
                simp only [varRes]
                have HN8 := Lib.hid (HN7.out.below hb8)
                have HB8 := Lib.hid (HB7.out.trans (hb8.mono HB7.out.size))
                have HG8 : Hid (w8.heap[g]? = w3.heap[g]?) := (hb8.block g (by have := HS7.out; have := HGL.out; omega)).trans HG7.out
                have hs8 : Hid (wr.heap.size ≤ w8.heap.size) := Nat.le_trans HS7.out hb8.size
                have hMl : M.length ≤ 9020 := by rw [← HF2.out]; exact frameLen_le hxs.2
                clear hb8 g7
                go_wp2
                go_roundw
                case rel => exact ⟨j + 1, acc ++ [((q, cs), a, M.length)], a + M.length, _, by omega, by go_num, by go_num, rfl, by have h := HST.out; rw [HF2.out] at h; exact h, endOf_step _ _ _ _ _, by rw [List.map_append]; exact HN8.out, HB8.out, HG8.out, HVG7.out, by have := HGL.out; have := hs8.out; omega⟩
                case measure => simp [intOf]; omega
              · obtain ⟨i, hi⟩ : ∃ i, j = i + 1 := ⟨j - 1, by omega⟩
                have hil : i < acc.length := by rw [HAL.out]; omega
                obtain ⟨p, hp⟩ : ∃ p, acc[i]? = some p := ⟨_, List.getElem?_eq_getElem hil⟩
                have hls : lastSeq acc = some p.1.1 := by
                  unfold lastSeq
                  rw [List.getLast?_eq_getElem?, HAL.out, hi, Nat.add_sub_cancel, hp]
                  rfl
                obtain ⟨b0, u0, hA, hcl, _, _⟩ := HO5.out.at_ (fun _ => rfl) (j := i) (x := p.1) (by rw [List.getElem?_map, hp]; rfl)
                subst hA
                have hlc := hcl 0 (by omega)
                rw [show (batVals (u0, p.1))[0]? = some (.int .i64 p.1.1) from rfl, Nat.add_zero] at hlc
                have ht : ((j : Int) - 1).toNat = i := by omega
                have hw : IntKind.i64.wrap ((j : Int) - 1) = (j : Int) - 1 := by rw [IntKind.wrap_i64]; omega
                have hb0 : (0 : Int) ≤ (j : Int) - 1 := by omega
                have hbx : (j : Int) - 1 < (j : Int) := by omega
                have g0 : decide (0 < j) = true := decide_eq_true (by omega)
                by_cases hq : q ≤ p.1.1
                · have HWE := Lib.hid (plAt_stop HAT.out (by rw [drop_get HX.out, hls]; exact placedGo_low hb hq))
                  have hqd : decide (q ≤ p.1.1) = true := decide_eq_true hq
                  clear hb hi hp hls hcl hil hj0 hq
                  go_wp2
                  go_quiet (fail)
                  go_wp2
                  refine bodyPost_ret (results_tmp4 rfl _ _ _) rfl ?_
                  exact segPost_of HE.out HWE.out HEN.out (HO5.out.below (blwN (Below.refl _ _) _)) (HB.out.trans ((blwN (HW4.out.trans (HW5.out.mono HW4.out.size)) _).mono HB.out.size))
                · have HST := Lib.hid (plAt_step HAT.out HX.out hxs.2 (by rw [hls]; exact placedGo_next hb hq))
                  have hqd : decide (q ≤ p.1.1) = false := decide_eq_false hq
                  clear hb hi hp hls hcl hil hj0 hq
                  go_wp2
                  go_quiet (fail)
                  have HX5 : Hid (Below w4.heap.size w4 (WB.drewN nq)) := blwN HW5.out _
                  have z0 : (WB.drewN nq).cell? ⟨w4.heap.size, 0, none⟩ = some (.int .i64 q) := y0
                  have z1 : (WB.drewN nq).cell? ⟨w4.heap.size, 1, none⟩ = some (.slice Ab cs.length cb) := y1
                  generalize WB.drewN nq = W5 at HX5 z0 z1 ⊢
                  clear y0 y1
                  have HX6 : Hid (Below wr.heap.size wr (W5.alloc (.cells (batVals (.slice Ab cs.length cb, (q, cs))).toArray 90))) := by
                    have e1 := HW4.out.trans (HX5.out.mono HW4.out.size)
                    exact e1.alloc e1.size _
                  have HU6 : Hid (ChOwn (W5.alloc (.cells (batVals (.slice Ab cs.length cb, (q, cs))).toArray 90)) w.heap.size (.slice Ab cs.length cb) cs) := (HV4.out.mono HB.out.size).below (HX5.out.alloc HX5.out.size _)
                  obtain ⟨fl, hfl, hpush⟩ := ListC.push HO.out (x := ((q, cs) : BatD)) HX6.out HU6.out HBS.out.1 (fun k hk => (HV4.out.lt k hk).1)
                  rw [List.length_map, HAL.out] at hfl hpush
                  have HFL := Lib.hid hfl
                  have HPU := Lib.hid hpush
                  have HBASE : Hid (w.heap.size ≤ (W5.alloc (.cells (batVals (.slice Ab cs.length cb, (q, cs))).toArray 90)).heap.size) := Nat.le_trans HB.out.size HX6.out.size
                  have HNEWS : Hid (∀ j u, (batVals (.slice Ab cs.length cb, (q, cs)))[j]? = some u → (W5.alloc (.cells (batVals (.slice Ab cs.length cb, (q, cs))).toArray 90)).cell? ((⟨W5.heap.size, 0, none⟩ : Addr).add j) = some u) := World.news_of_block (heap_alloc_new W5 _)
                  clear hfl hpush
                  go_wp2_with (at_builtin; refine wpList_append_lies _ rfl _ _ _ rfl w.heap.size 90 i0 (.agg #[.int .i64 0, .slice none 0 0]) 2 32 Try.underlying84 hi0 hz hsz hby rfl (by omega) _ j fl rfl HFL.out ⟨W5.heap.size, 0, none⟩ 1 1 (batVals (.slice Ab cs.length cb, (q, cs))) rfl rfl HNEWS.out (by simp [Value.oneCell', batVals]) (by omega) (by unfold maxLen; omega) (by omega) HBASE.out _ rfl ?_; intro b7 cap7 w7 hown7 hgrow7 hat7 hlt7; have HN7 := Lib.hid (HPU.out b7 cap7 w7 hown7 hgrow7 hat7); have HB7 : Hid (Below w.heap.size w w7) := gr_below (HB.out.trans (HX6.out.mono HB.out.size)) hgrow7 HBASE.out (fun k e => (HO.out.lt k e).1); have HG7 : Hid (w7.heap[g]? = w3.heap[g]?) := (hgrow7.block g (Nat.lt_of_lt_of_le (by have := HGL.out; omega) HX6.out.size) (fun e => HVG.out e.symm)).trans ((HX6.out.block g (by have := HGL.out; omega)).trans HG.out); have HVG7 : Hid ((Value.slice (some ⟨b7, 0, none⟩) (j + 1) cap7).ownBlock ≠ some g) := own_not_g hat7 HVG.out (Nat.lt_of_lt_of_le (by have := HGL.out; omega) HX6.out.size); have HS7 : Hid (wr.heap.size ≤ w7.heap.size) := Nat.le_trans HX6.out.size hgrow7.size; have g7 : w7.cell? ⟨g, 1 + j, none⟩ = some (.string x) := (World.cell?_of_block (a := ⟨g, 1 + j, none⟩) HG7.out).trans (by rw [Nat.add_comm]; exact HCX.out j x HX.out); clear hown7 hgrow7 hat7 hlt7)
                  go_wp2_with fail
                  go_at_call 69
                  refine (spec_Frame_calls x _ (by omega)).mono ?_
                  rw [HF1.out]
                  rintro e w8 ⟨rfl, hb8⟩
                  simp only [varRes]
                  have HN8 := Lib.hid (HN7.out.below hb8)
                  have HB8 := Lib.hid (HB7.out.trans (hb8.mono HB7.out.size))
                  have HG8 : Hid (w8.heap[g]? = w3.heap[g]?) := (hb8.block g (by have := HS7.out; have := HGL.out; omega)).trans HG7.out
                  have hs8 : Hid (wr.heap.size ≤ w8.heap.size) := Nat.le_trans HS7.out hb8.size
                  have hMl : M.length ≤ 9020 := by rw [← HF2.out]; exact frameLen_le hxs.2
                  clear hb8 g7
                  go_wp2
                  go_roundw
                  case rel => exact ⟨j + 1, acc ++ [((q, cs), a, M.length)], a + M.length, _, by omega, by go_num, by go_num, rfl, by have h := HST.out; rw [HF2.out] at h; exact h, endOf_step _ _ _ _ _, by rw [List.map_append]; exact HN8.out, HB8.out, HG8.out, HVG7.out, by have := HGL.out; have := hs8.out; omega⟩
                  case measure => simp [intOf]; omega
          · obtain rfl : j = rs.length := by omega
            have HWE := Lib.hid (plAt_end HAT.out (Nat.le_refl _))
            have hli : ¬ 1 + (rs.length : Int) < (rs.length : Int) + 1 := by omega
            go_wp2
            refine bodyPost_ret (results_tmp4 rfl _ _ _) rfl ?_
            exact segPost_of HE.out HWE.out HEN.out HO.out HB.out
end Go.Proofs.Ytdkdlgioabjldaa

namespace Go.Proofs.Ytdkdlgioabjldaa
set_option linter.unusedVariables false
set_option linter.unusedSimpArgs false
open Go.RowKit

theorem info_int : (Try.prog.info? 3).map (fun i => (i.zero, i.size, i.bytes)) = some (some (.int .i64 0), 1, 8) := by kernel_rfl
def OwnI (w : World) (B : Nat) (v : Value) (ns : List Int) : Prop := w.ownsRow B 3 1 v ns.length (ns.map (Value.int .i64))
theorem OwnI.form {w : World} {B : Nat} {v : Value} {ns : List Int} (h : OwnI w B v ns) : ∃ A c, v = .slice A ns.length c := by
  rcases h.2 with ⟨rfl, h0⟩ | ⟨g, cap, cur, rfl, _⟩
  · exact ⟨none, 0, by rw [h0]⟩
  · exact ⟨_, _, rfl⟩
theorem OwnI.lt {w : World} {B : Nat} {v : Value} {ns : List Int} (h : OwnI w B v ns) : ∀ k, v.ownBlock = some k → B ≤ k ∧ k < w.heap.size := World.ownsRow.lt h
theorem OwnI.at_ {w : World} {B n c : Nat} {A : Option Addr} {ns : List Int} (h : OwnI w B (.slice A n c) ns) {j : Nat} {x : Int} (hj : ns[j]? = some x) : ∃ b, A = some ⟨b, 0, none⟩ ∧ w.cell? ⟨b, j, none⟩ = some (.int .i64 x) := by
  rcases h.2 with ⟨e, h0⟩ | ⟨g, cap, cur, e, _, _, hle, _⟩
  · have : ns = [] := List.eq_nil_of_length_eq_zero h0
    rw [this] at hj
    simp at hj
  · injection e with e1 e2 e3
    subst e1
    have hc := World.ownsRow.cells h (g := g) rfl j (.int .i64 x) (by rw [List.getElem?_map, hj]; rfl)
    rw [add_plain] at hc
    exact ⟨g, rfl, hc⟩
theorem OwnI.below {w w' : World} {B : Nat} {v : Value} {ns : List Int} (h : OwnI w B v ns) (hb : Below w.heap.size w w') : OwnI w' B v ns := by
  refine World.ownsRow.kept h (row := none) ⟨hb.os, hb.tape, hb.output, hb.size, fun k hk _ => hb.block k hk⟩ ?_
  cases v.ownBlock
  · exact .inl rfl
  · exact .inr (by simp)
theorem ownI_lit (w : World) {B : Nat} (hB : B ≤ w.heap.size) (x : Int) : OwnI (w.alloc (.cells #[.int .i64 x] 3)) B (.slice (some ⟨w.heap.size, 0, none⟩) 1 1) [x] :=
  ⟨rfl, .inr ⟨w.heap.size, 1, #[.int .i64 x], rfl, hB, heap_alloc_new w _, Nat.le_refl _, by unfold maxLen; omega, rfl, rfl⟩⟩
theorem below_pushI {B : Nat} {a w w2 : World} {o : Obj} {v : Value} {ns : List Int} (h : Below B a w) (hB : B ≤ w.heap.size) (ho : OwnI w B v ns) (hg : (w.alloc o).grownBy w2 v.ownBlock) : Below B a w2 :=
  (h.alloc hB o).grown hg (by simp; omega) fun k hk => (ho.lt k hk).1
theorem map_back (L : List (List ByteArray)) : (L.map (·.map ub)).map (·.map bs) = L := by
  rw [List.map_map]
  conv => rhs; rw [← List.map_id L]
  refine List.map_congr_left fun xs _ => ?_
  simp only [Function.comp, List.map_map, id]
  conv => rhs; rw [← List.map_id xs]
  exact List.map_congr_left fun x _ => bs_ub x
end Go.Proofs.Ytdkdlgioabjldaa

namespace Go.Proofs.Ytdkdlgioabjldaa
set_option linter.unusedVariables false
set_option linter.unusedSimpArgs false
open Go.RowKit
attribute [local go_sem] bs_size List.length_cons List.length_nil List.length_append

/-- The disk in its box. -/
abbrev W5 (w : World) (A : Option Addr) (n c : Nat) : World := w.alloc (.cells #[.slice A n c] 58)
structure VD (w : World) (A : Option Addr) (n c : Nat) (W : World) : Prop where
  b : Below (W5 w A n c).heap.size (W5 w A n c) W
section
variable {w W W' : World} {A : Option Addr} {n c : Nat}
theorem VD.go (h : VD w A n c W) (hb : Below W.heap.size W W') : VD w A n c W' := ⟨h.b.trans (hb.mono h.b.size)⟩
theorem VD.drew (h : VD w A n c W) : VD w A n c W.drew := h.go (Below.drew (Below.refl _ _))
theorem VD.alloc (h : VD w A n c W) (o : Obj) : VD w A n c (W.alloc o) := h.go ((Below.refl _ _).alloc (Nat.le_refl _) _)
theorem VD.from_ (h : VD w A n c W) : Below w.heap.size w W := ((Below.refl _ _).alloc (Nat.le_refl _) _).trans (h.b.mono (by simp))
theorem VD.cell (h : VD w A n c W) : W.cell? ⟨w.heap.size, 0, none⟩ = some (.slice A n c) := (h.b.cell (by simp)).trans (blk_cell (blk_new w _) 0)
theorem VD.all (h : VD w A n c W) : W.cell? ⟨w.heap.size, 0, none⟩ = some (.slice A n c) ∧ Hid (VD w A n c W) := ⟨h.cell, h⟩
theorem VD.grown {row : Option Nat} (h : VD w A n c W) (hg : W.grownBy W' row) (hr : ∀ k, row = some k → w.heap.size + 1 ≤ k) : VD w A n c W' := ⟨h.b.grown hg h.b.size fun k e => by have := hr k e; simpa using this⟩
theorem VD.size (h : VD w A n c W) : w.heap.size + 1 ≤ W.heap.size := by have := h.b.size; simpa using this
end
theorem vd_start (w : World) (A : Option Addr) (n c : Nat) : VD w A n c (W5 w A n c) := ⟨Below.refl _ _⟩
/-- What Segments gives. -/
def SegsPost (w : World) (fs : List FiD) (e : Ending) (w' : World) : Prop := ∃ v, e = .returned (.tuple #[v, .bool (!(segsB fs).isEmpty)]) ∧ OwnI w' w.heap.size v ((segsB fs).map Int.ofNat) ∧ Below w.heap.size w w'
theorem segsPost_no {w w' : World} {fs : List FiD} {v : Value} (h : segsB fs = []) (ho : OwnI w' w.heap.size v []) (hb : Below w.heap.size w w') : SegsPost w fs (.returned (.tuple #[v, .bool false])) w' := ⟨v, by rw [h]; rfl, by rw [h]; exact ho, hb⟩
theorem seg_head {n : Int} {s : ByteArray} : segPl n s = none ∧ headOfB n s = none ∨ ∃ f l pls, segPl n s = some (f, l, pls) ∧ headOfB n s = some (f, l) := by
  have h := segPl_head n s
  cases hs : segPl n s with
  | none => rw [hs] at h; exact .inl ⟨rfl, h.symm⟩
  | some x =>
    obtain ⟨f, l, pls⟩ := x
    rw [hs] at h
    exact .inr ⟨f, l, pls, rfl, h.symm⟩
theorem OwnI.mono {w : World} {B B' : Nat} {v : Value} {ns : List Int} (h : OwnI w B v ns) (hb : B' ≤ B) : OwnI w B' v ns := own_low h hb
theorem ownI_empty (w : World) {B : Nat} (hB : B ≤ w.heap.size) : OwnI (w.alloc (.cells #[] 3)) B (.slice (some ⟨w.heap.size, 0, none⟩) 0 0) [] := World.ownsRow_made (w := w) #[] 0 hB (Nat.zero_le _) rfl
theorem least_step {fs : List FiD} {n f : Nat} (h : hdFrom fs n = f) : leastB fs (n + 1) = max (leastB fs n) f := by rw [leastB, h]
theorem outs_yes {fs : List FiD} {a k : Nat} (h : a ≤ k) (hf : hasF fs k = true) : outsB fs a (k + 1) = outsB fs a k ++ [k] := by rw [outsB, if_pos ⟨h, hf⟩]
theorem outs_no {fs : List FiD} {a k : Nat} (hf : hasF fs k = false) : outsB fs a (k + 1) = outsB fs a k := by rw [outsB, if_neg (by simp [hf])]
set_option maxHeartbeats 8000000 in
set_option maxRecDepth 100000 in
theorem spec_Segments_calls (A : Option Addr) (c : Nat) (fs : List FiD) (w : World) (h : FiRow w A c fs) :
    Calls Try.prog 52 #[.agg #[.slice A fs.length c]] w (SegsPost w fs) := by
  obtain ⟨i0, hi0, hz, hsz, hby⟩ := info_parts info_int
  have HF := Lib.hid h
  have hl := h.len
  have HV := Lib.hid (vd_start w A fs.length c)
  have HV0 := Lib.hid (HV.out.alloc (.cells #[] 3))
  have HO0 : Hid (OwnI ((W5 w A fs.length c).alloc (.cells #[] 3)) (w.heap.size + 1) (.slice (some ⟨w.heap.size + 1, 0, none⟩) 0 0) []) := by
    have := ownI_empty (W5 w A fs.length c) (B := w.heap.size + 1) (by simp)
    rwa [show (W5 w A fs.length c).heap.size = w.heap.size + 1 by simp] at this
  have p0 := HV0.out.cell
  clear h
  cases hdk : diskOkB fs
  · have HDK := Lib.hid hdk
    have HE := Lib.hid (segs_no hdk)
    clear hdk
    go_enter Try.func52, Try.ntmps52
    go_wp2_with fail
    go_at_call 65
    refine (spec_DiskOk_calls A c fs _ (HF.out.below HV0.out.from_)).mono ?_
    rw [HDK.out]
    rintro e w3 ⟨rfl, hb3⟩
    have HV3 := Lib.hid (HV0.out.go hb3)
    have HO3 := Lib.hid (HO0.out.below hb3)
    clear hb3 p0
    go_wp2
    go_ret2
    exact segsPost_no HE.out (HO3.out.mono (Nat.le_succ _)) HV3.out.from_
  · have HDK := Lib.hid hdk
    clear hdk
    go_enter Try.func52, Try.ntmps52
    go_wp2_with fail
    go_at_call 65
    refine (spec_DiskOk_calls A c fs _ (HF.out.below HV0.out.from_)).mono ?_
    rw [HDK.out]
    rintro e w3 ⟨rfl, hb3⟩
    have HV3 := Lib.hid (HV0.out.go hb3)
    have HO3 := Lib.hid (HO0.out.below hb3)
    clear hb3 p0
    go_wp2
    go_loopw [5, 6] (fun fv nv wr => ∃ n : Nat, n ≤ 100 ∧ nv = .int .i64 (n : Int) ∧ fv = .int .i64 (leastB fs n : Int) ∧ Hid (Below w3.heap.size w3 wr)) (fun _ nv _ => 100 - (intOf nv).toNat)
    case atStart => exact ⟨0, by omega, rfl, rfl, Below.refl _ _⟩
    case round =>
      obtain ⟨n, hn, rfl, rfl, HB⟩ := hrel
      have HVR := Lib.hid (HV3.out.go HB.out)
      by_cases hlt : n < 100
      · have hli : (n : Int) ≤ 99 := by omega
        have HVD := Lib.hid HVR.out.drew
        have hll := least_le fs n (by omega)
        go_wp2_with fail
        go_region_held3 (fun w' => w'.cell? ⟨w.heap.size, 0, none⟩ = some (.slice A fs.length c) ∧ Hid (VD w A fs.length c w')) (first | exact HVD.out.all | exact (HVD.out.go (by assumption)).all | exact ((HVD.out.go (by assumption)).go (by assumption)).all) (first | (go_at_call 54; refine (spec_SegNm_calls (n : Int) _).mono ?_; rintro e w' ⟨rfl, hb⟩) | (go_at_call 66; refine (spec_l03At_calls (segNm (n : Int)) A c fs _ (HF.out.below (HVD.out.go (by assumption)).from_)).mono ?_; rintro e w'' ⟨r, rfl, hr, hb⟩))
        have HV1 := (‹_ ∧ Hid (VD w A fs.length c _)›).2
        have HB1 := Lib.hid (show Below w3.heap.size w3 w'' from HB.out.trans ((Below.drew (Below.refl _ _)).trans (‹Below wr.drew.heap.size wr.drew w'›.trans (hb.mono ‹Below wr.drew.heap.size wr.drew w'›.size)) |>.mono HB.out.size))
        have p1 := HV1.out.cell
        clear hb
        rcases hr with ⟨j, x, rfl, hj, hx, hf⟩ | ⟨rfl, hf⟩
        · have hjl := (List.getElem?_eq_some_iff.1 hj).1
          obtain ⟨ad, y, hA, HY, _, _, _, hd1, _⟩ := (HF.out.below HV1.out.from_).at_ hjl
          obtain rfl : x = y := Option.some.inj (hj.symm.trans HY.out)
          have hts := fileB_small HDK.out hf
          cases hA
          have HFB := Lib.hid hf
          clear hf hj hx
          go_wp2_with fail
          go_at_call 55
          refine (spec_ReadSegment_calls (n : Int) x.2.1 _ (by omega)).mono ?_
          rintro e w5 hp
          rcases seg_head (n := (n : Int)) (s := x.2.1) with ⟨hs1, hs2⟩ | ⟨f, l, pls, hs1, hs2⟩
          · rw [hs1] at hp
            obtain ⟨hb5, v5, rfl, _⟩ := hp
            have HB5 := Lib.hid (HB1.out.trans (hb5.mono HB1.out.size))
            have HST := Lib.hid (least_step (hd_bad HFB.out hs2).1)
            clear hb5 hs1 hs2 p1
            go_wp2
            go_roundw
            case rel => first | exact ⟨n + 1, by omega, by go_num, by rw [HST.out]; congr 2; omega, HB5⟩ | (repeat (first | (refine ⟨?relx, rfl⟩; exact ⟨n + 1, by omega, by go_num, by rw [HST.out]; congr 2; omega, HB5⟩) | (refine ⟨?relx, ?eqs⟩; (case eqs => (and_intros <;> rfl)); exact ⟨n + 1, by omega, by go_num, by rw [HST.out]; congr 2; omega, HB5⟩) | apply Exists.intro))
            case measure => simp [intOf]; omega
          · rw [hs1] at hp
            obtain ⟨hb5, v5, rfl, _⟩ := hp
            have HB5 := Lib.hid (HB1.out.trans (hb5.mono HB1.out.size))
            have HST := Lib.hid (least_step (hd_good HFB.out hs2).1)
            have hfl := least_le fs (n + 1) (by omega)
            rw [HST.out] at hfl
            clear hb5 hs1 hs2 p1
            by_cases hgt : leastB fs n < f
            · have hgi : (leastB fs n : Int) < (f : Int) := by omega
              go_wp2
              go_roundw
              case rel => first | exact ⟨n + 1, by omega, by go_num, by rw [HST.out]; congr 2; omega, HB5⟩ | (repeat (first | (refine ⟨?relx, rfl⟩; exact ⟨n + 1, by omega, by go_num, by rw [HST.out]; congr 2; omega, HB5⟩) | (refine ⟨?relx, ?eqs⟩; (case eqs => (and_intros <;> rfl)); exact ⟨n + 1, by omega, by go_num, by rw [HST.out]; congr 2; omega, HB5⟩) | apply Exists.intro))
              case measure => simp [intOf]; omega
            · have hgi : ¬ (leastB fs n : Int) < (f : Int) := by omega
              go_wp2
              go_roundw
              case rel => first | exact ⟨n + 1, by omega, by go_num, by rw [HST.out]; congr 2; omega, HB5⟩ | (repeat (first | (refine ⟨?relx, rfl⟩; exact ⟨n + 1, by omega, by go_num, by rw [HST.out]; congr 2; omega, HB5⟩) | (refine ⟨?relx, ?eqs⟩; (case eqs => (and_intros <;> rfl)); exact ⟨n + 1, by omega, by go_num, by rw [HST.out]; congr 2; omega, HB5⟩) | apply Exists.intro))
              case measure => simp [intOf]; omega
        · have HST := Lib.hid (least_step (hd_none hf).1)
          clear hf
          go_wp2
          go_roundw
          case rel => first | exact ⟨n + 1, by omega, by go_num, by rw [HST.out]; congr 2; omega, HB1⟩ | (repeat (first | (refine ⟨?relx, rfl⟩; exact ⟨n + 1, by omega, by go_num, by rw [HST.out]; congr 2; omega, HB1⟩) | (refine ⟨?relx, ?eqs⟩; (case eqs => (and_intros <;> rfl)); exact ⟨n + 1, by omega, by go_num, by rw [HST.out]; congr 2; omega, HB1⟩) | apply Exists.intro))
          case measure => simp [intOf]; omega
      · have hn100 : n = 100 := by omega
        have HN := Lib.hid hn100
        have hll := least_le fs n hn
        have hni : ¬ (n : Int) ≤ 99 := by omega
        obtain ⟨a, hgl⟩ : ∃ a, leastB fs n = a := ⟨_, rfl⟩
        rw [hgl] at hll ⊢
        have HQ1 : Hid (∀ m, a ≤ m → m < 100 → hasF fs m = true → badF fs m = true → segsB fs = []) := fun m h1 h2 h3 h4 => segs_bad (n := m) (by unfold allB; rw [← hn100, hgl, hn100]; exact (outs_mem fs).2 ⟨h1, h2, h3⟩) h4
        have HQ2 : Hid (∀ k, k = 100 → (∀ m ∈ outsB fs a k, badF fs m = false) → segsB fs = outsB fs a k) := fun k hk h1 => by
          subst hk
          have h2 := segs_good HDK.out (by unfold allB; rw [← hn100, hgl, hn100]; exact h1)
          unfold allB at h2
          rwa [← hn100, hgl, hn100] at h2
        clear hgl hn100 hlt HN
        have HO4 := Lib.hid (HO3.out.below HB.out)
        have HV4 := Lib.hid HVR.out
        clear HB
        go_wp2
        go_loopw [4, 12] (fun ov nv wr => ∃ n : Nat, a ≤ n ∧ n ≤ 100 ∧ nv = .int .i64 (n : Int) ∧ Hid (∀ m ∈ outsB fs a n, badF fs m = false) ∧ Hid (OwnI wr (w.heap.size + 1) ov ((outsB fs a n).map Int.ofNat)) ∧ Hid (VD w A fs.length c wr)) (fun _ nv _ => 100 - (intOf nv).toNat)
        case atStart => exact ⟨a, Nat.le_refl _, by omega, rfl, fun m hm => by rw [outs_none fs (Nat.le_refl _)] at hm; simp at hm, by rw [outs_none fs (Nat.le_refl _)]; exact HO4.out, HV4⟩
        case round =>
          obtain ⟨n, hna, hn, rfl, HG, HO, HVR⟩ := hrel
          have hol := outs_len fs (a := a) (k := n)
          obtain ⟨A2, c2, hv⟩ := HO.out.form
          rw [List.length_map] at hv
          subst hv
          have HOL := Lib.hid hol
          have HNA := Lib.hid hna
          clear hol hna hll
          by_cases hlt : n < 100
          · have hli : (n : Int) ≤ 99 := by omega
            have HVD := Lib.hid HVR.out.drew
            go_wp2_with fail
            go_region_held3 (fun w' => w'.cell? ⟨w.heap.size, 0, none⟩ = some (.slice A fs.length c) ∧ Hid (VD w A fs.length c w')) (first | exact HVD.out.all | exact (HVD.out.go (by assumption)).all | exact ((HVD.out.go (by assumption)).go (by assumption)).all) (first | (go_at_call 54; refine (spec_SegNm_calls (n : Int) _).mono ?_; rintro e w' ⟨rfl, hb⟩) | (go_at_call 66; refine (spec_l03At_calls (segNm (n : Int)) A c fs _ (HF.out.below (HVD.out.go (by assumption)).from_)).mono ?_; rintro e w'' ⟨r, rfl, hr, hb⟩))
            have HV1 := (‹_ ∧ Hid (VD w A fs.length c _)›).2
            have HO1 := Lib.hid ((HO.out.below ((Below.drew (Below.refl _ _)).trans (‹Below wr.drew.heap.size wr.drew w'›))).below hb)
            have p1 := HV1.out.cell
            clear hb
            rcases hr with ⟨j, x, rfl, hj, hx, hf⟩ | ⟨rfl, hf⟩
            · have hjl := (List.getElem?_eq_some_iff.1 hj).1
              obtain ⟨ad, y, hA, HY, _, _, _, hd1, _⟩ := (HF.out.below HV1.out.from_).at_ hjl
              obtain rfl : x = y := Option.some.inj (hj.symm.trans HY.out)
              have hts := fileB_small HDK.out hf
              cases hA
              have HFB := Lib.hid hf
              clear hf hj hx
              go_wp2_with fail
              go_at_call 55
              refine (spec_ReadSegment_calls (n : Int) x.2.1 _ (by omega)).mono ?_
              rintro e w5 hp
              rcases seg_head (n := (n : Int)) (s := x.2.1) with ⟨hs1, hs2⟩ | ⟨f, l, pls, hs1, hs2⟩
              · rw [hs1] at hp
                obtain ⟨hb5, v5, rfl, _⟩ := hp
                have hbd := hd_bad HFB.out hs2
                have HE := Lib.hid (HQ1.out n HNA.out hlt hbd.2.1 hbd.2.2)
                have HV5 := Lib.hid ((HV1.out.go hb5).alloc (.cells #[] 3))
                have HO5 := Lib.hid (ownI_empty w5 (B := w.heap.size) (by have := (HV1.out.go hb5).size; omega))
                clear hb5 hs1 hs2 p1 hbd
                go_wp2
                go_ret2
                exact segsPost_no HE.out HO5.out HV5.out.from_
              · rw [hs1] at hp
                obtain ⟨hb5, v5, rfl, _⟩ := hp
                have hgd := hd_good HFB.out hs2
                have HOY := Lib.hid (outs_yes HNA.out hgd.2.1)
                have HG2 : Hid (∀ m ∈ outsB fs a (n + 1), badF fs m = false) := fun m hm => by
                  rw [HOY.out] at hm
                  rcases List.mem_append.1 hm with hm | hm
                  · exact HG.out m hm
                  · obtain rfl := List.mem_singleton.1 hm
                    exact hgd.2.2
                have HV5 := Lib.hid (HV1.out.go hb5)
                have HO5 := Lib.hid (HO1.out.below hb5)
                have HO6 : Hid (OwnI (w5.alloc (.cells #[.int .i64 (n : Int)] 3)) (w.heap.size + 1) (.slice A2 (outsB fs a n).length c2) ((outsB fs a n).map Int.ofNat)) := World.ownsRow.alloc HO5.out _
                have HNEWS : Hid (∀ j u, [Value.int .i64 (n : Int)][j]? = some u → (w5.alloc (.cells #[.int .i64 (n : Int)] 3)).cell? ((⟨w5.heap.size, 0, none⟩ : Addr).add j) = some u) := World.news_of_block (heap_alloc_new w5 _)
                have HBASE : Hid (w.heap.size + 1 ≤ (w5.alloc (.cells #[.int .i64 (n : Int)] 3)).heap.size) := by have := HV5.out.size; rw [Hid]; simp; omega
                have HLL : Hid ((outsB fs a n).length = ((outsB fs a n).map Int.ofNat).length) := by rw [Hid, List.length_map]
                clear hb5 hs1 hs2 p1 hgd
                have hol := HOL.out
                go_wp2_with (at_builtin; refine wpList_append_lies _ rfl _ _ _ rfl (w.heap.size + 1) 3 i0 (.int .i64 0) 1 8 Try.underlying65 hi0 hz hsz hby rfl (by omega) (.slice A2 (outsB fs a n).length c2) (outsB fs a n).length (((outsB fs a n).map Int.ofNat).map (Value.int .i64)) rfl (by have := HO6.out; unfold OwnI at this; rwa [← HLL.out] at this) ⟨w5.heap.size, 0, none⟩ 1 1 [.int .i64 (n : Int)] rfl rfl HNEWS.out (by simp [Value.oneCell']) (by omega) (by unfold maxLen; omega) (by omega) HBASE.out _ rfl ?_; intro gg cap w7 hown hgrow hat hlt2)
                have HPU : Hid (OwnI w7 (w.heap.size + 1) (.slice (some ⟨gg, 0, none⟩) ((outsB fs a n).length + 1) cap) ((outsB fs a (n + 1)).map Int.ofNat)) := by
                  rw [Hid, HOY.out, OwnI, List.map_append, List.map_append, List.length_append, ← HLL.out]
                  exact hown
                have HV7 := Lib.hid ((HV5.out.alloc _).grown hgrow fun k hk => (HO6.out.lt k hk).1)
                clear hown hgrow hat
                go_wp2
                go_roundw
                case rel => first | exact ⟨n + 1, Nat.le_succ_of_le HNA.out, by omega, by go_num, HG2, HPU, HV7⟩ | (repeat (first | (refine ⟨?relx, rfl⟩; exact ⟨n + 1, Nat.le_succ_of_le HNA.out, by omega, by go_num, HG2, HPU, HV7⟩) | (refine ⟨?relx, ?eqs⟩; (case eqs => (and_intros <;> rfl)); exact ⟨n + 1, Nat.le_succ_of_le HNA.out, by omega, by go_num, HG2, HPU, HV7⟩) | apply Exists.intro))
                case measure => simp [intOf]; omega
            · have HON := Lib.hid (outs_no (a := a) (hd_none hf).2)
              have HG2 : Hid (∀ m ∈ outsB fs a (n + 1), badF fs m = false) := by rw [Hid, HON.out]; exact HG.out
              have HO2 : Hid (OwnI w'' (w.heap.size + 1) (.slice A2 (outsB fs a n).length c2) ((outsB fs a (n + 1)).map Int.ofNat)) := by rw [Hid, HON.out]; exact HO1.out
              clear hf p1
              go_wp2
              go_roundw
              case rel => first | exact ⟨n + 1, Nat.le_succ_of_le HNA.out, by omega, by go_num, HG2, HO2, HV1⟩ | (repeat (first | (refine ⟨?relx, rfl⟩; exact ⟨n + 1, Nat.le_succ_of_le HNA.out, by omega, by go_num, HG2, HO2, HV1⟩) | (refine ⟨?relx, ?eqs⟩; (case eqs => (and_intros <;> rfl)); exact ⟨n + 1, Nat.le_succ_of_le HNA.out, by omega, by go_num, HG2, HO2, HV1⟩) | apply Exists.intro))
              case measure => simp [intOf]; omega
          · have hn100 : n = 100 := by omega
            have HE : Hid (segsB fs = outsB fs a n) := HQ2.out n hn100 HG.out
            have hni2 : ¬ (n : Int) ≤ 99 := by omega
            have hol := HOL.out
            generalize outsB fs a n = L at HE HO hol ⊢
            clear HOL HG HNA hn100 HQ1 HQ2 hlt
            cases L with
            | nil =>
              go_wp2
              go_ret2
              exact segsPost_no HE.out (HO.out.mono (Nat.le_succ _)) HVR.out.from_
            | cons m L =>
              have h0 : (0 : Int) < ((m :: L).length : Int) := by rw [List.length_cons]; omega
              go_wp2
              go_ret2
              refine ⟨_, ?_, by rw [HE.out]; exact HO.out.mono (Nat.le_succ _), HVR.out.from_⟩
              rw [HE.out]
              rfl
end Go.Proofs.Ytdkdlgioabjldaa

namespace Go.Proofs.Ytdkdlgioabjldaa
set_option linter.unusedVariables false
set_option linter.unusedSimpArgs false
open Go.RowKit
attribute [local go_sem] bs_size List.length_cons List.length_nil List.length_append

set_option maxRecDepth 100000 in
theorem spec_l07Size_calls (q : Int) (A : Option Addr) (c : Nat) (cs : List ChD) (r : ByteArray) (w : World) (h : ChRow w A c cs) (ht : batText (q, cs) = some (ub r)) (hr : 1 ≤ r.size ∧ r.size ≤ 9000) :
    Calls Try.prog 58 #[.agg #[.int .i64 q, .slice A cs.length c]] w fun e w' => e = .returned (.int .i64 (frameLen r : Int)) ∧ Below w.heap.size w w' := by
  have HAL : Hid (Below w.heap.size w (w.alloc (.cells #[.int .i64 q, .slice A cs.length c] 90))) := (Below.refl _ _).alloc (Nat.le_refl _) _
  have HR := Lib.hid (h.below HAL.out)
  have HT : Hid (varRes (batText (q, cs)) = .tuple #[.string r, .bool true]) := by rw [Hid, ht]; show Value.tuple #[.string (bs (ub r)), .bool true] = _; rw [bs_ub]
  have hfr : frameB (ub r) = some (varBytes r.size ++ (sum4 (ub r) ++ ub r)) := by rw [frameB_yes (by rw [ub_length]; exact hr), ub_length]
  obtain ⟨L, hL1, hL2⟩ : ∃ L, frameB (ub r) = some L ∧ frameLen r = L.length := ⟨_, hfr, by unfold frameLen; rw [hfr]⟩
  have HF : Hid (varRes (frameB (ub r)) = .tuple #[.string (bs L), .bool true]) := by rw [Hid, hL1]; rfl
  have HL := Lib.hid hL2
  clear h ht hfr hL1 hL2
  go_enter Try.func58, Try.ntmps58
  go_wp2_with fail
  go_at_call 71
  refine (spec_BatchText_calls q A c cs _ HR.out).mono ?_
  rw [HT.out]
  rintro e w1 ⟨rfl, hb1⟩
  have HB1 := Lib.hid (HAL.out.trans (hb1.mono HAL.out.size))
  clear hb1
  go_wp2_with fail
  go_at_call 69
  refine (spec_Frame_calls r _ (by omega)).mono ?_
  rw [HF.out]
  rintro e w2 ⟨rfl, hb2⟩
  have HB2 := Lib.hid (HB1.out.trans (hb2.mono HB1.out.size))
  clear hb2
  go_wp2
  go_ret
  exact ⟨by rw [HL.out]; rfl, HB2.out⟩
/-- What ReadSegment and HeadText give of a segment of a right disk, in one form. -/
theorem segUni (fs : List FiD) (m : Nat) (hm : m ≤ 99) : ∃ (f l en : Nat) (pls : List PlD) (ok : Bool) (Lh : List UInt8), batsAt fs m = pls ∧
    (∀ (w : World) (e : Ending) (w' : World), SegPost w (segPl (m : Int) ((fileB fs (segNm (m : Int))).getD ⟨#[]⟩)) e w' → ∃ v, e = .returned (.tuple #[.int .i64 (f : Int), v, .int .i64 (en : Int), .bool ok]) ∧ BatsOwn w' w.heap.size v (pls.map Prod.fst) ∧ Below w.heap.size w w') ∧
    headText (m : Int) (f : Int) = some Lh ∧ l = Lh.length ∧ l ≤ 9020 ∧ pls.length ≤ 20000 ∧
    (∀ p ∈ pls, p.2.1 ≤ 200000000 ∧ ∃ r, batText p.1 = some (ub r) ∧ (1 ≤ r.size ∧ r.size ≤ 9000) ∧ p.2.2 = frameLen r) ∧ ∀ j p, pls[j]? = some p → p.2.1 = atOf l pls j := by
  unfold batsAt
  cases hs : segPl (m : Int) ((fileB fs (segNm (m : Int))).getD ⟨#[]⟩) with
  | none =>
    have h1 := headBytes_len (n := m) (f := 0) (by omega) (by omega)
    have hfr : frameB (headBytes m 0) = some (varBytes (headBytes m 0).length ++ (sum4 (headBytes m 0) ++ headBytes m 0)) := frameB_yes ⟨h1.1, by omega⟩
    have hv := var_len (n := (headBytes m 0).length) (by omega)
    have h4 := sum4_len (headBytes m 0)
    have hh : headText (m : Int) ((0 : Nat) : Int) = some (varBytes (headBytes m 0).length ++ (sum4 (headBytes m 0) ++ headBytes m 0)) := by rw [headText_yes hm (Nat.zero_le _), hfr]
    refine ⟨0, _, 0, [], false, _, rfl, fun w e w' hp => ?_, hh, rfl, by simp only [List.length_append]; omega, by simp, fun p hp => by simp at hp, fun j p hp => by simp at hp⟩
    obtain ⟨hb, v, he, ho⟩ := hp
    exact ⟨v, he, ho, hb⟩
  | some x =>
    obtain ⟨f, l, pls⟩ := x
    obtain ⟨h1, h2, h3, h4⟩ := segPl_pls hs
    obtain ⟨h5, h6, h7⟩ := segPl_bound hs
    cases hh : headText (m : Int) (f : Int) with
    | none => exact absurd hh h1
    | some Lh =>
      have hl9 : l ≤ 9020 := by
        obtain ⟨r, rs, hu, hl, _⟩ := segPl_some h5
        obtain ⟨_, _, hsm⟩ := unframeB_le ((fileB fs (segNm (m : Int))).getD ⟨#[]⟩)
        rw [hu] at hsm
        rw [hl]
        exact frameLen_le (hsm r (by simp)).2
      refine ⟨f, l, endOf l pls, pls, true, Lh, rfl, fun w e w' hp => ?_, hh, h2 Lh hh, hl9, h6, fun p hp => ⟨(h7 p hp).1, h3 p hp⟩, h4⟩
      obtain ⟨hb, v, he, ho⟩ := hp
      exact ⟨v, he, ho, hb⟩
theorem dirSeg_eq {fs : List FiD} {n : Nat} {pls : List PlD} (h : batsAt fs n = pls) (out : List SpotD) : dirSeg fs out n = pls.foldl (dirPl (n : Int)) out := by unfold dirSeg; rw [h]
theorem keep5 {W W' : World} {a0 a1 a2 a3 a4 : Addr} {x0 x1 x2 x3 x4 : Value} (h : W.cell? a0 = some x0 ∧ W.cell? a1 = some x1 ∧ W.cell? a2 = some x2 ∧ W.cell? a3 = some x3 ∧ W.cell? a4 = some x4) (hb : Below W.heap.size W W') : W'.cell? a0 = some x0 ∧ W'.cell? a1 = some x1 ∧ W'.cell? a2 = some x2 ∧ W'.cell? a3 = some x3 ∧ W'.cell? a4 = some x4 ∧ Hid (Below W.heap.size W W') := by
  have k : ∀ {a v}, W.cell? a = some v → W'.cell? a = some v := fun h => (hb.cell (World.block_lt_of_cell? W _ h)).trans h
  exact ⟨k h.1, k h.2.1, k h.2.2.1, k h.2.2.2.1, k h.2.2.2.2, hb⟩
theorem keepL {w W W' : World} {A : Option Addr} {n c b1 i : Nat} {v : Value} (hv : VD w A n c W) (hc : W.cell? ⟨b1, i, none⟩ = some v) (hb : Below W.heap.size W W') : W'.cell? ⟨w.heap.size, 0, none⟩ = some (.slice A n c) ∧ W'.cell? ⟨b1, i, none⟩ = some v ∧ Hid (Below W.heap.size W W') := ⟨(hv.go hb).cell, (hb.cell (World.block_lt_of_cell? W _ hc)).trans hc, hb⟩
def DirPost (w : World) (fs : List FiD) (e : Ending) (w' : World) : Prop := ∃ v, e = .returned (.tuple #[v, .bool (!(segsB fs).isEmpty)]) ∧ SpOwn w' w.heap.size v (dirB fs) ∧ Below w.heap.size w w'
theorem spOwn_eq {w : World} {B : Nat} {v : Value} {ds ds' : List SpotD} (h : ds' = ds) (ho : SpOwn w B v ds) : SpOwn w B v ds' := by rw [h]; exact ho
theorem SpOwn.below' {w w' : World} {B : Nat} {v : Value} {ds : List SpotD} (h : SpOwn w B v ds) (hb : Below w.heap.size w w') : SpOwn w' B v ds := own_keep h hb
set_option maxHeartbeats 8000000 in
set_option maxRecDepth 100000 in
theorem spec_DirOf_calls (A : Option Addr) (c : Nat) (fs : List FiD) (w : World) (h : FiRow w A c fs) :
    Calls Try.prog 32 #[.agg #[.slice A fs.length c]] w (DirPost w fs) := by
  have HF := Lib.hid h
  have HV := Lib.hid (vd_start w A fs.length c)
  have HV0 := Lib.hid (HV.out.alloc (.cells #[] 31))
  have p0 := HV0.out.cell
  have hw5 : (W5 w A fs.length c).heap.size = w.heap.size + 1 := by simp
  have HO0 : Hid (SpOwn ((W5 w A fs.length c).alloc (.cells #[] 31)) (w.heap.size + 1) (.slice (some ⟨w.heap.size + 1, 0, none⟩) 0 0) []) := by
    have : ((W5 w A fs.length c).alloc (.cells #[] 31)).ownsRow (w.heap.size + 1) 31 4 (.slice (some ⟨(W5 w A fs.length c).heap.size, 0, none⟩) 0 0) 0 [] := World.ownsRow_made (w := W5 w A fs.length c) #[] 0 (by rw [hw5]; exact Nat.le_refl _) (Nat.zero_le _) rfl
    rw [hw5] at this
    exact this
  have HSP := Lib.hid (spec_Segments_calls A c fs _ (HF.out.below HV0.out.from_))
  unfold SegsPost at HSP
  have HDS : Hid (∀ i n, (segsB fs)[i]? = some n → diskOkB fs = true ∧ n ≤ 99) := fun i n hi => by
    have hm := List.mem_of_getElem? hi
    refine ⟨?_, by have := (segs_lt hm).1; omega⟩
    cases hd : diskOkB fs with
    | true => rfl
    | false => rw [segs_no hd] at hm; simp at hm
  have hsl := segs_len fs
  have HDP : Hid (∀ e w', (∃ v, e = .returned (.tuple #[v, .bool (!(segsB fs).isEmpty)]) ∧ SpOwn w' w.heap.size v ((segsB fs).foldl (dirSeg fs) []) ∧ Below w.heap.size w w') → DirPost w fs e w') := fun e w' h => h
  generalize segsB fs = L at HSP HDS hsl HDP
  clear h
  go_enter Try.func32, Try.ntmps32
  go_wp2_with fail
  go_at_call 52
  refine HSP.out.mono ?_
  rintro e w1 ⟨v1, rfl, ho1, hb1⟩
  obtain ⟨A1, c1, hv1⟩ := ho1.form
  rw [List.length_map] at hv1
  subst hv1
  have HV1 := Lib.hid (HV0.out.go hb1)
  have HR1 := Lib.hid (ho1.mono (B' := w.heap.size + 1) (by simp))
  have HO1 := Lib.hid (HO0.out.below' hb1)
  clear ho1 hb1 p0 HSP hw5
  cases hLe : L.isEmpty
  · have hpos : 0 < L.length := by
      cases L with
      | nil => cases hLe
      | cons m L => simp
    go_wp2
    go_loopw [4, 7] (fun ov iv wr => ∃ i : Nat, i ≤ L.length ∧ iv = .int .i64 (i : Int) ∧ Hid (((L.take i).foldl (dirSeg fs) []).length ≤ 800000 * i) ∧ Hid (SpSmall ((L.take i).foldl (dirSeg fs) [])) ∧ Hid (SpOwn wr (w.heap.size + 1) ov ((L.take i).foldl (dirSeg fs) [])) ∧ Hid (Below w1.heap.size w1 wr)) (fun _ iv _ => L.length - (intOf iv).toNat)
    case atStart => exact ⟨0, Nat.zero_le _, rfl, Nat.zero_le _, (fun x hx => by simp at hx), HO1, Below.refl _ _⟩
    case round =>
      obtain ⟨i, hi, rfl, HLN, HSM, HOW, HBL⟩ := hrel
      by_cases hlt : i < L.length
      · obtain ⟨m, hm⟩ : ∃ m, L[i]? = some m := ⟨_, List.getElem?_eq_getElem hlt⟩
        have hdm := HDS.out i m hm
        have HNX := Lib.hid (foldl_snoc (dirSeg fs) [] L hm)
        obtain ⟨f, l, en, pls, ok, Lh, hba, hsg, hht, hlL, hl9, hpl, htx, hat⟩ := segUni fs m hdm.2
        have HDE := Lib.hid (fun out => dirSeg_eq (fs := fs) (n := m) hba out)
        have HSG := Lib.hid hsg
        have HHT := Lib.hid hht
        have HTX := Lib.hid htx
        have HAT := Lib.hid hat
        have hts := show ((fileB fs (segNm (m : Int))).getD ⟨#[]⟩).size ≤ 20000 from by
          cases hf : fileB fs (segNm (m : Int)) with
          | none => decide
          | some t => exact fileB_small hdm.1 hf
        have HRES := Lib.hid (show fiRes (fileB fs (segNm (m : Int))) = .tuple #[.string ((fileB fs (segNm (m : Int))).getD ⟨#[]⟩), .bool (fileB fs (segNm (m : Int))).isSome] from by cases fileB fs (segNm (m : Int)) <;> rfl)
        generalize (fileB fs (segNm (m : Int))).getD ⟨#[]⟩ = t at hts HRES HSG
        generalize (fileB fs (segNm (m : Int))).isSome = ob at HRES
        have HLHL := Lib.hid hlL
        clear hba hsg hht htx hat hlL
        obtain ⟨b1, hA1, hc1⟩ := (HR1.out.below HBL.out).at_ (j := i) (x := (m : Int)) (by rw [List.getElem?_map, hm]; rfl)
        subst hA1
        have hm99 := hdm.2
        have HM := Lib.hid hm
        have HVD := Lib.hid ((HV1.out.go HBL.out).drew)
        have HBD : Hid (Below wr.heap.size wr wr.drew) := Below.drew (Below.refl _ _)
        have HC1 := Lib.hid hc1
        clear hm hdm hc1
        have hil : (i : Int) < (L.length : Int) := by omega
        go_wp2_with fail
        have HCD : Hid (wr.drew.cell? ⟨b1, i, none⟩ = some (.int .i64 (m : Int))) := HC1.out
        go_region_held3 (fun w' => w'.cell? ⟨w.heap.size, 0, none⟩ = some (.slice A fs.length c) ∧ w'.cell? ⟨b1, i, none⟩ = some (.int .i64 (m : Int)) ∧ Hid (Below wr.drew.heap.size wr.drew w')) (first | exact keepL HVD.out HCD.out (Below.refl _ _) | exact keepL HVD.out HCD.out hbA | exact keepL HVD.out HCD.out (hbA.trans (hbB.mono hbA.size))) (first | (go_at_call 54; refine (spec_SegNm_calls (m : Int) _).mono ?_; rintro e w2 ⟨rfl, hbA⟩) | (go_at_call 53; refine (spec_FileAt_calls (segNm (m : Int)) A c fs _ (HF.out.below (HVD.out.go hbA).from_)).mono ?_; rw [HRES.out]; rintro e w3 ⟨rfl, hbB⟩))
        obtain ⟨_, hc3, HBW⟩ := ‹_ ∧ _ ∧ Hid (Below wr.drew.heap.size wr.drew _)›
        have HB3 := Lib.hid (HBL.out.trans ((HBD.out.trans (HBW.out.mono HBD.out.size)).mono HBL.out.size))
        have HO3 := Lib.hid (HOW.out.below' (HBD.out.trans (HBW.out.mono HBD.out.size)))
        have HC3 := Lib.hid hc3
        clear hbA hbB
        go_wp2_with fail
        go_at_call 55
        refine (spec_ReadSegment_calls (m : Int) t _ (by omega)).mono ?_
        rintro e w4 hp
        obtain ⟨v4, rfl, ho4, hb4⟩ := HSG.out _ _ _ hp
        obtain ⟨A4, c4, hv4⟩ := ListC.form ho4
        rw [List.length_map] at hv4
        subst hv4
        have HO4 := Lib.hid ho4
        have HB4 := Lib.hid (HB3.out.trans (hb4.mono HB3.out.size))
        have HW4 := Lib.hid (HO3.out.below' hb4)
        have hc4 : w4.cell? ⟨b1, i, none⟩ = some (.int .i64 (m : Int)) := (hb4.cell (World.block_lt_of_cell? w3 _ HC3.out)).trans HC3.out
        have HC4 := Lib.hid hc4
        clear hp ho4 hb4 hc3
        go_wp2_with fail
        go_at_call 56
        refine (spec_HeadText_calls (m : Int) (f : Int) _).mono ?_
        rw [HHT.out]
        simp only [varRes]
        rintro e w5 ⟨rfl, hb5⟩
        have HB5 := Lib.hid (HB4.out.trans (hb5.mono HB4.out.size))
        have HW5 := Lib.hid (HW4.out.below' hb5)
        have HO5 := Lib.hid (ListC.below HO4.out hb5)
        have hc5 : w5.cell? ⟨b1, i, none⟩ = some (.int .i64 (m : Int)) := (hb5.cell (World.block_lt_of_cell? w4 _ hc4)).trans hc4
        have HC5 := Lib.hid hc5
        have hll : (Lh.length : Int) = (l : Int) := by rw [HLHL.out]
        clear hb5 hc4 hc5
        go_wp2
        generalize (L.take i).foldl (dirSeg fs) [] = D at HLN HSM HW5 HNX HOW HO3 HW4
        go_loopw [4, 16, 17] (fun ov av kv wr2 => ∃ k : Nat, k ≤ pls.length ∧ kv = .int .i64 (k : Int) ∧ av = .int .i64 (atOf l pls k : Int) ∧ Hid (((pls.take k).foldl (dirPl (m : Int)) D).length ≤ 800000 * i + 40 * k) ∧ Hid (SpSmall ((pls.take k).foldl (dirPl (m : Int)) D)) ∧ Hid (SpOwn wr2 (w.heap.size + 1) ov ((pls.take k).foldl (dirPl (m : Int)) D)) ∧ Hid (Below w5.heap.size w5 wr2)) (fun _ _ kv _ => pls.length - (intOf kv).toNat)
        case atStart => exact ⟨0, Nat.zero_le _, rfl, by rw [atOf_zero], HLN.out, HSM, HW5, Below.refl _ _⟩
        case round =>
          obtain ⟨k, hk, rfl, rfl, HLN2, HSM2, HOW2, HBL2⟩ := hrel
          rename World => w6
          by_cases hlt2 : k < pls.length
          · obtain ⟨⟨⟨q, cs⟩, a, z⟩, hp⟩ : ∃ p, pls[k]? = some p := ⟨_, List.getElem?_eq_getElem hlt2⟩
            have hz := HAT.out k _ hp
            obtain ⟨ha2, r, hbt, hrs, hzr⟩ := HTX.out _ (List.mem_of_getElem? hp)
            have hst := atOf_step (a := l) hp
            dsimp only at hz ha2 hbt hzr hst
            subst hz
            obtain ⟨g4, u, hA4, hcc, hu, hsm⟩ := ListC.at_ (ListC.below HO5.out HBL2.out) (fun _ => rfl) (j := k) (x := (q, cs)) (by rw [List.getElem?_map, hp]; rfl)
            subst hA4
            obtain ⟨Au, cu, hform, hrow⟩ := hu.row hsm
            dsimp only at hform hrow
            subst hform
            have k0 := hcc 0 (by omega)
            have k1 := hcc 1 (by omega)
            simp only [batVals, Nat.add_zero, List.getElem?_cons_zero, List.getElem?_cons_succ] at k0 k1
            have hcl : cs.length ≤ 40 := (batOk_parts (isBat_parts (show IsBat r (q, cs) from hbt)).1).2.1
            have HNX2 := Lib.hid (foldl_snoc (dirPl (m : Int)) D pls hp)
            have HAL : Hid (Below w6.heap.size w6 (w6.alloc (.cells #[.int .i64 q, .slice Au cs.length cu] 90))) := (Below.refl _ _).alloc (Nat.le_refl _) _
            have HBX : Hid ((w6.alloc (.cells #[.int .i64 q, .slice Au cs.length cu] 90)).heap[w6.heap.size]? = some (.cells #[.int .i64 q, .slice Au cs.length cu] 90 (0, 0))) := blk_new _ _
            have HCR := Lib.hid (hrow.below HAL.out)
            have HOW3 := Lib.hid (HOW2.out.below' HAL.out)
            have HC6 : Hid ((w6.alloc (.cells #[.int .i64 q, .slice Au cs.length cu] 90)).cell? ⟨b1, i, none⟩ = some (.int .i64 (m : Int))) := cell_new ((HBL2.out.cell (World.block_lt_of_cell? w5 _ HC5.out)).trans HC5.out) _
            have HB6 := Lib.hid (HBL2.out.trans (HAL.out.mono HBL2.out.size))
            have HBT := Lib.hid hbt
            have HST := Lib.hid hst
            have HZR := Lib.hid hzr
            have hrs1 := hrs
            clear hp hcc hu hsm hrow hbt hst hzr
            generalize (pls.take k).foldl (dirPl (m : Int)) D = E at HLN2 HSM2 HOW2 HNX2 HOW3
            go_wp2
            generalize w6.alloc (.cells #[.int .i64 q, .slice Au cs.length cu] 90) = wb at HAL HBX HCR HOW3 HC6 HB6 ⊢
            generalize w6.heap.size = gx at HBX ⊢
            clear HAL HOW2 HBL2 k0 k1
            go_loopw [4, 19] (fun ov jv wr3 => ∃ j : Nat, j ≤ cs.length ∧ jv = .int .i64 (j : Int) ∧ Hid (((cs.take j).foldl (dirCh (m : Int) (atOf l pls k : Int) q) E).length ≤ 800000 * i + 40 * k + j) ∧ Hid (SpSmall ((cs.take j).foldl (dirCh (m : Int) (atOf l pls k : Int) q) E)) ∧ Hid (SpOwn wr3 (w.heap.size + 1) ov ((cs.take j).foldl (dirCh (m : Int) (atOf l pls k : Int) q) E)) ∧ Hid (Below wb.heap.size wb wr3)) (fun _ jv _ => cs.length - (intOf jv).toNat)
            case atStart => exact ⟨0, Nat.zero_le _, rfl, HLN2.out, HSM2, HOW3, Below.refl _ _⟩
            case round =>
              obtain ⟨j, hj, rfl, HLN3, HSM3, HOW4, HBL3⟩ := hrel
              rename World => w7
              have HBX7 := Lib.hid (blk_below HBX.out HBL3.out)
              have x0 := blk_cell HBX7.out 0
              have x1 := blk_cell HBX7.out 1
              by_cases hlt3 : j < cs.length
              · obtain ⟨ad, y, hA, HY, hy1, _, hd0, _, hd2⟩ := (HCR.out.below HBL3.out).at_ hlt3
                cases hA
                obtain ⟨ck, cv, cg⟩ := y
                dsimp only at hy1 hd0 hd2
                have HNX3 := Lib.hid (foldl_snoc (dirCh (m : Int) (atOf l pls k : Int) q) E cs HY.out)
                generalize (cs.take j).foldl (dirCh (m : Int) (atOf l pls k : Int) q) E = G at HLN3 HSM3 HOW4 HNX3
                obtain ⟨A5, c5, hv5, hrow5⟩ := HOW4.out.row HSM3.out
                subst hv5
                have hgl : G.length ≤ 1000000000 := by have := HLN3.out; omega
                have HROW5 := Lib.hid hrow5
                have hjl : (j : Int) < (cs.length : Int) := by omega
                have hc7 : w7.cell? ⟨b1, i, none⟩ = some (.int .i64 (m : Int)) := (HBL3.out.cell (World.block_lt_of_cell? wb _ HC6.out)).trans HC6.out
                have H5 : Hid (w7.drew.cell? ⟨gx, 0, none⟩ = some (.int .i64 q) ∧ w7.drew.cell? ⟨gx, 1, none⟩ = some (.slice (some ad) cs.length cu) ∧ w7.drew.cell? (ad.add (j * 3)) = some (.string ck) ∧ w7.drew.cell? ⟨(ad.add (j * 3)).block, (ad.add (j * 3)).off + 2, none⟩ = some (.bool cg) ∧ w7.drew.cell? ⟨b1, i, none⟩ = some (.int .i64 (m : Int))) := ⟨x0, x1, hd0, hd2, hc7⟩
                have HSL : Hid (SpSmall (setB G (ck, (m : Int), (atOf l pls k : Int), q) cg)) := setB_small HSM3.out hy1
                have HSN : Hid ((setB G (ck, (m : Int), (atOf l pls k : Int), q) cg).length ≤ 800000 * i + 40 * k + (j + 1)) := by have h1 := setB_len G (ck, (m : Int), (atOf l pls k : Int), q) cg; have h2 := HLN3.out; rw [Hid]; omega
                have HNY : Hid ((cs.take (j + 1)).foldl (dirCh (m : Int) (atOf l pls k : Int) q) E = setB G (ck, (m : Int), (atOf l pls k : Int), q) cg) := HNX3.out
                have HD7 : Hid (Below w7.heap.size w7 w7.drew) := Below.drew (Below.refl _ _)
                have HWB : Hid (w.heap.size + 1 ≤ w7.drew.heap.size) := by have h1 := HB6.out.size; have h2 := HBL3.out.size; have h3 := HV1.out.size; have h4 := HB5.out.size; show w.heap.size + 1 ≤ w7.heap.size; omega
                clear hrow5 HNX3
                go_wp2_with fail
                go_still_tail 21, (by kernel_rfl)
                change wpList _ _ _ _ _ w7.drew
                go_wp2_with fail
                go_at_call 57
                refine (spec_l07Set_calls _ _ G _ _ _ _ _ _ (HROW5.out.below HD7.out) hgl).mono ?_
                rintro e w8 ⟨v8, rfl, ho8, hb8⟩
                have HB8 := Lib.hid hb8
                have HO8 : Hid (SpOwn w8 (w.heap.size + 1) v8 ((cs.take (j + 1)).foldl (dirCh (m : Int) (atOf l pls k : Int) q) E)) := by rw [Hid, HNY.out]; exact ho8.mono HWB.out
                have HL8 : Hid (((cs.take (j + 1)).foldl (dirCh (m : Int) (atOf l pls k : Int) q) E).length ≤ 800000 * i + 40 * k + (j + 1)) := by rw [Hid, HNY.out]; exact HSN.out
                have HM8 : Hid (SpSmall ((cs.take (j + 1)).foldl (dirCh (m : Int) (atOf l pls k : Int) q) E)) := by rw [Hid, HNY.out]; exact HSL.out
                have HBL8 := Lib.hid (HBL3.out.trans ((HD7.out.trans (HB8.out.mono HD7.out.size)).mono HBL3.out.size))
                clear ho8 hb8
                go_wp2
                go_roundw
                case rel => first | exact ⟨j + 1, by omega, by go_num, HL8, HM8, HO8, HBL8⟩ | (repeat (first | (refine ⟨?relx, rfl⟩; exact ⟨j + 1, by omega, by go_num, HL8, HM8, HO8, HBL8⟩) | (refine ⟨?relx, ?eqs⟩; (case eqs => (and_intros <;> rfl)); exact ⟨j + 1, by omega, by go_num, HL8, HM8, HO8, HBL8⟩) | apply Exists.intro))
                case measure => simp [intOf]; omega
              · obtain rfl : j = cs.length := by omega
                rw [List.take_length] at HOW4 HLN3 HSM3
                have hjl : ¬ (cs.length : Int) < (cs.length : Int) := by omega
                have HCR7 := Lib.hid (HCR.out.below HBL3.out)
                go_wp2_with fail
                go_at_call 58
                refine (spec_l07Size_calls q Au cu cs r _ HCR7.out HBT.out hrs1).mono ?_
                rintro e w8 ⟨rfl, hb8⟩
                have HB8 := Lib.hid (HBL3.out.trans (hb8.mono HBL3.out.size))
                have HNY : Hid ((pls.take (k + 1)).foldl (dirPl (m : Int)) D = cs.foldl (dirCh (m : Int) (atOf l pls k : Int) q) E) := HNX2.out
                have HO8 := Lib.hid (spOwn_eq HNY.out (HOW4.out.below' hb8))
                have HL8 : Hid (((pls.take (k + 1)).foldl (dirPl (m : Int)) D).length ≤ 800000 * i + 40 * (k + 1)) := by rw [Hid, HNY.out]; have := HLN3.out; omega
                have HM8 : Hid (SpSmall ((pls.take (k + 1)).foldl (dirPl (m : Int)) D)) := by rw [Hid, HNY.out]; exact HSM3.out
                have HBL8 := Lib.hid (HB6.out.trans (HB8.out.mono HB6.out.size))
                have hat9 : (atOf l pls k : Int) + (frameLen r : Int) = ((atOf l pls (k + 1) : Nat) : Int) := by rw [HST.out, HZR.out]; omega
                have hfl9 := frameLen_le hrs1.2
                clear hb8
                go_wp2
                go_roundw
                case rel => first | exact ⟨k + 1, by omega, by go_num, by go_num, HL8, HM8, HO8, HBL8⟩ | (repeat (first | (refine ⟨?relx, rfl⟩; exact ⟨k + 1, by omega, by go_num, by go_num, HL8, HM8, HO8, HBL8⟩) | (refine ⟨?relx, ?eqs⟩; (case eqs => (and_intros <;> rfl)); exact ⟨k + 1, by omega, by go_num, by go_num, HL8, HM8, HO8, HBL8⟩) | apply Exists.intro))
                case measure => simp [intOf]; omega
          · obtain rfl : k = pls.length := by omega
            rw [List.take_length] at HOW2 HLN2 HSM2
            have HNY : Hid ((L.take (i + 1)).foldl (dirSeg fs) [] = pls.foldl (dirPl (m : Int)) D) := by rw [Hid, HNX.out]; exact HDE.out D
            have HL8 : Hid (((L.take (i + 1)).foldl (dirSeg fs) []).length ≤ 800000 * (i + 1)) := by rw [Hid, HNY.out]; have := HLN2.out; omega
            have HM8 : Hid (SpSmall ((L.take (i + 1)).foldl (dirSeg fs) [])) := by rw [Hid, HNY.out]; exact HSM2.out
            have HBL8 := Lib.hid (HB5.out.trans (HBL2.out.mono HB5.out.size))
            have HO8 := Lib.hid (spOwn_eq HNY.out HOW2.out)
            have hkl : ¬ (pls.length : Int) < (pls.length : Int) := by omega
            go_wp2
            go_roundw
            case rel => first | exact ⟨i + 1, by omega, by go_num, HL8, HM8, HO8, HBL8⟩ | (repeat (first | (refine ⟨?relx, rfl⟩; exact ⟨i + 1, by omega, by go_num, HL8, HM8, HO8, HBL8⟩) | (refine ⟨?relx, ?eqs⟩; (case eqs => (and_intros <;> rfl)); exact ⟨i + 1, by omega, by go_num, HL8, HM8, HO8, HBL8⟩) | apply Exists.intro))
            case measure => simp [intOf]; omega
      · obtain rfl : i = L.length := by omega
        rw [List.take_length] at HOW
        have hnl : ¬ (L.length : Int) < (L.length : Int) := by omega
        have HVE := Lib.hid ((HV1.out.go HBL.out).from_)
        go_wp2
        go_ret2
        refine HDP.out _ _ ⟨_, ?_, HOW.out.mono (Nat.le_succ _), HVE.out⟩
        rw [hLe]
        rfl
  · obtain rfl : L = [] := List.isEmpty_iff.1 hLe
    go_wp2
    go_ret2
    exact HDP.out _ _ ⟨_, rfl, HO1.out.mono (Nat.le_succ _), HV1.out.from_⟩
end Go.Proofs.Ytdkdlgioabjldaa
