/- The segments of a disk: plain. -/
import Derived.Test.YtaacpdejpcbbbaaGreatDoorFileC
import Derived.Test.YtaacpdejpcbbbaaGreatDoorSeg5
namespace Go.Proofs.YtaacpdejpcbbbaaGreatDoor
set_option linter.unusedVariables false
set_option linter.unusedSimpArgs false
open Go.RowKit

/-- What the file of a segment's name has: none, or its head's from, if it has a head. -/
def hdAt (fs : List FiD) (n : Nat) : Option (Option Nat) := (fileB fs (segNm (n : Int))).map fun t => (headOfB (n : Int) t).map Prod.fst
def hasF (fs : List FiD) (n : Nat) : Bool := (fileB fs (segNm (n : Int))).isSome
def hdFrom (fs : List FiD) (n : Nat) : Nat := match hdAt fs n with
  | some (some f) => f
  | _ => 0
def badF (fs : List FiD) (n : Nat) : Bool := match hdAt fs n with
  | some none => true
  | _ => false
def leastB (fs : List FiD) : Nat → Nat
  | 0 => 0
  | k + 1 => max (leastB fs k) (hdFrom fs k)
def outsB (fs : List FiD) (a : Nat) : Nat → List Nat
  | 0 => []
  | k + 1 => if a ≤ k ∧ hasF fs k = true then outsB fs a k ++ [k] else outsB fs a k
def allB (fs : List FiD) : List Nat := outsB fs (leastB fs 100) 100
def segsB (fs : List FiD) : List Nat := if diskOkB fs = true ∧ ((allB fs).all fun n => !badF fs n) = true then allB fs else []
theorem outs_none (fs : List FiD) {a : Nat} : ∀ {k : Nat}, k ≤ a → outsB fs a k = []
  | 0, _ => rfl
  | k + 1, h => by
    rw [outsB, if_neg (by omega), outs_none fs (by omega)]
theorem outs_mem (fs : List FiD) {a n : Nat} : ∀ {k : Nat}, n ∈ outsB fs a k ↔ a ≤ n ∧ n < k ∧ hasF fs n = true
  | 0 => by simp [outsB]
  | k + 1 => by
    rw [outsB]
    split
    · rename_i h
      rw [List.mem_append, outs_mem fs, List.mem_singleton]
      constructor
      · rintro (⟨h1, h2, h3⟩ | rfl)
        · exact ⟨h1, by omega, h3⟩
        · exact ⟨h.1, by omega, h.2⟩
      · rintro ⟨h1, h2, h3⟩
        by_cases e : n = k
        · exact .inr e
        · exact .inl ⟨h1, by omega, h3⟩
    · rename_i h
      rw [outs_mem fs]
      constructor
      · rintro ⟨h1, h2, h3⟩
        exact ⟨h1, by omega, h3⟩
      · rintro ⟨h1, h2, h3⟩
        refine ⟨h1, ?_, h3⟩
        by_cases e : n = k
        · subst e; exact absurd ⟨h1, h3⟩ h
        · omega
theorem outs_incr (fs : List FiD) {a : Nat} : ∀ {k : Nat}, (outsB fs a k).Pairwise (· < ·)
  | 0 => by simp [outsB]
  | k + 1 => by
    rw [outsB]
    split
    · refine List.pairwise_append.2 ⟨outs_incr fs, by simp, fun x hx y hy => ?_⟩
      obtain rfl := List.mem_singleton.1 hy
      exact ((outs_mem fs).1 hx).2.1
    · exact outs_incr fs
theorem outs_len (fs : List FiD) {a : Nat} : ∀ {k : Nat}, (outsB fs a k).length ≤ k
  | 0 => by simp [outsB]
  | k + 1 => by
    have := outs_len fs (a := a) (k := k)
    rw [outsB]
    split
    · rw [List.length_append]; simp; omega
    · omega
theorem hdFrom_le (fs : List FiD) (n : Nat) (hn : n ≤ 99) : hdFrom fs n ≤ n := by
  unfold hdFrom hdAt
  cases h : fileB fs (segNm (n : Int)) with
  | none => simp
  | some t =>
    cases h2 : headOfB (n : Int) t with
    | none => simp [h2]
    | some p =>
      simp only [Option.map_some, h2]
      obtain ⟨f, l⟩ := p
      obtain ⟨r, rs, hu, _, hs⟩ := segPl_some h2
      rw [headOf_cons hu] at h2
      cases h3 : hdI (n : Int) r with
      | none => rw [h3] at h2; cases h2
      | some f' =>
        rw [h3] at h2
        have h4 := (hdI_is h3).2.1
        simp only [Option.some.injEq, Prod.mk.injEq] at h2
        dsimp only
        omega
theorem least_le (fs : List FiD) : ∀ k, k ≤ 100 → leastB fs k ≤ 99
  | 0, _ => by simp [leastB]
  | k + 1, h => by
    have h1 := least_le fs k (by omega)
    have h2 := hdFrom_le fs k (by omega)
    rw [leastB]
    omega
theorem least_iff (fs : List FiD) {m : Nat} : ∀ {k : Nat}, leastB fs k ≤ m ↔ ∀ n, n < k → hdFrom fs n ≤ m
  | 0 => by simp [leastB]
  | k + 1 => by
    rw [leastB, Nat.max_le, least_iff fs]
    constructor
    · rintro ⟨h1, h2⟩ n hn
      by_cases e : n = k
      · subst e; exact h2
      · exact h1 n (by omega)
    · intro h
      exact ⟨fun n hn => h n (by omega), h k (by omega)⟩
theorem segs_no {fs : List FiD} (h : diskOkB fs = false) : segsB fs = [] := by unfold segsB; rw [if_neg (by simp [h])]
theorem segs_bad {fs : List FiD} {n : Nat} (hn : n ∈ allB fs) (h : badF fs n = true) : segsB fs = [] := by
  unfold segsB
  rw [if_neg]
  rintro ⟨_, ha⟩
  have := List.all_eq_true.1 ha n hn
  rw [h] at this
  cases this
theorem segs_good {fs : List FiD} (hd : diskOkB fs = true) (h : ∀ n ∈ allB fs, badF fs n = false) : segsB fs = allB fs := by
  unfold segsB
  rw [if_pos ⟨hd, List.all_eq_true.2 fun n hn => by rw [h n hn]; rfl⟩]
theorem segs_len (fs : List FiD) : (segsB fs).length ≤ 100 := by
  unfold segsB
  split
  · exact outs_len fs
  · simp
theorem segs_lt {fs : List FiD} {n : Nat} (h : n ∈ segsB fs) : n < 100 ∧ hasF fs n = true := by
  unfold segsB at h
  split at h
  · exact ((outs_mem fs).1 h).2
  · simp at h
theorem hd_none {fs : List FiD} {n : Nat} (h : fileB fs (segNm (n : Int)) = none) : hdFrom fs n = 0 ∧ hasF fs n = false := by
  unfold hdFrom hdAt hasF
  rw [h]
  exact ⟨rfl, rfl⟩
theorem hd_bad {fs : List FiD} {n : Nat} {t : ByteArray} (h : fileB fs (segNm (n : Int)) = some t) (h2 : headOfB (n : Int) t = none) : hdFrom fs n = 0 ∧ hasF fs n = true ∧ badF fs n = true := by
  unfold hdFrom badF hdAt hasF
  rw [h]
  simp [h2]
theorem hd_good {fs : List FiD} {n f l : Nat} {t : ByteArray} (h : fileB fs (segNm (n : Int)) = some t) (h2 : headOfB (n : Int) t = some (f, l)) : hdFrom fs n = f ∧ hasF fs n = true ∧ badF fs n = false := by
  unfold hdFrom badF hdAt hasF
  rw [h]
  simp [h2]
/-- Lists that rise, with the same things, are the same. -/
theorem incr_eq : ∀ {l m : List Int}, l.Pairwise (· < ·) → m.Pairwise (· < ·) → (∀ x, x ∈ l ↔ x ∈ m) → l = m
  | [], [], _, _, _ => rfl
  | [], y :: m, _, _, h => absurd ((h y).2 (by simp)) (by simp)
  | x :: l, [], _, _, h => absurd ((h x).1 (by simp)) (by simp)
  | x :: l, y :: m, hl, hm, h => by
    rw [List.pairwise_cons] at hl hm
    have e : x = y := by
      rcases List.mem_cons.1 ((h x).1 (by simp)) with e | e
      · exact e
      · rcases List.mem_cons.1 ((h y).2 (by simp)) with e2 | e2
        · exact e2.symm
        · have := hl.1 y e2
          have := hm.1 x e
          omega
    subst e
    congr 1
    refine incr_eq hl.2 hm.2 fun z => ?_
    constructor
    · intro hz
      rcases List.mem_cons.1 ((h z).1 (by simp [hz])) with e | e
      · subst e; exact absurd (hl.1 z hz) (by omega)
      · exact e
    · intro hz
      rcases List.mem_cons.1 ((h z).2 (by simp [hz])) with e | e
      · subst e; exact absurd (hm.1 z hz) (by omega)
      · exact e
/-- What the program makes: sorted, the low ones struck. -/
theorem sorted_outs {fs : List FiD} {ns : List Nat} {a : Nat} (hnd : ns.Nodup) (hm : ∀ n, n ∈ ns ↔ n < 100 ∧ hasF fs n = true) :
    ((ns.map Int.ofNat).mergeSort fun x y => decide (x ≤ y)).filter (fun x => !decide (x < (a : Int))) = (outsB fs a 100).map Int.ofNat := by
  have hp := List.mergeSort_perm (ns.map Int.ofNat) fun x y => decide (x ≤ y)
  have hs : ((ns.map Int.ofNat).mergeSort fun x y => decide (x ≤ y)).Pairwise (fun x y => decide (x ≤ y) = true) := List.pairwise_mergeSort (fun a b c h1 h2 => by simp only [decide_eq_true_eq] at *; omega) (fun a b => by simp only [Bool.or_eq_true, decide_eq_true_eq]; omega) _
  have hnd2 : ((ns.map Int.ofNat).mergeSort fun x y => decide (x ≤ y)).Nodup := hp.nodup_iff.2 (List.Pairwise.map Int.ofNat (fun a b h e => h (Int.ofNat.inj e)) hnd)
  refine incr_eq ?_ ?_ fun x => ?_
  · refine List.Pairwise.filter _ ?_
    refine (hs.and hnd2).imp fun {x y} h => ?_
    have h1 := of_decide_eq_true h.1
    have h2 := h.2
    omega
  · exact List.Pairwise.map _ (fun x y h => by show (x : Int) < (y : Int); omega) (outs_incr fs)
  · rw [List.mem_filter, hp.mem_iff, List.mem_map, List.mem_map]
    constructor
    · rintro ⟨⟨n, hn, rfl⟩, hx⟩
      refine ⟨n, (outs_mem fs).2 ⟨?_, (hm n).1 hn⟩, rfl⟩
      simp only [Bool.not_eq_true', decide_eq_false_iff_not] at hx
      have : ¬ ((n : Int) < (a : Int)) := hx
      omega
    · rintro ⟨n, hn, rfl⟩
      obtain ⟨h1, h2⟩ := (outs_mem fs).1 hn
      refine ⟨⟨n, (hm n).2 h2, rfl⟩, ?_⟩
      simp only [Bool.not_eq_true', decide_eq_false_iff_not]
      show ¬ ((n : Int) < (a : Int))
      omega
end Go.Proofs.YtaacpdejpcbbbaaGreatDoor
