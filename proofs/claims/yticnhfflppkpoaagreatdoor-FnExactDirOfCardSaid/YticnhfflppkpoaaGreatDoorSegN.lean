/- The number of a segment's name; the numbers of a disk: plain. -/
import Derived.Test.YticnhfflppkpoaaGreatDoorDecL
import Derived.Test.YticnhfflppkpoaaGreatDoorSegsL
namespace Go.Proofs.YticnhfflppkpoaaGreatDoor
set_option linter.unusedVariables false
set_option linter.unusedSimpArgs false
open Go.RowKit
attribute [local go_sem] bs_size List.length_cons List.length_nil List.length_append

theorem segNm_yes {n : Nat} (h : n ≤ 99) : segNm (n : Int) = (⟨#[98]⟩ : ByteArray) ++ bs (Lib.itoa (n : Int)) := by
  unfold segNm
  rw [if_pos (by unfold inR; simp; omega)]
theorem ub_segNm {n : Nat} (h : n ≤ 99) : ub (segNm (n : Int)) = 98 :: Lib.itoa (n : Int) := by
  rw [segNm_yes h]
  simp [ub, bs]
theorem segNm_inj {n m : Nat} (hn : n ≤ 99) (hm : m ≤ 99) (h : segNm (n : Int) = segNm (m : Int)) : n = m := by
  have e := congrArg ub h
  rw [ub_segNm hn, ub_segNm hm] at e
  injection e with _ e
  have h1 := atoi_itoa (n : Int) ⟨by omega, by omega⟩
  have h2 := atoi_itoa (m : Int) ⟨by omega, by omega⟩
  rw [e, h2] at h1
  injection h1 with h1
  omega

theorem ub_inj' {a b : ByteArray} (h : ub a = ub b) : a = b := by rw [← bs_ub a, h, bs_ub]
def segNo (name : ByteArray) : Option Nat := match ub name with
  | [] => none
  | c :: l => if c = 98 then (match decOf l with
    | none => none
    | some n => if n ≤ 99 then some n else none) else none
theorem segNo_some {name : ByteArray} {n : Nat} (h : segNo name = some n) : n ≤ 99 ∧ name = segNm (n : Int) := by
  unfold segNo at h
  cases hu : ub name with
  | nil => rw [hu] at h; cases h
  | cons c l =>
    rw [hu] at h
    dsimp only at h
    split at h
    · rename_i hc
      subst hc
      cases hd : decOf l with
      | none => rw [hd] at h; cases h
      | some m =>
        rw [hd] at h
        dsimp only at h
        split at h
        · rename_i hm
          obtain rfl := Option.some.inj h
          refine ⟨hm, ub_inj' ?_⟩
          rw [ub_segNm hm, hu, (decOf_spec hd).2]
        · cases h
    · cases h
theorem segNo_nm {n : Nat} (h : n ≤ 99) : segNo (segNm (n : Int)) = some n := by
  unfold segNo
  rw [ub_segNm h]
  dsimp only
  rw [if_pos rfl, decOf_some (n := n) (by omega) rfl]
  dsimp only
  rw [if_pos h]
def noInt (o : Option Nat) : Int := match o with
  | none => -1
  | some n => (n : Int)
theorem less_trans : ∀ {x y z : List UInt8}, Op.bytesLess x y = true → Op.bytesLess y z = true → Op.bytesLess x z = true
  | _, [], _, h, _ => by cases h1 : ‹List UInt8› <;> simp [Op.bytesLess] at h
  | _, _ :: _, [], _, h => by simp [Op.bytesLess] at h
  | [], _ :: _, _ :: _, _, _ => rfl
  | a :: x, b :: y, c :: z, h1, h2 => by
    simp only [Op.bytesLess, Bool.or_eq_true, Bool.and_eq_true, decide_eq_true_eq, beq_iff_eq] at h1 h2 ⊢
    rcases h1 with h1 | ⟨rfl, h1⟩
    · rcases h2 with h2 | ⟨rfl, h2⟩
      · exact .inl (UInt8.lt_trans h1 h2)
      · exact .inl h1
    · rcases h2 with h2 | ⟨rfl, h2⟩
      · exact .inl h2
      · exact .inr ⟨rfl, less_trans h1 h2⟩
theorem less_irr : ∀ (x : List UInt8), Op.bytesLess x x = false
  | [] => rfl
  | a :: x => by
    have h1 : ¬ a < a := UInt8.lt_irrefl a
    simp [Op.bytesLess, h1, less_irr x]
/-- The names of a right disk rise. -/
theorem names_rise {fs : List FiD} (h : diskOkB fs = true) : ∀ (i j : Nat) (x y : FiD), i < j → fs[i]? = some x → fs[j]? = some y → Op.bytesLess x.1.toList y.1.toList = true := by
  have step : ∀ (i : Nat) (x y : FiD), fs[i]? = some x → fs[i + 1]? = some y → Op.bytesLess x.1.toList y.1.toList = true := fun i x y hx hy => by
    have hil := (List.getElem?_eq_some_iff.1 hy).1
    unfold diskOkB at h
    rw [Bool.and_eq_true, List.all_eq_true] at h
    have h2 := h.1 (i + 1) (List.mem_range.2 hil)
    unfold fiAt at h2
    rw [hy] at h2
    dsimp only at h2
    rw [hx, Bool.and_eq_true] at h2
    exact h2.2
  intro i j
  induction j with
  | zero => intro x y hij; omega
  | succ j ih =>
    intro x y hij hx hy
    by_cases e : i = j
    · subst e; exact step i x y hx hy
    · have hjl := (List.getElem?_eq_some_iff.1 hy).1
      have hz : fs[j]? = some fs[j] := List.getElem?_eq_getElem (by omega)
      exact less_trans (ih x _ (by omega) hx hz) (step j _ y hz hy)
theorem fileB_of {fs : List FiD} (h : diskOkB fs = true) {i : Nat} {x : FiD} (hx : fs[i]? = some x) : fileB fs x.1 = some x.2.1 :=
  fileB_at hx rfl fun j y hj hy e => by
    have := names_rise h j i y x hj hy hx
    rw [e, less_irr] at this
    cases this
theorem fileB_mem' {n s : ByteArray} : ∀ {fs : List FiD}, fileB fs n = some s → ∃ x ∈ fs, x.1 = n ∧ x.2.1 = s
  | [], h => by cases h
  | y :: ys, h => by
    unfold fileB at h
    split at h
    · rename_i hy
      exact ⟨y, by simp, hy, Option.some.inj h⟩
    · obtain ⟨x, hx, e⟩ := fileB_mem' h
      exact ⟨x, by simp [hx], e⟩
def numsB (fs : List FiD) : List Nat := fs.filterMap fun x => segNo x.1
def fromOf (n : Nat) (t : ByteArray) : Nat := match headOfB (n : Int) t with
  | none => 0
  | some (f, _) => f
def leastI (fs : List FiD) : Nat := fs.foldl (fun m x => match segNo x.1 with
  | none => m
  | some n => max m (fromOf n x.2.1)) 0
theorem nums_step {fs : List FiD} {i : Nat} {x : FiD} (hx : fs[i]? = some x) : numsB (fs.take (i + 1)) = numsB (fs.take i) ++ (match segNo x.1 with | none => [] | some n => [n]) := by
  unfold numsB
  rw [take_snoc hx, List.filterMap_append]
  congr 1
  cases h : segNo x.1 <;> simp [h]
theorem leastI_step {fs : List FiD} {i : Nat} {x : FiD} (hx : fs[i]? = some x) : leastI (fs.take (i + 1)) = (match segNo x.1 with | none => leastI (fs.take i) | some n => max (leastI (fs.take i)) (fromOf n x.2.1)) := by
  unfold leastI
  rw [take_snoc hx, List.foldl_append]
  rfl
theorem nums_mem {fs : List FiD} (h : diskOkB fs = true) (n : Nat) : n ∈ numsB fs ↔ n < 100 ∧ hasF fs n = true := by
  unfold numsB
  rw [List.mem_filterMap]
  constructor
  · rintro ⟨x, hx, hn⟩
    obtain ⟨h1, h2⟩ := segNo_some hn
    obtain ⟨i, hi⟩ := List.getElem?_of_mem hx
    refine ⟨by omega, ?_⟩
    unfold hasF
    rw [← h2, fileB_of h hi]
    rfl
  · rintro ⟨h1, h2⟩
    unfold hasF at h2
    cases hf : fileB fs (segNm (n : Int)) with
    | none => rw [hf] at h2; cases h2
    | some t =>
      obtain ⟨x, hx, e, _⟩ := fileB_mem' hf
      exact ⟨x, hx, by rw [e]; exact segNo_nm (by omega)⟩
theorem nums_nodup {fs : List FiD} (h : diskOkB fs = true) : (numsB fs).Nodup := by
  have hp : fs.Pairwise fun x y => x.1 ≠ y.1 := by
    rw [List.pairwise_iff_getElem]
    intro i j hi hj hij e
    have := names_rise h i j _ _ hij (List.getElem?_eq_getElem hi) (List.getElem?_eq_getElem hj)
    rw [e, less_irr] at this
    cases this
  unfold numsB
  refine List.Pairwise.filterMap _ (fun x y hxy b hb b' hb' e => ?_) hp
  subst e
  exact hxy ((segNo_some hb).2.trans (segNo_some hb').2.symm)
theorem hdFrom_of {fs : List FiD} {n : Nat} {t : ByteArray} (h : fileB fs (segNm (n : Int)) = some t) : hdFrom fs n = fromOf n t := by
  unfold hdFrom hdAt fromOf
  rw [h]
  cases h2 : headOfB (n : Int) t with
  | none => simp [h2]
  | some p => simp [h2]
theorem leastI_iff {fs : List FiD} {m : Nat} : leastI fs ≤ m ↔ ∀ x ∈ fs, ∀ n, segNo x.1 = some n → fromOf n x.2.1 ≤ m := by
  have gen : ∀ (l : List FiD) (a : Nat), l.foldl (fun m x => match segNo x.1 with | none => m | some n => max m (fromOf n x.2.1)) a ≤ m ↔ a ≤ m ∧ ∀ x ∈ l, ∀ n, segNo x.1 = some n → fromOf n x.2.1 ≤ m := by
    intro l
    induction l with
    | nil => intro a; simp
    | cons x l ih =>
      intro a
      rw [List.foldl_cons, ih]
      constructor
      · rintro ⟨h1, h2⟩
        cases hs : segNo x.1 with
        | none =>
          rw [hs] at h1
          refine ⟨h1, fun y hy n hn => ?_⟩
          rcases List.mem_cons.1 hy with rfl | hy
          · rw [hs] at hn; cases hn
          · exact h2 y hy n hn
        | some k =>
          rw [hs] at h1
          have h1 := Nat.max_le.1 h1
          refine ⟨h1.1, fun y hy n hn => ?_⟩
          rcases List.mem_cons.1 hy with rfl | hy
          · rw [hs] at hn
            cases hn
            omega
          · exact h2 y hy n hn
      · rintro ⟨h1, h2⟩
        refine ⟨?_, fun y hy n hn => h2 y (by simp [hy]) n hn⟩
        cases hs : segNo x.1 with
        | none => exact h1
        | some k =>
          exact Nat.max_le.2 ⟨h1, h2 x (by simp) k hs⟩
  unfold leastI
  rw [gen]
  simp
theorem leastI_eq {fs : List FiD} (h : diskOkB fs = true) : leastI fs = leastB fs 100 := by
  have key : ∀ m, leastI fs ≤ m ↔ leastB fs 100 ≤ m := fun m => by
    rw [leastI_iff, least_iff fs]
    constructor
    · intro h1 n hn
      cases hf : fileB fs (segNm (n : Int)) with
      | none => rw [(hd_none hf).1]; omega
      | some t =>
        obtain ⟨x, hx, e, e2⟩ := fileB_mem' hf
        rw [hdFrom_of hf, ← e2]
        exact h1 x hx n (by rw [e]; exact segNo_nm (by omega))
    · intro h1 x hx n hn
      obtain ⟨h2, h3⟩ := segNo_some hn
      obtain ⟨i, hi⟩ := List.getElem?_of_mem hx
      have hf : fileB fs (segNm (n : Int)) = some x.2.1 := by rw [← h3]; exact fileB_of h hi
      rw [← hdFrom_of hf]
      exact h1 n (by omega)
  exact Nat.le_antisymm ((key _).2 (Nat.le_refl _)) ((key _).1 (Nat.le_refl _))
theorem leastI_le {fs : List FiD} {i : Nat} : leastI (fs.take i) ≤ 99 := leastI_iff.2 fun x hx n hn => by
  obtain ⟨h2, _⟩ := segNo_some hn
  unfold fromOf
  cases h : headOfB (n : Int) x.2.1 with
  | none => simp
  | some p =>
    obtain ⟨f, l⟩ := p
    obtain ⟨r, rs, hu, _, hs⟩ := segPl_some h
    rw [headOf_cons hu] at h
    cases h3 : hdI (n : Int) r with
    | none => rw [h3] at h; cases h
    | some f' =>
      rw [h3] at h
      have h4 := (hdI_is h3).2.1
      simp only [Option.some.injEq, Prod.mk.injEq] at h
      dsimp only
      omega
theorem nums_len (fs : List FiD) (i : Nat) : (numsB (fs.take i)).length ≤ i := by
  unfold numsB
  have h1 := List.length_filterMap_le (fun x : FiD => segNo x.1) (fs.take i)
  have h2 : (fs.take i).length ≤ i := by rw [List.length_take]; omega
  omega
end Go.Proofs.YticnhfflppkpoaaGreatDoor
