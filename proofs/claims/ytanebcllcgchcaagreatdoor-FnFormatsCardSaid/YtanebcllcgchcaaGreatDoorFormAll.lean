/- The number of a segment's name; the numbers of a disk: plain. The plain law of ReadHint: what the program reads and what the reference reads is the directory whose hint it is. Directories: DirOk, the program's and the reference's. By wip/tools/gendirok.py. Rows of spots of the call's own. Directories: l07Set of the reference. SeqsRise: plain. The directory of a disk: plain. The disk of a formatted engine: plain. AllKept of the program. Rows of files of the call's own. segNumber of the program. Rows of ints of the call's own. The formatted engine: the small functions of the program. Segments: the reference's ReadSegment. Segments of the reference. Sort and DeleteFunc on a row of ints of the call's own. Segments of the program. SeqsRise of the reference, and of the program. SeqsRise of the program. The program's map of spots: plain. The directory of a disk: DirOf of the reference. The directory of a disk: how great it is. The directory of a disk: DirOf of the program. The formatted engine: opened, found right, used, read; FormatEngine on both sides. The formatted engine: found right, used, read; FormatEngine on both sides. The reference's draws: a cursor over bytes that came in; what is drawn is some number below the bound. The draws: a cursor is made, texts are picked out of lists that are written out. The draws: a pick out of a list of numbers. The draws: a room (DrawFormatEngine). The laws' helpers big and sameTexts; bytes that came in. The walk of the law FnFormats: whatever the code, it returns true. -/
import Derived.Test.YtanebcllcgchcaaGreatDoorDecL
import Derived.Test.YtanebcllcgchcaaGreatDoorSegsL
import Derived.Test.YtanebcllcgchcaaGreatDoorRdL
import Derived.Test.YtanebcllcgchcaaGreatDoorSum
import Derived.Test.YtanebcllcgchcaaGreatDoorGrow
import Derived.Test.YtanebcllcgchcaaGreatDoorBl
import Derived.Laws.Cover1
import Derived.Outline
import Derived.BigQuiet
import Derived.Deep.RegionHeld3
import Derived.Deep.CutRange
import Derived.Test.YtanebcllcgchcaaGreatDoorSegRT
import Derived.Test.YtanebcllcgchcaaGreatDoorDecS
import Derived.Test.YtanebcllcgchcaaGreatDoorFileB
import Derived.Test.YtanebcllcgchcaaGreatDoorFileA
import Derived.Test.YtanebcllcgchcaaGreatDoorDecAll
import Derived.Test.YtanebcllcgchcaaGreatDoorOwn
import Derived.Deep.AppendLies
import Derived.Test.YtanebcllcgchcaaGreatDoorSeg5
import Derived.Test.YtanebcllcgchcaaGreatDoorShelf
import Derived.Sort.OwnSortedInts
import Derived.Shelf.Slices.In.SortNone
import Derived.Maps.OwnSet
import Derived.Sort.KeysCollected
import Derived.StillTailTactics
import Derived.Test.YtanebcllcgchcaaGreatDoorIter
import Derived.Maps.OwnOps
import Derived.Carry
import Derived.Test.YtanebcllcgchcaaGreatDoorStrs
import Derived.Laws.Bits
import Derived.ChangeSlices
namespace Go.Proofs.YtanebcllcgchcaaGreatDoor
set_option linter.unusedVariables false
set_option linter.unusedSimpArgs false
open Go.RowKit
attribute [local go_sem] bs_size List.length_cons List.length_nil List.length_append

theorem segNm_yes {n : Nat} (h : n ≤ 99) : segNm (n : Int) = (⟨#[98]⟩ : ByteArray) ++ bs (Lib.itoa (n : Int)) := by
  unfold segNm
  rw [if_pos (by unfold inR; simp; omega)]
theorem ub_segNm {n : Nat} (h : n ≤ 99) : ub (segNm (n : Int)) = 98 :: Lib.itoa (n : Int) := by
  rw [segNm_yes h]
  simp [ub, bs]
theorem segNm_inj {n m : Nat} (hn : n ≤ 99) (hm : m ≤ 99) (h : segNm (n : Int) = segNm (m : Int)) : n = m := by
  have e := congrArg ub h
  rw [ub_segNm hn, ub_segNm hm] at e
  injection e with _ e
  have h1 := atoi_itoa (n : Int) ⟨by omega, by omega⟩
  have h2 := atoi_itoa (m : Int) ⟨by omega, by omega⟩
  rw [e, h2] at h1
  injection h1 with h1
  omega

theorem ub_inj' {a b : ByteArray} (h : ub a = ub b) : a = b := by rw [← bs_ub a, h, bs_ub]
def segNo (name : ByteArray) : Option Nat := match ub name with
  | [] => none
  | c :: l => if c = 98 then (match decOf l with
    | none => none
    | some n => if n ≤ 99 then some n else none) else none
theorem segNo_some {name : ByteArray} {n : Nat} (h : segNo name = some n) : n ≤ 99 ∧ name = segNm (n : Int) := by
  unfold segNo at h
  cases hu : ub name with
  | nil => rw [hu] at h; cases h
  | cons c l =>
    rw [hu] at h
    dsimp only at h
    split at h
    · rename_i hc
      subst hc
      cases hd : decOf l with
      | none => rw [hd] at h; cases h
      | some m =>
        rw [hd] at h
        dsimp only at h
        split at h
        · rename_i hm
          obtain rfl := Option.some.inj h
          refine ⟨hm, ub_inj' ?_⟩
          rw [ub_segNm hm, hu, (decOf_spec hd).2]
        · cases h
    · cases h
theorem segNo_nm {n : Nat} (h : n ≤ 99) : segNo (segNm (n : Int)) = some n := by
  unfold segNo
  rw [ub_segNm h]
  dsimp only
  rw [if_pos rfl, decOf_some (n := n) (by omega) rfl]
  dsimp only
  rw [if_pos h]
def noInt (o : Option Nat) : Int := match o with
  | none => -1
  | some n => (n : Int)
theorem less_trans : ∀ {x y z : List UInt8}, Op.bytesLess x y = true → Op.bytesLess y z = true → Op.bytesLess x z = true
  | _, [], _, h, _ => by cases h1 : ‹List UInt8› <;> simp [Op.bytesLess] at h
  | _, _ :: _, [], _, h => by simp [Op.bytesLess] at h
  | [], _ :: _, _ :: _, _, _ => rfl
  | a :: x, b :: y, c :: z, h1, h2 => by
    simp only [Op.bytesLess, Bool.or_eq_true, Bool.and_eq_true, decide_eq_true_eq, beq_iff_eq] at h1 h2 ⊢
    rcases h1 with h1 | ⟨rfl, h1⟩
    · rcases h2 with h2 | ⟨rfl, h2⟩
      · exact .inl (UInt8.lt_trans h1 h2)
      · exact .inl h1
    · rcases h2 with h2 | ⟨rfl, h2⟩
      · exact .inl h2
      · exact .inr ⟨rfl, less_trans h1 h2⟩
theorem less_irr : ∀ (x : List UInt8), Op.bytesLess x x = false
  | [] => rfl
  | a :: x => by
    have h1 : ¬ a < a := UInt8.lt_irrefl a
    simp [Op.bytesLess, h1, less_irr x]
/-- The names of a right disk rise. -/
theorem names_rise {fs : List FiD} (h : diskOkB fs = true) : ∀ (i j : Nat) (x y : FiD), i < j → fs[i]? = some x → fs[j]? = some y → Op.bytesLess x.1.toList y.1.toList = true := by
  have step : ∀ (i : Nat) (x y : FiD), fs[i]? = some x → fs[i + 1]? = some y → Op.bytesLess x.1.toList y.1.toList = true := fun i x y hx hy => by
    have hil := (List.getElem?_eq_some_iff.1 hy).1
    unfold diskOkB at h
    rw [Bool.and_eq_true, List.all_eq_true] at h
    have h2 := h.1 (i + 1) (List.mem_range.2 hil)
    unfold fiAt at h2
    rw [hy] at h2
    dsimp only at h2
    rw [hx, Bool.and_eq_true] at h2
    exact h2.2
  intro i j
  induction j with
  | zero => intro x y hij; omega
  | succ j ih =>
    intro x y hij hx hy
    by_cases e : i = j
    · subst e; exact step i x y hx hy
    · have hjl := (List.getElem?_eq_some_iff.1 hy).1
      have hz : fs[j]? = some fs[j] := List.getElem?_eq_getElem (by omega)
      exact less_trans (ih x _ (by omega) hx hz) (step j _ y hz hy)
theorem fileB_of {fs : List FiD} (h : diskOkB fs = true) {i : Nat} {x : FiD} (hx : fs[i]? = some x) : fileB fs x.1 = some x.2.1 :=
  fileB_at hx rfl fun j y hj hy e => by
    have := names_rise h j i y x hj hy hx
    rw [e, less_irr] at this
    cases this
theorem fileB_mem' {n s : ByteArray} : ∀ {fs : List FiD}, fileB fs n = some s → ∃ x ∈ fs, x.1 = n ∧ x.2.1 = s
  | [], h => by cases h
  | y :: ys, h => by
    unfold fileB at h
    split at h
    · rename_i hy
      exact ⟨y, by simp, hy, Option.some.inj h⟩
    · obtain ⟨x, hx, e⟩ := fileB_mem' h
      exact ⟨x, by simp [hx], e⟩
def numsB (fs : List FiD) : List Nat := fs.filterMap fun x => segNo x.1
def fromOf (n : Nat) (t : ByteArray) : Nat := match headOfB (n : Int) t with
  | none => 0
  | some (f, _) => f
def leastI (fs : List FiD) : Nat := fs.foldl (fun m x => match segNo x.1 with
  | none => m
  | some n => max m (fromOf n x.2.1)) 0
theorem nums_step {fs : List FiD} {i : Nat} {x : FiD} (hx : fs[i]? = some x) : numsB (fs.take (i + 1)) = numsB (fs.take i) ++ (match segNo x.1 with | none => [] | some n => [n]) := by
  unfold numsB
  rw [take_snoc hx, List.filterMap_append]
  congr 1
  cases h : segNo x.1 <;> simp [h]
theorem leastI_step {fs : List FiD} {i : Nat} {x : FiD} (hx : fs[i]? = some x) : leastI (fs.take (i + 1)) = (match segNo x.1 with | none => leastI (fs.take i) | some n => max (leastI (fs.take i)) (fromOf n x.2.1)) := by
  unfold leastI
  rw [take_snoc hx, List.foldl_append]
  rfl
theorem nums_mem {fs : List FiD} (h : diskOkB fs = true) (n : Nat) : n ∈ numsB fs ↔ n < 100 ∧ hasF fs n = true := by
  unfold numsB
  rw [List.mem_filterMap]
  constructor
  · rintro ⟨x, hx, hn⟩
    obtain ⟨h1, h2⟩ := segNo_some hn
    obtain ⟨i, hi⟩ := List.getElem?_of_mem hx
    refine ⟨by omega, ?_⟩
    unfold hasF
    rw [← h2, fileB_of h hi]
    rfl
  · rintro ⟨h1, h2⟩
    unfold hasF at h2
    cases hf : fileB fs (segNm (n : Int)) with
    | none => rw [hf] at h2; cases h2
    | some t =>
      obtain ⟨x, hx, e, _⟩ := fileB_mem' hf
      exact ⟨x, hx, by rw [e]; exact segNo_nm (by omega)⟩
theorem nums_nodup {fs : List FiD} (h : diskOkB fs = true) : (numsB fs).Nodup := by
  have hp : fs.Pairwise fun x y => x.1 ≠ y.1 := by
    rw [List.pairwise_iff_getElem]
    intro i j hi hj hij e
    have := names_rise h i j _ _ hij (List.getElem?_eq_getElem hi) (List.getElem?_eq_getElem hj)
    rw [e, less_irr] at this
    cases this
  unfold numsB
  refine List.Pairwise.filterMap _ (fun x y hxy b hb b' hb' e => ?_) hp
  subst e
  exact hxy ((segNo_some hb).2.trans (segNo_some hb').2.symm)
theorem hdFrom_of {fs : List FiD} {n : Nat} {t : ByteArray} (h : fileB fs (segNm (n : Int)) = some t) : hdFrom fs n = fromOf n t := by
  unfold hdFrom hdAt fromOf
  rw [h]
  cases h2 : headOfB (n : Int) t with
  | none => simp [h2]
  | some p => simp [h2]
theorem leastI_iff {fs : List FiD} {m : Nat} : leastI fs ≤ m ↔ ∀ x ∈ fs, ∀ n, segNo x.1 = some n → fromOf n x.2.1 ≤ m := by
  have gen : ∀ (l : List FiD) (a : Nat), l.foldl (fun m x => match segNo x.1 with | none => m | some n => max m (fromOf n x.2.1)) a ≤ m ↔ a ≤ m ∧ ∀ x ∈ l, ∀ n, segNo x.1 = some n → fromOf n x.2.1 ≤ m := by
    intro l
    induction l with
    | nil => intro a; simp
    | cons x l ih =>
      intro a
      rw [List.foldl_cons, ih]
      constructor
      · rintro ⟨h1, h2⟩
        cases hs : segNo x.1 with
        | none =>
          rw [hs] at h1
          refine ⟨h1, fun y hy n hn => ?_⟩
          rcases List.mem_cons.1 hy with rfl | hy
          · rw [hs] at hn; cases hn
          · exact h2 y hy n hn
        | some k =>
          rw [hs] at h1
          have h1 := Nat.max_le.1 h1
          refine ⟨h1.1, fun y hy n hn => ?_⟩
          rcases List.mem_cons.1 hy with rfl | hy
          · rw [hs] at hn
            cases hn
            omega
          · exact h2 y hy n hn
      · rintro ⟨h1, h2⟩
        refine ⟨?_, fun y hy n hn => h2 y (by simp [hy]) n hn⟩
        cases hs : segNo x.1 with
        | none => exact h1
        | some k =>
          exact Nat.max_le.2 ⟨h1, h2 x (by simp) k hs⟩
  unfold leastI
  rw [gen]
  simp
theorem leastI_eq {fs : List FiD} (h : diskOkB fs = true) : leastI fs = leastB fs 100 := by
  have key : ∀ m, leastI fs ≤ m ↔ leastB fs 100 ≤ m := fun m => by
    rw [leastI_iff, least_iff fs]
    constructor
    · intro h1 n hn
      cases hf : fileB fs (segNm (n : Int)) with
      | none => rw [(hd_none hf).1]; omega
      | some t =>
        obtain ⟨x, hx, e, e2⟩ := fileB_mem' hf
        rw [hdFrom_of hf, ← e2]
        exact h1 x hx n (by rw [e]; exact segNo_nm (by omega))
    · intro h1 x hx n hn
      obtain ⟨h2, h3⟩ := segNo_some hn
      obtain ⟨i, hi⟩ := List.getElem?_of_mem hx
      have hf : fileB fs (segNm (n : Int)) = some x.2.1 := by rw [← h3]; exact fileB_of h hi
      rw [← hdFrom_of hf]
      exact h1 n (by omega)
  exact Nat.le_antisymm ((key _).2 (Nat.le_refl _)) ((key _).1 (Nat.le_refl _))
theorem leastI_le {fs : List FiD} {i : Nat} : leastI (fs.take i) ≤ 99 := leastI_iff.2 fun x hx n hn => by
  obtain ⟨h2, _⟩ := segNo_some hn
  unfold fromOf
  cases h : headOfB (n : Int) x.2.1 with
  | none => simp
  | some p =>
    obtain ⟨f, l⟩ := p
    obtain ⟨r, rs, hu, _, hs⟩ := segPl_some h
    rw [headOf_cons hu] at h
    cases h3 : hdI (n : Int) r with
    | none => rw [h3] at h; cases h
    | some f' =>
      rw [h3] at h
      have h4 := (hdI_is h3).2.1
      simp only [Option.some.injEq, Prod.mk.injEq] at h
      dsimp only
      omega
theorem nums_len (fs : List FiD) (i : Nat) : (numsB (fs.take i)).length ≤ i := by
  unfold numsB
  have h1 := List.length_filterMap_le (fun x : FiD => segNo x.1) (fs.take i)
  have h2 : (fs.take i).length ≤ i := by rw [List.length_take]; omega
  omega
end Go.Proofs.YtanebcllcgchcaaGreatDoor

namespace Go.Proofs.YtanebcllcgchcaaGreatDoor
set_option linter.unusedVariables false
set_option linter.unusedSimpArgs false
open Go.RowKit

/-- A spot: its key, segment, place, sequence number. -/
abbrev SpotD := ByteArray × Int × Int × Int
def spBytes (x : SpotD) : List UInt8 := shortB (ub x.1) ++ (varBytes x.2.1.toNat ++ (varBytes x.2.2.1.toNat ++ varBytes x.2.2.2.toNat))
def spsBytes (ds : List SpotD) : List UInt8 := (ds.map spBytes).flatten
def spOkB (x : SpotD) : Bool := inR (x.1.size : Int) 1 20 && inR x.2.1 0 99 && inR x.2.2.1 0 20000 && inR x.2.2.2 0 1000000000
/-- The spot at i, and its key against the one ahead of it. -/
def spAt (ds : List SpotD) (i : Nat) : Bool := match ds[i]? with
  | none => true
  | some x => spOkB x && (match i with
    | 0 => true
    | j + 1 => match ds[j]? with
      | none => true
      | some p => Op.bytesLess p.1.toList x.1.toList)
def dirOkB (ds : List SpotD) : Bool := ((List.range ds.length).all fun i => spAt ds i) && decide (ds.length ≤ 200)
def hintInner (ds : List SpotD) : List UInt8 := varBytes ds.length ++ spsBytes ds
def hintText (ds : List SpotD) : Option (List UInt8) := if dirOkB ds = true then some (hintInner ds ++ sum4 (hintInner ds)) else none
def IsHint (s : ByteArray) (ds : List SpotD) : Prop := hintText ds = some (ub s)
theorem isHint_parts {s : ByteArray} {ds : List SpotD} (h : IsHint s ds) : dirOkB ds = true ∧ ub s = hintInner ds ++ sum4 (hintInner ds) := by
  unfold IsHint hintText at h
  split at h
  · rename_i hc
    exact ⟨hc, (Option.some.inj h).symm⟩
  · cases h
theorem inR_iff {n lo hi : Int} : inR n lo hi = true ↔ lo ≤ n ∧ n ≤ hi := by
  unfold inR
  simp [Bool.and_eq_true]
theorem spOk_parts {x : SpotD} (h : spOkB x = true) : (1 ≤ x.1.size ∧ x.1.size ≤ 20) ∧ (0 ≤ x.2.1 ∧ x.2.1 ≤ 99) ∧ (0 ≤ x.2.2.1 ∧ x.2.2.1 ≤ 20000) ∧ (0 ≤ x.2.2.2 ∧ x.2.2.2 ≤ 1000000000) := by
  unfold spOkB at h
  simp only [Bool.and_eq_true, inR_iff] at h
  obtain ⟨⟨⟨h1, h2⟩, h3⟩, h4⟩ := h
  exact ⟨by omega, h2, h3, h4⟩
theorem dirOk_parts {ds : List SpotD} (h : dirOkB ds = true) : ds.length ≤ 200 ∧ ∀ x ∈ ds, spOkB x = true := by
  unfold dirOkB at h
  simp only [Bool.and_eq_true, decide_eq_true_eq] at h
  refine ⟨h.2, fun x hx => ?_⟩
  obtain ⟨i, hi, e⟩ := List.mem_iff_getElem.1 hx
  have h1 := List.all_eq_true.1 h.1 i (List.mem_range.2 hi)
  unfold spAt at h1
  rw [List.getElem?_eq_getElem hi, e] at h1
  simp only [Bool.and_eq_true] at h1
  exact h1.1
theorem spBytes_len {x : SpotD} (h : spOkB x = true) : (spBytes x).length ≤ 60 := by
  obtain ⟨h1, h2, h3, h4⟩ := spOk_parts h
  have q1 := shortB_len x.1 (by omega)
  have q2 := varBytes_length 8 x.2.1.toNat (by omega)
  have q3 := varBytes_length 8 x.2.2.1.toNat (by omega)
  have q4 := varBytes_length 8 x.2.2.2.toNat (by omega)
  unfold spBytes
  simp only [List.length_append]
  omega
theorem spsBytes_len : ∀ (ds : List SpotD), (∀ x ∈ ds, spOkB x = true) → (spsBytes ds).length ≤ 60 * ds.length
  | [], _ => by simp [spsBytes]
  | x :: ds, h => by
    have h1 := spBytes_len (h x (by simp))
    have h2 := spsBytes_len ds fun y hy => h y (by simp [hy])
    have e : spsBytes (x :: ds) = spBytes x ++ spsBytes ds := by simp [spsBytes]
    rw [e, List.length_append, List.length_cons]
    omega
theorem hintInner_len {ds : List SpotD} (h : dirOkB ds = true) : (hintInner ds).length ≤ 12009 := by
  obtain ⟨h1, h2⟩ := dirOk_parts h
  have q := varBytes_length 8 ds.length (by omega)
  have q2 := spsBytes_len ds h2
  unfold hintInner
  rw [List.length_append]
  omega
theorem unsealed_hint {s : ByteArray} {ds : List SpotD} (h : IsHint s ds) : unsealed (ub s) = some (hintInner ds) ∧ s.size ≤ 12013 := by
  obtain ⟨h1, h2⟩ := isHint_parts h
  have hl := hintInner_len h1
  have hn : (ub s).length = (hintInner ds).length + 4 := by rw [h2, List.length_append, sum4_len]
  have e : (ub s).length - 4 = (hintInner ds).length := by omega
  have ht : (ub s).take ((ub s).length - 4) = hintInner ds := by rw [e, h2, List.take_left' rfl]
  have hd : (ub s).drop ((ub s).length - 4) = sum4 (hintInner ds) := by rw [e, h2, List.drop_left' rfl]
  refine ⟨?_, by rw [← ub_length]; omega⟩
  unfold unsealed
  rw [ht, hd, if_pos ⟨by omega, by omega, rfl⟩]
theorem unsealed_took {l t : List UInt8} (h : unsealed l = some t) : l = t ++ sum4 t := by
  unfold unsealed at h
  split at h
  · rename_i hc
    have e := Option.some.inj h
    rw [← e, ← hc.2.2, List.take_append_drop]
  · cases h
/-! ### The program's reading -/
def htK (s : ByteArray) (a : Nat) (b : Bool) : List UInt8 × Nat × Bool := rText s a b
def htS (s : ByteArray) (a : Nat) (b : Bool) : Nat × Nat × Bool := rNum s (htK s a b).2.1 (htK s a b).2.2
def htA (s : ByteArray) (a : Nat) (b : Bool) : Nat × Nat × Bool := rNum s (htS s a b).2.1 (htS s a b).2.2
def htQ (s : ByteArray) (a : Nat) (b : Bool) : Nat × Nat × Bool := rNum s (htA s a b).2.1 (htA s a b).2.2
def spI (s : ByteArray) (a : Nat) : SpotD × Nat × Bool := ((bs (htK s a false).1, ((htS s a false).1 : Int), ((htA s a false).1 : Int), ((htQ s a false).1 : Int)), (htQ s a false).2)
def hiN (t : ByteArray) : Nat × Nat × Bool := rNum t 0 false
def hiX (t : ByteArray) : List SpotD × Nat × Bool := itemsBy (spI t) (hiN t).1 (hiN t).2.1 (hiN t).2.2
def readHintI (s : ByteArray) : Option (List SpotD) := match unsealed (ub s) with
  | none => none
  | some t => if s.size ≤ 20000 ∧ rDone (bs t) (hiX (bs t)).2.1 (hiX (bs t)).2.2 = true ∧ dirOkB (hiX (bs t)).1 = true then some (hiX (bs t)).1 else none
/-! ### The reference's reading -/
def hsK (s : ByteArray) (a : Nat) (b : Bool) : List UInt8 × Nat × Bool := cShort s a b
def hsS (s : ByteArray) (a : Nat) (b : Bool) : Nat × Nat × Bool := rNum s (hsK s a b).2.1 (hsK s a b).2.2
def hsA (s : ByteArray) (a : Nat) (b : Bool) : Nat × Nat × Bool := rNum s (hsS s a b).2.1 (hsS s a b).2.2
def hsQ (s : ByteArray) (a : Nat) (b : Bool) : Nat × Nat × Bool := rNum s (hsA s a b).2.1 (hsA s a b).2.2
def spS (s : ByteArray) (a : Nat) : SpotD × Nat × Bool := ((bs (hsK s a false).1, ((hsS s a false).1 : Int), ((hsA s a false).1 : Int), ((hsQ s a false).1 : Int)), (hsQ s a false).2)
/-- The text under the seal, and whether there is none. -/
def hsT (s : ByteArray) : ByteArray × Bool := match unsealed (ub s) with
  | some t => (bs t, false)
  | none => (⟨#[]⟩, true)
def hsN (s : ByteArray) : Nat × Nat × Bool := rNum (hsT s).1 0 (hsT s).2
def hsX (s : ByteArray) : List SpotD × Nat × Bool := itemsBy (spS (hsT s).1) (min (hsN s).1 300) (hsN s).2.1 (hsN s).2.2
def readHintS (s : ByteArray) : Option (List SpotD) := if (hsX s).2.2 = false ∧ hintText (hsX s).1 = some (ub s) then some (hsX s).1 else none

theorem spI_put {s : ByteArray} (a : Nat) (x : SpotD) (l : List UInt8) (_ : a ≤ s.size) (hx : spOkB x = true) (h : tail_ s a = spBytes x ++ l) : spI s a = (x, a + (spBytes x).length, false) := by
  obtain ⟨h1, h2, h3, h4⟩ := spOk_parts hx
  obtain ⟨k, g, p, q⟩ := x
  dsimp only at h1 h2 h3 h4
  obtain ⟨g, rfl⟩ := Int.eq_ofNat_of_zero_le h2.1
  obtain ⟨p, rfl⟩ := Int.eq_ofNat_of_zero_le h3.1
  obtain ⟨q, rfl⟩ := Int.eq_ofNat_of_zero_le h4.1
  have h0 : tail_ s a = shortB (ub k) ++ (varBytes g ++ (varBytes p ++ (varBytes q ++ l))) := by rw [h]; simp [spBytes, List.append_assoc]
  have e1 : htK s a false = (ub k, a + (shortB (ub k)).length, false) := rText_put (by rw [ub_length]; omega) h0
  have l1 := tail_le ‹_› h0
  have e2 : htS s a false = (g, a + (shortB (ub k)).length + (varBytes g).length, false) := by
    unfold htS
    rw [e1]
    exact rNum_put (by omega) l1.2
  have l2 := tail_le l1.1 l1.2
  have e3 : htA s a false = (p, a + (shortB (ub k)).length + (varBytes g).length + (varBytes p).length, false) := by
    unfold htA
    rw [e2]
    exact rNum_put (by omega) l2.2
  have l3 := tail_le l2.1 l2.2
  have e4 : htQ s a false = (q, a + (shortB (ub k)).length + (varBytes g).length + (varBytes p).length + (varBytes q).length, false) := by
    unfold htQ
    rw [e3]
    exact rNum_put (by omega) l3.2
  unfold spI
  rw [e1, e2, e3, e4, bs_ub]
  simp [spBytes]
  omega
theorem spS_put {s : ByteArray} (a : Nat) (x : SpotD) (l : List UInt8) (ha : a ≤ s.size) (hx : spOkB x = true) (h : tail_ s a = spBytes x ++ l) : spS s a = (x, a + (spBytes x).length, false) := by
  obtain ⟨h1, h2, h3, h4⟩ := spOk_parts hx
  obtain ⟨k, g, p, q⟩ := x
  dsimp only at h1 h2 h3 h4
  obtain ⟨g, rfl⟩ := Int.eq_ofNat_of_zero_le h2.1
  obtain ⟨p, rfl⟩ := Int.eq_ofNat_of_zero_le h3.1
  obtain ⟨q, rfl⟩ := Int.eq_ofNat_of_zero_le h4.1
  have h0 : tail_ s a = shortB (ub k) ++ (varBytes g ++ (varBytes p ++ (varBytes q ++ l))) := by rw [h]; simp [spBytes, List.append_assoc]
  have e1 : hsK s a false = (ub k, a + (shortB (ub k)).length, false) := cShort_put ha (by rw [ub_length]; omega) h0
  have l1 := tail_le ‹_› h0
  have e2 : hsS s a false = (g, a + (shortB (ub k)).length + (varBytes g).length, false) := by
    unfold hsS
    rw [e1]
    exact rNum_put (by omega) l1.2
  have l2 := tail_le l1.1 l1.2
  have e3 : hsA s a false = (p, a + (shortB (ub k)).length + (varBytes g).length + (varBytes p).length, false) := by
    unfold hsA
    rw [e2]
    exact rNum_put (by omega) l2.2
  have l3 := tail_le l2.1 l2.2
  have e4 : hsQ s a false = (q, a + (shortB (ub k)).length + (varBytes g).length + (varBytes p).length + (varBytes q).length, false) := by
    unfold hsQ
    rw [e3]
    exact rNum_put (by omega) l3.2
  unfold spS
  rw [e1, e2, e3, e4, bs_ub]
  simp [spBytes]
  omega
theorem spI_took {s : ByteArray} (a : Nat) (x : SpotD) (a' : Nat) (ha : a ≤ s.size) (h : spI s a = (x, a', false)) : Took s a (spBytes x) a' := by
  unfold spI at h
  simp only [Prod.mk.injEq] at h
  obtain ⟨rfl, h2⟩ := h
  have a1 : (htK s a false).2.1 ≤ s.size := (rText_le s _ ha).1
  have a2 : (htS s a false).2.1 ≤ s.size := (rNum_le s _ _ a1).2.1
  have a3 : (htA s a false).2.1 ≤ s.size := (rNum_le s _ _ a2).2.1
  obtain ⟨b3, _, t4⟩ := rNum_took a3 (n := (htQ s a false).1) (a' := a') (b := (htA s a false).2.2) (Prod.ext rfl h2)
  obtain ⟨b2, _, t3⟩ := rNum_took a2 (n := (htA s a false).1) (a' := (htA s a false).2.1) (b := (htS s a false).2.2) (Prod.ext rfl (Prod.ext rfl b3))
  obtain ⟨b1, _, t2⟩ := rNum_took a1 (n := (htS s a false).1) (a' := (htS s a false).2.1) (b := (htK s a false).2.2) (Prod.ext rfl (Prod.ext rfl b2))
  obtain ⟨_, _, t1⟩ := rText_took ha (x := (htK s a false).1) (a' := (htK s a false).2.1) (b := false) (Prod.ext rfl (Prod.ext rfl b1))
  have := ((t1.trans t2).trans t3).trans t4
  rw [List.append_assoc, List.append_assoc] at this
  unfold spBytes
  rw [ub_bs]
  exact this
theorem readHintI_put {s : ByteArray} {ds : List SpotD} (h : IsHint s ds) : readHintI s = some ds := by
  obtain ⟨hu, hsz⟩ := unsealed_hint h
  obtain ⟨hok, _⟩ := isHint_parts h
  obtain ⟨hn, hx⟩ := dirOk_parts hok
  have h0 : tail_ (bs (hintInner ds)) 0 = varBytes ds.length ++ (spsBytes ds ++ []) := by rw [tail_zero, ub_bs, hintInner, List.append_nil]
  have e1 : hiN (bs (hintInner ds)) = (ds.length, 0 + (varBytes ds.length).length, false) := rNum_put (by omega) h0
  have l1 := tail_le (Nat.zero_le _) h0
  have e2 : hiX (bs (hintInner ds)) = (ds, 0 + (varBytes ds.length).length + (spsBytes ds).length, false) := by
    unfold hiX
    rw [e1]
    exact itemsBy_put (f := spI (bs (hintInner ds))) (enc := spBytes) (good := fun x => spOkB x = true) (fun a x l ha hg hh => spI_put a x l ha hg hh) ds _ [] l1.1 hx l1.2
  have l2 := tail_le l1.1 l1.2
  have hend := (tail_nil l2.1).1 l2.2
  unfold readHintI
  rw [hu]
  dsimp only
  rw [e2, if_pos ⟨by omega, by rw [hend]; simp [rDone], hok⟩]
theorem hsT_put {s : ByteArray} {ds : List SpotD} (h : IsHint s ds) : hsT s = (bs (hintInner ds), false) := by
  unfold hsT
  rw [(unsealed_hint h).1]
theorem readHintS_put {s : ByteArray} {ds : List SpotD} (h : IsHint s ds) : readHintS s = some ds := by
  obtain ⟨hok, _⟩ := isHint_parts h
  obtain ⟨hn, hx⟩ := dirOk_parts hok
  have h0 : tail_ (bs (hintInner ds)) 0 = varBytes ds.length ++ (spsBytes ds ++ []) := by rw [tail_zero, ub_bs, hintInner, List.append_nil]
  have e1 : hsN s = (ds.length, 0 + (varBytes ds.length).length, false) := by
    unfold hsN
    rw [hsT_put h]
    exact rNum_put (by omega) h0
  have l1 := tail_le (Nat.zero_le _) h0
  have e2 : hsX s = (ds, 0 + (varBytes ds.length).length + (spsBytes ds).length, false) := by
    unfold hsX
    rw [e1, hsT_put h, show min ds.length 300 = ds.length by omega]
    exact itemsBy_put (f := spS (bs (hintInner ds))) (enc := spBytes) (good := fun x => spOkB x = true) (fun a x l ha hg hh => spS_put a x l ha hg hh) ds _ [] l1.1 hx l1.2
  unfold readHintS
  rw [e2, if_pos ⟨rfl, h⟩]
theorem readHintS_is {s : ByteArray} {ds : List SpotD} (h : readHintS s = some ds) : IsHint s ds := by
  unfold readHintS at h
  split at h
  · rename_i hc
    obtain rfl := Option.some.inj h
    exact hc.2
  · cases h
theorem readHintI_is {s : ByteArray} {ds : List SpotD} (h : readHintI s = some ds) : IsHint s ds := by
  unfold readHintI at h
  split at h
  · cases h
  · rename_i t ht
    split at h
    · rename_i hc
      obtain rfl := Option.some.inj h
      obtain ⟨_, hd, hok⟩ := hc
      simp only [rDone, Bool.and_eq_true, Bool.not_eq_true', decide_eq_true_eq] at hd
      obtain ⟨hb, hend⟩ := hd
      have a1 : (hiN (bs t)).2.1 ≤ (bs t).size := (rNum_le (bs t) 0 false (Nat.zero_le _)).2.1
      obtain ⟨b1, hlen, t2⟩ := itemsBy_took (f := spI (bs t)) (enc := spBytes) (fun a x a' ha hh => spI_took a x a' ha hh) (hiN (bs t)).1 (hiN (bs t)).2.1 (hiN (bs t)).2.2 (hiX (bs t)).1 (hiX (bs t)).2.1 a1 (Prod.ext rfl (Prod.ext rfl hb))
      obtain ⟨_, _, t1⟩ := rNum_took (s := bs t) (a := 0) (Nat.zero_le _) (n := (hiN (bs t)).1) (a' := (hiN (bs t)).2.1) (b := false) (Prod.ext rfl (Prod.ext rfl b1))
      have := (t1.trans t2).2
      rw [tail_zero, ub_bs, (tail_nil t2.1).2 hend, List.append_nil] at this
      have hin : hintInner (hiX (bs t)).1 = t := by rw [hintInner, hlen]; exact this.symm
      unfold IsHint hintText
      rw [if_pos hok, hin, ← unsealed_took ht]
    · cases h
theorem readHint_same (s : ByteArray) : readHintI s = readHintS s := by
  cases h : readHintS s with
  | some d => exact readHintI_put (readHintS_is h)
  | none =>
    cases h2 : readHintI s with
    | none => rfl
    | some d => rw [readHintS_put (readHintI_is h2)] at h; cases h
end Go.Proofs.YtanebcllcgchcaaGreatDoor

namespace Go.Proofs.YtanebcllcgchcaaGreatDoor
set_option linter.unusedVariables false
set_option linter.unusedSimpArgs false
open Go.RowKit
attribute [local go_sem] bs_size List.length_cons List.length_nil List.length_append

def spVals (x : SpotD) : List Value := [.string x.1, .int .i64 x.2.1, .int .i64 x.2.2.1, .int .i64 x.2.2.2]
def spFlat (ds : List SpotD) : List Value := (ds.map spVals).flatten
theorem spFlat_len (ds : List SpotD) : (spFlat ds).length = ds.length * 4 := flat_len (f := spVals) (m := 4) (fun _ => rfl) ds
theorem spFlat_snoc (ds : List SpotD) (x : SpotD) : spFlat (ds ++ [x]) = spFlat ds ++ spVals x := by simp [spFlat]
/-- A slice's value reads as these spots. -/
def SpRow (w : World) (A : Option Addr) (c : Nat) (ds : List SpotD) : Prop :=
  ds.length ≤ c ∧ c ≤ 9223372036854775807 ∧ (∀ x ∈ ds, x.1.size ≤ 9223372036854775807) ∧
  (0 < ds.length → ∃ ad : Addr, A = some ad ∧ ad.block < w.heap.size ∧ ∀ j x, ds[j]? = some x → w.cell? (ad.add (j * 4)) = some (.string x.1) ∧ w.cell? ⟨(ad.add (j * 4)).block, (ad.add (j * 4)).off + 1, none⟩ = some (.int .i64 x.2.1) ∧ w.cell? ⟨(ad.add (j * 4)).block, (ad.add (j * 4)).off + 2, none⟩ = some (.int .i64 x.2.2.1) ∧ w.cell? ⟨(ad.add (j * 4)).block, (ad.add (j * 4)).off + 3, none⟩ = some (.int .i64 x.2.2.2))
theorem SpRow.below {w w' : World} {A : Option Addr} {c : Nat} {ds : List SpotD} (h : SpRow w A c ds) (hb : Below w.heap.size w w') : SpRow w' A c ds :=
  ⟨h.1, h.2.1, h.2.2.1, fun hp => by
    obtain ⟨ad, e, hl, hc⟩ := h.2.2.2 hp
    refine ⟨ad, e, Nat.lt_of_lt_of_le hl hb.size, fun j x hx => ?_⟩
    obtain ⟨h0, h1, h2, h3⟩ := hc j x hx
    have q : (ad.add (j * 4)).block < w.heap.size := by rw [add_block]; exact hl
    exact ⟨(hb.cell q).trans h0, (hb.cell (by show (ad.add (j * 4)).block < _; exact q)).trans h1, (hb.cell (by show (ad.add (j * 4)).block < _; exact q)).trans h2, (hb.cell (by show (ad.add (j * 4)).block < _; exact q)).trans h3⟩⟩
theorem SpRow.len {w : World} {A : Option Addr} {c : Nat} {ds : List SpotD} (h : SpRow w A c ds) : ds.length ≤ 9223372036854775807 := Nat.le_trans h.1 h.2.1
theorem SpRow.at_ {w : World} {A : Option Addr} {c : Nat} {ds : List SpotD} (h : SpRow w A c ds) {k : Nat} (hk : k < ds.length) :
    ∃ (ad : Addr) (x : SpotD), A = some ad ∧ Hid (ds[k]? = some x) ∧ x.1.size ≤ 9223372036854775807 ∧ w.cell? (ad.add (k * 4)) = some (.string x.1) ∧ w.cell? ⟨(ad.add (k * 4)).block, (ad.add (k * 4)).off + 1, none⟩ = some (.int .i64 x.2.1) ∧ w.cell? ⟨(ad.add (k * 4)).block, (ad.add (k * 4)).off + 2, none⟩ = some (.int .i64 x.2.2.1) ∧ w.cell? ⟨(ad.add (k * 4)).block, (ad.add (k * 4)).off + 3, none⟩ = some (.int .i64 x.2.2.2) := by
  obtain ⟨ad, e, _, hc⟩ := h.2.2.2 (by omega)
  have hx : ds[k]? = some ds[k] := List.getElem?_eq_getElem hk
  exact ⟨ad, _, e, hx, h.2.2.1 _ (List.mem_of_getElem? hx), hc k _ hx⟩
theorem spAt_bad {ds : List SpotD} {i : Nat} {x : SpotD} (h : ds[i]? = some x) (hx : spOkB x = false) : spAt ds i = false := by
  unfold spAt
  rw [h]
  simp [hx]
theorem spAt_zero {ds : List SpotD} {x : SpotD} (h : ds[0]? = some x) (hx : spOkB x = true) : spAt ds 0 = true := by
  unfold spAt
  rw [h]
  simp [hx]
theorem spAt_succ {ds : List SpotD} {j : Nat} {x p : SpotD} (h : ds[j + 1]? = some x) (hp : ds[j]? = some p) (hx : spOkB x = true) : spAt ds (j + 1) = Op.bytesLess p.1.toList x.1.toList := by
  unfold spAt
  rw [h]
  simp [hx, hp]
theorem spAt_prev {ds : List SpotD} {j : Nat} {x p : SpotD} (h : ds[j + 1]? = some x) (hp : ds[j]? = some p) (hl : Op.bytesLess p.1.toList x.1.toList = false) : spAt ds (j + 1) = false := by
  unfold spAt
  rw [h]
  simp [hp, hl]
theorem dirOk_bad {ds : List SpotD} {i : Nat} (hi : i < ds.length) (h : spAt ds i = false) : dirOkB ds = false := by
  unfold dirOkB
  rw [List.all_eq_false.2 ⟨i, List.mem_range.2 hi, by simp [h]⟩]
  rfl
theorem dirOk_all {ds : List SpotD} (h : ∀ j, j < ds.length → spAt ds j = true) : dirOkB ds = decide (ds.length ≤ 200) := by
  unfold dirOkB
  rw [List.all_eq_true.2 fun i hi => h i (List.mem_range.1 hi)]
  simp
theorem spOk_1 {x : SpotD} (h : inR (x.1.size : Int) 1 20 = false) : spOkB x = false := by unfold spOkB; rw [h]; rfl
theorem spOk_2 {x : SpotD} (h : inR x.2.1 0 99 = false) : spOkB x = false := by unfold spOkB; rw [h]; simp
theorem spOk_3 {x : SpotD} (h : inR x.2.2.1 0 20000 = false) : spOkB x = false := by unfold spOkB; rw [h]; simp
theorem spOk_4 {x : SpotD} (h : inR x.2.2.2 0 1000000000 = false) : spOkB x = false := by unfold spOkB; rw [h]; simp
theorem spOk_yes {x : SpotD} (h1 : inR (x.1.size : Int) 1 20 = true) (h2 : inR x.2.1 0 99 = true) (h3 : inR x.2.2.1 0 20000 = true) (h4 : inR x.2.2.2 0 1000000000 = true) : spOkB x = true := by unfold spOkB; rw [h1, h2, h3, h4]; rfl
theorem sp_step {ds : List SpotD} {i : Nat} (h : ∀ j, j < i → spAt ds j = true) (hi : spAt ds i = true) : ∀ j, j < i + 1 → spAt ds j = true := by
  intro j hj
  by_cases e : j = i
  · subst e; exact hi
  · exact h j (by omega)
theorem within_sp (n lo hi : Int) (w : World) {b : Bool} (h : inR n lo hi = b) : Calls Tryz.prog 16 #[.int .i64 n, .int .i64 lo, .int .i64 hi] w fun e w' => e = .returned (.bool b) ∧ w' = w := by
  subst h
  exact (impl_within_calls n lo hi w).mono fun e w' ⟨he, hw⟩ => ⟨he, hw.symm⟩
theorem l01In_is (n lo hi : Int) (w : World) {b : Bool} (h : inR n lo hi = b) : Calls Tryz.prog 19 #[.int .i64 n, .int .i64 lo, .int .i64 hi] w fun e w' => e = .returned (.bool b) ∧ w' = w := by
  subst h
  exact (spec_l01In_calls n lo hi w).mono fun e w' ⟨he, hw⟩ => ⟨he, hw.symm⟩
theorem impl_keyOk_at (s : ByteArray) (w : World) (hs : s.size ≤ 9223372036854775807) {b : Bool} (h : inR (s.size : Int) 1 20 = b) : Calls Tryz.prog 97 #[.string s] w fun e w' => e = .returned (.bool b) ∧ w' = w := by
  subst h
  go_enter Tryz.func97, Tryz.ntmps97
  go_wp2_with (go_at_call 16; refine (impl_within_calls _ _ _ _).mono ?_; rintro e w' ⟨rfl, rfl⟩)
  go_ret
  exact ⟨rfl, rfl⟩
end Go.Proofs.YtanebcllcgchcaaGreatDoor

namespace Go.Proofs.YtanebcllcgchcaaGreatDoor
set_option linter.unusedVariables false
set_option linter.unusedSimpArgs false
open Go.RowKit
attribute [local go_sem] bs_size List.length_cons List.length_nil List.length_append

theorem info_sp : (Tryz.prog.info? 52).map (fun i => (i.zero, i.size, i.bytes)) = some (some (.agg #[.string ⟨#[]⟩, .int .i64 0, .int .i64 0, .int .i64 0]), 4, 40) := by kernel_rfl
/-- A row of spots of the call's own, made from block B on. -/
def SpOwn (w : World) (B : Nat) (v : Value) (ds : List SpotD) : Prop := w.ownsRow B 52 4 v ds.length (spFlat ds)
theorem SpOwn.row {w : World} {B : Nat} {v : Value} {ds : List SpotD} (h : SpOwn w B v ds) (hs : ∀ x ∈ ds, x.1.size ≤ 9223372036854775807) : ∃ A c, v = .slice A ds.length c ∧ SpRow w A c ds := by
  rcases own_cells (f := spVals) (m := 4) (fun _ => rfl) h with ⟨rfl, rfl⟩ | ⟨g, cap, rfl, _, hg, hn, hm, hc⟩
  · exact ⟨none, 0, rfl, by simp, by simp, hs, fun h0 => by simp at h0⟩
  · refine ⟨_, cap, rfl, hn, hm, hs, fun _ => ⟨_, rfl, hg, fun j x hx => ?_⟩⟩
    rw [add_plain]
    exact ⟨hc j x 0 hx (by omega), hc j x 1 hx (by omega), hc j x 2 hx (by omega), hc j x 3 hx (by omega)⟩
theorem SpOwn.below {w w' : World} {B : Nat} {v : Value} {ds : List SpotD} (h : SpOwn w B v ds) (hb : Below w.heap.size w w') : SpOwn w' B v ds := own_keep h hb
end Go.Proofs.YtanebcllcgchcaaGreatDoor

namespace Go.Proofs.YtanebcllcgchcaaGreatDoor
set_option linter.unusedVariables false
set_option linter.unusedSimpArgs false
open Go.RowKit
attribute [local go_sem] bs_size List.length_cons List.length_nil List.length_append

def ltSp (y x : SpotD) : Bool := Op.bytesLess y.1.toList x.1.toList
def gtSp (y x : SpotD) : Bool := !(Op.bytesLess y.1.toList x.1.toList || y.1.toList == x.1.toList)
def setLo (ds : List SpotD) (x : SpotD) : List SpotD := ds.filter fun y => ltSp y x
def setMid (ds : List SpotD) (x : SpotD) (g : Bool) : List SpotD := setLo ds x ++ (if g = true then [] else [x])
def setB (ds : List SpotD) (x : SpotD) (g : Bool) : List SpotD := setMid ds x g ++ ds.filter fun y => gtSp y x
theorem setB_len (ds : List SpotD) (x : SpotD) (g : Bool) : (setB ds x g).length ≤ ds.length + 1 := by
  have h : (ds.filter fun y => ltSp y x).length + (ds.filter fun y => gtSp y x).length ≤ ds.length := by
    induction ds with
    | nil => simp
    | cons y ds ih =>
      rw [List.filter_cons, List.filter_cons, List.length_cons]
      by_cases hl : ltSp y x = true
      · have hg : gtSp y x = false := by
          unfold gtSp ltSp at *
          rw [hl]
          rfl
        rw [if_pos hl, if_neg (by rw [hg]; exact Bool.false_ne_true), List.length_cons]
        omega
      · rw [if_neg hl]
        split
        · rw [List.length_cons]; omega
        · omega
  unfold setB setMid setLo
  cases g <;> simp <;> omega
theorem setB_mem {ds : List SpotD} {x y : SpotD} {g : Bool} (h : y ∈ setB ds x g) : y ∈ ds ∨ y = x := by
  unfold setB setMid setLo at h
  rcases List.mem_append.1 h with h | h
  · rcases List.mem_append.1 h with h | h
    · exact .inl (List.mem_filter.1 h).1
    · split at h
      · simp at h
      · exact .inr (List.mem_singleton.1 h)
  · exact .inl (List.mem_filter.1 h).1
theorem filter_yes {p : SpotD → Bool} {ds : List SpotD} {i : Nat} {y : SpotD} (h : ds[i]? = some y) (hp : p y = true) : (ds.take (i + 1)).filter p = (ds.take i).filter p ++ [y] := by
  rw [take_snoc h, List.filter_append]
  simp [hp]
theorem filter_no {p : SpotD → Bool} {ds : List SpotD} {i : Nat} {y : SpotD} (h : ds[i]? = some y) (hp : p y = false) : (ds.take (i + 1)).filter p = (ds.take i).filter p := by
  rw [take_snoc h, List.filter_append]
  simp [hp]
theorem SpOwn.form {w : World} {B : Nat} {v : Value} {ds : List SpotD} (h : SpOwn w B v ds) : ∃ A c, v = .slice A ds.length c := by
  rcases h.2 with ⟨rfl, h0⟩ | ⟨g, cap, cur, rfl, _⟩
  · exact ⟨none, 0, by rw [h0]⟩
  · exact ⟨_, _, rfl⟩
theorem SpOwn.lt {w : World} {B : Nat} {v : Value} {ds : List SpotD} (h : SpOwn w B v ds) : ∀ k, v.ownBlock = some k → B ≤ k ∧ k < w.heap.size := World.ownsRow.lt h
theorem SpOwn.mono {w : World} {B B' : Nat} {v : Value} {ds : List SpotD} (h : SpOwn w B v ds) (hb : B' ≤ B) : SpOwn w B' v ds := own_low h hb
/-- The spot in its box, and the row under way. -/
structure SX (w : World) (x : SpotD) (v : Value) (ds : List SpotD) (W : World) : Prop where
  b : Below (w.heap.size + 1) (w.alloc (.cells (spVals x).toArray 52)) W
  own : SpOwn W (w.heap.size + 1) v ds
section
variable {w W W' : World} {x : SpotD} {v : Value} {ds : List SpotD}
theorem SX.from_ (h : SX w x v ds W) : Below w.heap.size w W := ((Below.refl _ _).alloc (Nat.le_refl _) _).trans (h.b.mono (by omega))
theorem SX.size (h : SX w x v ds W) : w.heap.size + 1 ≤ W.heap.size := by have := h.b.size; simpa using this
theorem SX.box (h : SX w x v ds W) : W.heap[w.heap.size]? = some (.cells (spVals x).toArray 52 (0, 0)) := (h.b.block _ (by omega)).trans (blk_new w _)
theorem SX.go (h : SX w x v ds W) (hb : Below W.heap.size W W') : SX w x v ds W' := ⟨h.b.trans (hb.mono h.size), own_keep h.own hb⟩
theorem SX.put {v' : Value} {ds' : List SpotD} (h : SX w x v ds W) (hg : W.grownBy W' v.ownBlock) (ho : SpOwn W' (w.heap.size + 1) v' ds') : SX w x v' ds' W' := ⟨h.b.grown hg h.size fun k e => (h.own.lt k e).1, ho⟩
end
end Go.Proofs.YtanebcllcgchcaaGreatDoor

namespace Go.Proofs.YtanebcllcgchcaaGreatDoor
set_option linter.unusedVariables false
set_option linter.unusedSimpArgs false
open Go.RowKit

/-- The batches of a segment of a disk. -/
def batsAt (fs : List FiD) (n : Nat) : List PlD := match segPl (n : Int) ((fileB fs (segNm (n : Int))).getD ⟨#[]⟩) with
  | none => []
  | some (_, _, pls) => pls
def seqsAt (fs : List FiD) (n : Nat) : List Int := (batsAt fs n).map fun p => p.1.1
def riseGo : Int → List Int → Option Int
  | last, [] => some last
  | last, q :: qs => if q ≤ last then none else riseGo q qs
theorem riseGo_append : ∀ (a b : List Int) (l : Int), riseGo l (a ++ b) = (riseGo l a).bind fun m => riseGo m b
  | [], b, l => rfl
  | q :: a, b, l => by
    rw [List.cons_append, riseGo, riseGo]
    split
    · rfl
    · exact riseGo_append a b q
def riseL (L : List Nat) (sq : Nat → List Int) : Bool := !L.isEmpty && (riseGo (-1) ((L.map sq).flatten)).isSome
def riseB (fs : List FiD) : Bool := riseL (segsB fs) (seqsAt fs)
/-- Behind i segments, and j batches of the next, the last number is l. -/
def RiseAt (L : List Nat) (sq : Nat → List Int) (i j : Nat) (l : Int) : Prop := riseGo (-1) ((((L).take i).map (sq)).flatten ++ (match (L)[i]? with
  | none => []
  | some n => (sq n).take j)) = some l
theorem rise_start (L : List Nat) (sq : Nat → List Int) : RiseAt L sq 0 0 (-1) := by
  unfold RiseAt
  cases (L)[0]? <;> simp [riseGo]
theorem rise_in {L : List Nat} {sq : Nat → List Int} {i j n : Nat} {l q : Int} (h : RiseAt L sq i j l) (hi : (L)[i]? = some n) (hq : (sq n)[j]? = some q) (hlt : ¬ q ≤ l) : RiseAt L sq i (j + 1) q := by
  unfold RiseAt at h ⊢
  rw [hi] at h ⊢
  dsimp only at h ⊢
  rw [take_snoc hq, ← List.append_assoc, riseGo_append, h]
  simp [riseGo, hlt]
theorem rise_next {L : List Nat} {sq : Nat → List Int} {i j n : Nat} {l : Int} (h : RiseAt L sq i j l) (hi : (L)[i]? = some n) (hj : (sq n).length ≤ j) : RiseAt L sq (i + 1) 0 l := by
  unfold RiseAt at h ⊢
  rw [hi] at h
  dsimp only at h
  rw [List.take_of_length_le hj] at h
  rw [take_snoc hi, List.map_append, List.flatten_append]
  cases (L)[i + 1]? <;> simpa using h
theorem rise_end {L : List Nat} {sq : Nat → List Int} {i : Nat} {l : Int} (h : RiseAt L sq i 0 l) (hi : (L).length ≤ i) : riseL L sq = !(L).isEmpty := by
  unfold RiseAt at h
  rw [List.getElem?_eq_none hi, List.take_of_length_le hi] at h
  simp only [List.append_nil] at h
  unfold riseL
  rw [h]
  simp
theorem rise_bad {L : List Nat} {sq : Nat → List Int} {i j n : Nat} {l q : Int} (h : RiseAt L sq i j l) (hi : (L)[i]? = some n) (hq : (sq n)[j]? = some q) (hle : q ≤ l) : riseL L sq = false := by
  obtain ⟨hil, e⟩ := List.getElem?_eq_some_iff.1 hi
  obtain ⟨hjl, e2⟩ := List.getElem?_eq_some_iff.1 hq
  have hs : L = L.take i ++ (n :: L.drop (i + 1)) := by
    rw [← e, ← List.drop_eq_getElem_cons hil, List.take_append_drop]
  have hs2 : sq n = (sq n).take j ++ (q :: (sq n).drop (j + 1)) := by
    rw [← e2, ← List.drop_eq_getElem_cons hjl, List.take_append_drop]
  unfold RiseAt at h
  rw [hi] at h
  dsimp only at h
  have : riseGo (-1) ((L.map sq).flatten) = none := by
    rw [hs, List.map_append, List.flatten_append, List.map_cons, List.flatten_cons, hs2, List.append_assoc, ← List.append_assoc, riseGo_append, h]
    simp [riseGo, hle]
  unfold riseL
  rw [this]
  simp
end Go.Proofs.YtanebcllcgchcaaGreatDoor

namespace Go.Proofs.YtanebcllcgchcaaGreatDoor
set_option linter.unusedVariables false
set_option linter.unusedSimpArgs false
open Go.RowKit

def dirCh (n a q : Int) (out : List SpotD) (c : ChD) : List SpotD := setB out (c.1, n, a, q) c.2.2
def dirPl (n : Int) (out : List SpotD) (p : PlD) : List SpotD := p.1.2.foldl (dirCh n (p.2.1 : Int) p.1.1) out
def dirSeg (fs : List FiD) (out : List SpotD) (n : Nat) : List SpotD := (batsAt fs n).foldl (dirPl (n : Int)) out
def dirB (fs : List FiD) : List SpotD := (segsB fs).foldl (dirSeg fs) []
/-- Texts of a list of spots are small. -/
def SpSmall (ds : List SpotD) : Prop := ∀ x ∈ ds, x.1.size ≤ 9223372036854775807
theorem setB_small {ds : List SpotD} {x : SpotD} {g : Bool} (h : SpSmall ds) (hx : x.1.size ≤ 9223372036854775807) : SpSmall (setB ds x g) := fun y hy => by
  rcases setB_mem hy with hy | rfl
  · exact h y hy
  · exact hx
theorem foldl_snoc {α β : Type} (f : β → α → β) (b : β) (l : List α) {i : Nat} {x : α} (h : l[i]? = some x) : (l.take (i + 1)).foldl f b = f ((l.take i).foldl f b) x := by
  rw [take_snoc h, List.foldl_append]
  rfl
/-- Each batch of a segment has its text; its size is the frame's. -/
theorem placedGo_text : ∀ (rs : List ByteArray) (last : Option Int) (a : Nat), (∀ x ∈ rs, 1 ≤ x.size ∧ x.size ≤ 9000) → ∀ p ∈ placedGo last a rs, ∃ r, batText p.1 = some (ub r) ∧ (1 ≤ r.size ∧ r.size ≤ 9000) ∧ p.2.2 = frameLen r
  | [], last, a, _, p, hp => by simp [placedGo] at hp
  | r :: rs, last, a, h, p, hp => by
    have ih := fun b => placedGo_text rs (some b) (a + frameLen r) (fun x hx => h x (by simp [hx])) p
    have go : ∀ b : BatD, readBatS r = some b → p ∈ (b, a, frameLen r) :: placedGo (some b.1) (a + frameLen r) rs → ∃ r, batText p.1 = some (ub r) ∧ (1 ≤ r.size ∧ r.size ≤ 9000) ∧ p.2.2 = frameLen r := by
      intro b hb hp
      rcases List.mem_cons.1 hp with rfl | hp
      · exact ⟨r, readBatS_is hb, h r (by simp), rfl⟩
      · exact ih b.1 hp
    cases hb : readBatS r with
    | none => rw [placedGo_none hb] at hp; simp at hp
    | some b =>
      cases last with
      | none => rw [placedGo_first hb] at hp; exact go b hb hp
      | some q =>
        by_cases hq : b.1 ≤ q
        · rw [placedGo_low hb hq] at hp; simp at hp
        · rw [placedGo_next hb hq] at hp; exact go b hb hp
/-- Where the batch behind j of them begins. -/
def atOf (a : Nat) (pls : List PlD) (j : Nat) : Nat := a + ((pls.take j).map fun p => p.2.2).sum
theorem atOf_zero (a : Nat) (pls : List PlD) : atOf a pls 0 = a := by simp [atOf]
theorem atOf_step {a : Nat} {pls : List PlD} {j : Nat} {p : PlD} (h : pls[j]? = some p) : atOf a pls (j + 1) = atOf a pls j + p.2.2 := by
  unfold atOf
  rw [take_snoc h, List.map_append, List.sum_append]
  simp
  omega
theorem placedGo_at : ∀ (rs : List ByteArray) (last : Option Int) (a j : Nat) (p : PlD), (placedGo last a rs)[j]? = some p → p.2.1 = atOf a (placedGo last a rs) j
  | [], last, a, j, p, h => by simp [placedGo] at h
  | r :: rs, last, a, j, p, h => by
    have go : ∀ b : BatD, ((b, a, frameLen r) :: placedGo (some b.1) (a + frameLen r) rs)[j]? = some p → p.2.1 = atOf a ((b, a, frameLen r) :: placedGo (some b.1) (a + frameLen r) rs) j := by
      intro b hp
      cases j with
      | zero =>
        obtain rfl : (b, a, frameLen r) = p := by simpa using hp
        rw [atOf_zero]
      | succ j =>
        have := placedGo_at rs (some b.1) (a + frameLen r) j p (by simpa using hp)
        rw [this]
        unfold atOf
        rw [List.take_succ_cons, List.map_cons, List.sum_cons]
        dsimp only
        omega
    cases hb : readBatS r with
    | none => rw [placedGo_none hb] at h; simp at h
    | some b =>
      cases last with
      | none => rw [placedGo_first hb] at h ⊢; exact go b h
      | some q =>
        by_cases hq : b.1 ≤ q
        · rw [placedGo_low hb hq] at h; simp at h
        · rw [placedGo_next hb hq] at h ⊢; exact go b h
theorem segPl_pls {n : Int} {s : ByteArray} {f l : Nat} {pls : List PlD} (h : segPl n s = some (f, l, pls)) : headText n (f : Int) ≠ none ∧ (∀ L, headText n (f : Int) = some L → l = L.length) ∧ (∀ p ∈ pls, ∃ r, batText p.1 = some (ub r) ∧ (1 ≤ r.size ∧ r.size ≤ 9000) ∧ p.2.2 = frameLen r) ∧ ∀ j p, pls[j]? = some p → p.2.1 = atOf l pls j := by
  have hh : headOfB n s = some (f, l) := by
    have := segPl_head n s
    rw [h] at this
    exact this.symm
  obtain ⟨r, rs, hu, hl, hs⟩ := segPl_some hh
  rw [h] at hs
  simp only [Option.some.injEq, Prod.mk.injEq, true_and] at hs
  obtain ⟨_, _, hsm⟩ := unframeB_le s
  rw [hu] at hsm
  rw [headOf_cons hu] at hh
  cases hd : hdI n r with
  | none => rw [hd] at hh; cases hh
  | some f' =>
    rw [hd] at hh
    simp only [Option.some.injEq, Prod.mk.injEq] at hh
    obtain ⟨rfl, _⟩ := hh
    have hfr := head_frame hd
    have hr := hsm r (by simp)
    refine ⟨?_, fun L hL => by rw [hl]; exact head_len hd hL, ?_, ?_⟩
    · rw [hfr, frameB_yes (by rw [ub_length]; exact hr)]
      simp
    · rw [hs]; exact placedGo_text rs none l fun x hx => hsm x (by simp [hx])
    · rw [hs]; exact fun j p hp => placedGo_at rs none l j p hp
end Go.Proofs.YtanebcllcgchcaaGreatDoor

namespace Go.Proofs.YtanebcllcgchcaaGreatDoor
set_option linter.unusedVariables false
set_option linter.unusedSimpArgs false
open Go.RowKit

/-- The head of segment 0, as a file. -/
structure Head0 (s : ByteArray) : Prop where
  text : headText 0 0 = some (ub s)
  pl : segPl ((0 : Nat) : Int) s = some (0, s.size, [])
  pos : 1 ≤ s.size
  small : s.size ≤ 100
theorem head0 : ∃ s : ByteArray, Head0 s := by
  have h1 := headBytes_len (n := 0) (f := 0) (by omega) (by omega)
  have hh : IsHead ((0 : Nat) : Int) (bs (headBytes 0 0)) 0 := ⟨⟨by omega, by omega⟩, by omega, by rw [ub_bs]; rfl⟩
  have hsz : (bs (headBytes 0 0)).size = (headBytes 0 0).length := bs_size _
  have hr : 1 ≤ (bs (headBytes 0 0)).size ∧ (bs (headBytes 0 0)).size ≤ 9000 := by omega
  have hfr := frB_is hr
  rw [ub_bs] at hfr
  have hv := var_len (n := (headBytes 0 0).length) (by omega)
  have h4 := sum4_len (headBytes 0 0)
  have hl : (frB (bs (headBytes 0 0))).length ≤ 100 ∧ 1 ≤ (frB (bs (headBytes 0 0))).length := by
    unfold frB
    rw [hsz, ub_bs, List.length_append, List.length_append]
    omega
  have hst : SegText 0 0 (bs (headBytes 0 0)) [] [] (bs (frB (bs (headBytes 0 0)))) := ⟨hh, trivial, by rw [ub_bs, frs_cons]; simp [frs], by rw [bs_size]; omega⟩
  obtain ⟨pls, e1, e2, e3⟩ := hst.read
  obtain rfl : pls = [] := List.map_eq_nil_iff.1 e2
  have e4 : frameLen (bs (headBytes 0 0)) = (bs (frB (bs (headBytes 0 0)))).size := e3
  rw [e4] at e1
  exact ⟨_, by have := headText_yes (n := 0) (f := 0) (by omega) (by omega); rw [ub_bs, ← hfr]; exact this, e1, by rw [bs_size]; omega, by rw [bs_size]; omega⟩
theorem segNm_zero : segNm 0 = ⟨#[98, 48]⟩ := by
  have h := segNm_yes (n := 0) (by omega)
  have e : bs (Lib.itoa ((0 : Nat) : Int)) = ⟨#[48]⟩ := itoa_zero
  rw [e] at h
  rw [show (0 : Int) = ((0 : Nat) : Int) from rfl, h]
  decide
/-- The formatted disk. -/
def fs0 (s : ByteArray) : List FiD := [(segNm 0, s, (s.size : Int))]
section
variable {s : ByteArray}
theorem fs0_ok (h : Head0 s) : diskOkB (fs0 s) = true := by
  have h1 := h.small
  have h2 : fiOkB (segNm 0, s, (s.size : Int)) = true := fiOk_ok (by rw [segNm_zero]; decide) (by omega) (by unfold inR; simp)
  rw [diskOk_all fun j hj => ?_]
  · rfl
  · have hj0 : j = 0 := by simp [fs0] at hj; omega
    subst hj0
    exact fiAt_zero (x := (segNm 0, s, (s.size : Int))) rfl h2
theorem fs0_file : fileB (fs0 s) (segNm 0) = some s := by unfold fs0 fileB; rw [if_pos rfl]
theorem fs0_none {n : Nat} (h1 : 1 ≤ n) (h2 : n ≤ 99) : fileB (fs0 s) (segNm (n : Int)) = none := by
  unfold fs0 fileB
  rw [if_neg fun e => ?_]
  · rfl
  · have := segNm_inj (n := 0) (m := n) (by omega) h2 e
    omega
theorem fs0_hdAt {n : Nat} (h1 : 1 ≤ n) (h2 : n ≤ 99) : hdAt (fs0 s) n = none := by unfold hdAt; rw [fs0_none h1 h2]; rfl
theorem fs0_hd0 (h : Head0 s) : hdAt (fs0 s) 0 = some (some 0) := by
  unfold hdAt
  rw [show segNm ((0 : Nat) : Int) = segNm 0 from rfl, fs0_file]
  show some ((headOfB ((0 : Nat) : Int) s).map Prod.fst) = _
  rw [← segPl_head, h.pl]
  rfl
theorem fs0_least (h : Head0 s) : ∀ k, k ≤ 100 → leastB (fs0 s) k = 0
  | 0, _ => rfl
  | k + 1, hk => by
    unfold leastB hdFrom
    rw [fs0_least h k (by omega)]
    rcases Nat.eq_zero_or_pos k with rfl | h1
    · rw [fs0_hd0 h]; rfl
    · rw [fs0_hdAt h1 (by omega)]; rfl
theorem fs0_outs : ∀ k, 1 ≤ k → k ≤ 100 → outsB (fs0 s) 0 k = [0]
  | k + 1, _, hk => by
    unfold outsB
    rcases Nat.eq_zero_or_pos k with rfl | h1
    · rw [if_pos ⟨by omega, by unfold hasF; rw [show segNm ((0 : Nat) : Int) = segNm 0 from rfl, fs0_file]; rfl⟩]; rfl
    · rw [if_neg (fun hc => by have := hc.2; unfold hasF at this; rw [fs0_none h1 (by omega)] at this; cases this)]
      exact fs0_outs k h1 (by omega)
theorem fs0_segs (h : Head0 s) : segsB (fs0 s) = [0] := by
  have e : allB (fs0 s) = [0] := by unfold allB; rw [fs0_least h 100 (Nat.le_refl _), fs0_outs 100 (by omega) (Nat.le_refl _)]
  unfold segsB
  rw [e, if_pos ⟨fs0_ok h, by
    show (!badF (fs0 s) 0 && true) = true
    unfold badF
    rw [fs0_hd0 h]
    rfl⟩]
theorem fs0_bats (h : Head0 s) : batsAt (fs0 s) 0 = [] := by
  unfold batsAt
  rw [show segNm ((0 : Nat) : Int) = segNm 0 from rfl, fs0_file]
  show (match segPl ((0 : Nat) : Int) s with | none => [] | some (_, _, pls) => pls) = []
  rw [h.pl]
theorem fs0_rise (h : Head0 s) : riseB (fs0 s) = true := by
  unfold riseB
  rw [fs0_segs h]
  unfold riseL seqsAt
  show (true && (riseGo (-1) (((batsAt (fs0 s) 0).map fun p => p.1.1) ++ [])).isSome) = true
  rw [fs0_bats h]
  rfl
theorem fs0_dir (h : Head0 s) : dirB (fs0 s) = [] := by
  unfold dirB
  rw [fs0_segs h]
  show dirSeg (fs0 s) [] 0 = []
  unfold dirSeg
  rw [fs0_bats h]
  rfl
theorem fs0_small (h : Head0 s) : ∀ x ∈ fs0 s, x.1.size ≤ 9223372036854775807 ∧ x.2.1.size ≤ 9223372036854775807 := fun x hx => by
  have h1 := h.small
  obtain rfl := List.mem_singleton.1 hx
  refine ⟨?_, by show s.size ≤ _; omega⟩
  show (segNm 0).size ≤ _
  rw [segNm_zero]
  decide
end
end Go.Proofs.YtanebcllcgchcaaGreatDoor

namespace Go.Proofs.YtanebcllcgchcaaGreatDoor
set_option linter.unusedVariables false
set_option linter.unusedSimpArgs false
open Go.RowKit
attribute [local go_sem] bs_size List.length_cons List.length_nil List.length_append

/-- Every file is kept whole. -/
def keptF (fs : List FiD) : Bool := fs.all fun x => decide (x.2.2 = (x.2.1.size : Int))
def allKeptB (fs : List FiD) : Bool := diskOkB fs && keptF fs
theorem kept_all {fs : List FiD} (h : ∀ i y, i < fs.length → fs[i]? = some y → y.2.2 = (y.2.1.size : Int)) : keptF fs = true := by
  unfold keptF
  rw [List.all_eq_true]
  intro x hx
  obtain ⟨i, hi⟩ := List.getElem?_of_mem hx
  exact decide_eq_true (h i x (List.getElem?_eq_some_iff.1 hi).1 hi)
theorem kept_not {fs : List FiD} {i : Nat} {x : FiD} (hi : fs[i]? = some x) (hx : x.2.2 ≠ (x.2.1.size : Int)) : keptF fs = false := by
  unfold keptF
  rw [List.all_eq_false]
  exact ⟨x, List.mem_of_getElem? hi, by simpa using hx⟩
def KxPost (fs : List FiD) (r : Int) : Prop := (keptF fs = false ∧ 0 ≤ r ∧ r ≤ 9223372036854775807) ∨ (keptF fs = true ∧ r = -1)
theorem kx_step {fs : List FiD} {j : Nat} {x : FiD} (hj : fs[j]? = some x) (hx : x.2.2 = (x.2.1.size : Int)) (h : ∀ i y, i < j → fs[i]? = some y → y.2.2 = (y.2.1.size : Int)) : ∀ i y, i < j + 1 → fs[i]? = some y → y.2.2 = (y.2.1.size : Int) := fun i y hi hy => by
  by_cases e : i = j
  · subst e
    rw [hj] at hy
    cases hy
    exact hx
  · exact h i y (by omega) hy
set_option maxRecDepth 100000 in
theorem impl_AllKept1_calls (n t : ByteArray) (k : Int) (w : World) (b : Bool) (hb : (k != (t.size : Int)) = b) (ht : t.size ≤ 9223372036854775807) :
    Calls Tryz.prog 63 #[.agg #[.string n, .string t, .int .i64 k]] w fun e w' => e = .returned (.bool b) ∧ Below w.heap.size w w' := by
  have HAL : Hid (Below w.heap.size w (w.alloc (.cells #[.string n, .string t, .int .i64 k] 50))) := (Below.refl _ _).alloc (Nat.le_refl _) _
  have HBB := Lib.hid hb
  clear hb
  go_enter Tryz.func63, Tryz.ntmps63
  go_wp2
  go_ret
  exact ⟨ret_bool HBB.out, HAL.out⟩
set_option maxRecDepth 100000 in
theorem index_Kept_calls (A : Option Addr) (c : Nat) (fs : List FiD) (w : World) (h : FiRow w A c fs) :
    Calls Tryz.prog 78 #[.slice A fs.length c, .func (.func 63) #[] #[]] w fun e w' => ∃ r : Int, e = .returned (.int .i64 r) ∧ KxPost fs r ∧ Below w.heap.size w w' := by
  have hl := h.len
  have HR := Lib.hid h
  clear h
  go_enter Tryz.func78, Tryz.ntmps78
  go_wp2
  go_loopw [8] (fun iv wr => ∃ i : Nat, i ≤ fs.length ∧ iv = .int .i64 (i : Int) ∧ Hid (∀ j y, j < i → fs[j]? = some y → y.2.2 = (y.2.1.size : Int)) ∧ Hid (Below w.heap.size w wr)) (fun iv _ => fs.length - (intOf iv).toNat)
  case atStart => exact ⟨0, Nat.zero_le _, rfl, fun j y hj => by omega, Below.refl _ _⟩
  case round =>
    obtain ⟨i, hi, rfl, HT, HB⟩ := hrel
    by_cases hlt : i < fs.length
    · obtain ⟨ad, x, hA, HX, hz1, hz2, hc0, hc1, hc2⟩ := (HR.out.below HB.out).at_ hlt
      cases hA
      obtain ⟨n, t, k⟩ := x
      dsimp only at hz1 hz2 hc0 hc1 hc2
      by_cases hn : k = (t.size : Int)
      · have HE := Lib.hid (kx_step HX.out hn HT.out)
        have HQ : Hid ((k != (t.size : Int)) = false) := by rw [Hid, hn]; simp
        clear hn
        go_wp2_with fail
        go_at_call 63
        refine (impl_AllKept1_calls n t k _ false HQ.out hz2).mono ?_
        rintro e w' ⟨rfl, hb⟩
        have HB2 := Lib.hid (HB.out.trans (hb.mono HB.out.size))
        clear hb
        go_wp2
        go_roundw
        case rel => first | exact ⟨i + 1, by omega, by go_num, HE, HB2⟩ | (repeat (first | (refine ⟨?relx, rfl⟩; exact ⟨i + 1, by omega, by go_num, HE, HB2⟩) | (refine ⟨?relx, ?eqs⟩; (case eqs => (and_intros <;> rfl)); exact ⟨i + 1, by omega, by go_num, HE, HB2⟩) | apply Exists.intro))
        case measure => simp [intOf]; omega
      · have HE : Hid (KxPost fs (i : Int)) := .inl ⟨kept_not HX.out hn, by omega, by omega⟩
        have HQ : Hid ((k != (t.size : Int)) = true) := by rw [Hid]; simpa using hn
        clear hn
        go_wp2_with fail
        go_at_call 63
        refine (impl_AllKept1_calls n t k _ true HQ.out hz2).mono ?_
        rintro e w' ⟨rfl, hb⟩
        go_wp2
        go_ret
        exact ⟨_, rfl, HE.out, HB.out.trans (hb.mono HB.out.size)⟩
    · obtain rfl : i = fs.length := by omega
      have HE : Hid (KxPost fs (-1)) := .inr ⟨kept_all HT.out, rfl⟩
      go_wp2
      go_ret
      exact ⟨_, rfl, HE.out, HB.out⟩
set_option maxRecDepth 100000 in
theorem contains_Kept_calls (A : Option Addr) (c : Nat) (fs : List FiD) (w : World) (h : FiRow w A c fs) :
    Calls Tryz.prog 62 #[.slice A fs.length c, .func (.func 63) #[] #[]] w fun e w' => e = .returned (.bool (!keptF fs)) ∧ Below w.heap.size w w' := by
  have HR := Lib.hid h
  clear h
  go_enter Tryz.func62, Tryz.ntmps62
  go_wp2_with fail
  go_at_call 78
  refine (index_Kept_calls A c fs _ HR.out).mono ?_
  rintro e w' ⟨r, rfl, hr, hb⟩
  have HB := Lib.hid hb
  rcases hr with ⟨hk, h0, _⟩ | ⟨hk, rfl⟩
  · have HK := Lib.hid hk
    clear hk
    go_wp2
    go_ret
    exact ⟨by rw [HK.out]; exact ret_bool (by simp), HB.out⟩
  · have HK := Lib.hid hk
    clear hk
    go_wp2
    go_ret
    exact ⟨by rw [HK.out]; rfl, HB.out⟩
set_option maxRecDepth 100000 in
theorem impl_AllKept_calls (A : Option Addr) (c : Nat) (fs : List FiD) (w : World) (h : FiRow w A c fs) :
    Calls Tryz.prog 39 #[.agg #[.slice A fs.length c]] w fun e w' => e = .returned (.bool (allKeptB fs)) ∧ Below w.heap.size w w' := by
  have hmf : ∀ (fn : Fn) (first cap : Array Value) (w : World), (Instr.makeFunc fn first cap).run Tryz.prog w = .ok (.func fn first cap) w := fun _ _ _ _ => rfl
  have HAL : Hid (Below w.heap.size w (w.alloc (.cells #[.slice A fs.length c] 27))) := (Below.refl _ _).alloc (Nat.le_refl _) _
  have HR := Lib.hid (h.below HAL.out)
  have hc0 : (w.alloc (.cells #[.slice A fs.length c] 27)).cell? ⟨w.heap.size, 0, none⟩ = some (.slice A fs.length c) := blk_cell (blk_new w _) 0
  clear h
  cases hd : diskOkB fs
  · have HD := Lib.hid hd
    clear hd
    go_enter Tryz.func39, Tryz.ntmps39
    go_wp2_with fail
    go_at_call 36
    refine (impl_DiskOk_calls A c fs _ HR.out).mono ?_
    rw [HD.out]
    rintro e w1 ⟨rfl, hb⟩
    have HB := Lib.hid (HAL.out.trans (hb.mono HAL.out.size))
    clear hb
    go_wp2
    go_ret
    exact ⟨by unfold allKeptB; rw [HD.out]; rfl, HB.out⟩
  · have HD := Lib.hid hd
    clear hd
    go_enter Tryz.func39, Tryz.ntmps39
    go_wp2_with fail
    go_at_call 36
    refine (impl_DiskOk_calls A c fs _ HR.out).mono ?_
    rw [HD.out]
    rintro e w1 ⟨rfl, hb⟩
    have HB := Lib.hid (HAL.out.trans (hb.mono HAL.out.size))
    have HR1 := Lib.hid (HR.out.below hb)
    have p0 : w1.cell? ⟨w.heap.size, 0, none⟩ = some (.slice A fs.length c) := (hb.cell (World.block_lt_of_cell? _ _ hc0)).trans hc0
    clear hb
    go_wp2_with fail
    go_at_call 62
    refine (contains_Kept_calls A c fs _ HR1.out).mono ?_
    rintro e w2 ⟨rfl, hb⟩
    have HB2 := Lib.hid (HB.out.trans (hb.mono HB.out.size))
    have HE : Hid (allKeptB fs = keptF fs) := by unfold allKeptB; rw [HD.out]; rfl
    clear hb
    generalize keptF fs = kb at HE
    go_wp2
    go_ret
    exact ⟨by rw [HE.out]; cases kb <;> rfl, HB2.out⟩
end Go.Proofs.YtanebcllcgchcaaGreatDoor

namespace Go.Proofs.YtanebcllcgchcaaGreatDoor
set_option linter.unusedVariables false
set_option linter.unusedSimpArgs false
open Go.RowKit

def fiVals (x : FiD) : List Value := [.string x.1, .string x.2.1, .int .i64 x.2.2]
def fiFlat (fs : List FiD) : List Value := (fs.map fiVals).flatten
theorem fiFlat_snoc (fs : List FiD) (x : FiD) : fiFlat (fs ++ [x]) = fiFlat fs ++ fiVals x := by simp [fiFlat]
theorem info_fi : (Tryz.prog.info? 50).map (fun i => (i.zero, i.size, i.bytes)) = some (some (.agg #[.string ⟨#[]⟩, .string ⟨#[]⟩, .int .i64 0]), 3, 40) := by kernel_rfl
/-- A row of files of the call's own, made from block B on. -/
def FiOwn (w : World) (B : Nat) (v : Value) (fs : List FiD) : Prop := w.ownsRow B 50 3 v fs.length (fiFlat fs)
theorem FiOwn.row {w : World} {B : Nat} {v : Value} {fs : List FiD} (h : FiOwn w B v fs) (hs : ∀ x ∈ fs, x.1.size ≤ 9223372036854775807 ∧ x.2.1.size ≤ 9223372036854775807) : ∃ A c, v = .slice A fs.length c ∧ FiRow w A c fs := by
  rcases own_cells (f := fiVals) (m := 3) (fun _ => rfl) h with ⟨rfl, rfl⟩ | ⟨g, cap, rfl, _, hg, hn, hm, hc⟩
  · exact ⟨none, 0, rfl, by simp, by simp, hs, fun h0 => by simp at h0⟩
  · refine ⟨_, cap, rfl, hn, hm, hs, fun _ => ⟨_, rfl, hg, fun j x hx => ?_⟩⟩
    rw [add_plain]
    exact ⟨hc j x 0 hx (by omega), hc j x 1 hx (by omega), hc j x 2 hx (by omega)⟩
theorem FiOwn.below {w w' : World} {B : Nat} {v : Value} {fs : List FiD} (h : FiOwn w B v fs) (hb : Below w.heap.size w w') : FiOwn w' B v fs := own_keep h hb
theorem FiOwn.form {w : World} {B : Nat} {v : Value} {fs : List FiD} (h : FiOwn w B v fs) : ∃ A c, v = .slice A fs.length c := by
  rcases h.2 with ⟨rfl, h0⟩ | ⟨g, cap, cur, rfl, _⟩
  · exact ⟨none, 0, by rw [h0]⟩
  · exact ⟨_, _, rfl⟩
theorem FiOwn.lt {w : World} {B : Nat} {v : Value} {fs : List FiD} (h : FiOwn w B v fs) : ∀ k, v.ownBlock = some k → B ≤ k ∧ k < w.heap.size := World.ownsRow.lt h
theorem FiOwn.mono {w : World} {B B' : Nat} {v : Value} {fs : List FiD} (h : FiOwn w B v fs) (hb : B' ≤ B) : FiOwn w B' v fs := own_low h hb
theorem FiOwn.kept {w w' : World} {B : Nat} {v : Value} {fs : List FiD} {row : Option Nat} (h : FiOwn w B v fs) (hg : w.grownBy w' row) (hr : ∀ k, row = some k → k < B) : FiOwn w' B v fs := by
  refine World.ownsRow.kept h hg ?_
  cases hv : v.ownBlock with
  | none => exact .inl rfl
  | some k => exact .inr fun e => by have := (h.lt k hv).1; have := hr k e.symm; omega

theorem fiFlat_len (fs : List FiD) : (fiFlat fs).length = fs.length * 3 := flat_len (f := fiVals) (m := 3) (fun _ => rfl) fs
theorem flat_cell {α : Type} {f : α → List Value} {m : Nat} (hf : ∀ x, (f x).length = m) {w : World} {ad : Addr} : ∀ (xs : List α) (o : Nat), (∀ j x d, xs[j]? = some x → d < m → w.cell? (ad.add (o + (j * m + d))) = (f x)[d]?) → ∀ j u, ((xs.map f).flatten)[j]? = some u → w.cell? (ad.add (o + j)) = some u
  | [], _, _, j, u, h => by simp at h
  | x :: xs, o, hc, j, u, h => by
    rw [List.map_cons, List.flatten_cons] at h
    by_cases hj : j < m
    · rw [List.getElem?_append_left (by rw [hf]; exact hj)] at h
      have := hc 0 x j rfl hj
      rw [Nat.zero_mul, Nat.zero_add] at this
      rw [this, h]
    · rw [List.getElem?_append_right (by rw [hf]; omega), hf] at h
      have := flat_cell hf xs (o + m) (fun i y d hi hd => by
        have := hc (i + 1) y d (by simpa using hi) hd
        rw [Nat.add_mul, Nat.one_mul] at this
        rw [show o + m + (i * m + d) = o + (i * m + m + d) by omega]
        exact this) (j - m) u h
      rwa [show o + m + (j - m) = o + j by omega] at this
theorem FiRow.flat {w : World} {b c : Nat} {fs : List FiD} (h : FiRow w (some ⟨b, 0, none⟩) c fs) : ∀ j u, (fiFlat fs)[j]? = some u → w.cell? ((⟨b, 0, none⟩ : Addr).add j) = some u := by
  intro j u hj
  rcases Nat.eq_zero_or_pos fs.length with h0 | h0
  · obtain rfl := List.eq_nil_of_length_eq_zero h0
    simp [fiFlat] at hj
  · obtain ⟨ad', e, _, hc⟩ := h.2.2.2 h0
    cases e
    have := flat_cell (f := fiVals) (m := 3) (fun _ => rfl) (w := w) (ad := ⟨b, 0, none⟩) fs 0 (fun i x d hi hd => by
      obtain ⟨h0, h1, h2⟩ := hc i x hi
      rw [add_plain] at h0 h1 h2 ⊢
      rw [Nat.zero_add]
      match d, hd with
      | 0, _ => exact h0
      | 1, _ => exact h1
      | 2, _ => exact h2) j u hj
    rwa [Nat.zero_add] at this
theorem fiVals_one (fs : List FiD) : ∀ u ∈ fiFlat fs, u.oneCell' = true := by
  intro u hu
  unfold fiFlat at hu
  obtain ⟨l, hl, hu⟩ := List.mem_flatten.1 hu
  obtain ⟨y, _, rfl⟩ := List.mem_map.1 hl
  unfold fiVals at hu
  simp only [List.mem_cons, List.not_mem_nil, or_false] at hu
  rcases hu with rfl | rfl | rfl <;> rfl
/-- One struct held in a result's block; behind it one result in a slot, or two. -/
theorem res_box {fn : Func} {p : Tmp} {ty : TypeId} {W : World} {g : Nat} {cs : Array Value} {tmps : Array Value} {post : Ending → World → Prop} {fx : Array Field} (hf : fn.results = #[.cell p ty]) (hg : W.heap[g]? = some (.cells cs ty (0, 0))) (hp : tmps.getD p undef = .pointer (some ⟨g, 0, none⟩))
    (hu : Tryz.prog.underlying ty = some (.struct fx)) (hi : (Tryz.prog.info? ty).map (·.size) = some cs.size) (hpost : post (.returned (.agg cs)) W) : bodyPost Tryz.prog fn post .ret ⟨tmps, []⟩ W := by
  have hp' : tmps[p]?.getD undef = .pointer (some ⟨g, 0, none⟩) := by simpa using hp
  have hr : (results fn tmps).run Tryz.prog W = .ok (.agg cs) W := by
    simp only [results, hf]
    simp [Sem.run_bind, hp', asAddr, Result.andThen, run_loadVar_row W g ty ty cs (0, 0) (.struct fx) hg hu rfl hi]
  exact bodyPost_ret hr rfl hpost
theorem res_box1 {fn : Func} {p t : Tmp} {ty : TypeId} {W : World} {g : Nat} {cs : Array Value} {tmps : Array Value} {post : Ending → World → Prop} {fx : Array Field} (hf : fn.results = #[.cell p ty, .tmp t]) (hg : W.heap[g]? = some (.cells cs ty (0, 0))) (hp : tmps.getD p undef = .pointer (some ⟨g, 0, none⟩))
    (hu : Tryz.prog.underlying ty = some (.struct fx)) (hi : (Tryz.prog.info? ty).map (·.size) = some cs.size) (v : Value) (hv : tmps.getD t undef = v) (hpost : post (.returned (.tuple #[.agg cs, v])) W) : bodyPost Tryz.prog fn post .ret ⟨tmps, []⟩ W := by
  have hp' : tmps[p]?.getD undef = .pointer (some ⟨g, 0, none⟩) := by simpa using hp
  have hv' : tmps[t]?.getD undef = v := by simpa using hv
  have hr : (results fn tmps).run Tryz.prog W = .ok (.tuple #[.agg cs, v]) W := by
    simp only [results, hf]
    simp [Sem.run_bind, hp', hv', asAddr, Result.andThen, run_loadVar_row W g ty ty cs (0, 0) (.struct fx) hg hu rfl hi]
  exact bodyPost_ret hr rfl hpost
theorem res_box2 {fn : Func} {p t t2 : Tmp} {ty : TypeId} {W : World} {g : Nat} {cs : Array Value} {tmps : Array Value} {post : Ending → World → Prop} {fx : Array Field} (hf : fn.results = #[.cell p ty, .tmp t, .tmp t2]) (hg : W.heap[g]? = some (.cells cs ty (0, 0))) (hp : tmps.getD p undef = .pointer (some ⟨g, 0, none⟩))
    (hu : Tryz.prog.underlying ty = some (.struct fx)) (hi : (Tryz.prog.info? ty).map (·.size) = some cs.size) (v v2 : Value) (hv : tmps.getD t undef = v) (hv2 : tmps.getD t2 undef = v2) (hpost : post (.returned (.tuple #[.agg cs, v, v2])) W) : bodyPost Tryz.prog fn post .ret ⟨tmps, []⟩ W := by
  have hp' : tmps[p]?.getD undef = .pointer (some ⟨g, 0, none⟩) := by simpa using hp
  have hv' : tmps[t]?.getD undef = v := by simpa using hv
  have hv2' : tmps[t2]?.getD undef = v2 := by simpa using hv2
  have hr : (results fn tmps).run Tryz.prog W = .ok (.tuple #[.agg cs, v, v2]) W := by
    simp only [results, hf]
    simp [Sem.run_bind, hp', hv', hv2', asAddr, Result.andThen, run_loadVar_row W g ty ty cs (0, 0) (.struct fx) hg hu rfl hi]
  exact bodyPost_ret hr rfl hpost
theorem und_dskP : ∃ fs, Tryz.prog.underlying 27 = some (.struct fs) := ⟨_, Tryz.underlying27⟩
theorem info_dskP : (Tryz.prog.info? 27).map (·.size) = some 1 := by kernel_rfl
end Go.Proofs.YtanebcllcgchcaaGreatDoor

namespace Go.Proofs.YtanebcllcgchcaaGreatDoor
set_option linter.unusedVariables false
set_option linter.unusedSimpArgs false
open Go.RowKit
attribute [local go_sem] bs_size List.length_cons List.length_nil List.length_append

theorem ext_list (s : ByteArray) (a b : Nat) : (s.extract a b).toList = ((ub s).drop a).take (b - a) := by
  rw [ByteArray.toList_eq]
  exact ub_extract s a b
set_option maxRecDepth 100000 in
theorem has_calls (s : ByteArray) (w : World) (b : Bool) (h : ((ub s).take 1 == [98]) = b) (hs : s.size ≤ 140737488351232) :
    Calls Tryz.prog 120 #[.string s, .string ⟨#[98]⟩] w fun e w' => e = .returned (.bool b) ∧ w' = w := by
  have hl := ub_length s
  have hx : ((s.extract 0 1).toList == [98]) = b := by
    rw [ext_list]
    simpa using h
  by_cases h0 : s.size = 0
  · have hb : b = false := by
      rw [← h]
      have : ub s = [] := List.eq_nil_of_length_eq_zero (by omega)
      rw [this]
      rfl
    subst hb
    have h1 : ¬ (1 : Int) ≤ (s.size : Int) := by omega
    have HH := Lib.hid h
    clear h hx hl
    go_enter Tryz.func120, Tryz.ntmps120
    go_wp2
    go_ret
    exact ⟨rfl, rfl⟩
  · have h1 : (1 : Int) ≤ (s.size : Int) := by omega
    have HH := Lib.hid h
    clear h hl
    go_enter Tryz.func120, Tryz.ntmps120
    go_wp2
    go_ret
    exact ⟨by first | rfl | (rw [hx]), rfl⟩
theorem lcut_no (s : ByteArray) (w : World) (h : ((ub s).take 1 == [98]) = false) (hs : s.size ≤ 140737488351232) :
    Calls Tryz.prog 84 #[.string s, .string ⟨#[98]⟩] w fun e w' => e = .returned (.tuple #[.string s, .bool false]) ∧ w' = w := by
  have HH := Lib.hid h
  clear h
  have HC : Hid (∀ w : World, Calls Tryz.prog 99 #[.string s, .string ⟨#[98]⟩] w fun e w' => e = .returned (.tuple #[.string s, .bool false]) ∧ w' = w) := fun w => by
    go_enter Tryz.func99, Tryz.ntmps99
    go_wp2_with fail
    go_at_call 120
    refine (has_calls s _ false HH.out hs).mono ?_
    rintro e w' ⟨rfl, rfl⟩
    go_wp2
    go_ret2
    exact ⟨rfl, rfl⟩
  go_enter Tryz.func84, Tryz.ntmps84
  go_wp2_with fail
  go_at_call 99
  refine (HC.out _).mono ?_
  rintro e w' ⟨rfl, rfl⟩
  go_wp2
  go_ret2
  exact ⟨rfl, rfl⟩
theorem lcut_yes (s : ByteArray) (w : World) (h : ((ub s).take 1 == [98]) = true) (h1 : 1 ≤ s.size) (hs : s.size ≤ 140737488351232) :
    Calls Tryz.prog 84 #[.string s, .string ⟨#[98]⟩] w fun e w' => e = .returned (.tuple #[.string (s.extract 1 s.size), .bool true]) ∧ w' = w := by
  have HH := Lib.hid h
  clear h
  have HC : Hid (∀ w : World, Calls Tryz.prog 99 #[.string s, .string ⟨#[98]⟩] w fun e w' => e = .returned (.tuple #[.string (s.extract 1 s.size), .bool true]) ∧ w' = w) := fun w => by
    have h2 : (1 : Int) ≤ (s.size : Int) := by omega
    go_enter Tryz.func99, Tryz.ntmps99
    go_wp2_with fail
    go_at_call 120
    refine (has_calls s _ true HH.out hs).mono ?_
    rintro e w' ⟨rfl, rfl⟩
    go_wp2
    go_ret2
    exact ⟨rfl, rfl⟩
  go_enter Tryz.func84, Tryz.ntmps84
  go_wp2_with fail
  go_at_call 99
  refine (HC.out _).mono ?_
  rintro e w' ⟨rfl, rfl⟩
  go_wp2
  go_ret2
  exact ⟨rfl, rfl⟩
theorem segNo_cut {s : ByteArray} (h : ((ub s).take 1 == [98]) = true) : 1 ≤ s.size ∧ ub s = 98 :: ub (s.extract 1 s.size) ∧ segNo s = (match decOf (ub (s.extract 1 s.size)) with | none => none | some n => if n ≤ 99 then some n else none) := by
  have e : (ub s).take 1 = [98] := by simpa using h
  cases hu : ub s with
  | nil => rw [hu] at e; simp at e
  | cons c l =>
    rw [hu] at e
    have hc : c = 98 := by simpa using e
    have hl := ub_length s
    rw [hu, List.length_cons] at hl
    have h2 : ub (s.extract 1 s.size) = l := by
      rw [ub_extract, hu, List.drop_succ_cons, List.drop_zero, List.take_of_length_le (by omega)]
    refine ⟨by omega, by rw [h2, hc], ?_⟩
    unfold segNo
    rw [hu, h2]
    dsimp only
    rw [if_pos hc]
    all_goals rfl
theorem segNo_nocut {s : ByteArray} (h : ((ub s).take 1 == [98]) = false) : segNo s = none := by
  unfold segNo
  cases hu : ub s with
  | nil => rfl
  | cons c l =>
    dsimp only
    rw [if_neg]
    intro e
    rw [hu, e] at h
    simp at h
theorem rdUni (o : Option Nat) : ∃ (n : Nat) (b : Bool), rdRes o = .tuple #[.int .i64 (n : Int), .bool b] ∧ (b = true → o = some n) ∧ (b = false → o = none) := by
  cases o with
  | none => exact ⟨0, false, rfl, (fun e => by cases e), fun _ => rfl⟩
  | some n => exact ⟨n, true, rfl, (fun _ => rfl), fun e => by cases e⟩
set_option maxRecDepth 100000 in
theorem impl_segNumber_calls (s : ByteArray) (w : World) (hs : s.size ≤ 140737488351232) (hP : Pow w) (hE : Sent w) :
    Calls Tryz.prog 65 #[.string s] w fun e w' => e = .returned (.int .i64 (noInt (segNo s))) ∧ Below w.heap.size w w' := by
  have HP := Lib.hid hP
  have HE := Lib.hid hE
  clear hP hE
  cases hc : (ub s).take 1 == [98]
  · have HC := Lib.hid hc
    have HR : Hid (segNo s = none) := segNo_nocut hc
    obtain ⟨n, b, hrd, _, _⟩ := rdUni (decOf (ub s))
    have HRD := Lib.hid hrd
    clear hc hrd
    go_enter Tryz.func65, Tryz.ntmps65
    go_wp2_with fail
    go_at_call 84
    refine (lcut_no s _ HC.out hs).mono ?_
    rintro e w' ⟨rfl, rfl⟩
    go_wp2_with fail
    go_at_call 85
    refine (impl_ReadDecimal_calls s _ hs HP.out HE.out).mono ?_
    rw [HRD.out]
    rintro e w2 ⟨rfl, hb⟩
    go_wp2
    go_ret
    exact ⟨by rw [HR.out]; rfl, hb⟩
  · obtain ⟨h1, h2, h3⟩ := segNo_cut hc
    have HC := Lib.hid hc
    have H3 := Lib.hid h3
    have H2 := Lib.hid h2
    have HXS : Hid ((s.extract 1 s.size).size ≤ 140737488351232) := by rw [Hid, ByteArray.size_extract]; omega
    obtain ⟨n, b, hrd, hy, hn⟩ := rdUni (decOf (ub (s.extract 1 s.size)))
    have HRD := Lib.hid hrd
    have HY := Lib.hid hy
    have HN := Lib.hid hn
    clear hc hrd h2 h3 hy hn
    go_enter Tryz.func65, Tryz.ntmps65
    go_wp2_with fail
    go_at_call 84
    refine (lcut_yes s _ HC.out h1 hs).mono ?_
    rintro e w' ⟨rfl, rfl⟩
    go_wp2_with fail
    go_at_call 85
    refine (impl_ReadDecimal_calls (s.extract 1 s.size) _ HXS.out HP.out HE.out).mono ?_
    rw [HRD.out]
    rintro e w2 ⟨rfl, hb⟩
    have HB := Lib.hid hb
    clear hb
    cases b
    · have HR : Hid (segNo s = none) := by rw [Hid, H3.out, HN.out rfl]
      go_wp2
      go_ret
      exact ⟨by rw [HR.out]; rfl, HB.out⟩
    · have hdn := HY.out rfl
      by_cases h99 : n ≤ 99
      · have HR : Hid (segNo s = some n) := by rw [Hid, H3.out, hdn]; exact if_pos h99
        have HQ : Hid (segNm (n : Int) = s) := ((segNo_some HR.out).2).symm
        clear hdn
        go_wp2_with fail
        go_at_call 18
        refine (impl_SegNm_calls (n : Int) _ (HP.out.below HB.out)).mono ?_
        rw [HQ.out]
        rintro e w3 ⟨rfl, hb⟩
        have HB3 := Lib.hid (HB.out.trans (hb.mono HB.out.size))
        clear hb
        go_wp2
        go_ret
        exact ⟨by rw [HR.out]; rfl, HB3.out⟩
      · have HR : Hid (segNo s = none) := by rw [Hid, H3.out, hdn]; exact if_neg h99
        have HQ : Hid (segNm (n : Int) = ⟨#[]⟩) := by
          rw [Hid]
          unfold segNm
          rw [if_neg (by unfold inR; simp; omega)]
        have hne : (([] : List UInt8) == s.toList) = false := by
          refine beq_eq_false_iff_ne.mpr fun e => ?_
          have := H2.out
          rw [show ub s = s.toList from by rw [ByteArray.toList_eq]; rfl, ← e] at this
          cases this
        have hne2 : s.toList.isEmpty = false := by
          have := H2.out
          rw [show ub s = s.toList from by rw [ByteArray.toList_eq]; rfl] at this
          rw [this]
          rfl
        clear hdn
        go_wp2_with fail
        go_at_call 18
        refine (impl_SegNm_calls (n : Int) _ (HP.out.below HB.out)).mono ?_
        rw [HQ.out]
        rintro e w3 ⟨rfl, hb⟩
        have HB3 := Lib.hid (HB.out.trans (hb.mono HB.out.size))
        clear hb
        go_wp2
        go_ret
        exact ⟨by rw [HR.out]; rfl, HB3.out⟩
end Go.Proofs.YtanebcllcgchcaaGreatDoor

namespace Go.Proofs.YtanebcllcgchcaaGreatDoor
set_option linter.unusedVariables false
set_option linter.unusedSimpArgs false
open Go.RowKit

theorem info_int : (Tryz.prog.info? 3).map (fun i => (i.zero, i.size, i.bytes)) = some (some (.int .i64 0), 1, 8) := by kernel_rfl
def OwnI (w : World) (B : Nat) (v : Value) (ns : List Int) : Prop := w.ownsRow B 3 1 v ns.length (ns.map (Value.int .i64))
theorem OwnI.form {w : World} {B : Nat} {v : Value} {ns : List Int} (h : OwnI w B v ns) : ∃ A c, v = .slice A ns.length c := by
  rcases h.2 with ⟨rfl, h0⟩ | ⟨g, cap, cur, rfl, _⟩
  · exact ⟨none, 0, by rw [h0]⟩
  · exact ⟨_, _, rfl⟩
theorem OwnI.lt {w : World} {B : Nat} {v : Value} {ns : List Int} (h : OwnI w B v ns) : ∀ k, v.ownBlock = some k → B ≤ k ∧ k < w.heap.size := World.ownsRow.lt h
theorem OwnI.at_ {w : World} {B n c : Nat} {A : Option Addr} {ns : List Int} (h : OwnI w B (.slice A n c) ns) {j : Nat} {x : Int} (hj : ns[j]? = some x) : ∃ b, A = some ⟨b, 0, none⟩ ∧ w.cell? ⟨b, j, none⟩ = some (.int .i64 x) := by
  rcases h.2 with ⟨e, h0⟩ | ⟨g, cap, cur, e, _, _, hle, _⟩
  · have : ns = [] := List.eq_nil_of_length_eq_zero h0
    rw [this] at hj
    simp at hj
  · injection e with e1 e2 e3
    subst e1
    have hc := World.ownsRow.cells h (g := g) rfl j (.int .i64 x) (by rw [List.getElem?_map, hj]; rfl)
    rw [add_plain] at hc
    exact ⟨g, rfl, hc⟩
theorem OwnI.below {w w' : World} {B : Nat} {v : Value} {ns : List Int} (h : OwnI w B v ns) (hb : Below w.heap.size w w') : OwnI w' B v ns := by
  refine World.ownsRow.kept h (row := none) ⟨hb.os, hb.tape, hb.output, hb.size, fun k hk _ => hb.block k hk⟩ ?_
  cases v.ownBlock
  · exact .inl rfl
  · exact .inr (by simp)
theorem ownI_lit (w : World) {B : Nat} (hB : B ≤ w.heap.size) (x : Int) : OwnI (w.alloc (.cells #[.int .i64 x] 3)) B (.slice (some ⟨w.heap.size, 0, none⟩) 1 1) [x] :=
  ⟨rfl, .inr ⟨w.heap.size, 1, #[.int .i64 x], rfl, hB, heap_alloc_new w _, Nat.le_refl _, by unfold maxLen; omega, rfl, rfl⟩⟩
theorem below_pushI {B : Nat} {a w w2 : World} {o : Obj} {v : Value} {ns : List Int} (h : Below B a w) (hB : B ≤ w.heap.size) (ho : OwnI w B v ns) (hg : (w.alloc o).grownBy w2 v.ownBlock) : Below B a w2 :=
  (h.alloc hB o).grown hg (by simp; omega) fun k hk => (ho.lt k hk).1
theorem map_back (L : List (List ByteArray)) : (L.map (·.map ub)).map (·.map bs) = L := by
  rw [List.map_map]
  conv => rhs; rw [← List.map_id L]
  refine List.map_congr_left fun xs _ => ?_
  simp only [Function.comp, List.map_map, id]
  conv => rhs; rw [← List.map_id xs]
  exact List.map_congr_left fun x _ => bs_ub x
end Go.Proofs.YtanebcllcgchcaaGreatDoor

namespace Go.Proofs.YtanebcllcgchcaaGreatDoor
set_option linter.unusedVariables false
set_option linter.unusedSimpArgs false
open Go.RowKit
attribute [local go_sem] bs_size List.length_cons List.length_nil List.length_append

theorem fs0_get {s : ByteArray} {i : Nat} {x : FiD} (h : (fs0 s)[i]? = some x) : x = (segNm 0, s, (s.size : Int)) := by
  unfold fs0 at h
  match i with
  | 0 => exact (Option.some.inj h).symm
  | i + 1 => simp at h
theorem sentE {w w' : World} (h : Sent w) (hb : Below w.heap.size w w') : Sent w' := h.below hb h.big
theorem fs0_len (s : ByteArray) : (fs0 s).length = 1 := rfl
set_option maxRecDepth 100000 in
theorem impl_copyDisk_calls (b c : Nat) (fs : List FiD) (w : World) (h : FiRow w (some ⟨b, 0, none⟩) c fs) (hp : 0 < fs.length) (hl : fs.length ≤ 1000000) :
    Calls Tryz.prog 73 #[.agg #[.slice (some ⟨b, 0, none⟩) fs.length c]] w fun e w' => ∃ b' c', e = .returned (.agg #[.slice (some ⟨b', 0, none⟩) fs.length c']) ∧ FiOwn w' w.heap.size (.slice (some ⟨b', 0, none⟩) fs.length c') fs ∧ Below w.heap.size w w' := by
  obtain ⟨i0, hi0, hz, hsz, hby⟩ := info_parts info_fi
  obtain ⟨fx, hu⟩ := und_dskP
  have hs1 : (w.alloc (.cells #[.slice (some ⟨b, 0, none⟩) fs.length c] 27)).heap.size = w.heap.size + 1 := by simp
  have HAL : Hid (Below w.heap.size w ((w.alloc (.cells #[.slice (some ⟨b, 0, none⟩) fs.length c] 27)).alloc (.cells #[.slice none 0 0] 27))) := ((Below.refl _ _).alloc (Nat.le_refl _) _).alloc (by simp) _
  have HR := Lib.hid (h.below HAL.out)
  have HX : Hid (((w.alloc (.cells #[.slice (some ⟨b, 0, none⟩) fs.length c] 27)).alloc (.cells #[.slice none 0 0] 27)).heap[w.heap.size + 1]? = some (.cells #[.slice none 0 0] 27 (0, 0))) := by rw [Hid, ← hs1]; exact blk_new _ _
  have p0 : ((w.alloc (.cells #[.slice (some ⟨b, 0, none⟩) fs.length c] 27)).alloc (.cells #[.slice none 0 0] 27)).cell? ⟨w.heap.size, 0, none⟩ = some (.slice (some ⟨b, 0, none⟩) fs.length c) := cell_new (blk_cell (blk_new w _) 0) _
  have HNEWS := Lib.hid HR.out.flat
  have HSZ : Hid (((w.alloc (.cells #[.slice (some ⟨b, 0, none⟩) fs.length c] 27)).alloc (.cells #[.slice none 0 0] 27)).heap.size = w.heap.size + 2) := by rw [Hid]; simp
  clear h hs1
  go_enter Tryz.func73, Tryz.ntmps73
  go_wp2_with (at_builtin; go_loud (refine wpList_append_lies _ rfl _ _ _ rfl w.heap.size 50 i0 (.agg #[.string ⟨#[]⟩, .string ⟨#[]⟩, .int .i64 0]) 3 40 Tryz.underlying25 hi0 hz hsz hby rfl (by omega) (.slice none 0 0) 0 [] rfl (World.ownsRow_nil ..) ⟨b, 0, none⟩ fs.length c (fiFlat fs) rfl (fiFlat_len fs) HNEWS.out (fiVals_one fs) hp (by unfold maxLen; omega) (by omega) HAL.out.size _ rfl ?_); intro gg cap w3 hown hgrow hat hlt; rw [Nat.zero_add, List.nil_append] at hown; have HX3 := Lib.hid ((hgrow.block _ (by rw [HSZ.out]; omega) (by simp [Value.ownBlock])).trans HX.out); have HB3 := Lib.hid (HAL.out.grown hgrow HAL.out.size (fun k e => by simp [Value.ownBlock] at e)); have HO3 : Hid (FiOwn w3 w.heap.size (.slice (some ⟨gg, 0, none⟩) fs.length cap) fs) := hown; have q0 := blk_frozen HX3.out 0; have q1 := blk_cell HX3.out 0; have HNG : Hid (gg ≠ w.heap.size + 1) := (fun e => (by cases hat with | inl h1 => (simp [Value.ownBlock] at h1) | inr h1 => (rw [HSZ.out] at h1; omega))); clear hown hgrow hat hlt)
  refine res_box (g := w.heap.size + 1) (cs := #[.slice (some ⟨gg, 0, none⟩) fs.length cap]) rfl (by rw [blk_set HX3.out]; rfl) rfl hu info_dskP ⟨gg, cap, rfl, ?_, HB3.out.setCell (p := ⟨w.heap.size + 1, 0, none⟩) (by show w.heap.size ≤ w.heap.size + 1; omega) _⟩
  exact World.ownsRow.kept HO3.out (gr_set w3 (w.heap.size + 1) 0 _) (.inr fun e => HNG.out (Option.some.inj e))
set_option maxRecDepth 100000 in
/-- DoActs of no act: a copy. -/
theorem impl_DoActs_none (b c : Nat) (fs : List FiD) (w : World) (h : FiRow w (some ⟨b, 0, none⟩) c fs) (hp : 0 < fs.length) (hl : fs.length ≤ 1000000) :
    Calls Tryz.prog 45 #[.agg #[.slice (some ⟨b, 0, none⟩) fs.length c], .slice none 0 0] w fun e w' => ∃ b' c', e = .returned (.tuple #[.agg #[.slice (some ⟨b', 0, none⟩) fs.length c'], .int .i64 0]) ∧ FiOwn w' w.heap.size (.slice (some ⟨b', 0, none⟩) fs.length c') fs ∧ Below w.heap.size w w' := by
  obtain ⟨fx, hu⟩ := und_dskP
  have hs1 : (w.alloc (.cells #[.slice (some ⟨b, 0, none⟩) fs.length c] 27)).heap.size = w.heap.size + 1 := by simp
  have HAL : Hid (Below w.heap.size w ((w.alloc (.cells #[.slice (some ⟨b, 0, none⟩) fs.length c] 27)).alloc (.cells #[.slice none 0 0] 27))) := ((Below.refl _ _).alloc (Nat.le_refl _) _).alloc (by simp) _
  have HR := Lib.hid (h.below HAL.out)
  have HX : Hid (((w.alloc (.cells #[.slice (some ⟨b, 0, none⟩) fs.length c] 27)).alloc (.cells #[.slice none 0 0] 27)).heap[w.heap.size + 1]? = some (.cells #[.slice none 0 0] 27 (0, 0))) := by rw [Hid, ← hs1]; exact blk_new _ _
  have p0 : ((w.alloc (.cells #[.slice (some ⟨b, 0, none⟩) fs.length c] 27)).alloc (.cells #[.slice none 0 0] 27)).cell? ⟨w.heap.size, 0, none⟩ = some (.slice (some ⟨b, 0, none⟩) fs.length c) := cell_new (blk_cell (blk_new w _) 0) _
  have HSZ : Hid (((w.alloc (.cells #[.slice (some ⟨b, 0, none⟩) fs.length c] 27)).alloc (.cells #[.slice none 0 0] 27)).heap.size = w.heap.size + 2) := by rw [Hid]; simp
  clear h hs1
  go_enter Tryz.func45, Tryz.ntmps45
  go_wp2_with fail
  go_at_call 73
  refine (impl_copyDisk_calls b c fs _ HR.out hp hl).mono ?_
  rintro e w1 ⟨b', c', rfl, ho, hb⟩
  rw [HSZ.out] at ho
  have HO := Lib.hid ho
  have HX1 := Lib.hid (blk_below HX.out hb)
  have HB1 := Lib.hid (HAL.out.trans (hb.mono HAL.out.size))
  have HAL1 : Hid (Below w1.heap.size w1 (w1.alloc (.cells #[.slice (some ⟨b', 0, none⟩) fs.length c'] 27))) := (Below.refl _ _).alloc (Nat.le_refl _) _
  have HO2 := Lib.hid (HO.out.below HAL1.out)
  have HX2 := Lib.hid (blk_below HX1.out HAL1.out)
  have HB2 := Lib.hid (HB1.out.trans (HAL1.out.mono HB1.out.size))
  have q0 := blk_frozen HX2.out 0
  have q1 := blk_cell HX2.out 0
  have q2 := blk_cell (blk_new w1 (.cells #[.slice (some ⟨b', 0, none⟩) fs.length c'] 27)) 0
  clear ho hb p0
  go_wp2
  refine wp_loop_rounds 1 ?_
  rw [rounds_succ]
  go_wp2
  refine res_box1 (g := w.heap.size + 1) (cs := #[.slice (some ⟨b', 0, none⟩) fs.length c']) rfl (by rw [blk_set HX2.out]; rfl) rfl hu info_dskP _ rfl ⟨b', c', rfl, ?_, HB2.out.setCell (p := ⟨w.heap.size + 1, 0, none⟩) (by show w.heap.size ≤ w.heap.size + 1; omega) _⟩
  refine own_low (World.ownsRow.kept HO2.out (gr_set _ (w.heap.size + 1) 0 _) (.inr fun e => ?_)) (by omega)
  have := (HO2.out.lt b' rfl).1
  have e : b' = w.heap.size + 1 := Option.some.inj e
  omega
set_option maxRecDepth 100000 in
theorem contains0_calls (bl cl : Nat) (w : World) (h : w.cell? ⟨bl, 0, none⟩ = some (.int .i64 0)) :
    Calls Tryz.prog 72 #[.slice (some ⟨bl, 0, none⟩) 1 cl, .int .i64 0] w fun e w' => e = .returned (.bool true) ∧ Below w.heap.size w w' := by
  have hix : Calls Tryz.prog 93 #[.slice (some ⟨bl, 0, none⟩) 1 cl, .int .i64 0] w fun e w' => e = .returned (.int .i64 0) ∧ Below w.heap.size w w' := by
    go_enter Tryz.func93, Tryz.ntmps93
    go_wp2
    refine wp_loop_rounds 1 ?_
    rw [rounds_succ]
    go_wp2
    go_ret
    exact ⟨rfl, Below.refl _ _⟩
  have HIX := Lib.hid hix
  clear hix
  go_enter Tryz.func72, Tryz.ntmps72
  go_wp2_with fail
  go_at_call 93
  refine HIX.out.mono ?_
  rintro e w1 ⟨rfl, hb⟩
  go_wp2
  go_ret
  exact ⟨rfl, hb⟩
set_option maxHeartbeats 4000000 in
set_option maxRecDepth 100000 in
theorem impl_cleaning0 (s : ByteArray) (A : Option Addr) (c bl cl : Nat) (w : World) (h : FiRow w A c (fs0 s)) (hl : w.cell? ⟨bl, 0, none⟩ = some (.int .i64 0)) (hP : Pow w) (hE : Sent w) :
    Calls Tryz.prog 43 #[.agg #[.slice A 1 c], .slice (some ⟨bl, 0, none⟩) 1 cl] w fun e w' => e = .returned (.slice none 0 0) ∧ Below w.heap.size w w' := by
  have HAL : Hid (Below w.heap.size w (w.alloc (.cells #[.slice A 1 c] 27))) := (Below.refl _ _).alloc (Nat.le_refl _) _
  have HR := Lib.hid (h.below HAL.out)
  have HL : Hid (w.cell? ⟨bl, 0, none⟩ = some (.int .i64 0)) := hl
  have HPW := Lib.hid hP
  have HEW := Lib.hid hE
  have HC0 : Hid ((w.alloc (.cells #[.slice A 1 c] 27)).cell? ⟨w.heap.size, 0, none⟩ = some (.slice A 1 c)) := blk_cell (blk_new w _) 0
  have p0 := HC0.out
  clear h hP hE hl
  go_enter Tryz.func43, Tryz.ntmps43
  go_wp2
  go_loopw [5, 14] (fun ov iv wr => ∃ i : Nat, i ≤ 1 ∧ iv = .int .i64 (i : Int) ∧ ov = .slice none 0 0 ∧ Hid (Below (w.alloc (.cells #[.slice A 1 c] 27)).heap.size (w.alloc (.cells #[.slice A 1 c] 27)) wr)) (fun _ iv _ => 1 - (intOf iv).toNat)
  case atStart => exact ⟨0, by omega, rfl, rfl, Below.refl _ _⟩
  case round =>
    clear p0
    obtain ⟨i, hi, rfl, rfl, HB⟩ := hrel
    rename World => w1
    by_cases hlt : i < 1
    · obtain ⟨ad, x, hA, HX, hz1, hz2, hc0, hc1, hc2⟩ := (HR.out.below HB.out).at_ (k := i) hlt
      cases hA
      obtain rfl := fs0_get HX.out
      dsimp only at hz1 hz2 hc0 hc1 hc2
      rw [segNm_zero] at hc0
      have HAL1 := Lib.hid (HB.out.alloc HB.out.size (.cells #[.string ⟨#[98, 48]⟩, .string s, .int .i64 (s.size : Int)] 50))
      have hq : ((⟨#[98, 48]⟩ : ByteArray).toList == [109, 43]) = false := by rw [ByteArray.toList_eq]; rfl
      go_wp2
      go_roundw
      case rel => exact ⟨i + 1, by omega, by go_num, rfl, HAL1⟩
      case measure => simp [intOf]; omega
    · obtain rfl : i = 1 := by omega
      have p0 : w1.cell? ⟨w.heap.size, 0, none⟩ = some (.slice A 1 c) := (HB.out.cell (by simp)).trans HC0.out
      go_wp2
      go_loopw [5, 29] (fun ov iv wr => ∃ i : Nat, i ≤ 1 ∧ iv = .int .i64 (i : Int) ∧ ov = .slice none 0 0 ∧ Hid (Below (w.alloc (.cells #[.slice A 1 c] 27)).heap.size (w.alloc (.cells #[.slice A 1 c] 27)) wr)) (fun _ iv _ => 1 - (intOf iv).toNat)
      case atStart => exact ⟨0, by omega, rfl, rfl, HB⟩
      case round =>
        clear p0 HB
        obtain ⟨i, hi, rfl, rfl, HB⟩ := hrel
        rename World => w2
        by_cases hlt : i < 1
        · obtain ⟨ad, x, hA, HX, hz1, hz2, hc0, hc1, hc2⟩ := (HR.out.below HB.out).at_ (k := i) hlt
          cases hA
          obtain rfl := fs0_get HX.out
          dsimp only at hz1 hz2 hc0 hc1 hc2
          have HAL1 := Lib.hid (HB.out.alloc HB.out.size (.cells #[.string (segNm 0), .string s, .int .i64 (s.size : Int)] 50))
          have HWB := Lib.hid (HAL.out.trans (HAL1.out.mono HAL.out.size))
          have x0 := blk_cell (blk_new w2 (.cells #[.string (segNm 0), .string s, .int .i64 (s.size : Int)] 50)) 0
          have HNO : Hid (noInt (segNo (segNm 0)) = 0) := by rw [Hid, show segNm 0 = segNm ((0 : Nat) : Int) from rfl, segNo_nm (by omega)]; rfl
          have HNS : Hid ((segNm 0).size ≤ 140737488351232) := by rw [Hid, segNm_zero]; decide
          go_wp2_with fail
          go_at_call 65
          refine (impl_segNumber_calls (segNm 0) _ HNS.out (HPW.out.below HWB.out) (sentE HEW.out HWB.out)).mono ?_
          rw [HNO.out]
          rintro e w3 ⟨rfl, hb3⟩
          have HB3 := Lib.hid (HAL1.out.trans (hb3.mono HAL1.out.size))
          have HL3 : Hid (w3.cell? ⟨bl, 0, none⟩ = some (.int .i64 0)) := ((HAL.out.trans (HB3.out.mono HAL.out.size)).cell (World.block_lt_of_cell? w _ HL.out)).trans HL.out
          clear hb3 x0
          go_wp2_with fail
          go_at_call 72
          refine (contains0_calls bl cl _ HL3.out).mono ?_
          rintro e w4 ⟨rfl, hb4⟩
          have HB4 := Lib.hid (HB3.out.trans (hb4.mono HB3.out.size))
          clear hb4
          go_wp2
          go_roundw
          case rel => first | exact ⟨i + 1, by omega, by go_num, rfl, HB4⟩ | (repeat (first | (refine ⟨?relx, rfl⟩; exact ⟨i + 1, by omega, by go_num, rfl, HB4⟩) | (refine ⟨?relx, ?eqs⟩; (case eqs => (and_intros <;> rfl)); exact ⟨i + 1, by omega, by go_num, rfl, HB4⟩) | apply Exists.intro))
          case measure => simp [intOf]; omega
        · obtain rfl : i = 1 := by omega
          go_wp2
          go_ret
          exact ⟨rfl, HAL.out.trans (HB.out.mono HAL.out.size)⟩
set_option maxHeartbeats 4000000 in
set_option maxRecDepth 100000 in
theorem equal_File_calls (A A' : Option Addr) (c c' : Nat) (fs : List FiD) (w : World) (h : FiRow w A c fs) (h' : FiRow w A' c' fs) :
    Calls Tryz.prog 46 #[.slice A fs.length c, .slice A' fs.length c'] w fun e w' => e = .returned (.bool true) ∧ Below w.heap.size w w' := by
  have hl := h.len
  have HR := Lib.hid h
  have HR' := Lib.hid h'
  have hb2 : ((fs.length : Int) != (fs.length : Int)) = false := by simp
  clear h h'
  go_enter Tryz.func46, Tryz.ntmps46
  go_wp2
  go_loopw [13] (fun iv wr => ∃ i : Nat, i ≤ fs.length ∧ iv = .int .i64 (i : Int) ∧ Hid (Below w.heap.size w wr)) (fun iv _ => fs.length - (intOf iv).toNat)
  case atStart => exact ⟨0, Nat.zero_le _, rfl, Below.refl _ _⟩
  case round =>
    obtain ⟨i, hi, rfl, HB⟩ := hrel
    rename World => wz
    by_cases hlt : i < fs.length
    · obtain ⟨ad, x, hA, HX, hz1, hz2, hc0, hc1, hc2⟩ := (HR.out.below HB.out).at_ hlt
      obtain ⟨ad', y, hA', HY, _, _, hd0, hd1, hd2⟩ := (HR'.out.below HB.out).at_ hlt
      obtain rfl : x = y := Option.some.inj (HX.out.symm.trans HY.out)
      cases hA
      cases hA'
      obtain ⟨n, t, k⟩ := x
      dsimp only at hz1 hz2 hc0 hc1 hc2 hd0 hd1 hd2
      have hli : (i : Int) < (fs.length : Int) := by omega
      go_wp2
      go_quiet (fail)
      go_wp2
      go_roundw
      case rel => first | exact ⟨i + 1, by omega, by go_num, blwN HB.out _⟩ | (repeat (first | (refine ⟨?relx, rfl⟩; exact ⟨i + 1, by omega, by go_num, blwN HB.out _⟩) | (refine ⟨?relx, ?eqs⟩; (case eqs => (and_intros <;> rfl)); exact ⟨i + 1, by omega, by go_num, blwN HB.out _⟩) | apply Exists.intro))
      case measure => simp [intOf]; omega
    · obtain rfl : i = fs.length := by omega
      go_wp2
      go_ret
      exact ⟨rfl, HB.out⟩
set_option maxRecDepth 100000 in
theorem equal_Spot0 (A A' : Option Addr) (c c' : Nat) (w : World) :
    Calls Tryz.prog 47 #[.slice A 0 c, .slice A' 0 c'] w fun e w' => e = .returned (.bool true) ∧ Below w.heap.size w w' := by
  go_enter Tryz.func47, Tryz.ntmps47
  go_wp2
  refine wp_loop_rounds 1 ?_
  rw [rounds_succ]
  go_wp2
  go_ret
  exact ⟨rfl, Below.refl _ _⟩
set_option maxRecDepth 100000 in
theorem index_Spot0 (A : Option Addr) (c : Nat) (f : Value) (w : World) :
    Calls Tryz.prog 23 #[.slice A 0 c, f] w fun e w' => e = .returned (.int .i64 (-1)) ∧ Below w.heap.size w w' := by
  go_enter Tryz.func23, Tryz.ntmps23
  go_wp2
  refine wp_loop_rounds 1 ?_
  rw [rounds_succ]
  go_wp2
  go_ret
  exact ⟨rfl, Below.refl _ _⟩
set_option maxRecDepth 100000 in
theorem impl_bytesOf0 (s : ByteArray) (A : Option Addr) (c : Nat) (w : World) (h : FiRow w A c (fs0 s)) (hs : s.size ≤ 100) :
    Calls Tryz.prog 27 #[.agg #[.slice A 1 c]] w fun e w' => e = .returned (.int .i64 (s.size : Int)) ∧ Below w.heap.size w w' := by
  have HAL : Hid (Below w.heap.size w (w.alloc (.cells #[.slice A 1 c] 27))) := (Below.refl _ _).alloc (Nat.le_refl _) _
  have HR := Lib.hid (h.below HAL.out)
  have p0 : (w.alloc (.cells #[.slice A 1 c] 27)).cell? ⟨w.heap.size, 0, none⟩ = some (.slice A 1 c) := blk_cell (blk_new w _) 0
  clear h
  go_enter Tryz.func27, Tryz.ntmps27
  go_wp2
  go_loopw [3, 9] (fun nv iv wr => ∃ i n : Nat, i ≤ 1 ∧ iv = .int .i64 (i : Int) ∧ nv = .int .i64 (n : Int) ∧ Hid (n = i * s.size) ∧ Hid (Below (w.alloc (.cells #[.slice A 1 c] 27)).heap.size (w.alloc (.cells #[.slice A 1 c] 27)) wr)) (fun _ iv _ => 1 - (intOf iv).toNat)
  case atStart => exact ⟨0, 0, by omega, rfl, rfl, (by rw [Hid]; omega), Below.refl _ _⟩
  case round =>
    clear p0
    obtain ⟨i, n, hi, rfl, rfl, HN, HB⟩ := hrel
    rename World => w1
    by_cases hlt : i < 1
    · have hn0 : n = 0 := by rw [HN.out, show i = 0 by omega, Nat.zero_mul]
      obtain ⟨ad, x, hA, HX, hz1, hz2, hc0, hc1, hc2⟩ := (HR.out.below HB.out).at_ (k := i) hlt
      cases hA
      obtain rfl := fs0_get HX.out
      dsimp only at hz1 hz2 hc0 hc1 hc2
      have HN2 : Hid (n + s.size = (i + 1) * s.size) := by rw [Hid, HN.out, Nat.succ_mul]
      have HAL1 := Lib.hid (HB.out.alloc HB.out.size (.cells #[.string (segNm 0), .string s, .int .i64 (s.size : Int)] 50))
      have hn1 : n ≤ 100 := by omega
      clear hn0
      go_wp2
      go_roundw
      case rel => first | exact ⟨i + 1, n + s.size, by omega, by go_num, by go_num, HN2, HAL1⟩ | (repeat (first | (refine ⟨?relx, rfl⟩; exact ⟨i + 1, n + s.size, by omega, by go_num, by go_num, HN2, HAL1⟩) | (refine ⟨?relx, ?eqs⟩; (case eqs => (and_intros <;> rfl)); exact ⟨i + 1, n + s.size, by omega, by go_num, by go_num, HN2, HAL1⟩) | apply Exists.intro))
      case measure => simp [intOf]; omega
    · obtain rfl : i = 1 := by omega
      rw [Nat.one_mul] at HN
      have HE : Hid (n = s.size) := HN.out
      go_wp2
      go_ret
      exact ⟨by rw [HE.out]; rfl, HAL.out.trans (HB.out.mono HAL.out.size)⟩
end Go.Proofs.YtanebcllcgchcaaGreatDoor

namespace Go.Proofs.YtanebcllcgchcaaGreatDoor
set_option linter.unusedVariables false
set_option linter.unusedSimpArgs false
open Go.RowKit
attribute [local go_sem] bs_size List.length_cons List.length_nil List.length_append

theorem segPl_out {n : Int} {s : ByteArray} (h : ¬ (0 ≤ n ∧ n ≤ 99)) : segPl n s = none := by
  unfold segPl
  cases (unframeB s).1 with
  | nil => rfl
  | cons r rs => dsimp only; rw [hdI_range h r]
theorem segPl_empty {n : Int} {s : ByteArray} (h : (unframeB s).1 = []) : segPl n s = none := by unfold segPl; rw [h]
theorem segPl_nohead {n : Int} {s r : ByteArray} {rs : List ByteArray} (h : (unframeB s).1 = r :: rs) (h2 : hdI n r = none) : segPl n s = none := by unfold segPl; rw [h]; dsimp only; rw [h2]
theorem segPl_yes {n : Int} {s r : ByteArray} {rs : List ByteArray} {f : Nat} (h : (unframeB s).1 = r :: rs) (h2 : hdI n r = some f) : segPl n s = some (f, frameLen r, placedGo none (frameLen r) rs) := by unfold segPl; rw [h]; dsimp only; rw [h2]
theorem own_not_g {v : Value} {b g n c H : Nat} (hat : v.ownBlock = some b ∨ b = H) (hv : v.ownBlock ≠ some g) (hH : g < H) : (Value.slice (some ⟨b, 0, none⟩) n c).ownBlock ≠ some g := by
  simp only [Value.ownBlock, ne_eq, Option.some.injEq]
  rcases hat with h | h
  · intro e; rw [h, e] at hv; exact hv rfl
  · omega
/-- The end is where the loop stands. -/
theorem endOf_step (l : Nat) (acc : List PlD) (b : BatD) (a m : Nat) : endOf l (acc ++ [(b, a, m)]) = a + m := endOf_snoc _ _ _
end Go.Proofs.YtanebcllcgchcaaGreatDoor

namespace Go.Proofs.YtanebcllcgchcaaGreatDoor
set_option linter.unusedVariables false
set_option linter.unusedSimpArgs false
open Go.RowKit
attribute [local go_sem] bs_size List.length_cons List.length_nil List.length_append

/-- The disk in its box. -/
abbrev W5 (w : World) (A : Option Addr) (n c : Nat) : World := w.alloc (.cells #[.slice A n c] 27)
structure VD (w : World) (A : Option Addr) (n c : Nat) (W : World) : Prop where
  b : Below (W5 w A n c).heap.size (W5 w A n c) W
section
variable {w W W' : World} {A : Option Addr} {n c : Nat}
theorem VD.go (h : VD w A n c W) (hb : Below W.heap.size W W') : VD w A n c W' := ⟨h.b.trans (hb.mono h.b.size)⟩
theorem VD.drew (h : VD w A n c W) : VD w A n c W.drew := h.go (Below.drew (Below.refl _ _))
theorem VD.alloc (h : VD w A n c W) (o : Obj) : VD w A n c (W.alloc o) := h.go ((Below.refl _ _).alloc (Nat.le_refl _) _)
theorem VD.from_ (h : VD w A n c W) : Below w.heap.size w W := ((Below.refl _ _).alloc (Nat.le_refl _) _).trans (h.b.mono (by simp))
theorem VD.cell (h : VD w A n c W) : W.cell? ⟨w.heap.size, 0, none⟩ = some (.slice A n c) := (h.b.cell (by simp)).trans (blk_cell (blk_new w _) 0)
theorem VD.all (h : VD w A n c W) : W.cell? ⟨w.heap.size, 0, none⟩ = some (.slice A n c) ∧ Hid (VD w A n c W) := ⟨h.cell, h⟩
theorem VD.grown {row : Option Nat} (h : VD w A n c W) (hg : W.grownBy W' row) (hr : ∀ k, row = some k → w.heap.size + 1 ≤ k) : VD w A n c W' := ⟨h.b.grown hg h.b.size fun k e => by have := hr k e; simpa using this⟩
theorem VD.size (h : VD w A n c W) : w.heap.size + 1 ≤ W.heap.size := by have := h.b.size; simpa using this
end
theorem vd_start (w : World) (A : Option Addr) (n c : Nat) : VD w A n c (W5 w A n c) := ⟨Below.refl _ _⟩
/-- What Segments gives. -/
def SegsPost (w : World) (fs : List FiD) (e : Ending) (w' : World) : Prop := ∃ v, e = .returned (.tuple #[v, .bool (!(segsB fs).isEmpty)]) ∧ OwnI w' w.heap.size v ((segsB fs).map Int.ofNat) ∧ Below w.heap.size w w'
theorem segsPost_no {w w' : World} {fs : List FiD} {v : Value} (h : segsB fs = []) (ho : OwnI w' w.heap.size v []) (hb : Below w.heap.size w w') : SegsPost w fs (.returned (.tuple #[v, .bool false])) w' := ⟨v, by rw [h]; rfl, by rw [h]; exact ho, hb⟩
theorem seg_head {n : Int} {s : ByteArray} : segPl n s = none ∧ headOfB n s = none ∨ ∃ f l pls, segPl n s = some (f, l, pls) ∧ headOfB n s = some (f, l) := by
  have h := segPl_head n s
  cases hs : segPl n s with
  | none => rw [hs] at h; exact .inl ⟨rfl, h.symm⟩
  | some x =>
    obtain ⟨f, l, pls⟩ := x
    rw [hs] at h
    exact .inr ⟨f, l, pls, rfl, h.symm⟩
theorem OwnI.mono {w : World} {B B' : Nat} {v : Value} {ns : List Int} (h : OwnI w B v ns) (hb : B' ≤ B) : OwnI w B' v ns := own_low h hb
theorem ownI_empty (w : World) {B : Nat} (hB : B ≤ w.heap.size) : OwnI (w.alloc (.cells #[] 3)) B (.slice (some ⟨w.heap.size, 0, none⟩) 0 0) [] := World.ownsRow_made (w := w) #[] 0 hB (Nat.zero_le _) rfl
theorem least_step {fs : List FiD} {n f : Nat} (h : hdFrom fs n = f) : leastB fs (n + 1) = max (leastB fs n) f := by rw [leastB, h]
theorem outs_yes {fs : List FiD} {a k : Nat} (h : a ≤ k) (hf : hasF fs k = true) : outsB fs a (k + 1) = outsB fs a k ++ [k] := by rw [outsB, if_pos ⟨h, hf⟩]
theorem outs_no {fs : List FiD} {a k : Nat} (hf : hasF fs k = false) : outsB fs a (k + 1) = outsB fs a k := by rw [outsB, if_neg (by simp [hf])]
end Go.Proofs.YtanebcllcgchcaaGreatDoor

namespace Go.Proofs.YtanebcllcgchcaaGreatDoor
set_option linter.unusedVariables false
set_option linter.unusedSimpArgs false
open Go.RowKit
attribute [local go_sem] bs_size List.length_cons List.length_nil List.length_append

theorem impl_Segments1_calls (x a : Int) (g : Nat) (w : World) (h : w.cell? ⟨g, 0, none⟩ = some (.int .i64 a)) :
    Calls Tryz.prog 69 #[.int .i64 x, .pointer (some ⟨g, 0, none⟩)] w fun e w' => e = .returned (.bool (decide (x < a))) ∧ w' = w := by
  by_cases hx : x < a
  · have hd : decide (x < a) = true := decide_eq_true hx
    go_enter Tryz.func69, Tryz.ntmps69
    go_wp2
    go_ret
    exact ⟨by first | rfl | exact ret_bool hd.symm | simp [hx], rfl⟩
  · have hd : decide (x < a) = false := decide_eq_false hx
    go_enter Tryz.func69, Tryz.ntmps69
    go_wp2
    go_ret
    exact ⟨by first | rfl | exact ret_bool hd.symm | simp [hx], rfl⟩
theorem sort_own {B : Nat} {v : Value} {ns : List Int} {w : World} (h : OwnI w B v ns) (hl : ns.length ≤ 1000000) :
    Calls Tryz.prog 67 #[v] w fun e w' => e = .returned (.tuple #[]) ∧ OwnI w' B v (ns.mergeSort fun x y => decide (x ≤ y)) ∧ w.grownBy w' v.ownBlock := by
  have hm : (ns.mergeSort fun x y => decide (x ≤ y)).length = ns.length := List.length_mergeSort _
  rcases h.2 with ⟨rfl, h0⟩ | ⟨g, cap, cur, rfl, hg, hb, h1, h2, h3, h4⟩
  · have hn : ns = [] := List.eq_nil_of_length_eq_zero h0
    subst hn
    refine (Any.slices_Sort_int_none Tryz.lays189 none 0 w).mono fun e w' ⟨he, hw⟩ => ?_
    subst hw
    exact ⟨he, by simpa using h, World.grownBy.refl _ _⟩
  · rw [Nat.mul_one] at h4
    refine (Tryz.slices_Sort_int g 0 cap ns w (holds_of_blockI hb h4) (Array.getElem?_eq_some_iff.1 hb).1 (by omega)).mono fun e w' ⟨he, n, os, hw⟩ => ?_
    subst hw
    refine ⟨he, ?_, grownBy_sortedI _⟩
    unfold OwnI
    rw [hm]
    exact ownsRow_sortedI hm hg hb h1 h2 h3
theorem OwnI.short {w : World} {B : Nat} {g cap : Nat} {xs zs : List Int} (h : OwnI w B (.slice (some ⟨g, 0, none⟩) (xs ++ zs).length cap) (xs ++ zs)) : OwnI w B (.slice (some ⟨g, 0, none⟩) xs.length cap) xs := by
  rcases h.2 with ⟨h0, _⟩ | ⟨g', cap', cur, e, hg, hb, h1, h2, h3, h4⟩
  · cases h0
  · cases e
    rw [List.length_append] at h1
    refine ⟨by simp, .inr ⟨g, cap, cur, rfl, hg, hb, by omega, h2, h3, ?_⟩⟩
    rw [Nat.mul_one] at h4 ⊢
    have := congrArg (List.take xs.length) h4
    rw [List.take_take, List.map_append, List.length_append, Nat.min_eq_left (by omega), List.take_left' (by simp)] at this
    exact this
set_option maxRecDepth 100000 in
theorem delete_own {B gl : Nat} {a : Int} {v : Value} {ns : List Int} {w : World} (h : OwnI w B v ns) (hl : ns.length ≤ 1000000) (hc : w.cell? ⟨gl, 0, none⟩ = some (.int .i64 a)) (hgl : gl < B) :
    Calls Tryz.prog 68 #[v, .func (.func 69) #[] #[.pointer (some ⟨gl, 0, none⟩)]] w fun e w' => ∃ v', e = .returned v' ∧ OwnI w' B v' (ns.filter fun x => !decide (x < a)) ∧ w.grownBy w' v.ownBlock := by
  have hgw := World.block_lt_of_cell? w _ hc
  rcases h.2 with ⟨rfl, h0⟩ | ⟨g, cap, cur, rfl, hg, hb, h1, h2, h3, h4⟩
  · have hn : ns = [] := List.eq_nil_of_length_eq_zero h0
    subst hn
    have HO := Lib.hid h
    clear h h0 hl hc hgl hgw
    go_enter Tryz.func68, Tryz.ntmps68
    go_wp2_with fail
    go_at_call 89
    refine (Tryz.slices_IndexFunc_empty (α := Int) none 0 _ _).mono ?_
    rintro e w' ⟨rfl, rfl⟩
    go_wp2
    go_ret
    exact ⟨_, rfl, HO.out, World.grownBy.refl _ _⟩
  · rw [Nat.mul_one] at h4
    have hns : ns.toArray.size = ns.length := by simp
    have key : ∀ (W : World) (x : Int), W.cell? ⟨gl, 0, none⟩ = some (.int .i64 a) → FnGives Tryz.prog 69 #[.pointer (some ⟨gl, 0, none⟩)] #[.int .i64 x] (.bool (decide (x < a))) W := fun W x hW =>
      (impl_Segments1_calls x a gl W hW).mono fun e w' ⟨he, hw⟩ => ⟨he, 0, by rw [hw]; rfl⟩
    have hD := Tryz.slices_DeleteFunc (Value.int .i64) (fun _ => rfl) (fun x : Int => decide (x < a)) 69 #[.pointer (some ⟨gl, 0, none⟩)] (fun _ _ => rfl) (0 : Int) (fun _ => rfl) g 0 cap ns.toArray w
      (fun W x hW => key W x ((hW.cell hgw).trans hc)) (fun n os dk x hs => key _ x ((World.cell?_of_block ((grownBy_sortedI (w := w) (g := g) (n := n) (os := os) dk).block gl hgw (by intro e; have := Option.some.inj e; omega))).trans hc)) (holds_of_blockI hb h4) (by rw [hns]; omega) (by rw [hns]; exact h1)
    rw [hns] at hD
    refine hD.mono fun e w' ⟨he, q, hw⟩ => ?_
    rw [show ns.toArray.toList = ns from rfl] at he hw
    generalize hF : ns.filter (fun x => !decide (x < a)) = F at he hw ⊢
    have hFl : F.length ≤ ns.length := by rw [← hF]; exact List.length_filter_le _ _
    have hz : (F ++ List.replicate (ns.length - F.length) (0 : Int)).length = ns.length := by rw [List.length_append, List.length_replicate]; omega
    have hw2 : w' = Sort.grow (Sort.putRow (Value.int .i64) (Sort.ahead w q) g 0 (F ++ List.replicate (ns.length - F.length) (0 : Int)).toArray) #[] := by rw [hw]; simp
    subst hw2
    refine ⟨_, he, ?_, grownBy_sortedI _⟩
    refine OwnI.short (zs := List.replicate (ns.length - F.length) (0 : Int)) ?_
    unfold OwnI
    rw [hz]
    exact ownsRow_sortedI hz hg hb h1 h2 h3
end Go.Proofs.YtanebcllcgchcaaGreatDoor

namespace Go.Proofs.YtanebcllcgchcaaGreatDoor
set_option linter.unusedVariables false
set_option linter.unusedSimpArgs false
open Go.RowKit
attribute [local go_sem] bs_size List.length_cons List.length_nil List.length_append

theorem diskOk_len {fs : List FiD} (h : diskOkB fs = true) : fs.length ≤ 30 := by
  unfold diskOkB at h
  rw [Bool.and_eq_true] at h
  exact of_decide_eq_true h.2
theorem fiRes_some (s : ByteArray) : fiRes (some s) = .tuple #[.string s, .bool true] := rfl
theorem hoUni (n : Nat) (t : ByteArray) : ∃ (l : Nat) (b : Bool), hoRes (headOfB (n : Int) t) = .tuple #[.int .i64 (fromOf n t : Int), .int .i64 (l : Int), .bool b] ∧ (b = true → ∃ f l, headOfB (n : Int) t = some (f, l)) ∧ (b = false → headOfB (n : Int) t = none) := by
  unfold fromOf
  cases h : headOfB (n : Int) t with
  | none => exact ⟨0, false, rfl, (fun e => by cases e), fun _ => rfl⟩
  | some p => obtain ⟨f, l⟩ := p; exact ⟨l, true, rfl, (fun _ => ⟨f, l, rfl⟩), fun e => by cases e⟩
theorem sentB {w w' : World} (h : Sent w) (hb : Below w.heap.size w w') : Sent w' := h.below hb h.big
theorem grown_setI {w wr : World} {b : Nat} (h : w.grownBy wr (some b)) (j : Nat) (v : Value) : w.grownBy (wr.setCell ⟨b, j, none⟩ v) (some b) :=
  ⟨h.os, h.tape, h.output, by simpa using h.size, fun i hi hne => (Below.heap_setCell wr ⟨b, j, none⟩ v i (fun e => hne (by rw [e]))).trans (h.block i hi hne)⟩
/-- The program's loops' memory: the disk's box, the least's cell, the row of numbers. -/
structure SI (w : World) (A : Option Addr) (n c gl : Nat) (a : Int) (v : Value) (ns : List Int) (W : World) : Prop where
  vd : VD w A n c W
  far : w.heap.size + 1 ≤ gl
  least : W.heap[gl]? = some (.cells #[.int .i64 a] 3)
  row : OwnI W (gl + 1) v ns
section
variable {w W W' : World} {A : Option Addr} {n c gl : Nat} {a : Int} {v : Value} {ns : List Int}
theorem SI.go (h : SI w A n c gl a v ns W) (hb : Below W.heap.size W W') : SI w A n c gl a v ns W' := ⟨h.vd.go hb, h.far, blk_below h.least hb, h.row.below hb⟩
theorem SI.alloc (h : SI w A n c gl a v ns W) (o : Obj) : SI w A n c gl a v ns (W.alloc o) := h.go ((Below.refl _ _).alloc (Nat.le_refl _) _)
theorem SI.same {a' : Int} {ns' : List Int} (h : SI w A n c gl a v ns W) (ha : a' = a) (hn : ns' = ns) : SI w A n c gl a' v ns' W := by subst ha hn; exact h
theorem SI.lt (h : SI w A n c gl a v ns W) : gl + 1 ≤ W.heap.size := blk_lt h.least
theorem SI.all (h : SI w A n c gl a v ns W) : W.cell? ⟨w.heap.size, 0, none⟩ = some (.slice A n c) ∧ Hid (SI w A n c gl a v ns W) := ⟨h.vd.cell, h⟩
theorem SI.set (h : SI w A n c gl a v ns W) (b : Int) : SI w A n c gl b v ns (W.setCell ⟨gl, 0, none⟩ (.int .i64 b)) := by
  have hg : W.grownBy (W.setCell ⟨gl, 0, none⟩ (.int .i64 b)) (some gl) := grown_setI (World.grownBy.refl W _) 0 _
  refine ⟨h.vd.grown hg fun k e => by cases e; exact h.far, h.far, by rw [blk_set h.least]; rfl, World.ownsRow.kept h.row hg ?_⟩
  cases hv : v.ownBlock with
  | none => exact .inl rfl
  | some k => exact .inr fun e => by have := (h.row.lt k hv).1; cases e; omega
theorem SI.put {v' : Value} {ns' : List Int} (h : SI w A n c gl a v ns W) (hg : W.grownBy W' v.ownBlock) (ho : OwnI W' (gl + 1) v' ns') : SI w A n c gl a v' ns' W' :=
  ⟨h.vd.grown hg fun k e => by have := (h.row.lt k e).1; have := h.far; omega, h.far, (hg.block gl (blk_lt h.least) (fun e => by have := (h.row.lt gl e.symm).1; omega)).trans h.least, ho⟩
end
set_option maxHeartbeats 8000000 in
set_option maxRecDepth 100000 in
theorem impl_Segments_calls (A : Option Addr) (c : Nat) (fs : List FiD) (w : World) (h : FiRow w A c fs) (hP : Pow w) (hE : Sent w) :
    Calls Tryz.prog 41 #[.agg #[.slice A fs.length c]] w (SegsPost w fs) := by
  obtain ⟨i0, hi0, hz, hsz, hby⟩ := info_parts info_int
  have hmf : ∀ (fn : Fn) (first cap : Array Value) (w : World), (Instr.makeFunc fn first cap).run Tryz.prog w = .ok (.func fn first cap) w := fun _ _ _ _ => rfl
  have HF := Lib.hid h
  have hl := h.len
  have HPW := Lib.hid hP
  have HEW := Lib.hid hE
  have HV := Lib.hid (vd_start w A fs.length c)
  have p0 := HV.out.cell
  clear h hP hE
  cases hdk : diskOkB fs
  · have HDK := Lib.hid hdk
    have HE := Lib.hid (segs_no hdk)
    clear hdk
    go_enter Tryz.func41, Tryz.ntmps41
    go_wp2_with fail
    go_at_call 36
    refine (impl_DiskOk_calls A c fs _ (HF.out.below HV.out.from_)).mono ?_
    rw [HDK.out]
    rintro e w3 ⟨rfl, hb3⟩
    have HV3 := Lib.hid (HV.out.go hb3)
    clear hb3 p0
    go_wp2
    go_ret2
    exact segsPost_no HE.out (World.ownsRow_nil _ _ _ _) HV3.out.from_
  · have HDK := Lib.hid hdk
    clear hdk
    go_enter Tryz.func41, Tryz.ntmps41
    go_wp2_with fail
    go_at_call 36
    refine (impl_DiskOk_calls A c fs _ (HF.out.below HV.out.from_)).mono ?_
    rw [HDK.out]
    rintro e w3 ⟨rfl, hb3⟩
    have HV3 := Lib.hid (HV.out.go hb3)
    have HS3 : Hid (SI w A fs.length c w3.heap.size 0 (.slice none 0 0) [] (w3.alloc (.cells #[.int .i64 0] 3))) := ⟨HV3.out.alloc _, HV3.out.size, blk_new _ _, World.ownsRow_nil _ _ _ _⟩
    have p1 := HS3.out.vd.cell
    clear hb3 p0
    go_wp2
    go_loopw [4, 25] (fun av iv wr => ∃ i : Nat, i ≤ fs.length ∧ iv = .int .i64 (i : Int) ∧ Hid (SI w A fs.length c w3.heap.size (leastI (fs.take i) : Int) av ((numsB (fs.take i)).map Int.ofNat) wr)) (fun _ iv _ => fs.length - (intOf iv).toNat)
    case atStart => exact ⟨0, Nat.zero_le _, rfl, HS3⟩
    case round =>
      obtain ⟨i, hi, rfl, HS⟩ := hrel
      clear p1
      by_cases hlt : i < fs.length
      · obtain ⟨ad, x, hA, HX, hz1, hz2, hc0, hc1, hc2⟩ := (HF.out.below HS.out.vd.from_).at_ hlt
        cases hA
        have hsm := diskOk_small HDK.out (List.mem_of_getElem? HX.out)
        have HNS := Lib.hid (nums_step HX.out)
        have HLS := Lib.hid (leastI_step HX.out)
        have hll : leastI (fs.take i) ≤ 99 := leastI_le
        have hll2 : leastI (fs.take (i + 1)) ≤ 99 := leastI_le
        have hnl := nums_len fs i
        have hf30 := diskOk_len HDK.out
        obtain ⟨nm, tx, k⟩ := x
        dsimp only at hz1 hz2 hc0 hc1 hc2 hsm HNS HLS
        have HS4 := Lib.hid (HS.out.alloc (.cells #[.string nm, .string tx, .int .i64 k] 50))
        have HBX : Hid ((wr.alloc (.cells #[.string nm, .string tx, .int .i64 k] 50)).heap[wr.heap.size]? = some (.cells #[.string nm, .string tx, .int .i64 k] 50 (0, 0))) := blk_new _ _
        have hf := HS4.out.vd.from_
        have HPP := Lib.hid (HPW.out.below hf)
        have HEE := Lib.hid (sentB HEW.out hf)
        clear hf
        go_wp2_with fail
        go_at_call 65
        refine (impl_segNumber_calls nm _ (by omega) HPP.out HEE.out).mono ?_
        rintro e w5 ⟨rfl, hb5⟩
        have HS5 := Lib.hid (HS4.out.go hb5)
        have HBX5 := Lib.hid (blk_below HBX.out hb5)
        clear hb5
        cases hno : segNo nm with
        | none =>
          have HST := Lib.hid (HS5.out.same (a' := (leastI (fs.take (i + 1)) : Int)) (ns' := (numsB (fs.take (i + 1))).map Int.ofNat) (by rw [HLS.out, hno]) (by rw [HNS.out, hno]; simp))
          have hneg : noInt none = -1 := rfl
          clear HNS HLS hno hc0 hc1 hc2
          go_wp2
          go_roundw
          case rel => first | exact ⟨i + 1, by omega, by go_num, HST⟩ | (repeat (first | (refine ⟨?relx, rfl⟩; exact ⟨i + 1, by omega, by go_num, HST⟩) | (refine ⟨?relx, ?eqs⟩; (case eqs => (and_intros <;> rfl)); exact ⟨i + 1, by omega, by go_num, HST⟩) | apply Exists.intro))
          case measure => simp [intOf]; omega
        | some m =>
          have hm99 := (segNo_some hno).1
          rw [hno] at HNS HLS
          dsimp only at HNS HLS
          obtain ⟨A2, c2, hv⟩ := HS5.out.row.form
          rw [List.length_map] at hv
          subst hv
          have HS6 := Lib.hid (HS5.out.alloc (.cells #[.int .i64 (m : Int)] 3))
          have HNEWS : Hid (∀ j u, [Value.int .i64 (m : Int)][j]? = some u → (w5.alloc (.cells #[.int .i64 (m : Int)] 3)).cell? ((⟨w5.heap.size, 0, none⟩ : Addr).add j) = some u) := World.news_of_block (heap_alloc_new w5 _)
          have HLL : Hid ((numsB (fs.take i)).length = ((numsB (fs.take i)).map Int.ofNat).length) := by rw [Hid, List.length_map]
          have x1 : w5.cell? ⟨wr.heap.size, 1, none⟩ = some (.string tx) := blk_cell HBX5.out 1
          have hmi : ¬ (m : Int) < 0 := by omega
          have HROWLT : Hid (∀ k, (Value.slice A2 (numsB (fs.take i)).length c2).ownBlock = some k → k < wr.heap.size) := fun k hk => (HS.out.row.lt k hk).2
          have HNOI : Hid (noInt (some m) = (m : Int)) := rfl
          clear hno hc0 hc1 hc2 x1
          rw [HNOI.out]
          go_wp2_with (at_builtin; refine wpList_append_lies _ rfl _ _ _ rfl (w3.heap.size + 1) 3 i0 (.int .i64 0) 1 8 Tryz.underlying44 hi0 hz hsz hby rfl (by omega) (.slice A2 (numsB (fs.take i)).length c2) (numsB (fs.take i)).length (((numsB (fs.take i)).map Int.ofNat).map (Value.int .i64)) rfl (by have := HS6.out.row; unfold OwnI at this; rwa [← HLL.out] at this) ⟨w5.heap.size, 0, none⟩ 1 1 [.int .i64 (m : Int)] rfl rfl HNEWS.out (by simp [Value.oneCell']) (by omega) (by unfold maxLen; omega) (by omega) HS6.out.lt _ rfl ?_; intro gg cap w7 hown hgrow hat hlt2; have HOWN := Lib.hid hown; have HGR := Lib.hid hgrow; have y1 : w7.cell? ⟨wr.heap.size, 1, none⟩ = some (.string tx) := blk_cell (((hgrow.block wr.heap.size (by have := blk_lt HBX5.out; simp; omega) (fun e => Nat.lt_irrefl _ (HROWLT.out _ e.symm)))).trans (blk_below HBX5.out ((Below.refl _ _).alloc (Nat.le_refl _) _))) 1; clear hown hgrow hat hlt2)
          have HPU : Hid (OwnI w7 (w3.heap.size + 1) (.slice (some ⟨gg, 0, none⟩) ((numsB (fs.take i)).length + 1) cap) ((numsB (fs.take (i + 1))).map Int.ofNat)) := by
            rw [Hid, HNS.out, OwnI, List.map_append, List.map_append, List.length_append, ← HLL.out]
            exact HOWN.out
          have HS7 := Lib.hid (HS6.out.put HGR.out HPU.out)
          clear HOWN HGR HPU
          obtain ⟨l, okh, hho, _, _⟩ := hoUni m tx
          have HHO := Lib.hid hho
          have hfm : fromOf m tx ≤ 99 := by have h1 := hll2; rw [HLS.out] at h1; exact (Nat.max_le.1 h1).2
          have HLS2 : Hid (((leastI (fs.take (i + 1)) : Nat) : Int) = max (leastI (fs.take i) : Int) (fromOf m tx : Int)) := by
            rw [Hid, HLS.out]
            rcases Nat.le_total (leastI (fs.take i)) (fromOf m tx) with h | h
            · rw [Nat.max_eq_right h, Int.max_eq_right (by omega)]
            · rw [Nat.max_eq_left h, Int.max_eq_left (by omega)]
          clear hho y1
          go_wp2_with fail
          go_at_call 66
          refine (impl_headOf_calls (m : Int) tx _ (by omega)).mono ?_
          rw [HHO.out]
          rintro e w8 ⟨rfl, hb8⟩
          have HS8 := Lib.hid (HS7.out.go hb8)
          have z0 : w8.cell? ⟨w3.heap.size, 0, none⟩ = some (.int .i64 (leastI (fs.take i) : Int)) := blk_cell HS8.out.least 0
          have zf := blk_frozen HS8.out.least 0
          clear hb8
          go_wp2
          have HS9 := Lib.hid ((HS8.out.set (max (leastI (fs.take i) : Int) (fromOf m tx : Int))).same HLS2.out rfl)
          go_roundw
          case rel => first | exact ⟨i + 1, by omega, by go_num, HS9⟩ | (repeat (first | (refine ⟨?relx, rfl⟩; exact ⟨i + 1, by omega, by go_num, HS9⟩) | (refine ⟨?relx, ?eqs⟩; (case eqs => (and_intros <;> rfl)); exact ⟨i + 1, by omega, by go_num, HS9⟩) | apply Exists.intro))
          case measure => simp [intOf]; omega
      · obtain rfl : i = fs.length := by omega
        have hll : leastI (fs.take fs.length) ≤ 99 := leastI_le
        have hnl := nums_len fs fs.length
        have hf30 := diskOk_len HDK.out
        rw [List.take_length] at HS hll hnl
        obtain ⟨a, ha⟩ : ∃ a, leastI fs = a := ⟨_, rfl⟩
        rw [ha] at HS hll
        have HQ1 : Hid (∀ m, a ≤ m → m < 100 → hasF fs m = true → badF fs m = true → segsB fs = []) := fun m h1 h2 h3 h4 => segs_bad (n := m) (by unfold allB; rw [← leastI_eq HDK.out, ha]; exact (outs_mem fs).2 ⟨h1, h2, h3⟩) h4
        have HQ2 : Hid (∀ k, k = 100 → (∀ m ∈ outsB fs a k, badF fs m = false) → segsB fs = outsB fs a k) := fun k hk h1 => by
          subst hk
          have h2 := segs_good HDK.out (by unfold allB; rw [← leastI_eq HDK.out, ha]; exact h1)
          unfold allB at h2
          rwa [← leastI_eq HDK.out, ha] at h2
        obtain ⟨k, hk⟩ : ∃ k, k = 100 := ⟨_, rfl⟩
        have HSO : Hid (((((numsB fs).map Int.ofNat).mergeSort fun x y => decide (x ≤ y)).filter fun x => !decide (x < (a : Int))) = (outsB fs a k).map Int.ofNat) := by rw [hk]; exact sorted_outs (nums_nodup HDK.out) (nums_mem HDK.out)
        have HOM : Hid (∀ m, m ∈ outsB fs a k ↔ a ≤ m ∧ m < k ∧ hasF fs m = true) := fun m => outs_mem fs
        have HOK : Hid ((∀ m ∈ outsB fs a k, badF fs m = false) → segsB fs = outsB fs a k) := HQ2.out k hk
        have hol : (outsB fs a k).length ≤ 100 := by have := outs_len fs (a := a) (k := k); omega
        have HK := Lib.hid hk
        generalize outsB fs a k = L at HSO HOM HOK hol
        clear HQ2 hk ha
        go_wp2_with fail
        go_at_call 67
        refine (sort_own HS.out.row (by rw [List.length_map]; omega)).mono ?_
        rintro e w5 ⟨rfl, ho5, hg5⟩
        have HS5 := Lib.hid (HS.out.put hg5 ho5)
        have z0 : w5.cell? ⟨w3.heap.size, 0, none⟩ = some (.int .i64 (a : Int)) := blk_cell HS5.out.least 0
        have HZ0 := Lib.hid z0
        clear ho5 hg5 z0
        go_wp2_with fail
        go_at_call 68
        refine (delete_own HS5.out.row (by rw [List.length_mergeSort, List.length_map]; omega) HZ0.out (Nat.lt_succ_self _)).mono ?_
        rw [HSO.out]
        rintro e w6 ⟨v6, rfl, ho6, hg6⟩
        have HS6 := Lib.hid (HS5.out.put hg6 ho6)
        obtain ⟨A6, c6, hv6⟩ := ho6.form
        rw [List.length_map] at hv6
        subst hv6
        clear ho6 hg6
        go_wp2
        go_loopw [57] (fun iv wr => ∃ j : Nat, j ≤ L.length ∧ iv = .int .i64 (j : Int) ∧ Hid (∀ m ∈ L.take j, badF fs m = false) ∧ Hid (SI w A fs.length c w3.heap.size (a : Int) (.slice A6 L.length c6) (L.map Int.ofNat) wr)) (fun iv _ => L.length - (intOf iv).toNat)
        case atStart => exact ⟨0, Nat.zero_le _, rfl, (fun m hm => by simp at hm), HS6⟩
        case round =>
          obtain ⟨j, hj, rfl, HG, HR⟩ := hrel
          by_cases hlt : j < L.length
          · obtain ⟨m, hm⟩ : ∃ m, L[j]? = some m := ⟨_, List.getElem?_eq_getElem hlt⟩
            obtain ⟨hma, hmk, hmf⟩ := (HOM.out m).1 (List.mem_of_getElem? hm)
            have hm100 : m < 100 := by have := HK.out; omega
            obtain ⟨b6, hA6, hc6⟩ := HR.out.row.at_ (j := j) (x := (m : Int)) (by rw [List.getElem?_map, hm]; rfl)
            subst hA6
            obtain ⟨t, hft⟩ : ∃ t, fileB fs (segNm (m : Int)) = some t := by
              unfold hasF at hmf
              cases hf : fileB fs (segNm (m : Int)) with
              | none => rw [hf] at hmf; cases hmf
              | some t => exact ⟨t, rfl⟩
            have hts := fileB_small HDK.out hft
            obtain ⟨l, okh, hho, hh1, hh2⟩ := hoUni m t
            have HHO := Lib.hid hho
            have HH1 := Lib.hid hh1
            have HH2 := Lib.hid hh2
            have HM := Lib.hid hm
            have HMA := Lib.hid hma
            have HMF := Lib.hid hmf
            have HFT := Lib.hid hft
            have HRD := Lib.hid (HR.out.go (Below.drew (Below.refl _ _)))
            have HPP := Lib.hid (HPW.out.below HRD.out.vd.from_)
            clear hho hh1 hh2 hm hma hmf hft hmk
            go_wp2_with fail
            go_region_held3 (fun w' => w'.cell? ⟨w.heap.size, 0, none⟩ = some (.slice A fs.length c) ∧ Hid (SI w A fs.length c w3.heap.size (a : Int) (.slice (some ⟨b6, 0, none⟩) L.length c6) (L.map Int.ofNat) w')) (first | exact HRD.out.all | exact (HRD.out.go (by assumption)).all | exact ((HRD.out.go (by assumption)).go (by assumption)).all) (first | (go_at_call 18; refine (impl_SegNm_calls (m : Int) _ HPP.out).mono ?_; rintro e w' ⟨rfl, hb⟩) | (go_at_call 35; refine (impl_FileAt_calls (segNm (m : Int)) A c fs _ (HF.out.below (HRD.out.go (by assumption)).vd.from_)).mono ?_; rw [HFT.out, fiRes_some]; rintro e w'' ⟨rfl, hb⟩))
            have HR2 := (‹_ ∧ Hid (SI w A fs.length c w3.heap.size (a : Int) (.slice (some ⟨b6, 0, none⟩) L.length c6) (L.map Int.ofNat) _)›).2
            go_wp2_with fail
            go_at_call 66
            refine (impl_headOf_calls (m : Int) t _ (by omega)).mono ?_
            rw [HHO.out]
            rintro e w8 ⟨rfl, hb8⟩
            have HR8 := Lib.hid (HR2.out.go hb8)
            clear hb8
            cases okh
            · have hbd := hd_bad HFT.out (HH2.out rfl)
              have HE := Lib.hid (HQ1.out m HMA.out hm100 HMF.out hbd.2.2)
              clear hbd
              go_wp2
              go_ret2
              exact segsPost_no HE.out (World.ownsRow_nil _ _ _ _) HR8.out.vd.from_
            · have HGD : Hid (badF fs m = false) := by
                obtain ⟨f, l, h⟩ := HH1.out rfl
                exact (hd_good HFT.out h).2.2
              have HG2 : Hid (∀ x ∈ L.take (j + 1), badF fs x = false) := fun x hx => by
                rw [take_snoc HM.out] at hx
                rcases List.mem_append.1 hx with hx | hx
                · exact HG.out x hx
                · obtain rfl := List.mem_singleton.1 hx
                  exact HGD.out
              go_wp2
              go_roundw
              case rel => first | exact ⟨j + 1, by omega, by go_num, HG2, HR8⟩ | (repeat (first | (refine ⟨?relx, rfl⟩; exact ⟨j + 1, by omega, by go_num, HG2, HR8⟩) | (refine ⟨?relx, ?eqs⟩; (case eqs => (and_intros <;> rfl)); exact ⟨j + 1, by omega, by go_num, HG2, HR8⟩) | apply Exists.intro))
              case measure => simp [intOf]; omega
          · obtain rfl : j = L.length := by omega
            have HE : Hid (segsB fs = L) := HOK.out (by have := HG.out; rw [List.take_length] at this; exact this)
            clear HG HOM HOK HSO HQ1 HK
            cases L with
            | nil =>
              go_wp2
              go_ret2
              exact segsPost_no HE.out (World.ownsRow_nil _ _ _ _) HR.out.vd.from_
            | cons m L =>
              have h0 : (((m :: L).length : Int) == 0) = false := by
                rw [List.length_cons]
                exact beq_eq_false_iff_ne.mpr (by omega)
              have h00 : ((L.length : Int) + 1 == 0) = false := beq_eq_false_iff_ne.mpr (by omega)
              go_wp2
              go_ret2
              refine ⟨_, ?_, by rw [HE.out]; exact HR.out.row.mono (by have := HR.out.far; omega), HR.out.vd.from_⟩
              rw [HE.out]
              rfl
end Go.Proofs.YtanebcllcgchcaaGreatDoor

namespace Go.Proofs.YtanebcllcgchcaaGreatDoor
set_option linter.unusedVariables false
set_option linter.unusedSimpArgs false
open Go.RowKit
attribute [local go_sem] bs_size List.length_cons List.length_nil List.length_append

theorem fiRes_get (o : Option ByteArray) : fiRes o = .tuple #[.string (o.getD ⟨#[]⟩), .bool o.isSome] := by cases o <;> rfl
theorem get_small {fs : List FiD} {n : ByteArray} (h : diskOkB fs = true) : ((fileB fs n).getD ⟨#[]⟩).size ≤ 20000 := by
  cases hf : fileB fs n with
  | none => decide
  | some t => exact fileB_small h hf
theorem segs_disk {fs : List FiD} {i n : Nat} (h : (segsB fs)[i]? = some n) : diskOkB fs = true ∧ n ≤ 99 := by
  have hm := List.mem_of_getElem? h
  refine ⟨?_, by have := (segs_lt hm).1; omega⟩
  cases hd : diskOkB fs with
  | true => rfl
  | false => rw [segs_no hd] at hm; simp at hm
/-- The disk's box and the list of segments. -/
structure SR (w : World) (A : Option Addr) (n c : Nat) (v : Value) (ns : List Int) (W : World) : Prop where
  vd : VD w A n c W
  row : OwnI W (w.heap.size + 1) v ns
section
variable {w W W' : World} {A : Option Addr} {n c : Nat} {v : Value} {ns : List Int}
theorem SR.go (h : SR w A n c v ns W) (hb : Below W.heap.size W W') : SR w A n c v ns W' := ⟨h.vd.go hb, h.row.below hb⟩
end
theorem BatsOwn.cells0 {w : World} {B : Nat} {A : Option Addr} {n c j : Nat} {bs : List BatD} {q : Int} {cs : List ChD} (h : BatsOwn w B (.slice A n c) bs) (hj : bs[j]? = some (q, cs)) :
    ∃ g, A = some ⟨g, 0, none⟩ ∧ w.cell? ⟨g, j * 2, none⟩ = some (.int .i64 q) := by
  obtain ⟨b, u, e, hc, _, _⟩ := ListC.at_ h (fun _ => rfl) hj
  exact ⟨b, e, by have := hc 0 (by omega); exact this⟩
theorem placedGo_len' : ∀ (rs : List ByteArray) (last : Option Int) (a : Nat), (placedGo last a rs).length ≤ rs.length := placedGo_len
theorem bats_len (fs : List FiD) (n : Nat) : (batsAt fs n).length ≤ 20000 := by
  unfold batsAt
  cases h : segPl (n : Int) ((fileB fs (segNm (n : Int))).getD ⟨#[]⟩) with
  | none => simp
  | some p => obtain ⟨f, l, pls⟩ := p; exact (segPl_bound h).2.1
end Go.Proofs.YtanebcllcgchcaaGreatDoor

namespace Go.Proofs.YtanebcllcgchcaaGreatDoor
set_option linter.unusedVariables false
set_option linter.unusedSimpArgs false
open Go.RowKit
attribute [local go_sem] bs_size List.length_cons List.length_nil List.length_append

theorem plUni (fs : List FiD) (m : Nat) (t : ByteArray) (h : (fileB fs (segNm (m : Int))).getD ⟨#[]⟩ = t) : ∃ (f : Nat) (ok : Bool), ∀ (w : World) (e : Ending) (w' : World), PlPost w (segPl (m : Int) t) e w' → ∃ v, e = .returned (.tuple #[.int .i64 (f : Int), v, .bool ok]) ∧ PlOwn w' w.heap.size v (batsAt fs m) ∧ Below w.heap.size w w' := by
  unfold batsAt
  rw [h]
  cases hs : segPl (m : Int) t with
  | none => exact ⟨0, false, fun w e w' hp => ⟨_, hp.2, ListC.nil _ _, hp.1⟩⟩
  | some p =>
    obtain ⟨f, l, pls⟩ := p
    exact ⟨f, true, fun w e w' hp => by obtain ⟨hb, v, he, ho⟩ := hp; exact ⟨v, he, ho, hb⟩⟩
set_option maxHeartbeats 8000000 in
set_option maxRecDepth 100000 in
theorem impl_SeqsRise_calls (A : Option Addr) (c : Nat) (fs : List FiD) (w : World) (h : FiRow w A c fs) (hP : Pow w) (hE : Sent w) :
    Calls Tryz.prog 40 #[.agg #[.slice A fs.length c]] w fun e w' => e = .returned (.bool (riseB fs)) ∧ Below w.heap.size w w' := by
  have HF := Lib.hid h
  have HPW := Lib.hid hP
  have HV := Lib.hid (vd_start w A fs.length c)
  have p0 := HV.out.cell
  have hw5 : (W5 w A fs.length c).heap.size = w.heap.size + 1 := by simp
  have HDS : Hid (∀ i n, (segsB fs)[i]? = some n → diskOkB fs = true ∧ n ≤ 99) := fun i n hi => segs_disk hi
  have hsl := segs_len fs
  have HRB : Hid (riseB fs = riseL (segsB fs) (seqsAt fs)) := rfl
  have HFW := Lib.hid (HF.out.below HV.out.from_)
  have HSP := Lib.hid (impl_Segments_calls A c fs _ HFW.out (HPW.out.below HV.out.from_) (sentB hE HV.out.from_))
  unfold SegsPost at HSP
  rw [hw5] at HSP
  generalize segsB fs = L at HDS hsl HRB HSP
  clear h hw5 hP hE
  go_enter Tryz.func40, Tryz.ntmps40
  go_wp2_with fail
  go_at_call 41
  refine HSP.out.mono ?_
  rintro e w1 ⟨v1, rfl, ho1, hb1⟩
  obtain ⟨A1, c1, hv1⟩ := ho1.form
  rw [List.length_map] at hv1
  subst hv1
  have HS1 : Hid (SR w A fs.length c (.slice A1 L.length c1) (L.map Int.ofNat) w1) := ⟨HV.out.go (hb1.mono (by simp)), ho1⟩
  clear ho1 hb1 p0 HSP
  go_wp2
  go_loopw [5, 22] (fun lv iv wr => ∃ (i : Nat) (l : Int), i ≤ L.length ∧ iv = .int .i64 (i : Int) ∧ lv = .int .i64 l ∧ Hid (RiseAt L (seqsAt fs) i 0 l) ∧ Hid (SR w A fs.length c (.slice A1 L.length c1) (L.map Int.ofNat) wr)) (fun _ iv _ => L.length - (intOf iv).toNat)
  case atStart => exact ⟨0, -1, Nat.zero_le _, rfl, rfl, rise_start _ _, HS1⟩
  case round =>
    obtain ⟨i, l, hi, rfl, rfl, HR, HS⟩ := hrel
    by_cases hlt : i < L.length
    · obtain ⟨m, hm⟩ : ∃ m, L[i]? = some m := ⟨_, List.getElem?_eq_getElem hlt⟩
      have hdm := HDS.out i m hm
      obtain ⟨b1, hA1, hc1⟩ := HS.out.row.at_ (j := i) (x := (m : Int)) (by rw [List.getElem?_map, hm]; rfl)
      subst hA1
      have HM := Lib.hid hm
      have HDK := Lib.hid hdm.1
      have HSD := Lib.hid (HS.out.go (Below.drew (Below.refl _ _)))
      have HPP := Lib.hid (HPW.out.below HSD.out.vd.from_)
      obtain ⟨t, ht⟩ : ∃ t, (fileB fs (segNm (m : Int))).getD ⟨#[]⟩ = t := ⟨_, rfl⟩
      have hts : t.size ≤ 20000 := by rw [← ht]; exact get_small hdm.1
      obtain ⟨f, okp, hpl⟩ := plUni fs m t ht
      have HPL := Lib.hid hpl
      have hres := fiRes_get (fileB fs (segNm (m : Int)))
      rw [ht] at hres
      generalize (fileB fs (segNm (m : Int))).isSome = ob at hres
      have HRES := Lib.hid hres
      have hbl := bats_len fs m
      have HSQ : Hid (seqsAt fs m = (batsAt fs m).map fun p => p.1.1) := rfl
      generalize batsAt fs m = S at hbl HSQ HPL
      clear hm hdm ht hpl hres
      go_wp2_with fail
      go_region_held3 (fun w' => w'.cell? ⟨w.heap.size, 0, none⟩ = some (.slice A fs.length c) ∧ Hid (SR w A fs.length c (.slice (some ⟨b1, 0, none⟩) L.length c1) (L.map Int.ofNat) w')) (first | exact ⟨HSD.out.vd.cell, HSD.out⟩ | exact ⟨(HSD.out.go (by assumption)).vd.cell, HSD.out.go (by assumption)⟩ | exact ⟨((HSD.out.go (by assumption)).go (by assumption)).vd.cell, (HSD.out.go (by assumption)).go (by assumption)⟩) (first | (go_at_call 18; refine (impl_SegNm_calls (m : Int) _ HPP.out).mono ?_; rintro e w' ⟨rfl, hb⟩) | (go_at_call 35; refine (impl_FileAt_calls (segNm (m : Int)) A c fs _ (HF.out.below (HSD.out.go (by assumption)).vd.from_)).mono ?_; rw [HRES.out]; rintro e w'' ⟨rfl, hb⟩))
      have HS7 := (‹_ ∧ Hid (SR w A fs.length c (.slice (some ⟨b1, 0, none⟩) L.length c1) (L.map Int.ofNat) _)›).2
      go_wp2_with fail
      go_at_call 64
      refine (impl_placedIn_calls (m : Int) t _ (by omega)).mono ?_
      rintro e w8 hp
      obtain ⟨v8, rfl, ho8, hb8⟩ := HPL.out _ _ _ hp
      obtain ⟨A8, c8, hv8⟩ := ListC.form ho8
      subst hv8
      have HO8 := Lib.hid ho8
      have HS8 := Lib.hid (HS7.out.go hb8)
      clear hp ho8 hb8
      go_wp2
      go_loopw [5, 42] (fun lv kv wr2 => ∃ (j : Nat) (l' : Int), j ≤ S.length ∧ kv = .int .i64 (j : Int) ∧ lv = .int .i64 l' ∧ Hid (RiseAt L (seqsAt fs) i j l') ∧ Hid (Below w8.heap.size w8 wr2)) (fun _ kv _ => S.length - (intOf kv).toNat)
      case atStart => exact ⟨0, l, Nat.zero_le _, rfl, rfl, HR, Below.refl _ _⟩
      case round =>
        obtain ⟨j, l', hj, rfl, rfl, HR2, HB2⟩ := hrel
        by_cases hlt2 : j < S.length
        · obtain ⟨⟨⟨q, cs⟩, a, z⟩, hp⟩ : ∃ p, S[j]? = some p := ⟨_, List.getElem?_eq_getElem hlt2⟩
          obtain ⟨g, u, hA8, hcc, hu, hsm⟩ := ListC.at_ (ListC.below HO8.out HB2.out) (fun _ => rfl) hp
          subst hA8
          obtain ⟨Au, cu, hform, _⟩ := hu.row hsm
          dsimp only at hform
          subst hform
          have k0 := hcc 0 (by omega)
          have k1 := hcc 1 (by omega)
          have k2 := hcc 2 (by omega)
          have k3 := hcc 3 (by omega)
          simp only [plVals, Nat.add_zero, List.getElem?_cons_zero, List.getElem?_cons_succ] at k0 k1 k2 k3
          have HQ : Hid ((seqsAt fs m)[j]? = some q) := by rw [Hid, HSQ.out, List.getElem?_map, hp]; rfl
          have HB3 := Lib.hid (HB2.out.alloc HB2.out.size (.cells #[.int .i64 q, .slice Au cs.length cu, .int .i64 (a : Int), .int .i64 (z : Int)] 113))
          have hjl : (j : Int) < (S.length : Int) := by omega
          clear hp hcc hu hsm
          by_cases hq : q ≤ l'
          · have HE := Lib.hid (rise_bad HR2.out HM.out HQ.out hq)
            have HF9 := Lib.hid (HS8.out.vd.go HB3.out).from_
            go_wp2
            go_ret
            exact ⟨by rw [HRB.out, HE.out]; rfl, HF9.out⟩
          · have HN := Lib.hid (rise_in HR2.out HM.out HQ.out hq)
            go_wp2
            go_roundw
            case rel => first | exact ⟨j + 1, q, by omega, by go_num, rfl, HN, HB3⟩ | (repeat (first | (refine ⟨?relx, rfl⟩; exact ⟨j + 1, q, by omega, by go_num, rfl, HN, HB3⟩) | (refine ⟨?relx, ?eqs⟩; (case eqs => (and_intros <;> rfl)); exact ⟨j + 1, q, by omega, by go_num, rfl, HN, HB3⟩) | apply Exists.intro))
            case measure => simp [intOf]; omega
        · obtain rfl : j = S.length := by omega
          have HN := Lib.hid (rise_next HR2.out HM.out (by rw [HSQ.out, List.length_map]; exact Nat.le_refl _))
          have HS9 := Lib.hid (HS8.out.go HB2.out)
          go_wp2
          go_roundw
          case rel => first | exact ⟨i + 1, l', by omega, by go_num, rfl, HN, HS9⟩ | (repeat (first | (refine ⟨?relx, rfl⟩; exact ⟨i + 1, l', by omega, by go_num, rfl, HN, HS9⟩) | (refine ⟨?relx, ?eqs⟩; (case eqs => (and_intros <;> rfl)); exact ⟨i + 1, l', by omega, by go_num, rfl, HN, HS9⟩) | apply Exists.intro))
          case measure => simp [intOf]; omega
    · obtain rfl : i = L.length := by omega
      have HE := Lib.hid (rise_end HR.out (Nat.le_refl _))
      go_wp2
      go_ret
      exact ⟨by rw [HRB.out, HE.out]; rfl, HS.out.vd.from_⟩
end Go.Proofs.YtanebcllcgchcaaGreatDoor

namespace Go.Proofs.YtanebcllcgchcaaGreatDoor
set_option linter.unusedVariables false
set_option linter.unusedSimpArgs false
open Go.RowKit Go.Maps

/-- What a spot reads as. -/
def spDat (x : SpotD) : DataW Unit := .agg [.lit (.string (ub x.1)), .lit (.int .i64 x.2.1), .lit (.int .i64 x.2.2.1), .lit (.int .i64 x.2.2.2)]
def spElem : Value → Option (DataW Unit × List MemPlace)
  | .agg cs => match cs.toList with
    | [.string k, .int .i64 a, .int .i64 b, .int .i64 c] => some (spDat (k, a, b, c), [])
    | _ => none
  | _ => none
theorem spElem_mk (x : SpotD) : spElem (.agg #[.string x.1, .int .i64 x.2.1, .int .i64 x.2.2.1, .int .i64 x.2.2.2]) = some (spDat x, []) := rfl
theorem spDat_inj {x y : SpotD} (h : spDat x = spDat y) : x = y := by
  obtain ⟨k, a, b, c⟩ := x
  obtain ⟨k', a', b', c'⟩ := y
  unfold spDat at h
  simp only [DataW.agg.injEq, List.cons.injEq, DataW.lit.injEq, Lit.string.injEq, Lit.int.injEq, true_and, and_true] at h
  obtain ⟨h1, rfl, rfl, rfl⟩ := h
  have : k = k' := by rw [← bs_ub k, h1, bs_ub]
  rw [this]
theorem spElem_inv {v : Value} {x : SpotD} {ps : List MemPlace} (h : spElem v = some (spDat x, ps)) : v = .agg #[.string x.1, .int .i64 x.2.1, .int .i64 x.2.2.1, .int .i64 x.2.2.2] := by
  unfold spElem at h
  split at h
  · rename_i cs
    split at h
    · rename_i k a b c hc
      simp only [Option.some.injEq, Prod.mk.injEq] at h
      have := spDat_inj h.1
      subst this
      have hc' : cs = #[.string k, .int .i64 a, .int .i64 b, .int .i64 c] := by
        apply Array.toList_inj.1
        rw [hc]
      rw [hc']
    · cases h
  · cases h
/-- The map whose entries are these spots. -/
def spE (G : List SpotD) : List (Lit × DataW Unit) := G.map fun x => (.string (ub x.1), spDat x)
def spM (G : List SpotD) : DataW Unit := .map (spE G)
def Srt (G : List SpotD) : Prop := G.Pairwise fun x y => ub x.1 < ub y.1
theorem less_lt : ∀ a b : List UInt8, Op.bytesLess a b = decide (a < b)
  | [], [] => by simp [Op.bytesLess]
  | [], _ :: _ => by simp [Op.bytesLess]
  | _ :: _, [] => by simp [Op.bytesLess]
  | a :: r, b :: s => by
    rw [Op.bytesLess, less_lt r s]
    by_cases h : a < b
    · simp [h, List.cons_lt_cons_iff]
    · by_cases e : a = b
      · subst e; simp [List.cons_lt_cons_iff]
      · simp [h, e, List.cons_lt_cons_iff]
theorem before_lt : ∀ a b : List UInt8, bytesBefore a b = decide (a < b)
  | [], [] => by simp [bytesBefore]
  | [], _ :: _ => by simp [bytesBefore]
  | _ :: _, [] => by simp [bytesBefore]
  | a :: r, b :: s => by
    rw [bytesBefore, before_lt r s]
    by_cases h : a < b
    · simp [h, List.cons_lt_cons_iff]
    · by_cases e : a = b
      · subst e; simp [List.cons_lt_cons_iff]
      · simp [h, e, List.cons_lt_cons_iff]
theorem toList_ub (s : ByteArray) : s.toList = ub s := by rw [ByteArray.toList_eq]; rfl
theorem ltSp_iff {y x : SpotD} : ltSp y x = true ↔ ub y.1 < ub x.1 := by unfold ltSp; rw [less_lt, toList_ub, toList_ub]; simp
theorem gtSp_iff {y x : SpotD} : gtSp y x = true ↔ ub x.1 < ub y.1 := by
  unfold gtSp
  rw [less_lt, toList_ub, toList_ub]
  simp only [Bool.not_eq_true', Bool.or_eq_false_iff, decide_eq_false_iff_not, beq_eq_false_iff_ne]
  constructor
  · rintro ⟨h1, h2⟩
    rcases List.le_iff_lt_or_eq.1 (List.not_lt.1 h1) with h | h
    · exact h
    · exact absurd h.symm h2
  · intro h
    exact ⟨fun h2 => List.lt_irrefl _ (List.lt_trans h h2), fun e => List.lt_irrefl _ (by rw [e] at h; exact h)⟩
theorem srt_filter {G : List SpotD} (h : Srt G) (p : SpotD → Bool) : Srt (G.filter p) := h.filter _
theorem srt_setB {G : List SpotD} (h : Srt G) (x : SpotD) (g : Bool) : Srt (setB G x g) := by
  unfold setB setMid setLo
  refine List.pairwise_append.2 ⟨List.pairwise_append.2 ⟨srt_filter h _, ?_, ?_⟩, srt_filter h _, ?_⟩
  · split <;> simp
  · intro a ha b hb
    split at hb
    · simp at hb
    · obtain rfl := List.mem_singleton.1 hb
      exact ltSp_iff.1 (List.mem_filter.1 ha).2
  · intro a ha b hb
    have hb2 := gtSp_iff.1 (List.mem_filter.1 hb).2
    rcases List.mem_append.1 ha with ha | ha
    · exact List.lt_trans (ltSp_iff.1 (List.mem_filter.1 ha).2) hb2
    · split at ha
      · simp at ha
      · obtain rfl := List.mem_singleton.1 ha
        exact hb2
theorem filter_ne {x : SpotD} : ∀ {G : List SpotD}, Srt G → G.filter (fun y => ltSp y x) ++ G.filter (fun y => gtSp y x) = G.filter fun y => !((ub y.1) == (ub x.1))
  | [], _ => rfl
  | y :: G, h => by
    have h' := List.pairwise_cons.1 h
    have ih := filter_ne (x := x) h'.2
    rcases Decidable.em (ub y.1 < ub x.1) with hl | hl
    · have h1 : ltSp y x = true := ltSp_iff.2 hl
      have h2 : gtSp y x = false := by
        cases hg : gtSp y x with
        | false => rfl
        | true => exact absurd (List.lt_trans hl (gtSp_iff.1 hg)) (List.lt_irrefl _)
      have h3 : (ub y.1 == ub x.1) = false := by
        cases he : ub y.1 == ub x.1 with
        | false => rfl
        | true => rw [beq_iff_eq.1 he] at hl; exact absurd hl (List.lt_irrefl _)
      simp only [List.filter_cons, h1, h2, h3, if_true, Bool.not_false, Bool.false_eq_true, if_false, List.cons_append, ih]
    · have h1 : ltSp y x = false := by
        cases hg : ltSp y x with
        | false => rfl
        | true => exact absurd (ltSp_iff.1 hg) hl
      have hlo : G.filter (fun y => ltSp y x) = [] := by
        rw [List.filter_eq_nil_iff]
        intro z hz hzl
        exact hl (List.lt_trans (h'.1 z hz) (ltSp_iff.1 hzl))
      rw [hlo, List.nil_append] at ih
      rw [List.filter_cons, h1, if_neg Bool.false_ne_true, hlo, List.nil_append, List.filter_cons, List.filter_cons, ih]
      have h4 : gtSp y x = !(ub y.1 == ub x.1) := by
        cases he : ub y.1 == ub x.1 with
        | true =>
          cases hg : gtSp y x with
          | false => rfl
          | true => have := gtSp_iff.1 hg; rw [beq_iff_eq.1 he] at this; exact absurd this (List.lt_irrefl _)
        | false =>
          rcases List.le_iff_lt_or_eq.1 (List.not_lt.1 hl) with hh | hh
          · rw [gtSp_iff.2 hh]; rfl
          · rw [hh] at he; simp at he
      rw [h4]
theorem spE_filter (G : List SpotD) (k : List UInt8) : (spE G).filter (fun p => !p.1.sameKey (.string k)) = spE (G.filter fun y => !((ub y.1) == k)) := by
  induction G with
  | nil => rfl
  | cons y G ih =>
    unfold spE at ih ⊢
    rw [List.map_cons, List.filter_cons, List.filter_cons, ih]
    show (if (!(ub y.1 == k)) = true then _ else _) = _
    split <;> rfl
theorem spM_del {G : List SpotD} (h : Srt G) (x : SpotD) : (spM G).del (.string (ub x.1)) = spM (setB G x true) := by
  unfold spM
  rw [DataW.del_eq]
  have : ChangeMaps.delKey (.string (ub x.1)) (spE G) = (spE G).filter (fun p => !p.1.sameKey (.string (ub x.1))) := rfl
  rw [this, spE_filter, ← filter_ne h]
  unfold setB setMid setLo
  rw [if_pos rfl, List.append_nil]
theorem insert_lo {x : SpotD} : ∀ (L R : List SpotD), (∀ y ∈ L, ub y.1 < ub x.1) → (∀ y ∈ R, ub x.1 < ub y.1) → DataW.insert (.string (ub x.1), spDat x) (spE (L ++ R)) = spE (L ++ x :: R)
  | [], [], _, _ => rfl
  | [], y :: R, _, h => by
    have h1 := h y (by simp)
    show (if (Lit.string (ub x.1)).before (.string (ub y.1)) then _ else _) = _
    rw [if_pos (by rw [Lit.before, before_lt]; simpa using h1)]
    rfl
  | y :: L, R, hL, hR => by
    have h1 := hL y (by simp)
    have ih := insert_lo L R (fun z hz => hL z (by simp [hz])) hR
    show (if (Lit.string (ub x.1)).before (.string (ub y.1)) then _ else _) = _
    rw [if_neg (by rw [Lit.before, before_lt]; simpa using List.not_lt.1 (fun h2 => List.lt_irrefl _ (List.lt_trans h1 h2)))]
    show _ :: DataW.insert (.string (ub x.1), spDat x) (spE (L ++ R)) = _
    rw [ih]
    rfl
theorem spM_put {G : List SpotD} (h : Srt G) (x : SpotD) : (spM G).put (.string (ub x.1)) (spDat x) = spM (setB G x false) := by
  unfold spM
  rw [DataW.put_eq]
  have : ChangeMaps.putKey (.string (ub x.1)) (spDat x) (spE G) = DataW.insert (.string (ub x.1), spDat x) ((spE G).filter (fun p => !p.1.sameKey (.string (ub x.1)))) := rfl
  rw [this, spE_filter, ← filter_ne h, insert_lo _ _ (fun y hy => ltSp_iff.1 (List.mem_filter.1 hy).2) (fun y hy => gtSp_iff.1 (List.mem_filter.1 hy).2)]
  unfold setB setMid setLo
  rw [if_neg Bool.false_ne_true, List.append_assoc]
  rfl
theorem spM_at {x : SpotD} (z : DataW Unit) : ∀ {G : List SpotD}, Srt G → x ∈ G → (spM G).atKey (.string (ub x.1)) z = spDat x
  | [], _, hx => by simp at hx
  | y :: G, h, hx => by
    have h' := List.pairwise_cons.1 h
    have e : (spM (y :: G)).atKey (.string (ub x.1)) z = if (ub y.1 == ub x.1) = true then spDat y else (spM G).atKey (.string (ub x.1)) z := by
      unfold spM DataW.atKey spE
      dsimp only
      rw [List.map_cons, List.find?_cons]
      have : (Lit.string (ub y.1)).sameKey (.string (ub x.1)) = (ub y.1 == ub x.1) := rfl
      rw [this]
      cases ub y.1 == ub x.1 <;> rfl
    rw [e]
    rcases List.mem_cons.1 hx with rfl | hx
    · rw [beq_self_eq_true, if_pos rfl]
    · have hne : (ub y.1 == ub x.1) = false := by
        cases he : ub y.1 == ub x.1 with
        | false => rfl
        | true => have := h'.1 x hx; rw [beq_iff_eq.1 he] at this; exact absurd this (List.lt_irrefl _)
      rw [hne, if_neg Bool.false_ne_true]
      exact spM_at z h'.2 hx
theorem spM_keys (G : List SpotD) : strKeys (spM G) = G.map fun x => ub x.1 := by
  show (spE G).map (fun p => strOf p.1) = _
  unfold spE
  rw [List.map_map]
  rfl
theorem spM_size (G : List SpotD) : Maps.size (spM G) = G.length := by
  show (spE G).length = _
  unfold spE
  rw [List.length_map]
theorem spM_sort {G : List SpotD} (h : Srt G) {ss : List (List UInt8)} (hp : ss.Perm (strKeys (spM G))) : ss.mergeSort leB = G.map fun x => ub x.1 := by
  rw [mergeSort_of_perm hp, spM_keys]
  refine List.mergeSort_of_pairwise ?_
  refine List.pairwise_map.2 (h.imp fun {a b} hab => ?_)
  simpa [leB] using List.le_of_lt hab
theorem srt_nil : Srt [] := List.Pairwise.nil
theorem srt_fold {α : Type} {f : List SpotD → α → List SpotD} (hf : ∀ G a, Srt G → Srt (f G a)) : ∀ (l : List α) (G : List SpotD), Srt G → Srt (l.foldl f G)
  | [], _, h => h
  | a :: l, G, h => srt_fold hf l _ (hf G a h)
theorem srt_ch (n a q : Int) (G : List SpotD) (c : ChD) (h : Srt G) : Srt (dirCh n a q G c) := srt_setB h _ _
theorem srt_pl (n : Int) (G : List SpotD) (p : PlD) (h : Srt G) : Srt (dirPl n G p) := srt_fold (srt_ch n _ _) _ _ h
theorem srt_seg (fs : List FiD) (G : List SpotD) (n : Nat) (h : Srt G) : Srt (dirSeg fs G n) := srt_fold (srt_pl _) _ _ h
theorem spM_ch {G : List SpotD} (h : Srt G) (n a q : Int) (c : ChD) : (if c.2.2 = true then (spM G).del (.string (ub c.1)) else (spM G).put (.string (ub c.1)) (spDat (c.1, n, a, q))) = spM (dirCh n a q G c) := by
  unfold dirCh
  cases hg : c.2.2
  · rw [if_neg Bool.false_ne_true]; exact spM_put h (c.1, n, a, q)
  · rw [if_pos rfl]; exact spM_del h (c.1, n, a, q)
end Go.Proofs.YtanebcllcgchcaaGreatDoor

namespace Go.Proofs.YtanebcllcgchcaaGreatDoor
set_option linter.unusedVariables false
set_option linter.unusedSimpArgs false
open Go.RowKit
attribute [local go_sem] bs_size List.length_cons List.length_nil List.length_append

/-- What ReadSegment and HeadText give of a segment of a right disk, in one form. -/
theorem segUni (fs : List FiD) (m : Nat) (hm : m ≤ 99) : ∃ (f l en : Nat) (pls : List PlD) (ok : Bool) (Lh : List UInt8), batsAt fs m = pls ∧
    (∀ (w : World) (e : Ending) (w' : World), SegPost w (segPl (m : Int) ((fileB fs (segNm (m : Int))).getD ⟨#[]⟩)) e w' → ∃ v, e = .returned (.tuple #[.int .i64 (f : Int), v, .int .i64 (en : Int), .bool ok]) ∧ BatsOwn w' w.heap.size v (pls.map Prod.fst) ∧ Below w.heap.size w w') ∧
    headText (m : Int) (f : Int) = some Lh ∧ l = Lh.length ∧ l ≤ 9020 ∧ pls.length ≤ 20000 ∧
    (∀ p ∈ pls, p.2.1 ≤ 200000000 ∧ ∃ r, batText p.1 = some (ub r) ∧ (1 ≤ r.size ∧ r.size ≤ 9000) ∧ p.2.2 = frameLen r) ∧ ∀ j p, pls[j]? = some p → p.2.1 = atOf l pls j := by
  unfold batsAt
  cases hs : segPl (m : Int) ((fileB fs (segNm (m : Int))).getD ⟨#[]⟩) with
  | none =>
    have h1 := headBytes_len (n := m) (f := 0) (by omega) (by omega)
    have hfr : frameB (headBytes m 0) = some (varBytes (headBytes m 0).length ++ (sum4 (headBytes m 0) ++ headBytes m 0)) := frameB_yes ⟨h1.1, by omega⟩
    have hv := var_len (n := (headBytes m 0).length) (by omega)
    have h4 := sum4_len (headBytes m 0)
    have hh : headText (m : Int) ((0 : Nat) : Int) = some (varBytes (headBytes m 0).length ++ (sum4 (headBytes m 0) ++ headBytes m 0)) := by rw [headText_yes hm (Nat.zero_le _), hfr]
    refine ⟨0, _, 0, [], false, _, rfl, fun w e w' hp => ?_, hh, rfl, by simp only [List.length_append]; omega, by simp, fun p hp => by simp at hp, fun j p hp => by simp at hp⟩
    obtain ⟨hb, v, he, ho⟩ := hp
    exact ⟨v, he, ho, hb⟩
  | some x =>
    obtain ⟨f, l, pls⟩ := x
    obtain ⟨h1, h2, h3, h4⟩ := segPl_pls hs
    obtain ⟨h5, h6, h7⟩ := segPl_bound hs
    cases hh : headText (m : Int) (f : Int) with
    | none => exact absurd hh h1
    | some Lh =>
      have hl9 : l ≤ 9020 := by
        obtain ⟨r, rs, hu, hl, _⟩ := segPl_some h5
        obtain ⟨_, _, hsm⟩ := unframeB_le ((fileB fs (segNm (m : Int))).getD ⟨#[]⟩)
        rw [hu] at hsm
        rw [hl]
        exact frameLen_le (hsm r (by simp)).2
      refine ⟨f, l, endOf l pls, pls, true, Lh, rfl, fun w e w' hp => ?_, hh, h2 Lh hh, hl9, h6, fun p hp => ⟨(h7 p hp).1, h3 p hp⟩, h4⟩
      obtain ⟨hb, v, he, ho⟩ := hp
      exact ⟨v, he, ho, hb⟩
theorem dirSeg_eq {fs : List FiD} {n : Nat} {pls : List PlD} (h : batsAt fs n = pls) (out : List SpotD) : dirSeg fs out n = pls.foldl (dirPl (n : Int)) out := by unfold dirSeg; rw [h]
theorem keep5 {W W' : World} {a0 a1 a2 a3 a4 : Addr} {x0 x1 x2 x3 x4 : Value} (h : W.cell? a0 = some x0 ∧ W.cell? a1 = some x1 ∧ W.cell? a2 = some x2 ∧ W.cell? a3 = some x3 ∧ W.cell? a4 = some x4) (hb : Below W.heap.size W W') : W'.cell? a0 = some x0 ∧ W'.cell? a1 = some x1 ∧ W'.cell? a2 = some x2 ∧ W'.cell? a3 = some x3 ∧ W'.cell? a4 = some x4 ∧ Hid (Below W.heap.size W W') := by
  have k : ∀ {a v}, W.cell? a = some v → W'.cell? a = some v := fun h => (hb.cell (World.block_lt_of_cell? W _ h)).trans h
  exact ⟨k h.1, k h.2.1, k h.2.2.1, k h.2.2.2.1, k h.2.2.2.2, hb⟩
theorem keepL {w W W' : World} {A : Option Addr} {n c b1 i : Nat} {v : Value} (hv : VD w A n c W) (hc : W.cell? ⟨b1, i, none⟩ = some v) (hb : Below W.heap.size W W') : W'.cell? ⟨w.heap.size, 0, none⟩ = some (.slice A n c) ∧ W'.cell? ⟨b1, i, none⟩ = some v ∧ Hid (Below W.heap.size W W') := ⟨(hv.go hb).cell, (hb.cell (World.block_lt_of_cell? W _ hc)).trans hc, hb⟩
def DirPost (w : World) (fs : List FiD) (e : Ending) (w' : World) : Prop := ∃ v, e = .returned (.tuple #[v, .bool (!(segsB fs).isEmpty)]) ∧ SpOwn w' w.heap.size v (dirB fs) ∧ Below w.heap.size w w'
theorem spOwn_eq {w : World} {B : Nat} {v : Value} {ds ds' : List SpotD} (h : ds' = ds) (ho : SpOwn w B v ds) : SpOwn w B v ds' := by rw [h]; exact ho
theorem SpOwn.below' {w w' : World} {B : Nat} {v : Value} {ds : List SpotD} (h : SpOwn w B v ds) (hb : Below w.heap.size w w') : SpOwn w' B v ds := own_keep h hb
end Go.Proofs.YtanebcllcgchcaaGreatDoor

namespace Go.Proofs.YtanebcllcgchcaaGreatDoor
set_option linter.unusedVariables false
set_option linter.unusedSimpArgs false
open Go.RowKit

theorem dirChs_len (n a q : Int) : ∀ (cs : List ChD) (out : List SpotD), (cs.foldl (dirCh n a q) out).length ≤ out.length + cs.length
  | [], out => by simp
  | c :: cs, out => by
    have h1 := dirChs_len n a q cs (dirCh n a q out c)
    have h2 := setB_len out (c.1, n, a, q) c.2.2
    rw [List.foldl_cons, List.length_cons]
    unfold dirCh at h1 ⊢
    omega
theorem dirPls_len (n : Int) : ∀ (pls : List PlD) (out : List SpotD), (∀ p ∈ pls, p.1.2.length ≤ 40) → (pls.foldl (dirPl n) out).length ≤ out.length + 40 * pls.length
  | [], out, _ => by simp
  | p :: pls, out, h => by
    have h1 := dirPls_len n pls (dirPl n out p) (fun x hx => h x (by simp [hx]))
    have h2 := dirChs_len n (p.2.1 : Int) p.1.1 p.1.2 out
    have h3 := h p (by simp)
    rw [List.foldl_cons, List.length_cons]
    unfold dirPl at h1 ⊢
    omega
theorem pl_parts {fs : List FiD} {m : Nat} (hm : m ≤ 99) : (batsAt fs m).length ≤ 20000 ∧ ∀ p ∈ batsAt fs m, p.1.2.length ≤ 40 ∧ ∀ c ∈ p.1.2, c.1.size ≤ 20 := by
  obtain ⟨f, l, en, pls, ok, Lh, hba, _, _, _, _, hpl, htx, _⟩ := segUni fs m hm
  rw [hba]
  refine ⟨hpl, fun p hp => ?_⟩
  obtain ⟨_, r, hb, _⟩ := htx p hp
  obtain ⟨_, h2, h3⟩ := batOk_parts (isBat_parts (show IsBat r p.1 from hb)).1
  exact ⟨h2, fun c hc => (h3 c hc).1⟩
theorem dirSegs_len (fs : List FiD) : ∀ (L : List Nat) (out : List SpotD), (∀ m ∈ L, m ≤ 99) → (L.foldl (dirSeg fs) out).length ≤ out.length + 800000 * L.length
  | [], out, _ => by simp
  | m :: L, out, h => by
    have h1 := dirSegs_len fs L (dirSeg fs out m) (fun x hx => h x (by simp [hx]))
    obtain ⟨h2, h3⟩ := pl_parts (fs := fs) (h m (by simp))
    have h4 := dirPls_len (m : Int) (batsAt fs m) out (fun p hp => (h3 p hp).1)
    rw [List.foldl_cons, List.length_cons]
    unfold dirSeg at h1 ⊢
    omega
theorem dirB_len (fs : List FiD) : (dirB fs).length ≤ 80000000 := by
  have h := dirSegs_len fs (segsB fs) [] (fun m hm => by have := (segs_lt hm).1; omega)
  have h2 := segs_len fs
  unfold dirB
  simp only [List.length_nil] at h
  omega
def Sp20 (ds : List SpotD) : Prop := ∀ x ∈ ds, x.1.size ≤ 20
theorem sp20_chs (n a q : Int) : ∀ (cs : List ChD) (out : List SpotD), Sp20 out → (∀ c ∈ cs, c.1.size ≤ 20) → Sp20 (cs.foldl (dirCh n a q) out)
  | [], _, h, _ => h
  | c :: cs, out, h, hc => by
    rw [List.foldl_cons]
    refine sp20_chs n a q cs _ (fun x hx => ?_) (fun y hy => hc y (by simp [hy]))
    unfold dirCh at hx
    rcases setB_mem hx with hx | rfl
    · exact h x hx
    · exact hc c (by simp)
theorem sp20_pls (n : Int) : ∀ (pls : List PlD) (out : List SpotD), Sp20 out → (∀ p ∈ pls, ∀ c ∈ p.1.2, c.1.size ≤ 20) → Sp20 (pls.foldl (dirPl n) out)
  | [], _, h, _ => h
  | p :: pls, out, h, hc => by
    rw [List.foldl_cons]
    exact sp20_pls n pls _ (sp20_chs n _ _ _ _ h (hc p (by simp))) fun y hy => hc y (by simp [hy])
theorem sp20_segs (fs : List FiD) : ∀ (L : List Nat) (out : List SpotD), Sp20 out → (∀ m ∈ L, m ≤ 99) → Sp20 (L.foldl (dirSeg fs) out)
  | [], _, h, _ => h
  | m :: L, out, h, hm => by
    rw [List.foldl_cons]
    exact sp20_segs fs L _ (sp20_pls _ _ _ h fun p hp => ((pl_parts (hm m (by simp))).2 p hp).2) fun x hx => hm x (by simp [hx])
theorem dirB_small (fs : List FiD) : Sp20 (dirB fs) := sp20_segs fs (segsB fs) [] (fun x hx => by simp at hx) fun m hm => by have := (segs_lt hm).1; omega
end Go.Proofs.YtanebcllcgchcaaGreatDoor

namespace Go.Proofs.YtanebcllcgchcaaGreatDoor
set_option linter.unusedVariables false
set_option linter.unusedSimpArgs false
open Go.RowKit Go.Maps
attribute [local go_sem] bs_size List.length_cons List.length_nil List.length_append

abbrev ownsSp (W : World) (b n : Nat) (G : List SpotD) : Prop := W.ownsMap Tryz.prog 9 spElem b n (spM G)
/-- The map of spots under way: its block is the one behind w1. -/
structure MX (w1 : World) (n : Nat) (G : List SpotD) (W : World) : Prop where
  b : Below w1.heap.size w1 W
  m : ownsSp W w1.heap.size n G
  srt : Srt G
  sm : Sp20 G
section
variable {w1 W W' : World} {n : Nat} {G : List SpotD}
theorem MX.lt (h : MX w1 n G W) : w1.heap.size < W.heap.size := h.m.lt
theorem MX.go (h : MX w1 n G W) (hb : Below W.heap.size W W') : MX w1 n G W' := ⟨h.b.trans (hb.mono h.b.size), h.m.kept (grown_of_below (r := none) hb) (by simp), h.srt, h.sm⟩
theorem MX.alloc (h : MX w1 n G W) (o : Obj) : MX w1 n G (W.alloc o) := h.go ((Below.refl _ _).alloc (Nat.le_refl _) o)
theorem MX.same {n' : Nat} {G' : List SpotD} (h : MX w1 n G W) (hn : n ≤ n') (hG : G' = G) : MX w1 n' G' W := by subst hG; exact ⟨h.b, h.m.mono hn, h.srt, h.sm⟩
theorem MX.put {x : SpotD} (h : MX w1 n G W) (hx : x.1.size ≤ 20) (ho : W'.ownsMap Tryz.prog 9 spElem w1.heap.size (n + 1) ((spM G).put (.string (ub x.1)) (spDat x))) (hg : W.grownBy W' (some w1.heap.size)) : MX w1 (n + 1) (setB G x false) W' :=
  ⟨h.b.grown hg h.b.size (fun k e => by cases e; exact Nat.le_refl _), by rw [spM_put h.srt] at ho; exact ho, srt_setB h.srt _ _, fun y hy => by
    rcases setB_mem hy with hy | rfl
    · exact h.sm y hy
    · exact hx⟩
theorem MX.del {x : SpotD} (h : MX w1 n G W) (hx : x.1.size ≤ 20) (ho : W'.ownsMap Tryz.prog 9 spElem w1.heap.size n ((spM G).del (.string (ub x.1)))) (hg : W.grownBy W' (some w1.heap.size)) : MX w1 (n + 1) (setB G x true) W' :=
  ⟨h.b.grown hg h.b.size (fun k e => by cases e; exact Nat.le_refl _), by rw [spM_del h.srt] at ho; exact ho.mono (Nat.le_succ _), srt_setB h.srt _ _, fun y hy => by
    rcases setB_mem hy with hy | rfl
    · exact h.sm y hy
    · exact hx⟩
theorem MX.len (h : MX w1 n G W) : G.length ≤ n := by have := h.m.size_le; rwa [spM_size] at this
end
theorem mx_start (w1 : World) : MX w1 0 [] (w1.alloc (.map #[] 0)) := ⟨(Below.refl _ _).alloc (Nat.le_refl _) _, World.ownsMap_made w1 _ _ _, srt_nil, fun x hx => by simp at hx⟩
theorem encStr_bs (l : List UInt8) : encStr l = Value.string (bs l) := rfl
/-- What slices.Sorted of the map's keys gives. -/
theorem sortedKeys {gm n : Nat} {G : List SpotD} {w : World} (hown : ownsSp w gm n G) (hs : Srt G) (hn : G.length ≤ 1000000000) :
    Calls Tryz.prog 70 #[.func (.func 92) #[] #[.pointer (some ⟨w.heap.size, 0, none⟩)]] (w.alloc (.cells #[.map (some gm)] 119)) fun e w' => ∃ v, e = .returned v ∧ OwnS w' w.heap.size v (G.map fun x => x.1) ∧ Below w.heap.size w w' := by
  have h := Tryz.slices_Sorted_keys_70_71 gm n (spM G) spElem w hown (by rw [spM_size]; unfold maxLen; omega) (by rw [spM_size]; omega)
  refine ((callsIn_wide (n := 5)).1 h).mono ?_
  rintro e w' ⟨v, ss, rfl, hp, hrow, _, hb⟩
  have hsz : (w.alloc (.cells #[.map (some gm)] 119)).heap.size = w.heap.size + 1 := by simp
  have hl : ss.length = G.length := by
    have := hp.length_eq
    rw [spM_keys, List.length_map] at this
    exact this
  refine ⟨v, rfl, ?_, ((Below.refl _ w).alloc (Nat.le_refl _) _).trans (hb.mono (by simp))⟩
  have e1 : ss.mergeSort (fun x y => decide (x ≤ y)) = G.map fun x => ub x.1 := spM_sort hs hp
  rw [e1, hl, hsz] at hrow
  have e2 : (G.map fun x => ub x.1).map encStr = (G.map fun x => x.1).map Value.string := by
    rw [List.map_map, List.map_map]
    refine List.map_congr_left fun x _ => ?_
    show encStr (ub x.1) = Value.string x.1
    rw [encStr_bs, bs_ub]
  rw [e2] at hrow
  unfold OwnS
  rw [List.length_map]
  exact own_low hrow (Nat.le_succ _)
theorem keysOf (mb : Option Nat) (w : World) : Calls Tryz.prog 71 #[.map mb] w fun e w' => e = .returned (.func (.func 92) #[] #[.pointer (some ⟨w.heap.size, 0, none⟩)]) ∧ w' = w.alloc (.cells #[.map mb] 119) :=
  (callsIn_wide (n := 5)).1 (Tryz.maps_Keys_71 mb w)
/-- A look-up at a key that is there. -/
theorem look_sp {gm n : Nat} {G : List SpotD} {w : World} (hown : ownsSp w gm n G) (hs : Srt G) {x : SpotD} (hx : x ∈ G) (hz : x.1.size ≤ 20) :
    (Instr.lookup 119 (.map (some gm)) (.string x.1) false).run Tryz.prog w = .ok (.agg #[.string x.1, .int .i64 x.2.1, .int .i64 x.2.2.1, .int .i64 x.2.2.2]) w := by
  obtain ⟨v, ps, hrun, hv⟩ := hown.lookup (string_keyed Tryz.underlying9) Tryz.underlying119 (Tryz.zeroValue52 w) (spElem_mk (⟨#[]⟩, 0, 0, 0)) (WideMaps.keyOf_string_mk Tryz.underlying9 (s := x.1) (by unfold maxLen; omega))
  rw [show x.1.data.toList = ub x.1 from rfl, spM_at _ hs hx] at hv
  rw [hrun, spElem_inv hv]
set_option maxHeartbeats 16000000 in
set_option maxRecDepth 100000 in
theorem impl_DirOf_calls (A : Option Addr) (c : Nat) (fs : List FiD) (w : World) (h : FiRow w A c fs) (hP : Pow w) (hE : Sent w) :
    Calls Tryz.prog 42 #[.agg #[.slice A fs.length c]] w (DirPost w fs) := by
  obtain ⟨i0, hi0, hz, hsz, hby⟩ := info_parts info_sp
  have hmm := @run_makeMap Tryz.prog
  have HF := Lib.hid h
  have HPW := Lib.hid hP
  have HV := Lib.hid (vd_start w A fs.length c)
  have p0 := HV.out.cell
  have HDS : Hid (∀ i n, (segsB fs)[i]? = some n → diskOkB fs = true ∧ n ≤ 99) := fun i n hi => segs_disk hi
  have hsl := segs_len fs
  have HSP := Lib.hid (impl_Segments_calls A c fs _ (HF.out.below HV.out.from_) (HPW.out.below HV.out.from_) (sentB hE HV.out.from_))
  unfold SegsPost at HSP
  have HDP : Hid (∀ e w', (∃ v, e = .returned (.tuple #[v, .bool (!(segsB fs).isEmpty)]) ∧ SpOwn w' w.heap.size v ((segsB fs).foldl (dirSeg fs) []) ∧ Below w.heap.size w w') → DirPost w fs e w') := fun e w' h => h
  generalize segsB fs = L at HDS hsl HSP HDP
  clear h hP hE
  go_enter Tryz.func42, Tryz.ntmps42
  go_wp2_with fail
  go_at_call 41
  refine HSP.out.mono ?_
  rintro e w1 ⟨v1, rfl, ho1, hb1⟩
  obtain ⟨A1, c1, hv1⟩ := ho1.form
  rw [List.length_map] at hv1
  subst hv1
  have HV1 := Lib.hid (HV.out.go hb1)
  have HR1 := Lib.hid ho1
  clear ho1 hb1 p0 HSP
  cases hLe : L.isEmpty
  · have HX0 := Lib.hid (mx_start w1)
    have HL : Hid ((!L.isEmpty) = true) := by rw [Hid, hLe]; rfl
    clear hLe
    go_wp2
    go_loopw [31] (fun iv wr => ∃ i : Nat, i ≤ L.length ∧ iv = .int .i64 (i : Int) ∧ Hid (MX w1 (800000 * i) ((L.take i).foldl (dirSeg fs) []) wr)) (fun iv _ => L.length - (intOf iv).toNat)
    case atStart => exact ⟨0, Nat.zero_le _, rfl, HX0⟩
    case round =>
      clear HX0
      obtain ⟨i, hi, rfl, HX⟩ := hrel
      rename World => wa
      by_cases hlt : i < L.length
      · obtain ⟨m, hm⟩ : ∃ m, L[i]? = some m := ⟨_, List.getElem?_eq_getElem hlt⟩
        have hdm := HDS.out i m hm
        have HNX := Lib.hid (foldl_snoc (dirSeg fs) [] L hm)
        obtain ⟨b1, hA1, hc1⟩ := (HR1.out.below HX.out.b).at_ (j := i) (x := (m : Int)) (by rw [List.getElem?_map, hm]; rfl)
        subst hA1
        have HVD := Lib.hid ((HV1.out.go HX.out.b).drew)
        have HPP := Lib.hid (HPW.out.below HVD.out.from_)
        have HXD : Hid (MX w1 (800000 * i) ((L.take i).foldl (dirSeg fs) []) wa.drew) := HX.out.go (Below.drew (Below.refl _ _))
        obtain ⟨t, ht⟩ : ∃ t, (fileB fs (segNm (m : Int))).getD ⟨#[]⟩ = t := ⟨_, rfl⟩
        have hts : t.size ≤ 20000 := by rw [← ht]; exact get_small hdm.1
        obtain ⟨f, okp, hpl⟩ := plUni fs m t ht
        have HPL := Lib.hid hpl
        have hres := fiRes_get (fileB fs (segNm (m : Int)))
        rw [ht] at hres
        generalize (fileB fs (segNm (m : Int))).isSome = ob at hres
        have HRES := Lib.hid hres
        obtain ⟨hbl, hcs⟩ := pl_parts (fs := fs) hdm.2
        have HDE : Hid (∀ out, dirSeg fs out m = (batsAt fs m).foldl (dirPl (m : Int)) out) := fun out => rfl
        generalize batsAt fs m = pls at hbl hcs HDE HPL
        have HCS := Lib.hid hcs
        have hm99 := hdm.2
        have hil : (i : Int) < (L.length : Int) := by omega
        clear hm hdm ht hpl hres hcs HX
        generalize (L.take i).foldl (dirSeg fs) [] = D at HXD HNX
        go_wp2_with fail
        go_region_held3 (fun w' => w'.cell? ⟨w.heap.size, 0, none⟩ = some (.slice A fs.length c) ∧ Hid (MX w1 (800000 * i) D w' ∧ VD w A fs.length c w')) (first | exact ⟨HVD.out.cell, HXD.out, HVD.out⟩ | exact ⟨(HVD.out.go (by assumption)).cell, HXD.out.go (by assumption), HVD.out.go (by assumption)⟩ | exact ⟨((HVD.out.go (by assumption)).go (by assumption)).cell, (HXD.out.go (by assumption)).go (by assumption), (HVD.out.go (by assumption)).go (by assumption)⟩) (first | (go_at_call 18; refine (impl_SegNm_calls (m : Int) _ HPP.out).mono ?_; rintro e w' ⟨rfl, hb⟩) | (go_at_call 35; refine (impl_FileAt_calls (segNm (m : Int)) A c fs _ (HF.out.below (HVD.out.go (by assumption)).from_)).mono ?_; rw [HRES.out]; rintro e w'' ⟨rfl, hb⟩))
        obtain ⟨_, HXV⟩ := ‹_ ∧ Hid (MX w1 (800000 * i) D _ ∧ VD w A fs.length c _)›
        have HX3 := Lib.hid HXV.out.1
        have HLT3 := Lib.hid HX3.out.lt
        clear HXV HXD HVD
        go_wp2_with fail
        go_at_call 64
        refine (impl_placedIn_calls (m : Int) t _ (by omega)).mono ?_
        rintro e w8 hp
        obtain ⟨v8, rfl, ho8, hb8⟩ := HPL.out _ _ _ hp
        obtain ⟨A8, c8, hv8⟩ := ListC.form ho8
        subst hv8
        have HO8 := Lib.hid (ListC.mono ho8 HLT3.out)
        have HX8 := Lib.hid (HX3.out.go hb8)
        clear hp ho8 hb8 HX3 HLT3
        go_wp2
        go_loopw [51] (fun kv wr2 => ∃ k : Nat, k ≤ pls.length ∧ kv = .int .i64 (k : Int) ∧ Hid (MX w1 (800000 * i + 40 * k) ((pls.take k).foldl (dirPl (m : Int)) D) wr2) ∧ Hid (w8.grownBy wr2 (some w1.heap.size))) (fun kv _ => pls.length - (intOf kv).toNat)
        case atStart => exact ⟨0, Nat.zero_le _, rfl, HX8, World.grownBy.refl _ _⟩
        case round =>
          clear HX8
          obtain ⟨k, hk, rfl, HX2, HG2⟩ := hrel
          rename World => w6
          by_cases hlt2 : k < pls.length
          · obtain ⟨⟨⟨q, cs⟩, a, z⟩, hp⟩ : ∃ p, pls[k]? = some p := ⟨_, List.getElem?_eq_getElem hlt2⟩
            obtain ⟨g, u, hA8, hcc, hu, hsm⟩ := ListC.at_ (ListC.kept HO8.out HG2.out (fun j e => by cases e; exact .inr (Nat.lt_succ_self _))) (fun _ => rfl) hp
            subst hA8
            obtain ⟨Au, cu, hform, _⟩ := hu.row hsm
            dsimp only at hform hu hsm
            subst hform
            have k0 := hcc 0 (by omega)
            have k1 := hcc 1 (by omega)
            have k2 := hcc 2 (by omega)
            have k3 := hcc 3 (by omega)
            simp only [plVals, Nat.add_zero, List.getElem?_cons_zero, List.getElem?_cons_succ] at k0 k1 k2 k3
            obtain ⟨hcl, hck⟩ := HCS.out _ (List.mem_of_getElem? hp)
            dsimp only at hcl hck
            have HCK := Lib.hid hck
            have HSM := Lib.hid hsm
            have HNX2 := Lib.hid (foldl_snoc (dirPl (m : Int)) D pls hp)
            have HAL : Hid (Below w6.heap.size w6 (w6.alloc (.cells #[.int .i64 q, .slice Au cs.length cu, .int .i64 (a : Int), .int .i64 (z : Int)] 113))) := (Below.refl _ _).alloc (Nat.le_refl _) _
            have HBX : Hid ((w6.alloc (.cells #[.int .i64 q, .slice Au cs.length cu, .int .i64 (a : Int), .int .i64 (z : Int)] 113)).heap[w6.heap.size]? = some (.cells #[.int .i64 q, .slice Au cs.length cu, .int .i64 (a : Int), .int .i64 (z : Int)] 113 (0, 0))) := blk_new _ _
            have HU : Hid (ChOwn (w6.alloc (.cells #[.int .i64 q, .slice Au cs.length cu, .int .i64 (a : Int), .int .i64 (z : Int)] 113)) (w1.heap.size + 1) (.slice Au cs.length cu) cs) := own_keep hu HAL.out
            have HXB := Lib.hid (HX2.out.go HAL.out)
            have HGB : Hid (w8.grownBy (w6.alloc (.cells #[.int .i64 q, .slice Au cs.length cu, .int .i64 (a : Int), .int .i64 (z : Int)] 113)) (some w1.heap.size)) := gr_trans HG2.out (World.grownBy_alloc _ _ _)
            have HNE : Hid (w6.heap.size ≠ w1.heap.size) := Nat.ne_of_gt HX2.out.lt
            have hkl : (k : Int) < (pls.length : Int) := by omega
            have x1 := blk_cell HBX.out 1
            clear hp hcc hu hsm hck
            generalize (pls.take k).foldl (dirPl (m : Int)) D = E at HXB HNX2 HX2
            go_wp2
            generalize w6.alloc (.cells #[.int .i64 q, .slice Au cs.length cu, .int .i64 (a : Int), .int .i64 (z : Int)] 113) = wb at HAL HBX HU HXB HGB x1 ⊢
            generalize w6.heap.size = gx at HBX HNE x1 ⊢
            clear HAL HX2 HG2 k0 k1 k2 k3 x1
            go_loopw [59] (fun jv wr3 => ∃ j : Nat, j ≤ cs.length ∧ jv = .int .i64 (j : Int) ∧ Hid (MX w1 (800000 * i + 40 * k + j) ((cs.take j).foldl (dirCh (m : Int) (a : Int) q) E) wr3) ∧ Hid (wb.grownBy wr3 (some w1.heap.size))) (fun jv _ => cs.length - (intOf jv).toNat)
            case atStart => exact ⟨0, Nat.zero_le _, rfl, HXB, World.grownBy.refl _ _⟩
            case round =>
              clear HXB
              obtain ⟨j, hj, rfl, HX3, HG3⟩ := hrel
              rename World => w7
              by_cases hlt3 : j < cs.length
              · have HBX7 : Hid (w7.heap[gx]? = some (.cells #[.int .i64 q, .slice Au cs.length cu, .int .i64 (a : Int), .int .i64 (z : Int)] 113 (0, 0))) := (HG3.out.block gx (blk_lt HBX.out) (fun e => HNE.out (Option.some.inj e))).trans HBX.out
                obtain ⟨Ar, cr, hfr, hrow⟩ := (ChOwn.kept HU.out HG3.out (fun k hk e => by have := (HU.out.lt k hk).1; cases e; omega)).row HSM.out
                cases hfr
                obtain ⟨ad, y, hA, HY, hy1, hy2, hd0, hd1, hd2⟩ := hrow.at_ hlt3
                cases hA
                have hyk := HCK.out y (List.mem_of_getElem? HY.out)
                have HNX3 := Lib.hid (foldl_snoc (dirCh (m : Int) (a : Int) q) E cs HY.out)
                obtain ⟨ck, cv, cg⟩ := y
                dsimp only at hy1 hy2 hd0 hd1 hd2 hyk
                have HYK := Lib.hid hyk
                have HAL : Hid (Below w7.heap.size w7 (w7.alloc (.cells #[.string ck, .string cv, .bool cg] 55))) := (Below.refl _ _).alloc (Nat.le_refl _) _
                have HXC := Lib.hid (HX3.out.go HAL.out)
                have HOW := Lib.hid HXC.out.m
                have HGC : Hid (wb.grownBy (w7.alloc (.cells #[.string ck, .string cv, .bool cg] 55)) (some w1.heap.size)) := gr_trans HG3.out (World.grownBy_alloc _ _ _)
                have y0 := blk_cell (blk_new w7 (.cells #[.string ck, .string cv, .bool cg] 55)) 0
                have y2 := blk_cell (blk_new w7 (.cells #[.string ck, .string cv, .bool cg] 55)) 2
                have z0 := blk_cell (blk_below HBX7.out HAL.out) 0
                have z2 := blk_cell (blk_below HBX7.out HAL.out) 2
                have hjl : (j : Int) < (cs.length : Int) := by omega
                have HKEY : Hid (keyOf Tryz.prog 9 (.string ck) = some (.string (ub ck))) := WideMaps.keyOf_string_mk Tryz.underlying9 (s := ck) (by unfold maxLen; omega)
                have HRM : Hid (800000 * i + 40 * k + j < maxLen) := by rw [Hid]; unfold maxLen; omega
                clear hrow hyk HBX7 HX3
                generalize (cs.take j).foldl (dirCh (m : Int) (a : Int) q) E = G at HXC HNX3 HOW
                cases cg
                · go_wp2_with (at_mapUpdate; refine wpList_mapUpdate_own _ rfl _ _ _ 119 rfl 9 52 (string_keyed Tryz.underlying9) Tryz.underlying119 spElem w1.heap.size _ _ rfl HOW.out HRM.out _ _ (.string (ub ck)) rfl rfl HKEY.out (spDat (ck, (m : Int), (a : Int), q)) [] rfl ?_; intro w9 hown9 hgrow9; have HX9 := Lib.hid (HXC.out.put (x := (ck, (m : Int), (a : Int), q)) HYK.out hown9 hgrow9); have HG9 := Lib.hid (gr_trans HGC.out hgrow9); clear hown9 hgrow9)
                  go_roundw
                  case rel => first | exact ⟨j + 1, by omega, by go_num, HX9.out.same (by omega) HNX3.out, HG9⟩ | (repeat (first | (refine ⟨?relx, rfl⟩; exact ⟨j + 1, by omega, by go_num, HX9.out.same (by omega) HNX3.out, HG9⟩) | (refine ⟨?relx, ?eqs⟩; (case eqs => (and_intros <;> rfl)); exact ⟨j + 1, by omega, by go_num, HX9.out.same (by omega) HNX3.out, HG9⟩) | apply Exists.intro))
                  case measure => simp [intOf]; omega
                · go_wp2_with (at_delete; refine wpList_delete_own _ rfl _ _ 119 9 rfl 52 (string_keyed Tryz.underlying9) Tryz.underlying119 spElem w1.heap.size _ _ rfl HOW.out _ _ rfl HKEY.out ?_; intro w9 hown9 hturn9; have HX9 := Lib.hid (HXC.out.del (x := (ck, (m : Int), (a : Int), q)) HYK.out hown9 hturn9.grown); have HG9 := Lib.hid (gr_trans HGC.out hturn9.grown); clear hown9 hturn9)
                  go_roundw
                  case rel => first | exact ⟨j + 1, by omega, by go_num, HX9.out.same (by omega) HNX3.out, HG9⟩ | (repeat (first | (refine ⟨?relx, rfl⟩; exact ⟨j + 1, by omega, by go_num, HX9.out.same (by omega) HNX3.out, HG9⟩) | (refine ⟨?relx, ?eqs⟩; (case eqs => (and_intros <;> rfl)); exact ⟨j + 1, by omega, by go_num, HX9.out.same (by omega) HNX3.out, HG9⟩) | apply Exists.intro))
                  case measure => simp [intOf]; omega
              · obtain rfl : j = cs.length := by omega
                rw [List.take_length] at HX3
                have hjl : ¬ (cs.length : Int) < (cs.length : Int) := by omega
                have HG9 := Lib.hid (gr_trans HGB.out HG3.out)
                have HX9 : Hid (MX w1 (800000 * i + 40 * (k + 1)) ((pls.take (k + 1)).foldl (dirPl (m : Int)) D) w7) := HX3.out.same (by omega) HNX2.out
                go_wp2
                go_roundw
                case rel => first | exact ⟨k + 1, by omega, by go_num, HX9, HG9⟩ | (repeat (first | (refine ⟨?relx, rfl⟩; exact ⟨k + 1, by omega, by go_num, HX9, HG9⟩) | (refine ⟨?relx, ?eqs⟩; (case eqs => (and_intros <;> rfl)); exact ⟨k + 1, by omega, by go_num, HX9, HG9⟩) | apply Exists.intro))
                case measure => simp [intOf]; omega
          · obtain rfl : k = pls.length := by omega
            rw [List.take_length] at HX2
            have hkl : ¬ (pls.length : Int) < (pls.length : Int) := by omega
            have HX9 : Hid (MX w1 (800000 * (i + 1)) ((L.take (i + 1)).foldl (dirSeg fs) []) w6) := HX2.out.same (by omega) (by rw [HNX.out]; exact HDE.out D)
            go_wp2
            go_roundw
            case rel => first | exact ⟨i + 1, by omega, by go_num, HX9⟩ | (repeat (first | (refine ⟨?relx, rfl⟩; exact ⟨i + 1, by omega, by go_num, HX9⟩) | (refine ⟨?relx, ?eqs⟩; (case eqs => (and_intros <;> rfl)); exact ⟨i + 1, by omega, by go_num, HX9⟩) | apply Exists.intro))
            case measure => simp [intOf]; omega
      · obtain rfl : i = L.length := by omega
        rw [List.take_length] at HX
        have hil : ¬ (L.length : Int) < (L.length : Int) := by omega
        generalize L.foldl (dirSeg fs) [] = G at HX HDP
        have HGL := Lib.hid (Nat.le_trans HX.out.len (show 800000 * L.length ≤ 1000000000 by omega))
        go_wp2_with fail
        go_at_call 71
        refine (keysOf (some w1.heap.size) _).mono ?_
        rintro e w4 ⟨rfl, rfl⟩
        go_wp2_with fail
        go_at_call 70
        refine (sortedKeys HX.out.m HX.out.srt HGL.out).mono ?_
        rintro e w5 ⟨v5, rfl, ho5, hb5⟩
        obtain ⟨A5, c5, hv5⟩ := ho5.form
        rw [List.length_map] at hv5
        subst hv5
        have HK5 := Lib.hid ho5
        have HX5 := Lib.hid (HX.out.go hb5)
        have HWB : Hid (Below w.heap.size w w5) := (HV1.out.go HX5.out.b).from_
        clear ho5 hb5 HX
        go_wp2
        go_loopw [18, 87] (fun ov iv wr => ∃ i : Nat, i ≤ G.length ∧ iv = .int .i64 (i : Int) ∧ Hid (SpOwn wr w5.heap.size ov (G.take i)) ∧ Hid (Below w5.heap.size w5 wr)) (fun _ iv _ => G.length - (intOf iv).toNat)
        case atStart => exact ⟨0, Nat.zero_le _, rfl, World.ownsRow_nil .., Below.refl _ _⟩
        case round =>
          obtain ⟨i, hi, rfl, HO, HB⟩ := hrel
          rename World => w6
          by_cases hlt2 : i < G.length
          · obtain ⟨x, hx⟩ : ∃ x, G[i]? = some x := ⟨_, List.getElem?_eq_getElem hlt2⟩
            obtain ⟨g5, cap5, hA, hc0⟩ : ∃ g5 cap5, Value.slice A5 G.length c5 = .slice (some ⟨g5, 0, none⟩) G.length cap5 ∧ w6.cell? ⟨g5, i, none⟩ = some (.string x.1) := by
              rcases ownS_at (OwnS.below HK5.out HB.out) with ⟨_, h0⟩ | ⟨g5, cap5, hv, _, _, _, _, hc⟩
              · have := congrArg List.length h0
                rw [List.length_map] at this
                simp only [List.length_nil] at this
                omega
              · rw [List.length_map] at hv
                exact ⟨g5, cap5, hv, hc i x.1 (by rw [List.getElem?_map, hx]; rfl)⟩
            cases hA
            have hx20 := HX5.out.sm x (List.mem_of_getElem? hx)
            have hlook := look_sp (HX5.out.go HB.out).m HX5.out.srt (List.mem_of_getElem? hx) hx20
            have HT := Lib.hid (take_snoc hx)
            have HFL : Hid ((G.take i).length = i) := by rw [Hid, List.length_take]; omega
            obtain ⟨xk, xs, xa, xq⟩ := x
            dsimp only at hc0 hx20 hlook
            have hil2 : (i : Int) < (G.length : Int) := by omega
            obtain ⟨A2, c2, hv⟩ := HO.out.form
            subst hv
            have HGL2 := HGL.out
            have HAL : Hid (Below w6.heap.size w6 (w6.alloc (.cells #[.string xk, .int .i64 xs, .int .i64 xa, .int .i64 xq] 52))) := (Below.refl _ _).alloc (Nat.le_refl _) _
            have HOWN := Lib.hid (HO.out.below HAL.out)
            have HBASE := Lib.hid (Nat.le_trans HB.out.size HAL.out.size)
            have HNEWS : Hid (∀ j u, (spVals (xk, xs, xa, xq))[j]? = some u → (w6.alloc (.cells #[.string xk, .int .i64 xs, .int .i64 xa, .int .i64 xq] 52)).cell? ((⟨w6.heap.size, 0, none⟩ : Addr).add j) = some u) := World.news_of_block (heap_alloc_new w6 _)
            clear hx
            generalize G.take i = F at HO HT HFL HOWN ⊢
            have hfl : F.length ≤ 1000000000 := by rw [HFL.out]; omega
            go_wp2_with (at_builtin; refine wpList_append_lies _ rfl _ _ _ rfl w5.heap.size 52 i0 (.agg #[.string ⟨#[]⟩, .int .i64 0, .int .i64 0, .int .i64 0]) 4 40 Tryz.underlying28 hi0 hz hsz hby rfl (by omega) (.slice A2 F.length c2) F.length (spFlat F) rfl HOWN.out ⟨w6.heap.size, 0, none⟩ 1 1 (spVals (xk, xs, xa, xq)) rfl rfl HNEWS.out (by simp [Value.oneCell', spVals]) (by omega) (by unfold maxLen; omega) (by omega) HBASE.out _ rfl ?_; intro gg cap w7 hown hgrow hat hlt3; have HPU : Hid (SpOwn w7 w5.heap.size (.slice (some ⟨gg, 0, none⟩) (F.length + 1) cap) (F ++ [(xk, xs, xa, xq)])) := (by rw [Hid, SpOwn, spFlat_snoc, List.length_append]; exact hown); have HB7 := Lib.hid ((HB.out.trans (HAL.out.mono HB.out.size)).grown hgrow HBASE.out (fun k e => (HOWN.out.lt k e).1)); clear hown hgrow hat)
            go_roundw
            case rel => first | exact ⟨i + 1, by omega, by go_num, spOwn_eq HT.out HPU.out, HB7⟩ | (repeat (first | (refine ⟨?relx, rfl⟩; exact ⟨i + 1, by omega, by go_num, spOwn_eq HT.out HPU.out, HB7⟩) | (refine ⟨?relx, ?eqs⟩; (case eqs => (and_intros <;> rfl)); exact ⟨i + 1, by omega, by go_num, spOwn_eq HT.out HPU.out, HB7⟩) | apply Exists.intro))
            case measure => simp [intOf]; omega
          · obtain rfl : i = G.length := by omega
            rw [List.take_length] at HO
            have hil2 : ¬ (G.length : Int) < (G.length : Int) := by omega
            have HWF := Lib.hid (HWB.out.trans (HB.out.mono HWB.out.size))
            go_wp2
            go_ret2
            refine HDP.out _ _ ⟨_, ?_, HO.out.mono HWB.out.size, HWF.out⟩
            rw [HL.out]
            rfl
  · obtain rfl : L = [] := List.isEmpty_iff.1 hLe
    go_wp2
    go_ret2
    exact HDP.out _ _ ⟨_, rfl, World.ownsRow_nil .., HV1.out.from_⟩
end Go.Proofs.YtanebcllcgchcaaGreatDoor

namespace Go.Proofs.YtanebcllcgchcaaGreatDoor
set_option linter.unusedVariables false
set_option linter.unusedSimpArgs false
open Go.RowKit
attribute [local go_sem] bs_size List.length_cons List.length_nil List.length_append

/-- An engine in a block. -/
abbrev engO (v : Value) (r a q : Int) (dv : Value) : Obj := .cells #[v, .int .i64 r, .int .i64 a, .int .i64 q, dv] 30
theorem und_eng : ∃ fs, Tryz.prog.underlying 30 = some (.struct fs) := ⟨_, Tryz.underlying30⟩
theorem info_eng : (Tryz.prog.info? 30).map (·.size) = some 5 := by kernel_rfl
def set5 (w : World) (g : Nat) (a b c d e : Value) : World := ((((w.setCell ⟨g, 0, none⟩ a).setCell ⟨g, 1, none⟩ b).setCell ⟨g, 2, none⟩ c).setCell ⟨g, 3, none⟩ d).setCell ⟨g, 4, none⟩ e
theorem set5_blk {w : World} {g : Nat} {x0 x1 x2 x3 x4 a b c d e : Value} {t : TypeId} (h : w.heap[g]? = some (.cells #[x0, x1, x2, x3, x4] t (0, 0))) : (set5 w g a b c d e).heap[g]? = some (.cells #[a, b, c, d, e] t (0, 0)) := by
  unfold set5
  rw [blk_set (blk_set (blk_set (blk_set (blk_set h 0 a) 1 b) 2 c) 3 d) 4 e]
  rfl
theorem set5_grown (w : World) (g : Nat) (a b c d e : Value) : w.grownBy (set5 w g a b c d e) (some g) := grown_set (grown_set (grown_set (grown_set (grown_set (World.grownBy.refl w _) 0 a) 1 b) 2 c) 3 d) 4 e
theorem FiRow.other {w w' : World} {g b c : Nat} {fs : List FiD} (h : FiRow w (some ⟨b, 0, none⟩) c fs) (hg : w.grownBy w' (some g)) (hne : b ≠ g) : FiRow w' (some ⟨b, 0, none⟩) c fs :=
  ⟨h.1, h.2.1, h.2.2.1, fun hp => by
    obtain ⟨ad, e, hl, hc⟩ := h.2.2.2 hp
    cases e
    refine ⟨_, rfl, Nat.lt_of_lt_of_le hl hg.size, fun j x hx => ?_⟩
    obtain ⟨h0, h1, h2⟩ := hc j x hx
    have hb := hg.block b hl (fun e => hne (Option.some.inj e))
    rw [add_plain] at h0 h1 h2 ⊢
    exact ⟨(World.cell?_of_block hb).trans h0, (World.cell?_of_block hb).trans h1, (World.cell?_of_block hb).trans h2⟩⟩
/-- An engine in hand that is the formatted one. -/
def EngR (s : ByteArray) (room : Int) (w : World) (e : Ending) (w' : World) : Prop := ∃ b c Ad cd, e = .returned (.tuple #[.agg #[.slice (some ⟨b, 0, none⟩) 1 c, .int .i64 room, .int .i64 0, .int .i64 0, .slice Ad 0 cd], .slice none 0 0, .bool true]) ∧ FiRow w' (some ⟨b, 0, none⟩) c (fs0 s) ∧ Below w.heap.size w w'
theorem fi_row {w : World} {B b n c : Nat} {fs : List FiD} (h : FiOwn w B (.slice (some ⟨b, 0, none⟩) n c) fs) (hs : ∀ x ∈ fs, x.1.size ≤ 9223372036854775807 ∧ x.2.1.size ≤ 9223372036854775807) : FiRow w (some ⟨b, 0, none⟩) c fs := by
  obtain ⟨A', c', e, hr⟩ := h.row hs
  injection e with e1 e2 e3
  subst e1 e3
  exact hr
theorem keepE {W W' : World} {a : Addr} {x : Value} (h : W.cell? a = some x) (hb : Below W.heap.size W W') : W'.cell? a = some x ∧ Hid (Below W.heap.size W W') := ⟨(hb.cell (World.block_lt_of_cell? W _ h)).trans h, hb⟩
theorem read0 {s : ByteArray} (hh : Head0 s) {w w' : World} {e : Ending} (h : SegPost w (segPl 0 s) e w') : ∃ v, e = .returned (.tuple #[.int .i64 0, v, .int .i64 (s.size : Int), .bool true]) ∧ BatsOwn w' w.heap.size v [] ∧ Below w.heap.size w w' := by
  have e1 : segPl 0 s = some (0, s.size, []) := hh.pl
  rw [e1] at h
  obtain ⟨hb, v, he, ho⟩ := h
  exact ⟨v, he, ho, hb⟩
set_option maxHeartbeats 8000000 in
set_option maxRecDepth 100000 in
theorem impl_OpenEngine0 (s : ByteArray) (hh : Head0 s) (b c : Nat) (room : Int) (w : World) (h : FiRow w (some ⟨b, 0, none⟩) c (fs0 s)) (hr : inR room 100 20000 = true) (hP : Pow w) (hE : Sent w) :
    Calls Tryz.prog 25 #[.agg #[.slice (some ⟨b, 0, none⟩) 1 c], .int .i64 room] w (EngR s room w) := by
  obtain ⟨fx, hu⟩ := und_eng
  have HH := Lib.hid hh
  have hss := hh.small
  have hs1 : (w.alloc (.cells #[.slice (some ⟨b, 0, none⟩) 1 c] 27)).heap.size = w.heap.size + 1 := by simp
  have HAL : Hid (Below w.heap.size w ((w.alloc (.cells #[.slice (some ⟨b, 0, none⟩) 1 c] 27)).alloc (engO (.slice none 0 0) 0 0 0 (.slice none 0 0)))) := ((Below.refl _ _).alloc (Nat.le_refl _) _).alloc (by simp) _
  have HD : Hid (((w.alloc (.cells #[.slice (some ⟨b, 0, none⟩) 1 c] 27)).alloc (engO (.slice none 0 0) 0 0 0 (.slice none 0 0))).cell? ⟨w.heap.size, 0, none⟩ = some (.slice (some ⟨b, 0, none⟩) 1 c)) := cell_new (blk_cell (blk_new w _) 0) _
  have HX : Hid (((w.alloc (.cells #[.slice (some ⟨b, 0, none⟩) 1 c] 27)).alloc (engO (.slice none 0 0) 0 0 0 (.slice none 0 0))).heap[w.heap.size + 1]? = some (engO (.slice none 0 0) 0 0 0 (.slice none 0 0))) := by rw [Hid, ← hs1]; exact blk_new _ _
  have HWS : Hid (((w.alloc (.cells #[.slice (some ⟨b, 0, none⟩) 1 c] 27)).alloc (engO (.slice none 0 0) 0 0 0 (.slice none 0 0))).heap.size = w.heap.size + 2) := by rw [Hid]; simp
  have HR := Lib.hid (h.below HAL.out)
  have HP := Lib.hid (hP.below HAL.out)
  have HE := Lib.hid (sentE hE HAL.out)
  have HRM := Lib.hid hr
  have HAK : Hid (allKeptB (fs0 s) = true) := by
    rw [Hid]
    unfold allKeptB
    rw [fs0_ok hh]
    unfold keptF fs0
    simp
  have HRI := Lib.hid (fs0_rise hh)
  have HSG := Lib.hid (fs0_segs hh)
  have HDR := Lib.hid (fs0_dir hh)
  clear h hP hE hr hs1 hh
  go_enter Tryz.func25, Tryz.ntmps25
  go_wp2_with fail
  go_at_call 16
  refine (within_at room 100 20000 _ HRM.out).mono ?_
  rintro e w1 ⟨rfl, rfl⟩
  generalize (w.alloc (.cells #[.slice (some ⟨b, 0, none⟩) 1 c] 27)).alloc (engO (.slice none 0 0) 0 0 0 (.slice none 0 0)) = W2 at HAL HD HX HWS HR HP HE ⊢
  have p0 := HD.out
  go_wp2_with fail
  go_at_call 39
  refine (impl_AllKept_calls _ _ (fs0 s) _ HR.out).mono ?_
  rw [HAK.out]
  rintro e w3 ⟨rfl, hb3⟩
  have HB3 := Lib.hid hb3
  have HD3 : Hid (w3.cell? ⟨w.heap.size, 0, none⟩ = some (.slice (some ⟨b, 0, none⟩) 1 c)) := (hb3.cell (World.block_lt_of_cell? _ _ HD.out)).trans HD.out
  clear p0 hb3
  have p0 := HD3.out
  go_wp2_with fail
  go_at_call 40
  refine (impl_SeqsRise_calls _ _ (fs0 s) _ (HR.out.below HB3.out) (HP.out.below HB3.out) (sentE HE.out HB3.out)).mono ?_
  rw [HRI.out]
  rintro e w4 ⟨rfl, hb4⟩
  have HB4 := Lib.hid (HB3.out.trans (hb4.mono HB3.out.size))
  have HD4 : Hid (w4.cell? ⟨w.heap.size, 0, none⟩ = some (.slice (some ⟨b, 0, none⟩) 1 c)) := (hb4.cell (World.block_lt_of_cell? _ _ HD3.out)).trans HD3.out
  clear p0 hb4 HD3 HB3
  have p0 := HD4.out
  have HSP := Lib.hid (impl_Segments_calls (some ⟨b, 0, none⟩) c (fs0 s) _ (HR.out.below HB4.out) (HP.out.below HB4.out) (sentE HE.out HB4.out))
  unfold SegsPost at HSP
  rw [HSG.out] at HSP
  go_wp2_with fail
  go_at_call 41
  refine HSP.out.mono ?_
  rintro e w5 ⟨v5, rfl, ho5, hb5⟩
  obtain ⟨A5, c5, hv5⟩ := ho5.form
  subst hv5
  obtain ⟨bl, hA5, hc5⟩ := ho5.at_ (j := 0) (x := 0) rfl
  subst hA5
  have HB5 := Lib.hid (HB4.out.trans (hb5.mono HB4.out.size))
  have HD5 : Hid (w5.cell? ⟨w.heap.size, 0, none⟩ = some (.slice (some ⟨b, 0, none⟩) 1 c)) := (hb5.cell (World.block_lt_of_cell? _ _ HD4.out)).trans HD4.out
  have HL5 := Lib.hid hc5
  clear p0 hb5 ho5 hc5 HD4 HB4 HSP
  have p0 := HD5.out
  have HDP := Lib.hid (impl_DirOf_calls (some ⟨b, 0, none⟩) c (fs0 s) _ (HR.out.below HB5.out) (HP.out.below HB5.out) (sentE HE.out HB5.out))
  unfold DirPost at HDP
  rw [HDR.out, HSG.out] at HDP
  go_wp2_with fail
  go_at_call 42
  refine HDP.out.mono ?_
  rintro e w6 ⟨v6, rfl, ho6, hb6⟩
  obtain ⟨Ad, cd, hv6⟩ := ho6.form
  subst hv6
  have HB6 := Lib.hid (HB5.out.trans (hb6.mono HB5.out.size))
  have HD6 : Hid (w6.cell? ⟨w.heap.size, 0, none⟩ = some (.slice (some ⟨b, 0, none⟩) 1 c)) := (hb6.cell (World.block_lt_of_cell? _ _ HD5.out)).trans HD5.out
  have HL6 : Hid (w6.cell? ⟨bl, 0, none⟩ = some (.int .i64 0)) := (hb6.cell (World.block_lt_of_cell? _ _ HL5.out)).trans HL5.out
  clear p0 hb6 ho6 HD5 HB5 HDP HL5
  have p0 := HD6.out
  go_wp2_with fail
  go_at_call 43
  refine (impl_cleaning0 s _ c bl c5 _ (HR.out.below HB6.out) HL6.out (HP.out.below HB6.out) (sentE HE.out HB6.out)).mono ?_
  rintro e w7 ⟨rfl, hb7⟩
  have HB7 := Lib.hid (HB6.out.trans (hb7.mono HB6.out.size))
  have HD7 : Hid (w7.cell? ⟨w.heap.size, 0, none⟩ = some (.slice (some ⟨b, 0, none⟩) 1 c)) := (hb7.cell (World.block_lt_of_cell? _ _ HD6.out)).trans HD6.out
  have HL7 : Hid (w7.cell? ⟨bl, 0, none⟩ = some (.int .i64 0)) := (hb7.cell (World.block_lt_of_cell? _ _ HL6.out)).trans HL6.out
  have l0 := HL7.out
  have HAL7 : Hid (Below w7.heap.size w7 (w7.alloc (engO (.slice none 0 0) room 0 0 (.slice Ad 0 cd)))) := (Below.refl _ _).alloc (Nat.le_refl _) _
  have HEB : Hid ((w7.alloc (engO (.slice none 0 0) room 0 0 (.slice Ad 0 cd))).heap[w7.heap.size]? = some (engO (.slice none 0 0) room 0 0 (.slice Ad 0 cd))) := blk_new _ _
  have HB8 := Lib.hid (HB7.out.trans (HAL7.out.mono HB7.out.size))
  have HD8 := Lib.hid (cell_new HD7.out (engO (.slice none 0 0) room 0 0 (.slice Ad 0 cd)))
  have HL8 := Lib.hid (cell_new HL7.out (engO (.slice none 0 0) room 0 0 (.slice Ad 0 cd)))
  have HGE : Hid (w.heap.size + 2 ≤ w7.heap.size) := by rw [Hid, ← HWS.out]; exact HB7.out.size
  clear p0 hb7 HD6 HL6 HB6 HD7 HL7
  go_wp2
  generalize w7.alloc (engO (.slice none 0 0) room 0 0 (.slice Ad 0 cd)) = W8 at HAL7 HEB HB8 HD8 HL8 ⊢
  generalize w7.heap.size = ge at HEB HGE ⊢
  clear HAL7 l0
  go_loopw [11, 61] (fun av iv wr => ∃ i : Nat, i ≤ 1 ∧ iv = .int .i64 (i : Int) ∧ av = .slice none 0 0 ∧ Hid (Below W8.heap.size W8 wr)) (fun _ iv _ => 1 - (intOf iv).toNat)
  case atStart => exact ⟨0, by omega, rfl, rfl, Below.refl _ _⟩
  case round =>
    obtain ⟨i, hi, rfl, rfl, HBL⟩ := hrel
    rename World => wa
    by_cases hlt : i < 1
    · obtain rfl : i = 0 := by omega
      have l0 : wa.cell? ⟨bl, 0, none⟩ = some (.int .i64 0) := (HBL.out.cell (World.block_lt_of_cell? _ _ HL8.out)).trans HL8.out
      have HDA : Hid (wa.drew.cell? ⟨w.heap.size, 0, none⟩ = some (.slice (some ⟨b, 0, none⟩) 1 c)) := (HBL.out.cell (World.block_lt_of_cell? _ _ HD8.out)).trans HD8.out
      have HBW := Lib.hid ((HB8.out.trans (HBL.out.mono HB8.out.size)).trans ((Below.drew (Below.refl wa.heap.size wa)).mono (HB8.out.trans (HBL.out.mono HB8.out.size)).size))
      have HFB : Hid (fiRes (fileB (fs0 s) (segNm 0)) = .tuple #[.string s, .bool true]) := by rw [Hid, fs0_file]; rfl
      go_wp2_with fail
      go_region_held3 (fun w' => w'.cell? ⟨w.heap.size, 0, none⟩ = some (.slice (some ⟨b, 0, none⟩) 1 c) ∧ Hid (Below wa.drew.heap.size wa.drew w')) (first | exact keepE HDA.out (Below.refl _ _) | exact keepE HDA.out hbA | exact keepE HDA.out (hbA.trans (hbB.mono hbA.size))) (first | (go_at_call 18; refine (impl_SegNm_calls 0 _ (HP.out.below HBW.out)).mono ?_; rintro e wx ⟨rfl, hbA⟩) | (go_at_call 35; refine (impl_FileAt_calls (segNm 0) (some ⟨b, 0, none⟩) c (fs0 s) _ (HR.out.below (HBW.out.trans (hbA.mono HBW.out.size)))).mono ?_; rw [HFB.out]; rintro e wy ⟨rfl, hbB⟩))
      obtain ⟨_, HBN⟩ := ‹_ ∧ Hid (Below wa.drew.heap.size wa.drew _)›
      have HBL2 := Lib.hid (HBL.out.trans (((Below.drew (Below.refl wa.heap.size wa)).trans (HBN.out.mono (Nat.le_refl _))).mono HBL.out.size))
      have HSE := Lib.hid (fun W => impl_ReadSegment_calls 0 s W (by omega))
      clear hbA hbB l0
      go_wp2_with fail
      go_at_call 44
      refine (HSE.out _).mono ?_
      rintro e w9 hp
      obtain ⟨v9, rfl, ho9, hb9⟩ := read0 HH.out hp
      obtain ⟨A9, c9, hv9⟩ := ListC.form ho9
      subst hv9
      have HBL3 := Lib.hid (HBL2.out.trans (hb9.mono HBL2.out.size))
      clear hp ho9 hb9 HSE
      go_wp2
      go_roundw
      case rel => exact ⟨1, by omega, by go_num, rfl, HBL3⟩
      case measure => simp [intOf]
    · obtain rfl : i = 1 := by omega
      have HDA : Hid (wa.cell? ⟨w.heap.size, 0, none⟩ = some (.slice (some ⟨b, 0, none⟩) 1 c)) := (HBL.out.cell (World.block_lt_of_cell? _ _ HD8.out)).trans HD8.out
      have p0 := HDA.out
      have HBW := Lib.hid (HB8.out.trans (HBL.out.mono HB8.out.size))
      have HEA := Lib.hid (blk_below HEB.out HBL.out)
      have HXA := Lib.hid (blk_below HX.out HBW.out)
      have HDO : Hid (∀ W, FiRow W (some ⟨b, 0, none⟩) c (fs0 s) → Calls Tryz.prog 45 #[.agg #[.slice (some ⟨b, 0, none⟩) 1 c], .slice none 0 0] W fun e w' => ∃ b' c', e = .returned (.tuple #[.agg #[.slice (some ⟨b', 0, none⟩) 1 c'], .int .i64 0]) ∧ FiOwn w' W.heap.size (.slice (some ⟨b', 0, none⟩) 1 c') (fs0 s) ∧ Below W.heap.size W w') := fun W h => impl_DoActs_none b c (fs0 s) W h (by rw [fs0_len]; omega) (by rw [fs0_len]; omega)
      go_wp2_with fail
      go_at_call 45
      refine (HDO.out _ (HR.out.below HBW.out)).mono ?_
      rintro e w9 ⟨b9, c9, rfl, ho9, hb9⟩
      have HO9 := Lib.hid ho9
      have HB9 := Lib.hid (HBW.out.trans (hb9.mono HBW.out.size))
      have HE9 := Lib.hid (blk_below HEA.out hb9)
      have HX9 := Lib.hid (blk_below HXA.out hb9)
      have HAL9 : Hid (Below w9.heap.size w9 (w9.alloc (.cells #[.slice (some ⟨b9, 0, none⟩) 1 c9] 27))) := (Below.refl _ _).alloc (Nat.le_refl _) _
      have HEC := Lib.hid (blk_below HE9.out HAL9.out)
      have HXC := Lib.hid (blk_below HX9.out HAL9.out)
      have HOC := Lib.hid (HO9.out.below HAL9.out)
      have HBC := Lib.hid (HB9.out.trans (HAL9.out.mono HB9.out.size))
      have HBG : Hid (ge < wa.heap.size) := blk_lt HEA.out
      have e0 := blk_cell HEC.out 0
      have f0 := blk_frozen HEC.out 0
      have n0 := blk_cell (blk_new w9 (.cells #[.slice (some ⟨b9, 0, none⟩) 1 c9] 27)) 0
      have HE10 : Hid (((w9.alloc (.cells #[.slice (some ⟨b9, 0, none⟩) 1 c9] 27)).setCell ⟨ge, 0, none⟩ (.slice (some ⟨b9, 0, none⟩) 1 c9)).heap[ge]? = some (engO (.slice (some ⟨b9, 0, none⟩) 1 c9) room 0 0 (.slice Ad 0 cd))) := by rw [Hid, blk_set HEC.out]; rfl
      have HX10 : Hid (((w9.alloc (.cells #[.slice (some ⟨b9, 0, none⟩) 1 c9] 27)).setCell ⟨ge, 0, none⟩ (.slice (some ⟨b9, 0, none⟩) 1 c9)).heap[w.heap.size + 1]? = some (engO (.slice none 0 0) 0 0 0 (.slice none 0 0))) := (gr_setne _ ge 0 _ _ (by have := HGE.out; omega)).trans HXC.out
      have e1 := blk_cell HE10.out 1
      have e2 := blk_cell HE10.out 2
      have e3 := blk_cell HE10.out 3
      have e4 := blk_cell HE10.out 4
      have e5 := blk_cell HE10.out 0
      have r0 := blk_cell HX10.out 0
      have r1 := blk_cell HX10.out 1
      have r2 := blk_cell HX10.out 2
      have r3 := blk_cell HX10.out 3
      have r4 := blk_cell HX10.out 4
      have t0 := blk_frozen HX10.out 0
      have t1 := blk_frozen HX10.out 1
      have t2 := blk_frozen HX10.out 2
      have t3 := blk_frozen HX10.out 3
      have t4 := blk_frozen HX10.out 4
      have HFR : Hid (∀ W', World.grownBy ((w9.alloc (.cells #[.slice (some ⟨b9, 0, none⟩) 1 c9] 27)).setCell ⟨ge, 0, none⟩ (.slice (some ⟨b9, 0, none⟩) 1 c9)) W' (some (w.heap.size + 1)) → FiRow W' (some ⟨b9, 0, none⟩) c9 (fs0 s) ∧ Below w.heap.size w W') := fun W' hg => by
        have hg0 := gr_set (w9.alloc (.cells #[.slice (some ⟨b9, 0, none⟩) 1 c9] 27)) ge 0 (.slice (some ⟨b9, 0, none⟩) 1 c9)
        have hge := HGE.out
        have hgb := HBG.out
        refine ⟨fi_row ((HOC.out.kept hg0 (fun k e => by cases e; exact hgb)).kept hg (fun k e => by cases e; omega)) (fs0_small HH.out), ?_⟩
        have h1 := HAL.out.trans (HBC.out.mono HAL.out.size)
        have h2 := h1.grown hg0 h1.size (fun k e => by cases e; omega)
        exact h2.grown hg h2.size (fun k e => by cases e; omega)
      clear p0 ho9 hb9 HOC HBC HEC HXC HO9 HB9 HE9 HX9 HAL9 HE10
      go_wp2
      have HFF := HFR.out _ (set5_grown _ (w.heap.size + 1) (.slice (some ⟨b9, 0, none⟩) 1 c9) (.int .i64 room) (.int .i64 0) (.int .i64 0) (.slice Ad 0 cd))
      exact res_box2 (g := w.heap.size + 1) (cs := #[.slice (some ⟨b9, 0, none⟩) 1 c9, .int .i64 room, .int .i64 0, .int .i64 0, .slice Ad 0 cd]) rfl (set5_blk HX10.out) rfl hu info_eng (.slice none 0 0) (.bool true) rfl rfl ⟨b9, c9, Ad, cd, rfl, HFF.1, HFF.2⟩
end Go.Proofs.YtanebcllcgchcaaGreatDoor

namespace Go.Proofs.YtanebcllcgchcaaGreatDoor
set_option linter.unusedVariables false
set_option linter.unusedSimpArgs false
open Go.RowKit
attribute [local go_sem] bs_size List.length_cons List.length_nil List.length_append

abbrev engV (A : Option Addr) (c : Nat) (room : Int) (Ad : Option Addr) (cd : Nat) : Value := .agg #[.slice A 1 c, .int .i64 room, .int .i64 0, .int .i64 0, .slice Ad 0 cd]
abbrev engB (A : Option Addr) (c : Nat) (room : Int) (Ad : Option Addr) (cd : Nat) : Obj := .cells #[.slice A 1 c, .int .i64 room, .int .i64 0, .int .i64 0, .slice Ad 0 cd] 30
set_option maxHeartbeats 4000000 in
set_option maxRecDepth 100000 in
theorem impl_sameEngine0 (s : ByteArray) (A A' Ad Ad' : Option Addr) (c c' cd cd' : Nat) (room : Int) (w : World) (h : FiRow w A c (fs0 s)) (h' : FiRow w A' c' (fs0 s)) :
    Calls Tryz.prog 26 #[engV A c room Ad cd, engV A' c' room Ad' cd'] w fun e w' => e = .returned (.bool true) ∧ Below w.heap.size w w' := by
  have hs1 : (w.alloc (engB A c room Ad cd)).heap.size = w.heap.size + 1 := by simp
  have HAL : Hid (Below w.heap.size w ((w.alloc (engB A c room Ad cd)).alloc (engB A' c' room Ad' cd'))) := ((Below.refl _ _).alloc (Nat.le_refl _) _).alloc (by simp) _
  have H1 : Hid (((w.alloc (engB A c room Ad cd)).alloc (engB A' c' room Ad' cd')).heap[w.heap.size]? = some (engB A c room Ad cd)) := by rw [Hid, Below.heap_alloc _ _ _ (by simp)]; exact blk_new _ _
  have H2 : Hid (((w.alloc (engB A c room Ad cd)).alloc (engB A' c' room Ad' cd')).heap[w.heap.size + 1]? = some (engB A' c' room Ad' cd')) := by rw [Hid, ← hs1]; exact blk_new _ _
  have HR := Lib.hid (h.below HAL.out)
  have HR' := Lib.hid (h'.below HAL.out)
  have HEQ : Hid (∀ W, FiRow W A c (fs0 s) → FiRow W A' c' (fs0 s) → Calls Tryz.prog 46 #[.slice A 1 c, .slice A' 1 c'] W fun e w' => e = .returned (.bool true) ∧ Below W.heap.size W w') := fun W h h' => equal_File_calls A A' c c' (fs0 s) W h h'
  have p0 := blk_cell H1.out 0
  have p1 := blk_cell H2.out 0
  clear h h' hs1
  go_enter Tryz.func26, Tryz.ntmps26
  go_wp2_with fail
  go_at_call 46
  refine (HEQ.out _ HR.out HR'.out).mono ?_
  rintro e w1 ⟨rfl, hb⟩
  have HB := Lib.hid (HAL.out.trans (hb.mono HAL.out.size))
  have K1 := Lib.hid (blk_below H1.out hb)
  have K2 := Lib.hid (blk_below H2.out hb)
  have a1 := blk_cell K1.out 1
  have a2 := blk_cell K1.out 2
  have a3 := blk_cell K1.out 3
  have a4 := blk_cell K1.out 4
  have b1 := blk_cell K2.out 1
  have b2 := blk_cell K2.out 2
  have b3 := blk_cell K2.out 3
  have b4 := blk_cell K2.out 4
  have hrm : (room == room) = true := by simp
  clear hb p0 p1
  go_wp2_with fail
  go_at_call 47
  refine (equal_Spot0 Ad Ad' cd cd' _).mono ?_
  rintro e w2 ⟨rfl, hb⟩
  have HB2 := Lib.hid (HB.out.trans (hb.mono HB.out.size))
  clear hb
  go_wp2
  go_ret
  exact ⟨rfl, HB2.out⟩
set_option maxHeartbeats 4000000 in
set_option maxRecDepth 100000 in
theorem impl_EngineOk0 (s : ByteArray) (hh : Head0 s) (b c : Nat) (Ad : Option Addr) (cd : Nat) (room : Int) (w : World) (h : FiRow w (some ⟨b, 0, none⟩) c (fs0 s)) (hr : inR room 100 20000 = true) (hP : Pow w) (hE : Sent w) :
    Calls Tryz.prog 10 #[engV (some ⟨b, 0, none⟩) c room Ad cd] w fun e w' => e = .returned (.bool true) ∧ Below w.heap.size w w' := by
  have HAL : Hid (Below w.heap.size w (w.alloc (engB (some ⟨b, 0, none⟩) c room Ad cd))) := (Below.refl _ _).alloc (Nat.le_refl _) _
  have H1 : Hid ((w.alloc (engB (some ⟨b, 0, none⟩) c room Ad cd)).heap[w.heap.size]? = some (engB (some ⟨b, 0, none⟩) c room Ad cd)) := blk_new _ _
  have HR := Lib.hid (h.below HAL.out)
  have HOP := Lib.hid (impl_OpenEngine0 s hh b c room _ HR.out hr (hP.below HAL.out) (sentE hE HAL.out))
  have p0 := blk_cell H1.out 0
  have p1 := blk_cell H1.out 1
  clear h hP hE hr
  go_enter Tryz.func10, Tryz.ntmps10
  go_wp2_with fail
  go_at_call 25
  refine HOP.out.mono ?_
  rintro e w1 ⟨b1, c1, Ad1, cd1, rfl, hr1, hb1⟩
  have HB1 := Lib.hid (HAL.out.trans (hb1.mono HAL.out.size))
  have K1 := Lib.hid (blk_below H1.out hb1)
  have HAL2 : Hid (Below w1.heap.size w1 (w1.alloc (engB (some ⟨b1, 0, none⟩) c1 room Ad1 cd1))) := (Below.refl _ _).alloc (Nat.le_refl _) _
  have K2 := Lib.hid (blk_below K1.out HAL2.out)
  have K3 : Hid ((w1.alloc (engB (some ⟨b1, 0, none⟩) c1 room Ad1 cd1)).heap[w1.heap.size]? = some (engB (some ⟨b1, 0, none⟩) c1 room Ad1 cd1)) := blk_new _ _
  have HR2 := Lib.hid ((HR.out.below hb1).below HAL2.out)
  have HR3 := Lib.hid (hr1.below HAL2.out)
  have HB2 := Lib.hid (HB1.out.trans (HAL2.out.mono HB1.out.size))
  have a0 := blk_cell K2.out 0
  have a1 := blk_cell K2.out 1
  have a2 := blk_cell K2.out 2
  have a3 := blk_cell K2.out 3
  have a4 := blk_cell K2.out 4
  have b0 := blk_cell K3.out 0
  have b1' := blk_cell K3.out 1
  have b2 := blk_cell K3.out 2
  have b3 := blk_cell K3.out 3
  have b4 := blk_cell K3.out 4
  clear hb1 hr1 p0 p1 HOP
  go_wp2_with fail
  go_at_call 26
  refine (impl_sameEngine0 s (some ⟨b1, 0, none⟩) (some ⟨b, 0, none⟩) Ad1 Ad c1 c cd1 cd room _ HR3.out HR2.out).mono ?_
  rintro e w2 ⟨rfl, hb⟩
  have HB3 := Lib.hid (HB2.out.trans (hb.mono HB2.out.size))
  clear hb
  go_wp2
  go_ret
  exact ⟨rfl, HB3.out⟩
set_option maxRecDepth 100000 in
theorem impl_Used0 (s : ByteArray) (hh : Head0 s) (b c : Nat) (Ad : Option Addr) (cd : Nat) (room : Int) (w : World) (h : FiRow w (some ⟨b, 0, none⟩) c (fs0 s)) (hr : inR room 100 20000 = true) (hP : Pow w) (hE : Sent w) :
    Calls Tryz.prog 11 #[engV (some ⟨b, 0, none⟩) c room Ad cd] w fun e w' => e = .returned (.int .i64 (s.size : Int)) ∧ Below w.heap.size w w' := by
  have HAL : Hid (Below w.heap.size w (w.alloc (engB (some ⟨b, 0, none⟩) c room Ad cd))) := (Below.refl _ _).alloc (Nat.le_refl _) _
  have H1 : Hid ((w.alloc (engB (some ⟨b, 0, none⟩) c room Ad cd)).heap[w.heap.size]? = some (engB (some ⟨b, 0, none⟩) c room Ad cd)) := blk_new _ _
  have HR := Lib.hid (h.below HAL.out)
  have hss := hh.small
  have HOK := Lib.hid (impl_EngineOk0 s hh b c Ad cd room _ HR.out hr (hP.below HAL.out) (sentE hE HAL.out))
  have p0 := blk_cell H1.out 0
  have p1 := blk_cell H1.out 1
  have p2 := blk_cell H1.out 2
  have p3 := blk_cell H1.out 3
  have p4 := blk_cell H1.out 4
  clear h hP hE hr
  go_enter Tryz.func11, Tryz.ntmps11
  go_wp2_with fail
  go_at_call 10
  refine HOK.out.mono ?_
  rintro e w1 ⟨rfl, hb⟩
  have HB1 := Lib.hid (HAL.out.trans (hb.mono HAL.out.size))
  have K1 := Lib.hid (blk_below H1.out hb)
  have HR1 := Lib.hid (HR.out.below hb)
  have q0 := blk_cell K1.out 0
  clear hb p0 p1 p2 p3 p4 HOK
  go_wp2_with fail
  go_at_call 27
  refine (impl_bytesOf0 s _ c _ HR1.out hss).mono ?_
  rintro e w2 ⟨rfl, hb⟩
  have HB2 := Lib.hid (HB1.out.trans (hb.mono HB1.out.size))
  clear hb
  go_wp2
  go_ret
  exact ⟨rfl, HB2.out⟩
set_option maxRecDepth 100000 in
theorem impl_GetValue0 (A : Option Addr) (c : Nat) (Ad : Option Addr) (cd : Nat) (room : Int) (key : ByteArray) (w : World) :
    Calls Tryz.prog 9 #[engV A c room Ad cd, .string key] w fun e w' => e = .returned (.tuple #[.string ⟨#[]⟩, .bool false]) ∧ Below w.heap.size w w' := by
  have hmf : ∀ (fn : Fn) (first cap : Array Value) (w : World), (Instr.makeFunc fn first cap).run Tryz.prog w = .ok (.func fn first cap) w := fun _ _ _ _ => rfl
  have HAL : Hid (Below w.heap.size w ((w.alloc (engB A c room Ad cd)).alloc (.cells #[.string key] 9))) := ((Below.refl _ _).alloc (Nat.le_refl _) _).alloc (by simp) _
  have H1 : Hid (((w.alloc (engB A c room Ad cd)).alloc (.cells #[.string key] 9)).heap[w.heap.size]? = some (engB A c room Ad cd)) := by rw [Hid, Below.heap_alloc _ _ _ (by simp)]; exact blk_new _ _
  have p4 := blk_cell H1.out 4
  go_enter Tryz.func9, Tryz.ntmps9
  go_wp2_with fail
  go_at_call 23
  refine (index_Spot0 Ad cd _ _).mono ?_
  rintro e w1 ⟨rfl, hb⟩
  have HB1 := Lib.hid (HAL.out.trans (hb.mono HAL.out.size))
  clear hb p4
  go_wp2
  go_ret2
  exact ⟨rfl, HB1.out⟩
set_option maxRecDepth 100000 in
theorem impl_Contents0 (s : ByteArray) (hh : Head0 s) (b c : Nat) (Ad : Option Addr) (cd : Nat) (room : Int) (w : World) (h : FiRow w (some ⟨b, 0, none⟩) c (fs0 s)) (hr : inR room 100 20000 = true) (hP : Pow w) (hE : Sent w) :
    Calls Tryz.prog 8 #[engV (some ⟨b, 0, none⟩) c room Ad cd] w fun e w' => e = .returned (.tuple #[.slice none 0 0, .bool true]) ∧ Below w.heap.size w w' := by
  have HAL : Hid (Below w.heap.size w (w.alloc (engB (some ⟨b, 0, none⟩) c room Ad cd))) := (Below.refl _ _).alloc (Nat.le_refl _) _
  have H1 : Hid ((w.alloc (engB (some ⟨b, 0, none⟩) c room Ad cd)).heap[w.heap.size]? = some (engB (some ⟨b, 0, none⟩) c room Ad cd)) := blk_new _ _
  have HR := Lib.hid (h.below HAL.out)
  have HOK := Lib.hid (impl_EngineOk0 s hh b c Ad cd room _ HR.out hr (hP.below HAL.out) (sentE hE HAL.out))
  have p0 := blk_cell H1.out 0
  have p1 := blk_cell H1.out 1
  have p2 := blk_cell H1.out 2
  have p3 := blk_cell H1.out 3
  have p4 := blk_cell H1.out 4
  clear h hP hE hr
  go_enter Tryz.func8, Tryz.ntmps8
  go_wp2_with fail
  go_at_call 10
  refine HOK.out.mono ?_
  rintro e w1 ⟨rfl, hb⟩
  have HB1 := Lib.hid (HAL.out.trans (hb.mono HAL.out.size))
  have K1 := Lib.hid (blk_below H1.out hb)
  have q4 := blk_cell K1.out 4
  clear hb p0 p1 p2 p3 p4 HOK
  go_wp2
  refine wp_loop_rounds 1 ?_
  rw [rounds_succ]
  go_wp2
  go_ret2
  exact ⟨rfl, HB1.out⟩
/-- What FormatEngine gives. -/
def FmtPost (s : ByteArray) (room : Int) (w : World) (e : Ending) (w' : World) : Prop := Below w.heap.size w w' ∧ (if inR room 100 20000 = true then ∃ b, e = .returned (.tuple #[engV (some ⟨b, 0, none⟩) 1 room none 0, .bool true]) ∧ FiRow w' (some ⟨b, 0, none⟩) 1 (fs0 s)
  else e = .returned (.tuple #[.agg #[.slice none 0 0, .int .i64 0, .int .i64 0, .int .i64 0, .slice none 0 0], .bool false]))
theorem fs0_row {w : World} {b : Nat} {s : ByteArray} (hh : Head0 s) (hb : w.heap[b]? = some (.cells #[.string (segNm 0), .string s, .int .i64 (s.size : Int)] 50)) : FiRow w (some ⟨b, 0, none⟩) 1 (fs0 s) := by
  refine ⟨Nat.le_refl _, by omega, fs0_small hh, fun _ => ⟨_, rfl, blk_lt hb, fun j x hx => ?_⟩⟩
  have hj : j = 0 := by have := (List.getElem?_eq_some_iff.1 hx).1; rw [fs0_len] at this; omega
  subst hj
  obtain rfl := fs0_get hx
  rw [add_plain]
  exact ⟨blk_cell hb 0, blk_cell hb 1, blk_cell hb 2⟩
theorem fmt_yes {fn : Func} {s : ByteArray} {room : Int} {w W : World} {b : Nat} {tmps : Array Value} (hr : inR room 100 20000 = true) (hf : fn.results = #[.cell 2 30, .tmp 3]) (hx : W.heap[w.heap.size]? = some (engO (.slice none 0 0) 0 0 0 (.slice none 0 0))) (hw : FiRow W (some ⟨b, 0, none⟩) 1 (fs0 s)) (hlb : w.heap.size < b) (hb : Below w.heap.size w W) (h2 : tmps.getD 2 undef = .pointer (some ⟨w.heap.size, 0, none⟩)) (h3 : tmps.getD 3 undef = .bool true) :
    bodyPost Tryz.prog fn (FmtPost s room w) .ret ⟨tmps, []⟩ (set5 W w.heap.size (.slice (some ⟨b, 0, none⟩) 1 1) (.int .i64 room) (.int .i64 0) (.int .i64 0) (.slice none 0 0)) := by
  obtain ⟨fx, hu⟩ := und_eng
  have hg := set5_grown W w.heap.size (.slice (some ⟨b, 0, none⟩) 1 1) (.int .i64 room) (.int .i64 0) (.int .i64 0) (.slice none 0 0)
  refine res_box1 (g := w.heap.size) (cs := #[.slice (some ⟨b, 0, none⟩) 1 1, .int .i64 room, .int .i64 0, .int .i64 0, .slice none 0 0]) hf (set5_blk hx) h2 hu info_eng (.bool true) h3 ⟨hb.grown hg hb.size (fun k e => by cases e; exact Nat.le_refl _), ?_⟩
  rw [if_pos hr]
  exact ⟨b, rfl, hw.other hg (by omega)⟩
theorem fmt_no {fn : Func} {s : ByteArray} {room : Int} {w W : World} {tmps : Array Value} (hr : inR room 100 20000 = false) (hf : fn.results = #[.cell 2 30, .tmp 3]) (hx : W.heap[w.heap.size]? = some (engO (.slice none 0 0) 0 0 0 (.slice none 0 0))) (hb : Below w.heap.size w W) (h2 : tmps.getD 2 undef = .pointer (some ⟨w.heap.size, 0, none⟩)) (h3 : tmps.getD 3 undef = .bool false) :
    bodyPost Tryz.prog fn (FmtPost s room w) .ret ⟨tmps, []⟩ W := by
  obtain ⟨fx, hu⟩ := und_eng
  refine res_box1 (g := w.heap.size) (cs := #[.slice none 0 0, .int .i64 0, .int .i64 0, .int .i64 0, .slice none 0 0]) hf hx h2 hu info_eng (.bool false) h3 ⟨hb, ?_⟩
  rw [if_neg (by rw [hr]; exact Bool.false_ne_true)]
set_option maxHeartbeats 4000000 in
set_option maxRecDepth 100000 in
theorem impl_FormatEngine_calls (s : ByteArray) (hh : Head0 s) (room : Int) (w : World) (hP : Pow w) : Calls Tryz.prog 6 #[.int .i64 room] w (FmtPost s room w) := by
  have HH := Lib.hid hh
  have hss := hh.small
  have HAL : Hid (Below w.heap.size w (w.alloc (engO (.slice none 0 0) 0 0 0 (.slice none 0 0)))) := (Below.refl _ _).alloc (Nat.le_refl _) _
  have HX : Hid ((w.alloc (engO (.slice none 0 0) 0 0 0 (.slice none 0 0))).heap[w.heap.size]? = some (engO (.slice none 0 0) 0 0 0 (.slice none 0 0))) := blk_new _ _
  have HP := Lib.hid (hP.below HAL.out)
  have HHT : Hid (varRes (headText 0 0) = .tuple #[.string s, .bool true]) := by rw [Hid, hh.text]; show Value.tuple #[.string (bs (ub s)), .bool true] = _; rw [bs_ub]
  clear hP hh
  cases hr : inR room 100 20000
  · have HRM := Lib.hid hr
    have x0 := blk_cell HX.out 0
    have x1 := blk_cell HX.out 1
    have x2 := blk_cell HX.out 2
    have x3 := blk_cell HX.out 3
    have x4 := blk_cell HX.out 4
    have f0 := blk_frozen HX.out 0
    have f1 := blk_frozen HX.out 1
    have f2 := blk_frozen HX.out 2
    have f3 := blk_frozen HX.out 3
    have f4 := blk_frozen HX.out 4
    clear hr
    go_enter Tryz.func6, Tryz.ntmps6
    go_wp2_with fail
    go_at_call 16
    refine (within_at room 100 20000 _ HRM.out).mono ?_
    rintro e w1 ⟨rfl, rfl⟩
    go_wp2
    exact fmt_no HRM.out rfl HX.out HAL.out rfl rfl
  · have HRM := Lib.hid hr
    clear hr
    go_enter Tryz.func6, Tryz.ntmps6
    go_wp2_with fail
    go_at_call 16
    refine (within_at room 100 20000 _ HRM.out).mono ?_
    rintro e w1 ⟨rfl, rfl⟩
    go_wp2_with fail
    go_at_call 17
    refine (impl_HeadText_calls 0 0 _).mono ?_
    rw [HHT.out]
    rintro e w2 ⟨rfl, hb2⟩
    have HB2 := Lib.hid (HAL.out.trans (hb2.mono HAL.out.size))
    have HX2 := Lib.hid (blk_below HX.out hb2)
    have HP2 := Lib.hid (HP.out.below hb2)
    clear hb2
    go_wp2_with fail
    go_at_call 18
    refine (impl_SegNm_calls 0 _ HP2.out).mono ?_
    rintro e w3 ⟨rfl, hb3⟩
    have HB3 := Lib.hid (HB2.out.trans (hb3.mono HB2.out.size))
    have HX3 := Lib.hid (blk_below HX2.out hb3)
    have HAL3 : Hid (Below w3.heap.size w3 (w3.alloc (.cells #[.string (segNm 0), .string s, .int .i64 (s.size : Int)] 50))) := (Below.refl _ _).alloc (Nat.le_refl _) _
    have HX4 := Lib.hid (blk_below HX3.out HAL3.out)
    have HB4 := Lib.hid (HB3.out.trans (HAL3.out.mono HB3.out.size))
    have HRW := Lib.hid (fs0_row HH.out (blk_new w3 (.cells #[.string (segNm 0), .string s, .int .i64 (s.size : Int)] 50)))
    have HLB : Hid (w.heap.size < w3.heap.size) := blk_lt HX3.out
    have x0 := blk_cell HX4.out 0
    have x1 := blk_cell HX4.out 1
    have x2 := blk_cell HX4.out 2
    have x3 := blk_cell HX4.out 3
    have x4 := blk_cell HX4.out 4
    have f0 := blk_frozen HX4.out 0
    have f1 := blk_frozen HX4.out 1
    have f2 := blk_frozen HX4.out 2
    have f3 := blk_frozen HX4.out 3
    have f4 := blk_frozen HX4.out 4
    clear hb3
    go_wp2
    exact fmt_yes HRM.out rfl HX4.out HRW.out HLB.out HB4.out rfl rfl
set_option maxHeartbeats 4000000 in
set_option maxRecDepth 100000 in
theorem spec_FormatEngine_calls (s : ByteArray) (hh : Head0 s) (room : Int) (w : World) : Calls Tryz.prog 7 #[.int .i64 room] w (FmtPost s room w) := by
  have HH := Lib.hid hh
  have hss := hh.small
  have HAL : Hid (Below w.heap.size w (w.alloc (engO (.slice none 0 0) 0 0 0 (.slice none 0 0)))) := (Below.refl _ _).alloc (Nat.le_refl _) _
  have HX : Hid ((w.alloc (engO (.slice none 0 0) 0 0 0 (.slice none 0 0))).heap[w.heap.size]? = some (engO (.slice none 0 0) 0 0 0 (.slice none 0 0))) := blk_new _ _
  have HHT : Hid (varRes (headText 0 0) = .tuple #[.string s, .bool true]) := by rw [Hid, hh.text]; show Value.tuple #[.string (bs (ub s)), .bool true] = _; rw [bs_ub]
  clear hh
  cases hr : inR room 100 20000
  · have HRM := Lib.hid hr
    have x0 := blk_cell HX.out 0
    have x1 := blk_cell HX.out 1
    have x2 := blk_cell HX.out 2
    have x3 := blk_cell HX.out 3
    have x4 := blk_cell HX.out 4
    have f0 := blk_frozen HX.out 0
    have f1 := blk_frozen HX.out 1
    have f2 := blk_frozen HX.out 2
    have f3 := blk_frozen HX.out 3
    have f4 := blk_frozen HX.out 4
    clear hr
    go_enter Tryz.func7, Tryz.ntmps7
    go_wp2_with fail
    go_at_call 19
    refine (l01In_is room 100 20000 _ HRM.out).mono ?_
    rintro e w1 ⟨rfl, rfl⟩
    go_wp2
    exact fmt_no HRM.out rfl HX.out HAL.out rfl rfl
  · have HRM := Lib.hid hr
    clear hr
    go_enter Tryz.func7, Tryz.ntmps7
    go_wp2_with fail
    go_at_call 19
    refine (l01In_is room 100 20000 _ HRM.out).mono ?_
    rintro e w1 ⟨rfl, rfl⟩
    go_wp2_with fail
    go_at_call 20
    refine (spec_HeadText_calls 0 0 _).mono ?_
    rw [HHT.out]
    rintro e w2 ⟨rfl, hb2⟩
    have HB2 := Lib.hid (HAL.out.trans (hb2.mono HAL.out.size))
    have HX2 := Lib.hid (blk_below HX.out hb2)
    clear hb2
    go_wp2_with fail
    go_at_call 21
    refine (spec_SegNm_calls 0 _).mono ?_
    rintro e w3 ⟨rfl, hb3⟩
    have HB3 := Lib.hid (HB2.out.trans (hb3.mono HB2.out.size))
    have HX3 := Lib.hid (blk_below HX2.out hb3)
    have HAL3 : Hid (Below w3.heap.size w3 (w3.alloc (.cells #[.string (segNm 0), .string s, .int .i64 (s.size : Int)] 50))) := (Below.refl _ _).alloc (Nat.le_refl _) _
    have HX4 := Lib.hid (blk_below HX3.out HAL3.out)
    have HB4 := Lib.hid (HB3.out.trans (HAL3.out.mono HB3.out.size))
    have HRW := Lib.hid (fs0_row HH.out (blk_new w3 (.cells #[.string (segNm 0), .string s, .int .i64 (s.size : Int)] 50)))
    have HLB : Hid (w.heap.size < w3.heap.size) := blk_lt HX3.out
    have x0 := blk_cell HX4.out 0
    have x1 := blk_cell HX4.out 1
    have x2 := blk_cell HX4.out 2
    have x3 := blk_cell HX4.out 3
    have x4 := blk_cell HX4.out 4
    have f0 := blk_frozen HX4.out 0
    have f1 := blk_frozen HX4.out 1
    have f2 := blk_frozen HX4.out 2
    have f3 := blk_frozen HX4.out 3
    have f4 := blk_frozen HX4.out 4
    clear hb3
    go_wp2
    exact fmt_yes HRM.out rfl HX4.out HRW.out HLB.out HB4.out rfl rfl
end Go.Proofs.YtanebcllcgchcaaGreatDoor

namespace Go.Proofs.YtanebcllcgchcaaGreatDoor
set_option linter.unusedVariables false
set_option linter.unusedSimpArgs false
open Go.RowKit
attribute [local go_sem] bs_size List.length_cons List.length_nil List.length_append

/-- n bytes that came in. -/
def ByRow (w : World) (A : Option Addr) (n : Nat) : Prop := n ≤ 9223372036854775807 ∧ (0 < n → ∃ ad : Addr, A = some ad ∧ ad.block < w.heap.size ∧ ∀ j, j < n → ∃ z : Int, 0 ≤ z ∧ z ≤ 255 ∧ w.cell? (ad.add j) = some (.int .u8 z))
/-- Block g holds a cursor. -/
def Cu (w : World) (g : Nat) : Prop := ∃ (A : Option Addr) (c n i : Nat) (h : Int), i ≤ n ∧ w.heap[g]? = some (.cells #[.slice A n c, .int .i64 (i : Int), .int .i64 h] 64 (0, 0)) ∧ ByRow w A n ∧ ∀ ad, A = some ad → 0 < n → ad.block < g
/-- What a draw leaves: the cursor's block and new ones apart nothing is another. -/
def Drawn (w : World) (g : Nat) (w' : World) : Prop := Cu w' g ∧ w.grownBy w' (some g)
theorem Drawn.trans {w w1 w2 : World} {g : Nat} (h : Drawn w g w1) (h2 : Drawn w1 g w2) : Drawn w g w2 := ⟨h2.1, h.2.trans h2.2⟩
theorem and255 (x : Int) : 0 ≤ bits .and .i64 x 255 ∧ bits .and .i64 x 255 ≤ 255 := by
  have h : (BitVec.ofInt 64 x &&& BitVec.ofInt 64 255).toNat ≤ 255 := by
    rw [BitVec.toNat_and]
    exact Nat.le_trans Nat.and_le_right (by decide)
  show 0 ≤ IntKind.i64.wrap ((BitVec.ofInt 64 x &&& BitVec.ofInt 64 255).toNat : Int) ∧ IntKind.i64.wrap ((BitVec.ofInt 64 x &&& BitVec.ofInt 64 255).toNat : Int) ≤ 255
  rw [IntKind.wrap_i64]
  omega
theorem drawn_of {w w' : World} {g : Nat} {A : Option Addr} {c n i : Nat} {h : Int} (hi : i ≤ n) (hb : w'.heap[g]? = some (.cells #[.slice A n c, .int .i64 (i : Int), .int .i64 h] 64 (0, 0))) (hr : ByRow w A n) (hne : ∀ ad, A = some ad → 0 < n → ad.block < g) (hg : w.grownBy w' (some g)) : Drawn w g w' := by
  refine ⟨⟨A, c, n, i, h, hi, hb, ⟨hr.1, fun hp => ?_⟩, hne⟩, hg⟩
  obtain ⟨ad, e, hl, hc⟩ := hr.2 hp
  refine ⟨ad, e, Nat.lt_of_lt_of_le hl hg.size, fun j hj => ?_⟩
  obtain ⟨z, h0, h1, h2⟩ := hc j hj
  refine ⟨z, h0, h1, ?_⟩
  have := hg.block (ad.add j).block (by rw [add_block]; exact hl) (by rw [add_block]; intro e2; exact Nat.ne_of_lt (hne ad e hp) (Option.some.inj e2))
  exact (World.cell?_of_block this).trans h2
theorem grown_set' {w wr : World} {b : Nat} (h : w.grownBy wr (some b)) (j : Nat) (v : Value) : w.grownBy (wr.setCell ⟨b, j, none⟩ v) (some b) :=
  ⟨h.os, h.tape, h.output, by simpa using h.size, fun i hi hne => (Below.heap_setCell wr ⟨b, j, none⟩ v i (fun e => hne (by rw [e]))).trans (h.block i hi hne)⟩
theorem grown_drewN {w wr : World} {row : Option Nat} (h : w.grownBy wr row) (n : Nat) : w.grownBy (wr.drewN n) row := ⟨h.os, h.tape, h.output, h.size, h.block⟩
theorem Cu.lt {w : World} {g : Nat} (h : Cu w g) : g < w.heap.size := by
  obtain ⟨A, c, n, i, hh, hi, hb, _⟩ := h
  exact blk_lt hb
/-- Another row beyond the cursor, or new ones, may change. -/
theorem Cu.grown {w w' : World} {g : Nat} {row : Option Nat} (h : Cu w g) (hg : w.grownBy w' row) (hne : ∀ k, row = some k → g < k) : Cu w' g := by
  obtain ⟨A, c, n, i, hh, hi, hb, hr, hl⟩ := h
  refine ⟨A, c, n, i, hh, hi, (hg.block g (blk_lt hb) (fun e => Nat.lt_irrefl _ (hne g e.symm))).trans hb, ⟨hr.1, fun hp => ?_⟩, hl⟩
  obtain ⟨ad, e, hlt, hc⟩ := hr.2 hp
  refine ⟨ad, e, Nat.lt_of_lt_of_le hlt hg.size, fun j hj => ?_⟩
  obtain ⟨z, h0, h1, h2⟩ := hc j hj
  refine ⟨z, h0, h1, (World.cell?_of_block (hg.block (ad.add j).block (by rw [add_block]; exact hlt) ?_)).trans h2⟩
  rw [add_block]
  intro e2
  have := hne _ e2.symm
  have := hl ad e hp
  omega
theorem Drawn.grown {w wr w1 : World} {g : Nat} {row : Option Nat} (h : Drawn w g wr) (hlt : g < w.heap.size) (hg : wr.grownBy w1 row) (hr : ∀ k, row = some k → w.heap.size ≤ k) : Drawn w g w1 := by
  refine ⟨h.1.grown hg fun k e => Nat.lt_of_lt_of_le hlt (hr k e), ⟨hg.os.trans h.2.os, hg.tape.trans h.2.tape, hg.output.trans h.2.output, Nat.le_trans h.2.size hg.size, fun k hk hne => (hg.block k (Nat.lt_of_lt_of_le hk h.2.size) fun e => ?_).trans (h.2.block k hk hne)⟩⟩
  have := hr k e.symm
  omega
theorem Drawn.alloc' {w wr : World} {g : Nat} (h : Drawn w g wr) (hlt : g < w.heap.size) (o : Obj) : Drawn w g (wr.alloc o) := h.grown hlt (World.grownBy_alloc wr o none) fun k e => by cases e
theorem Drawn.below {w wr w1 : World} {g : Nat} (h : Drawn w g wr) (hlt : g < w.heap.size) (hb : Below wr.heap.size wr w1) : Drawn w g w1 := h.grown (row := none) hlt ⟨hb.os, hb.tape, hb.output, hb.size, fun k hk _ => hb.block k hk⟩ fun k e => by cases e
/-- Seen from ahead of the cursor's making. -/
theorem Drawn.seen {w0 w w' : World} {g : Nat} (h : Drawn w g w') (hb : Below w0.heap.size w0 w) (hg : w0.heap.size ≤ g) : Below w0.heap.size w0 w' := hb.grown h.2 hb.size fun k e => by cases e; exact hg
set_option maxHeartbeats 4000000 in
set_option maxRecDepth 100000 in
theorem spec_l01Byte_calls (g : Nat) (w : World) (h : Cu w g) :
    Calls Tryz.prog 28 #[.pointer (some ⟨g, 0, none⟩)] w fun e w' => ∃ x : Int, e = .returned (.int .i64 x) ∧ 0 ≤ x ∧ x ≤ 255 ∧ Drawn w g w' := by
  obtain ⟨A, c, n, i, hh, hi, hb, hrow, hne⟩ := h
  have HB := Lib.hid hb
  have c0 : w.cell? ⟨g, 0, none⟩ = some (.slice A n c) := by rw [cell_of_row w g 0 _ _ (0, 0) hb]; rfl
  have c1 : w.cell? ⟨g, 1, none⟩ = some (.int .i64 (i : Int)) := by rw [cell_of_row w g 1 _ _ (0, 0) hb]; rfl
  have c2 : w.cell? ⟨g, 2, none⟩ = some (.int .i64 hh) := by rw [cell_of_row w g 2 _ _ (0, 0) hb]; rfl
  have f1 := blk_frozen hb 1
  have f2 := blk_frozen hb 2
  have hn := hrow.1
  have HR := Lib.hid hrow
  have HNE := Lib.hid hne
  clear hb hrow hne
  by_cases hlt : i < n
  · obtain ⟨ad, hA, hadl, hcell⟩ := HR.out.2 (by omega)
    obtain ⟨z, hz0, hz1, hcz⟩ := hcell i hlt
    subst hA
    have hg : decide ((i : Int) < (n : Int)) = true := decide_eq_true (by omega)
    have hi0 : (0 : Int) ≤ (i : Int) := by omega
    have hi1 : (i : Int) < (n : Int) := by omega
    have hcz' : ∀ V : Value, (w.setCell ⟨g, 2, none⟩ V).cell? (ad.add i) = some (.int .u8 z) := fun V => (World.cell?_of_block (by
      rw [add_block]
      exact Below.heap_setCell w ⟨g, 2, none⟩ V ad.block (Nat.ne_of_lt (HNE.out ad rfl (by omega))))).trans hcz
    go_enter Tryz.func28, Tryz.ntmps28
    go_wp2
    go_quiet (fail)
    go_wp2
    go_quiet (fail)
    go_wp2
    go_quiet (fail)
    go_wp2
    go_ret
    refine ⟨_, rfl, (and255 _).1, (and255 _).2, drawn_of (i := i + 1) (n := n) (c := c) (h := wrap64 (wrap64 (hh * 6364136223846793005) + 1442695040888963407)) (by omega) ?_ HR.out HNE.out (grown_set' (grown_drewN (grown_set' (World.grownBy.refl w _) 2 _) _) 1 _)⟩
    exact (blk_set (blk_set HB.out 2 _) 1 _).trans rfl
  · have hg : decide ((i : Int) < (n : Int)) = false := decide_eq_false (by omega)
    go_enter Tryz.func28, Tryz.ntmps28
    go_wp2
    go_quiet (fail)
    go_wp2
    go_quiet (fail)
    go_wp2
    go_ret
    refine ⟨_, rfl, (and255 _).1, (and255 _).2, drawn_of (i := i) (n := n) (c := c) (h := wrap64 (wrap64 (hh * 6364136223846793005) + 1442695040888963407)) hi ?_ HR.out HNE.out (grown_drewN (grown_drewN (grown_set' (World.grownBy.refl w _) 2 _) _) _)⟩
    exact (blk_set HB.out 2 _).trans rfl
set_option maxHeartbeats 4000000 in
set_option maxRecDepth 100000 in
theorem spec_l01Below_calls (g : Nat) (n : Int) (w : World) (h : Cu w g) (hn : n ≤ 4294967296) :
    Calls Tryz.prog 15 #[.pointer (some ⟨g, 0, none⟩), .int .i64 n] w fun e w' => ∃ x : Int, e = .returned (.int .i64 x) ∧ 0 ≤ x ∧ (0 < n → x < n) ∧ (n ≤ 0 → x = 0) ∧ Drawn w g w' := by
  have HC := Lib.hid h
  clear h
  by_cases h0 : n ≤ 0
  · go_enter Tryz.func15, Tryz.ntmps15
    go_wp2
    go_ret
    exact ⟨0, rfl, by omega, fun h => by omega, fun _ => rfl, HC.out, World.grownBy.refl w _⟩
  · by_cases h256 : n ≤ 256
    · have hnz : (n == 0) = false := beq_eq_false_iff_ne.mpr (by omega)
      go_enter Tryz.func15, Tryz.ntmps15
      go_wp2_with fail
      go_at_call 28
      refine (spec_l01Byte_calls g _ HC.out).mono ?_
      rintro e w1 ⟨x, rfl, hx0, hx1, hd⟩
      have HD := Lib.hid hd
      clear hd
      have hm0 : 0 ≤ x % n := Int.emod_nonneg _ (by omega)
      have hm1 : x % n < n := Int.emod_lt_of_pos _ (by omega)
      have htm : x.tmod n = x % n := Int.tmod_eq_emod_of_nonneg hx0
      go_wp2
      go_ret
      refine ⟨_, rfl, ?_, fun _ => ?_, fun h => by omega, HD.out⟩
      · omega
      · omega
    · have hnz : (n == 0) = false := beq_eq_false_iff_ne.mpr (by omega)
      go_enter Tryz.func15, Tryz.ntmps15
      go_wp2_with fail
      go_at_call 28
      refine (spec_l01Byte_calls g _ HC.out).mono ?_
      rintro e w1 ⟨x, rfl, hx0, hx1, hd⟩
      have HD := Lib.hid hd
      clear hd
      go_wp2_with fail
      go_at_call 28
      refine (spec_l01Byte_calls g _ HD.out.1).mono ?_
      rintro e w2 ⟨y, rfl, hy0, hy1, hd⟩
      have HD2 := Lib.hid (HD.out.trans hd)
      clear hd
      go_wp2_with fail
      go_at_call 28
      refine (spec_l01Byte_calls g _ HD2.out.1).mono ?_
      rintro e w3 ⟨z, rfl, hz0, hz1, hd⟩
      have HD3 := Lib.hid (HD2.out.trans hd)
      clear hd
      go_wp2_with fail
      go_at_call 28
      refine (spec_l01Byte_calls g _ HD3.out.1).mono ?_
      rintro e w4 ⟨v, rfl, hv0, hv1, hd⟩
      have HD4 := Lib.hid (HD3.out.trans hd)
      clear hd
      have hs0 : 0 ≤ x * 16777216 + y * 65536 + z * 256 + v := by omega
      have hm0 : 0 ≤ (x * 16777216 + y * 65536 + z * 256 + v) % n := Int.emod_nonneg _ (by omega)
      have hm1 : (x * 16777216 + y * 65536 + z * 256 + v) % n < n := Int.emod_lt_of_pos _ (by omega)
      have htm : (x * 16777216 + y * 65536 + z * 256 + v).tmod n = (x * 16777216 + y * 65536 + z * 256 + v) % n := Int.tmod_eq_emod_of_nonneg hs0
      go_wp2
      go_ret
      refine ⟨_, rfl, ?_, fun _ => ?_, fun h => by omega, HD4.out⟩
      · omega
      · omega
theorem spec_l01Once_calls (g : Nat) (n : Int) (w : World) (h : Cu w g) (hn : n ≤ 4294967296) :
    Calls Tryz.prog 13 #[.pointer (some ⟨g, 0, none⟩), .int .i64 n] w fun e w' => ∃ b : Bool, e = .returned (.bool b) ∧ Drawn w g w' := by
  have HC := Lib.hid h
  clear h
  go_enter Tryz.func13, Tryz.ntmps13
  go_wp2_with fail
  go_at_call 15
  refine (spec_l01Below_calls g n _ HC.out hn).mono ?_
  rintro e w1 ⟨x, rfl, hx0, _, _, hd⟩
  have HD := Lib.hid hd
  clear hd
  go_wp2
  go_ret
  exact ⟨_, rfl, HD.out⟩
end Go.Proofs.YtanebcllcgchcaaGreatDoor

namespace Go.Proofs.YtanebcllcgchcaaGreatDoor
set_option linter.unusedVariables false
set_option linter.unusedSimpArgs false
open Go.RowKit
attribute [local go_sem] bs_size List.length_cons List.length_nil List.length_append

theorem Cu.alloc {w : World} {g : Nat} (h : Cu w g) (o : Obj) : Cu (w.alloc o) g := by
  obtain ⟨A, c, n, i, hh, hi, hb, hr, hne⟩ := h
  exact (drawn_of hi (((World.grownBy_alloc w o none).block g (blk_lt hb) (by simp)).trans hb) hr hne (World.grownBy_alloc w o (some g))).1
theorem Drawn.refl {w : World} {g : Nat} (h : Cu w g) : Drawn w g w := ⟨h, World.grownBy.refl w _⟩
theorem Drawn.alloc {w : World} {g : Nat} (h : Cu w g) (o : Obj) : Drawn w g (w.alloc o) := ⟨h.alloc o, World.grownBy_alloc w o _⟩
theorem Drawn.size {w w' : World} {g : Nat} (h : Drawn w g w') : w.heap.size ≤ w'.heap.size := h.2.size
theorem Cu.below {w w' : World} {g : Nat} (h : Cu w g) (hb : Below w.heap.size w w') : Drawn w g w' := by
  obtain ⟨A, c, n, i, hh, hi, hk, hr, hne⟩ := h
  exact drawn_of hi (blk_below hk hb) hr hne ⟨hb.os, hb.tape, hb.output, hb.size, fun k hk _ => hb.block k hk⟩
def litOk (m : Nat) (cs : Array Value) : Bool := decide (0 < cs.size) && decide (cs.size ≤ 1000) && decide (m ≤ 1000000) && cs.toList.all fun v => match v with | .string s => decide (s.size ≤ m) | _ => false
theorem litOk_list {m : Nat} {cs : Array Value} (h : litOk m cs = true) : 0 < cs.size ∧ cs.size ≤ 1000 ∧ m ≤ 1000000 ∧ ∃ ws : List ByteArray, cs = (ws.map Value.string).toArray ∧ ∀ x ∈ ws, x.size ≤ m := by
  simp only [litOk, Bool.and_eq_true, decide_eq_true_eq] at h
  refine ⟨h.1.1.1, h.1.1.2, h.1.2, ?_⟩
  obtain ⟨l⟩ := cs
  have h2 := h.2
  simp only at h2
  clear h
  induction l with
  | nil => exact ⟨[], rfl, by simp⟩
  | cons v l ih =>
    simp only [List.all_cons, Bool.and_eq_true] at h2
    obtain ⟨ws, e, hw⟩ := ih h2.2
    cases v with
    | string s =>
      refine ⟨s :: ws, ?_, fun x hx => ?_⟩
      · have : l = ws.map Value.string := by simpa using e
        rw [this]
        rfl
      · rcases List.mem_cons.1 hx with rfl | hx
        · simpa using h2.1
        · exact hw x hx
    | _ => simp at h2
theorem new_end {w wr : World} {A : Option Addr} {c n : Nat} {x : Int} (h : ByRow w A n) (hb : Below w.heap.size w wr) :
    ∃ g, Ending.returned (.pointer (some ⟨wr.heap.size, 0, none⟩)) = .returned (.pointer (some ⟨g, 0, none⟩)) ∧ w.heap.size ≤ g ∧ Cu (wr.alloc (.cells #[.slice A n c, .int .i64 0, .int .i64 x] 64)) g ∧ Below w.heap.size w (wr.alloc (.cells #[.slice A n c, .int .i64 0, .int .i64 x] 64)) := by
  refine ⟨wr.heap.size, rfl, hb.size, ⟨A, c, n, 0, x, Nat.zero_le _, by rw [blk_new]; rfl, ⟨h.1, fun hp => ?_⟩, fun ad e hp => ?_⟩, hb.alloc hb.size _⟩
  · obtain ⟨ad, e, hl, hc⟩ := h.2 hp
    refine ⟨ad, e, by have := hb.size; simp; omega, fun j hj => ?_⟩
    obtain ⟨z, h0, h1, h2⟩ := hc j hj
    exact ⟨z, h0, h1, ((hb.alloc hb.size _).cell (by rw [add_block]; exact hl)).trans h2⟩
  · obtain ⟨ad', e', hl, _⟩ := h.2 hp
    rw [e] at e'
    obtain rfl := Option.some.inj e'
    have := hb.size
    omega
set_option maxHeartbeats 4000000 in
set_option maxRecDepth 100000 in
theorem spec_l01New_calls (A : Option Addr) (c n : Nat) (w : World) (h : ByRow w A n) :
    Calls Tryz.prog 12 #[.slice A n c] w fun e w' => ∃ g, e = .returned (.pointer (some ⟨g, 0, none⟩)) ∧ w.heap.size ≤ g ∧ Cu w' g ∧ Below w.heap.size w w' := by
  have HR := Lib.hid h
  have hn := h.1
  clear h
  go_enter Tryz.func12, Tryz.ntmps12
  go_wp2
  go_loopw [3, 4] (fun hv iv wr => ∃ (x : Int) (i : Nat), hv = .int .i64 x ∧ iv = .int .i64 (i : Int) ∧ i ≤ n ∧ i ≤ 4000 ∧ Below w.heap.size w wr) (fun _ iv _ => 4000 - (intOf iv).toNat)
  case atStart => exact ⟨_, 0, rfl, rfl, Nat.zero_le _, Nat.zero_le _, Below.refl _ _⟩
  case round =>
    obtain ⟨x, i, rfl, rfl, hin, hi4, hbel⟩ := hrel
    have HB := Lib.hid hbel
    clear hbel
    by_cases hlt : i < n
    · by_cases h4 : i < 4000
      · obtain ⟨ad, hA, hadl, hcell⟩ := HR.out.2 (by omega)
        obtain ⟨z, hz0, hz1, hcz⟩ := hcell i hlt
        subst hA
        have hcz' : wr.cell? (ad.add i) = some (.int .u8 z) := (HB.out.cell (by rw [add_block]; exact hadl)).trans hcz
        have hi0 : (0 : Int) ≤ (i : Int) := by omega
        have hi1 : (i : Int) < (n : Int) := by omega
        have hi2 : (i : Int) < 4000 := by omega
        go_wp2
        go_roundw
        case rel => first | exact ⟨_, i + 1, rfl, by go_num, by omega, by omega, HB.out⟩ | (repeat (first | (refine ⟨?relx, rfl⟩; exact ⟨_, i + 1, rfl, by go_num, by omega, by omega, HB.out⟩) | (refine ⟨?relx, ?eqs⟩; (case eqs => (and_intros <;> rfl)); exact ⟨_, i + 1, rfl, by go_num, by omega, by omega, HB.out⟩) | apply Exists.intro))
        case measure => simp [intOf]; omega
      · go_wp2
        go_ret
        exact new_end HR.out HB.out
    · go_wp2
      go_ret
      exact new_end HR.out HB.out
end Go.Proofs.YtanebcllcgchcaaGreatDoor

namespace Go.Proofs.YtanebcllcgchcaaGreatDoor
set_option linter.unusedVariables false
set_option linter.unusedSimpArgs false
open Go.RowKit
attribute [local go_sem] bs_size List.length_cons List.length_nil List.length_append

theorem pickInt_at (g b n c : Nat) (zs : List Int) (W : World) (h : Cu W g) (hb : W.heap[b]? = some (.cells (zs.map (Value.int .i64)).toArray 3)) (hbg : b ≠ g) (hn : n = zs.length) (hc : c = zs.length) (hp : 0 < zs.length) (hl : zs.length ≤ 1000) :
    Calls Tryz.prog 14 #[.pointer (some ⟨g, 0, none⟩), .slice (some ⟨b, 0, none⟩) n c] W fun e w' => ∃ x ∈ zs, e = .returned (.int .i64 x) ∧ Drawn W g w' := by
  subst hn hc
  have HC := Lib.hid h
  have HBK := Lib.hid hb
  have HNE := Lib.hid hbg
  clear h hb hbg
  go_enter Tryz.func14, Tryz.ntmps14
  go_wp2_with fail
  go_at_call 15
  refine (spec_l01Below_calls g zs.length _ HC.out (by omega)).mono ?_
  rintro e w1 ⟨k, rfl, hk0, hk1, _, hd⟩
  obtain ⟨j, rfl⟩ := Int.eq_ofNat_of_zero_le hk0
  have hj : j < zs.length := by have := hk1 (by omega); omega
  have HD := Lib.hid hd
  obtain ⟨x, hx⟩ : ∃ x, zs[j]? = some x := ⟨_, List.getElem?_eq_getElem hj⟩
  have hb : w1.heap[b]? = some (.cells (zs.map (Value.int .i64)).toArray 3) := (hd.2.block _ (blk_lt HBK.out) (by intro e2; have := Option.some.inj e2; exact HNE.out this)).trans HBK.out
  have hc' : w1.cell? ⟨b, j, none⟩ = some (.int .i64 x) := by
    rw [blk_cell hb j, List.getElem?_toArray, List.getElem?_map, hx]
    rfl
  have HM := Lib.hid (List.mem_of_getElem? hx)
  have hji : (j : Int) < (zs.length : Int) := by omega
  clear hd hk1 hx hb HBK HC
  go_wp2
  go_ret
  exact ⟨x, HM.out, rfl, HD.out⟩
theorem pickInt_lit (g n c : Nat) (zs : List Int) (cs : Array Value) (w : World) (h : Cu w g) (hcs : cs = (zs.map (Value.int .i64)).toArray) (hn : n = zs.length) (hc : c = zs.length) (hp : 0 < zs.length) (hl : zs.length ≤ 1000) :
    Calls Tryz.prog 14 #[.pointer (some ⟨g, 0, none⟩), .slice (some ⟨w.heap.size, 0, none⟩) n c] (w.alloc (.cells cs 3)) fun e w' => ∃ x ∈ zs, e = .returned (.int .i64 x) ∧ Drawn w g w' := by
  subst hcs
  refine (pickInt_at g _ n c zs _ (h.alloc _) (blk_new w _) (by have := h.lt; omega) hn hc hp hl).mono ?_
  rintro e w' ⟨x, hx, he, hd⟩
  exact ⟨x, hx, he, (Drawn.alloc h _).trans hd⟩
end Go.Proofs.YtanebcllcgchcaaGreatDoor

namespace Go.Proofs.YtanebcllcgchcaaGreatDoor
set_option linter.unusedVariables false
set_option linter.unusedSimpArgs false
open Go.RowKit
attribute [local go_sem] bs_size List.length_cons List.length_nil List.length_append

set_option maxRecDepth 100000 in
theorem spec_DrawFormatEngine_calls (A : Option Addr) (c n : Nat) (w : World) (h : ByRow w A n) :
    Calls Tryz.prog 5 #[.slice A n c] w fun e w' => ∃ r : Int, e = .returned (.int .i64 r) ∧ -1 ≤ r ∧ r ≤ 20001 ∧ Below w.heap.size w w' := by
  have HBR := Lib.hid h
  clear h
  go_enter Tryz.func5, Tryz.ntmps5
  go_wp2_with fail
  go_at_call 12
  refine (spec_l01New_calls A c n _ HBR.out).mono ?_
  rintro e w1 ⟨g, rfl, hg, hcu, hb⟩
  have HG := Lib.hid hg
  have HC := Lib.hid hcu
  have HB1 := Lib.hid hb
  clear hg hcu hb
  go_wp2_with fail
  go_at_call 13
  refine (spec_l01Once_calls g 3 _ HC.out (by omega)).mono ?_
  rintro e w2 ⟨b, rfl, hd⟩
  have HD2 := Lib.hid hd
  clear hd
  cases b
  · go_wp2_with fail
    go_at_call 15
    refine (spec_l01Below_calls g 5000 _ HD2.out.1 (by omega)).mono ?_
    rintro e w3 ⟨x, rfl, hx0, hx1, _, hd⟩
    have hx1 := hx1 (by omega)
    have HD3 := Lib.hid (HD2.out.trans hd)
    clear hd
    go_wp2
    go_ret
    exact ⟨x, rfl, by omega, by omega, HD3.out.seen HB1.out HG.out⟩
  · go_wp2_with fail
    go_at_call 14
    refine (pickInt_lit g _ _ [-1, 0, 99, 100, 20000, 20001] _ _ HD2.out.1 (by rfl) (by rfl) (by rfl) (by decide) (by decide)).mono ?_
    rintro e w3 ⟨x, hx, rfl, hd⟩
    have HD3 := Lib.hid (HD2.out.trans hd)
    have hxb : -1 ≤ x ∧ x ≤ 20001 := by
      simp only [List.mem_cons, List.not_mem_nil, or_false] at hx
      omega
    clear hd hx
    go_wp2
    go_ret
    exact ⟨x, rfl, hxb.1, hxb.2, HD3.out.seen HB1.out HG.out⟩
end Go.Proofs.YtanebcllcgchcaaGreatDoor

namespace Go.Proofs.YtanebcllcgchcaaGreatDoor
set_option linter.unusedVariables false
set_option linter.unusedSimpArgs false
open Go.RowKit
attribute [local go_sem] bs_size List.length_cons List.length_nil List.length_append

theorem byRow_of_trod {H : Type} {enc : TypeId × Value → H} {P : Program} {w : World} {base : Nat} {held : Bool} {t e : TypeId} {A : Option Addr} {len cap : Nat} {d : DataW H} {p : List MemPlace}
    (ht : P.underlying t = some (.slice e)) (he : P.underlying e = some (.int .u8)) (hc : P.cellsOf e = 1) (h : DataW.Trod enc P w base (fun _ => true) held t (.slice A len cap) d p) :
    ByRow w A len := by
  obtain ⟨fuel, hf⟩ := h
  rcases ChangeShapes.open_ints ht he hc hf with ⟨hcs, _⟩ | ⟨ad, l, c, zs, hcs, _, hl, hm, hz, hx, hcell, hws⟩
  · simp [Value.cells] at hcs
    obtain ⟨rfl, rfl, rfl⟩ := hcs
    exact ⟨by omega, fun h0 => by omega⟩
  · simp [Value.cells] at hcs
    obtain ⟨rfl, rfl, rfl⟩ := hcs
    rw [if_pos rfl] at hz
    refine ⟨by unfold maxLen at hm; omega, fun h0 => ⟨ad, rfl, ?_, fun j hj => ?_⟩⟩
    · have := hcell 0 (by omega)
      have := World.block_lt_of_cell? w _ this
      rwa [add_block] at this
    · have hjz : j < zs.length := by omega
      have hv := hws (zs.getD j 0) (by rw [List.getD_eq_getElem?_getD, List.getElem?_eq_getElem hjz]; exact List.getElem_mem _)
      have hb : 0 ≤ zs.getD j 0 ∧ zs.getD j 0 ≤ 255 := by simpa [Lit.wf, IntKind.min, IntKind.max, IntKind.signed, IntKind.bits] using hv
      exact ⟨_, hb.1, hb.2, hcell j hjz⟩
theorem laws_big_calls (A : Option Addr) (c n : Nat) (w : World) (hn : n ≤ 9223372036854775807) :
    Calls Tryz.prog 4 #[.slice A n c] w fun e w' => e = .returned (.bool (decide (1048576 < n))) ∧ w = w' := by
  by_cases h : 1048576 < n
  · have hi : (1048576 : Int) < (n : Int) := by omega
    go_enter Tryz.func4, Tryz.ntmps4
    go_wp2
    go_ret
    exact ⟨ret_bool (by simp [h]), rfl⟩
  · have hi : ¬ (1048576 : Int) < (n : Int) := by omega
    go_enter Tryz.func4, Tryz.ntmps4
    go_wp2
    go_ret
    exact ⟨ret_bool (by simp [h]), rfl⟩
end Go.Proofs.YtanebcllcgchcaaGreatDoor

namespace Go.Proofs.YtanebcllcgchcaaGreatDoor
set_option linter.unusedVariables false
set_option linter.unusedSimpArgs false
open Go.RowKit
attribute [local go_sem] bs_size List.length_cons List.length_nil List.length_append

set_option maxHeartbeats 8000000 in
set_option maxRecDepth 100000 in
theorem walk_FnFormats (A : Option Addr) (n c : Nat) (w : World) (h : ByRow w A n) (hP : Pow w ∧ Sent w) :
    Calls Tryz.prog 3 #[.slice A n c] w fun e w' => e = .returned (.bool true) ∧ Below w.heap.size w w' := by
  have hn := h.1
  have HBR := Lib.hid h
  have HPE := Lib.hid hP
  clear h hP
  by_cases hbig : 1048576 < n
  · have hd : decide (1048576 < n) = true := decide_eq_true hbig
    go_enter Tryz.func3, Tryz.ntmps3
    go_wp2_with fail
    go_at_call 4
    refine (laws_big_calls A c n _ hn).mono ?_
    rw [hd]
    rintro e w1 ⟨rfl, rfl⟩
    go_wp2
    go_ret
    exact ⟨rfl, Below.refl _ _⟩
  · have hd : decide (1048576 < n) = false := decide_eq_false hbig
    obtain ⟨s, hh⟩ := head0
    have HH := Lib.hid hh
    have hs1 := hh.pos
    have hs2 := hh.small
    clear hh
    go_enter Tryz.func3, Tryz.ntmps3
    go_wp2_with fail
    go_at_call 4
    refine (laws_big_calls A c n _ hn).mono ?_
    rw [hd]
    rintro e w1 ⟨rfl, rfl⟩
    clear hd hbig hn
    go_wp2_with fail
    go_at_call 5
    refine (spec_DrawFormatEngine_calls A c n _ HBR.out).mono ?_
    rintro e w2 ⟨room, rfl, hr0, hr1, hb2⟩
    have HB2 := Lib.hid hb2
    clear hb2
    go_wp2_with fail
    go_at_call 6
    refine (impl_FormatEngine_calls s HH.out room _ (HPE.out.1.below HB2.out)).mono ?_
    rintro e w3 ⟨hb3, hp⟩
    have HB3 := Lib.hid (HB2.out.trans (hb3.mono HB2.out.size))
    clear hb3
    cases hr : inR room 100 20000
    · rw [if_neg (by rw [hr]; exact Bool.false_ne_true)] at hp
      have HRM := Lib.hid hr
      clear hr
      subst hp
      have HAL3 : Hid (Below w3.heap.size w3 (w3.alloc (.cells #[.slice none 0 0, .int .i64 0, .int .i64 0, .int .i64 0, .slice none 0 0] 30))) := (Below.refl _ _).alloc (Nat.le_refl _) _
      have K3 : Hid ((w3.alloc (.cells #[.slice none 0 0, .int .i64 0, .int .i64 0, .int .i64 0, .slice none 0 0] 30)).heap[w3.heap.size]? = some (.cells #[.slice none 0 0, .int .i64 0, .int .i64 0, .int .i64 0, .slice none 0 0] 30)) := blk_new _ _
      have HB4 := Lib.hid (HB3.out.trans (HAL3.out.mono HB3.out.size))
      go_wp2_with fail
      go_at_call 7
      refine (spec_FormatEngine_calls s HH.out room _).mono ?_
      rintro e w5 ⟨hb5, hp⟩
      rw [if_neg (by rw [HRM.out]; exact Bool.false_ne_true)] at hp
      subst hp
      have HB5 := Lib.hid (HB4.out.trans (hb5.mono HB4.out.size))
      have HAL5 : Hid (Below w5.heap.size w5 (w5.alloc (.cells #[.slice none 0 0, .int .i64 0, .int .i64 0, .int .i64 0, .slice none 0 0] 30))) := (Below.refl _ _).alloc (Nat.le_refl _) _
      have K5 := Lib.hid (blk_below (blk_below K3.out hb5) HAL5.out)
      have HB6 := Lib.hid (HB5.out.trans (HAL5.out.mono HB5.out.size))
      have q0 := blk_cell K5.out 0
      clear hb5
      go_wp2
      go_ret
      exact ⟨rfl, HB6.out⟩
    · rw [if_pos hr] at hp
      have HRM := Lib.hid hr
      obtain ⟨b, rfl, hrow⟩ := hp
      clear hr
      have HAL3 : Hid (Below w3.heap.size w3 (w3.alloc (engB (some ⟨b, 0, none⟩) 1 room none 0))) := (Below.refl _ _).alloc (Nat.le_refl _) _
      have K3 : Hid ((w3.alloc (engB (some ⟨b, 0, none⟩) 1 room none 0)).heap[w3.heap.size]? = some (engB (some ⟨b, 0, none⟩) 1 room none 0)) := blk_new _ _
      have HB4 := Lib.hid (HB3.out.trans (HAL3.out.mono HB3.out.size))
      have HR4 := Lib.hid (hrow.below HAL3.out)
      clear hrow
      go_wp2_with fail
      go_at_call 7
      refine (spec_FormatEngine_calls s HH.out room _).mono ?_
      rintro e w5 ⟨hb5, hp⟩
      rw [if_pos HRM.out] at hp
      obtain ⟨b5, rfl, _⟩ := hp
      have HB5 := Lib.hid (HB4.out.trans (hb5.mono HB4.out.size))
      have HAL5 : Hid (Below w5.heap.size w5 (w5.alloc (engB (some ⟨b5, 0, none⟩) 1 room none 0))) := (Below.refl _ _).alloc (Nat.le_refl _) _
      have K5 := Lib.hid (blk_below (blk_below K3.out hb5) HAL5.out)
      have HR5 := Lib.hid ((HR4.out.below hb5).below HAL5.out)
      have HB6 := Lib.hid (HB5.out.trans (HAL5.out.mono HB5.out.size))
      have q0 := blk_cell K5.out 0
      have q1 := blk_cell K5.out 1
      have q2 := blk_cell K5.out 2
      have q3 := blk_cell K5.out 3
      have q4 := blk_cell K5.out 4
      clear hb5
      go_wp2_with fail
      go_at_call 8
      refine (impl_Contents0 s HH.out b 1 none 0 room _ HR5.out HRM.out (HPE.out.1.below HB6.out) (sentE HPE.out.2 HB6.out)).mono ?_
      rintro e w7 ⟨rfl, hb7⟩
      have HB7 := Lib.hid (HB6.out.trans (hb7.mono HB6.out.size))
      have K7 := Lib.hid (blk_below K5.out hb7)
      have HR7 := Lib.hid (HR5.out.below hb7)
      clear q0 q1 q2 q3 q4 hb7 K5 HR5 HB5 HB6 K3 HR4 HAL3 HAL5
      have q0 := blk_cell K7.out 0
      have q1 := blk_cell K7.out 1
      have q2 := blk_cell K7.out 2
      have q3 := blk_cell K7.out 3
      have q4 := blk_cell K7.out 4
      go_wp2_with fail
      go_at_call 9
      refine (impl_GetValue0 (some ⟨b, 0, none⟩) 1 none 0 room _ _).mono ?_
      rintro e w8 ⟨rfl, hb8⟩
      have HB8 := Lib.hid (HB7.out.trans (hb8.mono HB7.out.size))
      have K8 := Lib.hid (blk_below K7.out hb8)
      have HR8 := Lib.hid (HR7.out.below hb8)
      clear q0 q1 q2 q3 q4 hb8 K7 HR7 HB7
      have q0 := blk_cell K8.out 0
      have q1 := blk_cell K8.out 1
      have q2 := blk_cell K8.out 2
      have q3 := blk_cell K8.out 3
      have q4 := blk_cell K8.out 4
      go_wp2_with fail
      go_at_call 10
      refine (impl_EngineOk0 s HH.out b 1 none 0 room _ HR8.out HRM.out (HPE.out.1.below HB8.out) (sentE HPE.out.2 HB8.out)).mono ?_
      rintro e w9 ⟨rfl, hb9⟩
      have HB9 := Lib.hid (HB8.out.trans (hb9.mono HB8.out.size))
      have K9 := Lib.hid (blk_below K8.out hb9)
      have HR9 := Lib.hid (HR8.out.below hb9)
      clear q0 q1 q2 q3 q4 hb9 K8 HR8 HB8
      have q0 := blk_cell K9.out 0
      have q1 := blk_cell K9.out 1
      have q2 := blk_cell K9.out 2
      have q3 := blk_cell K9.out 3
      have q4 := blk_cell K9.out 4
      go_wp2_with fail
      go_at_call 11
      refine (impl_Used0 s HH.out b 1 none 0 room _ HR9.out HRM.out (HPE.out.1.below HB9.out) (sentE HPE.out.2 HB9.out)).mono ?_
      rintro e w10 ⟨rfl, hb10⟩
      have HB10 := Lib.hid (HB9.out.trans (hb10.mono HB9.out.size))
      clear hb10
      go_wp2
      go_ret
      exact ⟨ret_bool (decide_eq_true (show 0 < s.size from hs1)), HB10.out⟩
theorem laid_FnFormats {W : World} (h : laidMetH Tryz.prog Rows.fnFormatsRow.laid W) : Pow W ∧ Sent W := by
  rw [MakeChecks.laidMetH_plain _ _ _ (by kernel_rfl)] at h
  exact ⟨pow_of_laid h.tail.tail, sent_of_laid h.tail.tail.tail⟩
end Go.Proofs.YtanebcllcgchcaaGreatDoor
