/- The number of a segment's name; the numbers of a disk: plain. Rows of ints of the call's own. The plain law of ReadHint: what the program reads and what the reference reads is the directory whose hint it is. Directories: DirOk, the program's and the reference's. By wip/tools/gendirok.py. Rows of spots of the call's own. SeqsRise: plain. Segments: the reference's ReadSegment. Segments of the reference. Sort and DeleteFunc on a row of ints of the call's own. segNumber of the program. Segments of the program. SeqsRise of the reference, and of the program. SeqsRise of the program. -/
import Derived.Test.YtaacpdejpcbbbaaGreatDoorDecAll
import Derived.Test.YtaacpdejpcbbbaaGreatDoorSegsL
import Derived.Test.YtaacpdejpcbbbaaGreatDoorOwn
import Derived.Test.YtaacpdejpcbbbaaGreatDoorBl
import Derived.Deep.AppendLies
import Derived.Test.YtaacpdejpcbbbaaGreatDoorRdL
import Derived.Test.YtaacpdejpcbbbaaGreatDoorSum
import Derived.Test.YtaacpdejpcbbbaaGreatDoorGrow
import Derived.Laws.Cover1
import Derived.Outline
import Derived.BigQuiet
import Derived.Test.YtaacpdejpcbbbaaGreatDoorSeg5
import Derived.Test.YtaacpdejpcbbbaaGreatDoorShelf
import Derived.Sort.OwnSortedInts
import Derived.Shelf.Slices.In.SortNone
namespace Go.Proofs.YtaacpdejpcbbbaaGreatDoor
set_option linter.unusedVariables false
set_option linter.unusedSimpArgs false
open Go.RowKit
attribute [local go_sem] bs_size List.length_cons List.length_nil List.length_append

theorem segNm_yes {n : Nat} (h : n ≤ 99) : segNm (n : Int) = (⟨#[98]⟩ : ByteArray) ++ bs (Lib.itoa (n : Int)) := by
  unfold segNm
  rw [if_pos (by unfold inR; simp; omega)]
theorem ub_segNm {n : Nat} (h : n ≤ 99) : ub (segNm (n : Int)) = 98 :: Lib.itoa (n : Int) := by
  rw [segNm_yes h]
  simp [ub, bs]
theorem segNm_inj {n m : Nat} (hn : n ≤ 99) (hm : m ≤ 99) (h : segNm (n : Int) = segNm (m : Int)) : n = m := by
  have e := congrArg ub h
  rw [ub_segNm hn, ub_segNm hm] at e
  injection e with _ e
  have h1 := atoi_itoa (n : Int) ⟨by omega, by omega⟩
  have h2 := atoi_itoa (m : Int) ⟨by omega, by omega⟩
  rw [e, h2] at h1
  injection h1 with h1
  omega

theorem ub_inj' {a b : ByteArray} (h : ub a = ub b) : a = b := by rw [← bs_ub a, h, bs_ub]
def segNo (name : ByteArray) : Option Nat := match ub name with
  | [] => none
  | c :: l => if c = 98 then (match decOf l with
    | none => none
    | some n => if n ≤ 99 then some n else none) else none
theorem segNo_some {name : ByteArray} {n : Nat} (h : segNo name = some n) : n ≤ 99 ∧ name = segNm (n : Int) := by
  unfold segNo at h
  cases hu : ub name with
  | nil => rw [hu] at h; cases h
  | cons c l =>
    rw [hu] at h
    dsimp only at h
    split at h
    · rename_i hc
      subst hc
      cases hd : decOf l with
      | none => rw [hd] at h; cases h
      | some m =>
        rw [hd] at h
        dsimp only at h
        split at h
        · rename_i hm
          obtain rfl := Option.some.inj h
          refine ⟨hm, ub_inj' ?_⟩
          rw [ub_segNm hm, hu, (decOf_spec hd).2]
        · cases h
    · cases h
theorem segNo_nm {n : Nat} (h : n ≤ 99) : segNo (segNm (n : Int)) = some n := by
  unfold segNo
  rw [ub_segNm h]
  dsimp only
  rw [if_pos rfl, decOf_some (n := n) (by omega) rfl]
  dsimp only
  rw [if_pos h]
def noInt (o : Option Nat) : Int := match o with
  | none => -1
  | some n => (n : Int)
theorem less_trans : ∀ {x y z : List UInt8}, Op.bytesLess x y = true → Op.bytesLess y z = true → Op.bytesLess x z = true
  | _, [], _, h, _ => by cases h1 : ‹List UInt8› <;> simp [Op.bytesLess] at h
  | _, _ :: _, [], _, h => by simp [Op.bytesLess] at h
  | [], _ :: _, _ :: _, _, _ => rfl
  | a :: x, b :: y, c :: z, h1, h2 => by
    simp only [Op.bytesLess, Bool.or_eq_true, Bool.and_eq_true, decide_eq_true_eq, beq_iff_eq] at h1 h2 ⊢
    rcases h1 with h1 | ⟨rfl, h1⟩
    · rcases h2 with h2 | ⟨rfl, h2⟩
      · exact .inl (UInt8.lt_trans h1 h2)
      · exact .inl h1
    · rcases h2 with h2 | ⟨rfl, h2⟩
      · exact .inl h2
      · exact .inr ⟨rfl, less_trans h1 h2⟩
theorem less_irr : ∀ (x : List UInt8), Op.bytesLess x x = false
  | [] => rfl
  | a :: x => by
    have h1 : ¬ a < a := UInt8.lt_irrefl a
    simp [Op.bytesLess, h1, less_irr x]
/-- The names of a right disk rise. -/
theorem names_rise {fs : List FiD} (h : diskOkB fs = true) : ∀ (i j : Nat) (x y : FiD), i < j → fs[i]? = some x → fs[j]? = some y → Op.bytesLess x.1.toList y.1.toList = true := by
  have step : ∀ (i : Nat) (x y : FiD), fs[i]? = some x → fs[i + 1]? = some y → Op.bytesLess x.1.toList y.1.toList = true := fun i x y hx hy => by
    have hil := (List.getElem?_eq_some_iff.1 hy).1
    unfold diskOkB at h
    rw [Bool.and_eq_true, List.all_eq_true] at h
    have h2 := h.1 (i + 1) (List.mem_range.2 hil)
    unfold fiAt at h2
    rw [hy] at h2
    dsimp only at h2
    rw [hx, Bool.and_eq_true] at h2
    exact h2.2
  intro i j
  induction j with
  | zero => intro x y hij; omega
  | succ j ih =>
    intro x y hij hx hy
    by_cases e : i = j
    · subst e; exact step i x y hx hy
    · have hjl := (List.getElem?_eq_some_iff.1 hy).1
      have hz : fs[j]? = some fs[j] := List.getElem?_eq_getElem (by omega)
      exact less_trans (ih x _ (by omega) hx hz) (step j _ y hz hy)
theorem fileB_of {fs : List FiD} (h : diskOkB fs = true) {i : Nat} {x : FiD} (hx : fs[i]? = some x) : fileB fs x.1 = some x.2.1 :=
  fileB_at hx rfl fun j y hj hy e => by
    have := names_rise h j i y x hj hy hx
    rw [e, less_irr] at this
    cases this
theorem fileB_mem' {n s : ByteArray} : ∀ {fs : List FiD}, fileB fs n = some s → ∃ x ∈ fs, x.1 = n ∧ x.2.1 = s
  | [], h => by cases h
  | y :: ys, h => by
    unfold fileB at h
    split at h
    · rename_i hy
      exact ⟨y, by simp, hy, Option.some.inj h⟩
    · obtain ⟨x, hx, e⟩ := fileB_mem' h
      exact ⟨x, by simp [hx], e⟩
def numsB (fs : List FiD) : List Nat := fs.filterMap fun x => segNo x.1
def fromOf (n : Nat) (t : ByteArray) : Nat := match headOfB (n : Int) t with
  | none => 0
  | some (f, _) => f
def leastI (fs : List FiD) : Nat := fs.foldl (fun m x => match segNo x.1 with
  | none => m
  | some n => max m (fromOf n x.2.1)) 0
theorem nums_step {fs : List FiD} {i : Nat} {x : FiD} (hx : fs[i]? = some x) : numsB (fs.take (i + 1)) = numsB (fs.take i) ++ (match segNo x.1 with | none => [] | some n => [n]) := by
  unfold numsB
  rw [take_snoc hx, List.filterMap_append]
  congr 1
  cases h : segNo x.1 <;> simp [h]
theorem leastI_step {fs : List FiD} {i : Nat} {x : FiD} (hx : fs[i]? = some x) : leastI (fs.take (i + 1)) = (match segNo x.1 with | none => leastI (fs.take i) | some n => max (leastI (fs.take i)) (fromOf n x.2.1)) := by
  unfold leastI
  rw [take_snoc hx, List.foldl_append]
  rfl
theorem nums_mem {fs : List FiD} (h : diskOkB fs = true) (n : Nat) : n ∈ numsB fs ↔ n < 100 ∧ hasF fs n = true := by
  unfold numsB
  rw [List.mem_filterMap]
  constructor
  · rintro ⟨x, hx, hn⟩
    obtain ⟨h1, h2⟩ := segNo_some hn
    obtain ⟨i, hi⟩ := List.getElem?_of_mem hx
    refine ⟨by omega, ?_⟩
    unfold hasF
    rw [← h2, fileB_of h hi]
    rfl
  · rintro ⟨h1, h2⟩
    unfold hasF at h2
    cases hf : fileB fs (segNm (n : Int)) with
    | none => rw [hf] at h2; cases h2
    | some t =>
      obtain ⟨x, hx, e, _⟩ := fileB_mem' hf
      exact ⟨x, hx, by rw [e]; exact segNo_nm (by omega)⟩
theorem nums_nodup {fs : List FiD} (h : diskOkB fs = true) : (numsB fs).Nodup := by
  have hp : fs.Pairwise fun x y => x.1 ≠ y.1 := by
    rw [List.pairwise_iff_getElem]
    intro i j hi hj hij e
    have := names_rise h i j _ _ hij (List.getElem?_eq_getElem hi) (List.getElem?_eq_getElem hj)
    rw [e, less_irr] at this
    cases this
  unfold numsB
  refine List.Pairwise.filterMap _ (fun x y hxy b hb b' hb' e => ?_) hp
  subst e
  exact hxy ((segNo_some hb).2.trans (segNo_some hb').2.symm)
theorem hdFrom_of {fs : List FiD} {n : Nat} {t : ByteArray} (h : fileB fs (segNm (n : Int)) = some t) : hdFrom fs n = fromOf n t := by
  unfold hdFrom hdAt fromOf
  rw [h]
  cases h2 : headOfB (n : Int) t with
  | none => simp [h2]
  | some p => simp [h2]
theorem leastI_iff {fs : List FiD} {m : Nat} : leastI fs ≤ m ↔ ∀ x ∈ fs, ∀ n, segNo x.1 = some n → fromOf n x.2.1 ≤ m := by
  have gen : ∀ (l : List FiD) (a : Nat), l.foldl (fun m x => match segNo x.1 with | none => m | some n => max m (fromOf n x.2.1)) a ≤ m ↔ a ≤ m ∧ ∀ x ∈ l, ∀ n, segNo x.1 = some n → fromOf n x.2.1 ≤ m := by
    intro l
    induction l with
    | nil => intro a; simp
    | cons x l ih =>
      intro a
      rw [List.foldl_cons, ih]
      constructor
      · rintro ⟨h1, h2⟩
        cases hs : segNo x.1 with
        | none =>
          rw [hs] at h1
          refine ⟨h1, fun y hy n hn => ?_⟩
          rcases List.mem_cons.1 hy with rfl | hy
          · rw [hs] at hn; cases hn
          · exact h2 y hy n hn
        | some k =>
          rw [hs] at h1
          have h1 := Nat.max_le.1 h1
          refine ⟨h1.1, fun y hy n hn => ?_⟩
          rcases List.mem_cons.1 hy with rfl | hy
          · rw [hs] at hn
            cases hn
            omega
          · exact h2 y hy n hn
      · rintro ⟨h1, h2⟩
        refine ⟨?_, fun y hy n hn => h2 y (by simp [hy]) n hn⟩
        cases hs : segNo x.1 with
        | none => exact h1
        | some k =>
          exact Nat.max_le.2 ⟨h1, h2 x (by simp) k hs⟩
  unfold leastI
  rw [gen]
  simp
theorem leastI_eq {fs : List FiD} (h : diskOkB fs = true) : leastI fs = leastB fs 100 := by
  have key : ∀ m, leastI fs ≤ m ↔ leastB fs 100 ≤ m := fun m => by
    rw [leastI_iff, least_iff fs]
    constructor
    · intro h1 n hn
      cases hf : fileB fs (segNm (n : Int)) with
      | none => rw [(hd_none hf).1]; omega
      | some t =>
        obtain ⟨x, hx, e, e2⟩ := fileB_mem' hf
        rw [hdFrom_of hf, ← e2]
        exact h1 x hx n (by rw [e]; exact segNo_nm (by omega))
    · intro h1 x hx n hn
      obtain ⟨h2, h3⟩ := segNo_some hn
      obtain ⟨i, hi⟩ := List.getElem?_of_mem hx
      have hf : fileB fs (segNm (n : Int)) = some x.2.1 := by rw [← h3]; exact fileB_of h hi
      rw [← hdFrom_of hf]
      exact h1 n (by omega)
  exact Nat.le_antisymm ((key _).2 (Nat.le_refl _)) ((key _).1 (Nat.le_refl _))
theorem leastI_le {fs : List FiD} {i : Nat} : leastI (fs.take i) ≤ 99 := leastI_iff.2 fun x hx n hn => by
  obtain ⟨h2, _⟩ := segNo_some hn
  unfold fromOf
  cases h : headOfB (n : Int) x.2.1 with
  | none => simp
  | some p =>
    obtain ⟨f, l⟩ := p
    obtain ⟨r, rs, hu, _, hs⟩ := segPl_some h
    rw [headOf_cons hu] at h
    cases h3 : hdI (n : Int) r with
    | none => rw [h3] at h; cases h
    | some f' =>
      rw [h3] at h
      have h4 := (hdI_is h3).2.1
      simp only [Option.some.injEq, Prod.mk.injEq] at h
      dsimp only
      omega
theorem nums_len (fs : List FiD) (i : Nat) : (numsB (fs.take i)).length ≤ i := by
  unfold numsB
  have h1 := List.length_filterMap_le (fun x : FiD => segNo x.1) (fs.take i)
  have h2 : (fs.take i).length ≤ i := by rw [List.length_take]; omega
  omega
end Go.Proofs.YtaacpdejpcbbbaaGreatDoor

namespace Go.Proofs.YtaacpdejpcbbbaaGreatDoor
set_option linter.unusedVariables false
set_option linter.unusedSimpArgs false
open Go.RowKit

theorem info_int : (Tryz.prog.info? 3).map (fun i => (i.zero, i.size, i.bytes)) = some (some (.int .i64 0), 1, 8) := by kernel_rfl
def OwnI (w : World) (B : Nat) (v : Value) (ns : List Int) : Prop := w.ownsRow B 3 1 v ns.length (ns.map (Value.int .i64))
theorem OwnI.form {w : World} {B : Nat} {v : Value} {ns : List Int} (h : OwnI w B v ns) : ∃ A c, v = .slice A ns.length c := by
  rcases h.2 with ⟨rfl, h0⟩ | ⟨g, cap, cur, rfl, _⟩
  · exact ⟨none, 0, by rw [h0]⟩
  · exact ⟨_, _, rfl⟩
theorem OwnI.lt {w : World} {B : Nat} {v : Value} {ns : List Int} (h : OwnI w B v ns) : ∀ k, v.ownBlock = some k → B ≤ k ∧ k < w.heap.size := World.ownsRow.lt h
theorem OwnI.at_ {w : World} {B n c : Nat} {A : Option Addr} {ns : List Int} (h : OwnI w B (.slice A n c) ns) {j : Nat} {x : Int} (hj : ns[j]? = some x) : ∃ b, A = some ⟨b, 0, none⟩ ∧ w.cell? ⟨b, j, none⟩ = some (.int .i64 x) := by
  rcases h.2 with ⟨e, h0⟩ | ⟨g, cap, cur, e, _, _, hle, _⟩
  · have : ns = [] := List.eq_nil_of_length_eq_zero h0
    rw [this] at hj
    simp at hj
  · injection e with e1 e2 e3
    subst e1
    have hc := World.ownsRow.cells h (g := g) rfl j (.int .i64 x) (by rw [List.getElem?_map, hj]; rfl)
    rw [add_plain] at hc
    exact ⟨g, rfl, hc⟩
theorem OwnI.below {w w' : World} {B : Nat} {v : Value} {ns : List Int} (h : OwnI w B v ns) (hb : Below w.heap.size w w') : OwnI w' B v ns := by
  refine World.ownsRow.kept h (row := none) ⟨hb.os, hb.tape, hb.output, hb.size, fun k hk _ => hb.block k hk⟩ ?_
  cases v.ownBlock
  · exact .inl rfl
  · exact .inr (by simp)
theorem ownI_lit (w : World) {B : Nat} (hB : B ≤ w.heap.size) (x : Int) : OwnI (w.alloc (.cells #[.int .i64 x] 3)) B (.slice (some ⟨w.heap.size, 0, none⟩) 1 1) [x] :=
  ⟨rfl, .inr ⟨w.heap.size, 1, #[.int .i64 x], rfl, hB, heap_alloc_new w _, Nat.le_refl _, by unfold maxLen; omega, rfl, rfl⟩⟩
theorem below_pushI {B : Nat} {a w w2 : World} {o : Obj} {v : Value} {ns : List Int} (h : Below B a w) (hB : B ≤ w.heap.size) (ho : OwnI w B v ns) (hg : (w.alloc o).grownBy w2 v.ownBlock) : Below B a w2 :=
  (h.alloc hB o).grown hg (by simp; omega) fun k hk => (ho.lt k hk).1
theorem map_back (L : List (List ByteArray)) : (L.map (·.map ub)).map (·.map bs) = L := by
  rw [List.map_map]
  conv => rhs; rw [← List.map_id L]
  refine List.map_congr_left fun xs _ => ?_
  simp only [Function.comp, List.map_map, id]
  conv => rhs; rw [← List.map_id xs]
  exact List.map_congr_left fun x _ => bs_ub x
end Go.Proofs.YtaacpdejpcbbbaaGreatDoor

namespace Go.Proofs.YtaacpdejpcbbbaaGreatDoor
set_option linter.unusedVariables false
set_option linter.unusedSimpArgs false
open Go.RowKit

/-- A spot: its key, segment, place, sequence number. -/
abbrev SpotD := ByteArray × Int × Int × Int
def spBytes (x : SpotD) : List UInt8 := shortB (ub x.1) ++ (varBytes x.2.1.toNat ++ (varBytes x.2.2.1.toNat ++ varBytes x.2.2.2.toNat))
def spsBytes (ds : List SpotD) : List UInt8 := (ds.map spBytes).flatten
def spOkB (x : SpotD) : Bool := inR (x.1.size : Int) 1 20 && inR x.2.1 0 99 && inR x.2.2.1 0 20000 && inR x.2.2.2 0 1000000000
/-- The spot at i, and its key against the one ahead of it. -/
def spAt (ds : List SpotD) (i : Nat) : Bool := match ds[i]? with
  | none => true
  | some x => spOkB x && (match i with
    | 0 => true
    | j + 1 => match ds[j]? with
      | none => true
      | some p => Op.bytesLess p.1.toList x.1.toList)
def dirOkB (ds : List SpotD) : Bool := ((List.range ds.length).all fun i => spAt ds i) && decide (ds.length ≤ 200)
def hintInner (ds : List SpotD) : List UInt8 := varBytes ds.length ++ spsBytes ds
def hintText (ds : List SpotD) : Option (List UInt8) := if dirOkB ds = true then some (hintInner ds ++ sum4 (hintInner ds)) else none
def IsHint (s : ByteArray) (ds : List SpotD) : Prop := hintText ds = some (ub s)
theorem isHint_parts {s : ByteArray} {ds : List SpotD} (h : IsHint s ds) : dirOkB ds = true ∧ ub s = hintInner ds ++ sum4 (hintInner ds) := by
  unfold IsHint hintText at h
  split at h
  · rename_i hc
    exact ⟨hc, (Option.some.inj h).symm⟩
  · cases h
theorem inR_iff {n lo hi : Int} : inR n lo hi = true ↔ lo ≤ n ∧ n ≤ hi := by
  unfold inR
  simp [Bool.and_eq_true]
theorem spOk_parts {x : SpotD} (h : spOkB x = true) : (1 ≤ x.1.size ∧ x.1.size ≤ 20) ∧ (0 ≤ x.2.1 ∧ x.2.1 ≤ 99) ∧ (0 ≤ x.2.2.1 ∧ x.2.2.1 ≤ 20000) ∧ (0 ≤ x.2.2.2 ∧ x.2.2.2 ≤ 1000000000) := by
  unfold spOkB at h
  simp only [Bool.and_eq_true, inR_iff] at h
  obtain ⟨⟨⟨h1, h2⟩, h3⟩, h4⟩ := h
  exact ⟨by omega, h2, h3, h4⟩
theorem dirOk_parts {ds : List SpotD} (h : dirOkB ds = true) : ds.length ≤ 200 ∧ ∀ x ∈ ds, spOkB x = true := by
  unfold dirOkB at h
  simp only [Bool.and_eq_true, decide_eq_true_eq] at h
  refine ⟨h.2, fun x hx => ?_⟩
  obtain ⟨i, hi, e⟩ := List.mem_iff_getElem.1 hx
  have h1 := List.all_eq_true.1 h.1 i (List.mem_range.2 hi)
  unfold spAt at h1
  rw [List.getElem?_eq_getElem hi, e] at h1
  simp only [Bool.and_eq_true] at h1
  exact h1.1
theorem spBytes_len {x : SpotD} (h : spOkB x = true) : (spBytes x).length ≤ 60 := by
  obtain ⟨h1, h2, h3, h4⟩ := spOk_parts h
  have q1 := shortB_len x.1 (by omega)
  have q2 := varBytes_length 8 x.2.1.toNat (by omega)
  have q3 := varBytes_length 8 x.2.2.1.toNat (by omega)
  have q4 := varBytes_length 8 x.2.2.2.toNat (by omega)
  unfold spBytes
  simp only [List.length_append]
  omega
theorem spsBytes_len : ∀ (ds : List SpotD), (∀ x ∈ ds, spOkB x = true) → (spsBytes ds).length ≤ 60 * ds.length
  | [], _ => by simp [spsBytes]
  | x :: ds, h => by
    have h1 := spBytes_len (h x (by simp))
    have h2 := spsBytes_len ds fun y hy => h y (by simp [hy])
    have e : spsBytes (x :: ds) = spBytes x ++ spsBytes ds := by simp [spsBytes]
    rw [e, List.length_append, List.length_cons]
    omega
theorem hintInner_len {ds : List SpotD} (h : dirOkB ds = true) : (hintInner ds).length ≤ 12009 := by
  obtain ⟨h1, h2⟩ := dirOk_parts h
  have q := varBytes_length 8 ds.length (by omega)
  have q2 := spsBytes_len ds h2
  unfold hintInner
  rw [List.length_append]
  omega
theorem unsealed_hint {s : ByteArray} {ds : List SpotD} (h : IsHint s ds) : unsealed (ub s) = some (hintInner ds) ∧ s.size ≤ 12013 := by
  obtain ⟨h1, h2⟩ := isHint_parts h
  have hl := hintInner_len h1
  have hn : (ub s).length = (hintInner ds).length + 4 := by rw [h2, List.length_append, sum4_len]
  have e : (ub s).length - 4 = (hintInner ds).length := by omega
  have ht : (ub s).take ((ub s).length - 4) = hintInner ds := by rw [e, h2, List.take_left' rfl]
  have hd : (ub s).drop ((ub s).length - 4) = sum4 (hintInner ds) := by rw [e, h2, List.drop_left' rfl]
  refine ⟨?_, by rw [← ub_length]; omega⟩
  unfold unsealed
  rw [ht, hd, if_pos ⟨by omega, by omega, rfl⟩]
theorem unsealed_took {l t : List UInt8} (h : unsealed l = some t) : l = t ++ sum4 t := by
  unfold unsealed at h
  split at h
  · rename_i hc
    have e := Option.some.inj h
    rw [← e, ← hc.2.2, List.take_append_drop]
  · cases h
/-! ### The program's reading -/
def htK (s : ByteArray) (a : Nat) (b : Bool) : List UInt8 × Nat × Bool := rText s a b
def htS (s : ByteArray) (a : Nat) (b : Bool) : Nat × Nat × Bool := rNum s (htK s a b).2.1 (htK s a b).2.2
def htA (s : ByteArray) (a : Nat) (b : Bool) : Nat × Nat × Bool := rNum s (htS s a b).2.1 (htS s a b).2.2
def htQ (s : ByteArray) (a : Nat) (b : Bool) : Nat × Nat × Bool := rNum s (htA s a b).2.1 (htA s a b).2.2
def spI (s : ByteArray) (a : Nat) : SpotD × Nat × Bool := ((bs (htK s a false).1, ((htS s a false).1 : Int), ((htA s a false).1 : Int), ((htQ s a false).1 : Int)), (htQ s a false).2)
def hiN (t : ByteArray) : Nat × Nat × Bool := rNum t 0 false
def hiX (t : ByteArray) : List SpotD × Nat × Bool := itemsBy (spI t) (hiN t).1 (hiN t).2.1 (hiN t).2.2
def readHintI (s : ByteArray) : Option (List SpotD) := match unsealed (ub s) with
  | none => none
  | some t => if s.size ≤ 20000 ∧ rDone (bs t) (hiX (bs t)).2.1 (hiX (bs t)).2.2 = true ∧ dirOkB (hiX (bs t)).1 = true then some (hiX (bs t)).1 else none
/-! ### The reference's reading -/
def hsK (s : ByteArray) (a : Nat) (b : Bool) : List UInt8 × Nat × Bool := cShort s a b
def hsS (s : ByteArray) (a : Nat) (b : Bool) : Nat × Nat × Bool := rNum s (hsK s a b).2.1 (hsK s a b).2.2
def hsA (s : ByteArray) (a : Nat) (b : Bool) : Nat × Nat × Bool := rNum s (hsS s a b).2.1 (hsS s a b).2.2
def hsQ (s : ByteArray) (a : Nat) (b : Bool) : Nat × Nat × Bool := rNum s (hsA s a b).2.1 (hsA s a b).2.2
def spS (s : ByteArray) (a : Nat) : SpotD × Nat × Bool := ((bs (hsK s a false).1, ((hsS s a false).1 : Int), ((hsA s a false).1 : Int), ((hsQ s a false).1 : Int)), (hsQ s a false).2)
/-- The text under the seal, and whether there is none. -/
def hsT (s : ByteArray) : ByteArray × Bool := match unsealed (ub s) with
  | some t => (bs t, false)
  | none => (⟨#[]⟩, true)
def hsN (s : ByteArray) : Nat × Nat × Bool := rNum (hsT s).1 0 (hsT s).2
def hsX (s : ByteArray) : List SpotD × Nat × Bool := itemsBy (spS (hsT s).1) (min (hsN s).1 300) (hsN s).2.1 (hsN s).2.2
def readHintS (s : ByteArray) : Option (List SpotD) := if (hsX s).2.2 = false ∧ hintText (hsX s).1 = some (ub s) then some (hsX s).1 else none

theorem spI_put {s : ByteArray} (a : Nat) (x : SpotD) (l : List UInt8) (_ : a ≤ s.size) (hx : spOkB x = true) (h : tail_ s a = spBytes x ++ l) : spI s a = (x, a + (spBytes x).length, false) := by
  obtain ⟨h1, h2, h3, h4⟩ := spOk_parts hx
  obtain ⟨k, g, p, q⟩ := x
  dsimp only at h1 h2 h3 h4
  obtain ⟨g, rfl⟩ := Int.eq_ofNat_of_zero_le h2.1
  obtain ⟨p, rfl⟩ := Int.eq_ofNat_of_zero_le h3.1
  obtain ⟨q, rfl⟩ := Int.eq_ofNat_of_zero_le h4.1
  have h0 : tail_ s a = shortB (ub k) ++ (varBytes g ++ (varBytes p ++ (varBytes q ++ l))) := by rw [h]; simp [spBytes, List.append_assoc]
  have e1 : htK s a false = (ub k, a + (shortB (ub k)).length, false) := rText_put (by rw [ub_length]; omega) h0
  have l1 := tail_le ‹_› h0
  have e2 : htS s a false = (g, a + (shortB (ub k)).length + (varBytes g).length, false) := by
    unfold htS
    rw [e1]
    exact rNum_put (by omega) l1.2
  have l2 := tail_le l1.1 l1.2
  have e3 : htA s a false = (p, a + (shortB (ub k)).length + (varBytes g).length + (varBytes p).length, false) := by
    unfold htA
    rw [e2]
    exact rNum_put (by omega) l2.2
  have l3 := tail_le l2.1 l2.2
  have e4 : htQ s a false = (q, a + (shortB (ub k)).length + (varBytes g).length + (varBytes p).length + (varBytes q).length, false) := by
    unfold htQ
    rw [e3]
    exact rNum_put (by omega) l3.2
  unfold spI
  rw [e1, e2, e3, e4, bs_ub]
  simp [spBytes]
  omega
theorem spS_put {s : ByteArray} (a : Nat) (x : SpotD) (l : List UInt8) (ha : a ≤ s.size) (hx : spOkB x = true) (h : tail_ s a = spBytes x ++ l) : spS s a = (x, a + (spBytes x).length, false) := by
  obtain ⟨h1, h2, h3, h4⟩ := spOk_parts hx
  obtain ⟨k, g, p, q⟩ := x
  dsimp only at h1 h2 h3 h4
  obtain ⟨g, rfl⟩ := Int.eq_ofNat_of_zero_le h2.1
  obtain ⟨p, rfl⟩ := Int.eq_ofNat_of_zero_le h3.1
  obtain ⟨q, rfl⟩ := Int.eq_ofNat_of_zero_le h4.1
  have h0 : tail_ s a = shortB (ub k) ++ (varBytes g ++ (varBytes p ++ (varBytes q ++ l))) := by rw [h]; simp [spBytes, List.append_assoc]
  have e1 : hsK s a false = (ub k, a + (shortB (ub k)).length, false) := cShort_put ha (by rw [ub_length]; omega) h0
  have l1 := tail_le ‹_› h0
  have e2 : hsS s a false = (g, a + (shortB (ub k)).length + (varBytes g).length, false) := by
    unfold hsS
    rw [e1]
    exact rNum_put (by omega) l1.2
  have l2 := tail_le l1.1 l1.2
  have e3 : hsA s a false = (p, a + (shortB (ub k)).length + (varBytes g).length + (varBytes p).length, false) := by
    unfold hsA
    rw [e2]
    exact rNum_put (by omega) l2.2
  have l3 := tail_le l2.1 l2.2
  have e4 : hsQ s a false = (q, a + (shortB (ub k)).length + (varBytes g).length + (varBytes p).length + (varBytes q).length, false) := by
    unfold hsQ
    rw [e3]
    exact rNum_put (by omega) l3.2
  unfold spS
  rw [e1, e2, e3, e4, bs_ub]
  simp [spBytes]
  omega
theorem spI_took {s : ByteArray} (a : Nat) (x : SpotD) (a' : Nat) (ha : a ≤ s.size) (h : spI s a = (x, a', false)) : Took s a (spBytes x) a' := by
  unfold spI at h
  simp only [Prod.mk.injEq] at h
  obtain ⟨rfl, h2⟩ := h
  have a1 : (htK s a false).2.1 ≤ s.size := (rText_le s _ ha).1
  have a2 : (htS s a false).2.1 ≤ s.size := (rNum_le s _ _ a1).2.1
  have a3 : (htA s a false).2.1 ≤ s.size := (rNum_le s _ _ a2).2.1
  obtain ⟨b3, _, t4⟩ := rNum_took a3 (n := (htQ s a false).1) (a' := a') (b := (htA s a false).2.2) (Prod.ext rfl h2)
  obtain ⟨b2, _, t3⟩ := rNum_took a2 (n := (htA s a false).1) (a' := (htA s a false).2.1) (b := (htS s a false).2.2) (Prod.ext rfl (Prod.ext rfl b3))
  obtain ⟨b1, _, t2⟩ := rNum_took a1 (n := (htS s a false).1) (a' := (htS s a false).2.1) (b := (htK s a false).2.2) (Prod.ext rfl (Prod.ext rfl b2))
  obtain ⟨_, _, t1⟩ := rText_took ha (x := (htK s a false).1) (a' := (htK s a false).2.1) (b := false) (Prod.ext rfl (Prod.ext rfl b1))
  have := ((t1.trans t2).trans t3).trans t4
  rw [List.append_assoc, List.append_assoc] at this
  unfold spBytes
  rw [ub_bs]
  exact this
theorem readHintI_put {s : ByteArray} {ds : List SpotD} (h : IsHint s ds) : readHintI s = some ds := by
  obtain ⟨hu, hsz⟩ := unsealed_hint h
  obtain ⟨hok, _⟩ := isHint_parts h
  obtain ⟨hn, hx⟩ := dirOk_parts hok
  have h0 : tail_ (bs (hintInner ds)) 0 = varBytes ds.length ++ (spsBytes ds ++ []) := by rw [tail_zero, ub_bs, hintInner, List.append_nil]
  have e1 : hiN (bs (hintInner ds)) = (ds.length, 0 + (varBytes ds.length).length, false) := rNum_put (by omega) h0
  have l1 := tail_le (Nat.zero_le _) h0
  have e2 : hiX (bs (hintInner ds)) = (ds, 0 + (varBytes ds.length).length + (spsBytes ds).length, false) := by
    unfold hiX
    rw [e1]
    exact itemsBy_put (f := spI (bs (hintInner ds))) (enc := spBytes) (good := fun x => spOkB x = true) (fun a x l ha hg hh => spI_put a x l ha hg hh) ds _ [] l1.1 hx l1.2
  have l2 := tail_le l1.1 l1.2
  have hend := (tail_nil l2.1).1 l2.2
  unfold readHintI
  rw [hu]
  dsimp only
  rw [e2, if_pos ⟨by omega, by rw [hend]; simp [rDone], hok⟩]
theorem hsT_put {s : ByteArray} {ds : List SpotD} (h : IsHint s ds) : hsT s = (bs (hintInner ds), false) := by
  unfold hsT
  rw [(unsealed_hint h).1]
theorem readHintS_put {s : ByteArray} {ds : List SpotD} (h : IsHint s ds) : readHintS s = some ds := by
  obtain ⟨hok, _⟩ := isHint_parts h
  obtain ⟨hn, hx⟩ := dirOk_parts hok
  have h0 : tail_ (bs (hintInner ds)) 0 = varBytes ds.length ++ (spsBytes ds ++ []) := by rw [tail_zero, ub_bs, hintInner, List.append_nil]
  have e1 : hsN s = (ds.length, 0 + (varBytes ds.length).length, false) := by
    unfold hsN
    rw [hsT_put h]
    exact rNum_put (by omega) h0
  have l1 := tail_le (Nat.zero_le _) h0
  have e2 : hsX s = (ds, 0 + (varBytes ds.length).length + (spsBytes ds).length, false) := by
    unfold hsX
    rw [e1, hsT_put h, show min ds.length 300 = ds.length by omega]
    exact itemsBy_put (f := spS (bs (hintInner ds))) (enc := spBytes) (good := fun x => spOkB x = true) (fun a x l ha hg hh => spS_put a x l ha hg hh) ds _ [] l1.1 hx l1.2
  unfold readHintS
  rw [e2, if_pos ⟨rfl, h⟩]
theorem readHintS_is {s : ByteArray} {ds : List SpotD} (h : readHintS s = some ds) : IsHint s ds := by
  unfold readHintS at h
  split at h
  · rename_i hc
    obtain rfl := Option.some.inj h
    exact hc.2
  · cases h
theorem readHintI_is {s : ByteArray} {ds : List SpotD} (h : readHintI s = some ds) : IsHint s ds := by
  unfold readHintI at h
  split at h
  · cases h
  · rename_i t ht
    split at h
    · rename_i hc
      obtain rfl := Option.some.inj h
      obtain ⟨_, hd, hok⟩ := hc
      simp only [rDone, Bool.and_eq_true, Bool.not_eq_true', decide_eq_true_eq] at hd
      obtain ⟨hb, hend⟩ := hd
      have a1 : (hiN (bs t)).2.1 ≤ (bs t).size := (rNum_le (bs t) 0 false (Nat.zero_le _)).2.1
      obtain ⟨b1, hlen, t2⟩ := itemsBy_took (f := spI (bs t)) (enc := spBytes) (fun a x a' ha hh => spI_took a x a' ha hh) (hiN (bs t)).1 (hiN (bs t)).2.1 (hiN (bs t)).2.2 (hiX (bs t)).1 (hiX (bs t)).2.1 a1 (Prod.ext rfl (Prod.ext rfl hb))
      obtain ⟨_, _, t1⟩ := rNum_took (s := bs t) (a := 0) (Nat.zero_le _) (n := (hiN (bs t)).1) (a' := (hiN (bs t)).2.1) (b := false) (Prod.ext rfl (Prod.ext rfl b1))
      have := (t1.trans t2).2
      rw [tail_zero, ub_bs, (tail_nil t2.1).2 hend, List.append_nil] at this
      have hin : hintInner (hiX (bs t)).1 = t := by rw [hintInner, hlen]; exact this.symm
      unfold IsHint hintText
      rw [if_pos hok, hin, ← unsealed_took ht]
    · cases h
theorem readHint_same (s : ByteArray) : readHintI s = readHintS s := by
  cases h : readHintS s with
  | some d => exact readHintI_put (readHintS_is h)
  | none =>
    cases h2 : readHintI s with
    | none => rfl
    | some d => rw [readHintS_put (readHintI_is h2)] at h; cases h
end Go.Proofs.YtaacpdejpcbbbaaGreatDoor

namespace Go.Proofs.YtaacpdejpcbbbaaGreatDoor
set_option linter.unusedVariables false
set_option linter.unusedSimpArgs false
open Go.RowKit
attribute [local go_sem] bs_size List.length_cons List.length_nil List.length_append

def spVals (x : SpotD) : List Value := [.string x.1, .int .i64 x.2.1, .int .i64 x.2.2.1, .int .i64 x.2.2.2]
def spFlat (ds : List SpotD) : List Value := (ds.map spVals).flatten
theorem spFlat_len (ds : List SpotD) : (spFlat ds).length = ds.length * 4 := flat_len (f := spVals) (m := 4) (fun _ => rfl) ds
theorem spFlat_snoc (ds : List SpotD) (x : SpotD) : spFlat (ds ++ [x]) = spFlat ds ++ spVals x := by simp [spFlat]
/-- A slice's value reads as these spots. -/
def SpRow (w : World) (A : Option Addr) (c : Nat) (ds : List SpotD) : Prop :=
  ds.length ≤ c ∧ c ≤ 9223372036854775807 ∧ (∀ x ∈ ds, x.1.size ≤ 9223372036854775807) ∧
  (0 < ds.length → ∃ ad : Addr, A = some ad ∧ ad.block < w.heap.size ∧ ∀ j x, ds[j]? = some x → w.cell? (ad.add (j * 4)) = some (.string x.1) ∧ w.cell? ⟨(ad.add (j * 4)).block, (ad.add (j * 4)).off + 1, none⟩ = some (.int .i64 x.2.1) ∧ w.cell? ⟨(ad.add (j * 4)).block, (ad.add (j * 4)).off + 2, none⟩ = some (.int .i64 x.2.2.1) ∧ w.cell? ⟨(ad.add (j * 4)).block, (ad.add (j * 4)).off + 3, none⟩ = some (.int .i64 x.2.2.2))
theorem SpRow.below {w w' : World} {A : Option Addr} {c : Nat} {ds : List SpotD} (h : SpRow w A c ds) (hb : Below w.heap.size w w') : SpRow w' A c ds :=
  ⟨h.1, h.2.1, h.2.2.1, fun hp => by
    obtain ⟨ad, e, hl, hc⟩ := h.2.2.2 hp
    refine ⟨ad, e, Nat.lt_of_lt_of_le hl hb.size, fun j x hx => ?_⟩
    obtain ⟨h0, h1, h2, h3⟩ := hc j x hx
    have q : (ad.add (j * 4)).block < w.heap.size := by rw [add_block]; exact hl
    exact ⟨(hb.cell q).trans h0, (hb.cell (by show (ad.add (j * 4)).block < _; exact q)).trans h1, (hb.cell (by show (ad.add (j * 4)).block < _; exact q)).trans h2, (hb.cell (by show (ad.add (j * 4)).block < _; exact q)).trans h3⟩⟩
theorem SpRow.len {w : World} {A : Option Addr} {c : Nat} {ds : List SpotD} (h : SpRow w A c ds) : ds.length ≤ 9223372036854775807 := Nat.le_trans h.1 h.2.1
theorem SpRow.at_ {w : World} {A : Option Addr} {c : Nat} {ds : List SpotD} (h : SpRow w A c ds) {k : Nat} (hk : k < ds.length) :
    ∃ (ad : Addr) (x : SpotD), A = some ad ∧ Hid (ds[k]? = some x) ∧ x.1.size ≤ 9223372036854775807 ∧ w.cell? (ad.add (k * 4)) = some (.string x.1) ∧ w.cell? ⟨(ad.add (k * 4)).block, (ad.add (k * 4)).off + 1, none⟩ = some (.int .i64 x.2.1) ∧ w.cell? ⟨(ad.add (k * 4)).block, (ad.add (k * 4)).off + 2, none⟩ = some (.int .i64 x.2.2.1) ∧ w.cell? ⟨(ad.add (k * 4)).block, (ad.add (k * 4)).off + 3, none⟩ = some (.int .i64 x.2.2.2) := by
  obtain ⟨ad, e, _, hc⟩ := h.2.2.2 (by omega)
  have hx : ds[k]? = some ds[k] := List.getElem?_eq_getElem hk
  exact ⟨ad, _, e, hx, h.2.2.1 _ (List.mem_of_getElem? hx), hc k _ hx⟩
theorem spAt_bad {ds : List SpotD} {i : Nat} {x : SpotD} (h : ds[i]? = some x) (hx : spOkB x = false) : spAt ds i = false := by
  unfold spAt
  rw [h]
  simp [hx]
theorem spAt_zero {ds : List SpotD} {x : SpotD} (h : ds[0]? = some x) (hx : spOkB x = true) : spAt ds 0 = true := by
  unfold spAt
  rw [h]
  simp [hx]
theorem spAt_succ {ds : List SpotD} {j : Nat} {x p : SpotD} (h : ds[j + 1]? = some x) (hp : ds[j]? = some p) (hx : spOkB x = true) : spAt ds (j + 1) = Op.bytesLess p.1.toList x.1.toList := by
  unfold spAt
  rw [h]
  simp [hx, hp]
theorem spAt_prev {ds : List SpotD} {j : Nat} {x p : SpotD} (h : ds[j + 1]? = some x) (hp : ds[j]? = some p) (hl : Op.bytesLess p.1.toList x.1.toList = false) : spAt ds (j + 1) = false := by
  unfold spAt
  rw [h]
  simp [hp, hl]
theorem dirOk_bad {ds : List SpotD} {i : Nat} (hi : i < ds.length) (h : spAt ds i = false) : dirOkB ds = false := by
  unfold dirOkB
  rw [List.all_eq_false.2 ⟨i, List.mem_range.2 hi, by simp [h]⟩]
  rfl
theorem dirOk_all {ds : List SpotD} (h : ∀ j, j < ds.length → spAt ds j = true) : dirOkB ds = decide (ds.length ≤ 200) := by
  unfold dirOkB
  rw [List.all_eq_true.2 fun i hi => h i (List.mem_range.1 hi)]
  simp
theorem spOk_1 {x : SpotD} (h : inR (x.1.size : Int) 1 20 = false) : spOkB x = false := by unfold spOkB; rw [h]; rfl
theorem spOk_2 {x : SpotD} (h : inR x.2.1 0 99 = false) : spOkB x = false := by unfold spOkB; rw [h]; simp
theorem spOk_3 {x : SpotD} (h : inR x.2.2.1 0 20000 = false) : spOkB x = false := by unfold spOkB; rw [h]; simp
theorem spOk_4 {x : SpotD} (h : inR x.2.2.2 0 1000000000 = false) : spOkB x = false := by unfold spOkB; rw [h]; simp
theorem spOk_yes {x : SpotD} (h1 : inR (x.1.size : Int) 1 20 = true) (h2 : inR x.2.1 0 99 = true) (h3 : inR x.2.2.1 0 20000 = true) (h4 : inR x.2.2.2 0 1000000000 = true) : spOkB x = true := by unfold spOkB; rw [h1, h2, h3, h4]; rfl
theorem sp_step {ds : List SpotD} {i : Nat} (h : ∀ j, j < i → spAt ds j = true) (hi : spAt ds i = true) : ∀ j, j < i + 1 → spAt ds j = true := by
  intro j hj
  by_cases e : j = i
  · subst e; exact hi
  · exact h j (by omega)
theorem within_sp (n lo hi : Int) (w : World) {b : Bool} (h : inR n lo hi = b) : Calls Tryz.prog 57 #[.int .i64 n, .int .i64 lo, .int .i64 hi] w fun e w' => e = .returned (.bool b) ∧ w' = w := by
  subst h
  exact (impl_within_calls n lo hi w).mono fun e w' ⟨he, hw⟩ => ⟨he, hw.symm⟩
theorem l01In_is (n lo hi : Int) (w : World) {b : Bool} (h : inR n lo hi = b) : Calls Tryz.prog 48 #[.int .i64 n, .int .i64 lo, .int .i64 hi] w fun e w' => e = .returned (.bool b) ∧ w' = w := by
  subst h
  exact (spec_l01In_calls n lo hi w).mono fun e w' ⟨he, hw⟩ => ⟨he, hw.symm⟩
theorem impl_keyOk_at (s : ByteArray) (w : World) (hs : s.size ≤ 9223372036854775807) {b : Bool} (h : inR (s.size : Int) 1 20 = b) : Calls Tryz.prog 191 #[.string s] w fun e w' => e = .returned (.bool b) ∧ w' = w := by
  subst h
  go_enter Tryz.func191, Tryz.ntmps191
  go_wp2_with (go_at_call 57; refine (impl_within_calls _ _ _ _).mono ?_; rintro e w' ⟨rfl, rfl⟩)
  go_ret
  exact ⟨rfl, rfl⟩
end Go.Proofs.YtaacpdejpcbbbaaGreatDoor

namespace Go.Proofs.YtaacpdejpcbbbaaGreatDoor
set_option linter.unusedVariables false
set_option linter.unusedSimpArgs false
open Go.RowKit
attribute [local go_sem] bs_size List.length_cons List.length_nil List.length_append

theorem info_sp : (Tryz.prog.info? 56).map (fun i => (i.zero, i.size, i.bytes)) = some (some (.agg #[.string ⟨#[]⟩, .int .i64 0, .int .i64 0, .int .i64 0]), 4, 40) := by kernel_rfl
/-- A row of spots of the call's own, made from block B on. -/
def SpOwn (w : World) (B : Nat) (v : Value) (ds : List SpotD) : Prop := w.ownsRow B 56 4 v ds.length (spFlat ds)
theorem SpOwn.row {w : World} {B : Nat} {v : Value} {ds : List SpotD} (h : SpOwn w B v ds) (hs : ∀ x ∈ ds, x.1.size ≤ 9223372036854775807) : ∃ A c, v = .slice A ds.length c ∧ SpRow w A c ds := by
  rcases own_cells (f := spVals) (m := 4) (fun _ => rfl) h with ⟨rfl, rfl⟩ | ⟨g, cap, rfl, _, hg, hn, hm, hc⟩
  · exact ⟨none, 0, rfl, by simp, by simp, hs, fun h0 => by simp at h0⟩
  · refine ⟨_, cap, rfl, hn, hm, hs, fun _ => ⟨_, rfl, hg, fun j x hx => ?_⟩⟩
    rw [add_plain]
    exact ⟨hc j x 0 hx (by omega), hc j x 1 hx (by omega), hc j x 2 hx (by omega), hc j x 3 hx (by omega)⟩
theorem SpOwn.below {w w' : World} {B : Nat} {v : Value} {ds : List SpotD} (h : SpOwn w B v ds) (hb : Below w.heap.size w w') : SpOwn w' B v ds := own_keep h hb
end Go.Proofs.YtaacpdejpcbbbaaGreatDoor

namespace Go.Proofs.YtaacpdejpcbbbaaGreatDoor
set_option linter.unusedVariables false
set_option linter.unusedSimpArgs false
open Go.RowKit

/-- The batches of a segment of a disk. -/
def batsAt (fs : List FiD) (n : Nat) : List PlD := match segPl (n : Int) ((fileB fs (segNm (n : Int))).getD ⟨#[]⟩) with
  | none => []
  | some (_, _, pls) => pls
def seqsAt (fs : List FiD) (n : Nat) : List Int := (batsAt fs n).map fun p => p.1.1
def riseGo : Int → List Int → Option Int
  | last, [] => some last
  | last, q :: qs => if q ≤ last then none else riseGo q qs
theorem riseGo_append : ∀ (a b : List Int) (l : Int), riseGo l (a ++ b) = (riseGo l a).bind fun m => riseGo m b
  | [], b, l => rfl
  | q :: a, b, l => by
    rw [List.cons_append, riseGo, riseGo]
    split
    · rfl
    · exact riseGo_append a b q
def riseL (L : List Nat) (sq : Nat → List Int) : Bool := !L.isEmpty && (riseGo (-1) ((L.map sq).flatten)).isSome
def riseB (fs : List FiD) : Bool := riseL (segsB fs) (seqsAt fs)
/-- Behind i segments, and j batches of the next, the last number is l. -/
def RiseAt (L : List Nat) (sq : Nat → List Int) (i j : Nat) (l : Int) : Prop := riseGo (-1) ((((L).take i).map (sq)).flatten ++ (match (L)[i]? with
  | none => []
  | some n => (sq n).take j)) = some l
theorem rise_start (L : List Nat) (sq : Nat → List Int) : RiseAt L sq 0 0 (-1) := by
  unfold RiseAt
  cases (L)[0]? <;> simp [riseGo]
theorem rise_in {L : List Nat} {sq : Nat → List Int} {i j n : Nat} {l q : Int} (h : RiseAt L sq i j l) (hi : (L)[i]? = some n) (hq : (sq n)[j]? = some q) (hlt : ¬ q ≤ l) : RiseAt L sq i (j + 1) q := by
  unfold RiseAt at h ⊢
  rw [hi] at h ⊢
  dsimp only at h ⊢
  rw [take_snoc hq, ← List.append_assoc, riseGo_append, h]
  simp [riseGo, hlt]
theorem rise_next {L : List Nat} {sq : Nat → List Int} {i j n : Nat} {l : Int} (h : RiseAt L sq i j l) (hi : (L)[i]? = some n) (hj : (sq n).length ≤ j) : RiseAt L sq (i + 1) 0 l := by
  unfold RiseAt at h ⊢
  rw [hi] at h
  dsimp only at h
  rw [List.take_of_length_le hj] at h
  rw [take_snoc hi, List.map_append, List.flatten_append]
  cases (L)[i + 1]? <;> simpa using h
theorem rise_end {L : List Nat} {sq : Nat → List Int} {i : Nat} {l : Int} (h : RiseAt L sq i 0 l) (hi : (L).length ≤ i) : riseL L sq = !(L).isEmpty := by
  unfold RiseAt at h
  rw [List.getElem?_eq_none hi, List.take_of_length_le hi] at h
  simp only [List.append_nil] at h
  unfold riseL
  rw [h]
  simp
theorem rise_bad {L : List Nat} {sq : Nat → List Int} {i j n : Nat} {l q : Int} (h : RiseAt L sq i j l) (hi : (L)[i]? = some n) (hq : (sq n)[j]? = some q) (hle : q ≤ l) : riseL L sq = false := by
  obtain ⟨hil, e⟩ := List.getElem?_eq_some_iff.1 hi
  obtain ⟨hjl, e2⟩ := List.getElem?_eq_some_iff.1 hq
  have hs : L = L.take i ++ (n :: L.drop (i + 1)) := by
    rw [← e, ← List.drop_eq_getElem_cons hil, List.take_append_drop]
  have hs2 : sq n = (sq n).take j ++ (q :: (sq n).drop (j + 1)) := by
    rw [← e2, ← List.drop_eq_getElem_cons hjl, List.take_append_drop]
  unfold RiseAt at h
  rw [hi] at h
  dsimp only at h
  have : riseGo (-1) ((L.map sq).flatten) = none := by
    rw [hs, List.map_append, List.flatten_append, List.map_cons, List.flatten_cons, hs2, List.append_assoc, ← List.append_assoc, riseGo_append, h]
    simp [riseGo, hle]
  unfold riseL
  rw [this]
  simp
end Go.Proofs.YtaacpdejpcbbbaaGreatDoor

namespace Go.Proofs.YtaacpdejpcbbbaaGreatDoor
set_option linter.unusedVariables false
set_option linter.unusedSimpArgs false
open Go.RowKit
attribute [local go_sem] bs_size List.length_cons List.length_nil List.length_append

theorem segPl_out {n : Int} {s : ByteArray} (h : ¬ (0 ≤ n ∧ n ≤ 99)) : segPl n s = none := by
  unfold segPl
  cases (unframeB s).1 with
  | nil => rfl
  | cons r rs => dsimp only; rw [hdI_range h r]
theorem segPl_empty {n : Int} {s : ByteArray} (h : (unframeB s).1 = []) : segPl n s = none := by unfold segPl; rw [h]
theorem segPl_nohead {n : Int} {s r : ByteArray} {rs : List ByteArray} (h : (unframeB s).1 = r :: rs) (h2 : hdI n r = none) : segPl n s = none := by unfold segPl; rw [h]; dsimp only; rw [h2]
theorem segPl_yes {n : Int} {s r : ByteArray} {rs : List ByteArray} {f : Nat} (h : (unframeB s).1 = r :: rs) (h2 : hdI n r = some f) : segPl n s = some (f, frameLen r, placedGo none (frameLen r) rs) := by unfold segPl; rw [h]; dsimp only; rw [h2]
theorem own_not_g {v : Value} {b g n c H : Nat} (hat : v.ownBlock = some b ∨ b = H) (hv : v.ownBlock ≠ some g) (hH : g < H) : (Value.slice (some ⟨b, 0, none⟩) n c).ownBlock ≠ some g := by
  simp only [Value.ownBlock, ne_eq, Option.some.injEq]
  rcases hat with h | h
  · intro e; rw [h, e] at hv; exact hv rfl
  · omega
/-- The end is where the loop stands. -/
theorem endOf_step (l : Nat) (acc : List PlD) (b : BatD) (a m : Nat) : endOf l (acc ++ [(b, a, m)]) = a + m := endOf_snoc _ _ _
set_option maxHeartbeats 8000000 in
set_option maxRecDepth 100000 in
theorem spec_ReadSegment_calls (n : Int) (s : ByteArray) (w : World) (hs : s.size ≤ 1125899906842624) : Calls Tryz.prog 98 #[.int .i64 n, .string s] w (SegPost w (segPl n s)) := by
  obtain ⟨i0, hi0, hz, hsz, hby⟩ := info_parts info_bt
  have HB0 : Hid (Below w.heap.size w (w.alloc (.cells #[] 62))) := (Below.refl _ _).alloc (Nat.le_refl _) _
  have HM0 : Hid (BatsOwn (w.alloc (.cells #[] 62)) w.heap.size (.slice (some ⟨w.heap.size, 0, none⟩) 0 0) []) := ListC.made (Nat.le_refl _)
  obtain ⟨_, hlen, hsm⟩ := unframeB_le s
  cases hr : inR n 0 99
  · have HE : Hid (segPl n s = none) := segPl_out (by unfold inR at hr; simp only [Bool.and_eq_false_iff, decide_eq_false_iff_not] at hr; omega)
    have HI := Lib.hid hr
    clear hr
    go_enter Tryz.func98, Tryz.ntmps98
    go_wp2_with fail
    go_at_call 78
    refine (spec_Unframe_calls s _ hs).mono ?_
    rintro e w1 ⟨v, rfl, ho, hb⟩
    go_wp2_with fail
    go_at_call 48
    refine (spec_l01In_calls _ _ _ _).mono ?_
    rw [HI.out]
    rintro e w' ⟨rfl, rfl⟩
    go_wp2
    refine bodyPost_ret (results_tmp4 rfl _ _ _) rfl ?_
    exact segPost_no HE.out (HM0.out.below hb) (HB0.out.trans (hb.mono HB0.out.size))
  · have hnr : 0 ≤ n ∧ n ≤ 99 := by unfold inR at hr; simp only [Bool.and_eq_true, decide_eq_true_eq] at hr; exact hr
    have HI := Lib.hid hr
    obtain ⟨n, rfl⟩ := Int.eq_ofNat_of_zero_le hnr.1
    clear hr
    cases hu : (unframeB s).1 with
    | nil =>
      have HE := Lib.hid (segPl_empty (n := (n : Int)) hu)
      have HU := Lib.hid hu
      clear hu
      go_enter Tryz.func98, Tryz.ntmps98
      go_wp2_with fail
      go_at_call 78
      refine (spec_Unframe_calls s _ hs).mono ?_
      rintro e w1 ⟨v, rfl, ho, hb⟩
      rw [HU.out] at ho
      obtain ⟨A, c, rfl⟩ := ho.form
      rw [List.length_nil]
      go_wp2_with fail
      go_at_call 48
      refine (spec_l01In_calls _ _ _ _).mono ?_
      rw [HI.out]
      rintro e w' ⟨rfl, rfl⟩
      go_wp2
      refine bodyPost_ret (results_tmp4 rfl _ _ _) rfl ?_
      exact segPost_no HE.out (HM0.out.below hb) (HB0.out.trans (hb.mono HB0.out.size))
    | cons r rs =>
      rw [hu] at hlen hsm
      rw [List.length_cons] at hlen
      have hr9 := hsm r (by simp)
      have hl9 := frameLen_le hr9.2
      have HSM := Lib.hid (fun x hx => hsm x (List.mem_cons_of_mem _ hx))
      have HU := Lib.hid hu
      have hsame := hd_same (n := (n : Int)) ⟨by omega, by omega⟩ r
      have hz0 : ((rs.length : Int) + 1 == 0) = false := beq_eq_false_iff_ne.mpr (by omega)
      have hzz : (0 : Int) < (rs.length : Int) + 1 := by omega
      cases hh : hdI (n : Int) r with
      | none =>
        have HE := Lib.hid (segPl_nohead hu hh)
        have HH : Hid (hdS (n : Int) r = none) := by rw [Hid, ← hsame, hh]
        clear hu hh hsame hsm
        go_enter Tryz.func98, Tryz.ntmps98
        go_wp2_with fail
        go_at_call 78
        refine (spec_Unframe_calls s _ hs).mono ?_
        rintro e w1 ⟨v, rfl, ho, hb⟩
        rw [HU.out] at ho
        obtain ⟨ad, c, rfl, hc0⟩ := ownS_at0 ho
        go_wp2_with fail
        go_at_call 48
        refine (spec_l01In_calls _ _ _ _).mono ?_
        rw [HI.out]
        rintro e w' ⟨rfl, rfl⟩
        go_wp2_with fail
        go_at_call 145
        refine (spec_l06Head_calls n r _ (by omega) (by omega)).mono ?_
        rw [HH.out]
        rintro e w2 ⟨rfl, hb2⟩
        simp only [hsRes]
        go_wp2
        refine bodyPost_ret (results_tmp4 rfl _ _ _) rfl ?_
        exact segPost_no HE.out ((HM0.out.below hb).below hb2) (HB0.out.trans ((hb.trans (hb2.mono hb.size)).mono HB0.out.size))
      | some f =>
        have HE := Lib.hid (segPl_yes hu hh)
        have HH : Hid (hdS (n : Int) r = some f) := by rw [Hid, ← hsame, hh]
        have hfr : frameB (ub r) = some (varBytes r.size ++ (sum4 (ub r) ++ ub r)) := by rw [frameB_yes (by rw [ub_length]; exact hr9), ub_length]
        obtain ⟨L, hL1, hL2⟩ : ∃ L, frameB (ub r) = some L ∧ frameLen r = L.length := ⟨_, hfr, by unfold frameLen; rw [hfr]⟩
        have HL1 := Lib.hid hL1
        have hLl : L.length ≤ 9020 := by rw [← hL2]; exact hl9
        rw [hL2] at HE
        have HP : Hid (PlAt (placedGo none L.length rs) rs 0 [] L.length) := ⟨rfl, rfl, by omega⟩
        clear hu hh hsame hsm hfr hL1 hL2 hl9
        generalize placedGo none L.length rs = W at HP HE
        go_enter Tryz.func98, Tryz.ntmps98
        go_wp2_with fail
        go_at_call 78
        refine (spec_Unframe_calls s _ hs).mono ?_
        rintro e w1 ⟨v, rfl, ho, hb⟩
        rw [HU.out] at ho
        rcases ownS_at ho with ⟨_, h0⟩ | ⟨g, cap, rfl, hgB, hgl, hcap, hcm, hcells⟩
        · cases h0
        have hc0 := hcells 0 r rfl
        have HC := Lib.hid (fun j x (hx : rs[j]? = some x) => hcells (j + 1) x (by simpa using hx))
        have HB1 := Lib.hid (HB0.out.trans (hb.mono HB0.out.size))
        have HM1 := Lib.hid (HM0.out.below hb)
        clear hb ho hcells
        rw [List.length_cons]
        go_wp2_with fail
        go_at_call 48
        refine (spec_l01In_calls _ _ _ _).mono ?_
        rw [HI.out]
        rintro e w' ⟨rfl, rfl⟩
        have HC0 := Lib.hid hc0
        go_wp2_with fail
        go_at_call 145
        refine (spec_l06Head_calls n r _ (by omega) (by omega)).mono ?_
        rw [HH.out]
        rintro e w2 ⟨rfl, hb2⟩
        simp only [hsRes]
        have hc0' := (hb2.cell (World.block_lt_of_cell? _ _ HC0.out)).trans HC0.out
        have HB2 := Lib.hid (HB1.out.trans (hb2.mono HB1.out.size))
        have HM2 := Lib.hid (HM1.out.below hb2)
        have HX2 := Lib.hid hb2
        clear hb2 hc0
        go_wp2_with fail
        go_at_call 81
        refine (spec_Frame_calls r _ (by omega)).mono ?_
        rw [HL1.out]
        rintro e w3 ⟨rfl, hb3⟩
        simp only [varRes]
        have HB3 := Lib.hid (HB2.out.trans (hb3.mono HB2.out.size))
        have HM3 := Lib.hid (HM2.out.below hb3)
        have HX3 := Lib.hid (HX2.out.trans (hb3.mono HX2.out.size))
        clear hb3 hc0'
        have HCX : Hid (∀ j x, rs[j]? = some x → w3.cell? ⟨g, j + 1, none⟩ = some (.string x)) := fun j x hx => (HX3.out.cell hgl).trans (HC.out j x hx)
        have hg3 : g < w3.heap.size := Nat.lt_of_lt_of_le hgl HX3.out.size
        have hgw : w.heap.size < g := by simp at hgB; omega
        go_wp2
        go_loopw [8, 15, 16] (fun ov ev iv wr => ∃ (j : Nat) (acc : List PlD) (a : Nat) (v : Value), j ≤ rs.length ∧ iv = .int .i64 ((1 + j : Nat) : Int) ∧ ev = .int .i64 (a : Int) ∧ v = ov ∧ PlAt W rs j acc a ∧ endOf L.length acc = a ∧ BatsOwn wr w.heap.size v (acc.map Prod.fst) ∧ Below w.heap.size w wr ∧ wr.heap[g]? = w3.heap[g]? ∧ v.ownBlock ≠ some g ∧ w3.heap.size ≤ wr.heap.size) (fun _ _ iv _ => rs.length + 1 - (intOf iv).toNat)
        case atStart => exact ⟨0, [], L.length, _, Nat.zero_le _, rfl, rfl, rfl, HP.out, rfl, HM3.out, HB3.out, rfl, by simp [Value.ownBlock]; omega, Nat.le_refl _⟩
        case round =>
          obtain ⟨j, acc, a, v, hj, rfl, rfl, rfl, hat, hen, hown, hbel, hgg, hvg, hsz3⟩ := hrel
          have HAT := Lib.hid hat
          have HEN := Lib.hid hen
          have HO := Lib.hid hown
          have HB := Lib.hid hbel
          have HG := Lib.hid hgg
          have HVG0 := Lib.hid hvg
          have HGL : Hid (w3.heap.size ≤ wr.heap.size ∧ g < w3.heap.size) := ⟨hsz3, hg3⟩
          have ha : a ≤ 200000000 := by have := hat.2.2; omega
          have HAL := Lib.hid hat.2.1
          obtain ⟨A, c, rfl⟩ := hown.form
          have HVG := HVG0
          rw [List.length_map, hat.2.1] at HO HVG ⊢
          clear hat hown hbel hgg hvg hen hsz3 HVG0
          by_cases hlt : j < rs.length
          · obtain ⟨x, hx⟩ : ∃ x, rs[j]? = some x := ⟨_, List.getElem?_eq_getElem hlt⟩
            have hxs := HSM.out x (List.mem_of_getElem? hx)
            have hcx : wr.cell? ⟨g, 1 + j, none⟩ = some (.string x) := (World.cell?_of_block (a := ⟨g, 1 + j, none⟩) HG.out).trans (by rw [Nat.add_comm]; exact HCX.out j x hx)
            have HX := Lib.hid hx
            have hli : 1 + (j : Int) < (rs.length : Int) + 1 := by omega
            have hti : (1 + (j : Int)).toNat = 1 + j := by omega
            clear hx
            cases hb : readBatS x with
            | none =>
              have HWE := Lib.hid (plAt_stop HAT.out (by rw [drop_get HX.out]; exact placedGo_none hb))
              have HRB := Lib.hid hb
              clear hb
              go_wp2_with fail
              go_at_call 79
              refine (spec_ReadBatch_calls x _ (by omega)).mono ?_
              rw [HRB.out]
              rintro e w4 ⟨hb4, rfl⟩
              have HO4 := Lib.hid (HO.out.below hb4)
              have HB4 := Lib.hid (HB.out.trans (hb4.mono HB.out.size))
              clear hb4
              go_wp2
              go_quiet (fail)
              go_wp2
              refine bodyPost_ret (results_tmp4 rfl _ _ _) rfl ?_
              exact segPost_of HE.out HWE.out HEN.out ((HO4.out.alloc _).below (blwN (Below.refl _ _) _)) (blwN (HB4.out.alloc HB4.out.size _) _)
            | some b =>
              obtain ⟨q, cs⟩ := b
              have HRB := Lib.hid hb
              obtain ⟨M, hM1, hM2⟩ : ∃ M, frameB (ub x) = some M ∧ frameLen x = M.length := ⟨_, frameB_yes (by rw [ub_length]; exact hxs), by unfold frameLen; rw [frameB_yes (by rw [ub_length]; exact hxs)]⟩
              have HF1 := Lib.hid hM1
              have HF2 := Lib.hid hM2
              have HBS := Lib.hid (batD_small hb)
              clear hM1 hM2
              go_wp2_with fail
              go_at_call 79
              refine (spec_ReadBatch_calls x _ (by omega)).mono ?_
              rw [HRB.out]
              rintro e w4 ⟨hb4, vb, rfl, hvb⟩
              obtain ⟨Ab, cb, rfl, hrb⟩ := hvb.row HBS.out.1
              have HO4 := Lib.hid (HO.out.below hb4)
              have HV4 := Lib.hid hvb
              have HW4 := Lib.hid hb4
              clear hb4 hvb hrb
              have HW5 : Hid (Below w4.heap.size w4 (w4.alloc (.cells #[.int .i64 q, .slice Ab cs.length cb] 62))) := (Below.refl _ _).alloc (Nat.le_refl _) _
              have HO5 := Lib.hid (HO4.out.below HW5.out)
              generalize hW5 : w4.alloc (.cells #[.int .i64 q, .slice Ab cs.length cb] 62) = WB at HW5 HO5
              have y0 : WB.cell? ⟨w4.heap.size, 0, none⟩ = some (.int .i64 q) := by rw [← hW5]; exact blk_cell (blk_new w4 _) 0
              have y1 : WB.cell? ⟨w4.heap.size, 1, none⟩ = some (.slice Ab cs.length cb) := by rw [← hW5]; exact blk_cell (blk_new w4 _) 1
              by_cases hj0 : j = 0
              · have hacc : acc = [] := List.eq_nil_of_length_eq_zero (by rw [HAL.out, hj0])
                have HST := Lib.hid (plAt_step HAT.out HX.out hxs.2 (by rw [hacc]; exact placedGo_first hb))
                have g0 : decide (0 < j) = false := decide_eq_false (by omega)
                clear hb hj0 hacc
                go_wp2
                go_quiet (fail)
                have HX5 : Hid (Below w4.heap.size w4 (WB.drewN nq)) := blwN HW5.out _
                have z0 : (WB.drewN nq).cell? ⟨w4.heap.size, 0, none⟩ = some (.int .i64 q) := y0
                have z1 : (WB.drewN nq).cell? ⟨w4.heap.size, 1, none⟩ = some (.slice Ab cs.length cb) := y1
                generalize WB.drewN nq = W5 at HX5 z0 z1 ⊢
                clear y0 y1
                have HX6 : Hid (Below wr.heap.size wr (W5.alloc (.cells (batVals (.slice Ab cs.length cb, (q, cs))).toArray 62))) := by
                  have e1 := HW4.out.trans (HX5.out.mono HW4.out.size)
                  exact e1.alloc e1.size _
                have HU6 : Hid (ChOwn (W5.alloc (.cells (batVals (.slice Ab cs.length cb, (q, cs))).toArray 62)) w.heap.size (.slice Ab cs.length cb) cs) := (HV4.out.mono HB.out.size).below (HX5.out.alloc HX5.out.size _)
                obtain ⟨fl, hfl, hpush⟩ := ListC.push HO.out (x := ((q, cs) : BatD)) HX6.out HU6.out HBS.out.1 (fun k hk => (HV4.out.lt k hk).1)
                rw [List.length_map, HAL.out] at hfl hpush
                have HFL := Lib.hid hfl
                have HPU := Lib.hid hpush
                have HBASE : Hid (w.heap.size ≤ (W5.alloc (.cells (batVals (.slice Ab cs.length cb, (q, cs))).toArray 62)).heap.size) := Nat.le_trans HB.out.size HX6.out.size
                have HNEWS : Hid (∀ j u, (batVals (.slice Ab cs.length cb, (q, cs)))[j]? = some u → (W5.alloc (.cells (batVals (.slice Ab cs.length cb, (q, cs))).toArray 62)).cell? ((⟨W5.heap.size, 0, none⟩ : Addr).add j) = some u) := World.news_of_block (heap_alloc_new W5 _)
                clear hfl hpush
                go_wp2_with (at_builtin; refine wpList_append_lies _ rfl _ _ _ rfl w.heap.size 62 i0 (.agg #[.int .i64 0, .slice none 0 0]) 2 32 Tryz.underlying92 hi0 hz hsz hby rfl (by omega) _ j fl rfl HFL.out ⟨W5.heap.size, 0, none⟩ 1 1 (batVals (.slice Ab cs.length cb, (q, cs))) rfl rfl HNEWS.out (by simp [Value.oneCell', batVals]) (by omega) (by unfold maxLen; omega) (by omega) HBASE.out _ rfl ?_; intro b7 cap7 w7 hown7 hgrow7 hat7 hlt7; have HN7 := Lib.hid (HPU.out b7 cap7 w7 hown7 hgrow7 hat7); have HB7 : Hid (Below w.heap.size w w7) := gr_below (HB.out.trans (HX6.out.mono HB.out.size)) hgrow7 HBASE.out (fun k e => (HO.out.lt k e).1); have HG7 : Hid (w7.heap[g]? = w3.heap[g]?) := (hgrow7.block g (Nat.lt_of_lt_of_le (by have := HGL.out; omega) HX6.out.size) (fun e => HVG.out e.symm)).trans ((HX6.out.block g (by have := HGL.out; omega)).trans HG.out); have HVG7 : Hid ((Value.slice (some ⟨b7, 0, none⟩) (j + 1) cap7).ownBlock ≠ some g) := own_not_g hat7 HVG.out (Nat.lt_of_lt_of_le (by have := HGL.out; omega) HX6.out.size); have HS7 : Hid (wr.heap.size ≤ w7.heap.size) := Nat.le_trans HX6.out.size hgrow7.size; have g7 : w7.cell? ⟨g, 1 + j, none⟩ = some (.string x) := (World.cell?_of_block (a := ⟨g, 1 + j, none⟩) HG7.out).trans (by rw [Nat.add_comm]; exact HCX.out j x HX.out); clear hown7 hgrow7 hat7 hlt7)
                go_wp2_with fail
                go_at_call 81
                refine (spec_Frame_calls x _ (by omega)).mono ?_
                rw [HF1.out]
                rintro e w8 ⟨rfl, hb8⟩
                simp only [varRes]
                have HN8 := Lib.hid (HN7.out.below hb8)
                have HB8 := Lib.hid (HB7.out.trans (hb8.mono HB7.out.size))
                have HG8 : Hid (w8.heap[g]? = w3.heap[g]?) := (hb8.block g (by have := HS7.out; have := HGL.out; omega)).trans HG7.out
                have hs8 : Hid (wr.heap.size ≤ w8.heap.size) := Nat.le_trans HS7.out hb8.size
                have hMl : M.length ≤ 9020 := by rw [← HF2.out]; exact frameLen_le hxs.2
                clear hb8 g7
                go_wp2
                go_roundw
                case rel => exact ⟨j + 1, acc ++ [((q, cs), a, M.length)], a + M.length, _, by omega, by go_num, by go_num, rfl, by have h := HST.out; rw [HF2.out] at h; exact h, endOf_step _ _ _ _ _, by rw [List.map_append]; exact HN8.out, HB8.out, HG8.out, HVG7.out, by have := HGL.out; have := hs8.out; omega⟩
                case measure => simp [intOf]; omega
              · obtain ⟨i, hi⟩ : ∃ i, j = i + 1 := ⟨j - 1, by omega⟩
                have hil : i < acc.length := by rw [HAL.out]; omega
                obtain ⟨p, hp⟩ : ∃ p, acc[i]? = some p := ⟨_, List.getElem?_eq_getElem hil⟩
                have hls : lastSeq acc = some p.1.1 := by
                  unfold lastSeq
                  rw [List.getLast?_eq_getElem?, HAL.out, hi, Nat.add_sub_cancel, hp]
                  rfl
                obtain ⟨b0, u0, hA, hcl, _, _⟩ := HO5.out.at_ (fun _ => rfl) (j := i) (x := p.1) (by rw [List.getElem?_map, hp]; rfl)
                subst hA
                have hlc := hcl 0 (by omega)
                rw [show (batVals (u0, p.1))[0]? = some (.int .i64 p.1.1) from rfl, Nat.add_zero] at hlc
                have ht : ((j : Int) - 1).toNat = i := by omega
                have hw : IntKind.i64.wrap ((j : Int) - 1) = (j : Int) - 1 := by rw [IntKind.wrap_i64]; omega
                have hb0 : (0 : Int) ≤ (j : Int) - 1 := by omega
                have hbx : (j : Int) - 1 < (j : Int) := by omega
                have g0 : decide (0 < j) = true := decide_eq_true (by omega)
                by_cases hq : q ≤ p.1.1
                · have HWE := Lib.hid (plAt_stop HAT.out (by rw [drop_get HX.out, hls]; exact placedGo_low hb hq))
                  have hqd : decide (q ≤ p.1.1) = true := decide_eq_true hq
                  clear hb hi hp hls hcl hil hj0 hq
                  go_wp2
                  go_quiet (fail)
                  go_wp2
                  refine bodyPost_ret (results_tmp4 rfl _ _ _) rfl ?_
                  exact segPost_of HE.out HWE.out HEN.out (HO5.out.below (blwN (Below.refl _ _) _)) (HB.out.trans ((blwN (HW4.out.trans (HW5.out.mono HW4.out.size)) _).mono HB.out.size))
                · have HST := Lib.hid (plAt_step HAT.out HX.out hxs.2 (by rw [hls]; exact placedGo_next hb hq))
                  have hqd : decide (q ≤ p.1.1) = false := decide_eq_false hq
                  clear hb hi hp hls hcl hil hj0 hq
                  go_wp2
                  go_quiet (fail)
                  have HX5 : Hid (Below w4.heap.size w4 (WB.drewN nq)) := blwN HW5.out _
                  have z0 : (WB.drewN nq).cell? ⟨w4.heap.size, 0, none⟩ = some (.int .i64 q) := y0
                  have z1 : (WB.drewN nq).cell? ⟨w4.heap.size, 1, none⟩ = some (.slice Ab cs.length cb) := y1
                  generalize WB.drewN nq = W5 at HX5 z0 z1 ⊢
                  clear y0 y1
                  have HX6 : Hid (Below wr.heap.size wr (W5.alloc (.cells (batVals (.slice Ab cs.length cb, (q, cs))).toArray 62))) := by
                    have e1 := HW4.out.trans (HX5.out.mono HW4.out.size)
                    exact e1.alloc e1.size _
                  have HU6 : Hid (ChOwn (W5.alloc (.cells (batVals (.slice Ab cs.length cb, (q, cs))).toArray 62)) w.heap.size (.slice Ab cs.length cb) cs) := (HV4.out.mono HB.out.size).below (HX5.out.alloc HX5.out.size _)
                  obtain ⟨fl, hfl, hpush⟩ := ListC.push HO.out (x := ((q, cs) : BatD)) HX6.out HU6.out HBS.out.1 (fun k hk => (HV4.out.lt k hk).1)
                  rw [List.length_map, HAL.out] at hfl hpush
                  have HFL := Lib.hid hfl
                  have HPU := Lib.hid hpush
                  have HBASE : Hid (w.heap.size ≤ (W5.alloc (.cells (batVals (.slice Ab cs.length cb, (q, cs))).toArray 62)).heap.size) := Nat.le_trans HB.out.size HX6.out.size
                  have HNEWS : Hid (∀ j u, (batVals (.slice Ab cs.length cb, (q, cs)))[j]? = some u → (W5.alloc (.cells (batVals (.slice Ab cs.length cb, (q, cs))).toArray 62)).cell? ((⟨W5.heap.size, 0, none⟩ : Addr).add j) = some u) := World.news_of_block (heap_alloc_new W5 _)
                  clear hfl hpush
                  go_wp2_with (at_builtin; refine wpList_append_lies _ rfl _ _ _ rfl w.heap.size 62 i0 (.agg #[.int .i64 0, .slice none 0 0]) 2 32 Tryz.underlying92 hi0 hz hsz hby rfl (by omega) _ j fl rfl HFL.out ⟨W5.heap.size, 0, none⟩ 1 1 (batVals (.slice Ab cs.length cb, (q, cs))) rfl rfl HNEWS.out (by simp [Value.oneCell', batVals]) (by omega) (by unfold maxLen; omega) (by omega) HBASE.out _ rfl ?_; intro b7 cap7 w7 hown7 hgrow7 hat7 hlt7; have HN7 := Lib.hid (HPU.out b7 cap7 w7 hown7 hgrow7 hat7); have HB7 : Hid (Below w.heap.size w w7) := gr_below (HB.out.trans (HX6.out.mono HB.out.size)) hgrow7 HBASE.out (fun k e => (HO.out.lt k e).1); have HG7 : Hid (w7.heap[g]? = w3.heap[g]?) := (hgrow7.block g (Nat.lt_of_lt_of_le (by have := HGL.out; omega) HX6.out.size) (fun e => HVG.out e.symm)).trans ((HX6.out.block g (by have := HGL.out; omega)).trans HG.out); have HVG7 : Hid ((Value.slice (some ⟨b7, 0, none⟩) (j + 1) cap7).ownBlock ≠ some g) := own_not_g hat7 HVG.out (Nat.lt_of_lt_of_le (by have := HGL.out; omega) HX6.out.size); have HS7 : Hid (wr.heap.size ≤ w7.heap.size) := Nat.le_trans HX6.out.size hgrow7.size; have g7 : w7.cell? ⟨g, 1 + j, none⟩ = some (.string x) := (World.cell?_of_block (a := ⟨g, 1 + j, none⟩) HG7.out).trans (by rw [Nat.add_comm]; exact HCX.out j x HX.out); clear hown7 hgrow7 hat7 hlt7)
                  go_wp2_with fail
                  go_at_call 81
                  refine (spec_Frame_calls x _ (by omega)).mono ?_
                  rw [HF1.out]
                  rintro e w8 ⟨rfl, hb8⟩
                  simp only [varRes]
                  have HN8 := Lib.hid (HN7.out.below hb8)
                  have HB8 := Lib.hid (HB7.out.trans (hb8.mono HB7.out.size))
                  have HG8 : Hid (w8.heap[g]? = w3.heap[g]?) := (hb8.block g (by have := HS7.out; have := HGL.out; omega)).trans HG7.out
                  have hs8 : Hid (wr.heap.size ≤ w8.heap.size) := Nat.le_trans HS7.out hb8.size
                  have hMl : M.length ≤ 9020 := by rw [← HF2.out]; exact frameLen_le hxs.2
                  clear hb8 g7
                  go_wp2
                  go_roundw
                  case rel => exact ⟨j + 1, acc ++ [((q, cs), a, M.length)], a + M.length, _, by omega, by go_num, by go_num, rfl, by have h := HST.out; rw [HF2.out] at h; exact h, endOf_step _ _ _ _ _, by rw [List.map_append]; exact HN8.out, HB8.out, HG8.out, HVG7.out, by have := HGL.out; have := hs8.out; omega⟩
                  case measure => simp [intOf]; omega
          · obtain rfl : j = rs.length := by omega
            have HWE := Lib.hid (plAt_end HAT.out (Nat.le_refl _))
            have hli : ¬ 1 + (rs.length : Int) < (rs.length : Int) + 1 := by omega
            go_wp2
            refine bodyPost_ret (results_tmp4 rfl _ _ _) rfl ?_
            exact segPost_of HE.out HWE.out HEN.out HO.out HB.out
end Go.Proofs.YtaacpdejpcbbbaaGreatDoor

namespace Go.Proofs.YtaacpdejpcbbbaaGreatDoor
set_option linter.unusedVariables false
set_option linter.unusedSimpArgs false
open Go.RowKit
attribute [local go_sem] bs_size List.length_cons List.length_nil List.length_append

/-- The disk in its box. -/
abbrev W5 (w : World) (A : Option Addr) (n c : Nat) : World := w.alloc (.cells #[.slice A n c] 32)
structure VD (w : World) (A : Option Addr) (n c : Nat) (W : World) : Prop where
  b : Below (W5 w A n c).heap.size (W5 w A n c) W
section
variable {w W W' : World} {A : Option Addr} {n c : Nat}
theorem VD.go (h : VD w A n c W) (hb : Below W.heap.size W W') : VD w A n c W' := ⟨h.b.trans (hb.mono h.b.size)⟩
theorem VD.drew (h : VD w A n c W) : VD w A n c W.drew := h.go (Below.drew (Below.refl _ _))
theorem VD.alloc (h : VD w A n c W) (o : Obj) : VD w A n c (W.alloc o) := h.go ((Below.refl _ _).alloc (Nat.le_refl _) _)
theorem VD.from_ (h : VD w A n c W) : Below w.heap.size w W := ((Below.refl _ _).alloc (Nat.le_refl _) _).trans (h.b.mono (by simp))
theorem VD.cell (h : VD w A n c W) : W.cell? ⟨w.heap.size, 0, none⟩ = some (.slice A n c) := (h.b.cell (by simp)).trans (blk_cell (blk_new w _) 0)
theorem VD.all (h : VD w A n c W) : W.cell? ⟨w.heap.size, 0, none⟩ = some (.slice A n c) ∧ Hid (VD w A n c W) := ⟨h.cell, h⟩
theorem VD.grown {row : Option Nat} (h : VD w A n c W) (hg : W.grownBy W' row) (hr : ∀ k, row = some k → w.heap.size + 1 ≤ k) : VD w A n c W' := ⟨h.b.grown hg h.b.size fun k e => by have := hr k e; simpa using this⟩
theorem VD.size (h : VD w A n c W) : w.heap.size + 1 ≤ W.heap.size := by have := h.b.size; simpa using this
end
theorem vd_start (w : World) (A : Option Addr) (n c : Nat) : VD w A n c (W5 w A n c) := ⟨Below.refl _ _⟩
/-- What Segments gives. -/
def SegsPost (w : World) (fs : List FiD) (e : Ending) (w' : World) : Prop := ∃ v, e = .returned (.tuple #[v, .bool (!(segsB fs).isEmpty)]) ∧ OwnI w' w.heap.size v ((segsB fs).map Int.ofNat) ∧ Below w.heap.size w w'
theorem segsPost_no {w w' : World} {fs : List FiD} {v : Value} (h : segsB fs = []) (ho : OwnI w' w.heap.size v []) (hb : Below w.heap.size w w') : SegsPost w fs (.returned (.tuple #[v, .bool false])) w' := ⟨v, by rw [h]; rfl, by rw [h]; exact ho, hb⟩
theorem seg_head {n : Int} {s : ByteArray} : segPl n s = none ∧ headOfB n s = none ∨ ∃ f l pls, segPl n s = some (f, l, pls) ∧ headOfB n s = some (f, l) := by
  have h := segPl_head n s
  cases hs : segPl n s with
  | none => rw [hs] at h; exact .inl ⟨rfl, h.symm⟩
  | some x =>
    obtain ⟨f, l, pls⟩ := x
    rw [hs] at h
    exact .inr ⟨f, l, pls, rfl, h.symm⟩
theorem OwnI.mono {w : World} {B B' : Nat} {v : Value} {ns : List Int} (h : OwnI w B v ns) (hb : B' ≤ B) : OwnI w B' v ns := own_low h hb
theorem ownI_empty (w : World) {B : Nat} (hB : B ≤ w.heap.size) : OwnI (w.alloc (.cells #[] 3)) B (.slice (some ⟨w.heap.size, 0, none⟩) 0 0) [] := World.ownsRow_made (w := w) #[] 0 hB (Nat.zero_le _) rfl
theorem least_step {fs : List FiD} {n f : Nat} (h : hdFrom fs n = f) : leastB fs (n + 1) = max (leastB fs n) f := by rw [leastB, h]
theorem outs_yes {fs : List FiD} {a k : Nat} (h : a ≤ k) (hf : hasF fs k = true) : outsB fs a (k + 1) = outsB fs a k ++ [k] := by rw [outsB, if_pos ⟨h, hf⟩]
theorem outs_no {fs : List FiD} {a k : Nat} (hf : hasF fs k = false) : outsB fs a (k + 1) = outsB fs a k := by rw [outsB, if_neg (by simp [hf])]
set_option maxHeartbeats 8000000 in
set_option maxRecDepth 100000 in
theorem spec_Segments_calls (A : Option Addr) (c : Nat) (fs : List FiD) (w : World) (h : FiRow w A c fs) :
    Calls Tryz.prog 51 #[.agg #[.slice A fs.length c]] w (SegsPost w fs) := by
  obtain ⟨i0, hi0, hz, hsz, hby⟩ := info_parts info_int
  have HF := Lib.hid h
  have hl := h.len
  have HV := Lib.hid (vd_start w A fs.length c)
  have HV0 := Lib.hid (HV.out.alloc (.cells #[] 3))
  have HO0 : Hid (OwnI ((W5 w A fs.length c).alloc (.cells #[] 3)) (w.heap.size + 1) (.slice (some ⟨w.heap.size + 1, 0, none⟩) 0 0) []) := by
    have := ownI_empty (W5 w A fs.length c) (B := w.heap.size + 1) (by simp)
    rwa [show (W5 w A fs.length c).heap.size = w.heap.size + 1 by simp] at this
  have p0 := HV0.out.cell
  clear h
  cases hdk : diskOkB fs
  · have HDK := Lib.hid hdk
    have HE := Lib.hid (segs_no hdk)
    clear hdk
    go_enter Tryz.func51, Tryz.ntmps51
    go_wp2_with fail
    go_at_call 94
    refine (spec_DiskOk_calls A c fs _ (HF.out.below HV0.out.from_)).mono ?_
    rw [HDK.out]
    rintro e w3 ⟨rfl, hb3⟩
    have HV3 := Lib.hid (HV0.out.go hb3)
    have HO3 := Lib.hid (HO0.out.below hb3)
    clear hb3 p0
    go_wp2
    go_ret2
    exact segsPost_no HE.out (HO3.out.mono (Nat.le_succ _)) HV3.out.from_
  · have HDK := Lib.hid hdk
    clear hdk
    go_enter Tryz.func51, Tryz.ntmps51
    go_wp2_with fail
    go_at_call 94
    refine (spec_DiskOk_calls A c fs _ (HF.out.below HV0.out.from_)).mono ?_
    rw [HDK.out]
    rintro e w3 ⟨rfl, hb3⟩
    have HV3 := Lib.hid (HV0.out.go hb3)
    have HO3 := Lib.hid (HO0.out.below hb3)
    clear hb3 p0
    go_wp2
    go_loopw [5, 6] (fun fv nv wr => ∃ n : Nat, n ≤ 100 ∧ nv = .int .i64 (n : Int) ∧ fv = .int .i64 (leastB fs n : Int) ∧ Hid (Below w3.heap.size w3 wr)) (fun _ nv _ => 100 - (intOf nv).toNat)
    case atStart => exact ⟨0, by omega, rfl, rfl, Below.refl _ _⟩
    case round =>
      obtain ⟨n, hn, rfl, rfl, HB⟩ := hrel
      have HVR := Lib.hid (HV3.out.go HB.out)
      by_cases hlt : n < 100
      · have hli : (n : Int) ≤ 99 := by omega
        have HVD := Lib.hid HVR.out.drew
        have hll := least_le fs n (by omega)
        go_wp2_with fail
        go_region_held3 (fun w' => w'.cell? ⟨w.heap.size, 0, none⟩ = some (.slice A fs.length c) ∧ Hid (VD w A fs.length c w')) (first | exact HVD.out.all | exact (HVD.out.go (by assumption)).all | exact ((HVD.out.go (by assumption)).go (by assumption)).all) (first | (go_at_call 77; refine (spec_SegNm_calls (n : Int) _).mono ?_; rintro e w' ⟨rfl, hb⟩) | (go_at_call 97; refine (spec_l03At_calls (segNm (n : Int)) A c fs _ (HF.out.below (HVD.out.go (by assumption)).from_)).mono ?_; rintro e w'' ⟨r, rfl, hr, hb⟩))
        have HV1 := (‹_ ∧ Hid (VD w A fs.length c _)›).2
        have HB1 := Lib.hid (show Below w3.heap.size w3 w'' from HB.out.trans ((Below.drew (Below.refl _ _)).trans (‹Below wr.drew.heap.size wr.drew w'›.trans (hb.mono ‹Below wr.drew.heap.size wr.drew w'›.size)) |>.mono HB.out.size))
        have p1 := HV1.out.cell
        clear hb
        rcases hr with ⟨j, x, rfl, hj, hx, hf⟩ | ⟨rfl, hf⟩
        · have hjl := (List.getElem?_eq_some_iff.1 hj).1
          obtain ⟨ad, y, hA, HY, _, _, _, hd1, _⟩ := (HF.out.below HV1.out.from_).at_ hjl
          obtain rfl : x = y := Option.some.inj (hj.symm.trans HY.out)
          have hts := fileB_small HDK.out hf
          cases hA
          have HFB := Lib.hid hf
          clear hf hj hx
          go_wp2_with fail
          go_at_call 98
          refine (spec_ReadSegment_calls (n : Int) x.2.1 _ (by omega)).mono ?_
          rintro e w5 hp
          rcases seg_head (n := (n : Int)) (s := x.2.1) with ⟨hs1, hs2⟩ | ⟨f, l, pls, hs1, hs2⟩
          · rw [hs1] at hp
            obtain ⟨hb5, v5, rfl, _⟩ := hp
            have HB5 := Lib.hid (HB1.out.trans (hb5.mono HB1.out.size))
            have HST := Lib.hid (least_step (hd_bad HFB.out hs2).1)
            clear hb5 hs1 hs2 p1
            go_wp2
            go_roundw
            case rel => first | exact ⟨n + 1, by omega, by go_num, by rw [HST.out]; congr 2; omega, HB5⟩ | (repeat (first | (refine ⟨?relx, rfl⟩; exact ⟨n + 1, by omega, by go_num, by rw [HST.out]; congr 2; omega, HB5⟩) | (refine ⟨?relx, ?eqs⟩; (case eqs => (and_intros <;> rfl)); exact ⟨n + 1, by omega, by go_num, by rw [HST.out]; congr 2; omega, HB5⟩) | apply Exists.intro))
            case measure => simp [intOf]; omega
          · rw [hs1] at hp
            obtain ⟨hb5, v5, rfl, _⟩ := hp
            have HB5 := Lib.hid (HB1.out.trans (hb5.mono HB1.out.size))
            have HST := Lib.hid (least_step (hd_good HFB.out hs2).1)
            have hfl := least_le fs (n + 1) (by omega)
            rw [HST.out] at hfl
            clear hb5 hs1 hs2 p1
            by_cases hgt : leastB fs n < f
            · have hgi : (leastB fs n : Int) < (f : Int) := by omega
              go_wp2
              go_roundw
              case rel => first | exact ⟨n + 1, by omega, by go_num, by rw [HST.out]; congr 2; omega, HB5⟩ | (repeat (first | (refine ⟨?relx, rfl⟩; exact ⟨n + 1, by omega, by go_num, by rw [HST.out]; congr 2; omega, HB5⟩) | (refine ⟨?relx, ?eqs⟩; (case eqs => (and_intros <;> rfl)); exact ⟨n + 1, by omega, by go_num, by rw [HST.out]; congr 2; omega, HB5⟩) | apply Exists.intro))
              case measure => simp [intOf]; omega
            · have hgi : ¬ (leastB fs n : Int) < (f : Int) := by omega
              go_wp2
              go_roundw
              case rel => first | exact ⟨n + 1, by omega, by go_num, by rw [HST.out]; congr 2; omega, HB5⟩ | (repeat (first | (refine ⟨?relx, rfl⟩; exact ⟨n + 1, by omega, by go_num, by rw [HST.out]; congr 2; omega, HB5⟩) | (refine ⟨?relx, ?eqs⟩; (case eqs => (and_intros <;> rfl)); exact ⟨n + 1, by omega, by go_num, by rw [HST.out]; congr 2; omega, HB5⟩) | apply Exists.intro))
              case measure => simp [intOf]; omega
        · have HST := Lib.hid (least_step (hd_none hf).1)
          clear hf
          go_wp2
          go_roundw
          case rel => first | exact ⟨n + 1, by omega, by go_num, by rw [HST.out]; congr 2; omega, HB1⟩ | (repeat (first | (refine ⟨?relx, rfl⟩; exact ⟨n + 1, by omega, by go_num, by rw [HST.out]; congr 2; omega, HB1⟩) | (refine ⟨?relx, ?eqs⟩; (case eqs => (and_intros <;> rfl)); exact ⟨n + 1, by omega, by go_num, by rw [HST.out]; congr 2; omega, HB1⟩) | apply Exists.intro))
          case measure => simp [intOf]; omega
      · have hn100 : n = 100 := by omega
        have HN := Lib.hid hn100
        have hll := least_le fs n hn
        have hni : ¬ (n : Int) ≤ 99 := by omega
        obtain ⟨a, hgl⟩ : ∃ a, leastB fs n = a := ⟨_, rfl⟩
        rw [hgl] at hll ⊢
        have HQ1 : Hid (∀ m, a ≤ m → m < 100 → hasF fs m = true → badF fs m = true → segsB fs = []) := fun m h1 h2 h3 h4 => segs_bad (n := m) (by unfold allB; rw [← hn100, hgl, hn100]; exact (outs_mem fs).2 ⟨h1, h2, h3⟩) h4
        have HQ2 : Hid (∀ k, k = 100 → (∀ m ∈ outsB fs a k, badF fs m = false) → segsB fs = outsB fs a k) := fun k hk h1 => by
          subst hk
          have h2 := segs_good HDK.out (by unfold allB; rw [← hn100, hgl, hn100]; exact h1)
          unfold allB at h2
          rwa [← hn100, hgl, hn100] at h2
        clear hgl hn100 hlt HN
        have HO4 := Lib.hid (HO3.out.below HB.out)
        have HV4 := Lib.hid HVR.out
        clear HB
        go_wp2
        go_loopw [4, 12] (fun ov nv wr => ∃ n : Nat, a ≤ n ∧ n ≤ 100 ∧ nv = .int .i64 (n : Int) ∧ Hid (∀ m ∈ outsB fs a n, badF fs m = false) ∧ Hid (OwnI wr (w.heap.size + 1) ov ((outsB fs a n).map Int.ofNat)) ∧ Hid (VD w A fs.length c wr)) (fun _ nv _ => 100 - (intOf nv).toNat)
        case atStart => exact ⟨a, Nat.le_refl _, by omega, rfl, fun m hm => by rw [outs_none fs (Nat.le_refl _)] at hm; simp at hm, by rw [outs_none fs (Nat.le_refl _)]; exact HO4.out, HV4⟩
        case round =>
          obtain ⟨n, hna, hn, rfl, HG, HO, HVR⟩ := hrel
          have hol := outs_len fs (a := a) (k := n)
          obtain ⟨A2, c2, hv⟩ := HO.out.form
          rw [List.length_map] at hv
          subst hv
          have HOL := Lib.hid hol
          have HNA := Lib.hid hna
          clear hol hna hll
          by_cases hlt : n < 100
          · have hli : (n : Int) ≤ 99 := by omega
            have HVD := Lib.hid HVR.out.drew
            go_wp2_with fail
            go_region_held3 (fun w' => w'.cell? ⟨w.heap.size, 0, none⟩ = some (.slice A fs.length c) ∧ Hid (VD w A fs.length c w')) (first | exact HVD.out.all | exact (HVD.out.go (by assumption)).all | exact ((HVD.out.go (by assumption)).go (by assumption)).all) (first | (go_at_call 77; refine (spec_SegNm_calls (n : Int) _).mono ?_; rintro e w' ⟨rfl, hb⟩) | (go_at_call 97; refine (spec_l03At_calls (segNm (n : Int)) A c fs _ (HF.out.below (HVD.out.go (by assumption)).from_)).mono ?_; rintro e w'' ⟨r, rfl, hr, hb⟩))
            have HV1 := (‹_ ∧ Hid (VD w A fs.length c _)›).2
            have HO1 := Lib.hid ((HO.out.below ((Below.drew (Below.refl _ _)).trans (‹Below wr.drew.heap.size wr.drew w'›))).below hb)
            have p1 := HV1.out.cell
            clear hb
            rcases hr with ⟨j, x, rfl, hj, hx, hf⟩ | ⟨rfl, hf⟩
            · have hjl := (List.getElem?_eq_some_iff.1 hj).1
              obtain ⟨ad, y, hA, HY, _, _, _, hd1, _⟩ := (HF.out.below HV1.out.from_).at_ hjl
              obtain rfl : x = y := Option.some.inj (hj.symm.trans HY.out)
              have hts := fileB_small HDK.out hf
              cases hA
              have HFB := Lib.hid hf
              clear hf hj hx
              go_wp2_with fail
              go_at_call 98
              refine (spec_ReadSegment_calls (n : Int) x.2.1 _ (by omega)).mono ?_
              rintro e w5 hp
              rcases seg_head (n := (n : Int)) (s := x.2.1) with ⟨hs1, hs2⟩ | ⟨f, l, pls, hs1, hs2⟩
              · rw [hs1] at hp
                obtain ⟨hb5, v5, rfl, _⟩ := hp
                have hbd := hd_bad HFB.out hs2
                have HE := Lib.hid (HQ1.out n HNA.out hlt hbd.2.1 hbd.2.2)
                have HV5 := Lib.hid ((HV1.out.go hb5).alloc (.cells #[] 3))
                have HO5 := Lib.hid (ownI_empty w5 (B := w.heap.size) (by have := (HV1.out.go hb5).size; omega))
                clear hb5 hs1 hs2 p1 hbd
                go_wp2
                go_ret2
                exact segsPost_no HE.out HO5.out HV5.out.from_
              · rw [hs1] at hp
                obtain ⟨hb5, v5, rfl, _⟩ := hp
                have hgd := hd_good HFB.out hs2
                have HOY := Lib.hid (outs_yes HNA.out hgd.2.1)
                have HG2 : Hid (∀ m ∈ outsB fs a (n + 1), badF fs m = false) := fun m hm => by
                  rw [HOY.out] at hm
                  rcases List.mem_append.1 hm with hm | hm
                  · exact HG.out m hm
                  · obtain rfl := List.mem_singleton.1 hm
                    exact hgd.2.2
                have HV5 := Lib.hid (HV1.out.go hb5)
                have HO5 := Lib.hid (HO1.out.below hb5)
                have HO6 : Hid (OwnI (w5.alloc (.cells #[.int .i64 (n : Int)] 3)) (w.heap.size + 1) (.slice A2 (outsB fs a n).length c2) ((outsB fs a n).map Int.ofNat)) := World.ownsRow.alloc HO5.out _
                have HNEWS : Hid (∀ j u, [Value.int .i64 (n : Int)][j]? = some u → (w5.alloc (.cells #[.int .i64 (n : Int)] 3)).cell? ((⟨w5.heap.size, 0, none⟩ : Addr).add j) = some u) := World.news_of_block (heap_alloc_new w5 _)
                have HBASE : Hid (w.heap.size + 1 ≤ (w5.alloc (.cells #[.int .i64 (n : Int)] 3)).heap.size) := by have := HV5.out.size; rw [Hid]; simp; omega
                have HLL : Hid ((outsB fs a n).length = ((outsB fs a n).map Int.ofNat).length) := by rw [Hid, List.length_map]
                clear hb5 hs1 hs2 p1 hgd
                have hol := HOL.out
                go_wp2_with (at_builtin; refine wpList_append_lies _ rfl _ _ _ rfl (w.heap.size + 1) 3 i0 (.int .i64 0) 1 8 Tryz.underlying66 hi0 hz hsz hby rfl (by omega) (.slice A2 (outsB fs a n).length c2) (outsB fs a n).length (((outsB fs a n).map Int.ofNat).map (Value.int .i64)) rfl (by have := HO6.out; unfold OwnI at this; rwa [← HLL.out] at this) ⟨w5.heap.size, 0, none⟩ 1 1 [.int .i64 (n : Int)] rfl rfl HNEWS.out (by simp [Value.oneCell']) (by omega) (by unfold maxLen; omega) (by omega) HBASE.out _ rfl ?_; intro gg cap w7 hown hgrow hat hlt2)
                have HPU : Hid (OwnI w7 (w.heap.size + 1) (.slice (some ⟨gg, 0, none⟩) ((outsB fs a n).length + 1) cap) ((outsB fs a (n + 1)).map Int.ofNat)) := by
                  rw [Hid, HOY.out, OwnI, List.map_append, List.map_append, List.length_append, ← HLL.out]
                  exact hown
                have HV7 := Lib.hid ((HV5.out.alloc _).grown hgrow fun k hk => (HO6.out.lt k hk).1)
                clear hown hgrow hat
                go_wp2
                go_roundw
                case rel => first | exact ⟨n + 1, Nat.le_succ_of_le HNA.out, by omega, by go_num, HG2, HPU, HV7⟩ | (repeat (first | (refine ⟨?relx, rfl⟩; exact ⟨n + 1, Nat.le_succ_of_le HNA.out, by omega, by go_num, HG2, HPU, HV7⟩) | (refine ⟨?relx, ?eqs⟩; (case eqs => (and_intros <;> rfl)); exact ⟨n + 1, Nat.le_succ_of_le HNA.out, by omega, by go_num, HG2, HPU, HV7⟩) | apply Exists.intro))
                case measure => simp [intOf]; omega
            · have HON := Lib.hid (outs_no (a := a) (hd_none hf).2)
              have HG2 : Hid (∀ m ∈ outsB fs a (n + 1), badF fs m = false) := by rw [Hid, HON.out]; exact HG.out
              have HO2 : Hid (OwnI w'' (w.heap.size + 1) (.slice A2 (outsB fs a n).length c2) ((outsB fs a (n + 1)).map Int.ofNat)) := by rw [Hid, HON.out]; exact HO1.out
              clear hf p1
              go_wp2
              go_roundw
              case rel => first | exact ⟨n + 1, Nat.le_succ_of_le HNA.out, by omega, by go_num, HG2, HO2, HV1⟩ | (repeat (first | (refine ⟨?relx, rfl⟩; exact ⟨n + 1, Nat.le_succ_of_le HNA.out, by omega, by go_num, HG2, HO2, HV1⟩) | (refine ⟨?relx, ?eqs⟩; (case eqs => (and_intros <;> rfl)); exact ⟨n + 1, Nat.le_succ_of_le HNA.out, by omega, by go_num, HG2, HO2, HV1⟩) | apply Exists.intro))
              case measure => simp [intOf]; omega
          · have hn100 : n = 100 := by omega
            have HE : Hid (segsB fs = outsB fs a n) := HQ2.out n hn100 HG.out
            have hni2 : ¬ (n : Int) ≤ 99 := by omega
            have hol := HOL.out
            generalize outsB fs a n = L at HE HO hol ⊢
            clear HOL HG HNA hn100 HQ1 HQ2 hlt
            cases L with
            | nil =>
              go_wp2
              go_ret2
              exact segsPost_no HE.out (HO.out.mono (Nat.le_succ _)) HVR.out.from_
            | cons m L =>
              have h0 : (0 : Int) < ((m :: L).length : Int) := by rw [List.length_cons]; omega
              go_wp2
              go_ret2
              refine ⟨_, ?_, by rw [HE.out]; exact HO.out.mono (Nat.le_succ _), HVR.out.from_⟩
              rw [HE.out]
              rfl
end Go.Proofs.YtaacpdejpcbbbaaGreatDoor

namespace Go.Proofs.YtaacpdejpcbbbaaGreatDoor
set_option linter.unusedVariables false
set_option linter.unusedSimpArgs false
open Go.RowKit
attribute [local go_sem] bs_size List.length_cons List.length_nil List.length_append

theorem impl_Segments1_calls (x a : Int) (g : Nat) (w : World) (h : w.cell? ⟨g, 0, none⟩ = some (.int .i64 a)) :
    Calls Tryz.prog 87 #[.int .i64 x, .pointer (some ⟨g, 0, none⟩)] w fun e w' => e = .returned (.bool (decide (x < a))) ∧ w' = w := by
  by_cases hx : x < a
  · have hd : decide (x < a) = true := decide_eq_true hx
    go_enter Tryz.func87, Tryz.ntmps87
    go_wp2
    go_ret
    exact ⟨by first | rfl | exact ret_bool hd.symm | simp [hx], rfl⟩
  · have hd : decide (x < a) = false := decide_eq_false hx
    go_enter Tryz.func87, Tryz.ntmps87
    go_wp2
    go_ret
    exact ⟨by first | rfl | exact ret_bool hd.symm | simp [hx], rfl⟩
theorem sort_own {B : Nat} {v : Value} {ns : List Int} {w : World} (h : OwnI w B v ns) (hl : ns.length ≤ 1000000) :
    Calls Tryz.prog 85 #[v] w fun e w' => e = .returned (.tuple #[]) ∧ OwnI w' B v (ns.mergeSort fun x y => decide (x ≤ y)) ∧ w.grownBy w' v.ownBlock := by
  have hm : (ns.mergeSort fun x y => decide (x ≤ y)).length = ns.length := List.length_mergeSort _
  rcases h.2 with ⟨rfl, h0⟩ | ⟨g, cap, cur, rfl, hg, hb, h1, h2, h3, h4⟩
  · have hn : ns = [] := List.eq_nil_of_length_eq_zero h0
    subst hn
    refine (Any.slices_Sort_int_none Tryz.lays189 none 0 w).mono fun e w' ⟨he, hw⟩ => ?_
    subst hw
    exact ⟨he, by simpa using h, World.grownBy.refl _ _⟩
  · rw [Nat.mul_one] at h4
    refine (Tryz.slices_Sort_int g 0 cap ns w (holds_of_blockI hb h4) (Array.getElem?_eq_some_iff.1 hb).1 (by omega)).mono fun e w' ⟨he, n, os, hw⟩ => ?_
    subst hw
    refine ⟨he, ?_, grownBy_sortedI _⟩
    unfold OwnI
    rw [hm]
    exact ownsRow_sortedI hm hg hb h1 h2 h3
theorem OwnI.short {w : World} {B : Nat} {g cap : Nat} {xs zs : List Int} (h : OwnI w B (.slice (some ⟨g, 0, none⟩) (xs ++ zs).length cap) (xs ++ zs)) : OwnI w B (.slice (some ⟨g, 0, none⟩) xs.length cap) xs := by
  rcases h.2 with ⟨h0, _⟩ | ⟨g', cap', cur, e, hg, hb, h1, h2, h3, h4⟩
  · cases h0
  · cases e
    rw [List.length_append] at h1
    refine ⟨by simp, .inr ⟨g, cap, cur, rfl, hg, hb, by omega, h2, h3, ?_⟩⟩
    rw [Nat.mul_one] at h4 ⊢
    have := congrArg (List.take xs.length) h4
    rw [List.take_take, List.map_append, List.length_append, Nat.min_eq_left (by omega), List.take_left' (by simp)] at this
    exact this
set_option maxRecDepth 100000 in
theorem delete_own {B gl : Nat} {a : Int} {v : Value} {ns : List Int} {w : World} (h : OwnI w B v ns) (hl : ns.length ≤ 1000000) (hc : w.cell? ⟨gl, 0, none⟩ = some (.int .i64 a)) (hgl : gl < B) :
    Calls Tryz.prog 86 #[v, .func (.func 87) #[] #[.pointer (some ⟨gl, 0, none⟩)]] w fun e w' => ∃ v', e = .returned v' ∧ OwnI w' B v' (ns.filter fun x => !decide (x < a)) ∧ w.grownBy w' v.ownBlock := by
  have hgw := World.block_lt_of_cell? w _ hc
  rcases h.2 with ⟨rfl, h0⟩ | ⟨g, cap, cur, rfl, hg, hb, h1, h2, h3, h4⟩
  · have hn : ns = [] := List.eq_nil_of_length_eq_zero h0
    subst hn
    have HO := Lib.hid h
    clear h h0 hl hc hgl hgw
    go_enter Tryz.func86, Tryz.ntmps86
    go_wp2_with fail
    go_at_call 132
    refine (Tryz.slices_IndexFunc_empty (α := Int) none 0 _ _).mono ?_
    rintro e w' ⟨rfl, rfl⟩
    go_wp2
    go_ret
    exact ⟨_, rfl, HO.out, World.grownBy.refl _ _⟩
  · rw [Nat.mul_one] at h4
    have hns : ns.toArray.size = ns.length := by simp
    have key : ∀ (W : World) (x : Int), W.cell? ⟨gl, 0, none⟩ = some (.int .i64 a) → FnGives Tryz.prog 87 #[.pointer (some ⟨gl, 0, none⟩)] #[.int .i64 x] (.bool (decide (x < a))) W := fun W x hW =>
      (impl_Segments1_calls x a gl W hW).mono fun e w' ⟨he, hw⟩ => ⟨he, 0, by rw [hw]; rfl⟩
    have hD := Tryz.slices_DeleteFunc (Value.int .i64) (fun _ => rfl) (fun x : Int => decide (x < a)) 87 #[.pointer (some ⟨gl, 0, none⟩)] (fun _ _ => rfl) (0 : Int) (fun _ => rfl) g 0 cap ns.toArray w
      (fun W x hW => key W x ((hW.cell hgw).trans hc)) (fun n os dk x hs => key _ x ((World.cell?_of_block ((grownBy_sortedI (w := w) (g := g) (n := n) (os := os) dk).block gl hgw (by intro e; have := Option.some.inj e; omega))).trans hc)) (holds_of_blockI hb h4) (by rw [hns]; omega) (by rw [hns]; exact h1)
    rw [hns] at hD
    refine hD.mono fun e w' ⟨he, q, hw⟩ => ?_
    rw [show ns.toArray.toList = ns from rfl] at he hw
    generalize hF : ns.filter (fun x => !decide (x < a)) = F at he hw ⊢
    have hFl : F.length ≤ ns.length := by rw [← hF]; exact List.length_filter_le _ _
    have hz : (F ++ List.replicate (ns.length - F.length) (0 : Int)).length = ns.length := by rw [List.length_append, List.length_replicate]; omega
    have hw2 : w' = Sort.grow (Sort.putRow (Value.int .i64) (Sort.ahead w q) g 0 (F ++ List.replicate (ns.length - F.length) (0 : Int)).toArray) #[] := by rw [hw]; simp
    subst hw2
    refine ⟨_, he, ?_, grownBy_sortedI _⟩
    refine OwnI.short (zs := List.replicate (ns.length - F.length) (0 : Int)) ?_
    unfold OwnI
    rw [hz]
    exact ownsRow_sortedI hz hg hb h1 h2 h3
end Go.Proofs.YtaacpdejpcbbbaaGreatDoor

namespace Go.Proofs.YtaacpdejpcbbbaaGreatDoor
set_option linter.unusedVariables false
set_option linter.unusedSimpArgs false
open Go.RowKit
attribute [local go_sem] bs_size List.length_cons List.length_nil List.length_append

theorem ext_list (s : ByteArray) (a b : Nat) : (s.extract a b).toList = ((ub s).drop a).take (b - a) := by
  rw [ByteArray.toList_eq]
  exact ub_extract s a b
set_option maxRecDepth 100000 in
theorem has_calls (s : ByteArray) (w : World) (b : Bool) (h : ((ub s).take 1 == [98]) = b) (hs : s.size ≤ 140737488351232) :
    Calls Tryz.prog 181 #[.string s, .string ⟨#[98]⟩] w fun e w' => e = .returned (.bool b) ∧ w' = w := by
  have hl := ub_length s
  have hx : ((s.extract 0 1).toList == [98]) = b := by
    rw [ext_list]
    simpa using h
  by_cases h0 : s.size = 0
  · have hb : b = false := by
      rw [← h]
      have : ub s = [] := List.eq_nil_of_length_eq_zero (by omega)
      rw [this]
      rfl
    subst hb
    have h1 : ¬ (1 : Int) ≤ (s.size : Int) := by omega
    have HH := Lib.hid h
    clear h hx hl
    go_enter Tryz.func181, Tryz.ntmps181
    go_wp2
    go_ret
    exact ⟨rfl, rfl⟩
  · have h1 : (1 : Int) ≤ (s.size : Int) := by omega
    have HH := Lib.hid h
    clear h hl
    go_enter Tryz.func181, Tryz.ntmps181
    go_wp2
    go_ret
    exact ⟨by first | rfl | (rw [hx]), rfl⟩
theorem lcut_no (s : ByteArray) (w : World) (h : ((ub s).take 1 == [98]) = false) (hs : s.size ≤ 140737488351232) :
    Calls Tryz.prog 124 #[.string s, .string ⟨#[98]⟩] w fun e w' => e = .returned (.tuple #[.string s, .bool false]) ∧ w' = w := by
  have HH := Lib.hid h
  clear h
  have HC : Hid (∀ w : World, Calls Tryz.prog 157 #[.string s, .string ⟨#[98]⟩] w fun e w' => e = .returned (.tuple #[.string s, .bool false]) ∧ w' = w) := fun w => by
    go_enter Tryz.func157, Tryz.ntmps157
    go_wp2_with fail
    go_at_call 181
    refine (has_calls s _ false HH.out hs).mono ?_
    rintro e w' ⟨rfl, rfl⟩
    go_wp2
    go_ret2
    exact ⟨rfl, rfl⟩
  go_enter Tryz.func124, Tryz.ntmps124
  go_wp2_with fail
  go_at_call 157
  refine (HC.out _).mono ?_
  rintro e w' ⟨rfl, rfl⟩
  go_wp2
  go_ret2
  exact ⟨rfl, rfl⟩
theorem lcut_yes (s : ByteArray) (w : World) (h : ((ub s).take 1 == [98]) = true) (h1 : 1 ≤ s.size) (hs : s.size ≤ 140737488351232) :
    Calls Tryz.prog 124 #[.string s, .string ⟨#[98]⟩] w fun e w' => e = .returned (.tuple #[.string (s.extract 1 s.size), .bool true]) ∧ w' = w := by
  have HH := Lib.hid h
  clear h
  have HC : Hid (∀ w : World, Calls Tryz.prog 157 #[.string s, .string ⟨#[98]⟩] w fun e w' => e = .returned (.tuple #[.string (s.extract 1 s.size), .bool true]) ∧ w' = w) := fun w => by
    have h2 : (1 : Int) ≤ (s.size : Int) := by omega
    go_enter Tryz.func157, Tryz.ntmps157
    go_wp2_with fail
    go_at_call 181
    refine (has_calls s _ true HH.out hs).mono ?_
    rintro e w' ⟨rfl, rfl⟩
    go_wp2
    go_ret2
    exact ⟨rfl, rfl⟩
  go_enter Tryz.func124, Tryz.ntmps124
  go_wp2_with fail
  go_at_call 157
  refine (HC.out _).mono ?_
  rintro e w' ⟨rfl, rfl⟩
  go_wp2
  go_ret2
  exact ⟨rfl, rfl⟩
theorem segNo_cut {s : ByteArray} (h : ((ub s).take 1 == [98]) = true) : 1 ≤ s.size ∧ ub s = 98 :: ub (s.extract 1 s.size) ∧ segNo s = (match decOf (ub (s.extract 1 s.size)) with | none => none | some n => if n ≤ 99 then some n else none) := by
  have e : (ub s).take 1 = [98] := by simpa using h
  cases hu : ub s with
  | nil => rw [hu] at e; simp at e
  | cons c l =>
    rw [hu] at e
    have hc : c = 98 := by simpa using e
    have hl := ub_length s
    rw [hu, List.length_cons] at hl
    have h2 : ub (s.extract 1 s.size) = l := by
      rw [ub_extract, hu, List.drop_succ_cons, List.drop_zero, List.take_of_length_le (by omega)]
    refine ⟨by omega, by rw [h2, hc], ?_⟩
    unfold segNo
    rw [hu, h2]
    dsimp only
    rw [if_pos hc]
    all_goals rfl
theorem segNo_nocut {s : ByteArray} (h : ((ub s).take 1 == [98]) = false) : segNo s = none := by
  unfold segNo
  cases hu : ub s with
  | nil => rfl
  | cons c l =>
    dsimp only
    rw [if_neg]
    intro e
    rw [hu, e] at h
    simp at h
theorem rdUni (o : Option Nat) : ∃ (n : Nat) (b : Bool), rdRes o = .tuple #[.int .i64 (n : Int), .bool b] ∧ (b = true → o = some n) ∧ (b = false → o = none) := by
  cases o with
  | none => exact ⟨0, false, rfl, (fun e => by cases e), fun _ => rfl⟩
  | some n => exact ⟨n, true, rfl, (fun _ => rfl), fun e => by cases e⟩
set_option maxRecDepth 100000 in
theorem impl_segNumber_calls (s : ByteArray) (w : World) (hs : s.size ≤ 140737488351232) (hP : Pow w) (hE : Sent w) :
    Calls Tryz.prog 83 #[.string s] w fun e w' => e = .returned (.int .i64 (noInt (segNo s))) ∧ Below w.heap.size w w' := by
  have HP := Lib.hid hP
  have HE := Lib.hid hE
  clear hP hE
  cases hc : (ub s).take 1 == [98]
  · have HC := Lib.hid hc
    have HR : Hid (segNo s = none) := segNo_nocut hc
    obtain ⟨n, b, hrd, _, _⟩ := rdUni (decOf (ub s))
    have HRD := Lib.hid hrd
    clear hc hrd
    go_enter Tryz.func83, Tryz.ntmps83
    go_wp2_with fail
    go_at_call 124
    refine (lcut_no s _ HC.out hs).mono ?_
    rintro e w' ⟨rfl, rfl⟩
    go_wp2_with fail
    go_at_call 125
    refine (impl_ReadDecimal_calls s _ hs HP.out HE.out).mono ?_
    rw [HRD.out]
    rintro e w2 ⟨rfl, hb⟩
    go_wp2
    go_ret
    exact ⟨by rw [HR.out]; rfl, hb⟩
  · obtain ⟨h1, h2, h3⟩ := segNo_cut hc
    have HC := Lib.hid hc
    have H3 := Lib.hid h3
    have H2 := Lib.hid h2
    have HXS : Hid ((s.extract 1 s.size).size ≤ 140737488351232) := by rw [Hid, ByteArray.size_extract]; omega
    obtain ⟨n, b, hrd, hy, hn⟩ := rdUni (decOf (ub (s.extract 1 s.size)))
    have HRD := Lib.hid hrd
    have HY := Lib.hid hy
    have HN := Lib.hid hn
    clear hc hrd h2 h3 hy hn
    go_enter Tryz.func83, Tryz.ntmps83
    go_wp2_with fail
    go_at_call 124
    refine (lcut_yes s _ HC.out h1 hs).mono ?_
    rintro e w' ⟨rfl, rfl⟩
    go_wp2_with fail
    go_at_call 125
    refine (impl_ReadDecimal_calls (s.extract 1 s.size) _ HXS.out HP.out HE.out).mono ?_
    rw [HRD.out]
    rintro e w2 ⟨rfl, hb⟩
    have HB := Lib.hid hb
    clear hb
    cases b
    · have HR : Hid (segNo s = none) := by rw [Hid, H3.out, HN.out rfl]
      go_wp2
      go_ret
      exact ⟨by rw [HR.out]; rfl, HB.out⟩
    · have hdn := HY.out rfl
      by_cases h99 : n ≤ 99
      · have HR : Hid (segNo s = some n) := by rw [Hid, H3.out, hdn]; exact if_pos h99
        have HQ : Hid (segNm (n : Int) = s) := ((segNo_some HR.out).2).symm
        clear hdn
        go_wp2_with fail
        go_at_call 40
        refine (impl_SegNm_calls (n : Int) _ (HP.out.below HB.out)).mono ?_
        rw [HQ.out]
        rintro e w3 ⟨rfl, hb⟩
        have HB3 := Lib.hid (HB.out.trans (hb.mono HB.out.size))
        clear hb
        go_wp2
        go_ret
        exact ⟨by rw [HR.out]; rfl, HB3.out⟩
      · have HR : Hid (segNo s = none) := by rw [Hid, H3.out, hdn]; exact if_neg h99
        have HQ : Hid (segNm (n : Int) = ⟨#[]⟩) := by
          rw [Hid]
          unfold segNm
          rw [if_neg (by unfold inR; simp; omega)]
        have hne : (([] : List UInt8) == s.toList) = false := by
          refine beq_eq_false_iff_ne.mpr fun e => ?_
          have := H2.out
          rw [show ub s = s.toList from by rw [ByteArray.toList_eq]; rfl, ← e] at this
          cases this
        have hne2 : s.toList.isEmpty = false := by
          have := H2.out
          rw [show ub s = s.toList from by rw [ByteArray.toList_eq]; rfl] at this
          rw [this]
          rfl
        clear hdn
        go_wp2_with fail
        go_at_call 40
        refine (impl_SegNm_calls (n : Int) _ (HP.out.below HB.out)).mono ?_
        rw [HQ.out]
        rintro e w3 ⟨rfl, hb⟩
        have HB3 := Lib.hid (HB.out.trans (hb.mono HB.out.size))
        clear hb
        go_wp2
        go_ret
        exact ⟨by rw [HR.out]; rfl, HB3.out⟩
end Go.Proofs.YtaacpdejpcbbbaaGreatDoor

namespace Go.Proofs.YtaacpdejpcbbbaaGreatDoor
set_option linter.unusedVariables false
set_option linter.unusedSimpArgs false
open Go.RowKit
attribute [local go_sem] bs_size List.length_cons List.length_nil List.length_append

theorem diskOk_len {fs : List FiD} (h : diskOkB fs = true) : fs.length ≤ 30 := by
  unfold diskOkB at h
  rw [Bool.and_eq_true] at h
  exact of_decide_eq_true h.2
theorem fiRes_some (s : ByteArray) : fiRes (some s) = .tuple #[.string s, .bool true] := rfl
theorem hoUni (n : Nat) (t : ByteArray) : ∃ (l : Nat) (b : Bool), hoRes (headOfB (n : Int) t) = .tuple #[.int .i64 (fromOf n t : Int), .int .i64 (l : Int), .bool b] ∧ (b = true → ∃ f l, headOfB (n : Int) t = some (f, l)) ∧ (b = false → headOfB (n : Int) t = none) := by
  unfold fromOf
  cases h : headOfB (n : Int) t with
  | none => exact ⟨0, false, rfl, (fun e => by cases e), fun _ => rfl⟩
  | some p => obtain ⟨f, l⟩ := p; exact ⟨l, true, rfl, (fun _ => ⟨f, l, rfl⟩), fun e => by cases e⟩
theorem sentB {w w' : World} (h : Sent w) (hb : Below w.heap.size w w') : Sent w' := h.below hb h.big
theorem grown_setI {w wr : World} {b : Nat} (h : w.grownBy wr (some b)) (j : Nat) (v : Value) : w.grownBy (wr.setCell ⟨b, j, none⟩ v) (some b) :=
  ⟨h.os, h.tape, h.output, by simpa using h.size, fun i hi hne => (Below.heap_setCell wr ⟨b, j, none⟩ v i (fun e => hne (by rw [e]))).trans (h.block i hi hne)⟩
/-- The program's loops' memory: the disk's box, the least's cell, the row of numbers. -/
structure SI (w : World) (A : Option Addr) (n c gl : Nat) (a : Int) (v : Value) (ns : List Int) (W : World) : Prop where
  vd : VD w A n c W
  far : w.heap.size + 1 ≤ gl
  least : W.heap[gl]? = some (.cells #[.int .i64 a] 3)
  row : OwnI W (gl + 1) v ns
section
variable {w W W' : World} {A : Option Addr} {n c gl : Nat} {a : Int} {v : Value} {ns : List Int}
theorem SI.go (h : SI w A n c gl a v ns W) (hb : Below W.heap.size W W') : SI w A n c gl a v ns W' := ⟨h.vd.go hb, h.far, blk_below h.least hb, h.row.below hb⟩
theorem SI.alloc (h : SI w A n c gl a v ns W) (o : Obj) : SI w A n c gl a v ns (W.alloc o) := h.go ((Below.refl _ _).alloc (Nat.le_refl _) _)
theorem SI.same {a' : Int} {ns' : List Int} (h : SI w A n c gl a v ns W) (ha : a' = a) (hn : ns' = ns) : SI w A n c gl a' v ns' W := by subst ha hn; exact h
theorem SI.lt (h : SI w A n c gl a v ns W) : gl + 1 ≤ W.heap.size := blk_lt h.least
theorem SI.all (h : SI w A n c gl a v ns W) : W.cell? ⟨w.heap.size, 0, none⟩ = some (.slice A n c) ∧ Hid (SI w A n c gl a v ns W) := ⟨h.vd.cell, h⟩
theorem SI.set (h : SI w A n c gl a v ns W) (b : Int) : SI w A n c gl b v ns (W.setCell ⟨gl, 0, none⟩ (.int .i64 b)) := by
  have hg : W.grownBy (W.setCell ⟨gl, 0, none⟩ (.int .i64 b)) (some gl) := grown_setI (World.grownBy.refl W _) 0 _
  refine ⟨h.vd.grown hg fun k e => by cases e; exact h.far, h.far, by rw [blk_set h.least]; rfl, World.ownsRow.kept h.row hg ?_⟩
  cases hv : v.ownBlock with
  | none => exact .inl rfl
  | some k => exact .inr fun e => by have := (h.row.lt k hv).1; cases e; omega
theorem SI.put {v' : Value} {ns' : List Int} (h : SI w A n c gl a v ns W) (hg : W.grownBy W' v.ownBlock) (ho : OwnI W' (gl + 1) v' ns') : SI w A n c gl a v' ns' W' :=
  ⟨h.vd.grown hg fun k e => by have := (h.row.lt k e).1; have := h.far; omega, h.far, (hg.block gl (blk_lt h.least) (fun e => by have := (h.row.lt gl e.symm).1; omega)).trans h.least, ho⟩
end
set_option maxHeartbeats 8000000 in
set_option maxRecDepth 100000 in
theorem impl_Segments_calls (A : Option Addr) (c : Nat) (fs : List FiD) (w : World) (h : FiRow w A c fs) (hP : Pow w) (hE : Sent w) :
    Calls Tryz.prog 38 #[.agg #[.slice A fs.length c]] w (SegsPost w fs) := by
  obtain ⟨i0, hi0, hz, hsz, hby⟩ := info_parts info_int
  have hmf : ∀ (fn : Fn) (first cap : Array Value) (w : World), (Instr.makeFunc fn first cap).run Tryz.prog w = .ok (.func fn first cap) w := fun _ _ _ _ => rfl
  have HF := Lib.hid h
  have hl := h.len
  have HPW := Lib.hid hP
  have HEW := Lib.hid hE
  have HV := Lib.hid (vd_start w A fs.length c)
  have p0 := HV.out.cell
  clear h hP hE
  cases hdk : diskOkB fs
  · have HDK := Lib.hid hdk
    have HE := Lib.hid (segs_no hdk)
    clear hdk
    go_enter Tryz.func38, Tryz.ntmps38
    go_wp2_with fail
    go_at_call 82
    refine (impl_DiskOk_calls A c fs _ (HF.out.below HV.out.from_)).mono ?_
    rw [HDK.out]
    rintro e w3 ⟨rfl, hb3⟩
    have HV3 := Lib.hid (HV.out.go hb3)
    clear hb3 p0
    go_wp2
    go_ret2
    exact segsPost_no HE.out (World.ownsRow_nil _ _ _ _) HV3.out.from_
  · have HDK := Lib.hid hdk
    clear hdk
    go_enter Tryz.func38, Tryz.ntmps38
    go_wp2_with fail
    go_at_call 82
    refine (impl_DiskOk_calls A c fs _ (HF.out.below HV.out.from_)).mono ?_
    rw [HDK.out]
    rintro e w3 ⟨rfl, hb3⟩
    have HV3 := Lib.hid (HV.out.go hb3)
    have HS3 : Hid (SI w A fs.length c w3.heap.size 0 (.slice none 0 0) [] (w3.alloc (.cells #[.int .i64 0] 3))) := ⟨HV3.out.alloc _, HV3.out.size, blk_new _ _, World.ownsRow_nil _ _ _ _⟩
    have p1 := HS3.out.vd.cell
    clear hb3 p0
    go_wp2
    go_loopw [4, 25] (fun av iv wr => ∃ i : Nat, i ≤ fs.length ∧ iv = .int .i64 (i : Int) ∧ Hid (SI w A fs.length c w3.heap.size (leastI (fs.take i) : Int) av ((numsB (fs.take i)).map Int.ofNat) wr)) (fun _ iv _ => fs.length - (intOf iv).toNat)
    case atStart => exact ⟨0, Nat.zero_le _, rfl, HS3⟩
    case round =>
      obtain ⟨i, hi, rfl, HS⟩ := hrel
      clear p1
      by_cases hlt : i < fs.length
      · obtain ⟨ad, x, hA, HX, hz1, hz2, hc0, hc1, hc2⟩ := (HF.out.below HS.out.vd.from_).at_ hlt
        cases hA
        have hsm := diskOk_small HDK.out (List.mem_of_getElem? HX.out)
        have HNS := Lib.hid (nums_step HX.out)
        have HLS := Lib.hid (leastI_step HX.out)
        have hll : leastI (fs.take i) ≤ 99 := leastI_le
        have hll2 : leastI (fs.take (i + 1)) ≤ 99 := leastI_le
        have hnl := nums_len fs i
        have hf30 := diskOk_len HDK.out
        obtain ⟨nm, tx, k⟩ := x
        dsimp only at hz1 hz2 hc0 hc1 hc2 hsm HNS HLS
        have HS4 := Lib.hid (HS.out.alloc (.cells #[.string nm, .string tx, .int .i64 k] 105))
        have HBX : Hid ((wr.alloc (.cells #[.string nm, .string tx, .int .i64 k] 105)).heap[wr.heap.size]? = some (.cells #[.string nm, .string tx, .int .i64 k] 105 (0, 0))) := blk_new _ _
        have hf := HS4.out.vd.from_
        have HPP := Lib.hid (HPW.out.below hf)
        have HEE := Lib.hid (sentB HEW.out hf)
        clear hf
        go_wp2_with fail
        go_at_call 83
        refine (impl_segNumber_calls nm _ (by omega) HPP.out HEE.out).mono ?_
        rintro e w5 ⟨rfl, hb5⟩
        have HS5 := Lib.hid (HS4.out.go hb5)
        have HBX5 := Lib.hid (blk_below HBX.out hb5)
        clear hb5
        cases hno : segNo nm with
        | none =>
          have HST := Lib.hid (HS5.out.same (a' := (leastI (fs.take (i + 1)) : Int)) (ns' := (numsB (fs.take (i + 1))).map Int.ofNat) (by rw [HLS.out, hno]) (by rw [HNS.out, hno]; simp))
          have hneg : noInt none = -1 := rfl
          clear HNS HLS hno hc0 hc1 hc2
          go_wp2
          go_roundw
          case rel => first | exact ⟨i + 1, by omega, by go_num, HST⟩ | (repeat (first | (refine ⟨?relx, rfl⟩; exact ⟨i + 1, by omega, by go_num, HST⟩) | (refine ⟨?relx, ?eqs⟩; (case eqs => (and_intros <;> rfl)); exact ⟨i + 1, by omega, by go_num, HST⟩) | apply Exists.intro))
          case measure => simp [intOf]; omega
        | some m =>
          have hm99 := (segNo_some hno).1
          rw [hno] at HNS HLS
          dsimp only at HNS HLS
          obtain ⟨A2, c2, hv⟩ := HS5.out.row.form
          rw [List.length_map] at hv
          subst hv
          have HS6 := Lib.hid (HS5.out.alloc (.cells #[.int .i64 (m : Int)] 3))
          have HNEWS : Hid (∀ j u, [Value.int .i64 (m : Int)][j]? = some u → (w5.alloc (.cells #[.int .i64 (m : Int)] 3)).cell? ((⟨w5.heap.size, 0, none⟩ : Addr).add j) = some u) := World.news_of_block (heap_alloc_new w5 _)
          have HLL : Hid ((numsB (fs.take i)).length = ((numsB (fs.take i)).map Int.ofNat).length) := by rw [Hid, List.length_map]
          have x1 : w5.cell? ⟨wr.heap.size, 1, none⟩ = some (.string tx) := blk_cell HBX5.out 1
          have hmi : ¬ (m : Int) < 0 := by omega
          have HROWLT : Hid (∀ k, (Value.slice A2 (numsB (fs.take i)).length c2).ownBlock = some k → k < wr.heap.size) := fun k hk => (HS.out.row.lt k hk).2
          have HNOI : Hid (noInt (some m) = (m : Int)) := rfl
          clear hno hc0 hc1 hc2 x1
          rw [HNOI.out]
          go_wp2_with (at_builtin; refine wpList_append_lies _ rfl _ _ _ rfl (w3.heap.size + 1) 3 i0 (.int .i64 0) 1 8 Tryz.underlying66 hi0 hz hsz hby rfl (by omega) (.slice A2 (numsB (fs.take i)).length c2) (numsB (fs.take i)).length (((numsB (fs.take i)).map Int.ofNat).map (Value.int .i64)) rfl (by have := HS6.out.row; unfold OwnI at this; rwa [← HLL.out] at this) ⟨w5.heap.size, 0, none⟩ 1 1 [.int .i64 (m : Int)] rfl rfl HNEWS.out (by simp [Value.oneCell']) (by omega) (by unfold maxLen; omega) (by omega) HS6.out.lt _ rfl ?_; intro gg cap w7 hown hgrow hat hlt2; have HOWN := Lib.hid hown; have HGR := Lib.hid hgrow; have y1 : w7.cell? ⟨wr.heap.size, 1, none⟩ = some (.string tx) := blk_cell (((hgrow.block wr.heap.size (by have := blk_lt HBX5.out; simp; omega) (fun e => Nat.lt_irrefl _ (HROWLT.out _ e.symm)))).trans (blk_below HBX5.out ((Below.refl _ _).alloc (Nat.le_refl _) _))) 1; clear hown hgrow hat hlt2)
          have HPU : Hid (OwnI w7 (w3.heap.size + 1) (.slice (some ⟨gg, 0, none⟩) ((numsB (fs.take i)).length + 1) cap) ((numsB (fs.take (i + 1))).map Int.ofNat)) := by
            rw [Hid, HNS.out, OwnI, List.map_append, List.map_append, List.length_append, ← HLL.out]
            exact HOWN.out
          have HS7 := Lib.hid (HS6.out.put HGR.out HPU.out)
          clear HOWN HGR HPU
          obtain ⟨l, okh, hho, _, _⟩ := hoUni m tx
          have HHO := Lib.hid hho
          have hfm : fromOf m tx ≤ 99 := by have h1 := hll2; rw [HLS.out] at h1; exact (Nat.max_le.1 h1).2
          have HLS2 : Hid (((leastI (fs.take (i + 1)) : Nat) : Int) = max (leastI (fs.take i) : Int) (fromOf m tx : Int)) := by
            rw [Hid, HLS.out]
            rcases Nat.le_total (leastI (fs.take i)) (fromOf m tx) with h | h
            · rw [Nat.max_eq_right h, Int.max_eq_right (by omega)]
            · rw [Nat.max_eq_left h, Int.max_eq_left (by omega)]
          clear hho y1
          go_wp2_with fail
          go_at_call 84
          refine (impl_headOf_calls (m : Int) tx _ (by omega)).mono ?_
          rw [HHO.out]
          rintro e w8 ⟨rfl, hb8⟩
          have HS8 := Lib.hid (HS7.out.go hb8)
          have z0 : w8.cell? ⟨w3.heap.size, 0, none⟩ = some (.int .i64 (leastI (fs.take i) : Int)) := blk_cell HS8.out.least 0
          have zf := blk_frozen HS8.out.least 0
          clear hb8
          go_wp2
          have HS9 := Lib.hid ((HS8.out.set (max (leastI (fs.take i) : Int) (fromOf m tx : Int))).same HLS2.out rfl)
          go_roundw
          case rel => first | exact ⟨i + 1, by omega, by go_num, HS9⟩ | (repeat (first | (refine ⟨?relx, rfl⟩; exact ⟨i + 1, by omega, by go_num, HS9⟩) | (refine ⟨?relx, ?eqs⟩; (case eqs => (and_intros <;> rfl)); exact ⟨i + 1, by omega, by go_num, HS9⟩) | apply Exists.intro))
          case measure => simp [intOf]; omega
      · obtain rfl : i = fs.length := by omega
        have hll : leastI (fs.take fs.length) ≤ 99 := leastI_le
        have hnl := nums_len fs fs.length
        have hf30 := diskOk_len HDK.out
        rw [List.take_length] at HS hll hnl
        obtain ⟨a, ha⟩ : ∃ a, leastI fs = a := ⟨_, rfl⟩
        rw [ha] at HS hll
        have HQ1 : Hid (∀ m, a ≤ m → m < 100 → hasF fs m = true → badF fs m = true → segsB fs = []) := fun m h1 h2 h3 h4 => segs_bad (n := m) (by unfold allB; rw [← leastI_eq HDK.out, ha]; exact (outs_mem fs).2 ⟨h1, h2, h3⟩) h4
        have HQ2 : Hid (∀ k, k = 100 → (∀ m ∈ outsB fs a k, badF fs m = false) → segsB fs = outsB fs a k) := fun k hk h1 => by
          subst hk
          have h2 := segs_good HDK.out (by unfold allB; rw [← leastI_eq HDK.out, ha]; exact h1)
          unfold allB at h2
          rwa [← leastI_eq HDK.out, ha] at h2
        obtain ⟨k, hk⟩ : ∃ k, k = 100 := ⟨_, rfl⟩
        have HSO : Hid (((((numsB fs).map Int.ofNat).mergeSort fun x y => decide (x ≤ y)).filter fun x => !decide (x < (a : Int))) = (outsB fs a k).map Int.ofNat) := by rw [hk]; exact sorted_outs (nums_nodup HDK.out) (nums_mem HDK.out)
        have HOM : Hid (∀ m, m ∈ outsB fs a k ↔ a ≤ m ∧ m < k ∧ hasF fs m = true) := fun m => outs_mem fs
        have HOK : Hid ((∀ m ∈ outsB fs a k, badF fs m = false) → segsB fs = outsB fs a k) := HQ2.out k hk
        have hol : (outsB fs a k).length ≤ 100 := by have := outs_len fs (a := a) (k := k); omega
        have HK := Lib.hid hk
        generalize outsB fs a k = L at HSO HOM HOK hol
        clear HQ2 hk ha
        go_wp2_with fail
        go_at_call 85
        refine (sort_own HS.out.row (by rw [List.length_map]; omega)).mono ?_
        rintro e w5 ⟨rfl, ho5, hg5⟩
        have HS5 := Lib.hid (HS.out.put hg5 ho5)
        have z0 : w5.cell? ⟨w3.heap.size, 0, none⟩ = some (.int .i64 (a : Int)) := blk_cell HS5.out.least 0
        have HZ0 := Lib.hid z0
        clear ho5 hg5 z0
        go_wp2_with fail
        go_at_call 86
        refine (delete_own HS5.out.row (by rw [List.length_mergeSort, List.length_map]; omega) HZ0.out (Nat.lt_succ_self _)).mono ?_
        rw [HSO.out]
        rintro e w6 ⟨v6, rfl, ho6, hg6⟩
        have HS6 := Lib.hid (HS5.out.put hg6 ho6)
        obtain ⟨A6, c6, hv6⟩ := ho6.form
        rw [List.length_map] at hv6
        subst hv6
        clear ho6 hg6
        go_wp2
        go_loopw [57] (fun iv wr => ∃ j : Nat, j ≤ L.length ∧ iv = .int .i64 (j : Int) ∧ Hid (∀ m ∈ L.take j, badF fs m = false) ∧ Hid (SI w A fs.length c w3.heap.size (a : Int) (.slice A6 L.length c6) (L.map Int.ofNat) wr)) (fun iv _ => L.length - (intOf iv).toNat)
        case atStart => exact ⟨0, Nat.zero_le _, rfl, (fun m hm => by simp at hm), HS6⟩
        case round =>
          obtain ⟨j, hj, rfl, HG, HR⟩ := hrel
          by_cases hlt : j < L.length
          · obtain ⟨m, hm⟩ : ∃ m, L[j]? = some m := ⟨_, List.getElem?_eq_getElem hlt⟩
            obtain ⟨hma, hmk, hmf⟩ := (HOM.out m).1 (List.mem_of_getElem? hm)
            have hm100 : m < 100 := by have := HK.out; omega
            obtain ⟨b6, hA6, hc6⟩ := HR.out.row.at_ (j := j) (x := (m : Int)) (by rw [List.getElem?_map, hm]; rfl)
            subst hA6
            obtain ⟨t, hft⟩ : ∃ t, fileB fs (segNm (m : Int)) = some t := by
              unfold hasF at hmf
              cases hf : fileB fs (segNm (m : Int)) with
              | none => rw [hf] at hmf; cases hmf
              | some t => exact ⟨t, rfl⟩
            have hts := fileB_small HDK.out hft
            obtain ⟨l, okh, hho, hh1, hh2⟩ := hoUni m t
            have HHO := Lib.hid hho
            have HH1 := Lib.hid hh1
            have HH2 := Lib.hid hh2
            have HM := Lib.hid hm
            have HMA := Lib.hid hma
            have HMF := Lib.hid hmf
            have HFT := Lib.hid hft
            have HRD := Lib.hid (HR.out.go (Below.drew (Below.refl _ _)))
            have HPP := Lib.hid (HPW.out.below HRD.out.vd.from_)
            clear hho hh1 hh2 hm hma hmf hft hmk
            go_wp2_with fail
            go_region_held3 (fun w' => w'.cell? ⟨w.heap.size, 0, none⟩ = some (.slice A fs.length c) ∧ Hid (SI w A fs.length c w3.heap.size (a : Int) (.slice (some ⟨b6, 0, none⟩) L.length c6) (L.map Int.ofNat) w')) (first | exact HRD.out.all | exact (HRD.out.go (by assumption)).all | exact ((HRD.out.go (by assumption)).go (by assumption)).all) (first | (go_at_call 40; refine (impl_SegNm_calls (m : Int) _ HPP.out).mono ?_; rintro e w' ⟨rfl, hb⟩) | (go_at_call 39; refine (impl_FileAt_calls (segNm (m : Int)) A c fs _ (HF.out.below (HRD.out.go (by assumption)).vd.from_)).mono ?_; rw [HFT.out, fiRes_some]; rintro e w'' ⟨rfl, hb⟩))
            have HR2 := (‹_ ∧ Hid (SI w A fs.length c w3.heap.size (a : Int) (.slice (some ⟨b6, 0, none⟩) L.length c6) (L.map Int.ofNat) _)›).2
            go_wp2_with fail
            go_at_call 84
            refine (impl_headOf_calls (m : Int) t _ (by omega)).mono ?_
            rw [HHO.out]
            rintro e w8 ⟨rfl, hb8⟩
            have HR8 := Lib.hid (HR2.out.go hb8)
            clear hb8
            cases okh
            · have hbd := hd_bad HFT.out (HH2.out rfl)
              have HE := Lib.hid (HQ1.out m HMA.out hm100 HMF.out hbd.2.2)
              clear hbd
              go_wp2
              go_ret2
              exact segsPost_no HE.out (World.ownsRow_nil _ _ _ _) HR8.out.vd.from_
            · have HGD : Hid (badF fs m = false) := by
                obtain ⟨f, l, h⟩ := HH1.out rfl
                exact (hd_good HFT.out h).2.2
              have HG2 : Hid (∀ x ∈ L.take (j + 1), badF fs x = false) := fun x hx => by
                rw [take_snoc HM.out] at hx
                rcases List.mem_append.1 hx with hx | hx
                · exact HG.out x hx
                · obtain rfl := List.mem_singleton.1 hx
                  exact HGD.out
              go_wp2
              go_roundw
              case rel => first | exact ⟨j + 1, by omega, by go_num, HG2, HR8⟩ | (repeat (first | (refine ⟨?relx, rfl⟩; exact ⟨j + 1, by omega, by go_num, HG2, HR8⟩) | (refine ⟨?relx, ?eqs⟩; (case eqs => (and_intros <;> rfl)); exact ⟨j + 1, by omega, by go_num, HG2, HR8⟩) | apply Exists.intro))
              case measure => simp [intOf]; omega
          · obtain rfl : j = L.length := by omega
            have HE : Hid (segsB fs = L) := HOK.out (by have := HG.out; rw [List.take_length] at this; exact this)
            clear HG HOM HOK HSO HQ1 HK
            cases L with
            | nil =>
              go_wp2
              go_ret2
              exact segsPost_no HE.out (World.ownsRow_nil _ _ _ _) HR.out.vd.from_
            | cons m L =>
              have h0 : (((m :: L).length : Int) == 0) = false := by
                rw [List.length_cons]
                exact beq_eq_false_iff_ne.mpr (by omega)
              have h00 : ((L.length : Int) + 1 == 0) = false := beq_eq_false_iff_ne.mpr (by omega)
              go_wp2
              go_ret2
              refine ⟨_, ?_, by rw [HE.out]; exact HR.out.row.mono (by have := HR.out.far; omega), HR.out.vd.from_⟩
              rw [HE.out]
              rfl
end Go.Proofs.YtaacpdejpcbbbaaGreatDoor

namespace Go.Proofs.YtaacpdejpcbbbaaGreatDoor
set_option linter.unusedVariables false
set_option linter.unusedSimpArgs false
open Go.RowKit
attribute [local go_sem] bs_size List.length_cons List.length_nil List.length_append

theorem fiRes_get (o : Option ByteArray) : fiRes o = .tuple #[.string (o.getD ⟨#[]⟩), .bool o.isSome] := by cases o <;> rfl
theorem get_small {fs : List FiD} {n : ByteArray} (h : diskOkB fs = true) : ((fileB fs n).getD ⟨#[]⟩).size ≤ 20000 := by
  cases hf : fileB fs n with
  | none => decide
  | some t => exact fileB_small h hf
theorem segs_disk {fs : List FiD} {i n : Nat} (h : (segsB fs)[i]? = some n) : diskOkB fs = true ∧ n ≤ 99 := by
  have hm := List.mem_of_getElem? h
  refine ⟨?_, by have := (segs_lt hm).1; omega⟩
  cases hd : diskOkB fs with
  | true => rfl
  | false => rw [segs_no hd] at hm; simp at hm
set_option maxHeartbeats 4000000 in
set_option maxRecDepth 100000 in
theorem spec_l06Batches_calls (A : Option Addr) (c : Nat) (fs : List FiD) (n : Nat) (w : World) (h : FiRow w A c fs) (hd : diskOkB fs = true) :
    Calls Tryz.prog 96 #[.agg #[.slice A fs.length c], .int .i64 (n : Int)] w fun e w' => ∃ v, e = .returned v ∧ BatsOwn w' w.heap.size v ((batsAt fs n).map Prod.fst) ∧ Below w.heap.size w w' := by
  have HF := Lib.hid h
  have HV := Lib.hid (vd_start w A fs.length c)
  have HV0 := Lib.hid HV.out.drew
  have hts := get_small (n := segNm (n : Int)) hd
  have HRES := Lib.hid (fiRes_get (fileB fs (segNm (n : Int))))
  have HBA : Hid (batsAt fs n = match segPl (n : Int) ((fileB fs (segNm (n : Int))).getD ⟨#[]⟩) with | none => [] | some (_, _, pls) => pls) := rfl
  generalize (fileB fs (segNm (n : Int))).getD ⟨#[]⟩ = t at hts HRES HBA
  generalize (fileB fs (segNm (n : Int))).isSome = ob at HRES
  clear h hd
  go_enter Tryz.func96, Tryz.ntmps96
  go_wp2_with fail
  go_region_held3 (fun w' => w'.cell? ⟨w.heap.size, 0, none⟩ = some (.slice A fs.length c) ∧ Hid (VD w A fs.length c w')) (first | exact HV0.out.all | exact (HV0.out.go (by assumption)).all | exact ((HV0.out.go (by assumption)).go (by assumption)).all) (first | (go_at_call 77; refine (spec_SegNm_calls (n : Int) _).mono ?_; rintro e w' ⟨rfl, hb⟩) | (go_at_call 76; refine (spec_FileAt_calls (segNm (n : Int)) A c fs _ (HF.out.below (HV0.out.go (by assumption)).from_)).mono ?_; rw [HRES.out]; rintro e w'' ⟨rfl, hb⟩))
  have HV1 := (‹_ ∧ Hid (VD w A fs.length c _)›).2
  have HSZ : Hid (w.heap.size ≤ w''.heap.size) := by have := HV1.out.size; rw [Hid]; omega
  go_wp2_with fail
  go_at_call 98
  refine (spec_ReadSegment_calls (n : Int) t _ (by omega)).mono ?_
  rintro e w5 hp
  cases hs : segPl (n : Int) t with
  | none =>
    rw [hs] at hp
    obtain ⟨hb5, v5, rfl, ho5⟩ := hp
    have HB5 := Lib.hid (HV1.out.go hb5)
    have HO5 := Lib.hid ho5
    have HE : Hid (batsAt fs n = []) := by rw [Hid, HBA.out, hs]
    clear hb5 ho5 hs
    go_wp2
    go_ret
    exact ⟨_, rfl, by rw [HE.out]; exact HO5.out.mono HSZ.out, HB5.out.from_⟩
  | some p =>
    obtain ⟨f, l, pls⟩ := p
    rw [hs] at hp
    obtain ⟨hb5, v5, rfl, ho5⟩ := hp
    have HB5 := Lib.hid (HV1.out.go hb5)
    have HO5 := Lib.hid ho5
    have HE : Hid (batsAt fs n = pls) := by rw [Hid, HBA.out, hs]
    clear hb5 ho5 hs
    go_wp2
    go_ret
    exact ⟨_, rfl, by rw [HE.out]; exact HO5.out.mono HSZ.out, HB5.out.from_⟩
/-- The disk's box and the list of segments. -/
structure SR (w : World) (A : Option Addr) (n c : Nat) (v : Value) (ns : List Int) (W : World) : Prop where
  vd : VD w A n c W
  row : OwnI W (w.heap.size + 1) v ns
section
variable {w W W' : World} {A : Option Addr} {n c : Nat} {v : Value} {ns : List Int}
theorem SR.go (h : SR w A n c v ns W) (hb : Below W.heap.size W W') : SR w A n c v ns W' := ⟨h.vd.go hb, h.row.below hb⟩
end
theorem BatsOwn.cells0 {w : World} {B : Nat} {A : Option Addr} {n c j : Nat} {bs : List BatD} {q : Int} {cs : List ChD} (h : BatsOwn w B (.slice A n c) bs) (hj : bs[j]? = some (q, cs)) :
    ∃ g, A = some ⟨g, 0, none⟩ ∧ w.cell? ⟨g, j * 2, none⟩ = some (.int .i64 q) := by
  obtain ⟨b, u, e, hc, _, _⟩ := ListC.at_ h (fun _ => rfl) hj
  exact ⟨b, e, by have := hc 0 (by omega); exact this⟩
theorem placedGo_len' : ∀ (rs : List ByteArray) (last : Option Int) (a : Nat), (placedGo last a rs).length ≤ rs.length := placedGo_len
theorem bats_len (fs : List FiD) (n : Nat) : (batsAt fs n).length ≤ 20000 := by
  unfold batsAt
  cases h : segPl (n : Int) ((fileB fs (segNm (n : Int))).getD ⟨#[]⟩) with
  | none => simp
  | some p => obtain ⟨f, l, pls⟩ := p; exact (segPl_bound h).2.1
set_option maxHeartbeats 8000000 in
set_option maxRecDepth 100000 in
theorem spec_SeqsRise_calls (A : Option Addr) (c : Nat) (fs : List FiD) (w : World) (h : FiRow w A c fs) :
    Calls Tryz.prog 49 #[.agg #[.slice A fs.length c]] w fun e w' => e = .returned (.bool (riseB fs)) ∧ Below w.heap.size w w' := by
  have HF := Lib.hid h
  have HV := Lib.hid (vd_start w A fs.length c)
  have p0 := HV.out.cell
  have hw5 : (W5 w A fs.length c).heap.size = w.heap.size + 1 := by simp
  have HDS : Hid (∀ i n, (segsB fs)[i]? = some n → diskOkB fs = true ∧ n ≤ 99) := fun i n hi => segs_disk hi
  have hsl := segs_len fs
  have HRB : Hid (riseB fs = riseL (segsB fs) (seqsAt fs)) := rfl
  have HFW := Lib.hid (HF.out.below HV.out.from_)
  have HSP := Lib.hid (spec_Segments_calls A c fs _ HFW.out)
  unfold SegsPost at HSP
  rw [hw5] at HSP
  generalize segsB fs = L at HDS hsl HRB HSP
  clear h hw5
  go_enter Tryz.func49, Tryz.ntmps49
  go_wp2_with fail
  go_at_call 51
  refine HSP.out.mono ?_
  rintro e w1 ⟨v1, rfl, ho1, hb1⟩
  obtain ⟨A1, c1, hv1⟩ := ho1.form
  rw [List.length_map] at hv1
  subst hv1
  have HS1 : Hid (SR w A fs.length c (.slice A1 L.length c1) (L.map Int.ofNat) w1) := ⟨HV.out.go (hb1.mono (by simp)), ho1⟩
  clear ho1 hb1 p0 HSP
  go_wp2
  go_loopw [5, 6] (fun lv iv wr => ∃ (i : Nat) (l : Int), i ≤ L.length ∧ iv = .int .i64 (i : Int) ∧ lv = .int .i64 l ∧ Hid (RiseAt L (seqsAt fs) i 0 l) ∧ Hid (SR w A fs.length c (.slice A1 L.length c1) (L.map Int.ofNat) wr)) (fun _ iv _ => L.length - (intOf iv).toNat)
  case atStart => exact ⟨0, -1, Nat.zero_le _, rfl, rfl, rise_start _ _, HS1⟩
  case round =>
    obtain ⟨i, l, hi, rfl, rfl, HR, HS⟩ := hrel
    by_cases hlt : i < L.length
    · obtain ⟨m, hm⟩ : ∃ m, L[i]? = some m := ⟨_, List.getElem?_eq_getElem hlt⟩
      have hdm := HDS.out i m hm
      obtain ⟨b1, hA1, hc1⟩ := HS.out.row.at_ (j := i) (x := (m : Int)) (by rw [List.getElem?_map, hm]; rfl)
      subst hA1
      have HM := Lib.hid hm
      have HDK := Lib.hid hdm.1
      have HSD := Lib.hid (HS.out.go (Below.drew (Below.refl _ _)))
      have HC1 : Hid (∀ W, SR w A fs.length c (.slice (some ⟨b1, 0, none⟩) L.length c1) (L.map Int.ofNat) W → W.cell? ⟨w.heap.size, 0, none⟩ = some (.slice A fs.length c) ∧ W.cell? ⟨b1, i, none⟩ = some (.int .i64 (m : Int)) ∧ Hid (SR w A fs.length c (.slice (some ⟨b1, 0, none⟩) L.length c1) (L.map Int.ofNat) W)) := fun W hW => by
        obtain ⟨b, e, hb⟩ := hW.row.at_ (j := i) (x := (m : Int)) (by rw [List.getElem?_map, HM.out]; rfl)
        cases e
        exact ⟨hW.vd.cell, hb, hW⟩
      have hil : (i : Int) < (L.length : Int) := by omega
      clear hm hdm hc1
      go_wp2_with fail
      go_region_held3 (fun w' => w'.cell? ⟨w.heap.size, 0, none⟩ = some (.slice A fs.length c) ∧ w'.cell? ⟨b1, i, none⟩ = some (.int .i64 (m : Int)) ∧ Hid (SR w A fs.length c (.slice (some ⟨b1, 0, none⟩) L.length c1) (L.map Int.ofNat) w')) (first | exact HC1.out _ HSD.out | exact HC1.out _ (HSD.out.go hb7)) (first | (go_at_call 96; refine (spec_l06Batches_calls A c fs m _ (HF.out.below HSD.out.vd.from_) HDK.out).mono ?_; rintro e w7 ⟨v7, rfl, ho7, hb7⟩))
      have HS7 := (‹_ ∧ _ ∧ Hid (SR w A fs.length c (.slice (some ⟨b1, 0, none⟩) L.length c1) (L.map Int.ofNat) _)›).2.2
      obtain ⟨A7, c7, hv7⟩ := ListC.form ho7
      rw [List.length_map] at hv7
      subst hv7
      have HO7 := Lib.hid ho7
      have hbl := bats_len fs m
      have HSQ : Hid (seqsAt fs m = (batsAt fs m).map fun p => p.1.1) := rfl
      generalize batsAt fs m = S at HO7 hbl HSQ ho7 ⊢
      clear ho7 hb7
      go_wp2
      go_loopw [5, 8] (fun lv kv wr2 => ∃ (j : Nat) (l' : Int), j ≤ S.length ∧ kv = .int .i64 (j : Int) ∧ lv = .int .i64 l' ∧ Hid (RiseAt L (seqsAt fs) i j l') ∧ Hid (Below w7.heap.size w7 wr2)) (fun _ kv _ => S.length - (intOf kv).toNat)
      case atStart => exact ⟨0, l, Nat.zero_le _, rfl, rfl, HR, Below.refl _ _⟩
      case round =>
        obtain ⟨j, l', hj, rfl, rfl, HR2, HB2⟩ := hrel
        by_cases hlt2 : j < S.length
        · obtain ⟨⟨⟨q, cs⟩, a, z⟩, hp⟩ : ∃ p, S[j]? = some p := ⟨_, List.getElem?_eq_getElem hlt2⟩
          obtain ⟨g, hA7, hcg⟩ := BatsOwn.cells0 (ListC.below HO7.out HB2.out) (j := j) (q := q) (cs := cs) (by rw [List.getElem?_map, hp]; rfl)
          subst hA7
          have HQ : Hid ((seqsAt fs m)[j]? = some q) := by rw [Hid, HSQ.out, List.getElem?_map, hp]; rfl
          have hjl : (j : Int) < (S.length : Int) := by omega
          clear hp
          by_cases hq : q ≤ l'
          · have HE := Lib.hid (rise_bad HR2.out HM.out HQ.out hq)
            have HF9 := Lib.hid (HS7.out.vd.go HB2.out).from_
            go_wp2
            go_ret
            exact ⟨by rw [HRB.out, HE.out]; rfl, HF9.out⟩
          · have HN := Lib.hid (rise_in HR2.out HM.out HQ.out hq)
            go_wp2
            go_roundw
            case rel => first | exact ⟨j + 1, q, by omega, by go_num, rfl, HN, HB2⟩ | (repeat (first | (refine ⟨?relx, rfl⟩; exact ⟨j + 1, q, by omega, by go_num, rfl, HN, HB2⟩) | (refine ⟨?relx, ?eqs⟩; (case eqs => (and_intros <;> rfl)); exact ⟨j + 1, q, by omega, by go_num, rfl, HN, HB2⟩) | apply Exists.intro))
            case measure => simp [intOf]; omega
        · obtain rfl : j = S.length := by omega
          have HN := Lib.hid (rise_next HR2.out HM.out (by rw [HSQ.out, List.length_map]; exact Nat.le_refl _))
          have HS9 := Lib.hid (HS7.out.go HB2.out)
          have hjl : ¬ (S.length : Int) < (S.length : Int) := by omega
          go_wp2
          go_roundw
          case rel => first | exact ⟨i + 1, l', by omega, by go_num, rfl, HN, HS9⟩ | (repeat (first | (refine ⟨?relx, rfl⟩; exact ⟨i + 1, l', by omega, by go_num, rfl, HN, HS9⟩) | (refine ⟨?relx, ?eqs⟩; (case eqs => (and_intros <;> rfl)); exact ⟨i + 1, l', by omega, by go_num, rfl, HN, HS9⟩) | apply Exists.intro))
          case measure => simp [intOf]; omega
    · obtain rfl : i = L.length := by omega
      have HE := Lib.hid (rise_end HR.out (Nat.le_refl _))
      go_wp2
      go_ret
      exact ⟨by rw [HRB.out, HE.out]; rfl, HS.out.vd.from_⟩
end Go.Proofs.YtaacpdejpcbbbaaGreatDoor

namespace Go.Proofs.YtaacpdejpcbbbaaGreatDoor
set_option linter.unusedVariables false
set_option linter.unusedSimpArgs false
open Go.RowKit
attribute [local go_sem] bs_size List.length_cons List.length_nil List.length_append

theorem plUni (fs : List FiD) (m : Nat) (t : ByteArray) (h : (fileB fs (segNm (m : Int))).getD ⟨#[]⟩ = t) : ∃ (f : Nat) (ok : Bool), ∀ (w : World) (e : Ending) (w' : World), PlPost w (segPl (m : Int) t) e w' → ∃ v, e = .returned (.tuple #[.int .i64 (f : Int), v, .bool ok]) ∧ PlOwn w' w.heap.size v (batsAt fs m) ∧ Below w.heap.size w w' := by
  unfold batsAt
  rw [h]
  cases hs : segPl (m : Int) t with
  | none => exact ⟨0, false, fun w e w' hp => ⟨_, hp.2, ListC.nil _ _, hp.1⟩⟩
  | some p =>
    obtain ⟨f, l, pls⟩ := p
    exact ⟨f, true, fun w e w' hp => by obtain ⟨hb, v, he, ho⟩ := hp; exact ⟨v, he, ho, hb⟩⟩
set_option maxHeartbeats 8000000 in
set_option maxRecDepth 100000 in
theorem impl_SeqsRise_calls (A : Option Addr) (c : Nat) (fs : List FiD) (w : World) (h : FiRow w A c fs) (hP : Pow w) (hE : Sent w) :
    Calls Tryz.prog 59 #[.agg #[.slice A fs.length c]] w fun e w' => e = .returned (.bool (riseB fs)) ∧ Below w.heap.size w w' := by
  have HF := Lib.hid h
  have HPW := Lib.hid hP
  have HV := Lib.hid (vd_start w A fs.length c)
  have p0 := HV.out.cell
  have hw5 : (W5 w A fs.length c).heap.size = w.heap.size + 1 := by simp
  have HDS : Hid (∀ i n, (segsB fs)[i]? = some n → diskOkB fs = true ∧ n ≤ 99) := fun i n hi => segs_disk hi
  have hsl := segs_len fs
  have HRB : Hid (riseB fs = riseL (segsB fs) (seqsAt fs)) := rfl
  have HFW := Lib.hid (HF.out.below HV.out.from_)
  have HSP := Lib.hid (impl_Segments_calls A c fs _ HFW.out (HPW.out.below HV.out.from_) (sentB hE HV.out.from_))
  unfold SegsPost at HSP
  rw [hw5] at HSP
  generalize segsB fs = L at HDS hsl HRB HSP
  clear h hw5 hP hE
  go_enter Tryz.func59, Tryz.ntmps59
  go_wp2_with fail
  go_at_call 38
  refine HSP.out.mono ?_
  rintro e w1 ⟨v1, rfl, ho1, hb1⟩
  obtain ⟨A1, c1, hv1⟩ := ho1.form
  rw [List.length_map] at hv1
  subst hv1
  have HS1 : Hid (SR w A fs.length c (.slice A1 L.length c1) (L.map Int.ofNat) w1) := ⟨HV.out.go (hb1.mono (by simp)), ho1⟩
  clear ho1 hb1 p0 HSP
  go_wp2
  go_loopw [5, 22] (fun lv iv wr => ∃ (i : Nat) (l : Int), i ≤ L.length ∧ iv = .int .i64 (i : Int) ∧ lv = .int .i64 l ∧ Hid (RiseAt L (seqsAt fs) i 0 l) ∧ Hid (SR w A fs.length c (.slice A1 L.length c1) (L.map Int.ofNat) wr)) (fun _ iv _ => L.length - (intOf iv).toNat)
  case atStart => exact ⟨0, -1, Nat.zero_le _, rfl, rfl, rise_start _ _, HS1⟩
  case round =>
    obtain ⟨i, l, hi, rfl, rfl, HR, HS⟩ := hrel
    by_cases hlt : i < L.length
    · obtain ⟨m, hm⟩ : ∃ m, L[i]? = some m := ⟨_, List.getElem?_eq_getElem hlt⟩
      have hdm := HDS.out i m hm
      obtain ⟨b1, hA1, hc1⟩ := HS.out.row.at_ (j := i) (x := (m : Int)) (by rw [List.getElem?_map, hm]; rfl)
      subst hA1
      have HM := Lib.hid hm
      have HDK := Lib.hid hdm.1
      have HSD := Lib.hid (HS.out.go (Below.drew (Below.refl _ _)))
      have HPP := Lib.hid (HPW.out.below HSD.out.vd.from_)
      obtain ⟨t, ht⟩ : ∃ t, (fileB fs (segNm (m : Int))).getD ⟨#[]⟩ = t := ⟨_, rfl⟩
      have hts : t.size ≤ 20000 := by rw [← ht]; exact get_small hdm.1
      obtain ⟨f, okp, hpl⟩ := plUni fs m t ht
      have HPL := Lib.hid hpl
      have hres := fiRes_get (fileB fs (segNm (m : Int)))
      rw [ht] at hres
      generalize (fileB fs (segNm (m : Int))).isSome = ob at hres
      have HRES := Lib.hid hres
      have hbl := bats_len fs m
      have HSQ : Hid (seqsAt fs m = (batsAt fs m).map fun p => p.1.1) := rfl
      generalize batsAt fs m = S at hbl HSQ HPL
      clear hm hdm ht hpl hres
      go_wp2_with fail
      go_region_held3 (fun w' => w'.cell? ⟨w.heap.size, 0, none⟩ = some (.slice A fs.length c) ∧ Hid (SR w A fs.length c (.slice (some ⟨b1, 0, none⟩) L.length c1) (L.map Int.ofNat) w')) (first | exact ⟨HSD.out.vd.cell, HSD.out⟩ | exact ⟨(HSD.out.go (by assumption)).vd.cell, HSD.out.go (by assumption)⟩ | exact ⟨((HSD.out.go (by assumption)).go (by assumption)).vd.cell, (HSD.out.go (by assumption)).go (by assumption)⟩) (first | (go_at_call 40; refine (impl_SegNm_calls (m : Int) _ HPP.out).mono ?_; rintro e w' ⟨rfl, hb⟩) | (go_at_call 39; refine (impl_FileAt_calls (segNm (m : Int)) A c fs _ (HF.out.below (HSD.out.go (by assumption)).vd.from_)).mono ?_; rw [HRES.out]; rintro e w'' ⟨rfl, hb⟩))
      have HS7 := (‹_ ∧ Hid (SR w A fs.length c (.slice (some ⟨b1, 0, none⟩) L.length c1) (L.map Int.ofNat) _)›).2
      go_wp2_with fail
      go_at_call 41
      refine (impl_placedIn_calls (m : Int) t _ (by omega)).mono ?_
      rintro e w8 hp
      obtain ⟨v8, rfl, ho8, hb8⟩ := HPL.out _ _ _ hp
      obtain ⟨A8, c8, hv8⟩ := ListC.form ho8
      subst hv8
      have HO8 := Lib.hid ho8
      have HS8 := Lib.hid (HS7.out.go hb8)
      clear hp ho8 hb8
      go_wp2
      go_loopw [5, 42] (fun lv kv wr2 => ∃ (j : Nat) (l' : Int), j ≤ S.length ∧ kv = .int .i64 (j : Int) ∧ lv = .int .i64 l' ∧ Hid (RiseAt L (seqsAt fs) i j l') ∧ Hid (Below w8.heap.size w8 wr2)) (fun _ kv _ => S.length - (intOf kv).toNat)
      case atStart => exact ⟨0, l, Nat.zero_le _, rfl, rfl, HR, Below.refl _ _⟩
      case round =>
        obtain ⟨j, l', hj, rfl, rfl, HR2, HB2⟩ := hrel
        by_cases hlt2 : j < S.length
        · obtain ⟨⟨⟨q, cs⟩, a, z⟩, hp⟩ : ∃ p, S[j]? = some p := ⟨_, List.getElem?_eq_getElem hlt2⟩
          obtain ⟨g, u, hA8, hcc, hu, hsm⟩ := ListC.at_ (ListC.below HO8.out HB2.out) (fun _ => rfl) hp
          subst hA8
          obtain ⟨Au, cu, hform, _⟩ := hu.row hsm
          dsimp only at hform
          subst hform
          have k0 := hcc 0 (by omega)
          have k1 := hcc 1 (by omega)
          have k2 := hcc 2 (by omega)
          have k3 := hcc 3 (by omega)
          simp only [plVals, Nat.add_zero, List.getElem?_cons_zero, List.getElem?_cons_succ] at k0 k1 k2 k3
          have HQ : Hid ((seqsAt fs m)[j]? = some q) := by rw [Hid, HSQ.out, List.getElem?_map, hp]; rfl
          have HB3 := Lib.hid (HB2.out.alloc HB2.out.size (.cells #[.int .i64 q, .slice Au cs.length cu, .int .i64 (a : Int), .int .i64 (z : Int)] 75))
          have hjl : (j : Int) < (S.length : Int) := by omega
          clear hp hcc hu hsm
          by_cases hq : q ≤ l'
          · have HE := Lib.hid (rise_bad HR2.out HM.out HQ.out hq)
            have HF9 := Lib.hid (HS8.out.vd.go HB3.out).from_
            go_wp2
            go_ret
            exact ⟨by rw [HRB.out, HE.out]; rfl, HF9.out⟩
          · have HN := Lib.hid (rise_in HR2.out HM.out HQ.out hq)
            go_wp2
            go_roundw
            case rel => first | exact ⟨j + 1, q, by omega, by go_num, rfl, HN, HB3⟩ | (repeat (first | (refine ⟨?relx, rfl⟩; exact ⟨j + 1, q, by omega, by go_num, rfl, HN, HB3⟩) | (refine ⟨?relx, ?eqs⟩; (case eqs => (and_intros <;> rfl)); exact ⟨j + 1, q, by omega, by go_num, rfl, HN, HB3⟩) | apply Exists.intro))
            case measure => simp [intOf]; omega
        · obtain rfl : j = S.length := by omega
          have HN := Lib.hid (rise_next HR2.out HM.out (by rw [HSQ.out, List.length_map]; exact Nat.le_refl _))
          have HS9 := Lib.hid (HS8.out.go HB2.out)
          go_wp2
          go_roundw
          case rel => first | exact ⟨i + 1, l', by omega, by go_num, rfl, HN, HS9⟩ | (repeat (first | (refine ⟨?relx, rfl⟩; exact ⟨i + 1, l', by omega, by go_num, rfl, HN, HS9⟩) | (refine ⟨?relx, ?eqs⟩; (case eqs => (and_intros <;> rfl)); exact ⟨i + 1, l', by omega, by go_num, rfl, HN, HS9⟩) | apply Exists.intro))
          case measure => simp [intOf]; omega
    · obtain rfl : i = L.length := by omega
      have HE := Lib.hid (rise_end HR.out (Nat.le_refl _))
      go_wp2
      go_ret
      exact ⟨by rw [HRB.out, HE.out]; rfl, HS.out.vd.from_⟩
end Go.Proofs.YtaacpdejpcbbbaaGreatDoor
