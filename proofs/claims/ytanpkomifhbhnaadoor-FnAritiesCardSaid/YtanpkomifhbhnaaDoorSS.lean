/- Lists of lists of texts in memory, made by the call: each list's row is its own; the laws' helpers eqStringSS, markStringSS, heldStringSS. -/
import Derived.Test.YtanpkomifhbhnaaDoorParLaw
import Derived.Deep.RegionHeld3
namespace Go.Proofs.YtanpkomifhbhnaaDoor
set_option linter.unusedVariables false
set_option linter.unusedSimpArgs false
open Go.RowKit
attribute [local go_sem] bs_size List.length_cons List.length_nil List.length_append

/-- Each of these slices is a row of the call's own (from block B on): those texts. -/
def Rows2 (w : World) (B : Nat) : List Value → List (List ByteArray) → Prop
  | [], [] => True
  | v :: vs, xs :: xss => StrOwn w B v xs ∧ (∀ x ∈ xs, x.size ≤ 9223372036854775807) ∧ (∀ k, v.ownBlock = some k → ∀ u ∈ vs, u.ownBlock ≠ some k) ∧ Rows2 w B vs xss
  | _, _ => False
theorem Rows2.length {w : World} {B : Nat} : ∀ {vs : List Value} {xss : List (List ByteArray)}, Rows2 w B vs xss → vs.length = xss.length
  | [], [], _ => rfl
  | _ :: _, _ :: _, h => by rw [List.length_cons, List.length_cons, Rows2.length h.2.2.2]
  | [], _ :: _, h => h.elim
  | _ :: _, [], h => h.elim
theorem Rows2.lt {w : World} {B : Nat} : ∀ {vs : List Value} {xss : List (List ByteArray)}, Rows2 w B vs xss → ∀ u ∈ vs, ∀ k, u.ownBlock = some k → B ≤ k ∧ k < w.heap.size
  | [], [], _, u, hu, _, _ => by simp at hu
  | v :: vs, xs :: xss, h, u, hu, k, hk => by
    rcases List.mem_cons.1 hu with rfl | hu
    · exact h.1.lt k hk
    · exact Rows2.lt h.2.2.2 u hu k hk
  | [], _ :: _, h, _, _, _, _ => h.elim
  | _ :: _, [], h, _, _, _, _ => h.elim
/-- Another row, or new ones, may change. -/
theorem StrOwn.kept {w w' : World} {B : Nat} {v : Value} {xs : List ByteArray} {row : Option Nat} (h : StrOwn w B v xs) (hg : w.grownBy w' row) (hne : ∀ k, v.ownBlock = some k → row ≠ some k) : StrOwn w' B v xs := by
  rcases h with h | ⟨b, c, rfl, hB, more, hb, hc⟩
  · exact .inl h
  · exact .inr ⟨b, c, rfl, hB, more, (hg.block b (blk_lt hb) (fun e => hne b rfl e.symm)).trans hb, hc⟩
theorem Rows2.kept {w w' : World} {B : Nat} {row : Option Nat} (hg : w.grownBy w' row) : ∀ {vs : List Value} {xss : List (List ByteArray)}, Rows2 w B vs xss → (∀ u ∈ vs, ∀ k, u.ownBlock = some k → row ≠ some k) → Rows2 w' B vs xss
  | [], [], _, _ => trivial
  | v :: vs, xs :: xss, h, hne => ⟨h.1.kept hg (hne v (by simp)), h.2.1, h.2.2.1, Rows2.kept hg h.2.2.2 fun u hu => hne u (by simp [hu])⟩
  | [], _ :: _, h, _ => h.elim
  | _ :: _, [], h, _ => h.elim
theorem Rows2.snoc {w : World} {B : Nat} {v : Value} {xs : List ByteArray} (hv : StrOwn w B v xs) (hx : ∀ x ∈ xs, x.size ≤ 9223372036854775807) : ∀ {vs : List Value} {xss : List (List ByteArray)}, Rows2 w B vs xss → (∀ u ∈ vs, ∀ k, u.ownBlock = some k → v.ownBlock ≠ some k) → Rows2 w B (vs ++ [v]) (xss ++ [xs])
  | [], [], _, _ => ⟨hv, hx, fun _ _ u hu => by simp at hu, trivial⟩
  | u :: vs, ys :: xss, h, hne => ⟨h.1, h.2.1, fun k hk z hz => by
      rcases List.mem_append.1 hz with hz | hz
      · exact h.2.2.1 k hk z hz
      · obtain rfl := List.mem_singleton.1 hz
        exact hne u (by simp) k hk, Rows2.snoc hv hx h.2.2.2 fun z hz => hne z (by simp [hz])⟩
  | [], _ :: _, h, _ => h.elim
  | _ :: _, [], h, _ => h.elim
theorem Rows2.at_ {w : World} {B : Nat} : ∀ {vs : List Value} {xss : List (List ByteArray)} {j : Nat}, Rows2 w B vs xss → j < vs.length → ∃ v xs, vs[j]? = some v ∧ xss[j]? = some xs ∧ StrOwn w B v xs ∧ ∀ x ∈ xs, x.size ≤ 9223372036854775807
  | [], [], _, _, hj => by simp at hj
  | v :: vs, xs :: xss, 0, h, _ => ⟨v, xs, rfl, rfl, h.1, h.2.1⟩
  | v :: vs, xs :: xss, j + 1, h, hj => by simpa using Rows2.at_ h.2.2.2 (by simpa using hj)
  | [], _ :: _, _, h, _ => h.elim
  | _ :: _, [], _, h, _ => h.elim
/-- The row at j gets other texts; the others are as they were. -/
theorem Rows2.set {w w' : World} {B : Nat} {v : Value} {ys : List ByteArray} (hy : ∀ x ∈ ys, x.size ≤ 9223372036854775807) (hg : w.grownBy w' v.ownBlock) (hv : StrOwn w' B v ys) : ∀ {vs : List Value} {xss : List (List ByteArray)} {j : Nat}, Rows2 w B vs xss → vs[j]? = some v → Rows2 w' B vs (xss.set j ys)
  | [], [], _, _, h => by simp at h
  | u :: vs, xs :: xss, 0, h, e => by
    obtain rfl : u = v := by simpa using e
    refine ⟨hv, hy, h.2.2.1, Rows2.kept hg h.2.2.2 fun z hz k hk e2 => ?_⟩
    exact h.2.2.1 k e2 z hz hk
  | u :: vs, xs :: xss, j + 1, h, e => by
    have e' : vs[j]? = some v := by simpa using e
    have hm : v ∈ vs := List.mem_of_getElem? e'
    exact ⟨h.1.kept hg fun k hk e2 => h.2.2.1 k hk v hm e2, h.2.1, h.2.2.1, Rows2.set hy hg hv h.2.2.2 e'⟩
  | [], _ :: _, _, h, _ => h.elim
  | _ :: _, [], _, h, _ => h.elim
/-- The outer row: a slice of the call's own that holds these slices; its block is none of theirs. -/
def Out2 (w : World) (B : Nat) (v : Value) (vs : List Value) : Prop := w.ownsRow B 22 1 v vs.length vs ∧ ∀ k, v.ownBlock = some k → ∀ u ∈ vs, u.ownBlock ≠ some k
theorem Out2.kept {w w' : World} {B : Nat} {v : Value} {vs : List Value} {row : Option Nat} (h : Out2 w B v vs) (hg : w.grownBy w' row) (hne : ∀ k, v.ownBlock = some k → row ≠ some k) : Out2 w' B v vs := by
  refine ⟨h.1.kept hg ?_, h.2⟩
  cases hv : v.ownBlock with
  | none => exact .inl rfl
  | some k => exact .inr fun e => hne k hv e.symm
theorem Out2.form {w : World} {B : Nat} {v : Value} {vs : List Value} (h : Out2 w B v vs) : ∃ A c, v = .slice A vs.length c := by
  rcases h.1.2 with ⟨rfl, h0⟩ | ⟨g, cap, cur, rfl, _⟩
  · exact ⟨none, 0, by rw [h0]⟩
  · exact ⟨_, _, rfl⟩
theorem Out2.cell {w : World} {B : Nat} {A : Option Addr} {n c : Nat} {vs : List Value} (h : Out2 w B (.slice A n c) vs) {j : Nat} {u : Value} (hj : vs[j]? = some u) : ∃ ad, A = some ad ∧ w.cell? (ad.add j) = some u := by
  rcases h.1.2 with ⟨e, h0⟩ | ⟨g, cap, cur, e, _⟩
  · have : vs = [] := List.eq_nil_of_length_eq_zero h0
    rw [this] at hj
    simp at hj
  · injection e with e1 e2 e3
    subst e1
    exact ⟨_, rfl, h.1.cells rfl j u hj⟩
/-- A list of lists of the call's own. -/
def OwnSS (w : World) (B : Nat) (v : Value) (xss : List (List ByteArray)) : Prop := ∃ vs, Rows2 w B vs xss ∧ Out2 w B v vs
theorem OwnSS.kept {w w' : World} {B : Nat} {v : Value} {xss : List (List ByteArray)} {row : Option Nat} (h : OwnSS w B v xss) (hg : w.grownBy w' row) (hr : ∀ k, row = some k → w.heap.size ≤ k ∨ k < B) : OwnSS w' B v xss := by
  obtain ⟨vs, h1, h2⟩ := h
  refine ⟨vs, h1.kept hg fun u hu k hk e => ?_, h2.kept hg fun k hk e => ?_⟩
  · have := h1.lt u hu k hk
    have := hr k e
    omega
  · have := h2.1.lt k hk
    have := hr k e
    omega
theorem OwnSS.below {w w' : World} {B : Nat} {v : Value} {xss : List (List ByteArray)} (h : OwnSS w B v xss) (hb : Below w.heap.size w w') : OwnSS w' B v xss :=
  h.kept (row := none) ⟨hb.os, hb.tape, hb.output, hb.size, fun k hk _ => hb.block k hk⟩ fun k e => by cases e
theorem OwnSS.mono {w : World} {B B' : Nat} {v : Value} {xss : List (List ByteArray)} (h : OwnSS w B v xss) (hB : B' ≤ B) : OwnSS w B' v xss := by
  obtain ⟨vs, h1, h2, h3⟩ := h
  refine ⟨vs, ?_, ⟨h2.1, ?_⟩, h3⟩
  · clear h2 h3
    induction vs generalizing xss with
    | nil => cases xss with
      | nil => trivial
      | cons => exact h1.elim
    | cons u vs ih => cases xss with
      | nil => exact h1.elim
      | cons xs xss => exact ⟨h1.1.mono hB, h1.2.1, h1.2.2.1, ih h1.2.2.2⟩
  · rcases h2.2 with h | ⟨g, cap, cur, e, hb, r⟩
    · exact .inl h
    · exact .inr ⟨g, cap, cur, e, by omega, r⟩
theorem Rows2.len {w : World} {B : Nat} {A : Option Addr} {c n : Nat} {xs : List ByteArray} (h : StrOwn w B (.slice A n c) xs) : n = xs.length := by
  rcases h with ⟨e, rfl⟩ | ⟨b, c', e, _⟩
  · injection e with _ e2
  · injection e with _ e2
theorem StrOwn.form {w : World} {B : Nat} {v : Value} {xs : List ByteArray} (h : StrOwn w B v xs) : ∃ A c, v = .slice A xs.length c := by
  rcases h with ⟨rfl, rfl⟩ | ⟨b, c, rfl, _⟩
  · exact ⟨none, 0, rfl⟩
  · exact ⟨_, _, rfl⟩
theorem keep2 {w w' : World} {a b : Addr} {x y : Value} (h1 : w.cell? a = some x) (h2 : w.cell? b = some y) (hb : Below w.heap.size w w') : w'.cell? a = some x ∧ w'.cell? b = some y ∧ Hid (Below w.heap.size w w') :=
  ⟨(hb.cell (World.block_lt_of_cell? w _ h1)).trans h1, (hb.cell (World.block_lt_of_cell? w _ h2)).trans h2, hb⟩
set_option maxHeartbeats 4000000 in
set_option maxRecDepth 100000 in
theorem laws_eqStringSS_calls (B B' : Nat) (v v' : Value) (xss : List (List ByteArray)) (w : World) (h : OwnSS w B v xss) (h' : OwnSS w B' v' xss) (hn : xss.length ≤ 1000000000) :
    Calls Tryd.prog 27 #[v, v'] w fun e w' => e = .returned (.bool true) ∧ Below w.heap.size w w' := by
  obtain ⟨vs, hr, ho⟩ := h
  obtain ⟨vs', hr', ho'⟩ := h'
  obtain ⟨A, c, rfl⟩ := ho.form
  obtain ⟨A', c', rfl⟩ := ho'.form
  have hl := hr.length
  have hl' := hr'.length
  have HR := Lib.hid hr
  have HO := Lib.hid ho
  have HR' := Lib.hid hr'
  have HO' := Lib.hid ho'
  have hb1 : ((vs.length : Int) != (vs'.length : Int)) = false := bne_eq_false_iff_eq.mpr (by omega)
  have HL := Lib.hid hl
  have HL' := Lib.hid hl'
  have hvn : vs.length ≤ 1000000000 := by omega
  clear hr ho hr' ho' hl hl'
  go_enter Tryd.func27, Tryd.ntmps27
  go_wp2
  go_loopw [5] (fun iv wr => ∃ j : Nat, j ≤ vs.length ∧ iv = .int .i64 (j : Int) ∧ Below w.heap.size w wr) (fun iv _ => vs.length - (intOf iv).toNat)
  case atStart => exact ⟨0, Nat.zero_le _, rfl, Below.refl _ _⟩
  case round =>
    obtain ⟨j, hj, rfl, hbel⟩ := hrel
    have HB := Lib.hid hbel
    clear hbel
    by_cases hlt : j < vs.length
    · have hlt' : j < vs'.length := by have := HL.out; have := HL'.out; omega
      obtain ⟨u, xs, e1, e2, ho1, hx1⟩ := HR.out.at_ hlt
      obtain ⟨u', xs', e1', e2', ho1', _⟩ := HR'.out.at_ hlt'
      obtain rfl : xs = xs' := by rw [e2] at e2'; exact Option.some.inj e2'
      obtain ⟨ad, hA, hc⟩ := HO.out.cell e1
      obtain ⟨ad', hA', hc'⟩ := HO'.out.cell e1'
      subst hA hA'
      obtain ⟨A1, c1, rfl, hrow1⟩ := ho1.row hx1
      obtain ⟨A2, c2, rfl, hrow2⟩ := ho1'.row hx1
      have hc1 : wr.cell? (ad.add j) = _ := (HB.out.cell (World.block_lt_of_cell? w _ hc)).trans hc
      have hc2 : wr.cell? (ad'.add j) = _ := (HB.out.cell (World.block_lt_of_cell? w _ hc')).trans hc'
      have HR1 := Lib.hid (hrow1.below HB.out)
      have HR2 := Lib.hid (hrow2.below HB.out)
      have he := eqS_self xs
      have hli : (j : Int) < (vs'.length : Int) := by omega
      clear hrow1 hrow2 ho1 ho1' e1 e1' e2 e2' hc hc'
      have HH0 : Hid (Below wr.heap.size wr wr.drew) := Below.drew (Below.refl _ _)
      go_wp2
      go_region_held3 (fun w' => w'.cell? (ad.add j) = some (.slice A1 xs.length c1) ∧ w'.cell? (ad'.add j) = some (.slice A2 xs.length c2) ∧ Hid (Below wr.heap.size wr w')) (first | exact keep2 hc1 hc2 HH0.out | exact keep2 hc1 hc2 (HH0.out.trans (hb.mono (Nat.le_refl _)))) (first | (go_at_call 16; refine (laws_eqStringS_calls A1 c1 xs A2 c2 xs _ (HR1.out.below HH0.out) (HR2.out.below HH0.out)).mono ?_; rw [he]; rintro e w' ⟨rfl, hb⟩))
      have HK := And.right (And.right ‹_ ∧ _ ∧ Hid (Below wr.heap.size wr _)›)
      go_wp2
      go_roundw
      case rel => first | exact ⟨j + 1, by omega, by go_num, HB.out.trans (HK.out.mono HB.out.size)⟩ | (repeat (first | (refine ⟨?relx, rfl⟩; exact ⟨j + 1, by omega, by go_num, HB.out.trans (HK.out.mono HB.out.size)⟩) | (refine ⟨?relx, ?eqs⟩; (case eqs => (and_intros <;> rfl)); exact ⟨j + 1, by omega, by go_num, HB.out.trans (HK.out.mono HB.out.size)⟩) | apply Exists.intro))
      case measure => simp [intOf]; omega
    · obtain rfl : j = vs.length := by omega
      have hlv : ¬ (vs.length : Int) < (vs.length : Int) := by omega
      go_wp2
      go_ret
      exact ⟨rfl, HB.out⟩
/-- The marks of the lists, one behind the other, from k on. -/
def marksSS (k : Nat) : List (List ByteArray) → List (List ByteArray)
  | [] => []
  | xs :: xss => marks k xs.length :: marksSS (k + xs.length) xss
/-- How many texts the first j lists have. -/
def cntSS (xss : List (List ByteArray)) (j : Nat) : Nat := ((xss.take j).map List.length).sum
theorem cntSS_step {xss : List (List ByteArray)} {j : Nat} {xs : List ByteArray} (h : xss[j]? = some xs) : cntSS xss (j + 1) = cntSS xss j + xs.length := by
  unfold cntSS
  rw [take_snoc h]
  simp
theorem cntSS_zero (xss : List (List ByteArray)) : cntSS xss 0 = 0 := rfl
theorem cntSS_le (xss : List (List ByteArray)) (j : Nat) : cntSS xss j ≤ cntSS xss xss.length := by
  unfold cntSS
  rw [List.take_length]
  have := congrArg (fun l : List (List ByteArray) => (l.map List.length).sum) (List.take_append_drop j xss)
  simp only [List.map_append, List.sum_append] at this
  omega
theorem marksSS_at : ∀ (xss : List (List ByteArray)) (k j : Nat) (xs : List ByteArray), xss[j]? = some xs → (marksSS k xss)[j]? = some (marks (k + cntSS xss j) xs.length)
  | [], _, _, _, h => by simp at h
  | ys :: xss, k, 0, xs, h => by
    obtain rfl : ys = xs := by simpa using h
    rfl
  | ys :: xss, k, j + 1, xs, h => by
    have h' : xss[j]? = some xs := by simpa using h
    have := marksSS_at xss (k + ys.length) j xs h'
    simp only [marksSS, List.getElem?_cons_succ, this]
    congr 2
    simp [cntSS]
    omega
theorem marksSS_length : ∀ (xss : List (List ByteArray)) (k : Nat), (marksSS k xss).length = xss.length
  | [], _ => rfl
  | _ :: xss, k => by simp [marksSS, marksSS_length xss]
/-- The first j lists are marked. -/
def mixSS (k : Nat) (xss : List (List ByteArray)) (j : Nat) : List (List ByteArray) := (marksSS k xss).take j ++ xss.drop j
theorem mixSS_step {k j : Nat} {xss : List (List ByteArray)} {xs : List ByteArray} (h : xss[j]? = some xs) : (mixSS k xss j).set j (marks (k + cntSS xss j) xs.length) = mixSS k xss (j + 1) := by
  obtain ⟨hj, e⟩ := List.getElem?_eq_some_iff.1 h
  have hl : ((marksSS k xss).take j).length = j := by rw [List.length_take, marksSS_length]; omega
  unfold mixSS
  rw [List.set_append_right _ _ (by omega), hl, Nat.sub_self, List.drop_eq_getElem_cons hj, List.set_cons_zero, take_snoc (marksSS_at xss k j xs h)]
  simp
theorem mixSS_at {k j : Nat} {xss : List (List ByteArray)} (hj : j < xss.length) : (mixSS k xss j)[j]? = xss[j]? := by
  have hl : ((marksSS k xss).take j).length = j := by rw [List.length_take, marksSS_length]; omega
  unfold mixSS
  rw [List.getElem?_append_right (by omega), hl, Nat.sub_self, List.getElem?_drop, Nat.add_zero]
theorem mixSS_all (k : Nat) (xss : List (List ByteArray)) : mixSS k xss xss.length = marksSS k xss := by
  unfold mixSS
  rw [List.drop_length, List.append_nil, ← marksSS_length xss k, List.take_length]
/-- What markStringSS leaves: the marks; nothing that was below B is another. -/
def Marked2 (w : World) (B : Nat) (v : Value) (k : Nat) (xss : List (List ByteArray)) (e : Ending) (w' : World) : Prop := e = .returned (.int .i64 ((k + cntSS xss xss.length : Nat) : Int)) ∧ OwnSS w' B v (marksSS k xss) ∧ Below B w w'
set_option maxHeartbeats 4000000 in
set_option maxRecDepth 100000 in
theorem laws_markStringSS_calls (B : Nat) (v : Value) (xss : List (List ByteArray)) (k : Nat) (w : World) (h : OwnSS w B v xss) (h0 : 1 ≤ k) (h1 : k + cntSS xss xss.length ≤ 1000000000) (hn : xss.length ≤ 1000000000) (hBw : B ≤ w.heap.size) :
    Calls Tryd.prog 28 #[v, .int .i64 (k : Int)] w (Marked2 w B v k xss) := by
  obtain ⟨vs, hr, ho⟩ := h
  obtain ⟨A, c, rfl⟩ := ho.form
  have hl := hr.length
  have HR := Lib.hid hr
  have HO := Lib.hid ho
  have HLT := Lib.hid hr.lt
  have HL := Lib.hid hl
  have hvn : vs.length ≤ 1000000000 := by omega
  have HB0 : Hid (Below B w w) := Below.refl _ _
  have HMX : Hid (Rows2 w B vs (mixSS k xss 0)) := hr
  clear hr ho hl
  go_enter Tryd.func28, Tryd.ntmps28
  go_wp2
  go_loopw [1, 5] (fun q iv wr => ∃ j : Nat, j ≤ vs.length ∧ iv = .int .i64 (j : Int) ∧ q = .int .i64 ((k + cntSS xss j : Nat) : Int) ∧ Rows2 wr B vs (mixSS k xss j) ∧ Out2 wr B (.slice A vs.length c) vs ∧ Below B w wr ∧ w.heap.size ≤ wr.heap.size) (fun _ iv _ => vs.length - (intOf iv).toNat)
  case atStart => exact ⟨0, Nat.zero_le _, rfl, by rw [cntSS_zero]; rfl, HMX.out, HO.out, HB0.out, Nat.le_refl _⟩
  case round =>
    obtain ⟨j, hj, rfl, rfl, hmx, hout, hbel, hsz⟩ := hrel
    have HM := Lib.hid hmx
    have HOU := Lib.hid hout
    have HB := Lib.hid hbel
    have HSZ := Lib.hid hsz
    clear hmx hout hbel hsz
    by_cases hlt : j < vs.length
    · have hjx : j < xss.length := by have := HL.out; omega
      obtain ⟨u, xs, e1, e2, ho1, hx1⟩ := HM.out.at_ hlt
      rw [mixSS_at hjx] at e2
      obtain ⟨ad, hA, hc⟩ := HOU.out.cell e1
      subst hA
      obtain ⟨A1, c1, rfl⟩ := ho1.form
      have HE1 := Lib.hid e1
      have HE2 := Lib.hid e2
      have HO1 := Lib.hid ho1
      have hle : k + cntSS xss j + xs.length ≤ 1000000000 := by
        have h2 := cntSS_le xss (j + 1)
        rw [cntSS_step e2] at h2
        omega
      clear e1 e2 ho1
      go_wp2_with fail
      go_at_call 21
      refine (laws_markStringS_calls B _ xs (k + cntSS xss j) _ HO1.out (by omega) (by omega)).mono ?_
      rintro e w1 ⟨rfl, ho2, hg⟩
      have HM1 : Hid (Rows2 w1 B vs (mixSS k xss (j + 1))) := by
        rw [Hid, ← mixSS_step HE2.out]
        exact Rows2.set (marks_size (by omega)) hg ho2 HM.out HE1.out
      have HOU1 : Hid (Out2 w1 B (.slice (some ad) vs.length c) vs) := HOU.out.kept hg fun q hq e => HOU.out.2 q hq _ (List.mem_of_getElem? HE1.out) e
      have HB1 : Hid (Below B w w1) := HB.out.grown hg (Nat.le_trans hBw HSZ.out) fun q hq => (HM.out.lt _ (List.mem_of_getElem? HE1.out) q hq).1
      have HSZ1 : Hid (w.heap.size ≤ w1.heap.size) := Nat.le_trans HSZ.out hg.size
      have hcs : ((k + cntSS xss j + xs.length : Nat) : Int) = ((k + cntSS xss (j + 1) : Nat) : Int) := by rw [cntSS_step HE2.out]; omega
      have HCS := Lib.hid hcs
      clear ho2 hg hcs
      go_wp2
      go_roundw
      case rel => first | exact ⟨j + 1, by omega, by go_num, congrArg (Value.int .i64) (by have := HCS.out; omega), HM1.out, HOU1.out, HB1.out, HSZ1.out⟩ | (repeat (first | (refine ⟨?relx, rfl⟩; exact ⟨j + 1, by omega, by go_num, congrArg (Value.int .i64) (by have := HCS.out; omega), HM1.out, HOU1.out, HB1.out, HSZ1.out⟩) | (refine ⟨?relx, ?eqs⟩; (case eqs => (and_intros <;> rfl)); exact ⟨j + 1, by omega, by go_num, congrArg (Value.int .i64) (by have := HCS.out; omega), HM1.out, HOU1.out, HB1.out, HSZ1.out⟩) | apply Exists.intro))
      case measure => simp [intOf]; omega
    · obtain rfl : j = vs.length := by omega
      go_wp2
      go_ret
      refine ⟨ret_int (by rw [HL.out]), ⟨vs, ?_, HOU.out⟩, HB.out⟩
      have := HM.out
      rw [HL.out, mixSS_all] at this
      exact this
set_option maxHeartbeats 4000000 in
set_option maxRecDepth 100000 in
theorem laws_heldStringSS_calls (B : Nat) (v : Value) (xss : List (List ByteArray)) (k : Nat) (w : World) (h : OwnSS w B v (marksSS k xss)) (h0 : 1 ≤ k) (h1 : k + cntSS xss xss.length ≤ 1000000000) (hn : xss.length ≤ 1000000000) :
    Calls Tryd.prog 29 #[v, .int .i64 (k : Int)] w fun e w' => e = .returned (.int .i64 ((k + cntSS xss xss.length : Nat) : Int)) ∧ Below w.heap.size w w' := by
  obtain ⟨vs, hr, ho⟩ := h
  obtain ⟨A, c, rfl⟩ := ho.form
  have hl := hr.length
  rw [marksSS_length] at hl
  have HR := Lib.hid hr
  have HO := Lib.hid ho
  have HL := Lib.hid hl
  have hvn : vs.length ≤ 1000000000 := by omega
  clear hr ho hl
  go_enter Tryd.func29, Tryd.ntmps29
  go_wp2
  go_loopw [1, 5] (fun q iv wr => ∃ j : Nat, j ≤ vs.length ∧ iv = .int .i64 (j : Int) ∧ q = .int .i64 ((k + cntSS xss j : Nat) : Int) ∧ Below w.heap.size w wr) (fun _ iv _ => vs.length - (intOf iv).toNat)
  case atStart => exact ⟨0, Nat.zero_le _, rfl, by rw [cntSS_zero]; rfl, Below.refl _ _⟩
  case round =>
    obtain ⟨j, hj, rfl, rfl, hbel⟩ := hrel
    have HB := Lib.hid hbel
    clear hbel
    by_cases hlt : j < vs.length
    · have hjx : j < xss.length := by have := HL.out; omega
      obtain ⟨xs, e0⟩ : ∃ xs, xss[j]? = some xs := ⟨_, List.getElem?_eq_getElem hjx⟩
      obtain ⟨u, ys, e1, e2, ho1, hx1⟩ := HR.out.at_ hlt
      rw [marksSS_at xss k j xs e0] at e2
      obtain rfl := Option.some.inj e2
      obtain ⟨ad, hA, hc⟩ := HO.out.cell e1
      subst hA
      have hle : k + cntSS xss j + xs.length ≤ 1000000000 := by
        have h2 := cntSS_le xss (j + 1)
        rw [cntSS_step e0] at h2
        omega
      obtain ⟨A1, c1, rfl, hrow⟩ := ho1.row (marks_size (by omega))
      rw [marks_length] at hc e1
      have hc1 : wr.cell? (ad.add j) = _ := (HB.out.cell (World.block_lt_of_cell? w _ hc)).trans hc
      have HRO := Lib.hid (hrow.below HB.out)
      have HCS : Hid (cntSS xss (j + 1) = cntSS xss j + xs.length) := cntSS_step e0
      have hneg : ¬ ((k + cntSS xss j + xs.length : Nat) : Int) < 0 := by omega
      clear hrow ho1 e1 e0 hc
      go_wp2_with fail
      go_at_call 22
      refine (laws_heldStringS_calls A1 c1 xs.length (k + cntSS xss j) _ HRO.out (by omega) (by omega)).mono ?_
      rintro e w1 ⟨rfl, hb⟩
      have HB1 := Lib.hid (HB.out.trans (hb.mono HB.out.size))
      clear hb
      go_wp2
      go_roundw
      case rel => first | exact ⟨j + 1, by omega, by go_num, congrArg (Value.int .i64) (by have := HCS.out; omega), HB1.out⟩ | (repeat (first | (refine ⟨?relx, rfl⟩; exact ⟨j + 1, by omega, by go_num, congrArg (Value.int .i64) (by have := HCS.out; omega), HB1.out⟩) | (refine ⟨?relx, ?eqs⟩; (case eqs => (and_intros <;> rfl)); exact ⟨j + 1, by omega, by go_num, congrArg (Value.int .i64) (by have := HCS.out; omega), HB1.out⟩) | apply Exists.intro))
      case measure => simp [intOf]; omega
    · obtain rfl : j = vs.length := by omega
      go_wp2
      go_ret
      exact ⟨ret_int (by rw [HL.out]), HB.out⟩
end Go.Proofs.YtanpkomifhbhnaaDoor
