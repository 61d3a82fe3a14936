/- Files of a disk: FileAt and SegName, the program's and the reference's. -/
import Derived.Test.YtaacpdejpcbbbaaGreatDoorFileA2
namespace Go.Proofs.YtaacpdejpcbbbaaGreatDoor
set_option linter.unusedVariables false
set_option linter.unusedSimpArgs false
open Go.RowKit
attribute [local go_sem] bs_size List.length_cons List.length_nil List.length_append

/-- The text of the first file of a name. -/
def fileB : List FiD → ByteArray → Option ByteArray
  | [], _ => none
  | x :: xs, n => if x.1 = n then some x.2.1 else fileB xs n
theorem fileB_at {n : ByteArray} : ∀ {fs : List FiD} {j : Nat} {x : FiD}, fs[j]? = some x → x.1 = n → (∀ i y, i < j → fs[i]? = some y → y.1 ≠ n) → fileB fs n = some x.2.1
  | [], j, x, h, _, _ => by simp at h
  | y :: ys, 0, x, h, hx, _ => by
    obtain rfl : y = x := by simpa using h
    unfold fileB
    rw [if_pos hx]
  | y :: ys, j + 1, x, h, hx, hn => by
    unfold fileB
    rw [if_neg (hn 0 y (by omega) rfl)]
    exact fileB_at (j := j) (by simpa using h) hx fun i z hi hz => hn (i + 1) z (by omega) (by simpa using hz)
theorem fileB_none {n : ByteArray} : ∀ {fs : List FiD}, (∀ (i : Nat) (y : FiD), fs[i]? = some y → y.1 ≠ n) → fileB fs n = none
  | [], _ => rfl
  | y :: ys, h => by
    unfold fileB
    rw [if_neg (h 0 y rfl)]
    exact fileB_none fun i z hz => h (i + 1) z (by simpa using hz)
theorem fileB_mem {n s : ByteArray} : ∀ {fs : List FiD}, fileB fs n = some s → ∃ x ∈ fs, x.2.1 = s
  | [], h => by cases h
  | y :: ys, h => by
    unfold fileB at h
    split at h
    · exact ⟨y, by simp, Option.some.inj h⟩
    · obtain ⟨x, hx, e⟩ := fileB_mem h
      exact ⟨x, by simp [hx], e⟩
def fiRes (o : Option ByteArray) : Value := match o with
  | none => .tuple #[.string ⟨#[]⟩, .bool false]
  | some s => .tuple #[.string s, .bool true]
/-- What the search for a file of a name gives. -/
def IxPost (fs : List FiD) (n : ByteArray) (r : Int) : Prop := (∃ j x, r = ((j : Nat) : Int) ∧ fs[j]? = some x ∧ x.1 = n ∧ fileB fs n = some x.2.1) ∨ (r = -1 ∧ fileB fs n = none)
theorem ix_neg {fs : List FiD} {n : ByteArray} (h : ∀ i y, i < fs.length → fs[i]? = some y → y.1 ≠ n) : IxPost fs n (-1) := .inr ⟨rfl, fileB_none fun i y hy => h i y (List.getElem?_eq_some_iff.1 hy).1 hy⟩
theorem ix_at {fs : List FiD} {n : ByteArray} {j : Nat} {x : FiD} (hj : fs[j]? = some x) (hx : x.1 = n) (h : ∀ i y, i < j → fs[i]? = some y → y.1 ≠ n) : IxPost fs n (j : Int) := .inl ⟨j, x, rfl, hj, hx, fileB_at hj hx h⟩
theorem ix_step {fs : List FiD} {n : ByteArray} {j : Nat} {x : FiD} (hj : fs[j]? = some x) (hx : x.1 ≠ n) (h : ∀ i y, i < j → fs[i]? = some y → y.1 ≠ n) : ∀ i y, i < j + 1 → fs[i]? = some y → y.1 ≠ n := fun i y hi hy => by
  by_cases e : i = j
  · subst e
    rw [hj] at hy
    cases hy
    exact hx
  · exact h i y (by omega) hy
theorem list_eq_no {a b : ByteArray} (h : a ≠ b) : (a.toList == b.toList) = false := beq_eq_false_iff_ne.mpr fun e => h (toList_inj.1 e)
theorem list_eq_yes (a : ByteArray) : (a.toList == a.toList) = true := by simp
set_option maxRecDepth 100000 in
theorem impl_fileAt1_calls (gp : Nat) (n t m : ByteArray) (k : Int) (w : World) (hc : w.cell? ⟨gp, 0, none⟩ = some (.string m)) (b : Bool) (hb : (n.toList == m.toList) = b) :
    Calls Tryz.prog 134 #[.agg #[.string n, .string t, .int .i64 k], .pointer (some ⟨gp, 0, none⟩)] w fun e w' => e = .returned (.bool b) ∧ Below w.heap.size w w' := by
  have h1 := cell_new hc (.cells #[.string n, .string t, .int .i64 k] 105)
  have HAL : Hid (Below w.heap.size w (w.alloc (.cells #[.string n, .string t, .int .i64 k] 105))) := (Below.refl _ _).alloc (Nat.le_refl _) _
  have HBB := Lib.hid hb
  clear hc hb
  go_enter Tryz.func134, Tryz.ntmps134
  go_wp2
  go_ret
  exact ⟨ret_bool HBB.out, HAL.out⟩
set_option maxRecDepth 100000 in
theorem index_File_calls (gp : Nat) (m : ByteArray) (A : Option Addr) (c : Nat) (fs : List FiD) (w : World) (h : FiRow w A c fs) (hc : w.cell? ⟨gp, 0, none⟩ = some (.string m)) :
    Calls Tryz.prog 133 #[.slice A fs.length c, .func (.func 134) #[] #[.pointer (some ⟨gp, 0, none⟩)]] w fun e w' => ∃ r : Int, e = .returned (.int .i64 r) ∧ IxPost fs m r ∧ Below w.heap.size w w' := by
  have hl := h.len
  have HR := Lib.hid h
  have HM := Lib.hid hc
  clear h hc
  go_enter Tryz.func133, Tryz.ntmps133
  go_wp2
  go_loopw [8] (fun iv wr => ∃ i : Nat, i ≤ fs.length ∧ iv = .int .i64 (i : Int) ∧ Hid (∀ j y, j < i → fs[j]? = some y → y.1 ≠ m) ∧ Hid (Below w.heap.size w wr)) (fun iv _ => fs.length - (intOf iv).toNat)
  case atStart => exact ⟨0, Nat.zero_le _, rfl, fun j y hj => by omega, Below.refl _ _⟩
  case round =>
    obtain ⟨i, hi, rfl, HT, HB⟩ := hrel
    by_cases hlt : i < fs.length
    · obtain ⟨ad, x, hA, HX, hz1, hz2, hc0, hc1, hc2⟩ := (HR.out.below HB.out).at_ hlt
      cases hA
      obtain ⟨n, t, k⟩ := x
      dsimp only at hz1 hz2 hc0 hc1 hc2
      have HM2 : Hid (wr.cell? ⟨gp, 0, none⟩ = some (.string m)) := (HB.out.cell (World.block_lt_of_cell? w _ HM.out)).trans HM.out
      by_cases hn : n = m
      · have HE := Lib.hid (ix_at HX.out hn HT.out)
        have HQ : Hid ((n.toList == m.toList) = true) := by rw [Hid, hn]; exact list_eq_yes m
        clear hn
        go_wp2_with fail
        go_at_call 134
        refine (impl_fileAt1_calls gp n t m k _ HM2.out true HQ.out).mono ?_
        rintro e w' ⟨rfl, hb⟩
        go_wp2
        go_ret
        exact ⟨_, rfl, HE.out, HB.out.trans (hb.mono HB.out.size)⟩
      · have HE := Lib.hid (ix_step HX.out hn HT.out)
        have HQ := Lib.hid (list_eq_no hn)
        clear hn
        go_wp2_with fail
        go_at_call 134
        refine (impl_fileAt1_calls gp n t m k _ HM2.out false HQ.out).mono ?_
        rintro e w' ⟨rfl, hb⟩
        have HB2 := Lib.hid (HB.out.trans (hb.mono HB.out.size))
        clear hb
        go_wp2
        go_roundw
        case rel => first | exact ⟨i + 1, by omega, by go_num, HE, HB2⟩ | (repeat (first | (refine ⟨?relx, rfl⟩; exact ⟨i + 1, by omega, by go_num, HE, HB2⟩) | (refine ⟨?relx, ?eqs⟩; (case eqs => (and_intros <;> rfl)); exact ⟨i + 1, by omega, by go_num, HE, HB2⟩) | apply Exists.intro))
        case measure => simp [intOf]; omega
    · obtain rfl : i = fs.length := by omega
      have HE := Lib.hid (ix_neg HT.out)
      go_wp2
      go_ret
      exact ⟨_, rfl, HE.out, HB.out⟩
set_option maxRecDepth 100000 in
theorem impl_fileAt_calls (m : ByteArray) (A : Option Addr) (c : Nat) (fs : List FiD) (w : World) (h : FiRow w A c fs) :
    Calls Tryz.prog 88 #[.agg #[.slice A fs.length c], .string m] w fun e w' => ∃ r : Int, e = .returned (.int .i64 r) ∧ IxPost fs m r ∧ Below w.heap.size w w' := by
  have hmf : ∀ (fn : Fn) (first cap : Array Value) (w : World), (Instr.makeFunc fn first cap).run Tryz.prog w = .ok (.func fn first cap) w := fun _ _ _ _ => rfl
  have HAL : Hid (Below w.heap.size w ((w.alloc (.cells #[.slice A fs.length c] 32)).alloc (.cells #[.string m] 9))) := ((Below.refl _ _).alloc (Nat.le_refl _) _).alloc (by simp) _
  have HR := Lib.hid (h.below HAL.out)
  have hc0 : ((w.alloc (.cells #[.slice A fs.length c] 32)).alloc (.cells #[.string m] 9)).cell? ⟨w.heap.size, 0, none⟩ = some (.slice A fs.length c) := cell_new (blk_cell (blk_new w _) 0) _
  have HC1 : Hid (((w.alloc (.cells #[.slice A fs.length c] 32)).alloc (.cells #[.string m] 9)).cell? ⟨(w.alloc (.cells #[.slice A fs.length c] 32)).heap.size, 0, none⟩ = some (.string m)) := blk_cell (blk_new _ _) 0
  have hsz : (w.alloc (.cells #[.slice A fs.length c] 32)).heap.size = w.heap.size + 1 := by simp
  clear h
  go_enter Tryz.func88, Tryz.ntmps88
  go_wp2_with fail
  go_at_call 133
  refine (index_File_calls _ m A c fs _ HR.out (by first | exact HC1.out | (rw [← hsz]; exact HC1.out))).mono ?_
  rintro e w' ⟨r, rfl, hr, hb⟩
  go_wp2
  go_ret
  exact ⟨r, rfl, hr, HAL.out.trans (hb.mono HAL.out.size)⟩
set_option maxRecDepth 100000 in
theorem impl_FileAt_calls (m : ByteArray) (A : Option Addr) (c : Nat) (fs : List FiD) (w : World) (h : FiRow w A c fs) :
    Calls Tryz.prog 39 #[.agg #[.slice A fs.length c], .string m] w fun e w' => e = .returned (fiRes (fileB fs m)) ∧ Below w.heap.size w w' := by
  have HAL : Hid (Below w.heap.size w (w.alloc (.cells #[.slice A fs.length c] 32))) := (Below.refl _ _).alloc (Nat.le_refl _) _
  have HR := Lib.hid (h.below HAL.out)
  have hl := h.len
  have hc0 : (w.alloc (.cells #[.slice A fs.length c] 32)).cell? ⟨w.heap.size, 0, none⟩ = some (.slice A fs.length c) := blk_cell (blk_new w _) 0
  clear h
  go_enter Tryz.func39, Tryz.ntmps39
  go_wp2_with fail
  go_at_call 88
  refine (impl_fileAt_calls m A c fs _ HR.out).mono ?_
  rintro e w' ⟨r, rfl, hr, hb⟩
  have HB := Lib.hid (HAL.out.trans (hb.mono HAL.out.size))
  have HR2 := Lib.hid (HR.out.below hb)
  have hc1 : w'.cell? ⟨w.heap.size, 0, none⟩ = some (.slice A fs.length c) := (hb.cell (by simp)).trans hc0
  clear hb hc0
  rcases hr with ⟨j, x, rfl, hj, hx, hf⟩ | ⟨rfl, hf⟩
  · have hjl := (List.getElem?_eq_some_iff.1 hj).1
    obtain ⟨ad, y, hA, HY, _, _, _, hd1, _⟩ := HR2.out.at_ hjl
    obtain rfl : x = y := Option.some.inj (hj.symm.trans HY.out)
    cases hA
    have HF := Lib.hid hf
    clear hf hj hx
    go_wp2
    go_ret2
    exact ⟨by rw [HF.out]; rfl, HB.out⟩
  · have HF := Lib.hid hf
    clear hf
    go_wp2
    go_ret2
    exact ⟨by rw [HF.out]; rfl, HB.out⟩
end Go.Proofs.YtaacpdejpcbbbaaGreatDoor
