/- The laws' helpers on disks: toDisk, eqDisk. -/
import Derived.Test.YticnhfflppkpoaaGreatDoorDiskL
namespace Go.Proofs.YticnhfflppkpoaaGreatDoor
set_option linter.unusedVariables false
set_option linter.unusedSimpArgs false
open Go.RowKit
attribute [local go_sem] bs_size List.length_cons List.length_nil List.length_append

theorem FiRow.set {w : World} {b c g i : Nat} {fs : List FiD} {u : Value} (h : FiRow w (some ⟨b, 0, none⟩) c fs) (hne : b ≠ g) : FiRow (w.setCell ⟨g, i, none⟩ u) (some ⟨b, 0, none⟩) c fs :=
  ⟨h.1, h.2.1, h.2.2.1, fun hp => by
    obtain ⟨ad, e, hl, hc⟩ := h.2.2.2 hp
    cases e
    refine ⟨_, rfl, by simpa using hl, fun j x hx => ?_⟩
    obtain ⟨h0, h1, h2⟩ := hc j x hx
    rw [add_plain] at h0 h1 h2 ⊢
    have hb : (w.setCell ⟨g, i, none⟩ u).heap[b]? = w.heap[b]? := Below.heap_setCell w ⟨g, i, none⟩ u b (fun e => hne e)
    exact ⟨(World.cell?_of_block hb).trans h0, (World.cell?_of_block hb).trans h1, (World.cell?_of_block hb).trans h2⟩⟩
def DiskNew (w : World) (fs : List FiD) (e : Ending) (w' : World) : Prop := ∃ b, e = .returned (.agg #[.slice (some ⟨b, 0, none⟩) fs.length fs.length]) ∧ FiRow w' (some ⟨b, 0, none⟩) fs.length fs ∧ Below w.heap.size w w'
theorem und_disk : ∃ fs, Tryz.prog.underlying 29 = some (.struct fs) := ⟨_, Tryz.underlying29⟩
theorem info_dsk : (Tryz.prog.info? 29).map (·.size) = some 1 := by kernel_rfl
abbrev zDisk : Obj := .cells #[.slice none 0 0] 29
set_option maxRecDepth 100000 in
theorem laws_toDisk_calls (A : Option Addr) (c : Nat) (fs : List FiD) (w : World) (h : FiRow w A c fs) (hn : fs.length ≤ 1048576) :
    Calls Tryz.prog 7 #[.agg #[.slice A fs.length c]] w (DiskNew w fs) := by
  obtain ⟨fsx, hu⟩ := und_disk
  have s1 : (w.alloc (.cells #[.slice A fs.length c] 24)).heap.size = w.heap.size + 1 := by simp
  have s2 : ((w.alloc (.cells #[.slice A fs.length c] 24)).alloc zDisk).heap.size = w.heap.size + 1 + 1 := by simp
  have HAL : Hid (Below w.heap.size w (((w.alloc (.cells #[.slice A fs.length c] 24)).alloc zDisk).alloc zDisk)) := (((Below.refl _ _).alloc (Nat.le_refl _) _).alloc (by simp) _).alloc (by simp; omega) _
  have HR := Lib.hid (h.below HAL.out)
  have k1 : Hid ((((w.alloc (.cells #[.slice A fs.length c] 24)).alloc zDisk).alloc zDisk).heap[w.heap.size + 1]? = some zDisk) := by
    have := blk_new (w.alloc (.cells #[.slice A fs.length c] 24)) zDisk
    rw [s1] at this
    exact alloc_far this _
  have k2 : Hid ((((w.alloc (.cells #[.slice A fs.length c] 24)).alloc zDisk).alloc zDisk).heap[w.heap.size + 1 + 1]? = some zDisk) := by
    have := blk_new ((w.alloc (.cells #[.slice A fs.length c] 24)).alloc zDisk) zDisk
    rw [s2] at this
    exact this
  have HS : Hid ((((w.alloc (.cells #[.slice A fs.length c] 24)).alloc zDisk).alloc zDisk).heap.size = w.heap.size + 3) := by rw [Hid]; simp
  clear h s1 s2
  go_enter Tryz.func7, Tryz.ntmps7
  go_wp2_with fail
  go_at_call 19
  refine (laws_toFileS_calls A c fs _ HR.out hn).mono ?_
  rintro e w1 ⟨b, rfl, hb0, hrow, hb⟩
  have K1 := Lib.hid (blk_below k1.out hb)
  have K2 := Lib.hid (blk_below k2.out hb)
  have HROW := Lib.hid hrow
  have HB0 : Hid (w.heap.size + 3 ≤ b) := by rw [Hid, ← HS.out]; exact hb0
  have HB1 := Lib.hid (HAL.out.trans (hb.mono HAL.out.size))
  have f1 := blk_frozen K1.out 0
  have c1 := blk_cell K1.out 0
  have f2 := blk_frozen K2.out 0
  have c2 := blk_cell K2.out 0
  clear hb hb0 hrow
  go_wp2
  have hne : w.heap.size + 1 ≠ w.heap.size + 1 + 1 := by omega
  have hset : ((w1.setCell ⟨w.heap.size + 1 + 1, 0, none⟩ (.slice (some ⟨b, 0, none⟩) fs.length fs.length)).setCell ⟨w.heap.size + 1, 0, none⟩ (.slice (some ⟨b, 0, none⟩) fs.length fs.length)).heap[w.heap.size + 1]? = some (.cells #[.slice (some ⟨b, 0, none⟩) fs.length fs.length] 29 (0, 0)) := by
    rw [blk_set (set_far K1.out hne) 0]
    rfl
  have hb3 := HB0.out
  exact res_one rfl hset rfl hu info_dsk ⟨b, rfl, (HROW.out.set (by omega)).set (by omega), (HB1.out.setCell (by show w.heap.size ≤ w.heap.size + 1 + 1; omega) _).setCell (by show w.heap.size ≤ w.heap.size + 1; omega) _⟩
theorem laws_eqFile_calls (n t : ByteArray) (k : Int) (w : World) :
    Calls Tryz.prog 52 #[.agg #[.string n, .string t, .int .i64 k], .agg #[.string n, .string t, .int .i64 k]] w fun e w' => e = .returned (.bool true) ∧ Below w.heap.size w w' := by
  have e3 : (k != k) = false := by simp
  have e4 : (n.toList != n.toList) = false := by simp
  have e5 : (t.toList != t.toList) = false := by simp
  have HAL : Hid (Below w.heap.size w ((w.alloc (.cells #[.string n, .string t, .int .i64 k] 79)).alloc (.cells #[.string n, .string t, .int .i64 k] 79))) := ((Below.refl _ _).alloc (Nat.le_refl _) _).alloc (by simp) _
  go_enter Tryz.func52, Tryz.ntmps52
  go_wp2
  go_ret
  exact ⟨rfl, HAL.out⟩
theorem keep6 {w w' : World} {a b : Addr} {x0 x1 x2 : Value} (h : (w.cell? a = some x0 ∧ w.cell? ⟨a.block, a.off + 1, none⟩ = some x1 ∧ w.cell? ⟨a.block, a.off + 2, none⟩ = some x2) ∧ (w.cell? b = some x0 ∧ w.cell? ⟨b.block, b.off + 1, none⟩ = some x1 ∧ w.cell? ⟨b.block, b.off + 2, none⟩ = some x2)) (hb : Below w.heap.size w w') :
    (w'.cell? a = some x0 ∧ w'.cell? ⟨a.block, a.off + 1, none⟩ = some x1 ∧ w'.cell? ⟨a.block, a.off + 2, none⟩ = some x2) ∧ (w'.cell? b = some x0 ∧ w'.cell? ⟨b.block, b.off + 1, none⟩ = some x1 ∧ w'.cell? ⟨b.block, b.off + 2, none⟩ = some x2) ∧ Hid (Below w.heap.size w w') := by
  have k : ∀ {a v}, w.cell? a = some v → w'.cell? a = some v := fun h => (hb.cell (World.block_lt_of_cell? w _ h)).trans h
  exact ⟨⟨k h.1.1, k h.1.2.1, k h.1.2.2⟩, ⟨k h.2.1, k h.2.2.1, k h.2.2.2⟩, hb⟩
set_option maxHeartbeats 1000000 in
set_option maxRecDepth 100000 in
theorem laws_eqFileS_calls (A : Option Addr) (c : Nat) (A' : Option Addr) (c' : Nat) (fs : List FiD) (w : World) (h : FiRow w A c fs) (h' : FiRow w A' c' fs) :
    Calls Tryz.prog 24 #[.slice A fs.length c, .slice A' fs.length c'] w fun e w' => e = .returned (.bool true) ∧ Below w.heap.size w w' := by
  have hl := h.len
  have HR := Lib.hid h
  have HR' := Lib.hid h'
  have hb1 : ((fs.length : Int) != (fs.length : Int)) = false := by simp
  clear h h'
  go_enter Tryz.func24, Tryz.ntmps24
  go_wp2
  go_loopw [5] (fun iv wr => ∃ j : Nat, j ≤ fs.length ∧ iv = .int .i64 (j : Int) ∧ Below w.heap.size w wr) (fun iv _ => fs.length - (intOf iv).toNat)
  case atStart => exact ⟨0, Nat.zero_le _, rfl, Below.refl _ _⟩
  case round =>
    obtain ⟨j, hj, rfl, hbel⟩ := hrel
    have HB := Lib.hid hbel
    by_cases hlt : j < fs.length
    · obtain ⟨ad, x, hA, HX, _, _, hc0, hc1, hc2⟩ := (HR.out.below hbel).at_ hlt
      obtain ⟨ad', y, hA', HY, _, _, hd0, hd1, hd2⟩ := (HR'.out.below hbel).at_ hlt
      obtain rfl : x = y := Option.some.inj (HX.out.symm.trans HY.out)
      clear hbel
      cases hA
      cases hA'
      obtain ⟨n, t, k⟩ := x
      dsimp only at hc0 hc1 hc2 hd0 hd1 hd2
      have H6 := Lib.hid (And.intro (And.intro hc0 (And.intro hc1 hc2)) (And.intro hd0 (And.intro hd1 hd2)))
      have HH0 : Hid (Below wr.heap.size wr wr.drew) := Below.drew (Below.refl _ _)
      have hli : (j : Int) < (fs.length : Int) := by omega
      clear hc0 hc1 hc2 hd0 hd1 hd2
      go_wp2_with fail
      go_region_held3 (fun w' => (w'.cell? (ad.add (j * 3)) = some (.string n) ∧ w'.cell? ⟨(ad.add (j * 3)).block, (ad.add (j * 3)).off + 1, none⟩ = some (.string t) ∧ w'.cell? ⟨(ad.add (j * 3)).block, (ad.add (j * 3)).off + 2, none⟩ = some (.int .i64 k)) ∧ (w'.cell? (ad'.add (j * 3)) = some (.string n) ∧ w'.cell? ⟨(ad'.add (j * 3)).block, (ad'.add (j * 3)).off + 1, none⟩ = some (.string t) ∧ w'.cell? ⟨(ad'.add (j * 3)).block, (ad'.add (j * 3)).off + 2, none⟩ = some (.int .i64 k)) ∧ Hid (Below wr.heap.size wr w')) (first | exact keep6 H6.out HH0.out | exact keep6 H6.out (HH0.out.trans (hb.mono (Nat.le_refl _)))) (first | (go_at_call 52; refine (laws_eqFile_calls n t k _).mono ?_; rintro e w' ⟨rfl, hb⟩))
      have HK := And.right (And.right ‹_ ∧ _ ∧ Hid (Below wr.heap.size wr _)›)
      go_wp2
      go_roundw
      case rel => first | exact ⟨j + 1, by omega, by go_num, HB.out.trans (HK.out.mono HB.out.size)⟩ | (repeat (first | (refine ⟨?relx, rfl⟩; exact ⟨j + 1, by omega, by go_num, HB.out.trans (HK.out.mono HB.out.size)⟩) | (refine ⟨?relx, ?eqs⟩; (case eqs => (and_intros <;> rfl)); exact ⟨j + 1, by omega, by go_num, HB.out.trans (HK.out.mono HB.out.size)⟩) | apply Exists.intro))
      case measure => simp [intOf]; omega
    · obtain rfl : j = fs.length := by omega
      clear hbel
      go_wp2
      go_ret
      exact ⟨rfl, HB.out⟩
theorem laws_eqDisk_calls (A : Option Addr) (c : Nat) (A' : Option Addr) (c' : Nat) (fs : List FiD) (w : World) (h : FiRow w A c fs) (h' : FiRow w A' c' fs) :
    Calls Tryz.prog 9 #[.agg #[.slice A fs.length c], .agg #[.slice A' fs.length c']] w fun e w' => e = .returned (.bool true) ∧ Below w.heap.size w w' := by
  have HAL : Hid (Below w.heap.size w ((w.alloc (.cells #[.slice A fs.length c] 29)).alloc (.cells #[.slice A' fs.length c'] 29))) := ((Below.refl _ _).alloc (Nat.le_refl _) _).alloc (by simp) _
  have HR := Lib.hid (h.below HAL.out)
  have HR' := Lib.hid (h'.below HAL.out)
  clear h h'
  go_enter Tryz.func9, Tryz.ntmps9
  go_wp2_with fail
  go_at_call 24
  refine (laws_eqFileS_calls A c A' c' fs _ HR.out HR'.out).mono ?_
  rintro e w1 ⟨rfl, hb⟩
  have HB1 := Lib.hid (HAL.out.trans (hb.mono HAL.out.size))
  clear hb
  go_wp2
  go_ret
  exact ⟨rfl, HB1.out⟩
end Go.Proofs.YticnhfflppkpoaaGreatDoor
