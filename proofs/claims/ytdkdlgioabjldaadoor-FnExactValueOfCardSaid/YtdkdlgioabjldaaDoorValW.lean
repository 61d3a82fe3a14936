/- The walk of the law FnExactValueOf: whatever the disk and the spot, it returns true. -/
import Derived.Test.YtdkdlgioabjldaaDoorDiskM
import Derived.Test.YtdkdlgioabjldaaDoorPowLaid
namespace Go.Proofs.YtdkdlgioabjldaaDoor
set_option linter.unusedVariables false
set_option linter.unusedSimpArgs false
open Go.RowKit
attribute [local go_sem] bs_size List.length_cons List.length_nil List.length_append

/-- The law's two boxes. -/
abbrev W4 (w : World) (A : Option Addr) (n c : Nat) (key : ByteArray) (seg at_ sq : Int) : World := (w.alloc (.cells #[.slice A n c] 40)).alloc (.cells #[.string key, .int .i64 seg, .int .i64 at_, .int .i64 sq] 42)
structure VG (w : World) (A : Option Addr) (n c : Nat) (key : ByteArray) (seg at_ sq : Int) (W : World) : Prop where
  b : Below (W4 w A n c key seg at_ sq).heap.size (W4 w A n c key seg at_ sq) W
section
variable {w W W' : World} {A : Option Addr} {n c : Nat} {key : ByteArray} {seg at_ sq : Int}
theorem VG.go (h : VG w A n c key seg at_ sq W) (hb : Below W.heap.size W W') : VG w A n c key seg at_ sq W' := ⟨h.b.trans (hb.mono h.b.size)⟩
theorem VG.drew (h : VG w A n c key seg at_ sq W) : VG w A n c key seg at_ sq W.drew := h.go (Below.drew (Below.refl _ _))
theorem VG.from_ (h : VG w A n c key seg at_ sq W) : Below w.heap.size w W := (((Below.refl _ _).alloc (Nat.le_refl _) _).alloc (by simp) _).trans (h.b.mono (by simp; omega))
theorem VG.all (h : VG w A n c key seg at_ sq W) : W.cell? ⟨w.heap.size, 0, none⟩ = some (.slice A n c) ∧ W.cell? ⟨w.heap.size + 1, 0, none⟩ = some (.string key) ∧ W.cell? ⟨w.heap.size + 1, 1, none⟩ = some (.int .i64 seg) ∧ W.cell? ⟨w.heap.size + 1, 2, none⟩ = some (.int .i64 at_) ∧ W.cell? ⟨w.heap.size + 1, 3, none⟩ = some (.int .i64 sq) ∧ Hid (VG w A n c key seg at_ sq W) := by
  have e : (w.alloc (.cells #[.slice A n c] 40)).heap.size = w.heap.size + 1 := by simp
  have hs : (W4 w A n c key seg at_ sq).heap[w.heap.size + 1]? = some (.cells #[.string key, .int .i64 seg, .int .i64 at_, .int .i64 sq] 42) := by rw [← e]; exact blk_new _ _
  have hd : (W4 w A n c key seg at_ sq).cell? ⟨w.heap.size, 0, none⟩ = some (.slice A n c) := cell_new (blk_cell (blk_new w _) 0) _
  have hW := blk_below hs h.b
  exact ⟨(h.b.cell (by simp; omega)).trans hd, blk_cell hW 0, blk_cell hW 1, blk_cell hW 2, blk_cell hW 3, h⟩
end
theorem vg_start (w : World) (A : Option Addr) (n c : Nat) (key : ByteArray) (seg at_ sq : Int) : VG w A n c key seg at_ sq (W4 w A n c key seg at_ sq) := ⟨Below.refl _ _⟩
/-- The copied disk beside them. -/
structure VX (w : World) (A : Option Addr) (n c : Nat) (key : ByteArray) (seg at_ sq : Int) (gx b : Nat) (fs : List FiD) (W : World) : Prop where
  v : VG w A n c key seg at_ sq W
  x : W.heap[gx]? = some (.cells #[.slice (some ⟨b, 0, none⟩) fs.length fs.length] 48)
  row : FiRow W (some ⟨b, 0, none⟩) fs.length fs
section
variable {w W W' : World} {A : Option Addr} {n c : Nat} {key : ByteArray} {seg at_ sq : Int} {gx b : Nat} {fs : List FiD}
theorem VX.go (h : VX w A n c key seg at_ sq gx b fs W) (hb : Below W.heap.size W W') : VX w A n c key seg at_ sq gx b fs W' := ⟨h.v.go hb, blk_below h.x hb, h.row.below hb⟩
theorem VX.drew (h : VX w A n c key seg at_ sq gx b fs W) : VX w A n c key seg at_ sq gx b fs W.drew := h.go (Below.drew (Below.refl _ _))
theorem VX.all (h : VX w A n c key seg at_ sq gx b fs W) : W.cell? ⟨gx, 0, none⟩ = some (.slice (some ⟨b, 0, none⟩) fs.length fs.length) ∧ W.cell? ⟨w.heap.size, 0, none⟩ = some (.slice A n c) ∧ W.cell? ⟨w.heap.size + 1, 0, none⟩ = some (.string key) ∧ W.cell? ⟨w.heap.size + 1, 1, none⟩ = some (.int .i64 seg) ∧ W.cell? ⟨w.heap.size + 1, 2, none⟩ = some (.int .i64 at_) ∧ W.cell? ⟨w.heap.size + 1, 3, none⟩ = some (.int .i64 sq) ∧ Hid (VX w A n c key seg at_ sq gx b fs W) := ⟨blk_cell h.x 0, h.v.all.1, h.v.all.2.1, h.v.all.2.2.1, h.v.all.2.2.2.1, h.v.all.2.2.2.2.1, h⟩
end
set_option maxHeartbeats 4000000 in
set_option maxRecDepth 100000 in
theorem walk_FnExactValueOf (A : Option Addr) (c : Nat) (fs : List FiD) (key : ByteArray) (seg at_ sq : Int) (w : World) (h : FiRow w A c fs) (hk : key.size ≤ 9223372036854775807) (hP : Pow w) :
    Calls Tryd.prog 4 #[.agg #[.slice A fs.length c], .agg #[.string key, .int .i64 seg, .int .i64 at_, .int .i64 sq]] w fun e w' => e = .returned (.bool true) ∧ Below w.heap.size w w' := by
  have HF := Lib.hid h
  have HPW := Lib.hid hP
  have HV := Lib.hid (vg_start w A fs.length c key seg at_ sq)
  clear h hP
  obtain ⟨t, okb, hres, _, _⟩ := fiUni (valOfB fs key seg at_ sq)
  have HRES := Lib.hid hres
  clear hres
  have q1 : (okb != okb) = false := by simp
  have q2 : (t.toList != t.toList) = false := by simp
  obtain ⟨p0, p1, p2, p3, p4, _⟩ := HV.out.all
  go_enter Tryd.func4, Tryd.ntmps4
  go_wp2_with fail
  go_at_call 12
  refine (laws_szDisk_calls A c fs 1048576 _ (HF.out.below HV.out.from_) (by omega) (by omega)).mono ?_
  rintro e w1 ⟨⟨r, rfl, hr⟩, hb⟩
  have HV1 := Lib.hid (HV.out.go hb)
  clear hb p0 p1 p2 p3 p4
  rcases hr with hr | ⟨hr0, hr1, hr2⟩
  · go_wp2
    go_ret
    exact ⟨rfl, HV1.out.from_⟩
  · obtain ⟨p0, p1, p2, p3, p4, _⟩ := HV1.out.all
    go_wp2_with fail
    go_at_call 13
    refine (laws_szSpot_calls key seg at_ sq r _ hr0 hr1 hk).mono ?_
    rintro e w2 ⟨⟨r', rfl, hr'⟩, hb⟩
    have HV2 := Lib.hid (HV1.out.go hb)
    clear hb p0 p1 p2 p3 p4
    rcases hr' with hr' | ⟨hr0', _, _⟩
    · go_wp2
      go_ret
      exact ⟨rfl, HV2.out.from_⟩
    · have HN : Hid (fs.length ≤ 1048576) := by rw [Hid]; omega
      have HV3 := Lib.hid HV2.out.drew
      go_wp2_with fail
      go_region_held3 (fun w' => w'.cell? ⟨w.heap.size, 0, none⟩ = some (.slice A fs.length c) ∧ w'.cell? ⟨w.heap.size + 1, 0, none⟩ = some (.string key) ∧ w'.cell? ⟨w.heap.size + 1, 1, none⟩ = some (.int .i64 seg) ∧ w'.cell? ⟨w.heap.size + 1, 2, none⟩ = some (.int .i64 at_) ∧ w'.cell? ⟨w.heap.size + 1, 3, none⟩ = some (.int .i64 sq) ∧ Hid (VG w A fs.length c key seg at_ sq w')) (first | exact HV3.out.all | exact (HV3.out.go hb5).all | exact ((HV3.out.go hb5).go hb6).all | exact (((HV3.out.go hb5).go hb6).go hb7).all) (first | (go_at_call 15; refine (laws_toDisk_calls A c fs _ (HF.out.below HV3.out.from_) HN.out).mono ?_; rintro e w5 ⟨b5, rfl, hrow5, hb5⟩) | (go_at_call 16; refine (laws_toSpot_calls key seg at_ sq _).mono ?_; rintro e w6 ⟨rfl, hb6⟩) | (go_at_call 14; refine (spec_ValueOf_calls _ _ fs key seg at_ sq _ (hrow5.below hb6)).mono ?_; rw [HRES.out]; rintro e w7 ⟨rfl, hb7⟩))
      have HV7 := (‹_ ∧ _ ∧ _ ∧ _ ∧ _ ∧ Hid (VG w A fs.length c key seg at_ sq _)›).2.2.2.2.2
      obtain ⟨p0, p1, p2, p3, p4, _⟩ := HV7.out.all
      clear hb5 hb6 hb7 hrow5
      go_wp2_with fail
      go_at_call 15
      refine (laws_toDisk_calls A c fs _ (HF.out.below HV7.out.from_) HN.out).mono ?_
      rintro e w8 ⟨b8, rfl, hrow8, hb8⟩
      have HAL : Hid (Below w8.heap.size w8 (w8.alloc (.cells #[.slice (some ⟨b8, 0, none⟩) fs.length fs.length] 48))) := (Below.refl _ _).alloc (Nat.le_refl _) _
      have HX : Hid (VX w A fs.length c key seg at_ sq w8.heap.size b8 fs (w8.alloc (.cells #[.slice (some ⟨b8, 0, none⟩) fs.length fs.length] 48))) := ⟨(HV7.out.go hb8).go HAL.out, blk_new _ _, hrow8.below HAL.out⟩
      have HX0 := Lib.hid HX.out.drew
      clear hb8 hrow8 p0 p1 p2 p3 p4
      go_wp2_with fail
      go_region_held3 (fun w' => w'.cell? ⟨w8.heap.size, 0, none⟩ = some (.slice (some ⟨b8, 0, none⟩) fs.length fs.length) ∧ w'.cell? ⟨w.heap.size, 0, none⟩ = some (.slice A fs.length c) ∧ w'.cell? ⟨w.heap.size + 1, 0, none⟩ = some (.string key) ∧ w'.cell? ⟨w.heap.size + 1, 1, none⟩ = some (.int .i64 seg) ∧ w'.cell? ⟨w.heap.size + 1, 2, none⟩ = some (.int .i64 at_) ∧ w'.cell? ⟨w.heap.size + 1, 3, none⟩ = some (.int .i64 sq) ∧ Hid (VX w A fs.length c key seg at_ sq w8.heap.size b8 fs w')) (first | exact HX0.out.all | exact (HX0.out.go hb6).all | exact ((HX0.out.go hb6).go hb7).all) (first | (go_at_call 16; refine (laws_toSpot_calls key seg at_ sq _).mono ?_; rintro e w6 ⟨rfl, hb6⟩) | (go_at_call 17; refine (impl_ValueOf_calls _ _ fs key seg at_ sq _ (HX0.out.go hb6).row (HPW.out.below (HX0.out.go hb6).v.from_)).mono ?_; rw [HRES.out]; rintro e w7 ⟨rfl, hb7⟩))
      have HX7 := (‹_ ∧ _ ∧ _ ∧ _ ∧ _ ∧ _ ∧ Hid (VX w A fs.length c key seg at_ sq w8.heap.size b8 fs _)›).2.2.2.2.2.2
      have HX9 := Lib.hid HX7.out.drew
      clear hb6 hb7
      go_wp2_with fail
      go_region_held3 (fun w' => w'.cell? ⟨w8.heap.size, 0, none⟩ = some (.slice (some ⟨b8, 0, none⟩) fs.length fs.length) ∧ w'.cell? ⟨w.heap.size, 0, none⟩ = some (.slice A fs.length c) ∧ w'.cell? ⟨w.heap.size + 1, 0, none⟩ = some (.string key) ∧ w'.cell? ⟨w.heap.size + 1, 1, none⟩ = some (.int .i64 seg) ∧ w'.cell? ⟨w.heap.size + 1, 2, none⟩ = some (.int .i64 at_) ∧ w'.cell? ⟨w.heap.size + 1, 3, none⟩ = some (.int .i64 sq) ∧ Hid (VX w A fs.length c key seg at_ sq w8.heap.size b8 fs w')) (first | exact HX9.out.all | exact (HX9.out.go hb10).all | exact ((HX9.out.go hb10).go hb11).all) (first | (go_at_call 15; refine (laws_toDisk_calls A c fs _ (HF.out.below HX9.out.v.from_) HN.out).mono ?_; rintro e w10 ⟨b10, rfl, hrow10, hb10⟩) | (go_at_call 18; refine (laws_eqDisk_calls _ _ _ _ fs _ (HX9.out.go hb10).row hrow10).mono ?_; rintro e w11 ⟨rfl, hb11⟩))
      have HX11 := (‹_ ∧ _ ∧ _ ∧ _ ∧ _ ∧ _ ∧ Hid (VX w A fs.length c key seg at_ sq w8.heap.size b8 fs _)›).2.2.2.2.2.2
      clear hb10 hb11 hrow10
      go_wp2
      go_ret
      exact ⟨rfl, HX11.out.v.from_⟩
end Go.Proofs.YtdkdlgioabjldaaDoor
