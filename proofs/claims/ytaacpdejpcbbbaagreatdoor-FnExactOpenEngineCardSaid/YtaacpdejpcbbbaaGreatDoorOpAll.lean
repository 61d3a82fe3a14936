/- The walk of the law FnExactOpenEngine: whatever the disk and the room, it returns true. The table facts of FnExactOpenEngine's row. -/
import Derived.Test.YtaacpdejpcbbbaaGreatDoorOpnAll
import Derived.Test.YtaacpdejpcbbbaaGreatDoorSpecAll
import Derived.Test.YtaacpdejpcbbbaaGreatDoorMarkAll
import Derived.Test.YtaacpdejpcbbbaaGreatDoorDecAll
import Derived.Test.YtaacpdejpcbbbaaGreatDoorDiskAll
namespace Go.Proofs.YtaacpdejpcbbbaaGreatDoor
set_option linter.unusedVariables false
set_option linter.unusedSimpArgs false
open Go.RowKit
attribute [local go_sem] bs_size List.length_cons List.length_nil

/-- The law's box. -/
abbrev W6 (w : World) (A : Option Addr) (n c : Nat) : World := w.alloc (.cells #[.slice A n c] 24)
structure LD (w : World) (A : Option Addr) (n c : Nat) (W : World) : Prop where
  b : Below (W6 w A n c).heap.size (W6 w A n c) W
section
variable {w W W' : World} {A : Option Addr} {n c : Nat}
theorem LD.go (h : LD w A n c W) (hb : Below W.heap.size W W') : LD w A n c W' := ⟨h.b.trans (hb.mono h.b.size)⟩
theorem LD.from_ (h : LD w A n c W) : Below w.heap.size w W := ((Below.refl _ _).alloc (Nat.le_refl _) _).trans (h.b.mono (by simp))
theorem LD.cell (h : LD w A n c W) : W.cell? ⟨w.heap.size, 0, none⟩ = some (.slice A n c) := (h.b.cell (by simp)).trans (blk_cell (blk_new w _) 0)
theorem LD.size (h : LD w A n c W) : w.heap.size + 1 ≤ W.heap.size := by have := h.b.size; simpa using this
theorem LD.grown {row : Option Nat} (h : LD w A n c W) (hg : W.grownBy W' row) (hr : ∀ k, row = some k → w.heap.size + 1 ≤ k) : LD w A n c W' := ⟨h.b.grown hg h.b.size fun k e => by have := hr k e; simpa using this⟩
end
/-- The law's boxes: its disk's, the reference's engine's, the copy's, the program's engine's. -/
structure LZ (w : World) (A : Option Addr) (n c gw gx gg : Nat) (Ew Ex Eg : Array Value) (W : World) : Prop where
  d : LD w A n c W
  bw : W.heap[gw]? = some (.cells Ew 35 (0, 0))
  bx : W.heap[gx]? = some (.cells Ex 32 (0, 0))
  bg : W.heap[gg]? = some (.cells Eg 35 (0, 0))
section
variable {w W W' : World} {A : Option Addr} {n c gw gx gg : Nat} {Ew Ex Eg : Array Value}
theorem LZ.go (h : LZ w A n c gw gx gg Ew Ex Eg W) (hb : Below W.heap.size W W') : LZ w A n c gw gx gg Ew Ex Eg W' := ⟨h.d.go hb, blk_below h.bw hb, blk_below h.bx hb, blk_below h.bg hb⟩
theorem LZ.kept {r : Option Nat} (h : LZ w A n c gw gx gg Ew Ex Eg W) (hg : W.grownBy W' r) (hr : ∀ k, r = some k → w.heap.size + 1 ≤ k ∧ k ≠ gw ∧ k ≠ gx ∧ k ≠ gg) : LZ w A n c gw gx gg Ew Ex Eg W' :=
  ⟨h.d.grown hg fun k e => (hr k e).1, (hg.block _ (blk_lt h.bw) (fun e => (hr _ e.symm).2.1 rfl)).trans h.bw, (hg.block _ (blk_lt h.bx) (fun e => (hr _ e.symm).2.2.1 rfl)).trans h.bx, (hg.block _ (blk_lt h.bg) (fun e => (hr _ e.symm).2.2.2 rfl)).trans h.bg⟩
end
/-- The rows of an opened engine and its acts, made from block B on, ahead of block T. -/
structure R3 (B T : Nat) (A : Option Addr) (c : Nat) (F : List FiD) (Ad : Option Addr) (cd : Nat) (D : List SpotD) (Aa : Option Addr) (ca : Nat) (S : List ActD) (n m k : Nat) (W : World) : Prop where
  fi : FiOwn W B (.slice A n c) F
  sp : SpOwn W B (.slice Ad m cd) D
  ac : AcOwn W B (.slice Aa k ca) S
  lt : (∀ j, (Value.slice A n c).ownBlock = some j → j < T) ∧ (∀ j, (Value.slice Ad m cd).ownBlock = some j → j < T) ∧ (∀ j, (Value.slice Aa k ca).ownBlock = some j → j < T)
section
variable {B T : Nat} {A : Option Addr} {c : Nat} {F : List FiD} {Ad : Option Addr} {cd : Nat} {D : List SpotD} {Aa : Option Addr} {ca : Nat} {S : List ActD} {n m k : Nat} {W W' : World}
theorem R3.go (h : R3 B T A c F Ad cd D Aa ca S n m k W) (hb : Below W.heap.size W W') : R3 B T A c F Ad cd D Aa ca S n m k W' := ⟨h.fi.below hb, h.sp.below' hb, h.ac.below hb, h.lt⟩
theorem own_kept {sz n B : Nat} {Te : TypeId} {v : Value} {fl : List Value} {r : Option Nat} {w w' : World} (h : w.ownsRow B Te sz v n fl) (hg : w.grownBy w' r) (hr : ∀ k, r = some k → v.ownBlock ≠ some k) : w'.ownsRow B Te sz v n fl := by
  refine World.ownsRow.kept h hg ?_
  cases hv : v.ownBlock with
  | none => exact .inl rfl
  | some k => exact .inr fun e => hr k e.symm hv
theorem R3.kept {r : Option Nat} (h : R3 B T A c F Ad cd D Aa ca S n m k W) (hg : W.grownBy W' r) (hr : ∀ j, r = some j → T ≤ j ∨ j < B) : R3 B T A c F Ad cd D Aa ca S n m k W' :=
  ⟨own_kept h.fi hg fun j e e2 => by have := hr j e; have h1 := h.lt.1 j e2; have h2 := (h.fi.lt j e2).1; omega,
   own_kept h.sp hg fun j e e2 => by have := hr j e; have h1 := h.lt.2.1 j e2; have h2 := (h.sp.lt j e2).1; omega,
   own_kept h.ac hg fun j e e2 => by have := hr j e; have h1 := h.lt.2.2 j e2; have h2 := (h.ac.lt j e2).1; omega, h.lt⟩
end
theorem fi_row' {w : World} {B n c : Nat} {A : Option Addr} {F : List FiD} (h : FiOwn w B (.slice A n c) F) (hs : ∀ x ∈ F, x.1.size ≤ 9223372036854775807 ∧ x.2.1.size ≤ 9223372036854775807) : FiRow w A c F := by
  obtain ⟨A', c', e, hr⟩ := h.row hs
  injection e with e1 e2 e3
  subst e1 e3
  exact hr
theorem sp_row' {w : World} {B n c : Nat} {A : Option Addr} {D : List SpotD} (h : SpOwn w B (.slice A n c) D) (hs : ∀ x ∈ D, x.1.size ≤ 9223372036854775807) : SpRow w A c D := by
  obtain ⟨A', c', e, hr⟩ := h.row hs
  injection e with e1 e2 e3
  subst e1 e3
  exact hr
theorem ac_row' {w : World} {B n c : Nat} {A : Option Addr} {S : List ActD} (h : AcOwn w B (.slice A n c) S) : AcRow w A c S := by
  obtain ⟨A', c', e, hr⟩ := h.row
  injection e with e1 e2 e3
  subst e1 e3
  exact hr
theorem keepK {W W' : World} {a b : Addr} {x y : Value} (h : W.cell? a = some x ∧ W.cell? b = some y) (hb : Below W.heap.size W W') : W'.cell? a = some x ∧ W'.cell? b = some y ∧ Hid (Below W.heap.size W W') := ⟨(hb.cell (World.block_lt_of_cell? W _ h.1)).trans h.1, (hb.cell (World.block_lt_of_cell? W _ h.2)).trans h.2, hb⟩
set_option maxHeartbeats 16000000 in
set_option maxRecDepth 100000 in
theorem walk_FnExactOpenEngine (A : Option Addr) (c : Nat) (fs : List FiD) (room : Int) (w : World) (h : FiRow w A c fs) (hr1 : -9223372036854775808 ≤ room) (hr2 : room ≤ 9223372036854775807) (hP : Pow w ∧ Sent w) :
    Calls Tryz.prog 7 #[.agg #[.slice A fs.length c], .int .i64 room] w fun e w' => e = .returned (.bool true) ∧ Below w.heap.size w w' := by
  have HF := Lib.hid h
  have HPE := Lib.hid hP
  have HV : Hid (LD w A fs.length c (W6 w A fs.length c)) := ⟨Below.refl _ _⟩
  have p0 := HV.out.cell
  have hosm := open_small fs room
  have huni : ∀ W e W', OpenPost W (openB fs room) e W' → ∃ A c Ad cd Aa ca, e = .returned (.tuple #[.agg (engC A (openE (openB fs room)).1.length c (openE (openB fs room)).2.1 (openE (openB fs room)).2.2.1 (openE (openB fs room)).2.2.2.1 Ad (openE (openB fs room)).2.2.2.2.length cd), .slice Aa (openA (openB fs room)).length ca, .bool (openB fs room).isSome]) ∧ FiOwn W' W.heap.size (.slice A (openE (openB fs room)).1.length c) (openE (openB fs room)).1 ∧ SpOwn W' W.heap.size (.slice Ad (openE (openB fs room)).2.2.2.2.length cd) (openE (openB fs room)).2.2.2.2 ∧ AcOwn W' W.heap.size (.slice Aa (openA (openB fs room)).length ca) (openA (openB fs room)) ∧ Below W.heap.size W W' := fun W e W' h => open_uni h
  have HSP := Lib.hid (fun b W V => spec_OpenEngine_calls b fs.length fs room W V)
  have HIM := Lib.hid (fun b W V1 V2 V3 => impl_OpenEngine_calls (some ⟨b, 0, none⟩) fs.length fs room W V1 (.inr ⟨b, rfl⟩) V2 V3)
  generalize openB fs room = o at hosm huni HSP HIM
  generalize openE o = E at hosm huni
  generalize openA o = AS at hosm huni
  generalize o.isSome = ob at huni
  obtain ⟨F, rm, ac, sq, D⟩ := E
  dsimp only at hosm huni
  obtain ⟨hFl, hFs, hDl, hDs, hAl⟩ := hosm
  have HUNI := Lib.hid huni
  have HFS := Lib.hid hFs
  have HDS := Lib.hid hDs
  have hbb : (ob != ob) = false := by simp
  clear h hP huni hFs hDs
  go_enter Tryz.func7, Tryz.ntmps7
  go_wp2_with fail
  go_at_call 19
  refine (laws_szDisk_calls A c fs 1048576 _ (HF.out.below HV.out.from_) (by omega) (by omega)).mono ?_
  rintro e w1 ⟨⟨r, rfl, hr⟩, hb⟩
  have HV1 := Lib.hid (HV.out.go hb)
  clear hb p0
  rcases hr with hr | ⟨hr0, hr1, hr2⟩
  · go_wp2
    go_ret
    exact ⟨rfl, HV1.out.from_⟩
  · have HN : Hid (fs.length ≤ 1048576) := by rw [Hid]; omega
    have hfn : 1 + fs.length * 3 ≤ 1000000000 := by omega
    have p0 := HV1.out.cell
    go_wp2_with fail
    go_at_call 21
    refine (laws_toDisk_calls A c fs _ (HF.out.below HV1.out.from_) HN.out).mono ?_
    rintro e w2 ⟨b2, rfl, hrow2, hb2⟩
    have HV2 := Lib.hid (HV1.out.go hb2)
    have HR2 := Lib.hid hrow2
    clear hb2 hrow2 p0
    go_wp2_with fail
    go_at_call 20
    refine (HSP.out b2 _ HR2.out).mono ?_
    intro e w3 hp
    obtain ⟨Aw, cw, Adw, cdw, Aaw, caw, rfl, hf3, hs3, ha3, hb3⟩ := HUNI.out _ _ _ hp
    have HV3 := Lib.hid (HV2.out.go hb3)
    have HAL3 : Hid (Below w3.heap.size w3 (w3.alloc (.cells (engC Aw F.length cw rm ac sq Adw D.length cdw) 35))) := (Below.refl _ _).alloc (Nat.le_refl _) _
    have HV3A := Lib.hid (HV3.out.go HAL3.out)
    have HR3 : Hid (R3 (w.heap.size + 1) w3.heap.size Aw cw F Adw cdw D Aaw caw AS F.length D.length AS.length (w3.alloc (.cells (engC Aw F.length cw rm ac sq Adw D.length cdw) 35))) := by
      have hz := HV2.out.size
      exact R3.go ⟨hf3.mono hz, hs3.mono hz, ha3.mono hz, fun j e => (hf3.lt j e).2, fun j e => (hs3.lt j e).2, fun j e => (ha3.lt j e).2⟩ HAL3.out
    have HBW : Hid ((w3.alloc (.cells (engC Aw F.length cw rm ac sq Adw D.length cdw) 35)).heap[w3.heap.size]? = some (.cells (engC Aw F.length cw rm ac sq Adw D.length cdw) 35 (0, 0))) := blk_new _ _
    have HZ3 : Hid ((w3.alloc (.cells (engC Aw F.length cw rm ac sq Adw D.length cdw) 35)).heap.size = w3.heap.size + 1) := by rw [Hid]; simp
    have p0 := HV3A.out.cell
    clear hp hf3 hs3 ha3 hb3 HV1 HV2 HR2 HV HSP
    go_wp2_with fail
    generalize w3.alloc (.cells (engC Aw F.length cw rm ac sq Adw D.length cdw) 35) = W3 at HAL3 HV3A HR3 HBW HZ3 p0 ⊢
    go_at_call 21
    refine (laws_toDisk_own A c fs _ (HF.out.below HV3A.out.from_) HN.out).mono ?_
    rintro e w4 ⟨b4, rfl, hb40, hrow4, hfb4, hb4⟩
    have HAL : Hid (Below w4.heap.size w4 (w4.alloc (.cells #[.slice (some ⟨b4, 0, none⟩) fs.length fs.length] 32))) := (Below.refl _ _).alloc (Nat.le_refl _) _
    have HV4 := Lib.hid ((HV3A.out.go hb4).go HAL.out)
    have HR4 := Lib.hid ((HR3.out.go hb4).go HAL.out)
    have HBW4 := Lib.hid (blk_below (blk_below HBW.out hb4) HAL.out)
    have HROW4 := Lib.hid (hrow4.below HAL.out)
    have HFB4 := Lib.hid (hfb4.below HAL.out)
    have HBX4 : Hid ((w4.alloc (.cells #[.slice (some ⟨b4, 0, none⟩) fs.length fs.length] 32)).heap[w4.heap.size]? = some (.cells #[.slice (some ⟨b4, 0, none⟩) fs.length fs.length] 32 (0, 0))) := blk_new _ _
    have HNUM : Hid (w.heap.size + 1 ≤ w3.heap.size ∧ w3.heap.size + 1 ≤ b4 ∧ b4 < w4.heap.size) := ⟨HV3.out.size, by rw [← HZ3.out]; exact hb40, hfb4.lt⟩
    have HWS : Hid ((w4.alloc (.cells #[.slice (some ⟨b4, 0, none⟩) fs.length fs.length] 32)).heap.size = w4.heap.size + 1) := by rw [Hid]; simp
    clear hb4 hrow4 hfb4 hb40 p0 HV3 HV3A HR3 HBW HAL3 HZ3
    have x0 := blk_cell HBX4.out 0
    go_wp2_with fail
    generalize w4.alloc (.cells #[.slice (some ⟨b4, 0, none⟩) fs.length fs.length] 32) = W4 at HAL HV4 HR4 HBW4 HROW4 HFB4 HBX4 HWS x0 ⊢
    go_at_call 22
    refine (HIM.out b4 _ HROW4.out (HPE.out.1.below HV4.out.from_) (sentC HPE.out.2 HV4.out.from_)).mono ?_
    intro e w5 hp
    obtain ⟨Ag, cg, Adg, cdg, Aag, cag, rfl, hf5, hs5, ha5, hb5⟩ := HUNI.out _ _ _ hp
    have HAL5 : Hid (Below w5.heap.size w5 (w5.alloc (.cells (engC Ag F.length cg rm ac sq Adg D.length cdg) 35))) := (Below.refl _ _).alloc (Nat.le_refl _) _
    have HBX5 := Lib.hid (blk_below (blk_below HBX4.out hb5) HAL5.out)
    have HZ5 : Hid (LZ w A fs.length c w3.heap.size w4.heap.size w5.heap.size (engC Aw F.length cw rm ac sq Adw D.length cdw) #[.slice (some ⟨b4, 0, none⟩) fs.length fs.length] (engC Ag F.length cg rm ac sq Adg D.length cdg) (w5.alloc (.cells (engC Ag F.length cg rm ac sq Adg D.length cdg) 35))) := ⟨(HV4.out.go hb5).go HAL5.out, blk_below (blk_below HBW4.out hb5) HAL5.out, HBX5.out, blk_new _ _⟩
    have HRW5 := Lib.hid ((HR4.out.go hb5).go HAL5.out)
    have HRG5 : Hid (R3 (w4.heap.size + 1) w5.heap.size Ag cg F Adg cdg D Aag cag AS F.length D.length AS.length (w5.alloc (.cells (engC Ag F.length cg rm ac sq Adg D.length cdg) 35))) := by
      have hz : w4.heap.size + 1 ≤ W4.heap.size := by rw [HWS.out]; exact Nat.le_refl _
      exact R3.go ⟨hf5.mono hz, hs5.mono hz, ha5.mono hz, fun j e => (hf5.lt j e).2, fun j e => (hs5.lt j e).2, fun j e => (ha5.lt j e).2⟩ HAL5.out
    have HNUM5 : Hid (w4.heap.size + 1 ≤ w5.heap.size) := by have := hb5.size; rw [HWS.out] at this; exact this
    have HROW5 := Lib.hid ((HROW4.out.below hb5).below HAL5.out)
    have HFB5 := Lib.hid ((HFB4.out.below hb5).below HAL5.out)
    clear hp hf5 hs5 ha5 hb5 x0 HV4 HR4 HBW4 HROW4 HFB4 HBX4 HAL HBX5
    have kw0 := blk_cell HZ5.out.bw 0
    have kw1 := blk_cell HZ5.out.bw 1
    have kw2 := blk_cell HZ5.out.bw 2
    have kw3 := blk_cell HZ5.out.bw 3
    have kw4 := blk_cell HZ5.out.bw 4
    have kg0 := blk_cell HZ5.out.bg 0
    have kg1 := blk_cell HZ5.out.bg 1
    have kg2 := blk_cell HZ5.out.bg 2
    have kg3 := blk_cell HZ5.out.bg 3
    have kg4 := blk_cell HZ5.out.bg 4
    go_wp2_with fail
    generalize w5.alloc (.cells (engC Ag F.length cg rm ac sq Adg D.length cdg) 35) = W5 at HAL5 HZ5 HRW5 HRG5 HROW5 HFB5 kw0 kw1 kw2 kw3 kw4 kg0 kg1 kg2 kg3 kg4 ⊢
    go_at_call 12
    refine (laws_eqEngine_calls Ag Aw Adg Adw cg cw cdg cdw F rm ac sq D _ (fi_row' HRG5.out.fi HFS.out) (fi_row' HRW5.out.fi HFS.out) (sp_row' HRG5.out.sp HDS.out) (sp_row' HRW5.out.sp HDS.out)).mono ?_
    rintro e w6 ⟨rfl, hb⟩
    have HZ6 := Lib.hid (HZ5.out.go hb)
    have HRW6 := Lib.hid (HRW5.out.go hb)
    have HRG6 := Lib.hid (HRG5.out.go hb)
    have HBB6 := Lib.hid hb
    clear hb
    go_wp2_with fail
    go_at_call 23
    refine (laws_eqActS_calls Aag cag Aaw caw AS _ (ac_row' HRG6.out.ac) (ac_row' HRW6.out.ac)).mono ?_
    rintro e w7 ⟨rfl, hb⟩
    have HZ7 := Lib.hid (HZ6.out.go hb)
    have HRW7 := Lib.hid (HRW6.out.go hb)
    have HRG7 := Lib.hid (HRG6.out.go hb)
    have HBB7 := Lib.hid (HBB6.out.trans (hb.mono HBB6.out.size))
    clear hb HZ5 HRW5 HRG5 HZ6 HRW6 HRG6 HBB6
    have HROW7 := Lib.hid (HROW5.out.below HBB7.out)
    have HFB7 := Lib.hid (HFB5.out.below HBB7.out)
    clear HROW5 HFB5 HBB7
    clear kw0 kw1 kw2 kw3 kw4 kg0 kg1 kg2 kg3 kg4
    have q0 := blk_cell HZ7.out.bx 0
    have q1 := HZ7.out.d.cell
    have HC9 : Hid (w7.cell? ⟨w4.heap.size, 0, none⟩ = some (.slice (some ⟨b4, 0, none⟩) fs.length fs.length) ∧ w7.cell? ⟨w.heap.size, 0, none⟩ = some (.slice A fs.length c)) := ⟨q0, q1⟩
    have HBD : Hid (Below w7.heap.size w7 w7.drew) := Below.drew (Below.refl _ _)
    clear q0 q1
    go_wp2_with fail
    go_region_held3 (fun w' => w'.cell? ⟨w4.heap.size, 0, none⟩ = some (.slice (some ⟨b4, 0, none⟩) fs.length fs.length) ∧ w'.cell? ⟨w.heap.size, 0, none⟩ = some (.slice A fs.length c) ∧ Hid (Below w7.heap.size w7 w')) (first | exact keepK HC9.out HBD.out | exact keepK HC9.out (HBD.out.trans (hb10.mono HBD.out.size)) | exact keepK HC9.out ((HBD.out.trans (hb10.mono HBD.out.size)).trans (hb11.mono (HBD.out.trans (hb10.mono HBD.out.size)).size))) (first | (go_at_call 21; refine (laws_toDisk_calls A c fs _ (HF.out.below (HZ7.out.go HBD.out).d.from_) HN.out).mono ?_; rintro e w10 ⟨b10, rfl, hrow10, hb10⟩) | (go_at_call 24; refine (laws_eqDisk_calls _ _ _ _ fs _ (HROW7.out.below (HBD.out.trans (hb10.mono HBD.out.size))) hrow10).mono ?_; rintro e w11 ⟨rfl, hb11⟩))
    have HB11 := (‹_ ∧ _ ∧ Hid (Below w7.heap.size w7 _)›).2.2
    have HZ11 := Lib.hid (HZ7.out.go HB11.out)
    have HRW11 := Lib.hid (HRW7.out.go HB11.out)
    have HRG11 := Lib.hid (HRG7.out.go HB11.out)
    have HFB11 := Lib.hid (HFB7.out.below HB11.out)
    have q0 := blk_cell HZ11.out.bx 0
    clear hb10 hb11 hrow10 HC9 HBD HB11 HZ7 HRW7 HRG7 HROW7 HFB7
    go_wp2_with fail
    go_at_call 25
    refine (laws_markDisk_calls b4 fs.length 1 _ HFB11.out (by omega) hfn).mono ?_
    rintro e w12 ⟨rfl, hg12⟩
    have HZ12 := Lib.hid (HZ11.out.kept hg12 (fun k e => by have h1 := HNUM.out; have h2 := HNUM5.out; have h3 : b4 = k := Option.some.inj e; omega))
    have HRW12 := Lib.hid (HRW11.out.kept hg12 (fun k e => by have h1 := HNUM.out; have h3 : b4 = k := Option.some.inj e; omega))
    have HRG12 := Lib.hid (HRG11.out.kept hg12 (fun k e => by have h1 := HNUM.out; have h3 : b4 = k := Option.some.inj e; omega))
    have hneg : ¬ ((1 + fs.length * 3 : Nat) : Int) < 0 := by omega
    have hneg2 : ¬ (1 + (fs.length : Int) * 3) < 0 := by omega
    clear hg12 q0 HZ11 HRW11 HRG11 HFB11
    have kw0 := blk_cell HZ12.out.bw 0
    have kw1 := blk_cell HZ12.out.bw 1
    have kw2 := blk_cell HZ12.out.bw 2
    have kw3 := blk_cell HZ12.out.bw 3
    have kw4 := blk_cell HZ12.out.bw 4
    have kg0 := blk_cell HZ12.out.bg 0
    have kg1 := blk_cell HZ12.out.bg 1
    have kg2 := blk_cell HZ12.out.bg 2
    have kg3 := blk_cell HZ12.out.bg 3
    have kg4 := blk_cell HZ12.out.bg 4
    go_wp2_with fail
    go_at_call 12
    refine (laws_eqEngine_calls Ag Aw Adg Adw cg cw cdg cdw F rm ac sq D _ (fi_row' HRG12.out.fi HFS.out) (fi_row' HRW12.out.fi HFS.out) (sp_row' HRG12.out.sp HDS.out) (sp_row' HRW12.out.sp HDS.out)).mono ?_
    rintro e w13 ⟨rfl, hb⟩
    have HZ13 := Lib.hid (HZ12.out.go hb)
    have HRW13 := Lib.hid (HRW12.out.go hb)
    have HRG13 := Lib.hid (HRG12.out.go hb)
    have HBB13 := Lib.hid hb
    clear hb
    go_wp2_with fail
    go_at_call 23
    refine (laws_eqActS_calls Aag cag Aaw caw AS _ (ac_row' HRG13.out.ac) (ac_row' HRW13.out.ac)).mono ?_
    rintro e w14 ⟨rfl, hb⟩
    have HZ14 := Lib.hid (HZ13.out.go hb)
    have HRW14 := Lib.hid (HRW13.out.go hb)
    have HRG14 := Lib.hid (HRG13.out.go hb)
    have HBB14 := Lib.hid (HBB13.out.trans (hb.mono HBB13.out.size))
    clear hb HZ12 HRW12 HRG12 HZ13 HRW13 HRG13 HBB13
    clear HBB14 hneg hneg2
    clear kw0 kw1 kw2 kw3 kw4 kg0 kg1 kg2 kg3 kg4
    have kg0 := blk_cell HZ14.out.bg 0
    have kg1 := blk_cell HZ14.out.bg 1
    have kg2 := blk_cell HZ14.out.bg 2
    have kg3 := blk_cell HZ14.out.bg 3
    have kg4 := blk_cell HZ14.out.bg 4
    go_wp2_with fail
    go_at_call 26
    refine (laws_markEngine_calls _ _ _ F D rm ac sq 1 _ HRG14.out.fi HRG14.out.sp (by omega) (by omega)).mono ?_
    rintro e w16 ⟨rfl, hf16, hs16, w15, hg15, hg16⟩
    have HRI : Hid (∀ k, (Value.slice Ag F.length cg).ownBlock = some k → w4.heap.size + 1 ≤ k ∧ k < w5.heap.size) := fun k e => ⟨(HRG14.out.fi.lt k e).1, HRG14.out.lt.1 k e⟩
    have HRJ : Hid (∀ k, (Value.slice Adg D.length cdg).ownBlock = some k → w4.heap.size + 1 ≤ k ∧ k < w5.heap.size) := fun k e => ⟨(HRG14.out.sp.lt k e).1, HRG14.out.lt.2.1 k e⟩
    have HRK : Hid (∀ k, (Value.slice Aag AS.length cag).ownBlock = some k → w4.heap.size + 1 ≤ k ∧ k < w5.heap.size) := fun k e => ⟨(HRG14.out.ac.lt k e).1, HRG14.out.lt.2.2 k e⟩
    have HZ16 := Lib.hid ((HZ14.out.kept hg15 (fun k e => by have h0 := HRI.out k e; have h1 := HNUM.out; omega)).kept hg16 (fun k e => by have h0 := HRJ.out k e; have h1 := HNUM.out; omega))
    have HRW16 := Lib.hid ((HRW14.out.kept hg15 (fun k e => by have h0 := HRI.out k e; have h1 := HNUM.out; omega)).kept hg16 (fun k e => by have h0 := HRJ.out k e; have h1 := HNUM.out; omega))
    have HA15 : Hid (AcOwn w15 (w4.heap.size + 1) (.slice Aag AS.length cag) AS) := own_aside HRG14.out.ac HRG14.out.fi (by decide) hg15
    have HS15 : Hid (SpOwn w15 (w4.heap.size + 1) (.slice Adg D.length cdg) D) := own_aside HRG14.out.sp HRG14.out.fi (by decide) hg15
    have HA16 : Hid (AcOwn w16 (w4.heap.size + 1) (.slice Aag AS.length cag) AS) := own_aside HA15.out HS15.out (by decide) hg16
    have HF16 := Lib.hid hf16
    have HS16 := Lib.hid hs16
    clear hf16 hs16 hg15 hg16 HA15 HS15 HRG14 HRW14 HZ14
    clear kg0 kg1 kg2 kg3 kg4
    go_wp2_with fail
    go_at_call 27
    have HMA : Hid (∀ W, AcOwn W (w4.heap.size + 1) (.slice Aag AS.length cag) AS → Calls Tryz.prog 27 #[.slice Aag AS.length cag, .int .i64 ((1 + F.length * 3 + D.length * 4 : Nat) : Int)] W (MarkedAct W (w4.heap.size + 1) (.slice Aag AS.length cag) (1 + F.length * 3 + D.length * 4) AS.length)) := fun W h => laws_markActS_own _ _ AS _ W h (by omega) (by omega)
    refine (HMA.out _ HA16.out).mono ?_
    rintro e w17 ⟨rfl, ha17, hg17⟩
    have HZ17 := Lib.hid (HZ16.out.kept hg17 (fun k e => by have h0 := HRK.out k e; have h1 := HNUM.out; omega))
    have HRW17 := Lib.hid (HRW16.out.kept hg17 (fun k e => by have h0 := HRK.out k e; have h1 := HNUM.out; omega))
    have HF17 : Hid (FiOwn w17 (w4.heap.size + 1) (.slice Ag F.length cg) (marksFile 1 F.length)) := own_aside HF16.out HA16.out (by decide) hg17
    have HS17 : Hid (SpOwn w17 (w4.heap.size + 1) (.slice Adg D.length cdg) (marksSp (1 + F.length * 3) D.length)) := own_aside HS16.out HA16.out (by decide) hg17
    have HRM : Hid (R3 (w4.heap.size + 1) w5.heap.size Ag cg (marksFile 1 F.length) Adg cdg (marksSp (1 + F.length * 3) D.length) Aag cag (marksAct (1 + F.length * 3 + D.length * 4) AS.length) F.length D.length AS.length w17) := ⟨HF17.out, HS17.out, ha17, fun k e => (HRI.out k e).2, fun k e => (HRJ.out k e).2, fun k e => (HRK.out k e).2⟩
    have HFM : Hid (∀ x ∈ marksFile 1 F.length, x.1.size ≤ 9223372036854775807 ∧ x.2.1.size ≤ 9223372036854775807) := marksFile_small (by omega)
    have HDM : Hid (∀ x ∈ marksSp (1 + F.length * 3) D.length, x.1.size ≤ 9223372036854775807) := marksSp_small (by omega)
    have m1 : ¬ ((1 + F.length * 3 + D.length * 4 : Nat) : Int) < 0 := by omega
    have m2 : ¬ (1 + (F.length : Int) * 3 + (D.length : Int) * 4) < 0 := by omega
    have m3 : ¬ ((1 + F.length * 3 + D.length * 4 + AS.length * 4 : Nat) : Int) < 0 := by omega
    have m4 : ¬ (1 + (F.length : Int) * 3 + (D.length : Int) * 4 + (AS.length : Int) * 4) < 0 := by omega
    have m5 : (((1 + F.length * 3 + D.length * 4 + AS.length * 4 : Nat) : Int) != ((1 + F.length * 3 + D.length * 4 + AS.length * 4 : Nat) : Int)) = false := by simp
    have m6 : ((1 + (F.length : Int) * 3 + (D.length : Int) * 4 + (AS.length : Int) * 4) != (1 + (F.length : Int) * 3 + (D.length : Int) * 4 + (AS.length : Int) * 4)) = false := by simp
    have HHE : Hid (∀ W, R3 (w4.heap.size + 1) w5.heap.size Ag cg (marksFile 1 F.length) Adg cdg (marksSp (1 + F.length * 3) D.length) Aag cag (marksAct (1 + F.length * 3 + D.length * 4) AS.length) F.length D.length AS.length W → Calls Tryz.prog 28 #[.agg (engC Ag F.length cg rm ac sq Adg D.length cdg), .int .i64 1] W fun e w' => e = .returned (.int .i64 ((1 + F.length * 3 + D.length * 4 : Nat) : Int)) ∧ Below W.heap.size W w') := fun W h => laws_heldEngine_calls Ag Adg cg cdg F.length D.length rm ac sq 1 W (fi_row' h.fi HFM.out) (sp_row' h.sp HDM.out) (by omega) (by omega)
    have HHA : Hid (∀ W, R3 (w4.heap.size + 1) w5.heap.size Ag cg (marksFile 1 F.length) Adg cdg (marksSp (1 + F.length * 3) D.length) Aag cag (marksAct (1 + F.length * 3 + D.length * 4) AS.length) F.length D.length AS.length W → Calls Tryz.prog 29 #[.slice Aag AS.length cag, .int .i64 ((1 + F.length * 3 + D.length * 4 : Nat) : Int)] W fun e w' => e = .returned (.int .i64 ((1 + F.length * 3 + D.length * 4 + AS.length * 4 : Nat) : Int)) ∧ Below W.heap.size W w') := fun W h => laws_heldActS_calls Aag cag AS.length _ W (ac_row' h.ac) (by omega) (by omega)
    clear ha17 hg17 HF16 HS16 HA16 HZ16 HRW16 HF17 HS17 HRI HRJ HRK HMA
    have kg0 := blk_cell HZ17.out.bg 0
    have kg1 := blk_cell HZ17.out.bg 1
    have kg2 := blk_cell HZ17.out.bg 2
    have kg3 := blk_cell HZ17.out.bg 3
    have kg4 := blk_cell HZ17.out.bg 4
    go_wp2_with fail
    go_at_call 28
    refine (HHE.out _ HRM.out).mono ?_
    rintro e w18 ⟨rfl, hb⟩
    have HZ18 := Lib.hid (HZ17.out.go hb)
    have HRM18 := Lib.hid (HRM.out.go hb)
    have HRW18 := Lib.hid (HRW17.out.go hb)
    clear hb kg0 kg1 kg2 kg3 kg4
    go_wp2_with fail
    go_at_call 29
    refine (HHA.out _ HRM18.out).mono ?_
    rintro e w19 ⟨rfl, hb⟩
    have HZ19 := Lib.hid (HZ18.out.go hb)
    have HRM19 := Lib.hid (HRM18.out.go hb)
    have HRW19 := Lib.hid (HRW18.out.go hb)
    clear hb HZ17 HRM HRW17 HZ18 HRM18 HRW18
    have p0 := HZ19.out.d.cell
    go_wp2_with fail
    go_at_call 21
    refine (laws_toDisk_calls A c fs _ (HF.out.below HZ19.out.d.from_) HN.out).mono ?_
    rintro e w20 ⟨b20, rfl, hrow20, hb20⟩
    have HZ20 := Lib.hid (HZ19.out.go hb20)
    have HRM20 := Lib.hid (HRM19.out.go hb20)
    have HRW20 := Lib.hid (HRW19.out.go hb20)
    have HROW20 := Lib.hid hrow20
    clear hb20 hrow20 p0 HZ19 HRM19 HRW19
    go_wp2_with fail
    go_at_call 22
    refine (HIM.out b20 _ HROW20.out (HPE.out.1.below HZ20.out.d.from_) (sentC HPE.out.2 HZ20.out.d.from_)).mono ?_
    intro e w21 hp
    obtain ⟨Ah, ch, Adh, cdh, Aah, cah, rfl, hf21, hs21, ha21, hb21⟩ := HUNI.out _ _ _ hp
    have HAL21 : Hid (Below w21.heap.size w21 (w21.alloc (.cells (engC Ah F.length ch rm ac sq Adh D.length cdh) 35))) := (Below.refl _ _).alloc (Nat.le_refl _) _
    have HZ21 := Lib.hid ((HZ20.out.go hb21).go HAL21.out)
    have HRM21 := Lib.hid ((HRM20.out.go hb21).go HAL21.out)
    have HRW21 := Lib.hid ((HRW20.out.go hb21).go HAL21.out)
    have HF21 := Lib.hid (hf21.below HAL21.out)
    have HS21 := Lib.hid (hs21.below' HAL21.out)
    have HA21 := Lib.hid (ha21.below HAL21.out)
    have HBH : Hid ((w21.alloc (.cells (engC Ah F.length ch rm ac sq Adh D.length cdh) 35)).heap[w21.heap.size]? = some (.cells (engC Ah F.length ch rm ac sq Adh D.length cdh) 35 (0, 0))) := blk_new _ _
    have h0 := blk_cell HBH.out 0
    have h1 := blk_cell HBH.out 1
    have h2 := blk_cell HBH.out 2
    have h3 := blk_cell HBH.out 3
    have h4 := blk_cell HBH.out 4
    clear hp hf21 hs21 ha21 hb21 HZ20 HRM20 HRW20 HROW20
    have kw0 := blk_cell HZ21.out.bw 0
    have kw1 := blk_cell HZ21.out.bw 1
    have kw2 := blk_cell HZ21.out.bw 2
    have kw3 := blk_cell HZ21.out.bw 3
    have kw4 := blk_cell HZ21.out.bw 4
    go_wp2_with fail
    go_at_call 12
    refine (laws_eqEngine_calls Ah Aw Adh Adw ch cw cdh cdw F rm ac sq D _ (fi_row' HF21.out HFS.out) (fi_row' HRW21.out.fi HFS.out) (sp_row' HS21.out HDS.out) (sp_row' HRW21.out.sp HDS.out)).mono ?_
    rintro e w22 ⟨rfl, hb⟩
    have HZ22 := Lib.hid (HZ21.out.go hb)
    have HRM22 := Lib.hid (HRM21.out.go hb)
    have HRW22 := Lib.hid (HRW21.out.go hb)
    have HA22 := Lib.hid (HA21.out.below hb)
    clear hb h0 h1 h2 h3 h4 HF21 HS21 HA21 HBH HAL21 HZ21 HRM21 HRW21
    clear kw0 kw1 kw2 kw3 kw4
    go_wp2_with fail
    go_at_call 23
    refine (laws_eqActS_calls Aah cah Aaw caw AS _ (ac_row' HA22.out) (ac_row' HRW22.out.ac)).mono ?_
    rintro e w23 ⟨rfl, hb⟩
    have HZ23 := Lib.hid (HZ22.out.go hb)
    have HRM23 := Lib.hid (HRM22.out.go hb)
    have HRW23 := Lib.hid (HRW22.out.go hb)
    clear hb HA22 HZ22 HRM22 HRW22
    have kg0 := blk_cell HZ23.out.bg 0
    have kg1 := blk_cell HZ23.out.bg 1
    have kg2 := blk_cell HZ23.out.bg 2
    have kg3 := blk_cell HZ23.out.bg 3
    have kg4 := blk_cell HZ23.out.bg 4
    go_wp2_with fail
    go_at_call 28
    refine (HHE.out _ HRM23.out).mono ?_
    rintro e w24 ⟨rfl, hb⟩
    have HZ24 := Lib.hid (HZ23.out.go hb)
    have HRM24 := Lib.hid (HRM23.out.go hb)
    have HRW24 := Lib.hid (HRW23.out.go hb)
    clear hb kg0 kg1 kg2 kg3 kg4
    go_wp2_with fail
    go_at_call 29
    refine (HHA.out _ HRM24.out).mono ?_
    rintro e w25 ⟨rfl, hb⟩
    have HZ25 := Lib.hid (HZ24.out.go hb)
    have HRM25 := Lib.hid (HRM24.out.go hb)
    have HRW25 := Lib.hid (HRW24.out.go hb)
    clear hb HZ23 HRM23 HRW23 HZ24 HRM24 HRW24
    go_wp2
    go_ret
    exact ⟨rfl, HZ25.out.d.from_⟩
end Go.Proofs.YtaacpdejpcbbbaaGreatDoor

namespace Go.Proofs.YtaacpdejpcbbbaaGreatDoor
set_option linter.unusedVariables false
set_option linter.unusedSimpArgs false
open Go.RowKit
theorem laid_FnExactOpenEngine {W : World} (h : laidMetH Tryz.prog Rows.fnExactOpenEngineRow.laid W) : Pow W ∧ Sent W := by
  rw [MakeChecks.laidMetH_plain _ _ _ (by kernel_rfl)] at h
  exact ⟨pow_of_laid h.tail.tail, sent_of_laid h.tail.tail.tail⟩
end Go.Proofs.YtaacpdejpcbbbaaGreatDoor
