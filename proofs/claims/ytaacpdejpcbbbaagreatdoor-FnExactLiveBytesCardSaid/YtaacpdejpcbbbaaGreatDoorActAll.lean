/- impl.DoAct: what the kinds of acts share. impl.DoAct: a text is added. impl.DoAct: a file is kept. impl.DoAct: a file is dropped. impl.DoAct: a file is moved. Opening a disk: plain. impl.DoAct of any act of ours; impl.DoActs. Where what is right of a segment ends: plain. Engines in memory. -/
import Derived.Test.YtaacpdejpcbbbaaGreatDoorDiskAll
import Derived.Test.YtaacpdejpcbbbaaGreatDoorSegAll
namespace Go.Proofs.YtaacpdejpcbbbaaGreatDoor
set_option linter.unusedVariables false
set_option linter.unusedSimpArgs false
open Go.RowKit
attribute [local go_sem] bs_size List.length_cons List.length_nil List.length_append

/-- What an act gives: a disk of the call's own, or none. -/
def ActPost (w : World) (o : Option (List FiD)) (e : Ending) (w' : World) : Prop := Below w.heap.size w w' ∧ match o with
  | none => e = .returned (.tuple #[.agg #[.slice none 0 0], .bool false])
  | some fs => ∃ v, e = .returned (.tuple #[.agg #[v], .bool true]) ∧ FiOwn w' w.heap.size v fs
/-- The boxes of the disk, of the act and of the result. -/
abbrev WA (w : World) (v : Value) (a : ActD) : World := ((w.alloc (.cells #[v] 32)).alloc (.cells #[.int .i64 a.1, .string a.2.1, .string a.2.2.1, .string a.2.2.2] 96)).alloc (.cells #[.slice none 0 0] 32)
structure DA (w : World) (v : Value) (a : ActD) (W : World) : Prop where
  b : Below w.heap.size w W
  s : w.heap.size + 3 ≤ W.heap.size
  d : W.heap[w.heap.size]? = some (.cells #[v] 32 (0, 0))
  a : W.heap[w.heap.size + 1]? = some (.cells #[.int .i64 a.1, .string a.2.1, .string a.2.2.1, .string a.2.2.2] 96 (0, 0))
  r : W.heap[w.heap.size + 2]? = some (.cells #[.slice none 0 0] 32 (0, 0))
section
variable {w W W' : World} {v : Value} {a : ActD}
theorem DA.start (w : World) (v : Value) (a : ActD) : DA w v a (WA w v a) := by
  have h1 := blk_new w (.cells #[v] 32)
  have h2 := blk_new (w.alloc (.cells #[v] 32)) (.cells #[.int .i64 a.1, .string a.2.1, .string a.2.2.1, .string a.2.2.2] 96)
  have h3 := blk_new ((w.alloc (.cells #[v] 32)).alloc (.cells #[.int .i64 a.1, .string a.2.1, .string a.2.2.1, .string a.2.2.2] 96)) (.cells #[.slice none 0 0] 32)
  have s1 : (w.alloc (.cells #[v] 32)).heap.size = w.heap.size + 1 := by simp
  have s2 : ((w.alloc (.cells #[v] 32)).alloc (.cells #[.int .i64 a.1, .string a.2.1, .string a.2.2.1, .string a.2.2.2] 96)).heap.size = w.heap.size + 2 := by simp
  rw [s1] at h2
  rw [s2] at h3
  exact ⟨(((Below.refl _ w).alloc (Nat.le_refl _) _).alloc (by simp) _).alloc (by simp; omega) _, by simp, gr_old (gr_old h1 _) _, gr_old h2 _, h3⟩
theorem DA.go (h : DA w v a W) (hb : Below W.heap.size W W') : DA w v a W' := ⟨h.b.trans (hb.mono h.b.size), Nat.le_trans h.s hb.size, blk_below h.d hb, blk_below h.a hb, blk_below h.r hb⟩
theorem DA.alloc (h : DA w v a W) (o : Obj) : DA w v a (W.alloc o) := h.go ((Below.refl _ _).alloc (Nat.le_refl _) _)
theorem DA.drew (h : DA w v a W) : DA w v a W.drew := h.go (Below.drew (Below.refl _ _))
theorem DA.kp {q : Nat} {r : Option Nat} (h : DA w v a W) (hk : Kp W W' q r) (hq : w.heap.size + 3 ≤ q) (hr : ∀ k, r = some k → w.heap.size + 3 ≤ k) : DA w v a W' := by
  have hs := h.s
  exact ⟨hk.below h.b h.b.size (by omega) (fun k e => by have := hr k e; omega), Nat.le_trans hs hk.size,
    (hk.block _ (by omega) (by omega) (fun e => by have := hr _ e.symm; omega)).trans h.d, (hk.block _ (by omega) (by omega) (fun e => by have := hr _ e.symm; omega)).trans h.a, (hk.block _ (by omega) (by omega) (fun e => by have := hr _ e.symm; omega)).trans h.r⟩
theorem DA.set {q i : Nat} (h : DA w v a W) (x : Value) (hq : w.heap.size + 3 ≤ q) : DA w v a (W.setCell ⟨q, i, none⟩ x) := h.kp (q := q) (r := none) (Kp.grown (World.grownBy.refl W none) x i) hq (fun k e => by cases e)
end
theorem act_bad {fn : Func} {w W : World} {v : Value} {a : ActD} {o : Option (List FiD)} {tmps : Array Value} (hf : fn.results = #[.cell 4 32, .tmp 5]) (h : DA w v a W) (ho : o = none) (hp : tmps.getD 4 undef = .pointer (some ⟨w.heap.size + 2, 0, none⟩)) (h5 : tmps.getD 5 undef = .bool false) :
    bodyPost Tryz.prog fn (fun e w' => ActPost w o e w') .ret ⟨tmps, []⟩ (W.setCell ⟨w.heap.size + 2, 0, none⟩ (.slice none 0 0)) := by
  subst ho
  obtain ⟨fx, hu⟩ := und_dskP
  have hs := h.s
  exact res_box1 hf (g := w.heap.size + 2) (cs := #[.slice none 0 0]) (by rw [blk_set h.r]; rfl) hp hu info_dskP _ h5 ⟨h.b.setCell (p := ⟨w.heap.size + 2, 0, none⟩) (by show w.heap.size ≤ w.heap.size + 2; omega) _, rfl⟩
theorem act_good {fn : Func} {w W : World} {v v' : Value} {a : ActD} {o : Option (List FiD)} {fs : List FiD} {tmps : Array Value} (hf : fn.results = #[.cell 4 32, .tmp 5]) (h : DA w v a W) (hown : FiOwn W (w.heap.size + 3) v' fs) (ho : o = some fs) (hp : tmps.getD 4 undef = .pointer (some ⟨w.heap.size + 2, 0, none⟩)) (h5 : tmps.getD 5 undef = .bool true) :
    bodyPost Tryz.prog fn (fun e w' => ActPost w o e w') .ret ⟨tmps, []⟩ (W.setCell ⟨w.heap.size + 2, 0, none⟩ v') := by
  subst ho
  obtain ⟨fx, hu⟩ := und_dskP
  have hs := h.s
  refine res_box1 hf (g := w.heap.size + 2) (cs := #[v']) (by rw [blk_set h.r]; rfl) hp hu info_dskP _ h5 ⟨h.b.setCell (p := ⟨w.heap.size + 2, 0, none⟩) (by show w.heap.size ≤ w.heap.size + 2; omega) _, v', rfl, ?_⟩
  exact FiOwn.mono (hown.kept (gr_set W (w.heap.size + 2) 0 v') fun k e => by cases e; omega) (by omega)
theorem act_no {fs : List FiD} {a : ActD} (h : diskOkB fs = false) : doActB fs a = none := by
  unfold doActB actOk
  rw [h]
  simp
theorem ix_look {fs : List FiD} {n : ByteArray} {r : Int} (hs : Ris fs) (h : IxPost fs n r) : (∃ (j : Nat) (x : FiD), r = (j : Int) ∧ fs[j]? = some x ∧ x.1 = n ∧ lookF fs n = some x) ∨ (r = -1 ∧ lookF fs n = none) := by
  rcases h with ⟨j, x, hr, hj, hx, _⟩ | ⟨hr, hn⟩
  · exact .inl ⟨j, x, hr, hj, hx, by rw [← hx]; exact look_at hs hj⟩
  · exact .inr ⟨hr, look_none hn⟩
theorem sm_put {fs : List FiD} {x : FiD} (h : ∀ y ∈ fs, y.1.size ≤ 9223372036854775807 ∧ y.2.1.size ≤ 9223372036854775807) (hx : x.1.size ≤ 9223372036854775807 ∧ x.2.1.size ≤ 9223372036854775807) : ∀ y ∈ putF fs x, y.1.size ≤ 9223372036854775807 ∧ y.2.1.size ≤ 9223372036854775807 := by
  intro y hy
  rcases putF_mem hy with h1 | rfl
  · exact h y h1
  · exact hx
theorem act_put {w W w' : World} {v v3 : Value} {a : ActD} {q : Nat} {fs fs' : List FiD} {e : Ending} (h : DA w v a W) (hqs : w.heap.size + 3 ≤ q) (ho : FiOwn W (w.heap.size + 3) v3 fs) (hp : PutPost W (w.heap.size + 3) q v3 fs' e w') (hsm : ∀ y ∈ fs', y.1.size ≤ 9223372036854775807 ∧ y.2.1.size ≤ 9223372036854775807) :
    e = .returned (.tuple #[]) ∧ ∃ A6 c6, w'.heap[q]? = some (.cells #[.slice A6 fs'.length c6] 32 (0, 0)) ∧ FiOwn w' (w.heap.size + 3) (.slice A6 fs'.length c6) fs' ∧ FiRow w' A6 c6 fs' ∧ DA w v a w' := by
  obtain ⟨he, v', hq, ho', hk, _⟩ := hp
  obtain ⟨A6, c6, e6, hr⟩ := ho'.row hsm
  subst e6
  exact ⟨he, A6, c6, hq, ho', hr, h.kp hk hqs fun k e => (ho.lt k e).1⟩
theorem act_some {fs out : List FiD} {a : ActD} (h : actOk fs a = true) (hf : actF fs a = some out) : doActB fs a = if diskOkB out then some out else none := by
  unfold doActB
  rw [if_pos h, hf]
theorem act_ok1 {fs : List FiD} {nm tx : ByteArray} (h : diskOkB fs = true) : actOk fs (1, nm, tx, ⟨#[]⟩) = true := by
  unfold actOk
  rw [h]
  simp
theorem act_F1 {fs : List FiD} {nm tx : ByteArray} {x : FiD} (h : lookF fs nm = some x) : actF fs (1, nm, tx, ⟨#[]⟩) = some (putF fs (nm, x.2.1 ++ tx, x.2.2)) := by
  unfold actF
  rw [if_pos rfl, h]
theorem act_F0 {fs : List FiD} {nm tx : ByteArray} (h : lookF fs nm = none) : actF fs (1, nm, tx, ⟨#[]⟩) = some (putF fs (nm, (⟨#[]⟩ : ByteArray) ++ tx, 0)) := by
  unfold actF
  rw [if_pos rfl, h, show (⟨#[]⟩ : ByteArray) ++ tx = tx from ByteArray.empty_append]
theorem ap_size (a b : ByteArray) : (a ++ b).size = a.size + b.size := ByteArray.size_append
theorem set_mid {A V D : List Value} {d : Nat} (v : Value) (hd : d < V.length) : (A ++ V ++ D).set (A.length + d) v = A ++ V.set d v ++ D := by
  rw [List.append_assoc, List.set_append_right _ _ (by omega), Nat.add_sub_cancel_left, List.set_append_left _ _ hd, ← List.append_assoc]
/-- A file's kept part is written anew. -/
theorem FiOwn.set2 {w : World} {B g j n cap : Nat} {fs : List FiD} {x : FiD} (k : Int) (h : FiOwn w B (.slice (some ⟨g, 0, none⟩) n cap) fs) (hx : fs[j]? = some x) : FiOwn (w.setCell ⟨g, j * 3 + 2, none⟩ (.int .i64 k)) B (.slice (some ⟨g, 0, none⟩) n cap) (fs.set j (x.1, x.2.1, k)) := by
  have hj := (List.getElem?_eq_some_iff.1 hx).1
  refine ⟨by rw [fiFlat_len], ?_⟩
  rcases h.2 with ⟨e, _⟩ | ⟨g', cap', cur, e, hgB, hg, hn, hm, hcs, ht⟩
  · cases e
  · cases e
    have hA : (fiFlat (fs.take j)).length = j * 3 := by rw [fiFlat_len, List.length_take, Nat.min_eq_left (by omega)]
    have hF : fiFlat fs = fiFlat (fs.take j) ++ fiVals x ++ fiFlat (fs.drop (j + 1)) := by
      conv => lhs; rw [← List.take_append_drop j fs, drop_one hx]
      simp [fiFlat]
    refine .inr ⟨g, cap, _, by rw [List.length_set], hgB, blk_set hg _ _, by rw [List.length_set]; exact hn, hm, by rw [Array.size_setIfInBounds]; exact hcs, ?_⟩
    rw [List.length_set, fiFlat_set hj, Array.toList_setIfInBounds, List.take_set, ht, hF, ← hA]
    exact set_mid _ (by show 2 < 3; omega)
theorem act_okn {fs : List FiD} {n : Int} {nm tg : ByteArray} (h : diskOkB fs = true) (hn : n ≠ 1) (ht : n = 3 ∨ tg = ⟨#[]⟩) : actOk fs (n, nm, ⟨#[]⟩, tg) = true := by
  unfold actOk
  rw [h]
  simp
  exact ht
theorem act_noF {fs : List FiD} {n : Int} {nm tg : ByteArray} (hn : n ≠ 1) (h : lookF fs nm = none) : doActB fs (n, nm, ⟨#[]⟩, tg) = none := by
  unfold doActB actF
  rw [if_neg hn, h]
  simp
theorem act_F2 {fs : List FiD} {nm : ByteArray} {x : FiD} (h : lookF fs nm = some x) : actF fs (2, nm, ⟨#[]⟩, ⟨#[]⟩) = some (putF fs (x.1, x.2.1, (x.2.1.size : Int))) := by
  unfold actF
  rw [if_neg (by dsimp only; omega), h]
  rfl
theorem act_F3 {fs : List FiD} {nm tg : ByteArray} {x : FiD} (h : lookF fs nm = some x) (h1 : tg ≠ nm) (h2 : x.2.2 = (x.2.1.size : Int)) : actF fs (3, nm, ⟨#[]⟩, tg) = some (putF (dropF fs nm) (tg, x.2.1, x.2.2)) := by
  unfold actF
  rw [if_neg (by dsimp only; omega), h]
  dsimp only
  rw [if_neg (by omega), if_pos rfl, if_neg (by rintro (e | e); exact h1 e; exact e h2)]
theorem act_F3n {fs : List FiD} {nm tg : ByteArray} {x : FiD} (h : lookF fs nm = some x) (h1 : tg = nm ∨ x.2.2 ≠ (x.2.1.size : Int)) : doActB fs (3, nm, ⟨#[]⟩, tg) = none := by
  have hF : actF fs (3, nm, ⟨#[]⟩, tg) = none := by
    unfold actF
    rw [if_neg (by dsimp only; omega), h]
    dsimp only
    rw [if_neg (by omega), if_pos rfl, if_pos h1]
  unfold doActB
  rw [hF]
  simp
theorem act_F4 {fs : List FiD} {nm : ByteArray} {x : FiD} (h : lookF fs nm = some x) : actF fs (4, nm, ⟨#[]⟩, ⟨#[]⟩) = some (dropF fs nm) := by
  unfold actF
  rw [if_neg (by dsimp only; omega), h]
  rfl
theorem dropF_mem {fs : List FiD} {n : ByteArray} {x : FiD} (h : x ∈ dropF fs n) : x ∈ fs := (List.mem_filter.1 h).1
theorem dropF_len (fs : List FiD) (n : ByteArray) : (dropF fs n).length ≤ fs.length := List.length_filter_le _ _
/-- Behind an insertion or a deletion in the box's row. -/
theorem act_ins {w W w' : World} {v v3 : Value} {a : ActD} {q : Nat} {fs' : List FiD} {e : Ending} (h : DA w v a W) (hqs : w.heap.size + 3 ≤ q) (hq : W.heap[q]? = some (.cells #[v3] 32 (0, 0))) (hne : v3.ownBlock ≠ some q) (hlt : ∀ k, v3.ownBlock = some k → w.heap.size + 3 ≤ k) (hp : InsPost W (w.heap.size + 3) v3 fs' e w') :
    ∃ A6 c6, e = .returned (.slice A6 fs'.length c6) ∧ w'.heap[q]? = some (.cells #[v3] 32 (0, 0)) ∧ (w'.setCell ⟨q, 0, none⟩ (.slice A6 fs'.length c6)).heap[q]? = some (.cells #[.slice A6 fs'.length c6] 32 (0, 0)) ∧ FiOwn (w'.setCell ⟨q, 0, none⟩ (.slice A6 fs'.length c6)) (w.heap.size + 3) (.slice A6 fs'.length c6) fs' ∧ DA w v a (w'.setCell ⟨q, 0, none⟩ (.slice A6 fs'.length c6)) ∧ (Value.slice A6 fs'.length c6).ownBlock ≠ some q ∧ ∀ k, (Value.slice A6 fs'.length c6).ownBlock = some k → v3.ownBlock = some k ∨ W.heap.size ≤ k := by
  obtain ⟨v5, he, ho, hg, hl5⟩ := hp
  obtain ⟨A6, c6, e6⟩ := ho.form
  subst e6
  have hq1 := (hg.block q (blk_lt hq) (fun e => hne e.symm)).trans hq
  have hn5 : (Value.slice A6 fs'.length c6).ownBlock ≠ some q := fun e => by
    rcases hl5 q e with h1 | h1
    · exact hne h1
    · have := blk_lt hq; omega
  exact ⟨A6, c6, he, hq1, by rw [blk_set hq1]; rfl, World.ownsRow.kept ho (gr_set w' q 0 _) (.inr hn5), h.kp (Kp.grown hg _ 0) hqs (fun k e => hlt k e), hn5, hl5⟩
end Go.Proofs.YtaacpdejpcbbbaaGreatDoor

namespace Go.Proofs.YtaacpdejpcbbbaaGreatDoor
set_option linter.unusedVariables false
set_option linter.unusedSimpArgs false
open Go.RowKit
attribute [local go_sem] bs_size List.length_cons List.length_nil List.length_append

set_option maxHeartbeats 8000000 in
set_option maxRecDepth 100000 in
theorem impl_DoAct_add (B : Nat) (A : Option Addr) (n c : Nat) (fs : List FiD) (nm tx : ByteArray) (w : World) (h : FiOwn w B (.slice A n c) fs) (hsm : ∀ x ∈ fs, x.1.size ≤ 9223372036854775807 ∧ x.2.1.size ≤ 9223372036854775807) (hl : fs.length ≤ 999999)
    (hnm : nm.size ≤ 9223372036854775807) (htx : tx.size ≤ 1000000000) :
    Calls Tryz.prog 110 #[.agg #[.slice A n c], .agg #[.int .i64 1, .string nm, .string tx, .string ⟨#[]⟩]] w (ActPost w (doActB fs (1, nm, tx, ⟨#[]⟩))) := by
  obtain ⟨A', c', e, hrow⟩ := h.row hsm
  injection e with e1 e2 e3
  subst e1
  subst e2
  subst e3
  have HDA := Lib.hid (DA.start w (.slice A fs.length c) (1, nm, tx, ⟨#[]⟩))
  have HO := Lib.hid (h.below HDA.out.b)
  have HR := Lib.hid (hrow.below HDA.out.b)
  have d0 := blk_cell HDA.out.d 0
  have a0 := blk_cell HDA.out.a 0
  have a1 := blk_cell HDA.out.a 1
  have a2 := blk_cell HDA.out.a 2
  have a3 := blk_cell HDA.out.a 3
  have HSM := Lib.hid hsm
  clear h hrow hsm
  go_enter Tryz.func110, Tryz.ntmps110
  go_wp2_with fail
  go_at_call 88
  refine (impl_fileAt_calls nm A c fs _ HR.out).mono ?_
  rintro e w1 ⟨r, rfl, hr, hb⟩
  have HD1 := Lib.hid (HDA.out.go hb)
  have HO1 := Lib.hid (HO.out.below hb)
  have HR1 := Lib.hid (HR.out.below hb)
  have HIX := Lib.hid hr
  clear d0 a0 a1 a2 a3 hb HDA HO HR hr
  have d0 := blk_cell HD1.out.d 0
  have a0 := blk_cell HD1.out.a 0
  have a1 := blk_cell HD1.out.a 1
  have a2 := blk_cell HD1.out.a 2
  have a3 := blk_cell HD1.out.a 3
  go_wp2_with fail
  go_at_call 82
  refine (impl_DiskOk_calls A c fs _ HR1.out).mono ?_
  rintro e w2 ⟨rfl, hb⟩
  have HD2 := Lib.hid (HD1.out.go hb)
  have HO2 := Lib.hid (HO1.out.below hb)
  have HR2 := Lib.hid (HR1.out.below hb)
  clear d0 a0 a1 a2 a3 hb HD1 HO1 HR1
  have d0 := blk_cell HD2.out.d 0
  have a0 := blk_cell HD2.out.a 0
  have a1 := blk_cell HD2.out.a 1
  have a2 := blk_cell HD2.out.a 2
  have a3 := blk_cell HD2.out.a 3
  have r0 := blk_cell HD2.out.r 0
  have rf := blk_frozen HD2.out.r 0
  obtain ⟨ok, hok⟩ : ∃ b, diskOkB fs = b := ⟨_, rfl⟩
  rw [hok]
  have HOK := Lib.hid hok
  clear hok
  cases ok
  · go_wp2
    exact act_bad rfl HD2.out (act_no HOK.out) rfl rfl
  · go_wp2_with fail
    go_at_call 109
    refine (impl_copyDisk_any B A fs.length c fs _ HO2.out HSM.out (by omega)).mono ?_
    rintro e w3 ⟨v3, rfl, ho3, hb⟩
    obtain ⟨A3, c3, e3⟩ := ho3.form
    subst e3
    have HD3 := Lib.hid (HD2.out.go hb)
    have HR3 := Lib.hid (HR2.out.below hb)
    have HO3 := Lib.hid (ho3.mono HD2.out.s)
    clear d0 a0 a1 a2 a3 r0 rf hb ho3 HD2 HO2 HR2
    have a0 := blk_cell (HD3.out.alloc (.cells #[.slice A3 fs.length c3] 32)).a 0
    have a1 := blk_cell (HD3.out.alloc (.cells #[.slice A3 fs.length c3] 32)).a 1
    rcases ix_look (ris_ok HOK.out) HIX.out with ⟨j, x, e, hj, hx, hlk⟩ | ⟨e, hlk⟩
    · subst e
      obtain ⟨xn, xt, xk⟩ := x
      have hxn : xn = nm := hx
      subst hxn
      have hjl := (List.getElem?_eq_some_iff.1 hj).1
      obtain ⟨ad, y, hA, HY, _, _, hc0, hc1, hc2⟩ := HR3.out.at_ hjl
      obtain rfl : (xn, xt, xk) = y := Option.some.inj (hj.symm.trans HY.out)
      cases hA
      dsimp only at hc0 hc1 hc2
      have hxs := diskOk_small HOK.out (List.mem_of_getElem? hj)
      have hts : xt.size ≤ 20000 := hxs.1
      have HDF0 := Lib.hid ((HD3.out.alloc (.cells #[.slice A3 fs.length c3] 32)).alloc (.cells #[.string xn, .string ⟨#[]⟩, .int .i64 0] 105))
      have HDF1 := Lib.hid ((HD3.out.alloc (.cells #[.slice A3 fs.length c3] 32)).alloc (.cells #[.string xn, .string xt, .int .i64 xk] 105))
      have d0 := blk_cell HDF0.out.d 0
      have a2 := blk_cell HDF1.out.a 2
      have k0 := cell_new (cell_new hc0 (.cells #[.slice A3 fs.length c3] 32)) (.cells #[.string xn, .string ⟨#[]⟩, .int .i64 0] 105)
      have k1 := cell_new (cell_new hc1 (.cells #[.slice A3 fs.length c3] 32)) (.cells #[.string xn, .string ⟨#[]⟩, .int .i64 0] 105)
      have k2 := cell_new (cell_new hc2 (.cells #[.slice A3 fs.length c3] 32)) (.cells #[.string xn, .string ⟨#[]⟩, .int .i64 0] 105)
      have hji : (j : Int) < (fs.length : Int) := by omega
      clear hc0 hc1 hc2 hj hx hxs
      go_wp2_with fail
      have HD5 := Lib.hid ((HD3.out.alloc (.cells #[.slice A3 fs.length c3] 32)).alloc (.cells #[.string xn, .string (xt ++ tx), .int .i64 xk] 105))
      have HQ5 : Hid (((w3.alloc (.cells #[.slice A3 fs.length c3] 32)).alloc (.cells #[.string xn, .string (xt ++ tx), .int .i64 xk] 105)).heap[w3.heap.size]? = some (.cells #[.slice A3 fs.length c3] 32 (0, 0))) := gr_old (blk_new w3 _) _
      have HO5 : Hid (FiOwn ((w3.alloc (.cells #[.slice A3 fs.length c3] 32)).alloc (.cells #[.string xn, .string (xt ++ tx), .int .i64 xk] 105)) (w.heap.size + 3) (.slice A3 fs.length c3) fs) := World.ownsRow.alloc (World.ownsRow.alloc HO3.out _) _
      have HQS : Hid (w.heap.size + 3 ≤ w3.heap.size) := HD3.out.s
      have HNE : Hid ((Value.slice A3 fs.length c3).ownBlock ≠ some w3.heap.size) := fun e => by have := (HO3.out.lt _ e).2; omega
      have HSM5 := Lib.hid (sm_put (x := (xn, xt ++ tx, xk)) HSM.out ⟨hnm, by show (xt ++ tx).size ≤ _; rw [ap_size]; omega⟩)
      have HAC := Lib.hid (act_some (act_ok1 HOK.out) (act_F1 (tx := tx) hlk))
      have HLE := Lib.hid (putF_len fs (xn, xt ++ tx, xk))
      clear a0 a1 a2 d0 k0 k1 k2 HD3 HR3 HO3 HDF0 HDF1 hlk
      generalize (w3.alloc (.cells #[.slice A3 fs.length c3] 32)).alloc (.cells #[.string xn, .string (xt ++ tx), .int .i64 xk] 105) = W5 at HD5 HQ5 HO5 ⊢
      generalize w3.heap.size = q at HQ5 HQS HNE ⊢
      go_at_call 153
      refine (impl_putFile_calls (w.heap.size + 3) q _ fs xn (xt ++ tx) xk _ HQ5.out HO5.out HD5.out.s HNE.out (ris_ok HOK.out) (by omega) HSM.out).mono ?_
      rintro e w6 hp
      obtain ⟨rfl, A6, c6, hq6, ho6, hr6, hd6⟩ := act_put HD5.out HQS.out HO5.out hp HSM5.out
      dsimp only at HAC
      generalize putF fs (xn, xt ++ tx, xk) = F at hp HAC HSM5 HLE hq6 ho6 hr6
      have HD6 := Lib.hid hd6
      have HQ6 := Lib.hid hq6
      have HO6 := Lib.hid ho6
      have HR6 := Lib.hid hr6
      have hfl := HLE.out
      have q0 := blk_cell HQ6.out 0
      clear hp hq6 ho6 hr6 hd6 HD5 HQ5 HO5
      go_wp2_with fail
      go_at_call 82
      refine (impl_DiskOk_calls A6 c6 F _ HR6.out).mono ?_
      rintro e w7 ⟨rfl, hb⟩
      have HD7 := Lib.hid (HD6.out.go hb)
      have HQ7 := Lib.hid (blk_below HQ6.out hb)
      have HO7 := Lib.hid (HO6.out.below hb)
      clear q0 hb HD6 HQ6 HO6 HR6
      have q0 := blk_cell HQ7.out 0
      have r0 := blk_cell HD7.out.r 0
      have rf := blk_frozen HD7.out.r 0
      obtain ⟨ok, hok⟩ : ∃ b, diskOkB F = b := ⟨_, rfl⟩
      rw [hok] at HAC ⊢
      clear hok
      cases ok
      · go_wp2
        exact act_bad rfl HD7.out HAC.out rfl rfl
      · go_wp2
        exact act_good rfl HD7.out HO7.out HAC.out rfl rfl
    · subst e
      have a2 := blk_cell ((HD3.out.alloc (.cells #[.slice A3 fs.length c3] 32)).alloc (.cells #[.string nm, .string ⟨#[]⟩, .int .i64 0] 105)).a 2
      go_wp2_with fail
      have HD5 := Lib.hid ((HD3.out.alloc (.cells #[.slice A3 fs.length c3] 32)).alloc (.cells #[.string nm, .string ((⟨#[]⟩ : ByteArray) ++ tx), .int .i64 0] 105))
      have HQ5 : Hid (((w3.alloc (.cells #[.slice A3 fs.length c3] 32)).alloc (.cells #[.string nm, .string ((⟨#[]⟩ : ByteArray) ++ tx), .int .i64 0] 105)).heap[w3.heap.size]? = some (.cells #[.slice A3 fs.length c3] 32 (0, 0))) := gr_old (blk_new w3 _) _
      have HO5 : Hid (FiOwn ((w3.alloc (.cells #[.slice A3 fs.length c3] 32)).alloc (.cells #[.string nm, .string ((⟨#[]⟩ : ByteArray) ++ tx), .int .i64 0] 105)) (w.heap.size + 3) (.slice A3 fs.length c3) fs) := World.ownsRow.alloc (World.ownsRow.alloc HO3.out _) _
      have HQS : Hid (w.heap.size + 3 ≤ w3.heap.size) := HD3.out.s
      have HNE : Hid ((Value.slice A3 fs.length c3).ownBlock ≠ some w3.heap.size) := fun e => by have := (HO3.out.lt _ e).2; omega
      have HSM5 := Lib.hid (sm_put (x := (nm, (⟨#[]⟩ : ByteArray) ++ tx, 0)) HSM.out ⟨hnm, by show ((⟨#[]⟩ : ByteArray) ++ tx).size ≤ _; rw [ap_size]; show 0 + tx.size ≤ _; omega⟩)
      have HAC := Lib.hid (act_some (act_ok1 HOK.out) (act_F0 (tx := tx) hlk))
      have HLE := Lib.hid (putF_len fs (nm, (⟨#[]⟩ : ByteArray) ++ tx, 0))
      clear a0 a1 a2 HD3 HR3 HO3 hlk
      generalize (w3.alloc (.cells #[.slice A3 fs.length c3] 32)).alloc (.cells #[.string nm, .string ((⟨#[]⟩ : ByteArray) ++ tx), .int .i64 0] 105) = W5 at HD5 HQ5 HO5 ⊢
      generalize w3.heap.size = q at HQ5 HQS HNE ⊢
      go_at_call 153
      refine (impl_putFile_calls (w.heap.size + 3) q _ fs nm ((⟨#[]⟩ : ByteArray) ++ tx) 0 _ HQ5.out HO5.out HD5.out.s HNE.out (ris_ok HOK.out) (by omega) HSM.out).mono ?_
      rintro e w6 hp
      obtain ⟨rfl, A6, c6, hq6, ho6, hr6, hd6⟩ := act_put HD5.out HQS.out HO5.out hp HSM5.out
      generalize putF fs (nm, (⟨#[]⟩ : ByteArray) ++ tx, 0) = F at hp HAC HSM5 HLE hq6 ho6 hr6
      have HD6 := Lib.hid hd6
      have HQ6 := Lib.hid hq6
      have HO6 := Lib.hid ho6
      have HR6 := Lib.hid hr6
      have hfl := HLE.out
      have q0 := blk_cell HQ6.out 0
      clear hp hq6 ho6 hr6 hd6 HD5 HQ5 HO5
      go_wp2_with fail
      go_at_call 82
      refine (impl_DiskOk_calls A6 c6 F _ HR6.out).mono ?_
      rintro e w7 ⟨rfl, hb⟩
      have HD7 := Lib.hid (HD6.out.go hb)
      have HQ7 := Lib.hid (blk_below HQ6.out hb)
      have HO7 := Lib.hid (HO6.out.below hb)
      clear q0 hb HD6 HQ6 HO6 HR6
      have q0 := blk_cell HQ7.out 0
      have r0 := blk_cell HD7.out.r 0
      have rf := blk_frozen HD7.out.r 0
      obtain ⟨ok, hok⟩ : ∃ b, diskOkB F = b := ⟨_, rfl⟩
      rw [hok] at HAC ⊢
      clear hok
      cases ok
      · go_wp2
        exact act_bad rfl HD7.out HAC.out rfl rfl
      · go_wp2
        exact act_good rfl HD7.out HO7.out HAC.out rfl rfl
end Go.Proofs.YtaacpdejpcbbbaaGreatDoor

namespace Go.Proofs.YtaacpdejpcbbbaaGreatDoor
set_option linter.unusedVariables false
set_option linter.unusedSimpArgs false
open Go.RowKit
attribute [local go_sem] bs_size List.length_cons List.length_nil List.length_append

set_option maxHeartbeats 8000000 in
set_option maxRecDepth 100000 in
theorem impl_DoAct_keep (B : Nat) (A : Option Addr) (n c : Nat) (fs : List FiD) (nm : ByteArray) (w : World) (h : FiOwn w B (.slice A n c) fs) (hsm : ∀ x ∈ fs, x.1.size ≤ 9223372036854775807 ∧ x.2.1.size ≤ 9223372036854775807) (hl : fs.length ≤ 999999) (hd : diskOkB fs = true) :
    Calls Tryz.prog 110 #[.agg #[.slice A n c], .agg #[.int .i64 2, .string nm, .string ⟨#[]⟩, .string ⟨#[]⟩]] w (ActPost w (doActB fs (2, nm, ⟨#[]⟩, ⟨#[]⟩))) := by
  obtain ⟨A', c', e, hrow⟩ := h.row hsm
  injection e with e1 e2 e3
  subst e1
  subst e2
  subst e3
  have HDA := Lib.hid (DA.start w (.slice A fs.length c) (2, nm, ⟨#[]⟩, ⟨#[]⟩))
  have HO := Lib.hid (h.below HDA.out.b)
  have HR := Lib.hid (hrow.below HDA.out.b)
  have d0 := blk_cell HDA.out.d 0
  have a0 := blk_cell HDA.out.a 0
  have a1 := blk_cell HDA.out.a 1
  have a2 := blk_cell HDA.out.a 2
  have a3 := blk_cell HDA.out.a 3
  have HSM := Lib.hid hsm
  have HOK := Lib.hid hd
  clear h hrow hsm hd
  go_enter Tryz.func110, Tryz.ntmps110
  go_wp2_with fail
  go_at_call 88
  refine (impl_fileAt_calls nm A c fs _ HR.out).mono ?_
  rintro e w1 ⟨r, rfl, hr, hb⟩
  have HD1 := Lib.hid (HDA.out.go hb)
  have HO1 := Lib.hid (HO.out.below hb)
  have HR1 := Lib.hid (HR.out.below hb)
  have HIX := Lib.hid hr
  clear d0 a0 a1 a2 a3 hb HDA HO HR hr
  have d0 := blk_cell HD1.out.d 0
  have a0 := blk_cell HD1.out.a 0
  have a1 := blk_cell HD1.out.a 1
  have a2 := blk_cell HD1.out.a 2
  have a3 := blk_cell HD1.out.a 3
  go_wp2_with fail
  go_at_call 82
  refine (impl_DiskOk_calls A c fs _ HR1.out).mono ?_
  rw [HOK.out]
  rintro e w2 ⟨rfl, hb⟩
  have HD2 := Lib.hid (HD1.out.go hb)
  have HO2 := Lib.hid (HO1.out.below hb)
  have HR2 := Lib.hid (HR1.out.below hb)
  clear d0 a0 a1 a2 a3 hb HD1 HO1 HR1
  have d0 := blk_cell HD2.out.d 0
  have a0 := blk_cell HD2.out.a 0
  have a1 := blk_cell HD2.out.a 1
  have a2 := blk_cell HD2.out.a 2
  have a3 := blk_cell HD2.out.a 3
  rcases ix_look (ris_ok HOK.out) HIX.out with ⟨j, x, e, hj, hx, hlk⟩ | ⟨e, hlk⟩
  rotate_left
  · subst e
    have HNO := Lib.hid (act_noF (n := 2) (tg := ⟨#[]⟩) (by decide) hlk)
    have r0 := blk_cell HD2.out.r 0
    have rf := blk_frozen HD2.out.r 0
    clear hlk
    go_wp2
    exact act_bad rfl HD2.out HNO.out rfl rfl
  · subst e
    obtain ⟨xn, xt, xk⟩ := x
    have hxn : xn = nm := hx
    subst hxn
    have hjl := (List.getElem?_eq_some_iff.1 hj).1
    have hj0 : ¬ ((j : Int) < 0) := by omega
    have HJ := Lib.hid hj
    have HLK := Lib.hid hlk
    have hxs := diskOk_small HOK.out (List.mem_of_getElem? hj)
    have hts : xt.size ≤ 20000 := hxs.1
    have hjl9 : (j : Int) ≤ 999999 := by omega
    clear hj hlk hx hxs
    go_wp2_with fail
    go_at_call 109
    refine (impl_copyDisk_any B A fs.length c fs _ HO2.out HSM.out (by omega)).mono ?_
    rintro e w3 ⟨v3, rfl, ho3, hb⟩
    obtain ⟨A3, c3, e3⟩ := ho3.form
    subst e3
    have HD3 := Lib.hid (HD2.out.go hb)
    have HR3 := Lib.hid (HR2.out.below hb)
    have HO3 := Lib.hid (ho3.mono HD2.out.s)
    have HDZ := Lib.hid (HD3.out.alloc (.cells #[.slice A3 fs.length c3] 32))
    have HOZ : Hid (FiOwn (w3.alloc (.cells #[.slice A3 fs.length c3] 32)) (w.heap.size + 3) (.slice A3 fs.length c3) fs) := World.ownsRow.alloc HO3.out _
    have HQZ : Hid ((w3.alloc (.cells #[.slice A3 fs.length c3] 32)).heap[w3.heap.size]? = some (.cells #[.slice A3 fs.length c3] 32 (0, 0))) := blk_new w3 _
    have HQS : Hid (w.heap.size + 3 ≤ w3.heap.size) := HD3.out.s
    have HNE : Hid ((Value.slice A3 fs.length c3).ownBlock ≠ some w3.heap.size) := fun e => by have := (HO3.out.lt _ e).2; omega
    have HLT : Hid (∀ k, (Value.slice A3 fs.length c3).ownBlock = some k → w.heap.size + 3 ≤ k) := fun k e => (HO3.out.lt k e).1
    have HRZ := Lib.hid (HR3.out.below (w' := w3.alloc (.cells #[.slice A3 fs.length c3] 32)) ((Below.refl _ _).alloc (Nat.le_refl _) _))
    clear d0 a0 a1 a2 a3 hb ho3 HD2 HO2 HR2 HR3 HO3 HD3
    have d0 := blk_cell HDZ.out.d 0
    have a0 := blk_cell HDZ.out.a 0
    have a1 := blk_cell HDZ.out.a 1
    have a2 := blk_cell HDZ.out.a 2
    have a3 := blk_cell HDZ.out.a 3
    have q0 := blk_cell HQZ.out 0
    have qf := blk_frozen HQZ.out 0
    go_wp2_with fail
    generalize w3.alloc (.cells #[.slice A3 fs.length c3] 32) = W4 at HDZ HOZ HQZ HRZ d0 a0 a1 a2 a3 q0 qf ⊢
    generalize w3.heap.size = q at HQZ HQS HNE q0 qf ⊢
    rcases HOZ.out.2 with ⟨e, h0⟩ | ⟨g, cap, cur, e, hgB, hg, _, _, hcs, _⟩
    · omega
    cases e
    have hsz : j * 3 + 2 < cur.size := by omega
    have c1 : W4.cell? ⟨g, j * 3 + 1, none⟩ = some (.string xt) := by
      obtain ⟨A9, c9, e9, hr9⟩ := HOZ.out.row HSM.out
      cases e9
      obtain ⟨ad, y, hA, HY, _, _, _, hc1, _⟩ := hr9.at_ hjl
      obtain rfl : (xn, xt, xk) = y := Option.some.inj (HJ.out.symm.trans HY.out)
      cases hA
      rw [add_plain] at hc1
      exact hc1
    have c2 : ∃ u, W4.cell? ⟨g, j * 3 + 2, none⟩ = some u := ⟨cur[j * 3 + 2], by rw [blk_cell hg, Array.getElem?_eq_getElem (by omega)]⟩
    obtain ⟨u2, c2⟩ := c2
    have f2 := blk_frozen hg (j * 3 + 2)
    have HG0 : Hid (W4.drew.heap[g]? = some (.cells cur 105 (0, 0))) := hg
    have HSET := Lib.hid (put_set (x := (xn, xt, (xt.size : Int))) (ris_ok HOK.out) HJ.out rfl)
    have HO5 := Lib.hid (FiOwn.set2 (w := W4.drew) (xt.size : Int) (HOZ.out.below (Below.drew (Below.refl _ _))) HJ.out)
    have HD5 := Lib.hid ((HDZ.out.drew).set (q := g) (i := j * 3 + 2) (.int .i64 (xt.size : Int)) (HLT.out g rfl))
    have HQ5 : Hid ((W4.drew.setCell ⟨g, j * 3 + 2, none⟩ (.int .i64 (xt.size : Int))).heap[q]? = some (.cells #[.slice (some ⟨g, 0, none⟩) fs.length c3] 32 (0, 0))) := (gr_setne _ g _ q _ (fun e => HNE.out (by rw [e]; rfl))).trans HQZ.out
    have HAC := Lib.hid (act_some (act_okn (n := 2) (nm := xn) (tg := ⟨#[]⟩) HOK.out (by decide) (.inr rfl)) (act_F2 HLK.out))
    dsimp only at HAC HSET HO5
    have HSM5 : Hid (∀ y ∈ fs.set j (xn, xt, (xt.size : Int)), y.1.size ≤ 9223372036854775807 ∧ y.2.1.size ≤ 9223372036854775807) := fun y hy => by
      rcases List.mem_or_eq_of_mem_set hy with h | rfl
      · exact HSM.out y h
      · exact HSM.out (xn, xt, xk) (List.mem_of_getElem? HJ.out)
    rw [HSET.out] at HAC
    have HLN : Hid ((fs.set j (xn, xt, (xt.size : Int))).length = fs.length) := List.length_set ..
    clear hg hcs HSET
    generalize fs.set j (xn, xt, (xt.size : Int)) = F at HAC HO5 HSM5 HLN
    obtain ⟨A6, c6, e6, hr6⟩ := HO5.out.row HSM5.out
    rw [HLN.out] at e6
    cases e6
    have HR6 := Lib.hid hr6
    have hfl := HLN.out
    clear hr6
    go_still_tail 12, (by kernel_rfl)
    change wpList _ _ _ _ _ W4.drew
    go_wp2_with fail
    have HD6 := HD5
    have HQ6 := HQ5
    have HO6 := HO5
    have HDO : Hid (∀ W, FiRow W (some ⟨g, 0, none⟩) c3 F → Calls Tryz.prog 82 #[.agg #[.slice (some ⟨g, 0, none⟩) fs.length c3]] W fun e w' => e = .returned (.bool (diskOkB F)) ∧ Below W.heap.size W w') := by
      intro W h
      have := impl_DiskOk_calls (some ⟨g, 0, none⟩) c3 F W h
      rwa [HLN.out] at this
    go_at_call 82
    refine (HDO.out _ HR6.out).mono ?_
    rintro e w7 ⟨rfl, hb⟩
    have HD7 := Lib.hid (HD6.out.go hb)
    have HQ7 := Lib.hid (blk_below HQ6.out hb)
    have HO7 := Lib.hid (HO6.out.below hb)
    clear q0 hb HD6 HQ6 HO6 HR6
    have q0 := blk_cell HQ7.out 0
    have r0 := blk_cell HD7.out.r 0
    have rf := blk_frozen HD7.out.r 0
    obtain ⟨ok, hok⟩ : ∃ b, diskOkB F = b := ⟨_, rfl⟩
    rw [hok] at HAC ⊢
    clear hok
    cases ok
    · go_wp2
      exact act_bad rfl HD7.out HAC.out rfl rfl
    · go_wp2
      exact act_good rfl HD7.out HO7.out HAC.out rfl rfl
end Go.Proofs.YtaacpdejpcbbbaaGreatDoor

namespace Go.Proofs.YtaacpdejpcbbbaaGreatDoor
set_option linter.unusedVariables false
set_option linter.unusedSimpArgs false
open Go.RowKit
attribute [local go_sem] bs_size List.length_cons List.length_nil List.length_append

set_option maxHeartbeats 8000000 in
set_option maxRecDepth 100000 in
theorem impl_DoAct_drop (B : Nat) (A : Option Addr) (n c : Nat) (fs : List FiD) (nm : ByteArray) (w : World) (h : FiOwn w B (.slice A n c) fs) (hsm : ∀ x ∈ fs, x.1.size ≤ 9223372036854775807 ∧ x.2.1.size ≤ 9223372036854775807) (hl : fs.length ≤ 999999) (hd : diskOkB fs = true) :
    Calls Tryz.prog 110 #[.agg #[.slice A n c], .agg #[.int .i64 4, .string nm, .string ⟨#[]⟩, .string ⟨#[]⟩]] w (ActPost w (doActB fs (4, nm, ⟨#[]⟩, ⟨#[]⟩))) := by
  obtain ⟨A', c', e, hrow⟩ := h.row hsm
  injection e with e1 e2 e3
  subst e1
  subst e2
  subst e3
  have HDA := Lib.hid (DA.start w (.slice A fs.length c) (4, nm, ⟨#[]⟩, ⟨#[]⟩))
  have HO := Lib.hid (h.below HDA.out.b)
  have HR := Lib.hid (hrow.below HDA.out.b)
  have d0 := blk_cell HDA.out.d 0
  have a0 := blk_cell HDA.out.a 0
  have a1 := blk_cell HDA.out.a 1
  have a2 := blk_cell HDA.out.a 2
  have a3 := blk_cell HDA.out.a 3
  have HSM := Lib.hid hsm
  have HOK := Lib.hid hd
  clear h hrow hsm hd
  go_enter Tryz.func110, Tryz.ntmps110
  go_wp2_with fail
  go_at_call 88
  refine (impl_fileAt_calls nm A c fs _ HR.out).mono ?_
  rintro e w1 ⟨r, rfl, hr, hb⟩
  have HD1 := Lib.hid (HDA.out.go hb)
  have HO1 := Lib.hid (HO.out.below hb)
  have HR1 := Lib.hid (HR.out.below hb)
  have HIX := Lib.hid hr
  clear d0 a0 a1 a2 a3 hb HDA HO HR hr
  have d0 := blk_cell HD1.out.d 0
  have a0 := blk_cell HD1.out.a 0
  have a1 := blk_cell HD1.out.a 1
  have a2 := blk_cell HD1.out.a 2
  have a3 := blk_cell HD1.out.a 3
  go_wp2_with fail
  go_at_call 82
  refine (impl_DiskOk_calls A c fs _ HR1.out).mono ?_
  rw [HOK.out]
  rintro e w2 ⟨rfl, hb⟩
  have HD2 := Lib.hid (HD1.out.go hb)
  have HO2 := Lib.hid (HO1.out.below hb)
  have HR2 := Lib.hid (HR1.out.below hb)
  clear d0 a0 a1 a2 a3 hb HD1 HO1 HR1
  have d0 := blk_cell HD2.out.d 0
  have a0 := blk_cell HD2.out.a 0
  have a1 := blk_cell HD2.out.a 1
  have a2 := blk_cell HD2.out.a 2
  have a3 := blk_cell HD2.out.a 3
  rcases ix_look (ris_ok HOK.out) HIX.out with ⟨j, x, e, hj, hx, hlk⟩ | ⟨e, hlk⟩
  rotate_left
  · subst e
    have HNO := Lib.hid (act_noF (n := 4) (tg := ⟨#[]⟩) (by decide) hlk)
    have r0 := blk_cell HD2.out.r 0
    have rf := blk_frozen HD2.out.r 0
    clear hlk
    go_wp2
    exact act_bad rfl HD2.out HNO.out rfl rfl
  · subst e
    obtain ⟨xn, xt, xk⟩ := x
    have hxn : xn = nm := hx
    subst hxn
    have hjl := (List.getElem?_eq_some_iff.1 hj).1
    have hj0 : ¬ ((j : Int) < 0) := by omega
    have HJ := Lib.hid hj
    have HLK := Lib.hid hlk
    have hxs := diskOk_small HOK.out (List.mem_of_getElem? hj)
    have hts : xt.size ≤ 20000 := hxs.1
    have hjl9 : (j : Int) ≤ 999999 := by omega
    clear hj hlk hx hxs
    go_wp2_with fail
    go_at_call 109
    refine (impl_copyDisk_any B A fs.length c fs _ HO2.out HSM.out (by omega)).mono ?_
    rintro e w3 ⟨v3, rfl, ho3, hb⟩
    obtain ⟨A3, c3, e3⟩ := ho3.form
    subst e3
    have HD3 := Lib.hid (HD2.out.go hb)
    have HR3 := Lib.hid (HR2.out.below hb)
    have HO3 := Lib.hid (ho3.mono HD2.out.s)
    have HDZ := Lib.hid (HD3.out.alloc (.cells #[.slice A3 fs.length c3] 32))
    have HOZ : Hid (FiOwn (w3.alloc (.cells #[.slice A3 fs.length c3] 32)) (w.heap.size + 3) (.slice A3 fs.length c3) fs) := World.ownsRow.alloc HO3.out _
    have HQZ : Hid ((w3.alloc (.cells #[.slice A3 fs.length c3] 32)).heap[w3.heap.size]? = some (.cells #[.slice A3 fs.length c3] 32 (0, 0))) := blk_new w3 _
    have HQS : Hid (w.heap.size + 3 ≤ w3.heap.size) := HD3.out.s
    have HNE : Hid ((Value.slice A3 fs.length c3).ownBlock ≠ some w3.heap.size) := fun e => by have := (HO3.out.lt _ e).2; omega
    have HLT : Hid (∀ k, (Value.slice A3 fs.length c3).ownBlock = some k → w.heap.size + 3 ≤ k) := fun k e => (HO3.out.lt k e).1
    have HRZ := Lib.hid (HR3.out.below (w' := w3.alloc (.cells #[.slice A3 fs.length c3] 32)) ((Below.refl _ _).alloc (Nat.le_refl _) _))
    clear d0 a0 a1 a2 a3 hb ho3 HD2 HO2 HR2 HR3 HO3 HD3
    have d0 := blk_cell HDZ.out.d 0
    have a0 := blk_cell HDZ.out.a 0
    have a1 := blk_cell HDZ.out.a 1
    have a2 := blk_cell HDZ.out.a 2
    have a3 := blk_cell HDZ.out.a 3
    have q0 := blk_cell HQZ.out 0
    have qf := blk_frozen HQZ.out 0
    go_wp2_with fail
    go_at_call 154
    refine (delete_File_calls (w.heap.size + 3) j _ fs _ HOZ.out hjl (by omega)).mono ?_
    rintro e w6 hp
    rw [del_drop (ris_ok HOK.out) HJ.out] at hp
    have HAC := Lib.hid (act_some (act_okn (n := 4) (nm := xn) (tg := ⟨#[]⟩) HOK.out (by decide) (.inr rfl)) (act_F4 HLK.out))
    obtain ⟨A6, c6, rfl, hq6, hq6', ho6, hd6, _, _⟩ := act_ins HDZ.out HQS.out HQZ.out HNE.out HLT.out hp
    have HSM5 : Hid (∀ y ∈ dropF fs xn, y.1.size ≤ 9223372036854775807 ∧ y.2.1.size ≤ 9223372036854775807) := fun y hy => HSM.out y (dropF_mem hy)
    have hfl := dropF_len fs xn
    generalize dropF fs xn = F at hp HAC hq6' ho6 hd6 HSM5 hfl
    obtain ⟨A9, c9, e9, hr6⟩ := ho6.row HSM5.out
    cases e9
    have HD6 := Lib.hid hd6
    have HQ6 := Lib.hid hq6'
    have HO6 := Lib.hid ho6
    have HR6 := Lib.hid hr6
    clear q0 qf
    have q0 := blk_cell hq6 0
    have qf := blk_frozen hq6 0
    have q1 := blk_cell HQ6.out 0
    clear hp hq6 hq6' ho6 hr6 hd6 HDZ HQZ HOZ HRZ d0 a0 a1 a2 a3
    go_wp2_with fail
    go_at_call 82
    refine (impl_DiskOk_calls A6 c6 F _ HR6.out).mono ?_
    rintro e w7 ⟨rfl, hb⟩
    have HD7 := Lib.hid (HD6.out.go hb)
    have HQ7 := Lib.hid (blk_below HQ6.out hb)
    have HO7 := Lib.hid (HO6.out.below hb)
    clear q0 hb HD6 HQ6 HO6 HR6
    have q0 := blk_cell HQ7.out 0
    have r0 := blk_cell HD7.out.r 0
    have rf := blk_frozen HD7.out.r 0
    obtain ⟨ok, hok⟩ : ∃ b, diskOkB F = b := ⟨_, rfl⟩
    rw [hok] at HAC ⊢
    clear hok
    cases ok
    · go_wp2
      exact act_bad rfl HD7.out HAC.out rfl rfl
    · go_wp2
      exact act_good rfl HD7.out HO7.out HAC.out rfl rfl
end Go.Proofs.YtaacpdejpcbbbaaGreatDoor

namespace Go.Proofs.YtaacpdejpcbbbaaGreatDoor
set_option linter.unusedVariables false
set_option linter.unusedSimpArgs false
open Go.RowKit
attribute [local go_sem] bs_size List.length_cons List.length_nil List.length_append

set_option maxHeartbeats 8000000 in
set_option maxRecDepth 100000 in
theorem impl_DoAct_move (B : Nat) (A : Option Addr) (n c : Nat) (fs : List FiD) (nm tg : ByteArray) (w : World) (h : FiOwn w B (.slice A n c) fs) (hsm : ∀ x ∈ fs, x.1.size ≤ 9223372036854775807 ∧ x.2.1.size ≤ 9223372036854775807) (hl : fs.length ≤ 999999) (hd : diskOkB fs = true) (hto : tg.size ≤ 9223372036854775807) :
    Calls Tryz.prog 110 #[.agg #[.slice A n c], .agg #[.int .i64 3, .string nm, .string ⟨#[]⟩, .string tg]] w (ActPost w (doActB fs (3, nm, ⟨#[]⟩, tg))) := by
  obtain ⟨A', c', e, hrow⟩ := h.row hsm
  injection e with e1 e2 e3
  subst e1
  subst e2
  subst e3
  have HDA := Lib.hid (DA.start w (.slice A fs.length c) (3, nm, ⟨#[]⟩, tg))
  have HO := Lib.hid (h.below HDA.out.b)
  have HR := Lib.hid (hrow.below HDA.out.b)
  have d0 := blk_cell HDA.out.d 0
  have a0 := blk_cell HDA.out.a 0
  have a1 := blk_cell HDA.out.a 1
  have a2 := blk_cell HDA.out.a 2
  have a3 := blk_cell HDA.out.a 3
  have HSM := Lib.hid hsm
  have HOK := Lib.hid hd
  clear h hrow hsm hd
  go_enter Tryz.func110, Tryz.ntmps110
  go_wp2_with fail
  go_at_call 88
  refine (impl_fileAt_calls nm A c fs _ HR.out).mono ?_
  rintro e w1 ⟨r, rfl, hr, hb⟩
  have HD1 := Lib.hid (HDA.out.go hb)
  have HO1 := Lib.hid (HO.out.below hb)
  have HR1 := Lib.hid (HR.out.below hb)
  have HIX := Lib.hid hr
  clear d0 a0 a1 a2 a3 hb HDA HO HR hr
  have d0 := blk_cell HD1.out.d 0
  have a0 := blk_cell HD1.out.a 0
  have a1 := blk_cell HD1.out.a 1
  have a2 := blk_cell HD1.out.a 2
  have a3 := blk_cell HD1.out.a 3
  go_wp2_with fail
  go_at_call 82
  refine (impl_DiskOk_calls A c fs _ HR1.out).mono ?_
  rw [HOK.out]
  rintro e w2 ⟨rfl, hb⟩
  have HD2 := Lib.hid (HD1.out.go hb)
  have HO2 := Lib.hid (HO1.out.below hb)
  have HR2 := Lib.hid (HR1.out.below hb)
  clear d0 a0 a1 a2 a3 hb HD1 HO1 HR1
  have d0 := blk_cell HD2.out.d 0
  have a0 := blk_cell HD2.out.a 0
  have a1 := blk_cell HD2.out.a 1
  have a2 := blk_cell HD2.out.a 2
  have a3 := blk_cell HD2.out.a 3
  rcases ix_look (ris_ok HOK.out) HIX.out with ⟨j, x, e, hj, hx, hlk⟩ | ⟨e, hlk⟩
  rotate_left
  · subst e
    have HNO := Lib.hid (act_noF (n := 3) (tg := tg) (by decide) hlk)
    have r0 := blk_cell HD2.out.r 0
    have rf := blk_frozen HD2.out.r 0
    clear hlk
    go_wp2
    exact act_bad rfl HD2.out HNO.out rfl rfl
  · subst e
    obtain ⟨xn, xt, xk⟩ := x
    have hxn : xn = nm := hx
    subst hxn
    have hjl := (List.getElem?_eq_some_iff.1 hj).1
    have hj0 : ¬ ((j : Int) < 0) := by omega
    have HJ := Lib.hid hj
    have HLK := Lib.hid hlk
    have hxs := diskOk_small HOK.out (List.mem_of_getElem? hj)
    have hts : xt.size ≤ 20000 := hxs.1
    have hjl9 : (j : Int) ≤ 999999 := by omega
    clear hj hlk hx hxs
    go_wp2_with fail
    go_at_call 109
    refine (impl_copyDisk_any B A fs.length c fs _ HO2.out HSM.out (by omega)).mono ?_
    rintro e w3 ⟨v3, rfl, ho3, hb⟩
    obtain ⟨A3, c3, e3⟩ := ho3.form
    subst e3
    have HD3 := Lib.hid (HD2.out.go hb)
    have HR3 := Lib.hid (HR2.out.below hb)
    have HO3 := Lib.hid (ho3.mono HD2.out.s)
    have HDZ := Lib.hid (HD3.out.alloc (.cells #[.slice A3 fs.length c3] 32))
    have HOZ : Hid (FiOwn (w3.alloc (.cells #[.slice A3 fs.length c3] 32)) (w.heap.size + 3) (.slice A3 fs.length c3) fs) := World.ownsRow.alloc HO3.out _
    have HQZ : Hid ((w3.alloc (.cells #[.slice A3 fs.length c3] 32)).heap[w3.heap.size]? = some (.cells #[.slice A3 fs.length c3] 32 (0, 0))) := blk_new w3 _
    have HQS : Hid (w.heap.size + 3 ≤ w3.heap.size) := HD3.out.s
    have HNE : Hid ((Value.slice A3 fs.length c3).ownBlock ≠ some w3.heap.size) := fun e => by have := (HO3.out.lt _ e).2; omega
    have HLT : Hid (∀ k, (Value.slice A3 fs.length c3).ownBlock = some k → w.heap.size + 3 ≤ k) := fun k e => (HO3.out.lt k e).1
    have HRZ := Lib.hid (HR3.out.below (w' := w3.alloc (.cells #[.slice A3 fs.length c3] 32)) ((Below.refl _ _).alloc (Nat.le_refl _) _))
    have HO3L : Hid (∀ k, (Value.slice A3 fs.length c3).ownBlock = some k → k < w3.heap.size) := fun k e => (HO3.out.lt k e).2
    clear d0 a0 a1 a2 a3 hb ho3 HD2 HO2 HR2 HR3 HO3 HD3
    have d0 := blk_cell HDZ.out.d 0
    have a0 := blk_cell HDZ.out.a 0
    have a1 := blk_cell HDZ.out.a 1
    have a2 := blk_cell HDZ.out.a 2
    have a3 := blk_cell HDZ.out.a 3
    have q0 := blk_cell HQZ.out 0
    have qf := blk_frozen HQZ.out 0
    obtain ⟨ad, y, hA, HY, _, _, hc0, hc1, hc2⟩ := HRZ.out.at_ hjl
    obtain rfl : (xn, xt, xk) = y := Option.some.inj (HJ.out.symm.trans HY.out)
    cases hA
    dsimp only at hc0 hc1 hc2
    have hji : (j : Int) < (fs.length : Int) := by omega
    have hxn9 := (HSM.out _ (List.mem_of_getElem? HJ.out)).1
    have HZ1 := Lib.hid (HDZ.out.alloc (.cells #[.string xn, .string xt, .int .i64 xk] 105))
    have z1 := blk_cell HZ1.out.a 1
    have z3 := blk_cell HZ1.out.a 3
    have z0 := blk_cell HZ1.out.r 0
    have zf := blk_frozen HZ1.out.r 0
    obtain ⟨sm, hsm⟩ : ∃ b, (tg.toList == xn.toList) = b := ⟨_, rfl⟩
    obtain ⟨kb, hkb⟩ : ∃ b, (xk != (xt.size : Int)) = b := ⟨_, rfl⟩
    cases sm
    rotate_left
    · have HNO := Lib.hid (act_F3n (tg := tg) HLK.out (.inl (toList_inj.1 (by simpa using hsm))))
      go_wp2
      exact act_bad rfl HZ1.out HNO.out rfl rfl
    cases kb
    rotate_left
    · have HNO := Lib.hid (act_F3n (tg := tg) HLK.out (.inr (by simpa using hkb)))
      go_wp2
      exact act_bad rfl HZ1.out HNO.out rfl rfl
    have HNE3 : Hid (tg ≠ xn) := fun e => by rw [e] at hsm; simp at hsm
    have HKB : Hid (xk = (xt.size : Int)) := by rw [Hid]; simpa using hkb
    have HAC := Lib.hid (act_some (act_okn (n := 3) (nm := xn) (tg := tg) HOK.out (by decide) (.inl rfl)) (act_F3 HLK.out HNE3.out HKB.out))
    dsimp only at HAC
    have q2 := gr_old HQZ.out (.cells #[.string xn, .string xt, .int .i64 xk] 105)
    have HQ2 := Lib.hid q2
    have HO2 : Hid (FiOwn ((w3.alloc (.cells #[.slice A3 fs.length c3] 32)).alloc (.cells #[.string xn, .string xt, .int .i64 xk] 105)) (w.heap.size + 3) (.slice A3 fs.length c3) fs) := World.ownsRow.alloc HOZ.out _
    have HX2 : Hid (((w3.alloc (.cells #[.slice A3 fs.length c3] 32)).alloc (.cells #[.string xn, .string xt, .int .i64 xk] 105)).heap[w3.heap.size + 1]? = some (.cells #[.string xn, .string xt, .int .i64 xk] 105 (0, 0))) := by
      have := blk_new (w3.alloc (.cells #[.slice A3 fs.length c3] 32)) (.cells #[.string xn, .string xt, .int .i64 xk] 105)
      rwa [show (w3.alloc (.cells #[.slice A3 fs.length c3] 32)).heap.size = w3.heap.size + 1 by simp] at this
    clear q0 qf q2
    have q0 := blk_cell HQ2.out 0
    go_wp2_with fail
    clear hc0 hc1 hc2 d0 a0 a1 a2 a3 z0 zf
    go_at_call 154
    refine (delete_File_calls (w.heap.size + 3) j _ fs _ HO2.out hjl (by omega)).mono ?_
    rintro e w6 hp
    rw [del_drop (ris_ok HOK.out) HJ.out] at hp
    have HG6 : Hid (((w3.alloc (.cells #[.slice A3 fs.length c3] 32)).alloc (.cells #[.string xn, .string xt, .int .i64 xk] 105)).grownBy w6 (Value.slice A3 fs.length c3).ownBlock) := by obtain ⟨_, _, _, hg, _⟩ := hp; exact hg
    have hx6 : w6.heap[w3.heap.size + 1]? = some (.cells #[.string xn, .string xt, .int .i64 xk] 105 (0, 0)) := (HG6.out.block _ (blk_lt HX2.out) (fun e => by
      rcases HOZ.out.2 with ⟨e0, _⟩ | ⟨g, cap, cur, e0, _, hg, _⟩
      · rw [e0] at e; simp [Value.ownBlock] at e
      · cases e0
        have h1 : w3.heap.size + 1 = g := Option.some.inj e
        have h2 := blk_lt hg
        have h3 : (w3.alloc (.cells #[.slice (some ⟨g, 0, none⟩) fs.length c3] 32)).heap.size = w3.heap.size + 1 := by simp
        omega)).trans HX2.out
    obtain ⟨A6, c6, rfl, hq6, hq6', ho6, hd6, hn6, hl6⟩ := act_ins HZ1.out HQS.out HQ2.out HNE.out HLT.out hp
    have HSM5 : Hid (∀ y ∈ dropF fs xn, y.1.size ≤ 9223372036854775807 ∧ y.2.1.size ≤ 9223372036854775807) := fun y hy => HSM.out y (dropF_mem hy)
    have hfl := dropF_len fs xn
    have HRD := Lib.hid (ris_drop (ris_ok HOK.out) xn)
    generalize dropF fs xn = F at hp HAC hq6' ho6 hd6 hn6 hl6 HSM5 hfl HRD
    have HD6 := Lib.hid hd6
    have HQ6 := Lib.hid hq6'
    have HO6 := Lib.hid ho6
    have HN6 := Lib.hid hn6
    have HL6 := Lib.hid hl6
    clear hl6
    have hx7 : (w6.setCell ⟨w3.heap.size, 0, none⟩ (.slice A6 F.length c6)).heap[w3.heap.size + 1]? = some (.cells #[.string xn, .string xt, .int .i64 xk] 105 (0, 0)) := (gr_setne _ _ _ _ _ (by omega)).trans hx6
    have HX7 := Lib.hid hx7
    have q1 := blk_cell hq6 0
    have qf := blk_frozen hq6 0
    have x0 := blk_cell HX7.out 0
    have xf := blk_frozen HX7.out 0
    have y3 := blk_cell HD6.out.a 3
    have HX8 : Hid (((w6.setCell ⟨w3.heap.size, 0, none⟩ (.slice A6 F.length c6)).setCell ⟨w3.heap.size + 1, 0, none⟩ (.string tg)).heap[w3.heap.size + 1]? = some (.cells #[.string tg, .string xt, .int .i64 xk] 105 (0, 0))) := by rw [Hid, blk_set HX7.out]; rfl
    have HQ8 : Hid (((w6.setCell ⟨w3.heap.size, 0, none⟩ (.slice A6 F.length c6)).setCell ⟨w3.heap.size + 1, 0, none⟩ (.string tg)).heap[w3.heap.size]? = some (.cells #[.slice A6 F.length c6] 32 (0, 0))) := (gr_setne _ _ _ _ _ (by omega)).trans HQ6.out
    have HLT6 : Hid (∀ k, (Value.slice A6 F.length c6).ownBlock = some k → w.heap.size + 3 ≤ k) := fun k e => (HO6.out.lt k e).1
    have HO8 : Hid (FiOwn ((w6.setCell ⟨w3.heap.size, 0, none⟩ (.slice A6 F.length c6)).setCell ⟨w3.heap.size + 1, 0, none⟩ (.string tg)) (w.heap.size + 3) (.slice A6 F.length c6) F) := World.ownsRow.kept HO6.out (gr_set _ (w3.heap.size + 1) 0 _) (by
      cases hv : (Value.slice A6 F.length c6).ownBlock with
      | none => exact .inl rfl
      | some k =>
        refine .inr fun e => ?_
        have hk : k = w3.heap.size + 1 := Option.some.inj e
        have h3 : ((w3.alloc (.cells #[.slice A3 fs.length c3] 32)).alloc (.cells #[.string xn, .string xt, .int .i64 xk] 105)).heap.size = w3.heap.size + 2 := by simp
        rcases HL6.out k hv with h4 | h4
        · have h6 := HO3L.out k h4
          omega
        · omega)
    have HD8 := Lib.hid (HD6.out.set (q := w3.heap.size + 1) (i := 0) (.string tg) (by have := HQS.out; omega))
    have b0 := blk_cell HX8.out 0
    have b1 := blk_cell HX8.out 1
    have b2 := blk_cell HX8.out 2
    clear hp hq6 hq6' ho6 hd6 hn6 hx6 hx7 q0 z1 z3
    go_wp2_with fail
    generalize (w6.setCell ⟨w3.heap.size, 0, none⟩ (.slice A6 F.length c6)).setCell ⟨w3.heap.size + 1, 0, none⟩ (.string tg) = W8 at HX8 HQ8 HO8 HD8 b0 b1 b2 ⊢
    have HSM8 := Lib.hid (sm_put (x := (tg, xt, xk)) HSM5.out ⟨hto, by show xt.size ≤ _; omega⟩)
    have HLE := Lib.hid (putF_len F (tg, xt, xk))
    clear q1 qf x0 xf y3 HX7 HQ6 HO6 HD6
    go_at_call 153
    refine (impl_putFile_calls (w.heap.size + 3) w3.heap.size _ F tg xt xk _ HQ8.out HO8.out HD8.out.s HN6.out HRD.out (by omega) HSM5.out).mono ?_
    rintro e w9 hp
    obtain ⟨rfl, A6, c6, hq6, ho6, hr6, hd6⟩ := act_put HD8.out HQS.out HO8.out hp HSM8.out
    generalize putF F (tg, xt, xk) = F at hp HAC HSM8 HLE hq6 ho6 hr6
    have HD6 := Lib.hid hd6
    have HQ6 := Lib.hid hq6
    have HO6 := Lib.hid ho6
    have HR6 := Lib.hid hr6
    have hfl2 := HLE.out
    have q0 := blk_cell HQ6.out 0
    clear hp hq6 ho6 hr6 hd6 HD8 HQ8 HO8 HX8 b0 b1 b2
    go_wp2_with fail
    go_at_call 82
    refine (impl_DiskOk_calls A6 c6 F _ HR6.out).mono ?_
    rintro e w7 ⟨rfl, hb⟩
    have HD7 := Lib.hid (HD6.out.go hb)
    have HQ7 := Lib.hid (blk_below HQ6.out hb)
    have HO7 := Lib.hid (HO6.out.below hb)
    clear q0 hb HD6 HQ6 HO6 HR6
    have q0 := blk_cell HQ7.out 0
    have r0 := blk_cell HD7.out.r 0
    have rf := blk_frozen HD7.out.r 0
    obtain ⟨ok, hok⟩ : ∃ b, diskOkB F = b := ⟨_, rfl⟩
    rw [hok] at HAC ⊢
    clear hok
    cases ok
    · go_wp2
      exact act_bad rfl HD7.out HAC.out rfl rfl
    · go_wp2
      exact act_good rfl HD7.out HO7.out HAC.out rfl rfl
end Go.Proofs.YtaacpdejpcbbbaaGreatDoor

namespace Go.Proofs.YtaacpdejpcbbbaaGreatDoor
set_option linter.unusedVariables false
set_option linter.unusedSimpArgs false
open Go.RowKit

/-- The name of a new file. -/
def newNm : ByteArray := ⟨#[109, 43]⟩
def dropA (n : ByteArray) : ActD := (4, n, ⟨#[]⟩, ⟨#[]⟩)
def cNew (x : FiD) : List ActD := if x.1 = newNm then [dropA newNm] else []
/-- The program: a segment that is not of the list. -/
def cOld (L : List Nat) (x : FiD) : List ActD := match segNo x.1 with
  | none => []
  | some n => if n ∈ L then [] else [dropA x.1]
def cleanB (fs : List FiD) (L : List Nat) : List ActD := fs.flatMap cNew ++ fs.flatMap (cOld L)
/-- The reference: a segment ahead of the list. -/
def cLow (a : Nat) (x : FiD) : List ActD := match segNo x.1 with
  | none => []
  | some n => if n < a then [dropA x.1] else []
theorem flat_step {α β : Type} (f : α → List β) {l : List α} {i : Nat} {x : α} (h : l[i]? = some x) : (l.take (i + 1)).flatMap f = (l.take i).flatMap f ++ f x := by
  obtain ⟨hi, e⟩ := List.getElem?_eq_some_iff.1 h
  rw [List.take_succ_eq_append_getElem hi, List.flatMap_append, e]
  simp
theorem fm_len {α β : Type} (f : α → List β) (hf : ∀ x, (f x).length ≤ 1) : ∀ l : List α, (l.flatMap f).length ≤ l.length
  | [] => Nat.le_refl _
  | x :: l => by
    rw [List.flatMap_cons, List.length_append, List.length_cons]
    have := fm_len f hf l
    have := hf x
    omega
theorem cNew_len (x : FiD) : (cNew x).length ≤ 1 := by unfold cNew; split <;> simp
theorem cOld_len (L : List Nat) (x : FiD) : (cOld L x).length ≤ 1 := by
  unfold cOld
  split
  · simp
  · split <;> simp
theorem cLow_len (a : Nat) (x : FiD) : (cLow a x).length ≤ 1 := by
  unfold cLow
  split
  · simp
  · split <;> simp
theorem cleanB_len (fs : List FiD) (L : List Nat) : (cleanB fs L).length ≤ 2 * fs.length := by
  unfold cleanB
  rw [List.length_append]
  have := fm_len cNew cNew_len fs
  have := fm_len (cOld L) (cOld_len L) fs
  omega
theorem segs_mem {fs : List FiD} {n m : Nat} (hn : n ∈ segsB fs) (hm : m < 100) (hf : hasF fs m = true) : m ∈ segsB fs ∨ ∀ k ∈ segsB fs, m < k := by
  unfold segsB at hn ⊢
  split at hn
  · rename_i h
    rw [if_pos h]
    unfold allB at hn ⊢
    by_cases hl : leastB fs 100 ≤ m
    · exact .inl ((outs_mem fs).2 ⟨hl, hm, hf⟩)
    · refine .inr fun k hk => ?_
      have := ((outs_mem fs).1 hk).1
      omega
  · simp at hn
theorem segs_incr (fs : List FiD) : (segsB fs).Pairwise (· < ·) := by
  unfold segsB
  split
  · exact outs_incr fs
  · exact List.Pairwise.nil
theorem hasF_of {fs : List FiD} (hd : diskOkB fs = true) {x : FiD} (hx : x ∈ fs) {n : Nat} (hn : segNo x.1 = some n) : n < 100 ∧ hasF fs n = true := by
  obtain ⟨h1, h2⟩ := segNo_some hn
  obtain ⟨i, hi, e⟩ := List.getElem_of_mem hx
  have := fileB_of hd (i := i) (x := x) (by rw [List.getElem?_eq_getElem hi, e])
  refine ⟨by omega, ?_⟩
  unfold hasF
  rw [← h2, this]
  rfl
/-- Both clean alike. -/
theorem old_low {fs : List FiD} (hd : diskOkB fs = true) {a : Nat} {r : List Nat} (hs : segsB fs = a :: r) {x : FiD} (hx : x ∈ fs) : cOld (segsB fs) x = cLow a x := by
  unfold cOld cLow
  cases hn : segNo x.1 with
  | none => rfl
  | some n =>
    dsimp only
    obtain ⟨h1, h2⟩ := hasF_of hd hx hn
    have hinc := segs_incr fs
    have ha : a ∈ segsB fs := by rw [hs]; simp
    by_cases hm : n ∈ segsB fs
    · rw [if_pos hm, if_neg]
      rw [hs] at hm hinc
      rcases List.mem_cons.1 hm with rfl | h
      · omega
      · have := (List.pairwise_cons.1 hinc).1 n h
        omega
    · rw [if_neg hm, if_pos]
      rcases segs_mem ha h1 h2 with h | h
      · exact absurd h hm
      · exact h a ha
theorem new_one {fs : List FiD} : ∀ (_ : Ris fs), fs.flatMap cNew = if (fileB fs newNm).isSome = true then [dropA newNm] else [] := by
  induction fs with
  | nil => intro _; rfl
  | cons x r ih =>
    intro h
    have hx := List.pairwise_cons.1 h
    rw [List.flatMap_cons]
    by_cases e : x.1 = newNm
    · have h1 : fileB (x :: r) newNm = some x.2.1 := by unfold fileB; rw [if_pos e]
      have h2 : r.flatMap cNew = [] := by
        rw [List.flatMap_eq_nil_iff]
        intro y hy
        unfold cNew
        rw [if_neg]
        intro e2
        exact lt_ne (hx.1 y hy) (e2.trans e.symm)
      rw [h1, h2]
      unfold cNew
      rw [if_pos e]
      rfl
    · have h1 : fileB (x :: r) newNm = fileB r newNm := by conv => lhs; unfold fileB; rw [if_neg e]
      rw [h1, ih hx.2]
      unfold cNew
      rw [if_neg e]
      rfl
theorem clean_eq {fs : List FiD} (hd : diskOkB fs = true) {a : Nat} {r : List Nat} (hs : segsB fs = a :: r) : cleanB fs (segsB fs) = (if (fileB fs newNm).isSome = true then [dropA newNm] else []) ++ fs.flatMap (cLow a) := by
  unfold cleanB
  rw [new_one (ris_ok hd)]
  congr 1
  have : ∀ l : List FiD, (∀ x ∈ l, x ∈ fs) → l.flatMap (cOld (segsB fs)) = l.flatMap (cLow a) := by
    intro l
    induction l with
    | nil => intro _; rfl
    | cons x l ih =>
      intro h
      rw [List.flatMap_cons, List.flatMap_cons, old_low hd hs (h x (by simp)), ih fun y hy => h y (by simp [hy])]
  exact this fs fun _ h => h
/-- The text of a segment. -/
def textAt (fs : List FiD) (n : Nat) : ByteArray := (fileB fs (segNm (n : Int))).getD ⟨#[]⟩
/-- Where what is right of it ends. -/
def endAt (fs : List FiD) (n : Nat) : Nat := match segPl (n : Int) (textAt fs n) with
  | none => 0
  | some (_, l, pls) => endOf l pls
def torn3 (fs : List FiD) (n : Nat) : List ActD := [(1, newNm, (textAt fs n).extract 0 (endAt fs n), ⟨#[]⟩), (2, newNm, ⟨#[]⟩, ⟨#[]⟩), (3, newNm, ⟨#[]⟩, segNm (n : Int))]
/-- The acts that mend the last segment; none: another one is torn. -/
def tornGo (fs : List FiD) (act : Nat) : List Nat → Option (List ActD)
  | [] => some []
  | n :: r => if endAt fs n = (textAt fs n).size then tornGo fs act r else if n = act then (tornGo fs act r).map (torn3 fs n ++ ·) else none
def seqStep (fs : List FiD) (q : Int) (n : Nat) : Int := match (batsAt fs n).getLast? with
  | none => q
  | some p => p.1.1
/-- The Seq of the last batch of all. -/
def seqB (fs : List FiD) : Int := (segsB fs).foldl (seqStep fs) 0
/-- An engine: its disk, room, active segment, seq, directory. -/
abbrev EngD := List FiD × Int × Int × Int × List SpotD
def lastB (fs : List FiD) : Nat := (segsB fs).getLast?.getD 0
def openActs (fs : List FiD) : Option (List ActD) := (tornGo fs (lastB fs) (segsB fs)).map (cleanB fs (segsB fs) ++ ·)
def openDo (fs : List FiD) (room : Int) (acts : List ActD) : Option (EngD × List ActD) := if (doActsB fs acts).2 < acts.length then none else some (((doActsB fs acts).1, room, (lastB fs : Int), seqB fs, dirB fs), acts)
def openB (fs : List FiD) (room : Int) : Option (EngD × List ActD) := if inR room 100 20000 = true ∧ allKeptB fs = true ∧ riseB fs = true then (match openActs fs with
  | none => none
  | some acts => openDo fs room acts) else none
theorem open_no {fs : List FiD} {room : Int} (h : ¬ (inR room 100 20000 = true ∧ allKeptB fs = true ∧ riseB fs = true)) : openB fs room = none := if_neg h
theorem open_yes {fs : List FiD} {room : Int} (h1 : inR room 100 20000 = true) (h2 : allKeptB fs = true) (h3 : riseB fs = true) : openB fs room = (match openActs fs with
  | none => none
  | some acts => openDo fs room acts) := if_pos ⟨h1, h2, h3⟩
theorem rise_ne {fs : List FiD} (h : riseB fs = true) : ∃ a r, segsB fs = a :: r := by
  unfold riseB riseL at h
  cases hs : segsB fs with
  | nil => rw [hs] at h; simp at h
  | cons a r => exact ⟨a, r, rfl⟩
/-- Behind i segments acc is made; the rest is to come. -/
def TornAt (fs : List FiD) (act : Nat) (L : List Nat) (i : Nat) (acc : List ActD) : Prop := tornGo fs act L = (tornGo fs act (L.drop i)).map (acc ++ ·)
theorem torn_start (fs : List FiD) (act : Nat) (L : List Nat) : TornAt fs act L 0 [] := by
  unfold TornAt
  rw [List.drop_zero]
  cases tornGo fs act L <;> rfl
theorem drop_get' {α : Type} {l : List α} {j : Nat} {r : α} (hr : l[j]? = some r) : l.drop j = r :: l.drop (j + 1) := by
  obtain ⟨h, e⟩ := List.getElem?_eq_some_iff.1 hr
  rw [List.drop_eq_getElem_cons h, e]
theorem torn_whole {fs : List FiD} {act : Nat} {L : List Nat} {i n : Nat} {acc : List ActD} (h : TornAt fs act L i acc) (hn : L[i]? = some n) (hw : endAt fs n = (textAt fs n).size) : TornAt fs act L (i + 1) acc := by
  unfold TornAt at h ⊢
  rw [h, drop_get' hn, tornGo, if_pos hw]
theorem torn_bad {fs : List FiD} {act : Nat} {L : List Nat} {i n : Nat} {acc : List ActD} (h : TornAt fs act L i acc) (hn : L[i]? = some n) (hw : endAt fs n ≠ (textAt fs n).size) (ha : n ≠ act) : tornGo fs act L = none := by
  unfold TornAt at h
  rw [h, drop_get' hn, tornGo, if_neg hw, if_neg ha]
  rfl
theorem torn_last {fs : List FiD} {act : Nat} {L : List Nat} {i n : Nat} {acc : List ActD} (h : TornAt fs act L i acc) (hn : L[i]? = some n) (hw : endAt fs n ≠ (textAt fs n).size) (ha : n = act) : TornAt fs act L (i + 1) (acc ++ torn3 fs n) := by
  unfold TornAt at h ⊢
  rw [h, drop_get' hn, tornGo, if_neg hw, if_pos ha]
  cases tornGo fs act (L.drop (i + 1)) with
  | none => rfl
  | some r => simp
theorem torn_end {fs : List FiD} {act : Nat} {L : List Nat} {i : Nat} {acc : List ActD} (h : TornAt fs act L i acc) (hi : L.length ≤ i) : tornGo fs act L = some acc := by
  unfold TornAt at h
  rw [h, List.drop_eq_nil_of_le hi, tornGo]
  simp
/-- In a list that rises a thing is the last just when it stands at the end. -/
theorem last_iff {L : List Nat} (hi : L.Pairwise (· < ·)) {i n : Nat} (hn : L[i]? = some n) : n = L.getLast?.getD 0 ↔ i + 1 = L.length := by
  obtain ⟨hl, e⟩ := List.getElem?_eq_some_iff.1 hn
  have hz : L.getLast?.getD 0 = L[L.length - 1] := by rw [List.getLast?_eq_getElem?, List.getElem?_eq_getElem (by omega)]; rfl
  rw [hz]
  constructor
  · intro h
    by_cases hc : i < L.length - 1
    · have := List.pairwise_iff_getElem.1 hi i (L.length - 1) hl (by omega) hc
      omega
    · omega
  · intro h
    have : i = L.length - 1 := by omega
    subst this
    exact e.symm
theorem doActs_none {fs : List FiD} {a : ActD} {r : List ActD} (h : doActB fs a = none) : doActsB fs (a :: r) = (fs, 0) := by rw [doActsB, h]
theorem doActs_some {fs out : List FiD} {a : ActD} {r : List ActD} (h : doActB fs a = some out) : doActsB fs (a :: r) = ((doActsB out r).1, (doActsB out r).2 + 1) := by rw [doActsB, h]
/-- Behind i acts the disk is now. -/
def ActsAt (fs : List FiD) (ls : List ActD) (i : Nat) (now : List FiD) : Prop := doActsB fs ls = ((doActsB now (ls.drop i)).1, (doActsB now (ls.drop i)).2 + i)
theorem acts_start (fs : List FiD) (ls : List ActD) : ActsAt fs ls 0 fs := rfl
theorem acts_step {fs now out : List FiD} {ls : List ActD} {i : Nat} {a : ActD} (h : ActsAt fs ls i now) (ha : ls[i]? = some a) (ho : doActB now a = some out) : ActsAt fs ls (i + 1) out := by
  unfold ActsAt at h ⊢
  rw [h, drop_get' ha, doActs_some ho, Nat.add_assoc, Nat.add_comm 1 i]
theorem acts_stop {fs now : List FiD} {ls : List ActD} {i : Nat} {a : ActD} (h : ActsAt fs ls i now) (ha : ls[i]? = some a) (ho : doActB now a = none) : doActsB fs ls = (now, i) := by
  unfold ActsAt at h
  rw [h, drop_get' ha, doActs_none ho, Nat.zero_add]
theorem acts_end {fs now : List FiD} {ls : List ActD} {i : Nat} (h : ActsAt fs ls i now) (hi : i = ls.length) : doActsB fs ls = (now, ls.length) := by
  unfold ActsAt at h
  rw [h, hi, List.drop_length, doActsB, Nat.zero_add]
theorem doAct_ok {fs out : List FiD} {a : ActD} (h : doActB fs a = some out) : diskOkB fs = true ∧ diskOkB out = true := by
  unfold doActB at h
  split at h
  · rename_i hk
    unfold actOk at hk
    simp only [Bool.and_eq_true] at hk
    refine ⟨hk.1.1, ?_⟩
    split at h
    · cases h
    · split at h
      · rename_i ho
        obtain rfl := Option.some.inj h
        exact ho
      · cases h
  · cases h
end Go.Proofs.YtaacpdejpcbbbaaGreatDoor

namespace Go.Proofs.YtaacpdejpcbbbaaGreatDoor
set_option linter.unusedVariables false
set_option linter.unusedSimpArgs false
open Go.RowKit
attribute [local go_sem] bs_size List.length_cons List.length_nil List.length_append

/-- An act ls the engine makes them. -/
def ActSh (a : ActD) : Prop := inR (a.2.1.size : Int) 1 8 = true ∧ ((a.1 = 1 ∧ a.2.2.2 = ⟨#[]⟩ ∧ a.2.2.1.size ≤ 1000000000) ∨ (a.1 = 2 ∧ a.2.2.1 = ⟨#[]⟩ ∧ a.2.2.2 = ⟨#[]⟩) ∨ (a.1 = 4 ∧ a.2.2.1 = ⟨#[]⟩ ∧ a.2.2.2 = ⟨#[]⟩) ∨ (a.1 = 3 ∧ a.2.2.1 = ⟨#[]⟩ ∧ a.2.2.2.size ≤ 9223372036854775807))
theorem disk_sm {fs : List FiD} (h : diskOkB fs = true) : ∀ x ∈ fs, x.1.size ≤ 9223372036854775807 ∧ x.2.1.size ≤ 9223372036854775807 := fun x hx => by have := diskOk_small h hx; omega
theorem nm_small {a : ByteArray} (h : inR (a.size : Int) 1 8 = true) : a.size ≤ 8 := by unfold inR at h; simp at h; omega
theorem diskOk_l30 {fs : List FiD} (h : diskOkB fs = true) : fs.length ≤ 30 := by
  unfold diskOkB at h
  rw [Bool.and_eq_true, decide_eq_true_eq] at h
  exact h.2
theorem impl_DoAct_calls (B : Nat) (A : Option Addr) (n c : Nat) (fs : List FiD) (a : ActD) (w : World) (h : FiOwn w B (.slice A n c) fs) (hd : diskOkB fs = true) (ha : ActSh a) :
    Calls Tryz.prog 110 #[.agg #[.slice A n c], .agg #[.int .i64 a.1, .string a.2.1, .string a.2.2.1, .string a.2.2.2]] w (ActPost w (doActB fs a)) := by
  obtain ⟨k, nm, tx, tg⟩ := a
  obtain ⟨hn, ha⟩ := ha
  have hn8 := nm_small hn
  have hl := diskOk_l30 hd
  dsimp only at hn8 ha ⊢
  rcases ha with ⟨rfl, rfl, h3⟩ | ⟨rfl, rfl, rfl⟩ | ⟨rfl, rfl, rfl⟩ | ⟨rfl, rfl, h3⟩
  · exact impl_DoAct_add B A n c fs nm tx w h (disk_sm hd) (by omega) (by omega) h3
  · exact impl_DoAct_keep B A n c fs nm w h (disk_sm hd) (by omega) hd
  · exact impl_DoAct_drop B A n c fs nm w h (disk_sm hd) (by omega) hd
  · exact impl_DoAct_move B A n c fs nm tg w h (disk_sm hd) (by omega) hd h3
theorem FiOwn.apart {w : World} {B g : Nat} {v : Value} {fs : List FiD} {cs : Array Value} {ty : TypeId} {z : Nat × Nat} (h : FiOwn w B v fs) (hg : w.heap[g]? = some (.cells cs ty z)) (hty : ty ≠ 105) : v.ownBlock ≠ some g := by
  intro e
  rcases h.2 with ⟨e0, _⟩ | ⟨b, cap, cur, e0, _, hb, _⟩
  · rw [e0] at e; simp [Value.ownBlock] at e
  · rw [e0] at e
    cases e
    rw [hg] at hb
    injection hb with hb
    injection hb with _ hb _
    exact hty hb
/-- A copy of a disk, whose row stands at the head of a block. -/
def AtHead (A : Option Addr) (fs : List FiD) : Prop := fs = [] ∨ ∃ b, A = some ⟨b, 0, none⟩
theorem FiOwn.head {w : World} {B n c : Nat} {A : Option Addr} {fs : List FiD} (h : FiOwn w B (.slice A n c) fs) : AtHead A fs := by
  rcases h.2 with ⟨_, h0⟩ | ⟨g, cap, cur, e, _⟩
  · exact .inl (List.eq_nil_of_length_eq_zero h0)
  · cases e; exact .inr ⟨g, rfl⟩
theorem impl_copyDisk_row (A : Option Addr) (c : Nat) (fs : List FiD) (w : World) (h : FiRow w A c fs) (hA : AtHead A fs) (hl : fs.length ≤ 1000000) :
    Calls Tryz.prog 109 #[.agg #[.slice A fs.length c]] w fun e w' => ∃ v', e = .returned (.agg #[v']) ∧ FiOwn w' w.heap.size v' fs ∧ Below w.heap.size w w' := by
  rcases Nat.eq_zero_or_pos fs.length with h0 | h0
  · have e0 := List.eq_nil_of_length_eq_zero h0
    subst e0
    exact (impl_copyDisk_nil A c w).mono fun e w' ⟨h1, h2⟩ => ⟨_, h1, World.ownsRow_nil .., h2⟩
  · rcases hA with rfl | ⟨b, rfl⟩
    · simp at h0
    · exact (impl_copyDisk_calls b c fs w h h0 hl).mono fun e w' ⟨b', c', h1, h2, h3⟩ => ⟨_, h1, h2, h3⟩
def ActsPost (w : World) (r : List FiD × Nat) (e : Ending) (w' : World) : Prop := ∃ v, e = .returned (.tuple #[.agg #[v], .int .i64 (r.2 : Int)]) ∧ FiOwn w' w.heap.size v r.1 ∧ Below w.heap.size w w'
/-- The result's box, the disk's box, its row. -/
structure DX (w : World) (gr gd : Nat) (ov : Value) (now : List FiD) (W : World) : Prop where
  b : Below w.heap.size w W
  r : W.heap[gr]? = some (.cells #[.slice none 0 0] 32 (0, 0))
  o : W.heap[gd]? = some (.cells #[ov] 32 (0, 0))
  own : FiOwn W w.heap.size ov now
  far : w.heap.size ≤ gr ∧ gr < gd
section
variable {w W W' : World} {gr gd : Nat} {ov : Value} {now : List FiD}
theorem DX.go (h : DX w gr gd ov now W) (hb : Below W.heap.size W W') : DX w gr gd ov now W' := ⟨h.b.trans (hb.mono h.b.size), blk_below h.r hb, blk_below h.o hb, h.own.below hb, h.far⟩
theorem DX.set {v' : Value} {fs' : List FiD} (h : DX w gr gd ov now W) (ho : FiOwn W w.heap.size v' fs') : DX w gr gd v' fs' (W.setCell ⟨gd, 0, none⟩ v') := by
  have hf := h.far
  exact ⟨h.b.setCell (p := ⟨gd, 0, none⟩) (by show w.heap.size ≤ gd; omega) _, (gr_setne _ _ _ _ _ (by omega)).trans h.r, by rw [blk_set h.o]; rfl, World.ownsRow.kept ho (gr_set W gd 0 _) (.inr (ho.apart h.o (by decide))), hf⟩
end
theorem acts_end' {fn : Func} {w W : World} {gr gd n : Nat} {ov : Value} {now : List FiD} {r : List FiD × Nat} {tmps : Array Value} (hf : fn.results = #[.cell 4 32, .tmp 5]) (h : DX w gr gd ov now W) (hp : tmps.getD 4 undef = .pointer (some ⟨gr, 0, none⟩)) (h5 : tmps.getD 5 undef = .int .i64 (n : Int)) (hr : r = (now, n)) :
    bodyPost Tryz.prog fn (fun e w' => ActsPost w r e w') .ret ⟨tmps, []⟩ (W.setCell ⟨gr, 0, none⟩ ov) := by
  subst hr
  obtain ⟨fx, hu⟩ := und_dskP
  have hfr := h.far
  exact res_box1 hf (g := gr) (cs := #[ov]) (by rw [blk_set h.r]; rfl) hp hu info_dskP _ h5 ⟨ov, rfl, World.ownsRow.kept h.own (gr_set W gr 0 _) (.inr (h.own.apart h.r (by decide))), h.b.setCell (p := ⟨gr, 0, none⟩) (by show w.heap.size ≤ gr; omega) _⟩
theorem acts_ok {fs now : List FiD} {ls : List ActD} {i : Nat} (hd : diskOkB now = true) {a : ActD} {out : List FiD} (ho : doActB now a = some out) : diskOkB out = true := (doAct_ok ho).2
set_option maxHeartbeats 8000000 in
set_option maxRecDepth 100000 in
theorem impl_DoActs_calls (A Ac : Option Addr) (c ca : Nat) (fs : List FiD) (ls : List ActD) (w : World) (h : FiRow w A c fs) (hA : AtHead A fs) (ha : AcRow w Ac ca ls) (hs : ∀ a ∈ ls, ActSh a) (hd : diskOkB fs = true) :
    Calls Tryz.prog 63 #[.agg #[.slice A fs.length c], .slice Ac ls.length ca] w (ActsPost w (doActsB fs ls)) := by
  have hs1 : (w.alloc (.cells #[.slice A fs.length c] 32)).heap.size = w.heap.size + 1 := by simp
  have HAL : Hid (Below w.heap.size w ((w.alloc (.cells #[.slice A fs.length c] 32)).alloc (.cells #[.slice none 0 0] 32))) := ((Below.refl _ _).alloc (Nat.le_refl _) _).alloc (by simp) _
  have HR := Lib.hid (h.below HAL.out)
  have HC := Lib.hid ha
  have HX : Hid (((w.alloc (.cells #[.slice A fs.length c] 32)).alloc (.cells #[.slice none 0 0] 32)).heap[w.heap.size + 1]? = some (.cells #[.slice none 0 0] 32 (0, 0))) := by rw [Hid, ← hs1]; exact blk_new _ _
  have HZ : Hid (((w.alloc (.cells #[.slice A fs.length c] 32)).alloc (.cells #[.slice none 0 0] 32)).heap.size = w.heap.size + 2) := by rw [Hid]; simp
  have p0 : ((w.alloc (.cells #[.slice A fs.length c] 32)).alloc (.cells #[.slice none 0 0] 32)).cell? ⟨w.heap.size, 0, none⟩ = some (.slice A fs.length c) := cell_new (blk_cell (blk_new w _) 0) _
  have HL := Lib.hid (diskOk_l30 hd)
  have HSH := Lib.hid hs
  have HDK := Lib.hid hd
  have HAH := Lib.hid hA
  have hal := ha.len
  clear h ha hs hd hs1 hA
  go_enter Tryz.func63, Tryz.ntmps63
  go_wp2_with fail
  go_at_call 109
  refine (impl_copyDisk_row A c fs _ HR.out HAH.out (by have := HL.out; omega)).mono ?_
  rintro e w1 ⟨v1, rfl, ho, hb⟩
  obtain ⟨A1, c1, e1⟩ := ho.form
  subst e1
  have HS1 : Hid (DX w (w.heap.size + 1) w1.heap.size (.slice A1 fs.length c1) fs (w1.alloc (.cells #[.slice A1 fs.length c1] 32))) := by
    have hb2 : Below w1.heap.size w1 (w1.alloc (.cells #[.slice A1 fs.length c1] 32)) := (Below.refl _ _).alloc (Nat.le_refl _) _
    have hsz := hb.size
    have hz := HZ.out
    have h1 := HAL.out.trans (hb.mono HAL.out.size)
    exact ⟨h1.trans (hb2.mono h1.size), gr_old (blk_below HX.out hb) _, blk_new w1 _, (ho.mono (by omega)).below hb2, by omega, by omega⟩
  clear ho hb p0 HX HR HZ HAL
  go_wp2
  generalize w1.alloc (.cells #[.slice A1 fs.length c1] 32) = W2 at HS1 ⊢
  generalize w1.heap.size = gd at HS1 ⊢
  go_loopw [15] (fun iv wr => ∃ (i : Nat) (ov : Value) (now : List FiD), i ≤ ls.length ∧ iv = .int .i64 (i : Int) ∧ Hid (ActsAt fs ls i now) ∧ Hid (diskOkB now = true) ∧ Hid (DX w (w.heap.size + 1) gd ov now wr)) (fun iv _ => ls.length - (intOf iv).toNat)
  case atStart => exact ⟨0, _, fs, Nat.zero_le _, rfl, acts_start _ _, HDK, HS1⟩
  case round =>
    clear HS1
    obtain ⟨i, ov, now, hi, rfl, HT, HN, HS⟩ := hrel
    obtain ⟨A2, c2, e2⟩ := HS.out.own.form
    subst e2
    by_cases hlt : i < ls.length
    · obtain ⟨ad, a, hA, HX, hc0, hc1, hc2, hc3⟩ := (HC.out.below HS.out.b).at_ hlt
      cases hA
      obtain ⟨k, nm, tx, tg⟩ := a
      dsimp only at hc0 hc1 hc2 hc3
      have HSA := Lib.hid (HS.out.go ((Below.refl _ _).alloc (Nat.le_refl _) (.cells #[.int .i64 k, .string nm, .string tx, .string tg] 96)))
      have o0 := blk_cell HSA.out.o 0
      have HSH1 := Lib.hid (HSH.out _ (List.mem_of_getElem? HX.out))
      have hli : (i : Int) < (ls.length : Int) := by omega
      go_wp2_with fail
      go_at_call 110
      refine (impl_DoAct_calls w.heap.size A2 now.length c2 now (k, nm, tx, tg) _ HSA.out.own HN.out HSH1.out).mono ?_
      rintro e w2 ⟨hb, hm⟩
      have HS2 := Lib.hid (HSA.out.go hb)
      obtain ⟨o, ho⟩ : ∃ o, doActB now (k, nm, tx, tg) = o := ⟨_, rfl⟩
      rw [ho] at hm
      have HO := Lib.hid ho
      have HZ : Hid (w.heap.size ≤ (wr.alloc (.cells #[.int .i64 k, .string nm, .string tx, .string tg] 96)).heap.size) := HSA.out.b.size
      clear ho hc0 hc1 hc2 hc3 o0 hb
      cases o with
      | none =>
        dsimp only at hm
        subst hm
        have HE := Lib.hid (acts_stop HT.out HX.out HO.out)
        have HS3 := Lib.hid (HS2.out.go ((Below.refl _ _).alloc (Nat.le_refl _) (.cells #[.slice none 0 0] 32)))
        have q0 := blk_cell HS3.out.o 0
        have r0 := blk_cell HS3.out.r 0
        have rf := blk_frozen HS3.out.r 0
        go_wp2
        exact acts_end' rfl HS3.out rfl rfl HE.out
      | some out =>
        obtain ⟨v3, rfl, hov⟩ := hm
        obtain ⟨A3, c3, e3⟩ := hov.form
        subst e3
        have HAL3 : Hid (Below w2.heap.size w2 (w2.alloc (.cells #[.slice A3 out.length c3] 32))) := (Below.refl _ _).alloc (Nat.le_refl _) _
        have HS3 := Lib.hid (HS2.out.go HAL3.out)
        have HS4 := Lib.hid (HS3.out.set ((hov.mono HZ.out).below HAL3.out))
        have HE := Lib.hid (acts_step HT.out HX.out HO.out)
        have HDO := Lib.hid (doAct_ok HO.out).2
        have q0 := blk_cell HS3.out.o 0
        have qf := blk_frozen HS3.out.o 0
        have n0 := blk_cell (blk_new w2 (.cells #[.slice A3 out.length c3] 32)) 0
        clear hov
        go_wp2
        go_roundw
        case rel => exact ⟨i + 1, _, out, by omega, by go_num, HE, HDO, HS4⟩
        case measure => simp [intOf]; omega
    · obtain rfl : i = ls.length := by omega
      have HE := Lib.hid (acts_end HT.out rfl)
      have q0 := blk_cell HS.out.o 0
      have r0 := blk_cell HS.out.r 0
      have rf := blk_frozen HS.out.r 0
      go_wp2
      exact acts_end' rfl HS.out rfl rfl HE.out
end Go.Proofs.YtaacpdejpcbbbaaGreatDoor

namespace Go.Proofs.YtaacpdejpcbbbaaGreatDoor
set_option linter.unusedVariables false
set_option linter.unusedSimpArgs false
open Go.RowKit

def sumFr (rs : List ByteArray) : Nat := (rs.map frameLen).sum
theorem placedGo_rec : ∀ (rs : List ByteArray) (last : Option Int) (a j : Nat) (p : PlD), (placedGo last a rs)[j]? = some p → ∃ r, rs[j]? = some r ∧ readBatS r = some p.1 ∧ p.2.1 = a + sumFr (rs.take j) ∧ p.2.2 = frameLen r
  | [], last, a, j, p, h => by simp [placedGo] at h
  | r :: rs, last, a, j, p, h => by
    have go : ∀ b : BatD, readBatS r = some b → ((b, a, frameLen r) :: placedGo (some b.1) (a + frameLen r) rs)[j]? = some p → ∃ r', (r :: rs)[j]? = some r' ∧ readBatS r' = some p.1 ∧ p.2.1 = a + sumFr ((r :: rs).take j) ∧ p.2.2 = frameLen r' := by
      intro b hb hp
      cases j with
      | zero =>
        obtain rfl : (b, a, frameLen r) = p := by simpa using hp
        exact ⟨r, rfl, hb, by simp [sumFr], rfl⟩
      | succ j =>
        obtain ⟨r', h1, h2, h3, h4⟩ := placedGo_rec rs (some b.1) (a + frameLen r) j p (by simpa using hp)
        refine ⟨r', by simpa using h1, h2, ?_, h4⟩
        rw [h3, List.take_succ_cons]
        unfold sumFr
        rw [List.map_cons, List.sum_cons]
        omega
    cases hb : readBatS r with
    | none => rw [placedGo_none hb] at h; simp at h
    | some b =>
      cases last with
      | none => rw [placedGo_first hb] at h; exact go b hb h
      | some q =>
        by_cases hq : b.1 ≤ q
        · rw [placedGo_low hb hq] at h; simp at h
        · rw [placedGo_next hb hq] at h; exact go b hb h
theorem unfr_sum : ∀ (f : Nat) (l : List UInt8), sumFr (unfr f l).1 = (unfr f l).2
  | 0, l => rfl
  | f + 1, l => by
    cases hq : frOf l with
    | none => rw [unfr_none hq]; rfl
    | some p =>
      obtain ⟨t, m⟩ := p
      obtain ⟨h1, h2, h3, h4, h5⟩ := frOf_took hq
      have hm : frameLen (bs t) = m := by
        unfold frameLen
        rw [ub_bs, h5]
        show (l.take m).length = m
        rw [List.length_take]
        omega
      rw [unfr_some hq]
      have ih := unfr_sum f (l.drop m)
      unfold sumFr at ih ⊢
      rw [List.map_cons, List.sum_cons, hm, ih]
theorem sumFr_take (rs : List ByteArray) (j : Nat) : sumFr (rs.take j) ≤ sumFr rs := by
  have h : sumFr rs = sumFr (rs.take j) + sumFr (rs.drop j) := by
    unfold sumFr
    rw [← List.sum_append, ← List.map_append, List.take_append_drop]
  omega
theorem unframe_sum (s : ByteArray) : sumFr (unframeB s).1 ≤ s.size := by
  unfold unframeB
  split
  · rw [unfr_sum]
    have := (unfr_le (s.size + 1) (ub s)).1
    rw [ub_length] at this
    exact this
  · exact Nat.zero_le _
theorem endOf_le {n : Int} {s : ByteArray} {f l : Nat} {pls : List PlD} (h : segPl n s = some (f, l, pls)) : endOf l pls ≤ s.size := by
  obtain ⟨r, rs, hu, hl, he⟩ := segPl_some (f := f) (l := l) (by have := segPl_head n s; rw [h] at this; exact this.symm)
  rw [h] at he
  simp only [Option.some.injEq, Prod.mk.injEq, true_and] at he
  have hs := unframe_sum s
  rw [hu] at hs
  unfold endOf
  cases hg : pls.getLast? with
  | none =>
    dsimp only
    have := sumFr_take (r :: rs) 1
    have h1 : sumFr ((r :: rs).take 1) = frameLen r := by simp [sumFr]
    omega
  | some p =>
    dsimp only
    have hj : pls[pls.length - 1]? = some p := by rw [← List.getLast?_eq_getElem?, hg]
    rw [he] at hj
    obtain ⟨r', h1, _, h3, h4⟩ := placedGo_rec rs none l _ p hj
    have h5 := sumFr_take (r :: rs) ((placedGo none l rs).length - 1 + 2)
    have h6 : sumFr ((r :: rs).take ((placedGo none l rs).length - 1 + 2)) = frameLen r + (sumFr (rs.take ((placedGo none l rs).length - 1)) + frameLen r') := by
      rw [List.take_succ_cons, take_snoc h1]
      unfold sumFr
      rw [List.map_cons, List.sum_cons, List.map_append, List.sum_append]
      simp
    omega
theorem endAt_le (fs : List FiD) (n : Nat) : endAt fs n ≤ (textAt fs n).size := by
  unfold endAt
  cases hs : segPl (n : Int) (textAt fs n) with
  | none => exact Nat.zero_le _
  | some x =>
    obtain ⟨f, l, pls⟩ := x
    exact endOf_le hs
/-- What ReadSegment gives of a segment, in one form. -/
theorem segU (fs : List FiD) (m : Nat) (t : ByteArray) (ht : textAt fs m = t) : ∃ (f : Nat) (ok : Bool), (∀ (w : World) (e : Ending) (w' : World), SegPost w (segPl (m : Int) t) e w' → ∃ v, e = .returned (.tuple #[.int .i64 (f : Int), v, .int .i64 (endAt fs m : Int), .bool ok]) ∧ BatsOwn w' w.heap.size v ((batsAt fs m).map Prod.fst) ∧ Below w.heap.size w w') ∧ (batsAt fs m).length ≤ 20000 := by
  unfold batsAt endAt
  rw [show (fileB fs (segNm (m : Int))).getD ⟨#[]⟩ = t from ht, ht]
  cases hs : segPl (m : Int) t with
  | none => exact ⟨0, false, fun w e w' hp => by obtain ⟨hb, v, he, ho⟩ := hp; exact ⟨v, he, ho, hb⟩, by simp⟩
  | some p =>
    obtain ⟨f, l, pls⟩ := p
    exact ⟨f, true, fun w e w' hp => by obtain ⟨hb, v, he, ho⟩ := hp; exact ⟨v, he, ho, hb⟩, (segPl_bound hs).2.1⟩
end Go.Proofs.YtaacpdejpcbbbaaGreatDoor

namespace Go.Proofs.YtaacpdejpcbbbaaGreatDoor
set_option linter.unusedVariables false
set_option linter.unusedSimpArgs false
open Go.RowKit

/-- An engine in a block. -/
abbrev engO (v : Value) (r a q : Int) (dv : Value) : Obj := .cells #[v, .int .i64 r, .int .i64 a, .int .i64 q, dv] 35
theorem und_eng : ∃ fs, Tryz.prog.underlying 35 = some (.struct fs) := ⟨_, Tryz.underlying35⟩
theorem info_eng : (Tryz.prog.info? 35).map (·.size) = some 5 := by kernel_rfl
def set5 (w : World) (g : Nat) (a b c d e : Value) : World := ((((w.setCell ⟨g, 0, none⟩ a).setCell ⟨g, 1, none⟩ b).setCell ⟨g, 2, none⟩ c).setCell ⟨g, 3, none⟩ d).setCell ⟨g, 4, none⟩ e
theorem set5_blk {w : World} {g : Nat} {x0 x1 x2 x3 x4 a b c d e : Value} {t : TypeId} (h : w.heap[g]? = some (.cells #[x0, x1, x2, x3, x4] t (0, 0))) : (set5 w g a b c d e).heap[g]? = some (.cells #[a, b, c, d, e] t (0, 0)) := by
  unfold set5
  rw [blk_set (blk_set (blk_set (blk_set (blk_set h 0 a) 1 b) 2 c) 3 d) 4 e]
  rfl
theorem set5_grown (w : World) (g : Nat) (a b c d e : Value) : w.grownBy (set5 w g a b c d e) (some g) := grown_set (grown_set (grown_set (grown_set (grown_set (World.grownBy.refl w _) 0 a) 1 b) 2 c) 3 d) 4 e
theorem own_apart {w : World} {B sz n g : Nat} {T ty : TypeId} {v : Value} {fl : List Value} {cs : Array Value} {z : Nat × Nat} (h : w.ownsRow B T sz v n fl) (hg : w.heap[g]? = some (.cells cs ty z)) (hty : ty ≠ T) : v.ownBlock ≠ some g := by
  intro e
  rcases h.2 with ⟨e0, _⟩ | ⟨b, cap, cur, e0, _, hb, _⟩
  · rw [e0] at e; simp [Value.ownBlock] at e
  · rw [e0] at e
    cases e
    rw [hg] at hb
    injection hb with hb
    injection hb with _ hb _
    exact hty hb
theorem own_apart2 {w : World} {B B' sz sz' n n' : Nat} {T T' : TypeId} {v v' : Value} {fl fl' : List Value} (h : w.ownsRow B T sz v n fl) (h' : w.ownsRow B' T' sz' v' n' fl') (hty : T' ≠ T) : ∀ k, v'.ownBlock = some k → v.ownBlock ≠ some k := by
  intro k e
  rcases h'.2 with ⟨e0, _⟩ | ⟨b, cap, cur, e0, _, hb, _⟩
  · rw [e0] at e; simp [Value.ownBlock] at e
  · rw [e0] at e
    cases e
    exact own_apart h hb hty
theorem own_aside {w w' : World} {B B' sz sz' n n' : Nat} {T T' : TypeId} {v v' : Value} {fl fl' : List Value} (h : w.ownsRow B T sz v n fl) (h' : w.ownsRow B' T' sz' v' n' fl') (hty : T' ≠ T) (hg : w.grownBy w' v'.ownBlock) : w'.ownsRow B T sz v n fl := by
  refine World.ownsRow.kept h hg ?_
  cases hv : v.ownBlock with
  | none => exact .inl rfl
  | some k => exact .inr fun e => own_apart2 h h' hty k e.symm hv
theorem own_set {w : World} {B sz n g i : Nat} {T ty : TypeId} {v x : Value} {fl : List Value} {cs : Array Value} {z : Nat × Nat} (h : w.ownsRow B T sz v n fl) (hg : w.heap[g]? = some (.cells cs ty z)) (hty : ty ≠ T) : (w.setCell ⟨g, i, none⟩ x).ownsRow B T sz v n fl :=
  World.ownsRow.kept h (gr_set w g i x) (.inr (own_apart h hg hty))
/-- An engine as a value. -/
def engV (dv : Value) (E : EngD) (sv : Value) : Value := .agg #[dv, .int .i64 E.2.1, .int .i64 E.2.2.1, .int .i64 E.2.2.2.1, sv]
/-- What opening a disk gives. -/
def OpenPost (w : World) (o : Option (EngD × List ActD)) (e : Ending) (w' : World) : Prop := Below w.heap.size w w' ∧ match o with
  | none => ∃ v, e = .returned (.tuple #[.agg #[.slice none 0 0, .int .i64 0, .int .i64 0, .int .i64 0, .slice none 0 0], v, .bool false]) ∧ AcOwn w' w.heap.size v []
  | some (E, acs) => ∃ dv sv av, e = .returned (.tuple #[engV dv E sv, av, .bool true]) ∧ FiOwn w' w.heap.size dv E.1 ∧ SpOwn w' w.heap.size sv E.2.2.2.2 ∧ AcOwn w' w.heap.size av acs
theorem segNm_sz {n : Nat} (h : n ≤ 99) : inR ((segNm (n : Int)).size : Int) 1 8 = true := by
  have h1 := (segNm_yes h)
  rw [h1, ByteArray.size_append, bs_size]
  have h2 : (Lib.itoa (n : Int)).length ≤ 2 := by
    have : ∀ k : Fin 100, (Lib.itoa ((k : Nat) : Int)).length ≤ 2 := by decide +kernel
    exact this ⟨n, by omega⟩
  unfold inR
  show (decide _ && decide _) = true
  rw [show (⟨#[98]⟩ : ByteArray).size = 1 from rfl]
  simp
  omega
theorem newNm_sz : inR (newNm.size : Int) 1 8 = true := rfl
theorem drop_sh {n : ByteArray} (h : inR (n.size : Int) 1 8 = true) : ActSh (dropA n) := ⟨h, .inr (.inr (.inl ⟨rfl, rfl, rfl⟩))⟩
theorem disk_nm {fs : List FiD} (h : diskOkB fs = true) {x : FiD} (hx : x ∈ fs) : inR (x.1.size : Int) 1 8 = true := by
  obtain ⟨i, hi, rfl⟩ := List.getElem_of_mem hx
  unfold diskOkB at h
  rw [Bool.and_eq_true, List.all_eq_true] at h
  have h1 := h.1 i (List.mem_range.2 hi)
  by_cases hb : inR (fs[i].1.size : Int) 1 8 = true
  · exact hb
  · have := fiAt_bad (i := i) (List.getElem?_eq_getElem hi) (fiOk_name (t := fs[i].2.1) (k := fs[i].2.2) (by simpa using hb))
    rw [this] at h1
    cases h1
theorem clean_sh {fs : List FiD} (hd : diskOkB fs = true) (L : List Nat) : ∀ a ∈ cleanB fs L, ActSh a := by
  intro a ha
  unfold cleanB at ha
  rcases List.mem_append.1 ha with h | h
  · obtain ⟨x, hx, h⟩ := List.mem_flatMap.1 h
    unfold cNew at h
    split at h
    · obtain rfl := List.mem_singleton.1 h
      exact drop_sh newNm_sz
    · simp at h
  · obtain ⟨x, hx, h⟩ := List.mem_flatMap.1 h
    unfold cOld at h
    split at h
    · simp at h
    · split at h
      · simp at h
      · obtain rfl := List.mem_singleton.1 h
        exact drop_sh (disk_nm hd hx)
theorem torn3_sh {fs : List FiD} (hd : diskOkB fs = true) {n : Nat} (hn : n ≤ 99) : ∀ a ∈ torn3 fs n, ActSh a := by
  intro a ha
  have h1 := get_small (n := segNm (n : Int)) hd
  have h2 := segNm_sz hn
  have h3 := nm_small h2
  unfold torn3 at ha
  simp only [List.mem_cons, List.not_mem_nil, or_false] at ha
  rcases ha with rfl | rfl | rfl
  · refine ⟨newNm_sz, .inl ⟨rfl, rfl, ?_⟩⟩
    dsimp only
    rw [ByteArray.size_extract]
    have : (textAt fs n).size ≤ 20000 := h1
    omega
  · exact ⟨newNm_sz, .inr (.inl ⟨rfl, rfl, rfl⟩)⟩
  · exact ⟨newNm_sz, .inr (.inr (.inr ⟨rfl, rfl, by dsimp only; omega⟩))⟩
theorem torn_sh {fs : List FiD} (hd : diskOkB fs = true) (act : Nat) : ∀ (L : List Nat), (∀ n ∈ L, n ≤ 99) → ∀ acs, tornGo fs act L = some acs → ∀ a ∈ acs, ActSh a
  | [], _, acs, h, a, ha => by
    rw [tornGo] at h
    cases h
    simp at ha
  | n :: r, hL, acs, h, a, ha => by
    rw [tornGo] at h
    split at h
    · exact torn_sh hd act r (fun m hm => hL m (by simp [hm])) acs h a ha
    · split at h
      · cases hr : tornGo fs act r with
        | none => rw [hr] at h; cases h
        | some acs' =>
          rw [hr] at h
          obtain rfl : torn3 fs n ++ acs' = acs := by simpa using h
          rcases List.mem_append.1 ha with h1 | h1
          · exact torn3_sh hd (hL n (by simp)) a h1
          · exact torn_sh hd act r (fun m hm => hL m (by simp [hm])) acs' hr a h1
      · cases h
theorem torn_len {fs : List FiD} (act : Nat) : ∀ (L : List Nat) (acs : List ActD), tornGo fs act L = some acs → acs.length ≤ 3 * L.length
  | [], acs, h => by rw [tornGo] at h; cases h; simp
  | n :: r, acs, h => by
    rw [tornGo] at h
    split at h
    · have := torn_len act r acs h
      rw [List.length_cons]
      omega
    · split at h
      · cases hr : tornGo fs act r with
        | none => rw [hr] at h; cases h
        | some acs' =>
          rw [hr] at h
          obtain rfl : torn3 fs n ++ acs' = acs := by simpa using h
          have := torn_len act r acs' hr
          rw [List.length_append, List.length_cons]
          have : (torn3 fs n).length = 3 := rfl
          omega
      · cases h
theorem seq_none {fs : List FiD} {q : Int} {n : Nat} (h : batsAt fs n = []) : seqStep fs q n = q := by unfold seqStep; rw [h]; rfl
theorem seq_some {fs : List FiD} {q : Int} {n k : Nat} {p : PlD} (hk : (batsAt fs n).length = k + 1) (h : (batsAt fs n)[k]? = some p) : seqStep fs q n = p.1.1 := by
  unfold seqStep
  rw [List.getLast?_eq_getElem?, hk, Nat.add_sub_cancel, h]
theorem segs_99 {fs : List FiD} : ∀ n ∈ segsB fs, n ≤ 99 := fun n hn => by have := (segs_lt hn).1; omega
end Go.Proofs.YtaacpdejpcbbbaaGreatDoor
