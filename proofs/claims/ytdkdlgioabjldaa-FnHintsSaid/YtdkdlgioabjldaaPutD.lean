/- Disks: rows of files of the call's own; l03Put of the reference. -/
import Derived.Test.YtdkdlgioabjldaaFileA
import Derived.Test.YtdkdlgioabjldaaDrawB
import Derived.Deep.RegionHeld3
import Derived.Deep.RegionLaw
import Derived.Laws.Cover1
import Derived.Deep.CutRange
namespace Go.Proofs.Ytdkdlgioabjldaa
set_option linter.unusedVariables false
set_option linter.unusedSimpArgs false
open Go.RowKit
attribute [local go_sem] bs_size List.length_cons List.length_nil List.length_append

def fiVals (x : FiD) : List Value := [.string x.1, .string x.2.1, .int .i64 x.2.2]
def fiFlat (fs : List FiD) : List Value := (fs.map fiVals).flatten
theorem fiFlat_snoc (fs : List FiD) (x : FiD) : fiFlat (fs ++ [x]) = fiFlat fs ++ fiVals x := by simp [fiFlat]
theorem info_fi : (Try.prog.info? 99).map (fun i => (i.zero, i.size, i.bytes)) = some (some (.agg #[.string ⟨#[]⟩, .string ⟨#[]⟩, .int .i64 0]), 3, 40) := by kernel_rfl
/-- A row of files of the call's own, made from block B on. -/
def FiOwn (w : World) (B : Nat) (v : Value) (fs : List FiD) : Prop := w.ownsRow B 99 3 v fs.length (fiFlat fs)
theorem FiOwn.row {w : World} {B : Nat} {v : Value} {fs : List FiD} (h : FiOwn w B v fs) (hs : ∀ x ∈ fs, x.1.size ≤ 9223372036854775807 ∧ x.2.1.size ≤ 9223372036854775807) : ∃ A c, v = .slice A fs.length c ∧ FiRow w A c fs := by
  rcases own_cells (f := fiVals) (m := 3) (fun _ => rfl) h with ⟨rfl, rfl⟩ | ⟨g, cap, rfl, _, hg, hn, hm, hc⟩
  · exact ⟨none, 0, rfl, by simp, by simp, hs, fun h0 => by simp at h0⟩
  · refine ⟨_, cap, rfl, hn, hm, hs, fun _ => ⟨_, rfl, hg, fun j x hx => ?_⟩⟩
    rw [add_plain]
    exact ⟨hc j x 0 hx (by omega), hc j x 1 hx (by omega), hc j x 2 hx (by omega)⟩
theorem FiOwn.below {w w' : World} {B : Nat} {v : Value} {fs : List FiD} (h : FiOwn w B v fs) (hb : Below w.heap.size w w') : FiOwn w' B v fs := own_keep h hb
theorem FiOwn.form {w : World} {B : Nat} {v : Value} {fs : List FiD} (h : FiOwn w B v fs) : ∃ A c, v = .slice A fs.length c := by
  rcases h.2 with ⟨rfl, h0⟩ | ⟨g, cap, cur, rfl, _⟩
  · exact ⟨none, 0, by rw [h0]⟩
  · exact ⟨_, _, rfl⟩
theorem FiOwn.lt {w : World} {B : Nat} {v : Value} {fs : List FiD} (h : FiOwn w B v fs) : ∀ k, v.ownBlock = some k → B ≤ k ∧ k < w.heap.size := World.ownsRow.lt h
theorem FiOwn.mono {w : World} {B B' : Nat} {v : Value} {fs : List FiD} (h : FiOwn w B v fs) (hb : B' ≤ B) : FiOwn w B' v fs := own_low h hb
theorem FiOwn.kept {w w' : World} {B : Nat} {v : Value} {fs : List FiD} {row : Option Nat} (h : FiOwn w B v fs) (hg : w.grownBy w' row) (hr : ∀ k, row = some k → k < B) : FiOwn w' B v fs := by
  refine World.ownsRow.kept h hg ?_
  cases hv : v.ownBlock with
  | none => exact .inl rfl
  | some k => exact .inr fun e => by have := (h.lt k hv).1; have := hr k e.symm; omega

def ltFi (y x : FiD) : Bool := Op.bytesLess y.1.toList x.1.toList
def gtFi (y x : FiD) : Bool := !(Op.bytesLess y.1.toList x.1.toList || y.1.toList == x.1.toList)
/-- The files with one put in its place. -/
def putF (fs : List FiD) (x : FiD) : List FiD := (fs.filter fun y => ltFi y x) ++ [x] ++ fs.filter fun y => gtFi y x
theorem putF_mem {fs : List FiD} {x y : FiD} (h : y ∈ putF fs x) : y ∈ fs ∨ y = x := by
  unfold putF at h
  rcases List.mem_append.1 h with h | h
  · rcases List.mem_append.1 h with h | h
    · exact .inl (List.mem_filter.1 h).1
    · exact .inr (List.mem_singleton.1 h)
  · exact .inl (List.mem_filter.1 h).1
theorem putF_len (fs : List FiD) (x : FiD) : (putF fs x).length ≤ fs.length + 1 := by
  have h : (fs.filter fun y => ltFi y x).length + (fs.filter fun y => gtFi y x).length ≤ fs.length := by
    induction fs with
    | nil => simp
    | cons y fs ih =>
      rw [List.filter_cons, List.filter_cons, List.length_cons]
      by_cases hl : ltFi y x = true
      · have hg : gtFi y x = false := by
          unfold gtFi ltFi at *
          rw [hl]
          rfl
        rw [if_pos hl, if_neg (by rw [hg]; exact Bool.false_ne_true), List.length_cons]
        omega
      · rw [if_neg hl]
        split
        · rw [List.length_cons]; omega
        · omega
  unfold putF
  simp
  omega
theorem fi_yes {p : FiD → Bool} {fs : List FiD} {i : Nat} {y : FiD} (h : fs[i]? = some y) (hp : p y = true) : (fs.take (i + 1)).filter p = (fs.take i).filter p ++ [y] := by
  rw [take_snoc h, List.filter_append]
  simp [hp]
theorem fi_no {p : FiD → Bool} {fs : List FiD} {i : Nat} {y : FiD} (h : fs[i]? = some y) (hp : p y = false) : (fs.take (i + 1)).filter p = (fs.take i).filter p := by
  rw [take_snoc h, List.filter_append]
  simp [hp]
/-- The boxes of the disk, of the file and of the result. -/
abbrev WP (w : World) (A : Option Addr) (n c : Nat) (x : FiD) : World := ((w.alloc (.cells #[.slice A n c] 58)).alloc (.cells #[.string x.1, .string x.2.1, .int .i64 x.2.2] 99)).alloc (.cells #[.slice none 0 0] 58)
theorem WP_size (w : World) (A : Option Addr) (n c : Nat) (x : FiD) : (WP w A n c x).heap.size = w.heap.size + 3 := by simp
/-- The boxes; out's box; the row under way. -/
structure PX (w : World) (A : Option Addr) (n c : Nat) (x : FiD) (v : Value) (fs : List FiD) (W : World) : Prop where
  b : Below (w.heap.size + 3) (WP w A n c x) W
  out : W.heap[w.heap.size + 3]? = some (.cells #[v] 58)
  own : FiOwn W (w.heap.size + 4) v fs
section
variable {w W W' : World} {A : Option Addr} {n c : Nat} {x : FiD} {v : Value} {fs : List FiD}
theorem PX.from_ (h : PX w A n c x v fs W) : Below w.heap.size w W := ((((Below.refl _ w).alloc (Nat.le_refl _) _).alloc (by simp) _).alloc (by simp; omega) _).trans (h.b.mono (by omega))
theorem PX.size (h : PX w A n c x v fs W) : w.heap.size + 4 ≤ W.heap.size := blk_lt h.out
theorem PX.dsk (h : PX w A n c x v fs W) : W.heap[w.heap.size]? = some (.cells #[.slice A n c] 58) := by
  refine (h.b.block _ (by omega)).trans ?_
  rw [Below.heap_alloc _ _ _ (by simp; omega), Below.heap_alloc _ _ _ (by simp)]
  exact blk_new _ _
theorem PX.fil (h : PX w A n c x v fs W) : W.heap[w.heap.size + 1]? = some (.cells #[.string x.1, .string x.2.1, .int .i64 x.2.2] 99) := by
  refine (h.b.block _ (by omega)).trans ?_
  rw [Below.heap_alloc _ _ _ (by simp)]
  have := blk_new (w.alloc (.cells #[.slice A n c] 58)) (.cells #[.string x.1, .string x.2.1, .int .i64 x.2.2] 99)
  simpa using this
theorem PX.res (h : PX w A n c x v fs W) : W.heap[w.heap.size + 2]? = some (.cells #[.slice none 0 0] 58) := by
  refine (h.b.block _ (by omega)).trans ?_
  have := blk_new ((w.alloc (.cells #[.slice A n c] 58)).alloc (.cells #[.string x.1, .string x.2.1, .int .i64 x.2.2] 99)) (.cells #[.slice none 0 0] 58)
  simpa using this
theorem PX.go (h : PX w A n c x v fs W) (hb : Below W.heap.size W W') : PX w A n c x v fs W' := ⟨h.b.trans (hb.mono (by have := h.size; omega)), blk_below h.out hb, h.own.below hb⟩
theorem PX.put {v' : Value} {fs' : List FiD} (h : PX w A n c x v fs W) (hg : W.grownBy W' v.ownBlock) (ho : FiOwn W' (w.heap.size + 4) v' fs') : PX w A n c x v' fs' (W'.setCell ⟨w.heap.size + 3, 0, none⟩ v') := by
  have hs := h.size
  have h1 : Below (w.heap.size + 3) (WP w A n c x) W' := h.b.grown hg (by omega) fun k e => by have := (h.own.lt k e).1; omega
  have h2 : W'.heap[w.heap.size + 3]? = some (.cells #[v] 58) := (hg.block _ (by omega) (fun e => by have := (h.own.lt _ e.symm).1; omega)).trans h.out
  refine ⟨h1.setCell (p := ⟨w.heap.size + 3, 0, none⟩) (Nat.le_refl _) _, by rw [blk_set h2]; rfl, ho.kept (grown_set' (World.grownBy.refl W' _) 0 _) fun k e => by cases e; omega⟩
end
/-- One struct held in a result's block. -/
theorem res_box {fn : Func} {p : Tmp} {ty : TypeId} {W : World} {g : Nat} {cs : Array Value} {tmps : Array Value} {post : Ending → World → Prop} {fx : Array Field} (hf : fn.results = #[.cell p ty]) (hg : W.heap[g]? = some (.cells cs ty (0, 0))) (hp : tmps.getD p undef = .pointer (some ⟨g, 0, none⟩))
    (hu : Try.prog.underlying ty = some (.struct fx)) (hi : (Try.prog.info? ty).map (·.size) = some cs.size) (hpost : post (.returned (.agg cs)) W) : bodyPost Try.prog fn post .ret ⟨tmps, []⟩ W := by
  have hp' : tmps[p]?.getD undef = .pointer (some ⟨g, 0, none⟩) := by simpa using hp
  have hr : (results fn tmps).run Try.prog W = .ok (.agg cs) W := by
    simp only [results, hf]
    simp [Sem.run_bind, hp', asAddr, Result.andThen, run_loadVar_row W g ty ty cs (0, 0) (.struct fx) hg hu rfl hi]
  exact bodyPost_ret hr rfl hpost
theorem und_dsk : ∃ fs, Try.prog.underlying 58 = some (.struct fs) := ⟨_, Try.underlying58⟩
theorem info_dsk : (Try.prog.info? 58).map (·.size) = some 1 := by kernel_rfl
theorem putD_end {fn : Func} {w W : World} {A : Option Addr} {n c : Nat} {x : FiD} {v : Value} {fs fs' : List FiD} {tmps : Array Value} (hf : fn.results = #[.cell 4 58]) (h : PX w A n c x v fs W) (hp : tmps.getD 4 undef = .pointer (some ⟨w.heap.size + 2, 0, none⟩)) (he : fs = fs') :
    bodyPost Try.prog fn (fun e w' => ∃ v, e = .returned (.agg #[v]) ∧ FiOwn w' w.heap.size v fs' ∧ Below w.heap.size w w') .ret ⟨tmps, []⟩ (W.setCell ⟨w.heap.size + 2, 0, none⟩ v) := by
  subst he
  obtain ⟨fx, hu⟩ := und_dsk
  have hs := h.size
  refine res_box hf (g := w.heap.size + 2) (cs := #[v]) (by rw [blk_set h.res]; rfl) hp hu info_dsk ⟨v, rfl, ?_, h.from_.setCell (p := ⟨w.heap.size + 2, 0, none⟩) (by show w.heap.size ≤ w.heap.size + 2; omega) _⟩
  exact ((h.own.kept (grown_set' (World.grownBy.refl W _) 0 _) fun k e => by cases e; omega)).mono (by omega)
set_option maxHeartbeats 8000000 in
set_option maxRecDepth 100000 in
theorem spec_l03Put_calls (A : Option Addr) (c : Nat) (fs : List FiD) (nm tx : ByteArray) (kp : Int) (w : World) (h : FiRow w A c fs) (hn : fs.length ≤ 1000000000) :
    Calls Try.prog 60 #[.agg #[.slice A fs.length c], .agg #[.string nm, .string tx, .int .i64 kp]] w fun e w' => ∃ v, e = .returned (.agg #[v]) ∧ FiOwn w' w.heap.size v (putF fs (nm, tx, kp)) ∧ Below w.heap.size w w' := by
  obtain ⟨i0, hi0, hz, hsz, hby⟩ := info_parts info_fi
  have HR := Lib.hid h
  have hws : (WP w A fs.length c (nm, tx, kp)).heap.size = w.heap.size + 3 := WP_size ..
  have HS0 : Hid (PX w A fs.length c (nm, tx, kp) (.slice none 0 0) [] ((WP w A fs.length c (nm, tx, kp)).alloc (.cells #[.slice none 0 0] 58))) := ⟨(Below.refl _ _).alloc (by rw [hws]; exact Nat.le_refl _) _, by rw [← hws]; exact blk_new _ _, World.ownsRow_nil ..⟩
  clear h hws
  go_enter Try.func60, Try.ntmps60
  go_wp2
  go_loopw [6] (fun iv wr => ∃ (i : Nat) (ov : Value), i ≤ fs.length ∧ iv = .int .i64 (i : Int) ∧ Hid (PX w A fs.length c (nm, tx, kp) ov ((fs.take i).filter fun y => ltFi y (nm, tx, kp)) wr)) (fun iv _ => fs.length - (intOf iv).toNat)
  case atStart => exact ⟨0, _, Nat.zero_le _, rfl, HS0⟩
  case round =>
    obtain ⟨i, ov, hi, rfl, HS⟩ := hrel
    have p0 := blk_cell HS.out.dsk 0
    by_cases hlt : i < fs.length
    · obtain ⟨ad, y, hA, HY, hy1, hy2, hc0, hc1, hc2⟩ := (HR.out.below HS.out.from_).at_ hlt
      cases hA
      obtain ⟨yn, yt, yk⟩ := y
      dsimp only at hy1 hy2 hc0 hc1 hc2
      have k0 := blk_cell HS.out.fil 0
      obtain ⟨A2, c2, hv⟩ := HS.out.own.form
      subst hv
      have hfl : ((fs.take i).filter fun y => ltFi y (nm, tx, kp)).length ≤ i := by
        have h1 := List.length_filter_le (fun y => ltFi y (nm, tx, kp)) (fs.take i)
        have h2 : (fs.take i).length ≤ i := by rw [List.length_take]; omega
        omega
      have HFL := Lib.hid hfl
      have HCC := Lib.hid (And.intro hc0 (And.intro hc1 hc2))
      have HSD := Lib.hid (HS.out.go (Below.drew (Below.refl _ _)))
      have hli : (i : Int) < (fs.length : Int) := by omega
      have HFY := Lib.hid (fun hp => fi_yes (p := fun y => ltFi y (nm, tx, kp)) HY.out hp)
      have HFN := Lib.hid (fun hp => fi_no (p := fun y => ltFi y (nm, tx, kp)) HY.out hp)
      obtain ⟨lt, hlt2⟩ : ∃ b, ltFi (yn, yt, yk) (nm, tx, kp) = b := ⟨_, rfl⟩
      have hll : Op.bytesLess yn.toList nm.toList = lt := hlt2
      rw [hlt2] at HFY HFN
      clear hlt2 hfl
      generalize ((fs.take i).filter fun y => ltFi y (nm, tx, kp)) = F at HS HFL HSD HFY HFN ⊢
      go_wp2_with fail
      go_region_held3 (fun w' => w'.cell? (ad.add (i * 3)) = some (.string yn) ∧ w'.cell? ⟨w.heap.size + 1, 0, none⟩ = some (.string nm) ∧ w'.cell? ⟨w.heap.size, 0, none⟩ = some (.slice (some ad) fs.length c) ∧ Hid (PX w (some ad) fs.length c (nm, tx, kp) (.slice A2 F.length c2) F w')) (first | exact ⟨HCC.out.1, k0, p0, HSD.out⟩) (fail)
      have HS2 := (‹_ ∧ _ ∧ _ ∧ Hid (PX w (some ad) fs.length c (nm, tx, kp) (.slice A2 F.length c2) F _)›).2.2.2
      cases lt
      · have HF2 := Lib.hid (HFN.out rfl)
        clear HFY HFN
        go_wp2
        go_roundw
        case rel => exact ⟨i + 1, _, by omega, by go_num, by rw [HF2.out]; exact HS2⟩
        case measure => simp [intOf]; omega
      · have HF2 := Lib.hid (HFY.out rfl)
        clear HFY HFN
        have HC4 : Hid (wr.drew.cell? (ad.add (i * 3)) = some (.string yn) ∧ wr.drew.cell? ⟨(ad.add (i * 3)).block, (ad.add (i * 3)).off + 1, none⟩ = some (.string yt) ∧ wr.drew.cell? ⟨(ad.add (i * 3)).block, (ad.add (i * 3)).off + 2, none⟩ = some (.int .i64 yk)) := HCC.out
        clear hc0 hc1 hc2 k0 p0 HCC HSD
        have HSW := HS2
        have hfl := HFL.out
        generalize wr.drew = wd at HS2 HSW HC4 ⊢
        obtain ⟨hc0, hc1, hc2⟩ := HC4.out
        have HAL9 : Hid (Below wd.heap.size wd (wd.alloc (.cells #[.string yn, .string yt, .int .i64 yk] 99))) := (Below.refl _ _).alloc (Nat.le_refl _) _
        have HSA := Lib.hid (HSW.out.go HAL9.out)
        have HS9 : Hid (PX w (some ad) fs.length c (nm, tx, kp) (.slice A2 F.length c2) F (wd.alloc (.cells #[.string yn, .string yt, .int .i64 yk] 99)).drew) := HSA.out.go (Below.drew (Below.refl _ _))
        have HOWN := Lib.hid HS9.out.own
        have HBASE := Lib.hid HS9.out.size
        have HNEWS : Hid (∀ j u, (fiVals (yn, yt, yk))[j]? = some u → (wd.alloc (.cells #[.string yn, .string yt, .int .i64 yk] 99)).drew.cell? ((⟨wd.heap.size, 0, none⟩ : Addr).add j) = some u) := World.news_of_block (heap_alloc_new wd _)
        have p0 := blk_cell HSW.out.dsk 0
        have p1 := blk_cell HSW.out.out 0
        have p2 := blk_cell HSA.out.out 0
        go_wp2_with fail
        go_region_law ((refine step_append_lies _ (by rfl) (.tmp 26) (.tmp 32) 56 (by rfl) (w.heap.size + 4) 99 i0 (.agg #[.string ⟨#[]⟩, .string ⟨#[]⟩, .int .i64 0]) 3 40 Try.underlying56 hi0 hz hsz hby rfl (by omega) (.slice A2 F.length c2) F.length (fiFlat F) (by simp [Act.eval, Act.put]) HOWN.out _ 1 1 (fiVals (yn, yt, yk)) (by simp [Act.eval, Act.put]) rfl HNEWS.out (by simp [Value.oneCell', fiVals]) (by omega) (by unfold maxLen; omega) (by omega) HBASE.out _ rfl ?_); intro gg cap wq hown hgrow hat hlt; have HPU : Hid (FiOwn wq (w.heap.size + 4) (.slice (some ⟨gg, 0, none⟩) (F.length + 1) cap) (F ++ [(yn, yt, yk)])) := (by rw [Hid, FiOwn, fiFlat_snoc, List.length_append]; exact hown); have HS7 := Lib.hid (HS9.out.put hgrow HPU.out); have p3 := blk_frozen ((hgrow.block _ (by have := HS9.out.size; omega) (fun e => by have := (HS9.out.own.lt _ e.symm).1; omega)).trans HS9.out.out) 0; have p4 := blk_cell ((hgrow.block _ (by have := HS9.out.size; omega) (fun e => by have := (HS9.out.own.lt _ e.symm).1; omega)).trans HS9.out.out) 0; clear hown hgrow hat hlt)
        all_goals
          go_wp2
          go_roundw
          case rel => exact ⟨i + 1, _, by omega, by go_num, by rw [HF2.out]; exact HS7⟩
          case measure => simp [intOf]; omega
    · obtain rfl : i = fs.length := by omega
      rw [List.take_length] at HS
      have hll : (fs.filter fun y => ltFi y (nm, tx, kp)).length ≤ fs.length := List.length_filter_le _ _
      obtain ⟨A2, c2, hv⟩ := HS.out.own.form
      subst hv
      have HPF : Hid (putF fs (nm, tx, kp) = (fs.filter fun y => ltFi y (nm, tx, kp)) ++ [(nm, tx, kp)] ++ fs.filter fun y => gtFi y (nm, tx, kp)) := rfl
      generalize (fs.filter fun y => ltFi y (nm, tx, kp)) = F at HS hll HPF ⊢
      have hnl : ¬ (fs.length : Int) < (fs.length : Int) := by omega
      have p1 := blk_cell HS.out.out 0
      have k0 := blk_cell HS.out.fil 0
      have k1 := blk_cell HS.out.fil 1
      have k2 := blk_cell HS.out.fil 2
      have HAL9 : Hid (Below wr.heap.size wr (wr.alloc (.cells #[.string nm, .string tx, .int .i64 kp] 99))) := (Below.refl _ _).alloc (Nat.le_refl _) _
      have HS9 := Lib.hid (HS.out.go HAL9.out)
      have HOWN := Lib.hid HS9.out.own
      have HBASE := Lib.hid HS9.out.size
      have HNEWS : Hid (∀ j u, (fiVals (nm, tx, kp))[j]? = some u → (wr.alloc (.cells #[.string nm, .string tx, .int .i64 kp] 99)).cell? ((⟨wr.heap.size, 0, none⟩ : Addr).add j) = some u) := World.news_of_block (heap_alloc_new wr _)
      go_wp2_with (at_builtin; refine wpList_append_lies _ rfl _ _ _ rfl (w.heap.size + 4) 99 i0 (.agg #[.string ⟨#[]⟩, .string ⟨#[]⟩, .int .i64 0]) 3 40 Try.underlying56 hi0 hz hsz hby rfl (by omega) (.slice A2 F.length c2) F.length (fiFlat F) rfl HOWN.out ⟨wr.heap.size, 0, none⟩ 1 1 (fiVals (nm, tx, kp)) rfl rfl HNEWS.out (by simp [Value.oneCell', fiVals]) (by omega) (by unfold maxLen; omega) (by omega) HBASE.out _ rfl ?_; intro gg cap wq hown hgrow hat hlt; have HPU : Hid (FiOwn wq (w.heap.size + 4) (.slice (some ⟨gg, 0, none⟩) (F.length + 1) cap) (F ++ [(nm, tx, kp)])) := (by rw [Hid, FiOwn, fiFlat_snoc, List.length_append]; exact hown); have HS7 := Lib.hid (HS9.out.put hgrow HPU.out); have p3 := blk_frozen ((hgrow.block _ (by have := HS9.out.size; omega) (fun e => by have := (HS9.out.own.lt _ e.symm).1; omega)).trans HS9.out.out) 0; have p4 := blk_cell ((hgrow.block _ (by have := HS9.out.size; omega) (fun e => by have := (HS9.out.own.lt _ e.symm).1; omega)).trans HS9.out.out) 0; clear hown hgrow hat hlt)
      clear p3 p4 HPU HS9 HOWN HBASE HNEWS HAL9 HS p0 p1 k0 k1 k2
      have HML : Hid ((F ++ [(nm, tx, kp)]).length ≤ fs.length + 1) := by rw [Hid, List.length_append]; show F.length + 1 ≤ _; omega
      generalize F ++ [(nm, tx, kp)] = M at HML HPF HS7
      go_loopw [7] (fun iv wr => ∃ (i : Nat) (ov : Value), i ≤ fs.length ∧ iv = .int .i64 (i : Int) ∧ Hid (PX w A fs.length c (nm, tx, kp) ov (M ++ (fs.take i).filter fun y => gtFi y (nm, tx, kp)) wr)) (fun iv _ => fs.length - (intOf iv).toNat)
      case atStart => exact ⟨0, _, Nat.zero_le _, rfl, by rw [List.take_zero, List.filter_nil, List.append_nil]; exact HS7⟩
      case round =>
        clear HS7
        obtain ⟨i, ov, hi, rfl, HS⟩ := hrel
        have p0 := blk_cell HS.out.dsk 0
        by_cases hlt : i < fs.length
        · obtain ⟨ad, y, hA, HY, hy1, hy2, hc0, hc1, hc2⟩ := (HR.out.below HS.out.from_).at_ hlt
          cases hA
          obtain ⟨yn, yt, yk⟩ := y
          dsimp only at hy1 hy2 hc0 hc1 hc2
          have k0 := blk_cell HS.out.fil 0
          obtain ⟨A2, c2, hv⟩ := HS.out.own.form
          subst hv
          have hfl : (M ++ (fs.take i).filter fun y => gtFi y (nm, tx, kp)).length ≤ fs.length + 1 + i := by
            have h1 := List.length_filter_le (fun y => gtFi y (nm, tx, kp)) (fs.take i)
            have h2 : (fs.take i).length ≤ i := by rw [List.length_take]; omega
            have h3 := HML.out
            rw [List.length_append]
            omega
          have HFL := Lib.hid hfl
          have HCC := Lib.hid (And.intro hc0 (And.intro hc1 hc2))
          have HSD := Lib.hid (HS.out.go (Below.drew (Below.refl _ _)))
          have hli : (i : Int) < (fs.length : Int) := by omega
          have HFY := Lib.hid (fun hp => congrArg (M ++ ·) (fi_yes (p := fun y => gtFi y (nm, tx, kp)) HY.out hp))
          have HFN := Lib.hid (fun hp => congrArg (M ++ ·) (fi_no (p := fun y => gtFi y (nm, tx, kp)) HY.out hp))
          obtain ⟨lt, hlt2⟩ : ∃ b, gtFi (yn, yt, yk) (nm, tx, kp) = b := ⟨_, rfl⟩
          have hll : (!(Op.bytesLess yn.toList nm.toList || yn.toList == nm.toList)) = lt := hlt2
          rw [hlt2] at HFY HFN
          rw [← List.append_assoc] at HFY
          clear hlt2 hfl
          generalize (M ++ (fs.take i).filter fun y => gtFi y (nm, tx, kp)) = F at HS HFL HSD HFY HFN ⊢
          go_wp2_with fail
          go_region_held3 (fun w' => w'.cell? (ad.add (i * 3)) = some (.string yn) ∧ w'.cell? ⟨w.heap.size + 1, 0, none⟩ = some (.string nm) ∧ w'.cell? ⟨w.heap.size, 0, none⟩ = some (.slice (some ad) fs.length c) ∧ Hid (PX w (some ad) fs.length c (nm, tx, kp) (.slice A2 F.length c2) F w')) (first | exact ⟨HCC.out.1, k0, p0, HSD.out⟩) (fail)
          have HS2 := (‹_ ∧ _ ∧ _ ∧ Hid (PX w (some ad) fs.length c (nm, tx, kp) (.slice A2 F.length c2) F _)›).2.2.2
          cases lt
          · have HF2 := Lib.hid (HFN.out rfl)
            clear HFY HFN
            go_wp2
            go_roundw
            case rel => exact ⟨i + 1, _, by omega, by go_num, by rw [HF2.out]; exact HS2⟩
            case measure => simp [intOf]; omega
          · have HF2 := Lib.hid (HFY.out rfl)
            clear HFY HFN
            have HC4 : Hid (wr.drew.cell? (ad.add (i * 3)) = some (.string yn) ∧ wr.drew.cell? ⟨(ad.add (i * 3)).block, (ad.add (i * 3)).off + 1, none⟩ = some (.string yt) ∧ wr.drew.cell? ⟨(ad.add (i * 3)).block, (ad.add (i * 3)).off + 2, none⟩ = some (.int .i64 yk)) := HCC.out
            clear hc0 hc1 hc2 k0 p0 HCC HSD
            have HSW := HS2
            have hfl := HFL.out
            generalize wr.drew = wd at HS2 HSW HC4 ⊢
            obtain ⟨hc0, hc1, hc2⟩ := HC4.out
            have HAL9 : Hid (Below wd.heap.size wd (wd.alloc (.cells #[.string yn, .string yt, .int .i64 yk] 99))) := (Below.refl _ _).alloc (Nat.le_refl _) _
            have HSA := Lib.hid (HSW.out.go HAL9.out)
            have HS9 : Hid (PX w (some ad) fs.length c (nm, tx, kp) (.slice A2 F.length c2) F (wd.alloc (.cells #[.string yn, .string yt, .int .i64 yk] 99)).drew) := HSA.out.go (Below.drew (Below.refl _ _))
            have HOWN := Lib.hid HS9.out.own
            have HBASE := Lib.hid HS9.out.size
            have HNEWS : Hid (∀ j u, (fiVals (yn, yt, yk))[j]? = some u → (wd.alloc (.cells #[.string yn, .string yt, .int .i64 yk] 99)).drew.cell? ((⟨wd.heap.size, 0, none⟩ : Addr).add j) = some u) := World.news_of_block (heap_alloc_new wd _)
            have p0 := blk_cell HSW.out.dsk 0
            have p1 := blk_cell HSW.out.out 0
            have p2 := blk_cell HSA.out.out 0
            go_wp2_with fail
            go_region_law ((refine step_append_lies _ (by rfl) (.tmp 58) (.tmp 64) 56 (by rfl) (w.heap.size + 4) 99 i0 (.agg #[.string ⟨#[]⟩, .string ⟨#[]⟩, .int .i64 0]) 3 40 Try.underlying56 hi0 hz hsz hby rfl (by omega) (.slice A2 F.length c2) F.length (fiFlat F) (by simp [Act.eval, Act.put]) HOWN.out _ 1 1 (fiVals (yn, yt, yk)) (by simp [Act.eval, Act.put]) rfl HNEWS.out (by simp [Value.oneCell', fiVals]) (by omega) (by unfold maxLen; omega) (by omega) HBASE.out _ rfl ?_); intro gg cap wq hown hgrow hat hlt; have HPU : Hid (FiOwn wq (w.heap.size + 4) (.slice (some ⟨gg, 0, none⟩) (F.length + 1) cap) (F ++ [(yn, yt, yk)])) := (by rw [Hid, FiOwn, fiFlat_snoc, List.length_append]; exact hown); have HS7 := Lib.hid (HS9.out.put hgrow HPU.out); have p3 := blk_frozen ((hgrow.block _ (by have := HS9.out.size; omega) (fun e => by have := (HS9.out.own.lt _ e.symm).1; omega)).trans HS9.out.out) 0; have p4 := blk_cell ((hgrow.block _ (by have := HS9.out.size; omega) (fun e => by have := (HS9.out.own.lt _ e.symm).1; omega)).trans HS9.out.out) 0; clear hown hgrow hat hlt)
            all_goals
              go_wp2
              go_roundw
              case rel => exact ⟨i + 1, _, by omega, by go_num, by rw [HF2.out]; exact HS7⟩
              case measure => simp [intOf]; omega
        · obtain rfl : i = fs.length := by omega
          rw [List.take_length] at HS
          generalize (M ++ fs.filter fun y => gtFi y (nm, tx, kp)) = F at HS HPF
          obtain ⟨A2, c2, hv⟩ := HS.out.own.form
          subst hv
          have p1 := blk_cell HS.out.out 0
          have p2 := blk_frozen HS.out.res 0
          have p3 := blk_cell HS.out.res 0
          go_wp2
          exact putD_end rfl HS.out rfl HPF.out.symm
end Go.Proofs.Ytdkdlgioabjldaa
