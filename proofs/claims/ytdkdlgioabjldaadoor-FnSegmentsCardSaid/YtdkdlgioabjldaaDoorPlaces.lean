/- The draws: places (beside the segments). -/
import Derived.Test.YtdkdlgioabjldaaDoorDrawB
namespace Go.Proofs.YtdkdlgioabjldaaDoor
set_option linter.unusedVariables false
set_option linter.unusedSimpArgs false
open Go.RowKit
attribute [local go_sem] bs_size List.length_cons List.length_nil List.length_append

theorem info_int : (Tryd.prog.info? 3).map (fun i => (i.zero, i.size, i.bytes)) = some (some (.int .i64 0), 1, 8) := by kernel_rfl
def OwnI (w : World) (B : Nat) (v : Value) (ns : List Int) : Prop := w.ownsRow B 3 1 v ns.length (ns.map (Value.int .i64))
theorem OwnI.form {w : World} {B : Nat} {v : Value} {ns : List Int} (h : OwnI w B v ns) : ∃ A c, v = .slice A ns.length c := by
  rcases h.2 with ⟨rfl, h0⟩ | ⟨g, cap, cur, rfl, _⟩
  · exact ⟨none, 0, by rw [h0]⟩
  · exact ⟨_, _, rfl⟩
theorem OwnI.lt {w : World} {B : Nat} {v : Value} {ns : List Int} (h : OwnI w B v ns) : ∀ k, v.ownBlock = some k → B ≤ k ∧ k < w.heap.size := World.ownsRow.lt h
theorem ownI_first {w : World} {B n c : Nat} {A : Option Addr} {ns : List Int} (h : OwnI w B (.slice A n c) ns) (hl : ns.length = 12) (hf : ∀ x ∈ ns, 0 ≤ x ∧ x < 10000) :
    ∃ (b : Nat) (x : Int), A = some ⟨b, 0, none⟩ ∧ w.cell? ⟨b, 0, none⟩ = some (.int .i64 x) ∧ 0 ≤ x ∧ x < 10000 ∧ 12 ≤ c := by
  cases ns with
  | nil => simp at hl
  | cons x ns =>
    rcases h.2 with ⟨e, h0⟩ | ⟨g, cap, cur, e, _, _, hle, _⟩
    · simp at h0
    · injection e with e1 e2 e3
      subst e1 e3
      have hc := World.ownsRow.cells h (g := g) rfl 0 (.int .i64 x) rfl
      rw [add_plain] at hc
      have := hf x (by simp)
      exact ⟨g, x, rfl, hc, this.1, this.2, by omega⟩
set_option maxHeartbeats 8000000 in
set_option maxRecDepth 100000 in
theorem spec_DrawPlaces_calls (A : Option Addr) (c n : Nat) (w : World) (h : ByRow w A n) :
    Calls Tryd.prog 9 #[.slice A n c] w fun e w' => ∃ (b cc : Nat) (x : Int), e = .returned (.slice (some ⟨b, 0, none⟩) 12 cc) ∧ w'.cell? ⟨b, 0, none⟩ = some (.int .i64 x) ∧ 0 ≤ x ∧ x < 10000 ∧ 12 ≤ cc ∧ Below w.heap.size w w' := by
  obtain ⟨i0, hi, hz, hsz, hby⟩ := info_parts info_int
  have HBR := Lib.hid h
  clear h
  go_enter Tryd.func9, Tryd.ntmps9
  go_wp2_with fail
  go_at_call 19
  refine (spec_l01New_calls A c n _ HBR.out).mono ?_
  rintro e w1 ⟨g, rfl, hg, hcu, hb⟩
  have HG := Lib.hid hg
  have HC := Lib.hid hcu
  have HB1 := Lib.hid hb
  have HGL := Lib.hid hcu.lt
  clear hg hcu hb
  go_wp2_with fail
  go_at_call 27
  refine (spec_l01Byte_calls g _ HC.out).mono ?_
  rintro e w2 ⟨z, rfl, _, _, hd⟩
  have HD2 := Lib.hid hd
  clear hd
  go_wp2
  go_loopw [4, 5] (fun v iv wr => ∃ (i : Nat) (ns : List Int), iv = .int .i64 (i : Int) ∧ i ≤ 12 ∧ Hid (ns.length = i) ∧ Hid (∀ x ∈ ns, 0 ≤ x ∧ x < 10000) ∧ Hid (OwnI wr w1.heap.size v ns) ∧ Hid (Drawn w1 g wr)) (fun _ iv _ => 12 - (intOf iv).toNat)
  case atStart => exact ⟨0, [], rfl, by omega, rfl, (fun _ h => by simp at h), World.ownsRow_made w2 #[] 0 HD2.out.2.size (Nat.zero_le _) rfl, HD2.out.alloc' HGL.out _⟩
  case round =>
    obtain ⟨i, ns, rfl, hi12, HLN, HF, HO, HD⟩ := hrel
    obtain ⟨A2, c2, hv⟩ := HO.out.form
    subst hv
    have hnl : ns.length ≤ 12 := by have := HLN.out; omega
    by_cases hlt : i < 12
    · have hli : (i : Int) < 12 := by omega
      go_wp2_with fail
      go_at_call 20
      refine (spec_l01Below_calls g 10000 _ HD.out.1 (by omega)).mono ?_
      rintro e w3 ⟨y, rfl, hy0, hy1, _, hd⟩
      have hy1 := hy1 (by omega)
      have HD3 := Lib.hid (HD.out.trans hd)
      have HO3 : Hid (OwnI (w3.alloc (.cells #[.int .i64 y] 3)) w1.heap.size (.slice A2 ns.length c2) ns) := World.ownsRow.alloc (World.ownsRow.kept HO.out hd.2 (own_ne HO.out.lt HGL.out)) _
      have HNEWS : Hid (∀ j u, [Value.int .i64 y][j]? = some u → (w3.alloc (.cells #[.int .i64 y] 3)).cell? ((⟨w3.heap.size, 0, none⟩ : Addr).add j) = some u) := World.news_of_block (heap_alloc_new w3 _)
      have HBASE : Hid (w1.heap.size ≤ (w3.alloc (.cells #[.int .i64 y] 3)).heap.size) := by have := HD3.out.2.size; rw [Hid]; simp; omega
      clear hd
      go_wp2_with (at_builtin; refine wpList_append_lies _ rfl _ _ _ rfl w1.heap.size 3 i0 (.int .i64 0) 1 8 Tryd.underlying31 hi hz hsz hby rfl (by omega) (.slice A2 ns.length c2) ns.length (ns.map (Value.int .i64)) rfl HO3.out ⟨w3.heap.size, 0, none⟩ 1 1 [.int .i64 y] rfl rfl HNEWS.out (by simp [Value.oneCell']) (by omega) (by unfold maxLen; omega) (by omega) HBASE.out _ rfl ?_; intro gg cap w4 hown hgrow hat hlt2)
      have HPU : Hid (OwnI w4 w1.heap.size (.slice (some ⟨gg, 0, none⟩) (ns.length + 1) cap) (ns ++ [y])) := by rw [Hid, OwnI, List.map_append, List.length_append]; exact hown
      have HD4 := Lib.hid ((HD3.out.alloc' HGL.out _).grown HGL.out hgrow fun k e => (HO3.out.lt k e).1)
      have HLN2 : Hid ((ns ++ [y]).length = i + 1) := by rw [Hid, List.length_append, HLN.out]; rfl
      have HF2 : Hid (∀ q ∈ ns ++ [y], 0 ≤ q ∧ q < 10000) := fun q hq => by rcases List.mem_append.1 hq with hq | hq; exact HF.out q hq; obtain rfl := List.mem_singleton.1 hq; exact ⟨hy0, hy1⟩
      clear hown hgrow hat
      go_wp2
      go_roundw
      case rel => first | exact ⟨i + 1, ns ++ [y], by go_num, by omega, HLN2, HF2, HPU, HD4⟩ | (repeat (first | (refine ⟨?relx, rfl⟩; exact ⟨i + 1, ns ++ [y], by go_num, by omega, HLN2, HF2, HPU, HD4⟩) | (refine ⟨?relx, ?eqs⟩; (case eqs => (and_intros <;> rfl)); exact ⟨i + 1, ns ++ [y], by go_num, by omega, HLN2, HF2, HPU, HD4⟩) | apply Exists.intro))
      case measure => simp [intOf]; omega
    · obtain rfl : i = 12 := by omega
      have HEND := Lib.hid (ownI_first HO.out HLN.out HF.out)
      go_wp2
      go_ret
      obtain ⟨b, x, e1, e2, e3, e4, e5⟩ := HEND.out
      exact ⟨b, c2, x, by rw [e1, HLN.out]; rfl, e2, e3, e4, e5, HD.out.seen HB1.out HG.out⟩
end Go.Proofs.YtdkdlgioabjldaaDoor
