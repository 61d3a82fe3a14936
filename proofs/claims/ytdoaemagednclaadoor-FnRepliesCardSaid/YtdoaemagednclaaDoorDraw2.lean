/- The draws: a cursor is made, texts are picked out of lists that are written out. -/
import Derived.Test.YtdoaemagednclaaDoorDraw1
import Derived.Test.YtdoaemagednclaaDoorOwn
namespace Go.Proofs.YtdoaemagednclaaDoor
set_option linter.unusedVariables false
set_option linter.unusedSimpArgs false
open Go.RowKit
attribute [local go_sem] bs_size List.length_cons List.length_nil List.length_append

theorem Cu.alloc {w : World} {g : Nat} (h : Cu w g) (o : Obj) : Cu (w.alloc o) g := by
  obtain ⟨A, c, n, i, hh, hi, hb, hr, hne⟩ := h
  exact (drawn_of hi (((World.grownBy_alloc w o none).block g (blk_lt hb) (by simp)).trans hb) hr hne (World.grownBy_alloc w o (some g))).1
theorem Drawn.refl {w : World} {g : Nat} (h : Cu w g) : Drawn w g w := ⟨h, World.grownBy.refl w _⟩
theorem Drawn.alloc {w : World} {g : Nat} (h : Cu w g) (o : Obj) : Drawn w g (w.alloc o) := ⟨h.alloc o, World.grownBy_alloc w o _⟩
theorem Drawn.size {w w' : World} {g : Nat} (h : Drawn w g w') : w.heap.size ≤ w'.heap.size := h.2.size
theorem Cu.below {w w' : World} {g : Nat} (h : Cu w g) (hb : Below w.heap.size w w') : Drawn w g w' := by
  obtain ⟨A, c, n, i, hh, hi, hk, hr, hne⟩ := h
  exact drawn_of hi (blk_below hk hb) hr hne ⟨hb.os, hb.tape, hb.output, hb.size, fun k hk _ => hb.block k hk⟩
def litOk (m : Nat) (cs : Array Value) : Bool := decide (0 < cs.size) && decide (cs.size ≤ 1000) && decide (m ≤ 1000000) && cs.toList.all fun v => match v with | .string s => decide (s.size ≤ m) | _ => false
theorem litOk_list {m : Nat} {cs : Array Value} (h : litOk m cs = true) : 0 < cs.size ∧ cs.size ≤ 1000 ∧ m ≤ 1000000 ∧ ∃ ws : List ByteArray, cs = (ws.map Value.string).toArray ∧ ∀ x ∈ ws, x.size ≤ m := by
  simp only [litOk, Bool.and_eq_true, decide_eq_true_eq] at h
  refine ⟨h.1.1.1, h.1.1.2, h.1.2, ?_⟩
  obtain ⟨l⟩ := cs
  have h2 := h.2
  simp only at h2
  clear h
  induction l with
  | nil => exact ⟨[], rfl, by simp⟩
  | cons v l ih =>
    simp only [List.all_cons, Bool.and_eq_true] at h2
    obtain ⟨ws, e, hw⟩ := ih h2.2
    cases v with
    | string s =>
      refine ⟨s :: ws, ?_, fun x hx => ?_⟩
      · have : l = ws.map Value.string := by simpa using e
        rw [this]
        rfl
      · rcases List.mem_cons.1 hx with rfl | hx
        · simpa using h2.1
        · exact hw x hx
    | _ => simp at h2
theorem pick_lit (g : Nat) (n c m : Nat) (cs : Array Value) (w : World) (h : Cu w g) (hok : litOk m cs = true) (hn : n = cs.size) (hc : c = cs.size) :
    Calls Tryd.prog 41 #[.pointer (some ⟨g, 0, none⟩), .slice (some ⟨w.heap.size, 0, none⟩) n c] (w.alloc (.cells cs 9)) fun e w' => ∃ x, e = .returned (.string x) ∧ x.size ≤ m ∧ Drawn w g w' := by
  subst hn hc
  obtain ⟨h0, h1, hm, ws, rfl, hw⟩ := litOk_list hok
  have hl : ws.length = (ws.map Value.string).toArray.size := by simp
  have hblk : StrBlk (w.alloc (.cells (ws.map Value.string).toArray 9)) w.heap.size ws.length ws := ⟨[], by rw [blk_new, List.append_nil], rfl, by omega⟩
  rw [← hl] at h0 h1 ⊢
  refine (spec_l01Pick_calls g (some ⟨w.heap.size, 0, none⟩) ws.length ws _ (h.alloc _) (hblk.row fun s hs => by have := hw s hs; omega) h0 h1 ?_).mono ?_
  · intro ad e
    have := h.lt
    cases e
    show w.heap.size ≠ g
    omega
  · rintro e w' ⟨x, hx, rfl, hd⟩
    exact ⟨x, rfl, hw x hx, (Drawn.alloc h _).trans hd⟩
theorem new_end {w wr : World} {A : Option Addr} {c n : Nat} {x : Int} (h : ByRow w A n) (hb : Below w.heap.size w wr) :
    ∃ g, Ending.returned (.pointer (some ⟨wr.heap.size, 0, none⟩)) = .returned (.pointer (some ⟨g, 0, none⟩)) ∧ w.heap.size ≤ g ∧ Cu (wr.alloc (.cells #[.slice A n c, .int .i64 0, .int .i64 x] 63)) g ∧ Below w.heap.size w (wr.alloc (.cells #[.slice A n c, .int .i64 0, .int .i64 x] 63)) := by
  refine ⟨wr.heap.size, rfl, hb.size, ⟨A, c, n, 0, x, Nat.zero_le _, by rw [blk_new]; rfl, ⟨h.1, fun hp => ?_⟩, fun ad e hp => ?_⟩, hb.alloc hb.size _⟩
  · obtain ⟨ad, e, hl, hc⟩ := h.2 hp
    refine ⟨ad, e, by have := hb.size; simp; omega, fun j hj => ?_⟩
    obtain ⟨z, h0, h1, h2⟩ := hc j hj
    exact ⟨z, h0, h1, ((hb.alloc hb.size _).cell (by rw [add_block]; exact hl)).trans h2⟩
  · obtain ⟨ad', e', hl, _⟩ := h.2 hp
    rw [e] at e'
    obtain rfl := Option.some.inj e'
    have := hb.size
    omega
set_option maxHeartbeats 4000000 in
set_option maxRecDepth 100000 in
theorem spec_l01New_calls (A : Option Addr) (c n : Nat) (w : World) (h : ByRow w A n) :
    Calls Tryd.prog 24 #[.slice A n c] w fun e w' => ∃ g, e = .returned (.pointer (some ⟨g, 0, none⟩)) ∧ w.heap.size ≤ g ∧ Cu w' g ∧ Below w.heap.size w w' := by
  have HR := Lib.hid h
  have hn := h.1
  clear h
  go_enter Tryd.func24, Tryd.ntmps24
  go_wp2
  go_loopw [3, 4] (fun hv iv wr => ∃ (x : Int) (i : Nat), hv = .int .i64 x ∧ iv = .int .i64 (i : Int) ∧ i ≤ n ∧ i ≤ 4000 ∧ Below w.heap.size w wr) (fun _ iv _ => 4000 - (intOf iv).toNat)
  case atStart => exact ⟨_, 0, rfl, rfl, Nat.zero_le _, Nat.zero_le _, Below.refl _ _⟩
  case round =>
    obtain ⟨x, i, rfl, rfl, hin, hi4, hbel⟩ := hrel
    have HB := Lib.hid hbel
    clear hbel
    by_cases hlt : i < n
    · by_cases h4 : i < 4000
      · obtain ⟨ad, hA, hadl, hcell⟩ := HR.out.2 (by omega)
        obtain ⟨z, hz0, hz1, hcz⟩ := hcell i hlt
        subst hA
        have hcz' : wr.cell? (ad.add i) = some (.int .u8 z) := (HB.out.cell (by rw [add_block]; exact hadl)).trans hcz
        have hi0 : (0 : Int) ≤ (i : Int) := by omega
        have hi1 : (i : Int) < (n : Int) := by omega
        have hi2 : (i : Int) < 4000 := by omega
        go_wp2
        go_roundw
        case rel => first | exact ⟨_, i + 1, rfl, by go_num, by omega, by omega, HB.out⟩ | (repeat (first | (refine ⟨?relx, rfl⟩; exact ⟨_, i + 1, rfl, by go_num, by omega, by omega, HB.out⟩) | (refine ⟨?relx, ?eqs⟩; (case eqs => (and_intros <;> rfl)); exact ⟨_, i + 1, rfl, by go_num, by omega, by omega, HB.out⟩) | apply Exists.intro))
        case measure => simp [intOf]; omega
      · go_wp2
        go_ret
        exact new_end HR.out HB.out
    · go_wp2
      go_ret
      exact new_end HR.out HB.out
end Go.Proofs.YtdoaemagednclaaDoor
