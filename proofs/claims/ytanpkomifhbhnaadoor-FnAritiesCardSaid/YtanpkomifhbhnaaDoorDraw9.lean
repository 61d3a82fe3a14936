/- The draws: some requests' arguments; places. -/
import Derived.Test.YtanpkomifhbhnaaDoorDraw6
import Derived.Test.YtanpkomifhbhnaaDoorSS2
import Derived.Test.YtanpkomifhbhnaaDoorReqRT2
namespace Go.Proofs.YtanpkomifhbhnaaDoor
set_option linter.unusedVariables false
set_option linter.unusedSimpArgs false
open Go.RowKit
attribute [local go_sem] bs_size List.length_cons List.length_nil List.length_append

set_option maxHeartbeats 8000000 in
set_option maxRecDepth 100000 in
theorem spec_DrawWords_calls (A : Option Addr) (c n : Nat) (w : World) (h : ByRow w A n) :
    Calls Tryd.prog 31 #[.slice A n c] w fun e w' => ∃ v L, e = .returned v ∧ OwnSS w' w.heap.size v L ∧ L.length ≤ 4 ∧ (∀ xs ∈ L, Fine xs) ∧ Below w.heap.size w w' := by
  obtain ⟨i0, hi, hz, hsz, hby⟩ := info_parts info_slc
  have HBR := Lib.hid h
  clear h
  go_enter Tryd.func31, Tryd.ntmps31
  go_wp2_with fail
  go_at_call 70
  refine (spec_l01New_calls A c n _ HBR.out).mono ?_
  rintro e w1 ⟨g, rfl, hg, hcu, hb⟩
  have HG := Lib.hid hg
  have HC := Lib.hid hcu
  have HB1 := Lib.hid hb
  have HGL := Lib.hid hcu.lt
  clear hg hcu hb
  go_wp2
  go_loopw [4, 5] (fun v iv wr => ∃ (i : Nat) (L : List (List ByteArray)), iv = .int .i64 (i : Int) ∧ i ≤ 4 ∧ Hid (L.length = i) ∧ Hid (∀ xs ∈ L, Fine xs) ∧ Hid (OwnSS wr w1.heap.size v L) ∧ Hid (Drawn w1 g wr)) (fun _ iv _ => 4 - (intOf iv).toNat)
  case atStart => exact ⟨0, [], rfl, by omega, rfl, (fun _ h => by simp at h), ⟨[], trivial, World.ownsRow_made w1 #[] 0 (Nat.le_refl _) (Nat.zero_le _) rfl, fun _ _ _ hu => by simp at hu⟩, Drawn.alloc HC.out _⟩
  case round =>
    obtain ⟨i, L, rfl, hi4, HLN, HF, HOS, HD⟩ := hrel
    go_wp2_with fail
    go_at_call 71
    refine (spec_l01Below_calls g 5 _ HD.out.1 (by omega)).mono ?_
    rintro e w2 ⟨y, rfl, hy0, hy1, _, hd⟩
    have hy1 := hy1 (by omega)
    have HD2 := Lib.hid (HD.out.trans hd)
    have HOS2 := Lib.hid (HOS.out.kept hd.2 fun k e => .inr (by cases e; exact HGL.out))
    clear hd
    by_cases hlt : (i : Int) < y
    · obtain ⟨vs, hr, ho⟩ := HOS2.out
      have hvl : vs.length = i := by rw [hr.length, HLN.out]
      have hvn : vs.length ≤ 4 := by omega
      obtain ⟨A2, c2, hv⟩ := ho.form
      subst hv
      have HR := Lib.hid hr
      have HO := Lib.hid ho
      have HVL := Lib.hid hvl
      clear hr ho hvl HOS
      go_wp2_with fail
      go_at_call 72
      refine (spec_l11Args_calls g _ HD2.out.1).mono ?_
      rintro e w3 ⟨b, c3, xs, rfl, hrow, hk, hsm, hd⟩
      have HR3 : Hid (Rows2 w3 w1.heap.size vs L) := HR.out.kept hd.2 fun u hu k hk e => by have := (HR.out.lt u hu k hk).1; have := HGL.out; cases e; omega
      have HO3 : Hid (Out2 w3 w1.heap.size (.slice A2 vs.length c2) vs) := HO.out.kept hd.2 fun k hk e => by have := (HO.out.1.lt k hk).1; have := HGL.out; cases e; omega
      have HD3 := Lib.hid (HD2.out.trans hd)
      have HS3 := Lib.hid (hrow.own (Nat.le_refl _))
      have HSZ : Hid (w2.heap.size ≤ w3.heap.size) := hd.2.size
      have HSZ1 : Hid (w1.heap.size ≤ w2.heap.size) := HD2.out.2.size
      have HFX : Hid (Fine xs) := ⟨hk, hsm⟩
      have HOWN : Hid ((w3.alloc (.cells #[.slice (some ⟨b, 0, none⟩) xs.length c3] 22)).ownsRow w1.heap.size 22 1 (.slice A2 vs.length c2) vs.length vs) := HO3.out.1.alloc _
      have HNEWS : Hid (∀ j u, [Value.slice (some ⟨b, 0, none⟩) xs.length c3][j]? = some u → (w3.alloc (.cells #[.slice (some ⟨b, 0, none⟩) xs.length c3] 22)).cell? ((⟨w3.heap.size, 0, none⟩ : Addr).add j) = some u) := World.news_of_block (heap_alloc_new w3 _)
      have HBASE : Hid (w1.heap.size ≤ (w3.alloc (.cells #[.slice (some ⟨b, 0, none⟩) xs.length c3] 22)).heap.size) := by have := HSZ.out; have := HSZ1.out; rw [Hid]; simp; omega
      clear hrow hd hk hsm
      generalize hnx : xs.length = nx at HOWN HNEWS HBASE HS3 ⊢
      clear hnx
      go_wp2_with (at_builtin; refine wpList_append_lies _ rfl _ _ _ rfl w1.heap.size 22 i0 (.slice none 0 0) 1 24 Tryd.underlying33 hi hz hsz hby rfl (by omega) (.slice A2 vs.length c2) vs.length vs rfl HOWN.out ⟨w3.heap.size, 0, none⟩ 1 1 [.slice (some ⟨b, 0, none⟩) nx c3] rfl rfl HNEWS.out (by simp [Value.oneCell']) (by omega) (by unfold maxLen; omega) (by omega) HBASE.out _ rfl ?_; intro gg cap w4 hown hgrow hat hlt2)
      have HPU := Lib.hid (OwnSS.push' HR3.out HO3.out (fun u hu k hk => (HR.out.lt u hu k hk).2) (fun k hk => (HO.out.1.lt k hk).2) HS3.out (fun x hx => by have := HFX.out.2 x hx; omega) HSZ1.out HSZ.out hown hgrow hat)
      have HD4 := Lib.hid ((HD3.out.alloc' HGL.out _).grown HGL.out hgrow fun k e => (HO3.out.1.lt k e).1)
      have HLN2 : Hid ((L ++ [xs]).length = i + 1) := by rw [Hid, List.length_append, HLN.out]; rfl
      have HF2 : Hid (∀ q ∈ L ++ [xs], Fine q) := fun q hq => by rcases List.mem_append.1 hq with hq | hq; exact HF.out q hq; obtain rfl := List.mem_singleton.1 hq; exact HFX.out
      clear hown hgrow hat
      go_wp2
      go_roundw
      case rel => first | exact ⟨i + 1, L ++ [xs], by go_num, by omega, HLN2, HF2, HPU, HD4⟩ | (repeat (first | (refine ⟨?relx, rfl⟩; exact ⟨i + 1, L ++ [xs], by go_num, by omega, HLN2, HF2, HPU, HD4⟩) | (refine ⟨?relx, ?eqs⟩; (case eqs => (and_intros <;> rfl)); exact ⟨i + 1, L ++ [xs], by go_num, by omega, HLN2, HF2, HPU, HD4⟩) | apply Exists.intro))
      case measure => simp [intOf]; omega
    · go_wp2
      go_ret
      exact ⟨_, L, rfl, HOS2.out.mono HB1.out.size, by have := HLN.out; omega, HF.out, HD2.out.seen HB1.out HG.out⟩
end Go.Proofs.YtanpkomifhbhnaaDoor
