/- impl.cleaning. The directory of a disk: DirOf of the program. impl.OpenEngine. -/
import Derived.Test.YtaacpdejpcbbbaaGreatDoorDiskAll
import Derived.Test.YtaacpdejpcbbbaaGreatDoorActAll
import Derived.Test.YtaacpdejpcbbbaaGreatDoorSegAll
import Derived.Test.YtaacpdejpcbbbaaGreatDoorDirAll
import Derived.Test.YtaacpdejpcbbbaaGreatDoorIter
import Derived.Maps.OwnOps
import Derived.Carry
namespace Go.Proofs.YtaacpdejpcbbbaaGreatDoor
set_option linter.unusedVariables false
set_option linter.unusedSimpArgs false
open Go.RowKit
attribute [local go_sem] bs_size List.length_cons List.length_nil List.length_append

set_option maxRecDepth 100000 in
theorem index_int_calls (A : Option Addr) (c B : Nat) (ns : List Int) (x : Int) (w : World) (h : OwnI w B (.slice A ns.length c) ns) (hl : ns.length ≤ 1000000) :
    Calls Tryz.prog 152 #[.slice A ns.length c, .int .i64 x] w fun e w' => ∃ r : Int, e = .returned (.int .i64 r) ∧ decide (0 ≤ r) = decide (x ∈ ns) ∧ Below w.heap.size w w' := by
  have HR := Lib.hid h
  clear h
  go_enter Tryz.func152, Tryz.ntmps152
  go_wp2
  go_loopw [8] (fun iv wr => ∃ i : Nat, i ≤ ns.length ∧ iv = .int .i64 (i : Int) ∧ Hid (∀ j, j < i → ns[j]? ≠ some x) ∧ Hid (Below w.heap.size w wr)) (fun iv _ => ns.length - (intOf iv).toNat)
  case atStart => exact ⟨0, Nat.zero_le _, rfl, fun j hj => by omega, Below.refl _ _⟩
  case round =>
    obtain ⟨i, hi, rfl, HT, HB⟩ := hrel
    by_cases hlt : i < ns.length
    · obtain ⟨y, hy⟩ : ∃ y, ns[i]? = some y := ⟨_, List.getElem?_eq_getElem hlt⟩
      obtain ⟨b, hA, hc⟩ := (HR.out.below HB.out).at_ hy
      subst hA
      have HY := Lib.hid hy
      have hli : (i : Int) < (ns.length : Int) := by omega
      clear hy
      obtain ⟨q, hq⟩ : ∃ q, (x == y) = q := ⟨_, rfl⟩
      have HQ := Lib.hid hq
      cases q
      · have HT2 : Hid (∀ j, j < i + 1 → ns[j]? ≠ some x) := fun j hj e => by
          by_cases e2 : j = i
          · subst e2
            have h1 := HY.out
            rw [e] at h1
            have h2 := HQ.out
            rw [Option.some.inj h1] at h2
            simp at h2
          · exact HT.out j (by omega) e
        go_wp2
        go_roundw
        case rel => first | exact ⟨i + 1, by omega, by go_num, HT2, HB⟩ | (repeat (first | (refine ⟨?relx, rfl⟩; exact ⟨i + 1, by omega, by go_num, HT2, HB⟩) | (refine ⟨?relx, ?eqs⟩; (case eqs => (and_intros <;> rfl)); exact ⟨i + 1, by omega, by go_num, HT2, HB⟩) | apply Exists.intro))
        case measure => simp [intOf]; omega
      · have HM : Hid (decide (0 ≤ (i : Int)) = decide (x ∈ ns)) := by
          have h2 : x = y := by simpa using HQ.out
          have h3 : x ∈ ns := by rw [h2]; exact List.mem_of_getElem? HY.out
          rw [Hid, decide_eq_true h3, decide_eq_true (by omega)]
        go_wp2
        go_ret
        exact ⟨_, rfl, HM.out, HB.out⟩
    · obtain rfl : i = ns.length := by omega
      have HM : Hid (decide ((0 : Int) ≤ -1) = decide (x ∈ ns)) := by
        rw [Hid, decide_eq_false (by omega), decide_eq_false]
        intro h
        obtain ⟨j, hj, e⟩ := List.getElem_of_mem h
        exact HT.out j hj (by rw [List.getElem?_eq_getElem hj, e])
      go_wp2
      go_ret
      exact ⟨_, rfl, HM.out, HB.out⟩
set_option maxRecDepth 100000 in
theorem contains_int_calls (A : Option Addr) (c B : Nat) (ns : List Int) (x : Int) (w : World) (h : OwnI w B (.slice A ns.length c) ns) (hl : ns.length ≤ 1000000) :
    Calls Tryz.prog 108 #[.slice A ns.length c, .int .i64 x] w fun e w' => e = .returned (.bool (decide (x ∈ ns))) ∧ Below w.heap.size w w' := by
  have HIX := Lib.hid (index_int_calls A c B ns x w h hl)
  clear h
  go_enter Tryz.func108, Tryz.ntmps108
  go_wp2_with fail
  go_at_call 152
  refine HIX.out.mono ?_
  rintro e w1 ⟨r, rfl, hr, hb⟩
  have HR := Lib.hid hr
  have HB := Lib.hid hb
  clear hr hb
  go_wp2
  go_ret
  exact ⟨congrArg (fun b => Ending.returned (.bool b)) HR.out, HB.out⟩
theorem cNew_no {x : FiD} (h : (x.1.toList == [109, 43]) = false) : cNew x = [] := by
  unfold cNew
  rw [if_neg]
  intro e
  rw [e, show newNm.toList = [109, 43] from by rw [ByteArray.toList_eq]; rfl] at h
  simp at h
theorem cNew_yes {x : FiD} (h : (x.1.toList == [109, 43]) = true) : cNew x = [dropA newNm] := by
  unfold cNew
  rw [if_pos]
  refine toList_inj.1 ?_
  rw [show newNm.toList = [109, 43] from by rw [ByteArray.toList_eq]; rfl]
  simpa using h
theorem cOld_none {L : List Nat} {x : FiD} (h : segNo x.1 = none) : cOld L x = [] := by unfold cOld; rw [h]
theorem cOld_in {L : List Nat} {x : FiD} {n : Nat} (h : segNo x.1 = some n) (hn : n ∈ L) : cOld L x = [] := by unfold cOld; rw [h]; exact if_pos hn
theorem cOld_out {L : List Nat} {x : FiD} {n : Nat} (h : segNo x.1 = some n) (hn : n ∉ L) : cOld L x = [dropA x.1] := by unfold cOld; rw [h]; exact if_neg hn
theorem mem_ofNat {L : List Nat} {n : Nat} : (n : Int) ∈ L.map Int.ofNat ↔ n ∈ L := by
  rw [List.mem_map]
  constructor
  · rintro ⟨m, hm, e⟩
    obtain rfl : m = n := Int.ofNat.inj e
    exact hm
  · exact fun h => ⟨n, h, rfl⟩
theorem sentC {w w' : World} (h : Sent w) (hb : Below w.heap.size w w') : Sent w' := h.below hb h.big
/-- The disk's box and the row of acts under way. -/
structure CLX (w : World) (A : Option Addr) (n c : Nat) (ov : Value) (F : List ActD) (W : World) : Prop where
  b : Below w.heap.size w W
  bx : W.heap[w.heap.size]? = some (.cells #[.slice A n c] 32 (0, 0))
  own : AcOwn W (w.heap.size + 1) ov F
section
variable {w W W' : World} {A : Option Addr} {n c : Nat} {ov : Value} {F : List ActD}
theorem CLX.go (h : CLX w A n c ov F W) (hb : Below W.heap.size W W') : CLX w A n c ov F W' := ⟨h.b.trans (hb.mono h.b.size), blk_below h.bx hb, h.own.below hb⟩
theorem CLX.alloc (h : CLX w A n c ov F W) (o : Obj) : CLX w A n c ov F (W.alloc o) := h.go ((Below.refl _ _).alloc (Nat.le_refl _) _)
theorem CLX.drew (h : CLX w A n c ov F W) : CLX w A n c ov F W.drew := h.go (Below.drew (Below.refl _ _))
theorem CLX.base (h : CLX w A n c ov F W) : w.heap.size + 1 ≤ W.heap.size := blk_lt h.bx
theorem CLX.app {v' : Value} {F' : List ActD} (h : CLX w A n c ov F W) (hg : W.grownBy W' ov.ownBlock) (ho : AcOwn W' (w.heap.size + 1) v' F') : CLX w A n c v' F' W' :=
  ⟨h.b.grown hg h.b.size fun k e => by have := (h.own.lt k e).1; omega, (hg.block _ (blk_lt h.bx) (fun e => by have := (h.own.lt _ e.symm).1; omega)).trans h.bx, ho⟩
end
theorem ac_push {w : World} {B g n cap : Nat} {F : List ActD} {a : ActD} (h : w.ownsRow B 96 4 (.slice (some ⟨g, 0, none⟩) n cap) n (acFlat F ++ acVals a)) (hn : n = F.length + 1) : AcOwn w B (.slice (some ⟨g, 0, none⟩) n cap) (F ++ [a]) := by
  subst hn
  rw [AcOwn, acFlat_snoc, List.length_append]
  exact h
theorem acVals_one1 (a : ActD) : ∀ u ∈ acVals a, u.oneCell' = true := fun u hu => acVals_one [a] u (by simpa [acFlat] using hu)
theorem size_alloc1 (w : World) (o : Obj) : (w.alloc o).heap.size = w.heap.size + 1 := by simp
set_option maxHeartbeats 8000000 in
set_option maxRecDepth 100000 in
theorem impl_cleaning_calls (A Al : Option Addr) (c cl BL : Nat) (fs : List FiD) (L : List Nat) (w : World) (h : FiRow w A c fs) (hl : OwnI w BL (.slice Al (L.map Int.ofNat).length cl) (L.map Int.ofNat)) (hn : fs.length ≤ 30) (hL : L.length ≤ 1000) (hsz : ∀ x ∈ fs, x.1.size ≤ 140737488351232) (hP : Pow w) (hE : Sent w) :
    Calls Tryz.prog 61 #[.agg #[.slice A fs.length c], .slice Al L.length cl] w fun e w' => ∃ v, e = .returned v ∧ AcOwn w' w.heap.size v (cleanB fs L) ∧ Below w.heap.size w w' := by
  obtain ⟨i0, hi0, hz, hsz0, hby⟩ := info_parts info_ac
  have HR := Lib.hid h
  have HL := Lib.hid hl
  have HPW := Lib.hid hP
  have HEW := Lib.hid hE
  have HSZ := Lib.hid hsz
  have HS0 : Hid (CLX w A fs.length c (.slice none 0 0) ((fs.take 0).flatMap cNew) (w.alloc (.cells #[.slice A fs.length c] 32))) := ⟨(Below.refl _ _).alloc (Nat.le_refl _) _, blk_new w _, World.ownsRow_nil ..⟩
  have HCT : Hid (∀ W x, OwnI W BL (.slice Al (L.map Int.ofNat).length cl) (L.map Int.ofNat) → Calls Tryz.prog 108 #[.slice Al L.length cl, .int .i64 x] W fun e w' => e = .returned (.bool (decide (x ∈ L.map Int.ofNat))) ∧ Below W.heap.size W w') := by
    intro W x h
    have := contains_int_calls Al cl BL (L.map Int.ofNat) x W h (by rw [List.length_map]; omega)
    rwa [List.length_map] at this
  have p0 := blk_cell HS0.out.bx 0
  clear h hP hE hl hsz
  go_enter Tryz.func61, Tryz.ntmps61
  go_wp2
  generalize w.alloc (.cells #[.slice A fs.length c] 32) = W1 at HS0 p0 ⊢
  go_loopw [5, 14] (fun ov iv wr => ∃ i : Nat, i ≤ fs.length ∧ iv = .int .i64 (i : Int) ∧ Hid (CLX w A fs.length c ov ((fs.take i).flatMap cNew) wr)) (fun _ iv _ => fs.length - (intOf iv).toNat)
  case atStart => exact ⟨0, Nat.zero_le _, rfl, HS0⟩
  case round =>
    clear p0 HS0
    obtain ⟨i, hi, rfl, HS⟩ := hrel
    rename World => w1
    have HFL := Lib.hid (Nat.le_trans (fm_len cNew cNew_len (fs.take i)) (List.length_take_le _ _))
    by_cases hlt : i < fs.length
    · obtain ⟨ad, x, hA, HX, hz1, hz2, hc0, hc1, hc2⟩ := (HR.out.below HS.out.b).at_ (k := i) hlt
      cases hA
      obtain ⟨n, t, k⟩ := x
      dsimp only at hz1 hz2 hc0 hc1 hc2
      have HST := Lib.hid (flat_step cNew HX.out)
      have hli : (i : Int) < (fs.length : Int) := by omega
      obtain ⟨q, hq⟩ : ∃ q, (n.toList == [109, 43]) = q := ⟨_, rfl⟩
      cases q
      · have HE : Hid ((fs.take (i + 1)).flatMap cNew = (fs.take i).flatMap cNew) := by rw [Hid, HST.out, cNew_no (x := (n, t, k)) hq, List.append_nil]
        have HS1 := Lib.hid (HS.out.alloc (.cells #[.string n, .string t, .int .i64 k] 105))
        go_wp2
        go_roundw
        case rel => first | exact ⟨i + 1, by omega, by go_num, by rw [HE.out]; exact HS1⟩ | (repeat (first | (refine ⟨?relx, rfl⟩; exact ⟨i + 1, by omega, by go_num, by rw [HE.out]; exact HS1⟩) | (refine ⟨?relx, ?eqs⟩; (case eqs => (and_intros <;> rfl)); exact ⟨i + 1, by omega, by go_num, by rw [HE.out]; exact HS1⟩) | apply Exists.intro))
        case measure => simp [intOf]; omega
      · have HE : Hid ((fs.take (i + 1)).flatMap cNew = (fs.take i).flatMap cNew ++ [dropA newNm]) := by rw [Hid, HST.out, cNew_yes (x := (n, t, k)) hq]
        obtain ⟨A2, c2, e2⟩ := HS.out.own.form
        subst e2
        have hfl := HFL.out
        generalize (fs.take i).flatMap cNew = F at HS HE hfl ⊢
        have HS2 := Lib.hid ((HS.out.alloc (.cells #[.string n, .string t, .int .i64 k] 105)).alloc (.cells #[.int .i64 4, .string ⟨#[109, 43]⟩, .string ⟨#[]⟩, .string ⟨#[]⟩] 96))
        have HOWN := Lib.hid HS2.out.own
        have HBASE := Lib.hid HS2.out.base
        have HNEWS : Hid (∀ j u, (acVals (dropA newNm))[j]? = some u → ((w1.alloc (.cells #[.string n, .string t, .int .i64 k] 105)).alloc (.cells #[.int .i64 4, .string ⟨#[109, 43]⟩, .string ⟨#[]⟩, .string ⟨#[]⟩] 96)).cell? ((⟨w1.heap.size + 1, 0, none⟩ : Addr).add j) = some u) := by
          rw [Hid, ← size_alloc1 w1 (.cells #[.string n, .string t, .int .i64 k] 105)]
          exact World.news_of_block (heap_alloc_new _ _)
        clear HS
        go_wp2_with (at_builtin; refine wpList_append_lies _ rfl _ _ _ rfl (w.heap.size + 1) 96 i0 (.agg #[.int .i64 0, .string ⟨#[]⟩, .string ⟨#[]⟩, .string ⟨#[]⟩]) 4 56 Tryz.underlying44 hi0 hz hsz0 hby rfl (by omega) (.slice A2 F.length c2) F.length (acFlat F) rfl HOWN.out ⟨w1.heap.size + 1, 0, none⟩ 1 1 (acVals (dropA newNm)) rfl rfl HNEWS.out (acVals_one1 _) (by omega) (by unfold maxLen; omega) (by omega) HBASE.out _ rfl ?_; intro gg cap wq hown hgrow hat hlt; have HS3 := Lib.hid (HS2.out.app hgrow (ac_push hown rfl)); clear hown hgrow hat hlt)
        go_roundw
        case rel => first | exact ⟨i + 1, by omega, by go_num, by rw [HE.out]; exact HS3⟩ | (repeat (first | (refine ⟨?relx, rfl⟩; exact ⟨i + 1, by omega, by go_num, by rw [HE.out]; exact HS3⟩) | (refine ⟨?relx, ?eqs⟩; (case eqs => (and_intros <;> rfl)); exact ⟨i + 1, by omega, by go_num, by rw [HE.out]; exact HS3⟩) | apply Exists.intro))
        case measure => simp [intOf]; omega
    · obtain rfl : i = fs.length := by omega
      rw [List.take_length] at HS HFL
      have hfl := HFL.out
      have HCB : Hid (cleanB fs L = fs.flatMap cNew ++ fs.flatMap (cOld L)) := rfl
      generalize fs.flatMap cNew = N at HS hfl HCB
      have p0 := blk_cell HS.out.bx 0
      go_wp2
      go_loopw [5, 29] (fun ov iv wr => ∃ i : Nat, i ≤ fs.length ∧ iv = .int .i64 (i : Int) ∧ Hid (CLX w A fs.length c ov (N ++ (fs.take i).flatMap (cOld L)) wr)) (fun _ iv _ => fs.length - (intOf iv).toNat)
      case atStart => exact ⟨0, Nat.zero_le _, rfl, by simpa using HS⟩
      case round =>
        clear p0 HS
        obtain ⟨i, hi, rfl, HS⟩ := hrel
        rename World => w2
        have HFL2 := Lib.hid (Nat.le_trans (fm_len (cOld L) (cOld_len L) (fs.take i)) (List.length_take_le _ _))
        by_cases hlt : i < fs.length
        · obtain ⟨ad, x, hA, HX, hz1, hz2, hc0, hc1, hc2⟩ := (HR.out.below HS.out.b).at_ (k := i) hlt
          cases hA
          obtain ⟨n, t, k⟩ := x
          dsimp only at hz1 hz2 hc0 hc1 hc2
          have HST := Lib.hid (flat_step (cOld L) HX.out)
          have HNS : Hid (n.size ≤ 140737488351232) := HSZ.out _ (List.mem_of_getElem? HX.out)
          have HS1 := Lib.hid (HS.out.alloc (.cells #[.string n, .string t, .int .i64 k] 105))
          have x0 := blk_cell (blk_new w2 (.cells #[.string n, .string t, .int .i64 k] 105)) 0
          have HXB : Hid ((w2.alloc (.cells #[.string n, .string t, .int .i64 k] 105)).heap[w2.heap.size]? = some (.cells #[.string n, .string t, .int .i64 k] 105 (0, 0))) := blk_new w2 _
          have hli : (i : Int) < (fs.length : Int) := by omega
          go_wp2_with fail
          go_at_call 83
          refine (impl_segNumber_calls n _ HNS.out (HPW.out.below HS1.out.b) (sentC HEW.out HS1.out.b)).mono ?_
          rintro e w3 ⟨rfl, hb3⟩
          have HS3 := Lib.hid (HS1.out.go hb3)
          have HX3 := Lib.hid (blk_below HXB.out hb3)
          obtain ⟨o, ho⟩ : ∃ o, segNo n = o := ⟨_, rfl⟩
          rw [ho]
          have HO := Lib.hid ho
          clear hb3 x0 ho HS HS1 HXB
          cases o with
          | none =>
            have HE : Hid (N ++ (fs.take (i + 1)).flatMap (cOld L) = N ++ (fs.take i).flatMap (cOld L)) := by rw [Hid, HST.out, cOld_none (x := (n, t, k)) HO.out, List.append_nil]
            simp only [noInt]
            go_wp2
            go_roundw
            case rel => first | exact ⟨i + 1, by omega, by go_num, by rw [HE.out]; exact HS3⟩ | (repeat (first | (refine ⟨?relx, rfl⟩; exact ⟨i + 1, by omega, by go_num, by rw [HE.out]; exact HS3⟩) | (refine ⟨?relx, ?eqs⟩; (case eqs => (and_intros <;> rfl)); exact ⟨i + 1, by omega, by go_num, by rw [HE.out]; exact HS3⟩) | apply Exists.intro))
            case measure => simp [intOf]; omega
          | some m =>
            simp only [noInt]
            have hm0 : (0 : Int) ≤ (m : Int) := by omega
            go_wp2_with fail
            go_at_call 108
            refine (HCT.out _ (m : Int) (HL.out.below HS3.out.b)).mono ?_
            rintro e w4 ⟨rfl, hb4⟩
            have HS4 := Lib.hid (HS3.out.go hb4)
            have HX4 := Lib.hid (blk_below HX3.out hb4)
            obtain ⟨q, hq⟩ : ∃ q, decide ((m : Int) ∈ L.map Int.ofNat) = q := ⟨_, rfl⟩
            rw [hq]
            have HQ := Lib.hid hq
            clear hb4 hq HS3 HX3
            cases q
            · have hm : m ∉ L := fun h => by have := HQ.out; rw [decide_eq_true (mem_ofNat.2 h)] at this; cases this
              have HE : Hid (N ++ (fs.take (i + 1)).flatMap (cOld L) = (N ++ (fs.take i).flatMap (cOld L)) ++ [dropA n]) := by rw [Hid, HST.out, cOld_out (x := (n, t, k)) HO.out hm, List.append_assoc]
              obtain ⟨A2, c2, e2⟩ := HS4.out.own.form
              subst e2
              have hfl2 : (N ++ (fs.take i).flatMap (cOld L)).length ≤ fs.length + i := by rw [List.length_append]; have := HFL2.out; have := hfl; omega
              clear hm
              generalize (N ++ (fs.take i).flatMap (cOld L)) = F at HS4 HE hfl2 ⊢
              have x0 := blk_cell HX4.out 0
              have HS5 := Lib.hid (HS4.out.alloc (.cells #[.int .i64 4, .string n, .string ⟨#[]⟩, .string ⟨#[]⟩] 96))
              have HOWN := Lib.hid HS5.out.own
              have HBASE := Lib.hid HS5.out.base
              have HNEWS : Hid (∀ j u, (acVals (dropA n))[j]? = some u → (w4.alloc (.cells #[.int .i64 4, .string n, .string ⟨#[]⟩, .string ⟨#[]⟩] 96)).cell? ((⟨w4.heap.size, 0, none⟩ : Addr).add j) = some u) := World.news_of_block (heap_alloc_new _ _)
              clear HS4
              go_wp2_with (at_builtin; refine wpList_append_lies _ rfl _ _ _ rfl (w.heap.size + 1) 96 i0 (.agg #[.int .i64 0, .string ⟨#[]⟩, .string ⟨#[]⟩, .string ⟨#[]⟩]) 4 56 Tryz.underlying44 hi0 hz hsz0 hby rfl (by omega) (.slice A2 F.length c2) F.length (acFlat F) rfl HOWN.out ⟨w4.heap.size, 0, none⟩ 1 1 (acVals (dropA n)) rfl rfl HNEWS.out (acVals_one1 _) (by omega) (by unfold maxLen; omega) (by omega) HBASE.out _ rfl ?_; intro gg cap wq hown hgrow hat hlt; have HS6 := Lib.hid (HS5.out.app hgrow (ac_push hown rfl)); clear hown hgrow hat hlt)
              go_roundw
              case rel => first | exact ⟨i + 1, by omega, by go_num, by rw [HE.out]; exact HS6⟩ | (repeat (first | (refine ⟨?relx, rfl⟩; exact ⟨i + 1, by omega, by go_num, by rw [HE.out]; exact HS6⟩) | (refine ⟨?relx, ?eqs⟩; (case eqs => (and_intros <;> rfl)); exact ⟨i + 1, by omega, by go_num, by rw [HE.out]; exact HS6⟩) | apply Exists.intro))
              case measure => simp [intOf]; omega
            · have hm : m ∈ L := by have := HQ.out; rw [decide_eq_true_eq] at this; exact mem_ofNat.1 this
              have HE : Hid (N ++ (fs.take (i + 1)).flatMap (cOld L) = N ++ (fs.take i).flatMap (cOld L)) := by rw [Hid, HST.out, cOld_in (x := (n, t, k)) HO.out hm, List.append_nil]
              clear hm
              go_wp2
              go_roundw
              case rel => first | exact ⟨i + 1, by omega, by go_num, by rw [HE.out]; exact HS4⟩ | (repeat (first | (refine ⟨?relx, rfl⟩; exact ⟨i + 1, by omega, by go_num, by rw [HE.out]; exact HS4⟩) | (refine ⟨?relx, ?eqs⟩; (case eqs => (and_intros <;> rfl)); exact ⟨i + 1, by omega, by go_num, by rw [HE.out]; exact HS4⟩) | apply Exists.intro))
              case measure => simp [intOf]; omega
        · obtain rfl : i = fs.length := by omega
          rw [List.take_length] at HS
          go_wp2
          go_ret
          exact ⟨_, rfl, by rw [HCB.out]; exact HS.out.own.mono (by omega), HS.out.b⟩
end Go.Proofs.YtaacpdejpcbbbaaGreatDoor

namespace Go.Proofs.YtaacpdejpcbbbaaGreatDoor
set_option linter.unusedVariables false
set_option linter.unusedSimpArgs false
open Go.RowKit Go.Maps
attribute [local go_sem] bs_size List.length_cons List.length_nil List.length_append

abbrev ownsSp (W : World) (b n : Nat) (G : List SpotD) : Prop := W.ownsMap Tryz.prog 9 spElem b n (spM G)
/-- The map of spots under way: its block is the one behind w1. -/
structure MX (w1 : World) (n : Nat) (G : List SpotD) (W : World) : Prop where
  b : Below w1.heap.size w1 W
  m : ownsSp W w1.heap.size n G
  srt : Srt G
  sm : Sp20 G
section
variable {w1 W W' : World} {n : Nat} {G : List SpotD}
theorem MX.lt (h : MX w1 n G W) : w1.heap.size < W.heap.size := h.m.lt
theorem MX.go (h : MX w1 n G W) (hb : Below W.heap.size W W') : MX w1 n G W' := ⟨h.b.trans (hb.mono h.b.size), h.m.kept (grown_of_below (r := none) hb) (by simp), h.srt, h.sm⟩
theorem MX.alloc (h : MX w1 n G W) (o : Obj) : MX w1 n G (W.alloc o) := h.go ((Below.refl _ _).alloc (Nat.le_refl _) o)
theorem MX.same {n' : Nat} {G' : List SpotD} (h : MX w1 n G W) (hn : n ≤ n') (hG : G' = G) : MX w1 n' G' W := by subst hG; exact ⟨h.b, h.m.mono hn, h.srt, h.sm⟩
theorem MX.put {x : SpotD} (h : MX w1 n G W) (hx : x.1.size ≤ 20) (ho : W'.ownsMap Tryz.prog 9 spElem w1.heap.size (n + 1) ((spM G).put (.string (ub x.1)) (spDat x))) (hg : W.grownBy W' (some w1.heap.size)) : MX w1 (n + 1) (setB G x false) W' :=
  ⟨h.b.grown hg h.b.size (fun k e => by cases e; exact Nat.le_refl _), by rw [spM_put h.srt] at ho; exact ho, srt_setB h.srt _ _, fun y hy => by
    rcases setB_mem hy with hy | rfl
    · exact h.sm y hy
    · exact hx⟩
theorem MX.del {x : SpotD} (h : MX w1 n G W) (hx : x.1.size ≤ 20) (ho : W'.ownsMap Tryz.prog 9 spElem w1.heap.size n ((spM G).del (.string (ub x.1)))) (hg : W.grownBy W' (some w1.heap.size)) : MX w1 (n + 1) (setB G x true) W' :=
  ⟨h.b.grown hg h.b.size (fun k e => by cases e; exact Nat.le_refl _), by rw [spM_del h.srt] at ho; exact ho.mono (Nat.le_succ _), srt_setB h.srt _ _, fun y hy => by
    rcases setB_mem hy with hy | rfl
    · exact h.sm y hy
    · exact hx⟩
theorem MX.len (h : MX w1 n G W) : G.length ≤ n := by have := h.m.size_le; rwa [spM_size] at this
end
theorem mx_start (w1 : World) : MX w1 0 [] (w1.alloc (.map #[] 0)) := ⟨(Below.refl _ _).alloc (Nat.le_refl _) _, World.ownsMap_made w1 _ _ _, srt_nil, fun x hx => by simp at hx⟩
theorem encStr_bs (l : List UInt8) : encStr l = Value.string (bs l) := rfl
/-- What slices.Sorted of the map's keys gives. -/
theorem sortedKeys {gm n : Nat} {G : List SpotD} {w : World} (hown : ownsSp w gm n G) (hs : Srt G) (hn : G.length ≤ 1000000000) :
    Calls Tryz.prog 106 #[.func (.func 151) #[] #[.pointer (some ⟨w.heap.size, 0, none⟩)]] (w.alloc (.cells #[.map (some gm)] 133)) fun e w' => ∃ v, e = .returned v ∧ OwnS w' w.heap.size v (G.map fun x => x.1) ∧ Below w.heap.size w w' := by
  have h := Tryz.slices_Sorted_keys_106_107 gm n (spM G) spElem w hown (by rw [spM_size]; unfold maxLen; omega) (by rw [spM_size]; omega)
  refine ((callsIn_wide (n := 5)).1 h).mono ?_
  rintro e w' ⟨v, ss, rfl, hp, hrow, _, hb⟩
  have hsz : (w.alloc (.cells #[.map (some gm)] 133)).heap.size = w.heap.size + 1 := by simp
  have hl : ss.length = G.length := by
    have := hp.length_eq
    rw [spM_keys, List.length_map] at this
    exact this
  refine ⟨v, rfl, ?_, ((Below.refl _ w).alloc (Nat.le_refl _) _).trans (hb.mono (by simp))⟩
  have e1 : ss.mergeSort (fun x y => decide (x ≤ y)) = G.map fun x => ub x.1 := spM_sort hs hp
  rw [e1, hl, hsz] at hrow
  have e2 : (G.map fun x => ub x.1).map encStr = (G.map fun x => x.1).map Value.string := by
    rw [List.map_map, List.map_map]
    refine List.map_congr_left fun x _ => ?_
    show encStr (ub x.1) = Value.string x.1
    rw [encStr_bs, bs_ub]
  rw [e2] at hrow
  unfold OwnS
  rw [List.length_map]
  exact own_low hrow (Nat.le_succ _)
theorem keysOf (mb : Option Nat) (w : World) : Calls Tryz.prog 107 #[.map mb] w fun e w' => e = .returned (.func (.func 151) #[] #[.pointer (some ⟨w.heap.size, 0, none⟩)]) ∧ w' = w.alloc (.cells #[.map mb] 133) :=
  (callsIn_wide (n := 5)).1 (Tryz.maps_Keys_107 mb w)
/-- A look-up at a key that is there. -/
theorem look_sp {gm n : Nat} {G : List SpotD} {w : World} (hown : ownsSp w gm n G) (hs : Srt G) {x : SpotD} (hx : x ∈ G) (hz : x.1.size ≤ 20) :
    (Instr.lookup 133 (.map (some gm)) (.string x.1) false).run Tryz.prog w = .ok (.agg #[.string x.1, .int .i64 x.2.1, .int .i64 x.2.2.1, .int .i64 x.2.2.2]) w := by
  obtain ⟨v, ps, hrun, hv⟩ := hown.lookup (string_keyed Tryz.underlying9) Tryz.underlying133 (Tryz.zeroValue56 w) (spElem_mk (⟨#[]⟩, 0, 0, 0)) (WideMaps.keyOf_string_mk Tryz.underlying9 (s := x.1) (by unfold maxLen; omega))
  rw [show x.1.data.toList = ub x.1 from rfl, spM_at _ hs hx] at hv
  rw [hrun, spElem_inv hv]
set_option maxHeartbeats 16000000 in
set_option maxRecDepth 100000 in
theorem impl_DirOf_calls (A : Option Addr) (c : Nat) (fs : List FiD) (w : World) (h : FiRow w A c fs) (hP : Pow w) (hE : Sent w) :
    Calls Tryz.prog 60 #[.agg #[.slice A fs.length c]] w (DirPost w fs) := by
  obtain ⟨i0, hi0, hz, hsz, hby⟩ := info_parts info_sp
  have hmm := @run_makeMap Tryz.prog
  have HF := Lib.hid h
  have HPW := Lib.hid hP
  have HV := Lib.hid (vd_start w A fs.length c)
  have p0 := HV.out.cell
  have HDS : Hid (∀ i n, (segsB fs)[i]? = some n → diskOkB fs = true ∧ n ≤ 99) := fun i n hi => segs_disk hi
  have hsl := segs_len fs
  have HSP := Lib.hid (impl_Segments_calls A c fs _ (HF.out.below HV.out.from_) (HPW.out.below HV.out.from_) (sentB hE HV.out.from_))
  unfold SegsPost at HSP
  have HDP : Hid (∀ e w', (∃ v, e = .returned (.tuple #[v, .bool (!(segsB fs).isEmpty)]) ∧ SpOwn w' w.heap.size v ((segsB fs).foldl (dirSeg fs) []) ∧ Below w.heap.size w w') → DirPost w fs e w') := fun e w' h => h
  generalize segsB fs = L at HDS hsl HSP HDP
  clear h hP hE
  go_enter Tryz.func60, Tryz.ntmps60
  go_wp2_with fail
  go_at_call 38
  refine HSP.out.mono ?_
  rintro e w1 ⟨v1, rfl, ho1, hb1⟩
  obtain ⟨A1, c1, hv1⟩ := ho1.form
  rw [List.length_map] at hv1
  subst hv1
  have HV1 := Lib.hid (HV.out.go hb1)
  have HR1 := Lib.hid ho1
  clear ho1 hb1 p0 HSP
  cases hLe : L.isEmpty
  · have HX0 := Lib.hid (mx_start w1)
    have HL : Hid ((!L.isEmpty) = true) := by rw [Hid, hLe]; rfl
    clear hLe
    go_wp2
    go_loopw [31] (fun iv wr => ∃ i : Nat, i ≤ L.length ∧ iv = .int .i64 (i : Int) ∧ Hid (MX w1 (800000 * i) ((L.take i).foldl (dirSeg fs) []) wr)) (fun iv _ => L.length - (intOf iv).toNat)
    case atStart => exact ⟨0, Nat.zero_le _, rfl, HX0⟩
    case round =>
      clear HX0
      obtain ⟨i, hi, rfl, HX⟩ := hrel
      rename World => wa
      by_cases hlt : i < L.length
      · obtain ⟨m, hm⟩ : ∃ m, L[i]? = some m := ⟨_, List.getElem?_eq_getElem hlt⟩
        have hdm := HDS.out i m hm
        have HNX := Lib.hid (foldl_snoc (dirSeg fs) [] L hm)
        obtain ⟨b1, hA1, hc1⟩ := (HR1.out.below HX.out.b).at_ (j := i) (x := (m : Int)) (by rw [List.getElem?_map, hm]; rfl)
        subst hA1
        have HVD := Lib.hid ((HV1.out.go HX.out.b).drew)
        have HPP := Lib.hid (HPW.out.below HVD.out.from_)
        have HXD : Hid (MX w1 (800000 * i) ((L.take i).foldl (dirSeg fs) []) wa.drew) := HX.out.go (Below.drew (Below.refl _ _))
        obtain ⟨t, ht⟩ : ∃ t, (fileB fs (segNm (m : Int))).getD ⟨#[]⟩ = t := ⟨_, rfl⟩
        have hts : t.size ≤ 20000 := by rw [← ht]; exact get_small hdm.1
        obtain ⟨f, okp, hpl⟩ := plUni fs m t ht
        have HPL := Lib.hid hpl
        have hres := fiRes_get (fileB fs (segNm (m : Int)))
        rw [ht] at hres
        generalize (fileB fs (segNm (m : Int))).isSome = ob at hres
        have HRES := Lib.hid hres
        obtain ⟨hbl, hcs⟩ := pl_parts (fs := fs) hdm.2
        have HDE : Hid (∀ out, dirSeg fs out m = (batsAt fs m).foldl (dirPl (m : Int)) out) := fun out => rfl
        generalize batsAt fs m = pls at hbl hcs HDE HPL
        have HCS := Lib.hid hcs
        have hm99 := hdm.2
        have hil : (i : Int) < (L.length : Int) := by omega
        clear hm hdm ht hpl hres hcs HX
        generalize (L.take i).foldl (dirSeg fs) [] = D at HXD HNX
        go_wp2_with fail
        go_region_held3 (fun w' => w'.cell? ⟨w.heap.size, 0, none⟩ = some (.slice A fs.length c) ∧ Hid (MX w1 (800000 * i) D w' ∧ VD w A fs.length c w')) (first | exact ⟨HVD.out.cell, HXD.out, HVD.out⟩ | exact ⟨(HVD.out.go (by assumption)).cell, HXD.out.go (by assumption), HVD.out.go (by assumption)⟩ | exact ⟨((HVD.out.go (by assumption)).go (by assumption)).cell, (HXD.out.go (by assumption)).go (by assumption), (HVD.out.go (by assumption)).go (by assumption)⟩) (first | (go_at_call 40; refine (impl_SegNm_calls (m : Int) _ HPP.out).mono ?_; rintro e w' ⟨rfl, hb⟩) | (go_at_call 39; refine (impl_FileAt_calls (segNm (m : Int)) A c fs _ (HF.out.below (HVD.out.go (by assumption)).from_)).mono ?_; rw [HRES.out]; rintro e w'' ⟨rfl, hb⟩))
        obtain ⟨_, HXV⟩ := ‹_ ∧ Hid (MX w1 (800000 * i) D _ ∧ VD w A fs.length c _)›
        have HX3 := Lib.hid HXV.out.1
        have HLT3 := Lib.hid HX3.out.lt
        clear HXV HXD HVD
        go_wp2_with fail
        go_at_call 41
        refine (impl_placedIn_calls (m : Int) t _ (by omega)).mono ?_
        rintro e w8 hp
        obtain ⟨v8, rfl, ho8, hb8⟩ := HPL.out _ _ _ hp
        obtain ⟨A8, c8, hv8⟩ := ListC.form ho8
        subst hv8
        have HO8 := Lib.hid (ListC.mono ho8 HLT3.out)
        have HX8 := Lib.hid (HX3.out.go hb8)
        clear hp ho8 hb8 HX3 HLT3
        go_wp2
        go_loopw [51] (fun kv wr2 => ∃ k : Nat, k ≤ pls.length ∧ kv = .int .i64 (k : Int) ∧ Hid (MX w1 (800000 * i + 40 * k) ((pls.take k).foldl (dirPl (m : Int)) D) wr2) ∧ Hid (w8.grownBy wr2 (some w1.heap.size))) (fun kv _ => pls.length - (intOf kv).toNat)
        case atStart => exact ⟨0, Nat.zero_le _, rfl, HX8, World.grownBy.refl _ _⟩
        case round =>
          clear HX8
          obtain ⟨k, hk, rfl, HX2, HG2⟩ := hrel
          rename World => w6
          by_cases hlt2 : k < pls.length
          · obtain ⟨⟨⟨q, cs⟩, a, z⟩, hp⟩ : ∃ p, pls[k]? = some p := ⟨_, List.getElem?_eq_getElem hlt2⟩
            obtain ⟨g, u, hA8, hcc, hu, hsm⟩ := ListC.at_ (ListC.kept HO8.out HG2.out (fun j e => by cases e; exact .inr (Nat.lt_succ_self _))) (fun _ => rfl) hp
            subst hA8
            obtain ⟨Au, cu, hform, _⟩ := hu.row hsm
            dsimp only at hform hu hsm
            subst hform
            have k0 := hcc 0 (by omega)
            have k1 := hcc 1 (by omega)
            have k2 := hcc 2 (by omega)
            have k3 := hcc 3 (by omega)
            simp only [plVals, Nat.add_zero, List.getElem?_cons_zero, List.getElem?_cons_succ] at k0 k1 k2 k3
            obtain ⟨hcl, hck⟩ := HCS.out _ (List.mem_of_getElem? hp)
            dsimp only at hcl hck
            have HCK := Lib.hid hck
            have HSM := Lib.hid hsm
            have HNX2 := Lib.hid (foldl_snoc (dirPl (m : Int)) D pls hp)
            have HAL : Hid (Below w6.heap.size w6 (w6.alloc (.cells #[.int .i64 q, .slice Au cs.length cu, .int .i64 (a : Int), .int .i64 (z : Int)] 75))) := (Below.refl _ _).alloc (Nat.le_refl _) _
            have HBX : Hid ((w6.alloc (.cells #[.int .i64 q, .slice Au cs.length cu, .int .i64 (a : Int), .int .i64 (z : Int)] 75)).heap[w6.heap.size]? = some (.cells #[.int .i64 q, .slice Au cs.length cu, .int .i64 (a : Int), .int .i64 (z : Int)] 75 (0, 0))) := blk_new _ _
            have HU : Hid (ChOwn (w6.alloc (.cells #[.int .i64 q, .slice Au cs.length cu, .int .i64 (a : Int), .int .i64 (z : Int)] 75)) (w1.heap.size + 1) (.slice Au cs.length cu) cs) := own_keep hu HAL.out
            have HXB := Lib.hid (HX2.out.go HAL.out)
            have HGB : Hid (w8.grownBy (w6.alloc (.cells #[.int .i64 q, .slice Au cs.length cu, .int .i64 (a : Int), .int .i64 (z : Int)] 75)) (some w1.heap.size)) := gr_trans HG2.out (World.grownBy_alloc _ _ _)
            have HNE : Hid (w6.heap.size ≠ w1.heap.size) := Nat.ne_of_gt HX2.out.lt
            have hkl : (k : Int) < (pls.length : Int) := by omega
            have x1 := blk_cell HBX.out 1
            clear hp hcc hu hsm hck
            generalize (pls.take k).foldl (dirPl (m : Int)) D = E at HXB HNX2 HX2
            go_wp2
            generalize w6.alloc (.cells #[.int .i64 q, .slice Au cs.length cu, .int .i64 (a : Int), .int .i64 (z : Int)] 75) = wb at HAL HBX HU HXB HGB x1 ⊢
            generalize w6.heap.size = gx at HBX HNE x1 ⊢
            clear HAL HX2 HG2 k0 k1 k2 k3 x1
            go_loopw [59] (fun jv wr3 => ∃ j : Nat, j ≤ cs.length ∧ jv = .int .i64 (j : Int) ∧ Hid (MX w1 (800000 * i + 40 * k + j) ((cs.take j).foldl (dirCh (m : Int) (a : Int) q) E) wr3) ∧ Hid (wb.grownBy wr3 (some w1.heap.size))) (fun jv _ => cs.length - (intOf jv).toNat)
            case atStart => exact ⟨0, Nat.zero_le _, rfl, HXB, World.grownBy.refl _ _⟩
            case round =>
              clear HXB
              obtain ⟨j, hj, rfl, HX3, HG3⟩ := hrel
              rename World => w7
              by_cases hlt3 : j < cs.length
              · have HBX7 : Hid (w7.heap[gx]? = some (.cells #[.int .i64 q, .slice Au cs.length cu, .int .i64 (a : Int), .int .i64 (z : Int)] 75 (0, 0))) := (HG3.out.block gx (blk_lt HBX.out) (fun e => HNE.out (Option.some.inj e))).trans HBX.out
                obtain ⟨Ar, cr, hfr, hrow⟩ := (ChOwn.kept HU.out HG3.out (fun k hk e => by have := (HU.out.lt k hk).1; cases e; omega)).row HSM.out
                cases hfr
                obtain ⟨ad, y, hA, HY, hy1, hy2, hd0, hd1, hd2⟩ := hrow.at_ hlt3
                cases hA
                have hyk := HCK.out y (List.mem_of_getElem? HY.out)
                have HNX3 := Lib.hid (foldl_snoc (dirCh (m : Int) (a : Int) q) E cs HY.out)
                obtain ⟨ck, cv, cg⟩ := y
                dsimp only at hy1 hy2 hd0 hd1 hd2 hyk
                have HYK := Lib.hid hyk
                have HAL : Hid (Below w7.heap.size w7 (w7.alloc (.cells #[.string ck, .string cv, .bool cg] 121))) := (Below.refl _ _).alloc (Nat.le_refl _) _
                have HXC := Lib.hid (HX3.out.go HAL.out)
                have HOW := Lib.hid HXC.out.m
                have HGC : Hid (wb.grownBy (w7.alloc (.cells #[.string ck, .string cv, .bool cg] 121)) (some w1.heap.size)) := gr_trans HG3.out (World.grownBy_alloc _ _ _)
                have y0 := blk_cell (blk_new w7 (.cells #[.string ck, .string cv, .bool cg] 121)) 0
                have y2 := blk_cell (blk_new w7 (.cells #[.string ck, .string cv, .bool cg] 121)) 2
                have z0 := blk_cell (blk_below HBX7.out HAL.out) 0
                have z2 := blk_cell (blk_below HBX7.out HAL.out) 2
                have hjl : (j : Int) < (cs.length : Int) := by omega
                have HKEY : Hid (keyOf Tryz.prog 9 (.string ck) = some (.string (ub ck))) := WideMaps.keyOf_string_mk Tryz.underlying9 (s := ck) (by unfold maxLen; omega)
                have HRM : Hid (800000 * i + 40 * k + j < maxLen) := by rw [Hid]; unfold maxLen; omega
                clear hrow hyk HBX7 HX3
                generalize (cs.take j).foldl (dirCh (m : Int) (a : Int) q) E = G at HXC HNX3 HOW
                cases cg
                · go_wp2_with (at_mapUpdate; refine wpList_mapUpdate_own _ rfl _ _ _ 133 rfl 9 56 (string_keyed Tryz.underlying9) Tryz.underlying133 spElem w1.heap.size _ _ rfl HOW.out HRM.out _ _ (.string (ub ck)) rfl rfl HKEY.out (spDat (ck, (m : Int), (a : Int), q)) [] rfl ?_; intro w9 hown9 hgrow9; have HX9 := Lib.hid (HXC.out.put (x := (ck, (m : Int), (a : Int), q)) HYK.out hown9 hgrow9); have HG9 := Lib.hid (gr_trans HGC.out hgrow9); clear hown9 hgrow9)
                  go_roundw
                  case rel => first | exact ⟨j + 1, by omega, by go_num, HX9.out.same (by omega) HNX3.out, HG9⟩ | (repeat (first | (refine ⟨?relx, rfl⟩; exact ⟨j + 1, by omega, by go_num, HX9.out.same (by omega) HNX3.out, HG9⟩) | (refine ⟨?relx, ?eqs⟩; (case eqs => (and_intros <;> rfl)); exact ⟨j + 1, by omega, by go_num, HX9.out.same (by omega) HNX3.out, HG9⟩) | apply Exists.intro))
                  case measure => simp [intOf]; omega
                · go_wp2_with (at_delete; refine wpList_delete_own _ rfl _ _ 133 9 rfl 56 (string_keyed Tryz.underlying9) Tryz.underlying133 spElem w1.heap.size _ _ rfl HOW.out _ _ rfl HKEY.out ?_; intro w9 hown9 hturn9; have HX9 := Lib.hid (HXC.out.del (x := (ck, (m : Int), (a : Int), q)) HYK.out hown9 hturn9.grown); have HG9 := Lib.hid (gr_trans HGC.out hturn9.grown); clear hown9 hturn9)
                  go_roundw
                  case rel => first | exact ⟨j + 1, by omega, by go_num, HX9.out.same (by omega) HNX3.out, HG9⟩ | (repeat (first | (refine ⟨?relx, rfl⟩; exact ⟨j + 1, by omega, by go_num, HX9.out.same (by omega) HNX3.out, HG9⟩) | (refine ⟨?relx, ?eqs⟩; (case eqs => (and_intros <;> rfl)); exact ⟨j + 1, by omega, by go_num, HX9.out.same (by omega) HNX3.out, HG9⟩) | apply Exists.intro))
                  case measure => simp [intOf]; omega
              · obtain rfl : j = cs.length := by omega
                rw [List.take_length] at HX3
                have hjl : ¬ (cs.length : Int) < (cs.length : Int) := by omega
                have HG9 := Lib.hid (gr_trans HGB.out HG3.out)
                have HX9 : Hid (MX w1 (800000 * i + 40 * (k + 1)) ((pls.take (k + 1)).foldl (dirPl (m : Int)) D) w7) := HX3.out.same (by omega) HNX2.out
                go_wp2
                go_roundw
                case rel => first | exact ⟨k + 1, by omega, by go_num, HX9, HG9⟩ | (repeat (first | (refine ⟨?relx, rfl⟩; exact ⟨k + 1, by omega, by go_num, HX9, HG9⟩) | (refine ⟨?relx, ?eqs⟩; (case eqs => (and_intros <;> rfl)); exact ⟨k + 1, by omega, by go_num, HX9, HG9⟩) | apply Exists.intro))
                case measure => simp [intOf]; omega
          · obtain rfl : k = pls.length := by omega
            rw [List.take_length] at HX2
            have hkl : ¬ (pls.length : Int) < (pls.length : Int) := by omega
            have HX9 : Hid (MX w1 (800000 * (i + 1)) ((L.take (i + 1)).foldl (dirSeg fs) []) w6) := HX2.out.same (by omega) (by rw [HNX.out]; exact HDE.out D)
            go_wp2
            go_roundw
            case rel => first | exact ⟨i + 1, by omega, by go_num, HX9⟩ | (repeat (first | (refine ⟨?relx, rfl⟩; exact ⟨i + 1, by omega, by go_num, HX9⟩) | (refine ⟨?relx, ?eqs⟩; (case eqs => (and_intros <;> rfl)); exact ⟨i + 1, by omega, by go_num, HX9⟩) | apply Exists.intro))
            case measure => simp [intOf]; omega
      · obtain rfl : i = L.length := by omega
        rw [List.take_length] at HX
        have hil : ¬ (L.length : Int) < (L.length : Int) := by omega
        generalize L.foldl (dirSeg fs) [] = G at HX HDP
        have HGL := Lib.hid (Nat.le_trans HX.out.len (show 800000 * L.length ≤ 1000000000 by omega))
        go_wp2_with fail
        go_at_call 107
        refine (keysOf (some w1.heap.size) _).mono ?_
        rintro e w4 ⟨rfl, rfl⟩
        go_wp2_with fail
        go_at_call 106
        refine (sortedKeys HX.out.m HX.out.srt HGL.out).mono ?_
        rintro e w5 ⟨v5, rfl, ho5, hb5⟩
        obtain ⟨A5, c5, hv5⟩ := ho5.form
        rw [List.length_map] at hv5
        subst hv5
        have HK5 := Lib.hid ho5
        have HX5 := Lib.hid (HX.out.go hb5)
        have HWB : Hid (Below w.heap.size w w5) := (HV1.out.go HX5.out.b).from_
        clear ho5 hb5 HX
        go_wp2
        go_loopw [18, 87] (fun ov iv wr => ∃ i : Nat, i ≤ G.length ∧ iv = .int .i64 (i : Int) ∧ Hid (SpOwn wr w5.heap.size ov (G.take i)) ∧ Hid (Below w5.heap.size w5 wr)) (fun _ iv _ => G.length - (intOf iv).toNat)
        case atStart => exact ⟨0, Nat.zero_le _, rfl, World.ownsRow_nil .., Below.refl _ _⟩
        case round =>
          obtain ⟨i, hi, rfl, HO, HB⟩ := hrel
          rename World => w6
          by_cases hlt2 : i < G.length
          · obtain ⟨x, hx⟩ : ∃ x, G[i]? = some x := ⟨_, List.getElem?_eq_getElem hlt2⟩
            obtain ⟨g5, cap5, hA, hc0⟩ : ∃ g5 cap5, Value.slice A5 G.length c5 = .slice (some ⟨g5, 0, none⟩) G.length cap5 ∧ w6.cell? ⟨g5, i, none⟩ = some (.string x.1) := by
              rcases ownS_at (OwnS.below HK5.out HB.out) with ⟨_, h0⟩ | ⟨g5, cap5, hv, _, _, _, _, hc⟩
              · have := congrArg List.length h0
                rw [List.length_map] at this
                simp only [List.length_nil] at this
                omega
              · rw [List.length_map] at hv
                exact ⟨g5, cap5, hv, hc i x.1 (by rw [List.getElem?_map, hx]; rfl)⟩
            cases hA
            have hx20 := HX5.out.sm x (List.mem_of_getElem? hx)
            have hlook := look_sp (HX5.out.go HB.out).m HX5.out.srt (List.mem_of_getElem? hx) hx20
            have HT := Lib.hid (take_snoc hx)
            have HFL : Hid ((G.take i).length = i) := by rw [Hid, List.length_take]; omega
            obtain ⟨xk, xs, xa, xq⟩ := x
            dsimp only at hc0 hx20 hlook
            have hil2 : (i : Int) < (G.length : Int) := by omega
            obtain ⟨A2, c2, hv⟩ := HO.out.form
            subst hv
            have HGL2 := HGL.out
            have HAL : Hid (Below w6.heap.size w6 (w6.alloc (.cells #[.string xk, .int .i64 xs, .int .i64 xa, .int .i64 xq] 56))) := (Below.refl _ _).alloc (Nat.le_refl _) _
            have HOWN := Lib.hid (HO.out.below HAL.out)
            have HBASE := Lib.hid (Nat.le_trans HB.out.size HAL.out.size)
            have HNEWS : Hid (∀ j u, (spVals (xk, xs, xa, xq))[j]? = some u → (w6.alloc (.cells #[.string xk, .int .i64 xs, .int .i64 xa, .int .i64 xq] 56)).cell? ((⟨w6.heap.size, 0, none⟩ : Addr).add j) = some u) := World.news_of_block (heap_alloc_new w6 _)
            clear hx
            generalize G.take i = F at HO HT HFL HOWN ⊢
            have hfl : F.length ≤ 1000000000 := by rw [HFL.out]; omega
            go_wp2_with (at_builtin; refine wpList_append_lies _ rfl _ _ _ rfl w5.heap.size 56 i0 (.agg #[.string ⟨#[]⟩, .int .i64 0, .int .i64 0, .int .i64 0]) 4 40 Tryz.underlying33 hi0 hz hsz hby rfl (by omega) (.slice A2 F.length c2) F.length (spFlat F) rfl HOWN.out ⟨w6.heap.size, 0, none⟩ 1 1 (spVals (xk, xs, xa, xq)) rfl rfl HNEWS.out (by simp [Value.oneCell', spVals]) (by omega) (by unfold maxLen; omega) (by omega) HBASE.out _ rfl ?_; intro gg cap w7 hown hgrow hat hlt3; have HPU : Hid (SpOwn w7 w5.heap.size (.slice (some ⟨gg, 0, none⟩) (F.length + 1) cap) (F ++ [(xk, xs, xa, xq)])) := (by rw [Hid, SpOwn, spFlat_snoc, List.length_append]; exact hown); have HB7 := Lib.hid ((HB.out.trans (HAL.out.mono HB.out.size)).grown hgrow HBASE.out (fun k e => (HOWN.out.lt k e).1)); clear hown hgrow hat)
            go_roundw
            case rel => first | exact ⟨i + 1, by omega, by go_num, spOwn_eq HT.out HPU.out, HB7⟩ | (repeat (first | (refine ⟨?relx, rfl⟩; exact ⟨i + 1, by omega, by go_num, spOwn_eq HT.out HPU.out, HB7⟩) | (refine ⟨?relx, ?eqs⟩; (case eqs => (and_intros <;> rfl)); exact ⟨i + 1, by omega, by go_num, spOwn_eq HT.out HPU.out, HB7⟩) | apply Exists.intro))
            case measure => simp [intOf]; omega
          · obtain rfl : i = G.length := by omega
            rw [List.take_length] at HO
            have hil2 : ¬ (G.length : Int) < (G.length : Int) := by omega
            have HWF := Lib.hid (HWB.out.trans (HB.out.mono HWB.out.size))
            go_wp2
            go_ret2
            refine HDP.out _ _ ⟨_, ?_, HO.out.mono HWB.out.size, HWF.out⟩
            rw [HL.out]
            rfl
  · obtain rfl : L = [] := List.isEmpty_iff.1 hLe
    go_wp2
    go_ret2
    exact HDP.out _ _ ⟨_, rfl, World.ownsRow_nil .., HV1.out.from_⟩
end Go.Proofs.YtaacpdejpcbbbaaGreatDoor

namespace Go.Proofs.YtaacpdejpcbbbaaGreatDoor
set_option linter.unusedVariables false
set_option linter.unusedSimpArgs false
open Go.RowKit
attribute [local go_sem] bs_size List.length_cons List.length_nil

/-- The disk's box, the result's box. -/
structure OA (w : World) (A : Option Addr) (n c : Nat) (W : World) : Prop where
  b : Below w.heap.size w W
  d : W.heap[w.heap.size]? = some (.cells #[.slice A n c] 32 (0, 0))
  r : W.heap[w.heap.size + 1]? = some (engO (.slice none 0 0) 0 0 0 (.slice none 0 0))
section
variable {w W W' : World} {A : Option Addr} {n c : Nat}
theorem OA.go (h : OA w A n c W) (hb : Below W.heap.size W W') : OA w A n c W' := ⟨h.b.trans (hb.mono h.b.size), blk_below h.d hb, blk_below h.r hb⟩
theorem OA.size (h : OA w A n c W) : w.heap.size + 2 ≤ W.heap.size := blk_lt h.r
end
theorem oa_start (w : World) (A : Option Addr) (n c : Nat) : OA w A n c ((w.alloc (.cells #[.slice A n c] 32)).alloc (engO (.slice none 0 0) 0 0 0 (.slice none 0 0))) := by
  refine ⟨((Below.refl _ _).alloc (Nat.le_refl _) _).alloc (by simp) _, gr_old (blk_new w _) _, ?_⟩
  have := blk_new (w.alloc (.cells #[.slice A n c] 32)) (engO (.slice none 0 0) 0 0 0 (.slice none 0 0))
  rwa [size_alloc1] at this
/-- The same, and the engine's box, the rows of segments, spots, acts. -/
structure OX (w : World) (A : Option Addr) (n c ge : Nat) (room act q : Int) (lv dv av : Value) (L : List Nat) (ds : List SpotD) (acs : List ActD) (W : World) : Prop where
  a : OA w A n c W
  e : W.heap[ge]? = some (engO (.slice none 0 0) room act q dv)
  ld : OwnI W (w.heap.size + 2) lv (L.map Int.ofNat)
  sp : SpOwn W (w.heap.size + 2) dv ds
  ac : AcOwn W (w.heap.size + 2) av acs
  far : w.heap.size + 2 ≤ ge
section
variable {w W W' : World} {A : Option Addr} {n c ge : Nat} {room act q : Int} {lv dv av : Value} {L : List Nat} {ds : List SpotD} {acs : List ActD}
theorem OX.go (h : OX w A n c ge room act q lv dv av L ds acs W) (hb : Below W.heap.size W W') : OX w A n c ge room act q lv dv av L ds acs W' := ⟨h.a.go hb, blk_below h.e hb, h.ld.below hb, h.sp.below' hb, h.ac.below hb, h.far⟩
theorem OX.drew (h : OX w A n c ge room act q lv dv av L ds acs W) : OX w A n c ge room act q lv dv av L ds acs W.drew := h.go (Below.drew (Below.refl _ _))
theorem OX.alloc (h : OX w A n c ge room act q lv dv av L ds acs W) (o : Obj) : OX w A n c ge room act q lv dv av L ds acs (W.alloc o) := h.go ((Below.refl _ _).alloc (Nat.le_refl _) _)
theorem OX.all (h : OX w A n c ge room act q lv dv av L ds acs W) : W.cell? ⟨w.heap.size, 0, none⟩ = some (.slice A n c) ∧ Hid (OX w A n c ge room act q lv dv av L ds acs W) := ⟨blk_cell h.a.d 0, h⟩
theorem OX.seq (h : OX w A n c ge room act q lv dv av L ds acs W) (q' : Int) : OX w A n c ge room act q' lv dv av L ds acs (W.setCell ⟨ge, 3, none⟩ (.int .i64 q')) := by
  have hf := h.far
  exact ⟨⟨h.a.b.setCell (p := ⟨ge, 3, none⟩) (by show w.heap.size ≤ ge; omega) _, (gr_setne _ _ _ _ _ (by omega)).trans h.a.d, (gr_setne _ _ _ _ _ (by omega)).trans h.a.r⟩, by rw [blk_set h.e]; rfl, own_set h.ld h.e (by decide), own_set h.sp h.e (by decide), own_set h.ac h.e (by decide), hf⟩
theorem OX.app {av' : Value} {acs' : List ActD} (h : OX w A n c ge room act q lv dv av L ds acs W) (hg : W.grownBy W' av.ownBlock) (ho : AcOwn W' (w.heap.size + 2) av' acs') : OX w A n c ge room act q lv dv av' L ds acs' W' := by
  have hlt := h.ac.lt
  refine ⟨⟨h.a.b.grown hg h.a.b.size fun k e => by have := (hlt k e).1; omega, (hg.block _ (blk_lt h.a.d) (fun e => by have := (hlt _ e.symm).1; omega)).trans h.a.d, (hg.block _ (blk_lt h.a.r) (fun e => by have := (hlt _ e.symm).1; omega)).trans h.a.r⟩, (hg.block _ (blk_lt h.e) (fun e => own_apart h.ac h.e (by decide) e.symm)).trans h.e, own_aside h.ld h.ac (by decide) hg, own_aside h.sp h.ac (by decide) hg, ho, h.far⟩
end
theorem open_bad {fn : Func} {w W : World} {A : Option Addr} {n c : Nat} {o : Option (EngD × List ActD)} {tmps : Array Value} (hf : fn.results = #[.cell 4 35, .tmp 5, .tmp 6]) (h : OA w A n c W) (ho : o = none) (hp : tmps.getD 4 undef = .pointer (some ⟨w.heap.size + 1, 0, none⟩)) (h5 : tmps.getD 5 undef = .slice none 0 0) (h6 : tmps.getD 6 undef = .bool false) :
    bodyPost Tryz.prog fn (OpenPost w o) .ret ⟨tmps, []⟩ (set5 W (w.heap.size + 1) (.slice none 0 0) (.int .i64 0) (.int .i64 0) (.int .i64 0) (.slice none 0 0)) := by
  subst ho
  obtain ⟨fx, hu⟩ := und_eng
  have hg := set5_grown W (w.heap.size + 1) (.slice none 0 0) (.int .i64 0) (.int .i64 0) (.int .i64 0) (.slice none 0 0)
  exact res_box2 hf (g := w.heap.size + 1) (cs := #[.slice none 0 0, .int .i64 0, .int .i64 0, .int .i64 0, .slice none 0 0]) (set5_blk h.r) hp hu info_eng _ _ h5 h6 ⟨h.b.grown hg h.b.size (fun k e => by cases e; omega), _, rfl, World.ownsRow_nil ..⟩
theorem open_good {fn : Func} {w W : World} {A : Option Addr} {n c ge : Nat} {room act q : Int} {lv dv av v9 : Value} {L : List Nat} {ds : List SpotD} {acs : List ActD} {fs9 : List FiD} {o : Option (EngD × List ActD)} {tmps : Array Value} (hf : fn.results = #[.cell 4 35, .tmp 5, .tmp 6])
    (h : OX w A n c ge room act q lv dv av L ds acs W) (ho9 : FiOwn W (w.heap.size + 2) v9 fs9) (ho : o = some ((fs9, room, act, q, ds), acs)) (hp : tmps.getD 4 undef = .pointer (some ⟨w.heap.size + 1, 0, none⟩)) (h5 : tmps.getD 5 undef = av) (h6 : tmps.getD 6 undef = .bool true) :
    bodyPost Tryz.prog fn (OpenPost w o) .ret ⟨tmps, []⟩ (set5 (W.setCell ⟨ge, 0, none⟩ v9) (w.heap.size + 1) v9 (.int .i64 room) (.int .i64 act) (.int .i64 q) dv) := by
  subst ho
  obtain ⟨fx, hu⟩ := und_eng
  have hfar := h.far
  have hr1 : (W.setCell ⟨ge, 0, none⟩ v9).heap[w.heap.size + 1]? = some (engO (.slice none 0 0) 0 0 0 (.slice none 0 0)) := (gr_setne _ _ _ _ _ (by omega)).trans h.a.r
  have hb1 : Below w.heap.size w (W.setCell ⟨ge, 0, none⟩ v9) := h.a.b.setCell (p := ⟨ge, 0, none⟩) (by show w.heap.size ≤ ge; omega) _
  have hg := set5_grown (W.setCell ⟨ge, 0, none⟩ v9) (w.heap.size + 1) v9 (.int .i64 room) (.int .i64 act) (.int .i64 q) dv
  have keep : ∀ {B sz n : Nat} {T : TypeId} {v : Value} {fl : List Value}, W.ownsRow B T sz v n fl → 35 ≠ T → (set5 (W.setCell ⟨ge, 0, none⟩ v9) (w.heap.size + 1) v9 (.int .i64 room) (.int .i64 act) (.int .i64 q) dv).ownsRow B T sz v n fl := fun h1 hT => by
    have h2 := own_set (i := 0) (x := v9) h1 h.e hT
    exact World.ownsRow.kept h2 hg (.inr (own_apart h2 hr1 hT))
  exact res_box2 hf (g := w.heap.size + 1) (cs := #[v9, .int .i64 room, .int .i64 act, .int .i64 q, dv]) (set5_blk hr1) hp hu info_eng _ _ h5 h6 ⟨hb1.grown hg hb1.size (fun k e => by cases e; omega), v9, dv, av, rfl, FiOwn.mono (keep ho9 (by decide)) (by omega), SpOwn.mono (keep h.sp (by decide)) (by omega), AcOwn.mono (keep h.ac (by decide)) (by omega)⟩
theorem ac_push3 {w : World} {B g n cap : Nat} {F : List ActD} {a1 a2 a3 : ActD} (h : w.ownsRow B 96 4 (.slice (some ⟨g, 0, none⟩) n cap) n (acFlat F ++ (acVals a1 ++ (acVals a2 ++ acVals a3)))) (hn : n = F.length + 3) : AcOwn w B (.slice (some ⟨g, 0, none⟩) n cap) (F ++ [a1, a2, a3]) := by
  subst hn
  rw [AcOwn, acFlat_app, List.length_append]
  simpa [acFlat] using h
theorem acs_len {fs : List FiD} {L : List Nat} {act i : Nat} {acc : List ActD} (h : TornAt fs act L i acc) (hs : acc.length ≤ 3 * i) : acc.length ≤ 3 * i := hs
--@walk
theorem OA.res {w W : World} {A : Option Addr} {n c : Nat} (h : OA w A n c W) : W.cell? ⟨w.heap.size + 1, 0, none⟩ = some (.slice none 0 0) ∧ W.cell? ⟨w.heap.size + 1, 1, none⟩ = some (.int .i64 0) ∧ W.cell? ⟨w.heap.size + 1, 2, none⟩ = some (.int .i64 0) ∧ W.cell? ⟨w.heap.size + 1, 3, none⟩ = some (.int .i64 0) ∧ W.cell? ⟨w.heap.size + 1, 4, none⟩ = some (.slice none 0 0) ∧
    W.frozen? ⟨w.heap.size + 1, 0, none⟩ = false ∧ W.frozen? ⟨w.heap.size + 1, 1, none⟩ = false ∧ W.frozen? ⟨w.heap.size + 1, 2, none⟩ = false ∧ W.frozen? ⟨w.heap.size + 1, 3, none⟩ = false ∧ W.frozen? ⟨w.heap.size + 1, 4, none⟩ = false :=
  ⟨blk_cell h.r 0, blk_cell h.r 1, blk_cell h.r 2, blk_cell h.r 3, blk_cell h.r 4, blk_frozen h.r 0, blk_frozen h.r 1, blk_frozen h.r 2, blk_frozen h.r 3, blk_frozen h.r 4⟩
theorem seg_get {fs : List FiD} {i n : Nat} (h : (segsB fs)[i]? = some n) : n ≤ 99 := segs_99 n (List.mem_of_getElem? h)
set_option maxHeartbeats 16000000 in
set_option maxRecDepth 100000 in
theorem impl_OpenEngine_calls (A : Option Addr) (c : Nat) (fs : List FiD) (room : Int) (w : World) (h : FiRow w A c fs) (hA : AtHead A fs) (hP : Pow w) (hE : Sent w) :
    Calls Tryz.prog 22 #[.agg #[.slice A fs.length c], .int .i64 room] w (OpenPost w (openB fs room)) := by
  obtain ⟨i0, hi0, hz, hsz0, hby⟩ := info_parts info_ac
  have HO0 := Lib.hid (oa_start w A fs.length c)
  have HR := Lib.hid h
  have HP := Lib.hid hP
  have HE := Lib.hid hE
  have HAH := Lib.hid hA
  obtain ⟨bk, hbk⟩ : ∃ b, inR room 100 20000 = b := ⟨_, rfl⟩
  obtain ⟨ak, hak⟩ : ∃ b, allKeptB fs = b := ⟨_, rfl⟩
  obtain ⟨rk, hrk⟩ : ∃ b, riseB fs = b := ⟨_, rfl⟩
  have HBK := Lib.hid hbk
  have HAK := Lib.hid hak
  have HRK := Lib.hid hrk
  clear h hA hP hE hbk hak hrk
  go_enter Tryz.func22, Tryz.ntmps22
  go_wp2_with fail
  go_at_call 57
  refine (within_at room 100 20000 _ HBK.out).mono ?_
  rintro e w1 ⟨rfl, rfl⟩
  generalize (w.alloc (.cells #[.slice A fs.length c] 32)).alloc (engO (.slice none 0 0) 0 0 0 (.slice none 0 0)) = W2 at HO0 ⊢
  cases bk
  · have HN := Lib.hid (open_no (fs := fs) (room := room) (by rw [HBK.out]; simp))
    obtain ⟨r0, r1, r2, r3, r4, t0, t1, t2, t3, t4⟩ := HO0.out.res
    go_wp2
    exact open_bad rfl HO0.out HN.out rfl rfl rfl
  · have p0 := blk_cell HO0.out.d 0
    go_wp2_with fail
    go_at_call 58
    refine (impl_AllKept_calls A c fs _ (HR.out.below HO0.out.b)).mono ?_
    rw [HAK.out]
    rintro e w3 ⟨rfl, hb3⟩
    have HO3 := Lib.hid (HO0.out.go hb3)
    clear p0 hb3 HO0
    cases ak
    · have HN := Lib.hid (open_no (fs := fs) (room := room) (by rw [HAK.out]; simp))
      obtain ⟨r0, r1, r2, r3, r4, t0, t1, t2, t3, t4⟩ := HO3.out.res
      go_wp2
      exact open_bad rfl HO3.out HN.out rfl rfl rfl
    · have p0 := blk_cell HO3.out.d 0
      go_wp2_with fail
      go_at_call 59
      refine (impl_SeqsRise_calls A c fs _ (HR.out.below HO3.out.b) (HP.out.below HO3.out.b) (sentC HE.out HO3.out.b)).mono ?_
      rw [HRK.out]
      rintro e w4 ⟨rfl, hb4⟩
      have HO4 := Lib.hid (HO3.out.go hb4)
      clear p0 hb4 HO3
      cases rk
      · have HN := Lib.hid (open_no (fs := fs) (room := room) (by rw [HRK.out]; simp))
        obtain ⟨r0, r1, r2, r3, r4, t0, t1, t2, t3, t4⟩ := HO4.out.res
        go_wp2
        exact open_bad rfl HO4.out HN.out rfl rfl rfl
      · have p0 := blk_cell HO4.out.d 0
        obtain ⟨a0, r0, hs0⟩ := rise_ne HRK.out
        have hDK : diskOkB fs = true := by have := HAK.out; unfold allKeptB at this; rw [Bool.and_eq_true] at this; exact this.1
        obtain ⟨kl, hkl⟩ : ∃ kl, (segsB fs).length = kl + 1 := ⟨r0.length, by rw [hs0]; rfl⟩
        have h99 : ∀ i n, (segsB fs)[i]? = some n → n ≤ 99 := fun i n hi => seg_get hi
        have hlast : ∀ n, (segsB fs)[kl]? = some n → n = lastB fs := fun n hn => (last_iff (segs_incr fs) hn).2 hkl.symm
        have hacts : openActs fs = (tornGo fs (lastB fs) (segsB fs)).map (cleanB fs (segsB fs) ++ ·) := rfl
        have hseq : seqB fs = (segsB fs).foldl (seqStep fs) 0 := rfl
        have hopen := open_yes HBK.out HAK.out HRK.out
        have hsl := segs_len fs
        have htsh := torn_sh hDK (lastB fs) (segsB fs) segs_99
        have htl := torn_len (fs := fs) (lastB fs) (segsB fs)
        have HSP := Lib.hid (fun W h1 h2 h3 => impl_Segments_calls A c fs W h1 h2 h3)
        have HDP := Lib.hid (fun W h1 h2 h3 => impl_DirOf_calls A c fs W h1 h2 h3)
        unfold SegsPost at HSP
        unfold DirPost at HDP
        generalize segsB fs = L at hkl h99 hlast hacts hseq hsl htsh htl HSP HDP
        have hdo : ∀ acs r, r = doActsB fs acs → openDo fs room acs = if r.2 < acs.length then none else some ((r.1, room, (lastB fs : Int), seqB fs, dirB fs), acs) := fun acs r e => by subst e; rfl
        generalize lastB fs = la at hlast hacts htsh htl hdo
        generalize seqB fs = sq at hseq hdo
        have HDK := Lib.hid hDK
        have H99 := Lib.hid h99
        have HKL := Lib.hid hkl
        have HLAST := Lib.hid hlast
        have HSEQ := Lib.hid hseq
        have HOP := Lib.hid hopen
        have HACT := Lib.hid hacts
        have HTSH := Lib.hid htsh
        have HDO := Lib.hid hdo
        have HBAD : Hid (tornGo fs la L = none → openB fs room = none) := fun e => by
          rw [HOP.out, HACT.out, e]
          rfl
        have hcl : (cleanB fs L).length ≤ 60 := by have := cleanB_len fs L; have := diskOk_l30 hDK; omega
        have HCLN : Hid (∀ W BL Al cl, FiRow W A c fs → OwnI W BL (.slice Al (kl + 1) cl) (L.map Int.ofNat) → Pow W → Sent W → Calls Tryz.prog 61 #[.agg #[.slice A fs.length c], .slice Al (kl + 1) cl] W fun e w' => ∃ v, e = .returned v ∧ AcOwn w' W.heap.size v (cleanB fs L) ∧ Below W.heap.size W w') := by
          intro W BL Al cl h1 h2 h3 h4
          have h5 := impl_cleaning_calls A Al c cl BL fs L W h1 (by rw [List.length_map, HKL.out]; exact h2) (diskOk_l30 HDK.out) (by omega) (fun x hx => by have := diskOk_small HDK.out hx; omega) h3 h4
          rwa [HKL.out] at h5
        have hdl := dirB_len fs
        have hk99 : kl ≤ 99 := by omega
        clear hs0 hDK h99 hlast hacts hseq hopen hsl htsh htl hdo hkl
        go_wp2_with fail
        go_at_call 38
        refine (HSP.out _ (HR.out.below HO4.out.b) (HP.out.below HO4.out.b) (sentC HE.out HO4.out.b)).mono ?_
        rintro e w5 ⟨v5, rfl, ho5, hb5⟩
        have HO5 := Lib.hid (HO4.out.go hb5)
        have HB4 : Hid (w.heap.size + 2 ≤ w4.heap.size) := HO4.out.size
        obtain ⟨A5, c5, hv5⟩ := ho5.form
        rw [List.length_map, HKL.out] at hv5
        subst hv5
        obtain ⟨nl, hnl⟩ : ∃ nl, L[kl]? = some nl := ⟨_, List.getElem?_eq_getElem (by rw [HKL.out]; omega)⟩
        obtain rfl := HLAST.out nl hnl
        obtain ⟨bl, hA5, hc5⟩ := ho5.at_ (j := kl) (x := (nl : Int)) (by rw [List.getElem?_map, hnl]; rfl)
        subst hA5
        have HLD5 := Lib.hid (OwnI.mono ho5 HB4.out)
        have HL5 := Lib.hid hc5
        clear p0 hb5 ho5 hc5 hnl HSP HLAST
        have p0 := blk_cell HO5.out.d 0
        go_wp2_with fail
        go_at_call 60
        refine (HDP.out _ (HR.out.below HO5.out.b) (HP.out.below HO5.out.b) (sentC HE.out HO5.out.b)).mono ?_
        rintro e w6 ⟨v6, rfl, ho6, hb6⟩
        obtain ⟨Ad, cd, hv6⟩ := ho6.form
        subst hv6
        have HO6 := Lib.hid (HO5.out.go hb6)
        have HLD6 := Lib.hid (HLD5.out.below hb6)
        have HL6 : Hid (w6.cell? ⟨bl, kl, none⟩ = some (.int .i64 (nl : Int))) := (hb6.cell (World.block_lt_of_cell? _ _ HL5.out)).trans HL5.out
        have HSP6 := Lib.hid (SpOwn.mono ho6 (B' := w.heap.size + 2) HO5.out.size)
        clear p0 hb6 ho6 HDP HL5 HLD5
        have p0 := blk_cell HO6.out.d 0
        go_wp2_with fail
        go_at_call 61
        refine (HCLN.out _ _ _ _ (HR.out.below HO6.out.b) HLD6.out (HP.out.below HO6.out.b) (sentC HE.out HO6.out.b)).mono ?_
        rintro e w7 ⟨v7, rfl, ho7, hb7⟩
        obtain ⟨A7, c7, hv7⟩ := ho7.form
        subst hv7
        have HO7 := Lib.hid (HO6.out.go hb7)
        have l0 : w7.cell? ⟨bl, kl, none⟩ = some (.int .i64 (nl : Int)) := (hb7.cell (World.block_lt_of_cell? _ _ HL6.out)).trans HL6.out
        have HX8 : Hid (OX w A fs.length c w7.heap.size room (nl : Int) 0 (.slice (some ⟨bl, 0, none⟩) (kl + 1) c5) (.slice Ad (dirB fs).length cd) (.slice A7 (cleanB fs L).length c7) L (dirB fs) (cleanB fs L) (w7.alloc (engO (.slice none 0 0) room (nl : Int) 0 (.slice Ad (dirB fs).length cd)))) := by
          have hba : Below w7.heap.size w7 (w7.alloc (engO (.slice none 0 0) room (nl : Int) 0 (.slice Ad (dirB fs).length cd))) := (Below.refl _ _).alloc (Nat.le_refl _) _
          exact ⟨HO7.out.go hba, blk_new _ _, (HLD6.out.below hb7).below hba, (HSP6.out.below' hb7).below' hba, (AcOwn.mono ho7 HO6.out.size).below hba, HO7.out.size⟩
        clear p0 hb7 ho7 HL6 HLD6 HSP6 HO4 HO5 HO6 HO7 HCLN
        go_wp2
        generalize w7.alloc (engO (.slice none 0 0) room (nl : Int) 0 (.slice Ad (dirB fs).length cd)) = W8 at HX8 ⊢
        generalize w7.heap.size = ge at HX8 ⊢
        clear l0
        have HBK1 : Hid (kl + 1 ≤ 100) := by rw [Hid]; omega
        go_loopw [11, 61] (fun av iv wr => ∃ (i : Nat) (q : Int) (acs F : List ActD), i ≤ kl + 1 ∧ iv = .int .i64 (i : Int) ∧ Hid (TornAt fs nl L i acs) ∧ Hid (q = (L.take i).foldl (seqStep fs) 0) ∧ Hid (acs.length ≤ 3 * i) ∧ Hid (F = cleanB fs L ++ acs) ∧ Hid (OX w A fs.length c ge room (nl : Int) q (.slice (some ⟨bl, 0, none⟩) (kl + 1) c5) (.slice Ad (dirB fs).length cd) av L (dirB fs) F wr)) (fun _ iv _ => kl + 1 - (intOf iv).toNat)
        case atStart => exact ⟨0, 0, [], _, Nat.zero_le _, rfl, torn_start _ _ _, rfl, Nat.zero_le _, (List.append_nil _).symm, HX8⟩
        case round =>
          clear HX8
          obtain ⟨i, q, acs, F, hi, rfl, HT, HQ, HL3, HFE, HS⟩ := hrel
          obtain ⟨A2, c2, e2⟩ := HS.out.ac.form
          subst e2
          rename World => wr
          have HF : Hid (F.length ≤ 60 + 3 * i) := by rw [Hid, HFE.out, List.length_append]; have := HL3.out; omega
          by_cases hlt : i < kl + 1
          · obtain ⟨n, hn⟩ : ∃ n, L[i]? = some n := ⟨_, List.getElem?_eq_getElem (by rw [HKL.out]; omega)⟩
            obtain ⟨b1, hA1, hc1⟩ := HS.out.ld.at_ (j := i) (x := (n : Int)) (by rw [List.getElem?_map, hn]; rfl)
            cases hA1
            have hn99 := H99.out i n hn
            have HN := Lib.hid hn
            have HSD := Lib.hid HS.out.drew
            have HPP := Lib.hid (HP.out.below HSD.out.a.b)
            obtain ⟨t, ht⟩ : ∃ t, textAt fs n = t := ⟨_, rfl⟩
            have hts : t.size ≤ 20000 := by rw [← ht]; exact get_small HDK.out
            obtain ⟨f, okp, hsu, hbl⟩ := segU fs n t ht
            have HSU := Lib.hid hsu
            have HTX := Lib.hid ht
            have HEL : Hid (endAt fs n ≤ t.size) := by rw [Hid, ← ht]; exact endAt_le fs n
            have hres := fiRes_get (fileB fs (segNm (n : Int)))
            rw [show (fileB fs (segNm (n : Int))).getD ⟨#[]⟩ = t from ht] at hres
            generalize (fileB fs (segNm (n : Int))).isSome = ob at hres
            have HRES := Lib.hid hres
            have HSTP := Lib.hid (foldl_snoc (seqStep fs) 0 L hn)
            have hli : (i : Int) < ((kl + 1 : Nat) : Int) := by omega
            clear hn ht hsu hres
            go_wp2_with fail
            go_region_held3 (fun w' => w'.cell? ⟨w.heap.size, 0, none⟩ = some (.slice A fs.length c) ∧ Hid (OX w A fs.length c ge room (nl : Int) q (.slice (some ⟨bl, 0, none⟩) (kl + 1) c5) (.slice Ad (dirB fs).length cd) (.slice A2 F.length c2) L (dirB fs) (F) w')) (first | exact HSD.out.all | exact (HSD.out.go (by assumption)).all | exact ((HSD.out.go (by assumption)).go (by assumption)).all) (first | (go_at_call 40; refine (impl_SegNm_calls (n : Int) _ HPP.out).mono ?_; rintro e w' ⟨rfl, hb⟩) | (go_at_call 39; refine (impl_FileAt_calls (segNm (n : Int)) A c fs _ (HR.out.below (HSD.out.go (by assumption)).a.b)).mono ?_; rw [HRES.out]; rintro e w'' ⟨rfl, hb⟩))
            have HS7 := (‹_ ∧ Hid (OX w A fs.length c ge room (nl : Int) q (.slice (some ⟨bl, 0, none⟩) (kl + 1) c5) (.slice Ad (dirB fs).length cd) (.slice A2 F.length c2) L (dirB fs) (F) _)›).2
            clear hc1
            go_wp2_with fail
            go_at_call 62
            refine (impl_ReadSegment_calls (n : Int) t _ (by omega)).mono ?_
            rintro e w8 hp
            obtain ⟨v8, rfl, ho8, hb8⟩ := HSU.out _ _ _ hp
            obtain ⟨A8, c8, hv8⟩ := ListC.form ho8
            rw [List.length_map] at hv8
            have HO8 := Lib.hid ho8
            have HS8 := Lib.hid (HS7.out.go hb8)
            clear hp ho8 hb8 HS7 HSU HSD HPP
            obtain ⟨kb, hkb⟩ : ∃ kb, (batsAt fs n).length = kb := ⟨_, rfl⟩
            rw [hkb] at hv8
            subst hv8
            cases kb with
            | zero =>
              have HQ2 : Hid (q = (L.take (i + 1)).foldl (seqStep fs) 0) := by rw [Hid, HSTP.out, seq_none (List.eq_nil_of_length_eq_zero hkb), ← HQ.out]
              clear hkb
              by_cases hw : endAt fs n = t.size
              · have HT2 := Lib.hid (torn_whole HT.out HN.out (hw.trans (congrArg ByteArray.size HTX.out).symm))
                have e1 : ((endAt fs n : Int) == (t.size : Int)) = true := by rw [hw]; simp
                have e2 : (endAt fs n == t.size) = true := by rw [hw]; simp
                have HSX := HS8
                clear hw
                go_wp2
                go_roundw
                case rel => first | exact ⟨i + 1, q, acs, F, by omega, by go_num, HT2, HQ2, (by have := HL3.out; rw [Hid]; omega), HFE, HSX⟩ | (repeat (first | (refine ⟨?relx, rfl⟩; exact ⟨i + 1, q, acs, F, by omega, by go_num, HT2, HQ2, (by have := HL3.out; rw [Hid]; omega), HFE, HSX⟩) | (refine ⟨?relx, ?eqs⟩; (case eqs => (and_intros <;> rfl)); exact ⟨i + 1, q, acs, F, by omega, by go_num, HT2, HQ2, (by have := HL3.out; rw [Hid]; omega), HFE, HSX⟩) | apply Exists.intro))
                case measure => simp [intOf]; omega
              · have HW := Lib.hid (fun (e : endAt fs n = (textAt fs n).size) => hw (e.trans (congrArg ByteArray.size HTX.out)))
                have e1 : ((endAt fs n : Int) == (t.size : Int)) = false := by rw [beq_eq_false_iff_ne]; omega
                have e2 : (endAt fs n == t.size) = false := by rw [beq_eq_false_iff_ne]; exact hw
                have x2 := blk_cell HS8.out.e 2
                by_cases ha : n = nl
                · have HT2 := Lib.hid (torn_last HT.out HN.out HW.out ha)
                  have m1 : ((n : Int) != (nl : Int)) = false := by rw [ha]; simp
                  have m2 : (n != nl) = false := by rw [ha]; simp
                  have HT3 : Hid (torn3 fs n = [(1, newNm, t.extract 0 (endAt fs n), ⟨#[]⟩), (2, newNm, ⟨#[]⟩, ⟨#[]⟩), (3, newNm, ⟨#[]⟩, segNm (n : Int))]) := by
                    rw [Hid]
                    unfold torn3
                    rw [HTX.out]
                  have HL4 : Hid ((acs ++ torn3 fs n).length ≤ 3 * (i + 1)) := by rw [Hid, List.length_append]; have h1 := HL3.out; have h2 : (torn3 fs n).length = 3 := rfl; omega
                  have HFE2 : Hid (F ++ [(1, newNm, t.extract 0 (endAt fs n), ⟨#[]⟩), (2, newNm, ⟨#[]⟩, ⟨#[]⟩), (3, newNm, ⟨#[]⟩, segNm (n : Int))] = cleanB fs L ++ (acs ++ torn3 fs n)) := by rw [Hid, HFE.out, HT3.out, List.append_assoc]
                  have hel : (endAt fs n : Int) ≤ (t.size : Int) := by have := HEL.out; omega
                  have he0 : (0 : Int) ≤ (endAt fs n : Int) := by omega
                  clear hw ha
                  go_wp2_with fail
                  have HSD := Lib.hid HS8.out.drew
                  have hfl := HF.out
                  go_region_law (first | (go_simp; go_at_call 40; refine (impl_SegNm_calls (n : Int) _ (HP.out.below HSD.out.a.b)).mono ?_; rintro e w10 ⟨rfl, hb⟩; have HSY := Lib.hid ((HSD.out.go hb).alloc (.cells #[.int .i64 1, .string ⟨#[109, 43]⟩, .string (t.extract 0 (endAt fs n)), .string ⟨#[]⟩, .int .i64 2, .string ⟨#[109, 43]⟩, .string ⟨#[]⟩, .string ⟨#[]⟩, .int .i64 3, .string ⟨#[109, 43]⟩, .string ⟨#[]⟩, .string (segNm (n : Int))] 96)); have HOWN := Lib.hid HSY.out.ac; have HBASE := Lib.hid HSY.out.a.size; have HNEWS : Hid (∀ j u, (acVals (1, newNm, t.extract 0 (endAt fs n), ⟨#[]⟩) ++ (acVals (2, newNm, ⟨#[]⟩, ⟨#[]⟩) ++ acVals (3, newNm, ⟨#[]⟩, segNm (n : Int))))[j]? = some u → (w10.alloc (.cells #[.int .i64 1, .string ⟨#[109, 43]⟩, .string (t.extract 0 (endAt fs n)), .string ⟨#[]⟩, .int .i64 2, .string ⟨#[109, 43]⟩, .string ⟨#[]⟩, .string ⟨#[]⟩, .int .i64 3, .string ⟨#[109, 43]⟩, .string ⟨#[]⟩, .string (segNm (n : Int))] 96)).cell? ((⟨w10.heap.size, 0, none⟩ : Addr).add j) = some u) := World.news_of_block (heap_alloc_new w10 _); clear hb) | ((refine step_append_lies _ (by rfl) (.tmp 100) (.tmp 109) 44 (by rfl) (w.heap.size + 2) 96 i0 (.agg #[.int .i64 0, .string ⟨#[]⟩, .string ⟨#[]⟩, .string ⟨#[]⟩]) 4 56 Tryz.underlying44 hi0 hz hsz0 hby rfl (by omega) (.slice A2 F.length c2) F.length (acFlat F) (by simp [Act.eval, Act.put]) HOWN.out _ 3 3 (acVals (1, newNm, t.extract 0 (endAt fs n), ⟨#[]⟩) ++ (acVals (2, newNm, ⟨#[]⟩, ⟨#[]⟩) ++ acVals (3, newNm, ⟨#[]⟩, segNm (n : Int)))) (by simp [Act.eval, Act.put]) rfl HNEWS.out (by simp [Value.oneCell', acVals]) (by omega) (by unfold maxLen; omega) (by omega) HBASE.out _ rfl ?_); intro gg cap wq hown hgrow hat hlt; have HSZ9 := Lib.hid (HSY.out.app hgrow (ac_push3 hown rfl)); clear hown hgrow hat hlt))
                  all_goals
                    go_wp2
                    go_roundw
                    case rel => first | exact ⟨i + 1, q, acs ++ torn3 fs n, _, by omega, by go_num, HT2, HQ2, HL4, HFE2, HSZ9⟩ | (repeat (first | (refine ⟨?relx, rfl⟩; exact ⟨i + 1, q, acs ++ torn3 fs n, _, by omega, by go_num, HT2, HQ2, HL4, HFE2, HSZ9⟩) | (refine ⟨?relx, ?eqs⟩; (case eqs => (and_intros <;> rfl)); exact ⟨i + 1, q, acs ++ torn3 fs n, _, by omega, by go_num, HT2, HQ2, HL4, HFE2, HSZ9⟩) | apply Exists.intro))
                    case measure => simp [intOf]; omega
                · have HB := Lib.hid (HBAD.out (torn_bad HT.out HN.out HW.out ha))
                  have m1 : ((n : Int) != (nl : Int)) = true := by rw [bne_iff_ne]; omega
                  have m2 : (n != nl) = true := by rw [bne_iff_ne]; exact ha
                  obtain ⟨r0, r1, r2, r3, r4, t0, t1, t2, t3, t4⟩ := HS8.out.a.res
                  clear hw ha
                  go_wp2
                  exact open_bad rfl HS8.out.a HB.out rfl rfl rfl
            | succ kb =>
              obtain ⟨⟨⟨sq', cs⟩, pa, pz⟩, hp⟩ : ∃ p, (batsAt fs n)[kb]? = some p := ⟨_, List.getElem?_eq_getElem (by omega)⟩
              have HQ2 : Hid (sq' = (L.take (i + 1)).foldl (seqStep fs) 0) := by rw [Hid, HSTP.out, seq_some hkb hp]
              obtain ⟨g, u, hA8, hcc, hu, hsm⟩ := ListC.at_ (x := (sq', cs)) HO8.out (fun _ => rfl) (j := kb) (by rw [List.getElem?_map, hp]; rfl)
              cases hA8
              have k0 := hcc 0 (by omega)
              simp only [batVals, Nat.add_zero, List.getElem?_cons_zero] at k0
              have x3 := blk_cell HS8.out.e 3
              have f3 := blk_frozen HS8.out.e 3
              have hkb1 : kb ≤ 20000 := by omega
              have HS9 := Lib.hid (HS8.out.seq sq')
              clear hkb hp hcc hu hsm
              by_cases hw : endAt fs n = t.size
              · have HT2 := Lib.hid (torn_whole HT.out HN.out (hw.trans (congrArg ByteArray.size HTX.out).symm))
                have e1 : ((endAt fs n : Int) == (t.size : Int)) = true := by rw [hw]; simp
                have e2 : (endAt fs n == t.size) = true := by rw [hw]; simp
                have HSX := HS9
                clear hw
                go_wp2
                go_roundw
                case rel => first | exact ⟨i + 1, sq', acs, F, by omega, by go_num, HT2, HQ2, (by have := HL3.out; rw [Hid]; omega), HFE, HSX⟩ | (repeat (first | (refine ⟨?relx, rfl⟩; exact ⟨i + 1, sq', acs, F, by omega, by go_num, HT2, HQ2, (by have := HL3.out; rw [Hid]; omega), HFE, HSX⟩) | (refine ⟨?relx, ?eqs⟩; (case eqs => (and_intros <;> rfl)); exact ⟨i + 1, sq', acs, F, by omega, by go_num, HT2, HQ2, (by have := HL3.out; rw [Hid]; omega), HFE, HSX⟩) | apply Exists.intro))
                case measure => simp [intOf]; omega
              · have HW := Lib.hid (fun (e : endAt fs n = (textAt fs n).size) => hw (e.trans (congrArg ByteArray.size HTX.out)))
                have e1 : ((endAt fs n : Int) == (t.size : Int)) = false := by rw [beq_eq_false_iff_ne]; omega
                have e2 : (endAt fs n == t.size) = false := by rw [beq_eq_false_iff_ne]; exact hw
                have x2 := blk_cell HS9.out.e 2
                by_cases ha : n = nl
                · have HT2 := Lib.hid (torn_last HT.out HN.out HW.out ha)
                  have m1 : ((n : Int) != (nl : Int)) = false := by rw [ha]; simp
                  have m2 : (n != nl) = false := by rw [ha]; simp
                  have HT3 : Hid (torn3 fs n = [(1, newNm, t.extract 0 (endAt fs n), ⟨#[]⟩), (2, newNm, ⟨#[]⟩, ⟨#[]⟩), (3, newNm, ⟨#[]⟩, segNm (n : Int))]) := by
                    rw [Hid]
                    unfold torn3
                    rw [HTX.out]
                  have HL4 : Hid ((acs ++ torn3 fs n).length ≤ 3 * (i + 1)) := by rw [Hid, List.length_append]; have h1 := HL3.out; have h2 : (torn3 fs n).length = 3 := rfl; omega
                  have HFE2 : Hid (F ++ [(1, newNm, t.extract 0 (endAt fs n), ⟨#[]⟩), (2, newNm, ⟨#[]⟩, ⟨#[]⟩), (3, newNm, ⟨#[]⟩, segNm (n : Int))] = cleanB fs L ++ (acs ++ torn3 fs n)) := by rw [Hid, HFE.out, HT3.out, List.append_assoc]
                  have hel : (endAt fs n : Int) ≤ (t.size : Int) := by have := HEL.out; omega
                  have he0 : (0 : Int) ≤ (endAt fs n : Int) := by omega
                  clear hw ha
                  go_wp2_with fail
                  have HSD := Lib.hid HS9.out.drew
                  have hfl := HF.out
                  go_region_law (first | (go_simp; go_at_call 40; refine (impl_SegNm_calls (n : Int) _ (HP.out.below HSD.out.a.b)).mono ?_; rintro e w10 ⟨rfl, hb⟩; have HSY := Lib.hid ((HSD.out.go hb).alloc (.cells #[.int .i64 1, .string ⟨#[109, 43]⟩, .string (t.extract 0 (endAt fs n)), .string ⟨#[]⟩, .int .i64 2, .string ⟨#[109, 43]⟩, .string ⟨#[]⟩, .string ⟨#[]⟩, .int .i64 3, .string ⟨#[109, 43]⟩, .string ⟨#[]⟩, .string (segNm (n : Int))] 96)); have HOWN := Lib.hid HSY.out.ac; have HBASE := Lib.hid HSY.out.a.size; have HNEWS : Hid (∀ j u, (acVals (1, newNm, t.extract 0 (endAt fs n), ⟨#[]⟩) ++ (acVals (2, newNm, ⟨#[]⟩, ⟨#[]⟩) ++ acVals (3, newNm, ⟨#[]⟩, segNm (n : Int))))[j]? = some u → (w10.alloc (.cells #[.int .i64 1, .string ⟨#[109, 43]⟩, .string (t.extract 0 (endAt fs n)), .string ⟨#[]⟩, .int .i64 2, .string ⟨#[109, 43]⟩, .string ⟨#[]⟩, .string ⟨#[]⟩, .int .i64 3, .string ⟨#[109, 43]⟩, .string ⟨#[]⟩, .string (segNm (n : Int))] 96)).cell? ((⟨w10.heap.size, 0, none⟩ : Addr).add j) = some u) := World.news_of_block (heap_alloc_new w10 _); clear hb) | ((refine step_append_lies _ (by rfl) (.tmp 100) (.tmp 109) 44 (by rfl) (w.heap.size + 2) 96 i0 (.agg #[.int .i64 0, .string ⟨#[]⟩, .string ⟨#[]⟩, .string ⟨#[]⟩]) 4 56 Tryz.underlying44 hi0 hz hsz0 hby rfl (by omega) (.slice A2 F.length c2) F.length (acFlat F) (by simp [Act.eval, Act.put]) HOWN.out _ 3 3 (acVals (1, newNm, t.extract 0 (endAt fs n), ⟨#[]⟩) ++ (acVals (2, newNm, ⟨#[]⟩, ⟨#[]⟩) ++ acVals (3, newNm, ⟨#[]⟩, segNm (n : Int)))) (by simp [Act.eval, Act.put]) rfl HNEWS.out (by simp [Value.oneCell', acVals]) (by omega) (by unfold maxLen; omega) (by omega) HBASE.out _ rfl ?_); intro gg cap wq hown hgrow hat hlt; have HSZ9 := Lib.hid (HSY.out.app hgrow (ac_push3 hown rfl)); clear hown hgrow hat hlt))
                  all_goals
                    go_wp2
                    go_roundw
                    case rel => first | exact ⟨i + 1, sq', acs ++ torn3 fs n, _, by omega, by go_num, HT2, HQ2, HL4, HFE2, HSZ9⟩ | (repeat (first | (refine ⟨?relx, rfl⟩; exact ⟨i + 1, sq', acs ++ torn3 fs n, _, by omega, by go_num, HT2, HQ2, HL4, HFE2, HSZ9⟩) | (refine ⟨?relx, ?eqs⟩; (case eqs => (and_intros <;> rfl)); exact ⟨i + 1, sq', acs ++ torn3 fs n, _, by omega, by go_num, HT2, HQ2, HL4, HFE2, HSZ9⟩) | apply Exists.intro))
                    case measure => simp [intOf]; omega
                · have HB := Lib.hid (HBAD.out (torn_bad HT.out HN.out HW.out ha))
                  have m1 : ((n : Int) != (nl : Int)) = true := by rw [bne_iff_ne]; omega
                  have m2 : (n != nl) = true := by rw [bne_iff_ne]; exact ha
                  obtain ⟨r0, r1, r2, r3, r4, t0, t1, t2, t3, t4⟩ := HS9.out.a.res
                  clear hw ha
                  go_wp2
                  exact open_bad rfl HS9.out.a HB.out rfl rfl rfl
          · obtain rfl : i = kl + 1 := by omega
            have HE1 := Lib.hid (torn_end HT.out (by rw [HKL.out]; exact Nat.le_refl _))
            have HSH1 : Hid (∀ a ∈ F, ActSh a) := fun a ha => by
              rw [HFE.out] at ha
              rcases List.mem_append.1 ha with h1 | h1
              · exact clean_sh HDK.out L a h1
              · exact HTSH.out acs HE1.out a h1
            have HQ9 : Hid (q = sq) := by rw [Hid, HQ.out, HSEQ.out, List.take_of_length_le (by rw [HKL.out]; exact Nat.le_refl _)]
            have HOPN : Hid (openB fs room = openDo fs room F) := by rw [Hid, HOP.out, HACT.out, HE1.out, HFE.out]; rfl
            have hfl := HF.out
            obtain ⟨r, hr⟩ : ∃ r, doActsB fs F = r := ⟨_, rfl⟩
            have HDN := Lib.hid (HDO.out F r hr.symm)
            have HRR := Lib.hid hr
            clear hr
            clear HFE
            obtain ⟨A9, c9, e9, hra⟩ := HS.out.ac.row
            cases e9
            have HRA := Lib.hid hra
            have p0 := blk_cell HS.out.a.d 0
            clear hra
            go_wp2_with fail
            go_at_call 63
            refine (impl_DoActs_calls A A2 c c2 fs F _ (HR.out.below HS.out.a.b) HAH.out HRA.out HSH1.out HDK.out).mono ?_
            rw [HRR.out]
            rintro e w9 ⟨v9, rfl, ho9, hb9⟩
            obtain ⟨A9, c9, hv9⟩ := ho9.form
            subst hv9
            have HAL9 : Hid (Below w9.heap.size w9 (w9.alloc (.cells #[.slice A9 r.1.length c9] 32))) := (Below.refl _ _).alloc (Nat.le_refl _) _
            have HS9 := Lib.hid ((HS.out.go hb9).go HAL9.out)
            have HO9 := Lib.hid ((FiOwn.mono ho9 (B' := w.heap.size + 2) HS.out.a.size).below HAL9.out)
            have n0 := blk_cell (blk_new w9 (.cells #[.slice A9 r.1.length c9] 32)) 0
            clear p0 hb9 ho9
            by_cases hlt9 : r.2 < F.length
            · have HNO : Hid (openB fs room = none) := by rw [Hid, HOPN.out, HDN.out, if_pos hlt9]
              obtain ⟨r0, r1, r2, r3, r4, t0, t1, t2, t3, t4⟩ := HS9.out.a.res
              have hl1 : (r.2 : Int) < (F.length : Int) := by omega
              go_wp2
              exact open_bad rfl HS9.out.a HNO.out rfl rfl rfl
            · have HYES : Hid (openB fs room = some ((r.1, room, (nl : Int), q, dirB fs), F)) := by rw [Hid, HOPN.out, HDN.out, if_neg hlt9, HQ9.out]
              have hl1 : ¬ (r.2 : Int) < (F.length : Int) := by omega
              have e0 := blk_cell HS9.out.e 0
              have f0 := blk_frozen HS9.out.e 0
              have HRS : Hid (OA w A fs.length c ((w9.alloc (.cells #[.slice A9 r.1.length c9] 32)).setCell ⟨ge, 0, none⟩ (.slice A9 r.1.length c9))) := by
                have hfa := HS9.out.far
                exact ⟨HS9.out.a.b.setCell (p := ⟨ge, 0, none⟩) (by show w.heap.size ≤ ge; omega) _, (gr_setne _ _ _ _ _ (by omega)).trans HS9.out.a.d, (gr_setne _ _ _ _ _ (by omega)).trans HS9.out.a.r⟩
              have HEE : Hid (((w9.alloc (.cells #[.slice A9 r.1.length c9] 32)).setCell ⟨ge, 0, none⟩ (.slice A9 r.1.length c9)).heap[ge]? = some (engO (.slice A9 r.1.length c9) room (nl : Int) q (.slice Ad (dirB fs).length cd))) := by rw [Hid, blk_set HS9.out.e]; rfl
              have e1 := blk_cell HEE.out 1
              have e2 := blk_cell HEE.out 2
              have e3 := blk_cell HEE.out 3
              have e4 := blk_cell HEE.out 4
              have e5 := blk_cell HEE.out 0
              obtain ⟨r0, r1, r2, r3, r4, t0, t1, t2, t3, t4⟩ := HRS.out.res
              go_wp2
              exact open_good rfl HS9.out HO9.out HYES.out rfl rfl rfl
end Go.Proofs.YtaacpdejpcbbbaaGreatDoor
