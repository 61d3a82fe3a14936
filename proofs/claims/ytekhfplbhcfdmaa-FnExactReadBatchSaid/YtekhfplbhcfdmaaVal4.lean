/- The reference's text of a value: ValText. -/
import Derived.Test.YtekhfplbhcfdmaaVal3
import Derived.Deep.RegionHeld3
import Derived.Deep.CutRange
import Derived.Deep.Cut
namespace Go.Proofs.Ytekhfplbhcfdmaa
set_option linter.unusedVariables false
set_option linter.unusedSimpArgs false
open Go.RowKit
attribute [local go_sem] bs_size List.length_cons List.length_nil List.length_append
theorem bl_call {a W W' : World} (h : Below a.heap.size a W) (hb : Below W.heap.size W W') : Below a.heap.size a W' := h.trans (hb.mono h.size)
theorem conv_one_drew {P : Program} (src e dst : TypeId) (hs : P.underlying src = some (.slice e)) (he : P.underlying e = some (.int .u8)) (hd : P.underlying dst = some .string) (w : World) (x : Int) (c : Nat) :
    (convert src dst (.slice (some ⟨w.heap.size, 0, none⟩) 1 c)).run P (w.alloc (.cells #[.int .u8 x] e)).drew = .ok (.string (bs [UInt8.ofNat x.toNat])) (w.alloc (.cells #[.int .u8 x] e)).drew :=
  run_convert_bytes_arg (w.alloc (.cells #[.int .u8 x] e)).drew src e hs he w.heap.size 0 1 c [x] rfl (fun i hi => by
    obtain rfl : i = 0 := by omega
    exact cell_of_row (w.alloc (.cells #[.int .u8 x] e)) w.heap.size 0 #[.int .u8 x] e (0, 0) (heap_alloc_new w _)) dst hd
theorem bl_drew {a W : World} (h : Below a.heap.size a W) : Below a.heap.size a W.drew := h.drew
theorem bl_alloc {a W : World} (h : Below a.heap.size a W) (o : Obj) : Below a.heap.size a (W.alloc o) := h.alloc h.size o
theorem heldV {w w' : World} {g : Nat} {k u : Int} {t : ByteArray} {v : Value} (h : ValAt w g k u t v) (hb : Below w.heap.size w w') :
    w'.cell? ⟨g, 0, none⟩ = some (.int .i64 k) ∧ w'.cell? ⟨g, 1, none⟩ = some (.int .i64 u) ∧ w'.cell? ⟨g, 2, none⟩ = some (.string t) ∧ w'.cell? ⟨g, 3, none⟩ = some v ∧ Hid (Below w.heap.size w w') :=
  ⟨(h.below hb).c0, (h.below hb).c1, (h.below hb).c2, (h.below hb).c3, hb⟩
theorem conv_later {P : Program} (src e dst : TypeId) (hs : P.underlying src = some (.slice e)) (he : P.underlying e = some (.int .u8)) (hd : P.underlying dst = some .string) {w w' : World} {x : Int} {c : Nat} (hb : Below (w.alloc (.cells #[.int .u8 x] e)).heap.size (w.alloc (.cells #[.int .u8 x] e)) w') :
    (convert src dst (.slice (some ⟨w.heap.size, 0, none⟩) 1 c)).run P w' = .ok (.string (bs [UInt8.ofNat x.toNat])) w' :=
  run_convert_bytes_arg w' src e hs he w.heap.size 0 1 c [x] rfl (fun i hi => by
    obtain rfl : i = 0 := by omega
    have h1 := cell_of_row (w.alloc (.cells #[.int .u8 x] e)) w.heap.size 0 #[.int .u8 x] e (0, 0) (heap_alloc_new w _)
    have h2 : (⟨w.heap.size, 0, none⟩ : Addr).block < (w.alloc (.cells #[.int .u8 x] e)).heap.size := by simp
    exact (hb.cell h2).trans h1) dst hd
theorem conv_b0 {Q : Prop} {P : Program} (src e dst : TypeId) (hs : P.underlying src = some (.slice e)) (he : P.underlying e = some (.int .u8)) (hd : P.underlying dst = some .string) {w w' : World} {x : Int} (hb : Below (w.alloc (.cells #[.int .u8 x] e)).heap.size (w.alloc (.cells #[.int .u8 x] e)) w')
    (h : (convert src dst (.slice (some ⟨w.heap.size, 0, none⟩) 1 1)).run P w' = .ok (.string (bs [UInt8.ofNat x.toNat])) w' → Hid (Below (w.alloc (.cells #[.int .u8 x] e)).heap.size (w.alloc (.cells #[.int .u8 x] e)) w') → Q) : Q :=
  h (conv_later src e dst hs he hd hb) hb
theorem conv_b1 {Q : Prop} {P : Program} (src e dst : TypeId) (hs : P.underlying src = some (.slice e)) (he : P.underlying e = some (.int .u8)) (hd : P.underlying dst = some .string) {w w' : World} {x : Int} (hb : Below (w.alloc (.cells #[.int .u8 x] e)).drew.heap.size (w.alloc (.cells #[.int .u8 x] e)).drew w')
    (h : (convert src dst (.slice (some ⟨w.heap.size, 0, none⟩) 1 1)).run P w' = .ok (.string (bs [UInt8.ofNat x.toNat])) w' → Hid (Below (w.alloc (.cells #[.int .u8 x] e)).heap.size (w.alloc (.cells #[.int .u8 x] e)) w') → Q) : Q :=
  h (conv_later src e dst hs he hd (bl_call (bl_drew (Below.refl _ _)) hb)) (bl_call (bl_drew (Below.refl _ _)) hb)
theorem conv_b2 {Q : Prop} {P : Program} (src e dst : TypeId) (hs : P.underlying src = some (.slice e)) (he : P.underlying e = some (.int .u8)) (hd : P.underlying dst = some .string) {w w' w'' : World} {x : Int} (hk : Hid (Below (w.alloc (.cells #[.int .u8 x] e)).heap.size (w.alloc (.cells #[.int .u8 x] e)) w'')) (hb : Below w''.heap.size w'' w')
    (h : (convert src dst (.slice (some ⟨w.heap.size, 0, none⟩) 1 1)).run P w' = .ok (.string (bs [UInt8.ofNat x.toNat])) w' → Hid (Below (w.alloc (.cells #[.int .u8 x] e)).heap.size (w.alloc (.cells #[.int .u8 x] e)) w') → Q) : Q :=
  h (conv_later src e dst hs he hd (bl_call hk.out hb)) (bl_call hk.out hb)
set_option maxHeartbeats 4000000 in
set_option maxRecDepth 100000 in
theorem spec_ValText_calls (k u : Int) (t : ByteArray) (A : Option Addr) (c : Nat) (xs : List ByteArray) (w : World) (h : StrRow w A c xs) (ht : t.size ≤ 9223372036854775807) :
    Calls Try.prog 71 #[vVal k u t (.slice A xs.length c)] w fun e w' => e = .returned (varRes (valTextB k u t xs)) ∧ Below w.heap.size w w' := by
  have hl := h.len
  have HR0 := Lib.hid h
  have hrow := h.below ((Below.refl w.heap.size w).alloc (Nat.le_refl _) (.cells #[.int .i64 k, .int .i64 u, .string t, .slice A xs.length c] 39))
  have HR1 := Lib.hid hrow
  clear h hrow
  cases hv : valOkB k u t xs
  · have HE : Hid (valTextB k u t xs = none) := by rw [Hid, valTextB, hv]; rfl
    have HV := Lib.hid hv
    clear hv
    unfold vVal
    go_enter Try.func71, Try.ntmps71
    go_wp2_with fail
    go_at_call 23
    refine (spec_ValOk_calls k u t A c xs _ HR1.out ht).mono ?_
    rw [HV.out]
    rintro e w' ⟨rfl, hb⟩
    go_wp2
    go_ret2
    exact ⟨by rw [HE.out]; rfl, ((Below.refl w.heap.size w).alloc (Nat.le_refl _) _).trans (hb.mono (by simp))⟩
  · have HE : Hid (valTextB k u t xs = some (valBytes k u t xs)) := by rw [Hid, valTextB, hv]; rfl
    obtain ⟨hk, hu, ht60, hn24, hx60⟩ := valOk_bounds hv
    have HV := Lib.hid hv
    clear hv
    obtain ⟨u', rfl⟩ := Int.eq_ofNat_of_zero_le hu.1
    have hva := valAt_new w k (u' : Int) t (.slice A xs.length c)
    have HW := Lib.hid hva
    clear hva
    unfold vVal
    go_enter Try.func71, Try.ntmps71
    go_wp2_with fail
    go_at_call 23
    refine (spec_ValOk_calls k u' t A c xs _ HR1.out ht).mono ?_
    rw [HV.out]
    rintro e w1 ⟨rfl, hb⟩
    have HV1 := Lib.hid (HW.out.below hb)
    have HB1 := Lib.hid (((Below.refl w.heap.size w).alloc (Nat.le_refl _) (.cells #[.int .i64 k, .int .i64 (u' : Int), .string t, .slice A xs.length c] 39)).trans (hb.mono (by simp)))
    clear hb
    have c0 := HV1.out.c0
    have c1 := HV1.out.c1
    have c2 := HV1.out.c2
    have c3 := HV1.out.c3
    have HB0 : Hid (Below w1.heap.size w1 w1.drew) := Below.drew (Below.refl _ _)
    have kc := conv_one (P := Try.prog) 35 5 9 Try.underlying35 Try.underlying5 Try.underlying9
    have kc2 := conv_one_drew (P := Try.prog) 35 5 9 Try.underlying35 Try.underlying5 Try.underlying9
    have hk8 : IntKind.u8.wrap k = k := by rw [IntKind.wrap_u8]; omega
    have hz1 := var_len (n := u') (by omega)
    have hz2 := shortB_len t (by omega)
    have hz3 := var_len (n := xs.length) (by omega)
    have s1 : (9223372036854775807 < 1 + (varBytes u').length) = False := eq_false (by omega)
    have s2 : (9223372036854775807 < 1 + (varBytes u').length + (shortB (ub t)).length) = False := eq_false (by omega)
    have s3 : (9223372036854775807 < 1 + (varBytes u').length + (shortB (ub t)).length + (varBytes xs.length).length) = False := eq_false (by omega)
    go_upto_region 3 with fail
    go_cut [4] from 9 to 26 (fun v wx => v = .string (bs (vHead k u' t xs.length)) ∧ Hid (Below w1.heap.size w1 wx))
    case first =>
      refine wp_region_noPanic ?_
      refine wp_region_held_drew (S := fun w' => w'.cell? ⟨w.heap.size, 0, none⟩ = some (.int .i64 k) ∧ w'.cell? ⟨w.heap.size, 1, none⟩ = some (.int .i64 (u' : Int)) ∧ w'.cell? ⟨w.heap.size, 2, none⟩ = some (.string t) ∧ w'.cell? ⟨w.heap.size, 3, none⟩ = some (.slice A xs.length c) ∧ Hid (Below w1.heap.size w1 w')) (by kernel_rfl) ?_ (fun hHeld => ?_)
      · try dsimp only
        refine heldV HV1.out ?_; repeat (first | exact Below.refl _ _ | refine bl_call ?_ (by assumption) | refine bl_drew ?_ | refine bl_alloc ?_ _)
      refine wpAnyH_take (i := 0) (oi := _) (v := ?_) rfl (by kernel_rfl) (by kernel_rfl) (by kernel_rfl) (fun _ _ _ h => h) (Or.inl ⟨by rfl, ?_⟩) (by assumption) ?_
      rotate_left
      focus ((intro w hSw); (try dsimp only at hSw); go_simp; first | done | with_reducible rfl)
      try simp only [Act.put, List.setIfInBounds_toArray, List.set_cons_zero, List.set_cons_succ, List.getElem_toArray, List.getElem_cons_zero, List.getElem_cons_succ]
      refine wpAnyH_take (i := 1) (oi := _) (v := ?_) rfl (by kernel_rfl) (by kernel_rfl) (by kernel_rfl) (fun _ _ _ h => h) (Or.inl ⟨by rfl, ?_⟩) (by assumption) ?_
      rotate_left
      focus ((intro w hSw); (try dsimp only at hSw); go_simp; first | done | with_reducible rfl)
      try simp only [Act.put, List.setIfInBounds_toArray, List.set_cons_zero, List.set_cons_succ, List.getElem_toArray, List.getElem_cons_zero, List.getElem_cons_succ]
      refine wpAnyH_take (i := 2) (oi := _) (v := ?_) rfl (by kernel_rfl) (by kernel_rfl) (by kernel_rfl) (fun _ _ _ h => h) (Or.inl ⟨by rfl, ?_⟩) (by assumption) ?_
      rotate_left
      focus ((intro w hSw); (try dsimp only at hSw); go_simp; first | done | with_reducible rfl)
      try simp only [Act.put, List.setIfInBounds_toArray, List.set_cons_zero, List.set_cons_succ, List.getElem_toArray, List.getElem_cons_zero, List.getElem_cons_succ]
      refine wpAnyH_take (i := 5) (oi := _) (v := ?_) rfl (by kernel_rfl) (by kernel_rfl) (by kernel_rfl) (fun _ _ _ h => h) (Or.inl ⟨by rfl, ?_⟩) (by assumption) ?_
      rotate_left
      focus ((intro w hSw); (try dsimp only at hSw); go_simp; first | done | with_reducible rfl)
      try simp only [Act.put, List.setIfInBounds_toArray, List.set_cons_zero, List.set_cons_succ, List.getElem_toArray, List.getElem_cons_zero, List.getElem_cons_succ]
      refine wpAnyH_take (i := 6) (oi := _) (v := ?_) rfl (by kernel_rfl) (by kernel_rfl) (by kernel_rfl) (fun _ _ _ h => h) (Or.inl ⟨by rfl, ?_⟩) (by assumption) ?_
      rotate_left
      focus ((intro w hSw); (try dsimp only at hSw); go_simp; first | done | with_reducible rfl)
      try simp only [Act.put, List.setIfInBounds_toArray, List.set_cons_zero, List.set_cons_succ, List.getElem_toArray, List.getElem_cons_zero, List.getElem_cons_succ]
      refine wpAnyH_take (i := 9) (oi := _) (v := ?_) rfl (by kernel_rfl) (by kernel_rfl) (by kernel_rfl) (fun _ _ _ h => h) (Or.inl ⟨by rfl, ?_⟩) (by assumption) ?_
      rotate_left
      focus ((intro w hSw); (try dsimp only at hSw); go_simp; first | done | with_reducible rfl)
      try simp only [Act.put, List.setIfInBounds_toArray, List.set_cons_zero, List.set_cons_succ, List.getElem_toArray, List.getElem_cons_zero, List.getElem_cons_succ]
      refine wpAnyH_take (i := 10) (oi := _) (v := ?_) rfl (by kernel_rfl) (by kernel_rfl) (by kernel_rfl) (fun _ _ _ h => h) (Or.inl ⟨by rfl, ?_⟩) (by assumption) ?_
      rotate_left
      focus ((intro w hSw); (try dsimp only at hSw); go_simp; first | done | with_reducible rfl)
      try simp only [Act.put, List.setIfInBounds_toArray, List.set_cons_zero, List.set_cons_succ, List.getElem_toArray, List.getElem_cons_zero, List.getElem_cons_succ]
      refine wpAnyH_take (i := 13) (oi := _) (v := ?_) rfl (by kernel_rfl) (by kernel_rfl) (by kernel_rfl) (fun _ _ _ h => h) (Or.inl ⟨by rfl, ?_⟩) (by assumption) ?_
      rotate_left
      focus ((intro w hSw); (try dsimp only at hSw); go_simp; first | done | with_reducible rfl)
      try simp only [Act.put, List.setIfInBounds_toArray, List.set_cons_zero, List.set_cons_succ, List.getElem_toArray, List.getElem_cons_zero, List.getElem_cons_succ]
      refine wpAnyH_take (i := 14) (oi := _) (v := ?_) rfl (by kernel_rfl) (by kernel_rfl) (by kernel_rfl) (fun _ _ _ h => h) (Or.inl ⟨by rfl, ?_⟩) (by assumption) ?_
      rotate_left
      focus ((intro w hSw); (try dsimp only at hSw); go_simp; first | done | with_reducible rfl)
      try simp only [Act.put, List.setIfInBounds_toArray, List.set_cons_zero, List.set_cons_succ, List.getElem_toArray, List.getElem_cons_zero, List.getElem_cons_succ]
      refine wpAnyH_take (i := 15) (oi := _) (v := ?_) rfl (by kernel_rfl) (by kernel_rfl) (by kernel_rfl) (fun _ _ _ h => h) (Or.inl ⟨by rfl, ?_⟩) (by assumption) ?_
      rotate_left
      focus ((intro w hSw); (try dsimp only at hSw); go_simp; first | done | with_reducible rfl)
      try simp only [Act.put, List.setIfInBounds_toArray, List.set_cons_zero, List.set_cons_succ, List.getElem_toArray, List.getElem_cons_zero, List.getElem_cons_succ]
      refine wpAnyH_ready (rs := [3, 7]) (by kernel_rfl) (by simp) ?_
      refine AllReadyH.cons (o := _) rfl (fun K hK => ?_) ?_
      · go_simp
        refine hK.out _ _ ?_ (fun hHeld => ?_)
        · try dsimp only
          refine heldV HV1.out ?_; repeat (first | exact Below.refl _ _ | refine bl_call ?_ (by assumption) | refine bl_drew ?_ | refine bl_alloc ?_ _)
        clear hK K
        try simp only [Act.put, List.setIfInBounds_toArray, List.set_cons_zero, List.set_cons_succ, List.getElem_toArray, List.getElem_cons_zero, List.getElem_cons_succ]
        refine wpAnyH_ready (rs := [4, 7]) (by kernel_rfl) (by simp) ?_
        refine AllReadyH.cons (o := _) rfl (fun K hK => ?_) ?_
        · go_simp
          refine hK.out _ _ ?_ (fun hHeld => ?_)
          · try dsimp only
            refine heldV HV1.out ?_; repeat (first | exact Below.refl _ _ | refine bl_call ?_ (by assumption) | refine bl_drew ?_ | refine bl_alloc ?_ _)
          clear hK K
          try simp only [Act.put, List.setIfInBounds_toArray, List.set_cons_zero, List.set_cons_succ, List.getElem_toArray, List.getElem_cons_zero, List.getElem_cons_succ]
          refine wpAnyH_ready (rs := [7]) (by kernel_rfl) (by simp) ?_
          refine AllReadyH.cons (o := _) rfl (fun K hK => ?_) ?_
          · go_simp
            go_at_call 76
            refine (spec_l01Var_calls _ _ (by omega)).mono ?_
            rintro e w' ⟨rfl, hb⟩
            first | (refine conv_b1 (P := Try.prog) 35 5 9 Try.underlying35 Try.underlying5 Try.underlying9 hb ?_; intro kq HKQ) | (refine conv_b0 (P := Try.prog) 35 5 9 Try.underlying35 Try.underlying5 Try.underlying9 hb ?_; intro kq HKQ) | (refine conv_b2 (P := Try.prog) 35 5 9 Try.underlying35 Try.underlying5 Try.underlying9 HKQ hb ?_; intro kq HKQ) | skip
            go_wp2_with fail
            refine hK.out _ _ ?_ (fun hHeld => ?_)
            · try dsimp only
              refine heldV HV1.out ?_; repeat (first | exact Below.refl _ _ | refine bl_call ?_ (by assumption) | refine bl_drew ?_ | refine bl_alloc ?_ _)
            clear hK K
            try simp only [Act.put, List.setIfInBounds_toArray, List.set_cons_zero, List.set_cons_succ, List.getElem_toArray, List.getElem_cons_zero, List.getElem_cons_succ]
            refine wpAnyH_take (i := 8) (oi := _) (v := ?_) rfl (by kernel_rfl) (by kernel_rfl) (by kernel_rfl) (fun _ _ _ h => h) (Or.inl ⟨by rfl, ?_⟩) (by assumption) ?_
            rotate_left
            focus ((intro w hSw); (try dsimp only at hSw); go_simp; first | done | with_reducible rfl)
            try simp only [Act.put, List.setIfInBounds_toArray, List.set_cons_zero, List.set_cons_succ, List.getElem_toArray, List.getElem_cons_zero, List.getElem_cons_succ]
            refine wpAnyH_ready (rs := [11]) (by kernel_rfl) (by simp) ?_
            refine AllReadyH.cons (o := _) rfl (fun K hK => ?_) ?_
            · go_simp
              go_at_call 77
              refine (spec_l05Short_calls t _ (by omega)).mono ?_
              rintro e w' ⟨rfl, hb⟩
              first | (refine conv_b1 (P := Try.prog) 35 5 9 Try.underlying35 Try.underlying5 Try.underlying9 hb ?_; intro kq HKQ) | (refine conv_b0 (P := Try.prog) 35 5 9 Try.underlying35 Try.underlying5 Try.underlying9 hb ?_; intro kq HKQ) | (refine conv_b2 (P := Try.prog) 35 5 9 Try.underlying35 Try.underlying5 Try.underlying9 HKQ hb ?_; intro kq HKQ) | skip
              go_wp2_with fail
              refine hK.out _ _ ?_ (fun hHeld => ?_)
              · try dsimp only
                refine heldV HV1.out ?_; repeat (first | exact Below.refl _ _ | refine bl_call ?_ (by assumption) | refine bl_drew ?_ | refine bl_alloc ?_ _)
              clear hK K
              try simp only [Act.put, List.setIfInBounds_toArray, List.set_cons_zero, List.set_cons_succ, List.getElem_toArray, List.getElem_cons_zero, List.getElem_cons_succ]
              refine wpAnyH_take (i := 12) (oi := _) (v := ?_) rfl (by kernel_rfl) (by kernel_rfl) (by kernel_rfl) (fun _ _ _ h => h) (Or.inl ⟨by rfl, ?_⟩) (by assumption) ?_
              rotate_left
              focus ((intro w hSw); (try dsimp only at hSw); go_simp; first | done | with_reducible rfl)
              try simp only [Act.put, List.setIfInBounds_toArray, List.set_cons_zero, List.set_cons_succ, List.getElem_toArray, List.getElem_cons_zero, List.getElem_cons_succ]
              refine wpAnyH_ready (rs := [16]) (by kernel_rfl) (by simp) ?_
              refine AllReadyH.cons (o := _) rfl (fun K hK => ?_) ?_
              · go_simp
                go_at_call 76
                refine (spec_l01Var_calls _ _ (by omega)).mono ?_
                rintro e w' ⟨rfl, hb⟩
                first | (refine conv_b1 (P := Try.prog) 35 5 9 Try.underlying35 Try.underlying5 Try.underlying9 hb ?_; intro kq HKQ) | (refine conv_b0 (P := Try.prog) 35 5 9 Try.underlying35 Try.underlying5 Try.underlying9 hb ?_; intro kq HKQ) | (refine conv_b2 (P := Try.prog) 35 5 9 Try.underlying35 Try.underlying5 Try.underlying9 HKQ hb ?_; intro kq HKQ) | skip
                go_wp2_with fail
                refine hK.out _ _ ?_ (fun hHeld => ?_)
                · try dsimp only
                  refine heldV HV1.out ?_; repeat (first | exact Below.refl _ _ | refine bl_call ?_ (by assumption) | refine bl_drew ?_ | refine bl_alloc ?_ _)
                clear hK K
                try simp only [Act.put, List.setIfInBounds_toArray, List.set_cons_zero, List.set_cons_succ, List.getElem_toArray, List.getElem_cons_zero, List.getElem_cons_succ]
                refine wpAnyH_take (i := 17) (oi := _) (v := ?_) rfl (by kernel_rfl) (by kernel_rfl) (by kernel_rfl) (fun _ _ _ h => h) (Or.inl ⟨by rfl, ?_⟩) (by assumption) ?_
                rotate_left
                focus ((intro w hSw); (try dsimp only at hSw); go_simp; first | done | with_reducible rfl)
                try simp only [Act.put, List.setIfInBounds_toArray, List.set_cons_zero, List.set_cons_succ, List.getElem_toArray, List.getElem_cons_zero, List.getElem_cons_succ]
                refine wpAnyH_take (i := 18) (oi := _) (v := ?_) rfl (by kernel_rfl) (by kernel_rfl) (by kernel_rfl) (fun _ _ _ h => h) (Or.inl ⟨by rfl, ?_⟩) (by assumption) ?_
                rotate_left
                focus ((intro w hSw); (try dsimp only at hSw); go_simp; first | done | with_reducible rfl)
                try simp only [Act.put, List.setIfInBounds_toArray, List.set_cons_zero, List.set_cons_succ, List.getElem_toArray, List.getElem_cons_zero, List.getElem_cons_succ]
                refine wpAnyH_done (by kernel_rfl) ?_ _
                refine NoPanic.normal ?_
                go_wp2_with fail
                go_meet
                exact ⟨by simp only [bs_append, vHead, Int.toNat_natCast]; rfl, And.right (And.right (And.right (And.right ‹_ ∧ _ ∧ _ ∧ _ ∧ Hid (Below w1.heap.size w1 _)›)))⟩
              exact AllReadyH.nil
            exact AllReadyH.nil
          exact AllReadyH.nil
        refine AllReadyH.cons (o := _) rfl (fun K hK => ?_) ?_
        · go_simp
          go_at_call 76
          refine (spec_l01Var_calls _ _ (by omega)).mono ?_
          rintro e w' ⟨rfl, hb⟩
          first | (refine conv_b1 (P := Try.prog) 35 5 9 Try.underlying35 Try.underlying5 Try.underlying9 hb ?_; intro kq HKQ) | (refine conv_b0 (P := Try.prog) 35 5 9 Try.underlying35 Try.underlying5 Try.underlying9 hb ?_; intro kq HKQ) | (refine conv_b2 (P := Try.prog) 35 5 9 Try.underlying35 Try.underlying5 Try.underlying9 HKQ hb ?_; intro kq HKQ) | skip
          go_wp2_with fail
          refine hK.out _ _ ?_ (fun hHeld => ?_)
          · try dsimp only
            refine heldV HV1.out ?_; repeat (first | exact Below.refl _ _ | refine bl_call ?_ (by assumption) | refine bl_drew ?_ | refine bl_alloc ?_ _)
          clear hK K
          try simp only [Act.put, List.setIfInBounds_toArray, List.set_cons_zero, List.set_cons_succ, List.getElem_toArray, List.getElem_cons_zero, List.getElem_cons_succ]
          refine wpAnyH_ready (rs := [4, 11]) (by kernel_rfl) (by simp) ?_
          refine AllReadyH.cons (o := _) rfl (fun K hK => ?_) ?_
          · go_simp
            refine hK.out _ _ ?_ (fun hHeld => ?_)
            · try dsimp only
              refine heldV HV1.out ?_; repeat (first | exact Below.refl _ _ | refine bl_call ?_ (by assumption) | refine bl_drew ?_ | refine bl_alloc ?_ _)
            clear hK K
            try simp only [Act.put, List.setIfInBounds_toArray, List.set_cons_zero, List.set_cons_succ, List.getElem_toArray, List.getElem_cons_zero, List.getElem_cons_succ]
            refine wpAnyH_take (i := 8) (oi := _) (v := ?_) rfl (by kernel_rfl) (by kernel_rfl) (by kernel_rfl) (fun _ _ _ h => h) (Or.inl ⟨by rfl, ?_⟩) (by assumption) ?_
            rotate_left
            focus ((intro w hSw); (try dsimp only at hSw); go_simp; first | done | with_reducible rfl)
            try simp only [Act.put, List.setIfInBounds_toArray, List.set_cons_zero, List.set_cons_succ, List.getElem_toArray, List.getElem_cons_zero, List.getElem_cons_succ]
            refine wpAnyH_ready (rs := [11]) (by kernel_rfl) (by simp) ?_
            refine AllReadyH.cons (o := _) rfl (fun K hK => ?_) ?_
            · go_simp
              go_at_call 77
              refine (spec_l05Short_calls t _ (by omega)).mono ?_
              rintro e w' ⟨rfl, hb⟩
              first | (refine conv_b1 (P := Try.prog) 35 5 9 Try.underlying35 Try.underlying5 Try.underlying9 hb ?_; intro kq HKQ) | (refine conv_b0 (P := Try.prog) 35 5 9 Try.underlying35 Try.underlying5 Try.underlying9 hb ?_; intro kq HKQ) | (refine conv_b2 (P := Try.prog) 35 5 9 Try.underlying35 Try.underlying5 Try.underlying9 HKQ hb ?_; intro kq HKQ) | skip
              go_wp2_with fail
              refine hK.out _ _ ?_ (fun hHeld => ?_)
              · try dsimp only
                refine heldV HV1.out ?_; repeat (first | exact Below.refl _ _ | refine bl_call ?_ (by assumption) | refine bl_drew ?_ | refine bl_alloc ?_ _)
              clear hK K
              try simp only [Act.put, List.setIfInBounds_toArray, List.set_cons_zero, List.set_cons_succ, List.getElem_toArray, List.getElem_cons_zero, List.getElem_cons_succ]
              refine wpAnyH_take (i := 12) (oi := _) (v := ?_) rfl (by kernel_rfl) (by kernel_rfl) (by kernel_rfl) (fun _ _ _ h => h) (Or.inl ⟨by rfl, ?_⟩) (by assumption) ?_
              rotate_left
              focus ((intro w hSw); (try dsimp only at hSw); go_simp; first | done | with_reducible rfl)
              try simp only [Act.put, List.setIfInBounds_toArray, List.set_cons_zero, List.set_cons_succ, List.getElem_toArray, List.getElem_cons_zero, List.getElem_cons_succ]
              refine wpAnyH_ready (rs := [16]) (by kernel_rfl) (by simp) ?_
              refine AllReadyH.cons (o := _) rfl (fun K hK => ?_) ?_
              · go_simp
                go_at_call 76
                refine (spec_l01Var_calls _ _ (by omega)).mono ?_
                rintro e w' ⟨rfl, hb⟩
                first | (refine conv_b1 (P := Try.prog) 35 5 9 Try.underlying35 Try.underlying5 Try.underlying9 hb ?_; intro kq HKQ) | (refine conv_b0 (P := Try.prog) 35 5 9 Try.underlying35 Try.underlying5 Try.underlying9 hb ?_; intro kq HKQ) | (refine conv_b2 (P := Try.prog) 35 5 9 Try.underlying35 Try.underlying5 Try.underlying9 HKQ hb ?_; intro kq HKQ) | skip
                go_wp2_with fail
                refine hK.out _ _ ?_ (fun hHeld => ?_)
                · try dsimp only
                  refine heldV HV1.out ?_; repeat (first | exact Below.refl _ _ | refine bl_call ?_ (by assumption) | refine bl_drew ?_ | refine bl_alloc ?_ _)
                clear hK K
                try simp only [Act.put, List.setIfInBounds_toArray, List.set_cons_zero, List.set_cons_succ, List.getElem_toArray, List.getElem_cons_zero, List.getElem_cons_succ]
                refine wpAnyH_take (i := 17) (oi := _) (v := ?_) rfl (by kernel_rfl) (by kernel_rfl) (by kernel_rfl) (fun _ _ _ h => h) (Or.inl ⟨by rfl, ?_⟩) (by assumption) ?_
                rotate_left
                focus ((intro w hSw); (try dsimp only at hSw); go_simp; first | done | with_reducible rfl)
                try simp only [Act.put, List.setIfInBounds_toArray, List.set_cons_zero, List.set_cons_succ, List.getElem_toArray, List.getElem_cons_zero, List.getElem_cons_succ]
                refine wpAnyH_take (i := 18) (oi := _) (v := ?_) rfl (by kernel_rfl) (by kernel_rfl) (by kernel_rfl) (fun _ _ _ h => h) (Or.inl ⟨by rfl, ?_⟩) (by assumption) ?_
                rotate_left
                focus ((intro w hSw); (try dsimp only at hSw); go_simp; first | done | with_reducible rfl)
                try simp only [Act.put, List.setIfInBounds_toArray, List.set_cons_zero, List.set_cons_succ, List.getElem_toArray, List.getElem_cons_zero, List.getElem_cons_succ]
                refine wpAnyH_done (by kernel_rfl) ?_ _
                refine NoPanic.normal ?_
                go_wp2_with fail
                go_meet
                exact ⟨by simp only [bs_append, vHead, Int.toNat_natCast]; rfl, And.right (And.right (And.right (And.right ‹_ ∧ _ ∧ _ ∧ _ ∧ Hid (Below w1.heap.size w1 _)›)))⟩
              exact AllReadyH.nil
            exact AllReadyH.nil
          refine AllReadyH.cons (o := _) rfl (fun K hK => ?_) ?_
          · go_simp
            go_at_call 77
            refine (spec_l05Short_calls t _ (by omega)).mono ?_
            rintro e w' ⟨rfl, hb⟩
            first | (refine conv_b1 (P := Try.prog) 35 5 9 Try.underlying35 Try.underlying5 Try.underlying9 hb ?_; intro kq HKQ) | (refine conv_b0 (P := Try.prog) 35 5 9 Try.underlying35 Try.underlying5 Try.underlying9 hb ?_; intro kq HKQ) | (refine conv_b2 (P := Try.prog) 35 5 9 Try.underlying35 Try.underlying5 Try.underlying9 HKQ hb ?_; intro kq HKQ) | skip
            go_wp2_with fail
            refine hK.out _ _ ?_ (fun hHeld => ?_)
            · try dsimp only
              refine heldV HV1.out ?_; repeat (first | exact Below.refl _ _ | refine bl_call ?_ (by assumption) | refine bl_drew ?_ | refine bl_alloc ?_ _)
            clear hK K
            try simp only [Act.put, List.setIfInBounds_toArray, List.set_cons_zero, List.set_cons_succ, List.getElem_toArray, List.getElem_cons_zero, List.getElem_cons_succ]
            refine wpAnyH_ready (rs := [4, 16]) (by kernel_rfl) (by simp) ?_
            refine AllReadyH.cons (o := _) rfl (fun K hK => ?_) ?_
            · go_simp
              refine hK.out _ _ ?_ (fun hHeld => ?_)
              · try dsimp only
                refine heldV HV1.out ?_; repeat (first | exact Below.refl _ _ | refine bl_call ?_ (by assumption) | refine bl_drew ?_ | refine bl_alloc ?_ _)
              clear hK K
              try simp only [Act.put, List.setIfInBounds_toArray, List.set_cons_zero, List.set_cons_succ, List.getElem_toArray, List.getElem_cons_zero, List.getElem_cons_succ]
              refine wpAnyH_take (i := 8) (oi := _) (v := ?_) rfl (by kernel_rfl) (by kernel_rfl) (by kernel_rfl) (fun _ _ _ h => h) (Or.inl ⟨by rfl, ?_⟩) (by assumption) ?_
              rotate_left
              focus ((intro w hSw); (try dsimp only at hSw); go_simp; first | done | with_reducible rfl)
              try simp only [Act.put, List.setIfInBounds_toArray, List.set_cons_zero, List.set_cons_succ, List.getElem_toArray, List.getElem_cons_zero, List.getElem_cons_succ]
              refine wpAnyH_take (i := 12) (oi := _) (v := ?_) rfl (by kernel_rfl) (by kernel_rfl) (by kernel_rfl) (fun _ _ _ h => h) (Or.inl ⟨by rfl, ?_⟩) (by assumption) ?_
              rotate_left
              focus ((intro w hSw); (try dsimp only at hSw); go_simp; first | done | with_reducible rfl)
              try simp only [Act.put, List.setIfInBounds_toArray, List.set_cons_zero, List.set_cons_succ, List.getElem_toArray, List.getElem_cons_zero, List.getElem_cons_succ]
              refine wpAnyH_ready (rs := [16]) (by kernel_rfl) (by simp) ?_
              refine AllReadyH.cons (o := _) rfl (fun K hK => ?_) ?_
              · go_simp
                go_at_call 76
                refine (spec_l01Var_calls _ _ (by omega)).mono ?_
                rintro e w' ⟨rfl, hb⟩
                first | (refine conv_b1 (P := Try.prog) 35 5 9 Try.underlying35 Try.underlying5 Try.underlying9 hb ?_; intro kq HKQ) | (refine conv_b0 (P := Try.prog) 35 5 9 Try.underlying35 Try.underlying5 Try.underlying9 hb ?_; intro kq HKQ) | (refine conv_b2 (P := Try.prog) 35 5 9 Try.underlying35 Try.underlying5 Try.underlying9 HKQ hb ?_; intro kq HKQ) | skip
                go_wp2_with fail
                refine hK.out _ _ ?_ (fun hHeld => ?_)
                · try dsimp only
                  refine heldV HV1.out ?_; repeat (first | exact Below.refl _ _ | refine bl_call ?_ (by assumption) | refine bl_drew ?_ | refine bl_alloc ?_ _)
                clear hK K
                try simp only [Act.put, List.setIfInBounds_toArray, List.set_cons_zero, List.set_cons_succ, List.getElem_toArray, List.getElem_cons_zero, List.getElem_cons_succ]
                refine wpAnyH_take (i := 17) (oi := _) (v := ?_) rfl (by kernel_rfl) (by kernel_rfl) (by kernel_rfl) (fun _ _ _ h => h) (Or.inl ⟨by rfl, ?_⟩) (by assumption) ?_
                rotate_left
                focus ((intro w hSw); (try dsimp only at hSw); go_simp; first | done | with_reducible rfl)
                try simp only [Act.put, List.setIfInBounds_toArray, List.set_cons_zero, List.set_cons_succ, List.getElem_toArray, List.getElem_cons_zero, List.getElem_cons_succ]
                refine wpAnyH_take (i := 18) (oi := _) (v := ?_) rfl (by kernel_rfl) (by kernel_rfl) (by kernel_rfl) (fun _ _ _ h => h) (Or.inl ⟨by rfl, ?_⟩) (by assumption) ?_
                rotate_left
                focus ((intro w hSw); (try dsimp only at hSw); go_simp; first | done | with_reducible rfl)
                try simp only [Act.put, List.setIfInBounds_toArray, List.set_cons_zero, List.set_cons_succ, List.getElem_toArray, List.getElem_cons_zero, List.getElem_cons_succ]
                refine wpAnyH_done (by kernel_rfl) ?_ _
                refine NoPanic.normal ?_
                go_wp2_with fail
                go_meet
                exact ⟨by simp only [bs_append, vHead, Int.toNat_natCast]; rfl, And.right (And.right (And.right (And.right ‹_ ∧ _ ∧ _ ∧ _ ∧ Hid (Below w1.heap.size w1 _)›)))⟩
              exact AllReadyH.nil
            refine AllReadyH.cons (o := _) rfl (fun K hK => ?_) ?_
            · go_simp
              go_at_call 76
              refine (spec_l01Var_calls _ _ (by omega)).mono ?_
              rintro e w' ⟨rfl, hb⟩
              first | (refine conv_b1 (P := Try.prog) 35 5 9 Try.underlying35 Try.underlying5 Try.underlying9 hb ?_; intro kq HKQ) | (refine conv_b0 (P := Try.prog) 35 5 9 Try.underlying35 Try.underlying5 Try.underlying9 hb ?_; intro kq HKQ) | (refine conv_b2 (P := Try.prog) 35 5 9 Try.underlying35 Try.underlying5 Try.underlying9 HKQ hb ?_; intro kq HKQ) | skip
              go_wp2_with fail
              refine hK.out _ _ ?_ (fun hHeld => ?_)
              · try dsimp only
                refine heldV HV1.out ?_; repeat (first | exact Below.refl _ _ | refine bl_call ?_ (by assumption) | refine bl_drew ?_ | refine bl_alloc ?_ _)
              clear hK K
              try simp only [Act.put, List.setIfInBounds_toArray, List.set_cons_zero, List.set_cons_succ, List.getElem_toArray, List.getElem_cons_zero, List.getElem_cons_succ]
              refine wpAnyH_ready (rs := [4]) (by kernel_rfl) (by simp) ?_
              refine AllReadyH.cons (o := _) rfl (fun K hK => ?_) ?_
              · go_simp
                refine hK.out _ _ ?_ (fun hHeld => ?_)
                · try dsimp only
                  refine heldV HV1.out ?_; repeat (first | exact Below.refl _ _ | refine bl_call ?_ (by assumption) | refine bl_drew ?_ | refine bl_alloc ?_ _)
                clear hK K
                try simp only [Act.put, List.setIfInBounds_toArray, List.set_cons_zero, List.set_cons_succ, List.getElem_toArray, List.getElem_cons_zero, List.getElem_cons_succ]
                refine wpAnyH_take (i := 8) (oi := _) (v := ?_) rfl (by kernel_rfl) (by kernel_rfl) (by kernel_rfl) (fun _ _ _ h => h) (Or.inl ⟨by rfl, ?_⟩) (by assumption) ?_
                rotate_left
                focus ((intro w hSw); (try dsimp only at hSw); go_simp; first | done | with_reducible rfl)
                try simp only [Act.put, List.setIfInBounds_toArray, List.set_cons_zero, List.set_cons_succ, List.getElem_toArray, List.getElem_cons_zero, List.getElem_cons_succ]
                refine wpAnyH_take (i := 12) (oi := _) (v := ?_) rfl (by kernel_rfl) (by kernel_rfl) (by kernel_rfl) (fun _ _ _ h => h) (Or.inl ⟨by rfl, ?_⟩) (by assumption) ?_
                rotate_left
                focus ((intro w hSw); (try dsimp only at hSw); go_simp; first | done | with_reducible rfl)
                try simp only [Act.put, List.setIfInBounds_toArray, List.set_cons_zero, List.set_cons_succ, List.getElem_toArray, List.getElem_cons_zero, List.getElem_cons_succ]
                refine wpAnyH_take (i := 17) (oi := _) (v := ?_) rfl (by kernel_rfl) (by kernel_rfl) (by kernel_rfl) (fun _ _ _ h => h) (Or.inl ⟨by rfl, ?_⟩) (by assumption) ?_
                rotate_left
                focus ((intro w hSw); (try dsimp only at hSw); go_simp; first | done | with_reducible rfl)
                try simp only [Act.put, List.setIfInBounds_toArray, List.set_cons_zero, List.set_cons_succ, List.getElem_toArray, List.getElem_cons_zero, List.getElem_cons_succ]
                refine wpAnyH_take (i := 18) (oi := _) (v := ?_) rfl (by kernel_rfl) (by kernel_rfl) (by kernel_rfl) (fun _ _ _ h => h) (Or.inl ⟨by rfl, ?_⟩) (by assumption) ?_
                rotate_left
                focus ((intro w hSw); (try dsimp only at hSw); go_simp; first | done | with_reducible rfl)
                try simp only [Act.put, List.setIfInBounds_toArray, List.set_cons_zero, List.set_cons_succ, List.getElem_toArray, List.getElem_cons_zero, List.getElem_cons_succ]
                refine wpAnyH_done (by kernel_rfl) ?_ _
                refine NoPanic.normal ?_
                go_wp2_with fail
                go_meet
                exact ⟨by simp only [bs_append, vHead, Int.toNat_natCast]; rfl, And.right (And.right (And.right (And.right ‹_ ∧ _ ∧ _ ∧ _ ∧ Hid (Below w1.heap.size w1 _)›)))⟩
              exact AllReadyH.nil
            exact AllReadyH.nil
          exact AllReadyH.nil
        exact AllReadyH.nil
      refine AllReadyH.cons (o := _) rfl (fun K hK => ?_) ?_
      · go_simp
        go_at_call 76
        refine (spec_l01Var_calls _ _ (by omega)).mono ?_
        rintro e w' ⟨rfl, hb⟩
        first | (refine conv_b1 (P := Try.prog) 35 5 9 Try.underlying35 Try.underlying5 Try.underlying9 hb ?_; intro kq HKQ) | (refine conv_b0 (P := Try.prog) 35 5 9 Try.underlying35 Try.underlying5 Try.underlying9 hb ?_; intro kq HKQ) | (refine conv_b2 (P := Try.prog) 35 5 9 Try.underlying35 Try.underlying5 Try.underlying9 HKQ hb ?_; intro kq HKQ) | skip
        go_wp2_with fail
        refine hK.out _ _ ?_ (fun hHeld => ?_)
        · try dsimp only
          refine heldV HV1.out ?_; repeat (first | exact Below.refl _ _ | refine bl_call ?_ (by assumption) | refine bl_drew ?_ | refine bl_alloc ?_ _)
        clear hK K
        try simp only [Act.put, List.setIfInBounds_toArray, List.set_cons_zero, List.set_cons_succ, List.getElem_toArray, List.getElem_cons_zero, List.getElem_cons_succ]
        refine wpAnyH_ready (rs := [3, 11]) (by kernel_rfl) (by simp) ?_
        refine AllReadyH.cons (o := _) rfl (fun K hK => ?_) ?_
        · go_simp
          refine hK.out _ _ ?_ (fun hHeld => ?_)
          · try dsimp only
            refine heldV HV1.out ?_; repeat (first | exact Below.refl _ _ | refine bl_call ?_ (by assumption) | refine bl_drew ?_ | refine bl_alloc ?_ _)
          clear hK K
          try simp only [Act.put, List.setIfInBounds_toArray, List.set_cons_zero, List.set_cons_succ, List.getElem_toArray, List.getElem_cons_zero, List.getElem_cons_succ]
          refine wpAnyH_ready (rs := [4, 11]) (by kernel_rfl) (by simp) ?_
          refine AllReadyH.cons (o := _) rfl (fun K hK => ?_) ?_
          · go_simp
            refine hK.out _ _ ?_ (fun hHeld => ?_)
            · try dsimp only
              refine heldV HV1.out ?_; repeat (first | exact Below.refl _ _ | refine bl_call ?_ (by assumption) | refine bl_drew ?_ | refine bl_alloc ?_ _)
            clear hK K
            try simp only [Act.put, List.setIfInBounds_toArray, List.set_cons_zero, List.set_cons_succ, List.getElem_toArray, List.getElem_cons_zero, List.getElem_cons_succ]
            refine wpAnyH_take (i := 8) (oi := _) (v := ?_) rfl (by kernel_rfl) (by kernel_rfl) (by kernel_rfl) (fun _ _ _ h => h) (Or.inl ⟨by rfl, ?_⟩) (by assumption) ?_
            rotate_left
            focus ((intro w hSw); (try dsimp only at hSw); go_simp; first | done | with_reducible rfl)
            try simp only [Act.put, List.setIfInBounds_toArray, List.set_cons_zero, List.set_cons_succ, List.getElem_toArray, List.getElem_cons_zero, List.getElem_cons_succ]
            refine wpAnyH_ready (rs := [11]) (by kernel_rfl) (by simp) ?_
            refine AllReadyH.cons (o := _) rfl (fun K hK => ?_) ?_
            · go_simp
              go_at_call 77
              refine (spec_l05Short_calls t _ (by omega)).mono ?_
              rintro e w' ⟨rfl, hb⟩
              first | (refine conv_b1 (P := Try.prog) 35 5 9 Try.underlying35 Try.underlying5 Try.underlying9 hb ?_; intro kq HKQ) | (refine conv_b0 (P := Try.prog) 35 5 9 Try.underlying35 Try.underlying5 Try.underlying9 hb ?_; intro kq HKQ) | (refine conv_b2 (P := Try.prog) 35 5 9 Try.underlying35 Try.underlying5 Try.underlying9 HKQ hb ?_; intro kq HKQ) | skip
              go_wp2_with fail
              refine hK.out _ _ ?_ (fun hHeld => ?_)
              · try dsimp only
                refine heldV HV1.out ?_; repeat (first | exact Below.refl _ _ | refine bl_call ?_ (by assumption) | refine bl_drew ?_ | refine bl_alloc ?_ _)
              clear hK K
              try simp only [Act.put, List.setIfInBounds_toArray, List.set_cons_zero, List.set_cons_succ, List.getElem_toArray, List.getElem_cons_zero, List.getElem_cons_succ]
              refine wpAnyH_take (i := 12) (oi := _) (v := ?_) rfl (by kernel_rfl) (by kernel_rfl) (by kernel_rfl) (fun _ _ _ h => h) (Or.inl ⟨by rfl, ?_⟩) (by assumption) ?_
              rotate_left
              focus ((intro w hSw); (try dsimp only at hSw); go_simp; first | done | with_reducible rfl)
              try simp only [Act.put, List.setIfInBounds_toArray, List.set_cons_zero, List.set_cons_succ, List.getElem_toArray, List.getElem_cons_zero, List.getElem_cons_succ]
              refine wpAnyH_ready (rs := [16]) (by kernel_rfl) (by simp) ?_
              refine AllReadyH.cons (o := _) rfl (fun K hK => ?_) ?_
              · go_simp
                go_at_call 76
                refine (spec_l01Var_calls _ _ (by omega)).mono ?_
                rintro e w' ⟨rfl, hb⟩
                first | (refine conv_b1 (P := Try.prog) 35 5 9 Try.underlying35 Try.underlying5 Try.underlying9 hb ?_; intro kq HKQ) | (refine conv_b0 (P := Try.prog) 35 5 9 Try.underlying35 Try.underlying5 Try.underlying9 hb ?_; intro kq HKQ) | (refine conv_b2 (P := Try.prog) 35 5 9 Try.underlying35 Try.underlying5 Try.underlying9 HKQ hb ?_; intro kq HKQ) | skip
                go_wp2_with fail
                refine hK.out _ _ ?_ (fun hHeld => ?_)
                · try dsimp only
                  refine heldV HV1.out ?_; repeat (first | exact Below.refl _ _ | refine bl_call ?_ (by assumption) | refine bl_drew ?_ | refine bl_alloc ?_ _)
                clear hK K
                try simp only [Act.put, List.setIfInBounds_toArray, List.set_cons_zero, List.set_cons_succ, List.getElem_toArray, List.getElem_cons_zero, List.getElem_cons_succ]
                refine wpAnyH_take (i := 17) (oi := _) (v := ?_) rfl (by kernel_rfl) (by kernel_rfl) (by kernel_rfl) (fun _ _ _ h => h) (Or.inl ⟨by rfl, ?_⟩) (by assumption) ?_
                rotate_left
                focus ((intro w hSw); (try dsimp only at hSw); go_simp; first | done | with_reducible rfl)
                try simp only [Act.put, List.setIfInBounds_toArray, List.set_cons_zero, List.set_cons_succ, List.getElem_toArray, List.getElem_cons_zero, List.getElem_cons_succ]
                refine wpAnyH_take (i := 18) (oi := _) (v := ?_) rfl (by kernel_rfl) (by kernel_rfl) (by kernel_rfl) (fun _ _ _ h => h) (Or.inl ⟨by rfl, ?_⟩) (by assumption) ?_
                rotate_left
                focus ((intro w hSw); (try dsimp only at hSw); go_simp; first | done | with_reducible rfl)
                try simp only [Act.put, List.setIfInBounds_toArray, List.set_cons_zero, List.set_cons_succ, List.getElem_toArray, List.getElem_cons_zero, List.getElem_cons_succ]
                refine wpAnyH_done (by kernel_rfl) ?_ _
                refine NoPanic.normal ?_
                go_wp2_with fail
                go_meet
                exact ⟨by simp only [bs_append, vHead, Int.toNat_natCast]; rfl, And.right (And.right (And.right (And.right ‹_ ∧ _ ∧ _ ∧ _ ∧ Hid (Below w1.heap.size w1 _)›)))⟩
              exact AllReadyH.nil
            exact AllReadyH.nil
          refine AllReadyH.cons (o := _) rfl (fun K hK => ?_) ?_
          · go_simp
            go_at_call 77
            refine (spec_l05Short_calls t _ (by omega)).mono ?_
            rintro e w' ⟨rfl, hb⟩
            first | (refine conv_b1 (P := Try.prog) 35 5 9 Try.underlying35 Try.underlying5 Try.underlying9 hb ?_; intro kq HKQ) | (refine conv_b0 (P := Try.prog) 35 5 9 Try.underlying35 Try.underlying5 Try.underlying9 hb ?_; intro kq HKQ) | (refine conv_b2 (P := Try.prog) 35 5 9 Try.underlying35 Try.underlying5 Try.underlying9 HKQ hb ?_; intro kq HKQ) | skip
            go_wp2_with fail
            refine hK.out _ _ ?_ (fun hHeld => ?_)
            · try dsimp only
              refine heldV HV1.out ?_; repeat (first | exact Below.refl _ _ | refine bl_call ?_ (by assumption) | refine bl_drew ?_ | refine bl_alloc ?_ _)
            clear hK K
            try simp only [Act.put, List.setIfInBounds_toArray, List.set_cons_zero, List.set_cons_succ, List.getElem_toArray, List.getElem_cons_zero, List.getElem_cons_succ]
            refine wpAnyH_ready (rs := [4, 16]) (by kernel_rfl) (by simp) ?_
            refine AllReadyH.cons (o := _) rfl (fun K hK => ?_) ?_
            · go_simp
              refine hK.out _ _ ?_ (fun hHeld => ?_)
              · try dsimp only
                refine heldV HV1.out ?_; repeat (first | exact Below.refl _ _ | refine bl_call ?_ (by assumption) | refine bl_drew ?_ | refine bl_alloc ?_ _)
              clear hK K
              try simp only [Act.put, List.setIfInBounds_toArray, List.set_cons_zero, List.set_cons_succ, List.getElem_toArray, List.getElem_cons_zero, List.getElem_cons_succ]
              refine wpAnyH_take (i := 8) (oi := _) (v := ?_) rfl (by kernel_rfl) (by kernel_rfl) (by kernel_rfl) (fun _ _ _ h => h) (Or.inl ⟨by rfl, ?_⟩) (by assumption) ?_
              rotate_left
              focus ((intro w hSw); (try dsimp only at hSw); go_simp; first | done | with_reducible rfl)
              try simp only [Act.put, List.setIfInBounds_toArray, List.set_cons_zero, List.set_cons_succ, List.getElem_toArray, List.getElem_cons_zero, List.getElem_cons_succ]
              refine wpAnyH_take (i := 12) (oi := _) (v := ?_) rfl (by kernel_rfl) (by kernel_rfl) (by kernel_rfl) (fun _ _ _ h => h) (Or.inl ⟨by rfl, ?_⟩) (by assumption) ?_
              rotate_left
              focus ((intro w hSw); (try dsimp only at hSw); go_simp; first | done | with_reducible rfl)
              try simp only [Act.put, List.setIfInBounds_toArray, List.set_cons_zero, List.set_cons_succ, List.getElem_toArray, List.getElem_cons_zero, List.getElem_cons_succ]
              refine wpAnyH_ready (rs := [16]) (by kernel_rfl) (by simp) ?_
              refine AllReadyH.cons (o := _) rfl (fun K hK => ?_) ?_
              · go_simp
                go_at_call 76
                refine (spec_l01Var_calls _ _ (by omega)).mono ?_
                rintro e w' ⟨rfl, hb⟩
                first | (refine conv_b1 (P := Try.prog) 35 5 9 Try.underlying35 Try.underlying5 Try.underlying9 hb ?_; intro kq HKQ) | (refine conv_b0 (P := Try.prog) 35 5 9 Try.underlying35 Try.underlying5 Try.underlying9 hb ?_; intro kq HKQ) | (refine conv_b2 (P := Try.prog) 35 5 9 Try.underlying35 Try.underlying5 Try.underlying9 HKQ hb ?_; intro kq HKQ) | skip
                go_wp2_with fail
                refine hK.out _ _ ?_ (fun hHeld => ?_)
                · try dsimp only
                  refine heldV HV1.out ?_; repeat (first | exact Below.refl _ _ | refine bl_call ?_ (by assumption) | refine bl_drew ?_ | refine bl_alloc ?_ _)
                clear hK K
                try simp only [Act.put, List.setIfInBounds_toArray, List.set_cons_zero, List.set_cons_succ, List.getElem_toArray, List.getElem_cons_zero, List.getElem_cons_succ]
                refine wpAnyH_take (i := 17) (oi := _) (v := ?_) rfl (by kernel_rfl) (by kernel_rfl) (by kernel_rfl) (fun _ _ _ h => h) (Or.inl ⟨by rfl, ?_⟩) (by assumption) ?_
                rotate_left
                focus ((intro w hSw); (try dsimp only at hSw); go_simp; first | done | with_reducible rfl)
                try simp only [Act.put, List.setIfInBounds_toArray, List.set_cons_zero, List.set_cons_succ, List.getElem_toArray, List.getElem_cons_zero, List.getElem_cons_succ]
                refine wpAnyH_take (i := 18) (oi := _) (v := ?_) rfl (by kernel_rfl) (by kernel_rfl) (by kernel_rfl) (fun _ _ _ h => h) (Or.inl ⟨by rfl, ?_⟩) (by assumption) ?_
                rotate_left
                focus ((intro w hSw); (try dsimp only at hSw); go_simp; first | done | with_reducible rfl)
                try simp only [Act.put, List.setIfInBounds_toArray, List.set_cons_zero, List.set_cons_succ, List.getElem_toArray, List.getElem_cons_zero, List.getElem_cons_succ]
                refine wpAnyH_done (by kernel_rfl) ?_ _
                refine NoPanic.normal ?_
                go_wp2_with fail
                go_meet
                exact ⟨by simp only [bs_append, vHead, Int.toNat_natCast]; rfl, And.right (And.right (And.right (And.right ‹_ ∧ _ ∧ _ ∧ _ ∧ Hid (Below w1.heap.size w1 _)›)))⟩
              exact AllReadyH.nil
            refine AllReadyH.cons (o := _) rfl (fun K hK => ?_) ?_
            · go_simp
              go_at_call 76
              refine (spec_l01Var_calls _ _ (by omega)).mono ?_
              rintro e w' ⟨rfl, hb⟩
              first | (refine conv_b1 (P := Try.prog) 35 5 9 Try.underlying35 Try.underlying5 Try.underlying9 hb ?_; intro kq HKQ) | (refine conv_b0 (P := Try.prog) 35 5 9 Try.underlying35 Try.underlying5 Try.underlying9 hb ?_; intro kq HKQ) | (refine conv_b2 (P := Try.prog) 35 5 9 Try.underlying35 Try.underlying5 Try.underlying9 HKQ hb ?_; intro kq HKQ) | skip
              go_wp2_with fail
              refine hK.out _ _ ?_ (fun hHeld => ?_)
              · try dsimp only
                refine heldV HV1.out ?_; repeat (first | exact Below.refl _ _ | refine bl_call ?_ (by assumption) | refine bl_drew ?_ | refine bl_alloc ?_ _)
              clear hK K
              try simp only [Act.put, List.setIfInBounds_toArray, List.set_cons_zero, List.set_cons_succ, List.getElem_toArray, List.getElem_cons_zero, List.getElem_cons_succ]
              refine wpAnyH_ready (rs := [4]) (by kernel_rfl) (by simp) ?_
              refine AllReadyH.cons (o := _) rfl (fun K hK => ?_) ?_
              · go_simp
                refine hK.out _ _ ?_ (fun hHeld => ?_)
                · try dsimp only
                  refine heldV HV1.out ?_; repeat (first | exact Below.refl _ _ | refine bl_call ?_ (by assumption) | refine bl_drew ?_ | refine bl_alloc ?_ _)
                clear hK K
                try simp only [Act.put, List.setIfInBounds_toArray, List.set_cons_zero, List.set_cons_succ, List.getElem_toArray, List.getElem_cons_zero, List.getElem_cons_succ]
                refine wpAnyH_take (i := 8) (oi := _) (v := ?_) rfl (by kernel_rfl) (by kernel_rfl) (by kernel_rfl) (fun _ _ _ h => h) (Or.inl ⟨by rfl, ?_⟩) (by assumption) ?_
                rotate_left
                focus ((intro w hSw); (try dsimp only at hSw); go_simp; first | done | with_reducible rfl)
                try simp only [Act.put, List.setIfInBounds_toArray, List.set_cons_zero, List.set_cons_succ, List.getElem_toArray, List.getElem_cons_zero, List.getElem_cons_succ]
                refine wpAnyH_take (i := 12) (oi := _) (v := ?_) rfl (by kernel_rfl) (by kernel_rfl) (by kernel_rfl) (fun _ _ _ h => h) (Or.inl ⟨by rfl, ?_⟩) (by assumption) ?_
                rotate_left
                focus ((intro w hSw); (try dsimp only at hSw); go_simp; first | done | with_reducible rfl)
                try simp only [Act.put, List.setIfInBounds_toArray, List.set_cons_zero, List.set_cons_succ, List.getElem_toArray, List.getElem_cons_zero, List.getElem_cons_succ]
                refine wpAnyH_take (i := 17) (oi := _) (v := ?_) rfl (by kernel_rfl) (by kernel_rfl) (by kernel_rfl) (fun _ _ _ h => h) (Or.inl ⟨by rfl, ?_⟩) (by assumption) ?_
                rotate_left
                focus ((intro w hSw); (try dsimp only at hSw); go_simp; first | done | with_reducible rfl)
                try simp only [Act.put, List.setIfInBounds_toArray, List.set_cons_zero, List.set_cons_succ, List.getElem_toArray, List.getElem_cons_zero, List.getElem_cons_succ]
                refine wpAnyH_take (i := 18) (oi := _) (v := ?_) rfl (by kernel_rfl) (by kernel_rfl) (by kernel_rfl) (fun _ _ _ h => h) (Or.inl ⟨by rfl, ?_⟩) (by assumption) ?_
                rotate_left
                focus ((intro w hSw); (try dsimp only at hSw); go_simp; first | done | with_reducible rfl)
                try simp only [Act.put, List.setIfInBounds_toArray, List.set_cons_zero, List.set_cons_succ, List.getElem_toArray, List.getElem_cons_zero, List.getElem_cons_succ]
                refine wpAnyH_done (by kernel_rfl) ?_ _
                refine NoPanic.normal ?_
                go_wp2_with fail
                go_meet
                exact ⟨by simp only [bs_append, vHead, Int.toNat_natCast]; rfl, And.right (And.right (And.right (And.right ‹_ ∧ _ ∧ _ ∧ _ ∧ Hid (Below w1.heap.size w1 _)›)))⟩
              exact AllReadyH.nil
            exact AllReadyH.nil
          exact AllReadyH.nil
        refine AllReadyH.cons (o := _) rfl (fun K hK => ?_) ?_
        · go_simp
          go_at_call 77
          refine (spec_l05Short_calls t _ (by omega)).mono ?_
          rintro e w' ⟨rfl, hb⟩
          first | (refine conv_b1 (P := Try.prog) 35 5 9 Try.underlying35 Try.underlying5 Try.underlying9 hb ?_; intro kq HKQ) | (refine conv_b0 (P := Try.prog) 35 5 9 Try.underlying35 Try.underlying5 Try.underlying9 hb ?_; intro kq HKQ) | (refine conv_b2 (P := Try.prog) 35 5 9 Try.underlying35 Try.underlying5 Try.underlying9 HKQ hb ?_; intro kq HKQ) | skip
          go_wp2_with fail
          refine hK.out _ _ ?_ (fun hHeld => ?_)
          · try dsimp only
            refine heldV HV1.out ?_; repeat (first | exact Below.refl _ _ | refine bl_call ?_ (by assumption) | refine bl_drew ?_ | refine bl_alloc ?_ _)
          clear hK K
          try simp only [Act.put, List.setIfInBounds_toArray, List.set_cons_zero, List.set_cons_succ, List.getElem_toArray, List.getElem_cons_zero, List.getElem_cons_succ]
          refine wpAnyH_ready (rs := [3, 16]) (by kernel_rfl) (by simp) ?_
          refine AllReadyH.cons (o := _) rfl (fun K hK => ?_) ?_
          · go_simp
            refine hK.out _ _ ?_ (fun hHeld => ?_)
            · try dsimp only
              refine heldV HV1.out ?_; repeat (first | exact Below.refl _ _ | refine bl_call ?_ (by assumption) | refine bl_drew ?_ | refine bl_alloc ?_ _)
            clear hK K
            try simp only [Act.put, List.setIfInBounds_toArray, List.set_cons_zero, List.set_cons_succ, List.getElem_toArray, List.getElem_cons_zero, List.getElem_cons_succ]
            refine wpAnyH_ready (rs := [4, 16]) (by kernel_rfl) (by simp) ?_
            refine AllReadyH.cons (o := _) rfl (fun K hK => ?_) ?_
            · go_simp
              refine hK.out _ _ ?_ (fun hHeld => ?_)
              · try dsimp only
                refine heldV HV1.out ?_; repeat (first | exact Below.refl _ _ | refine bl_call ?_ (by assumption) | refine bl_drew ?_ | refine bl_alloc ?_ _)
              clear hK K
              try simp only [Act.put, List.setIfInBounds_toArray, List.set_cons_zero, List.set_cons_succ, List.getElem_toArray, List.getElem_cons_zero, List.getElem_cons_succ]
              refine wpAnyH_take (i := 8) (oi := _) (v := ?_) rfl (by kernel_rfl) (by kernel_rfl) (by kernel_rfl) (fun _ _ _ h => h) (Or.inl ⟨by rfl, ?_⟩) (by assumption) ?_
              rotate_left
              focus ((intro w hSw); (try dsimp only at hSw); go_simp; first | done | with_reducible rfl)
              try simp only [Act.put, List.setIfInBounds_toArray, List.set_cons_zero, List.set_cons_succ, List.getElem_toArray, List.getElem_cons_zero, List.getElem_cons_succ]
              refine wpAnyH_take (i := 12) (oi := _) (v := ?_) rfl (by kernel_rfl) (by kernel_rfl) (by kernel_rfl) (fun _ _ _ h => h) (Or.inl ⟨by rfl, ?_⟩) (by assumption) ?_
              rotate_left
              focus ((intro w hSw); (try dsimp only at hSw); go_simp; first | done | with_reducible rfl)
              try simp only [Act.put, List.setIfInBounds_toArray, List.set_cons_zero, List.set_cons_succ, List.getElem_toArray, List.getElem_cons_zero, List.getElem_cons_succ]
              refine wpAnyH_ready (rs := [16]) (by kernel_rfl) (by simp) ?_
              refine AllReadyH.cons (o := _) rfl (fun K hK => ?_) ?_
              · go_simp
                go_at_call 76
                refine (spec_l01Var_calls _ _ (by omega)).mono ?_
                rintro e w' ⟨rfl, hb⟩
                first | (refine conv_b1 (P := Try.prog) 35 5 9 Try.underlying35 Try.underlying5 Try.underlying9 hb ?_; intro kq HKQ) | (refine conv_b0 (P := Try.prog) 35 5 9 Try.underlying35 Try.underlying5 Try.underlying9 hb ?_; intro kq HKQ) | (refine conv_b2 (P := Try.prog) 35 5 9 Try.underlying35 Try.underlying5 Try.underlying9 HKQ hb ?_; intro kq HKQ) | skip
                go_wp2_with fail
                refine hK.out _ _ ?_ (fun hHeld => ?_)
                · try dsimp only
                  refine heldV HV1.out ?_; repeat (first | exact Below.refl _ _ | refine bl_call ?_ (by assumption) | refine bl_drew ?_ | refine bl_alloc ?_ _)
                clear hK K
                try simp only [Act.put, List.setIfInBounds_toArray, List.set_cons_zero, List.set_cons_succ, List.getElem_toArray, List.getElem_cons_zero, List.getElem_cons_succ]
                refine wpAnyH_take (i := 17) (oi := _) (v := ?_) rfl (by kernel_rfl) (by kernel_rfl) (by kernel_rfl) (fun _ _ _ h => h) (Or.inl ⟨by rfl, ?_⟩) (by assumption) ?_
                rotate_left
                focus ((intro w hSw); (try dsimp only at hSw); go_simp; first | done | with_reducible rfl)
                try simp only [Act.put, List.setIfInBounds_toArray, List.set_cons_zero, List.set_cons_succ, List.getElem_toArray, List.getElem_cons_zero, List.getElem_cons_succ]
                refine wpAnyH_take (i := 18) (oi := _) (v := ?_) rfl (by kernel_rfl) (by kernel_rfl) (by kernel_rfl) (fun _ _ _ h => h) (Or.inl ⟨by rfl, ?_⟩) (by assumption) ?_
                rotate_left
                focus ((intro w hSw); (try dsimp only at hSw); go_simp; first | done | with_reducible rfl)
                try simp only [Act.put, List.setIfInBounds_toArray, List.set_cons_zero, List.set_cons_succ, List.getElem_toArray, List.getElem_cons_zero, List.getElem_cons_succ]
                refine wpAnyH_done (by kernel_rfl) ?_ _
                refine NoPanic.normal ?_
                go_wp2_with fail
                go_meet
                exact ⟨by simp only [bs_append, vHead, Int.toNat_natCast]; rfl, And.right (And.right (And.right (And.right ‹_ ∧ _ ∧ _ ∧ _ ∧ Hid (Below w1.heap.size w1 _)›)))⟩
              exact AllReadyH.nil
            refine AllReadyH.cons (o := _) rfl (fun K hK => ?_) ?_
            · go_simp
              go_at_call 76
              refine (spec_l01Var_calls _ _ (by omega)).mono ?_
              rintro e w' ⟨rfl, hb⟩
              first | (refine conv_b1 (P := Try.prog) 35 5 9 Try.underlying35 Try.underlying5 Try.underlying9 hb ?_; intro kq HKQ) | (refine conv_b0 (P := Try.prog) 35 5 9 Try.underlying35 Try.underlying5 Try.underlying9 hb ?_; intro kq HKQ) | (refine conv_b2 (P := Try.prog) 35 5 9 Try.underlying35 Try.underlying5 Try.underlying9 HKQ hb ?_; intro kq HKQ) | skip
              go_wp2_with fail
              refine hK.out _ _ ?_ (fun hHeld => ?_)
              · try dsimp only
                refine heldV HV1.out ?_; repeat (first | exact Below.refl _ _ | refine bl_call ?_ (by assumption) | refine bl_drew ?_ | refine bl_alloc ?_ _)
              clear hK K
              try simp only [Act.put, List.setIfInBounds_toArray, List.set_cons_zero, List.set_cons_succ, List.getElem_toArray, List.getElem_cons_zero, List.getElem_cons_succ]
              refine wpAnyH_ready (rs := [4]) (by kernel_rfl) (by simp) ?_
              refine AllReadyH.cons (o := _) rfl (fun K hK => ?_) ?_
              · go_simp
                refine hK.out _ _ ?_ (fun hHeld => ?_)
                · try dsimp only
                  refine heldV HV1.out ?_; repeat (first | exact Below.refl _ _ | refine bl_call ?_ (by assumption) | refine bl_drew ?_ | refine bl_alloc ?_ _)
                clear hK K
                try simp only [Act.put, List.setIfInBounds_toArray, List.set_cons_zero, List.set_cons_succ, List.getElem_toArray, List.getElem_cons_zero, List.getElem_cons_succ]
                refine wpAnyH_take (i := 8) (oi := _) (v := ?_) rfl (by kernel_rfl) (by kernel_rfl) (by kernel_rfl) (fun _ _ _ h => h) (Or.inl ⟨by rfl, ?_⟩) (by assumption) ?_
                rotate_left
                focus ((intro w hSw); (try dsimp only at hSw); go_simp; first | done | with_reducible rfl)
                try simp only [Act.put, List.setIfInBounds_toArray, List.set_cons_zero, List.set_cons_succ, List.getElem_toArray, List.getElem_cons_zero, List.getElem_cons_succ]
                refine wpAnyH_take (i := 12) (oi := _) (v := ?_) rfl (by kernel_rfl) (by kernel_rfl) (by kernel_rfl) (fun _ _ _ h => h) (Or.inl ⟨by rfl, ?_⟩) (by assumption) ?_
                rotate_left
                focus ((intro w hSw); (try dsimp only at hSw); go_simp; first | done | with_reducible rfl)
                try simp only [Act.put, List.setIfInBounds_toArray, List.set_cons_zero, List.set_cons_succ, List.getElem_toArray, List.getElem_cons_zero, List.getElem_cons_succ]
                refine wpAnyH_take (i := 17) (oi := _) (v := ?_) rfl (by kernel_rfl) (by kernel_rfl) (by kernel_rfl) (fun _ _ _ h => h) (Or.inl ⟨by rfl, ?_⟩) (by assumption) ?_
                rotate_left
                focus ((intro w hSw); (try dsimp only at hSw); go_simp; first | done | with_reducible rfl)
                try simp only [Act.put, List.setIfInBounds_toArray, List.set_cons_zero, List.set_cons_succ, List.getElem_toArray, List.getElem_cons_zero, List.getElem_cons_succ]
                refine wpAnyH_take (i := 18) (oi := _) (v := ?_) rfl (by kernel_rfl) (by kernel_rfl) (by kernel_rfl) (fun _ _ _ h => h) (Or.inl ⟨by rfl, ?_⟩) (by assumption) ?_
                rotate_left
                focus ((intro w hSw); (try dsimp only at hSw); go_simp; first | done | with_reducible rfl)
                try simp only [Act.put, List.setIfInBounds_toArray, List.set_cons_zero, List.set_cons_succ, List.getElem_toArray, List.getElem_cons_zero, List.getElem_cons_succ]
                refine wpAnyH_done (by kernel_rfl) ?_ _
                refine NoPanic.normal ?_
                go_wp2_with fail
                go_meet
                exact ⟨by simp only [bs_append, vHead, Int.toNat_natCast]; rfl, And.right (And.right (And.right (And.right ‹_ ∧ _ ∧ _ ∧ _ ∧ Hid (Below w1.heap.size w1 _)›)))⟩
              exact AllReadyH.nil
            exact AllReadyH.nil
          refine AllReadyH.cons (o := _) rfl (fun K hK => ?_) ?_
          · go_simp
            go_at_call 76
            refine (spec_l01Var_calls _ _ (by omega)).mono ?_
            rintro e w' ⟨rfl, hb⟩
            first | (refine conv_b1 (P := Try.prog) 35 5 9 Try.underlying35 Try.underlying5 Try.underlying9 hb ?_; intro kq HKQ) | (refine conv_b0 (P := Try.prog) 35 5 9 Try.underlying35 Try.underlying5 Try.underlying9 hb ?_; intro kq HKQ) | (refine conv_b2 (P := Try.prog) 35 5 9 Try.underlying35 Try.underlying5 Try.underlying9 HKQ hb ?_; intro kq HKQ) | skip
            go_wp2_with fail
            refine hK.out _ _ ?_ (fun hHeld => ?_)
            · try dsimp only
              refine heldV HV1.out ?_; repeat (first | exact Below.refl _ _ | refine bl_call ?_ (by assumption) | refine bl_drew ?_ | refine bl_alloc ?_ _)
            clear hK K
            try simp only [Act.put, List.setIfInBounds_toArray, List.set_cons_zero, List.set_cons_succ, List.getElem_toArray, List.getElem_cons_zero, List.getElem_cons_succ]
            refine wpAnyH_ready (rs := [3]) (by kernel_rfl) (by simp) ?_
            refine AllReadyH.cons (o := _) rfl (fun K hK => ?_) ?_
            · go_simp
              refine hK.out _ _ ?_ (fun hHeld => ?_)
              · try dsimp only
                refine heldV HV1.out ?_; repeat (first | exact Below.refl _ _ | refine bl_call ?_ (by assumption) | refine bl_drew ?_ | refine bl_alloc ?_ _)
              clear hK K
              try simp only [Act.put, List.setIfInBounds_toArray, List.set_cons_zero, List.set_cons_succ, List.getElem_toArray, List.getElem_cons_zero, List.getElem_cons_succ]
              refine wpAnyH_ready (rs := [4]) (by kernel_rfl) (by simp) ?_
              refine AllReadyH.cons (o := _) rfl (fun K hK => ?_) ?_
              · go_simp
                refine hK.out _ _ ?_ (fun hHeld => ?_)
                · try dsimp only
                  refine heldV HV1.out ?_; repeat (first | exact Below.refl _ _ | refine bl_call ?_ (by assumption) | refine bl_drew ?_ | refine bl_alloc ?_ _)
                clear hK K
                try simp only [Act.put, List.setIfInBounds_toArray, List.set_cons_zero, List.set_cons_succ, List.getElem_toArray, List.getElem_cons_zero, List.getElem_cons_succ]
                refine wpAnyH_take (i := 8) (oi := _) (v := ?_) rfl (by kernel_rfl) (by kernel_rfl) (by kernel_rfl) (fun _ _ _ h => h) (Or.inl ⟨by rfl, ?_⟩) (by assumption) ?_
                rotate_left
                focus ((intro w hSw); (try dsimp only at hSw); go_simp; first | done | with_reducible rfl)
                try simp only [Act.put, List.setIfInBounds_toArray, List.set_cons_zero, List.set_cons_succ, List.getElem_toArray, List.getElem_cons_zero, List.getElem_cons_succ]
                refine wpAnyH_take (i := 12) (oi := _) (v := ?_) rfl (by kernel_rfl) (by kernel_rfl) (by kernel_rfl) (fun _ _ _ h => h) (Or.inl ⟨by rfl, ?_⟩) (by assumption) ?_
                rotate_left
                focus ((intro w hSw); (try dsimp only at hSw); go_simp; first | done | with_reducible rfl)
                try simp only [Act.put, List.setIfInBounds_toArray, List.set_cons_zero, List.set_cons_succ, List.getElem_toArray, List.getElem_cons_zero, List.getElem_cons_succ]
                refine wpAnyH_take (i := 17) (oi := _) (v := ?_) rfl (by kernel_rfl) (by kernel_rfl) (by kernel_rfl) (fun _ _ _ h => h) (Or.inl ⟨by rfl, ?_⟩) (by assumption) ?_
                rotate_left
                focus ((intro w hSw); (try dsimp only at hSw); go_simp; first | done | with_reducible rfl)
                try simp only [Act.put, List.setIfInBounds_toArray, List.set_cons_zero, List.set_cons_succ, List.getElem_toArray, List.getElem_cons_zero, List.getElem_cons_succ]
                refine wpAnyH_take (i := 18) (oi := _) (v := ?_) rfl (by kernel_rfl) (by kernel_rfl) (by kernel_rfl) (fun _ _ _ h => h) (Or.inl ⟨by rfl, ?_⟩) (by assumption) ?_
                rotate_left
                focus ((intro w hSw); (try dsimp only at hSw); go_simp; first | done | with_reducible rfl)
                try simp only [Act.put, List.setIfInBounds_toArray, List.set_cons_zero, List.set_cons_succ, List.getElem_toArray, List.getElem_cons_zero, List.getElem_cons_succ]
                refine wpAnyH_done (by kernel_rfl) ?_ _
                refine NoPanic.normal ?_
                go_wp2_with fail
                go_meet
                exact ⟨by simp only [bs_append, vHead, Int.toNat_natCast]; rfl, And.right (And.right (And.right (And.right ‹_ ∧ _ ∧ _ ∧ _ ∧ Hid (Below w1.heap.size w1 _)›)))⟩
              exact AllReadyH.nil
            exact AllReadyH.nil
          exact AllReadyH.nil
        exact AllReadyH.nil
      exact AllReadyH.nil
    case rest =>
      obtain ⟨rfl, HBX⟩ := hcut
      have hvh := vHead_len (k := k) (u := (u' : Int)) (t := t) (n := xs.length) hu ht60 hn24
      have HRX := Lib.hid ((HR0.out.below HB1.out).below HBX.out)
      have d3 := (HV1.out.below HBX.out).c3
      go_wp2
      go_loopw [4, 5] (fun v iv wr => ∃ i : Nat, i ≤ xs.length ∧ iv = .int .i64 (i : Int) ∧ v = .string (bs (vHead k u' t xs.length ++ flatS (xs.take i))) ∧ Below wc.heap.size wc wr) (fun _ iv _ => xs.length - (intOf iv).toNat)
      case atStart => exact ⟨0, Nat.zero_le _, rfl, by simp [flatS], Below.refl _ _⟩
      case round =>
        obtain ⟨i, hi, rfl, rfl, hbel⟩ := hrel
        have HB := Lib.hid hbel
        have d4 := ((HV1.out.below HBX.out).below hbel).c3
        by_cases hlt : i < xs.length
        · obtain ⟨ad, x, hA, hc, hz, HX⟩ := (HRX.out.below hbel).at_ hlt
          clear hbel
          cases hA
          have hx : x.size ≤ 60 := hx60 x (List.mem_of_getElem? HX.out)
          have hf := flatS_len (xs.take i) (fun y hy => hx60 y (List.mem_of_mem_take hy))
          rw [List.length_take, Nat.min_eq_left (by omega)] at hf
          have hsx := shortB_len x (by omega)
          have HF := Lib.hid (flatS_snoc (xs.take i) x)
          go_wp2_with (go_at_call 77; refine (spec_l05Short_calls x _ (by omega)).mono ?_; rintro e w' ⟨rfl, hb⟩)
          go_roundw
          case rel => first | exact ⟨i + 1, by omega, by go_num, by rw [take_snoc HX.out, HF.out, bs_append, List.append_assoc], bl_call HB.out (by assumption)⟩ | (repeat (first | (refine ⟨?relx, rfl⟩; exact ⟨i + 1, by omega, by go_num, by rw [take_snoc HX.out, HF.out, bs_append, List.append_assoc], bl_call HB.out (by assumption)⟩) | (refine ⟨?relx, ?eqs⟩; (case eqs => (and_intros <;> rfl)); exact ⟨i + 1, by omega, by go_num, by rw [take_snoc HX.out, HF.out, bs_append, List.append_assoc], bl_call HB.out (by assumption)⟩) | apply Exists.intro))
          case measure => simp [intOf]; omega
        · obtain rfl : i = xs.length := by omega
          clear hbel
          go_wp2
          go_ret2
          exact ⟨by rw [HE.out, List.take_length]; rfl, bl_call (bl_call HB1.out HBX.out) HB.out⟩
end Go.Proofs.Ytekhfplbhcfdmaa
