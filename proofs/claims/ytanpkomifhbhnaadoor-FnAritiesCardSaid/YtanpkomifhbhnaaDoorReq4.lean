/- An argument of a request: the program's bulkAt tells bulkB. -/
import Derived.Test.YtanpkomifhbhnaaDoorReq2
namespace Go.Proofs.YtanpkomifhbhnaaDoor
set_option linter.unusedVariables false
set_option linter.unusedSimpArgs false
open Go.RowKit
attribute [local go_sem] bs_size List.length_cons List.length_nil List.length_append

theorem tail_drop (s : ByteArray) (a k : Nat) : (tail_ s a).drop k = tail_ s (a + k) := by unfold tail_; rw [List.drop_drop]
theorem tail_empty {s : ByteArray} {a : Nat} (h : s.size ≤ a) : tail_ s a = [] := List.eq_nil_of_length_eq_zero (by rw [tail_len]; omega)
theorem byte_at {r : List UInt8} {n : Nat} (h : n < r.length) : ∃ d : Nat, d < 256 ∧ (∀ h' : n < (bs r).size, ((bs r)[n]'h').toNat = d) ∧ r[n]? = some (UInt8.ofNat d) ∧ (UInt8.ofNat d).toNat = d := by
  refine ⟨(r[n]).toNat, UInt8.toNat_lt _, fun h' => rfl, ?_, ?_⟩
  · rw [List.getElem?_eq_getElem h]
    simp
  · simp
theorem ofNat_eq {d e : Nat} (hd : (UInt8.ofNat d).toNat = d) (c : UInt8) (hc : c.toNat = e) : UInt8.ofNat d = c ↔ d = e := by
  rw [← UInt8.toNat_inj, hd, hc]
theorem extract_end (s : ByteArray) (a : Nat) : s.extract a s.size = bs (tail_ s a) := by
  rw [bs_extract]
  congr 1
  rw [tail_, ← ub_length, List.take_length]
def bulkRes (a : Nat) (r : List UInt8 × Nat × Nat) : Value := .tuple #[.string (bs r.1), .int .i64 (if r.2.2 = 1 then ((a + r.2.1 : Nat) : Int) else 0), .int .i64 (r.2.2 : Int)]
theorem ret_bulk {a : Nat} {r : List UInt8 × Nat × Nat} {x : List UInt8} {u h : Nat} (e : r = (x, u, h)) {z : ByteArray} {y i : Int} (hz : z = bs x) (hy : y = if h = 1 then ((a + u : Nat) : Int) else 0) (hi : i = (h : Int)) : Ending.returned (.tuple #[.string z, .int .i64 y, .int .i64 i]) = Ending.returned (bulkRes a r) := by
  subst e hz hy hi
  rfl
theorem bulkB_nil : bulkB [] = ([], 0, 0) := rfl
theorem bulkB_other {l : List UInt8} (h : l ≠ []) (h1 : l[0]? ≠ some 36) : bulkB l = ([], 0, 2) := by unfold bulkB; rw [if_neg h, if_pos h1]
theorem bulkB_num {l : List UInt8} (h1 : l[0]? = some 36) (h2 : (numB 60 (l.drop 1)).2.2 ≠ 1) : bulkB l = ([], 0, (numB 60 (l.drop 1)).2.2) := by
  have h : l ≠ [] := by rintro rfl; simp at h1
  unfold bulkB
  rw [if_neg h, if_neg (by rw [h1]; simp), if_pos h2]
/-- Behind the number: what is left is r. -/
theorem bulkB_at {l : List UInt8} {n u : Nat} (h1 : l[0]? = some 36) (h2 : numB 60 (l.drop 1) = (n, u, 1)) : bulkB l =
    if (n < (l.drop (1 + u)).length ∧ (l.drop (1 + u))[n]? ≠ some 13) ∨ (n + 1 < (l.drop (1 + u)).length ∧ (l.drop (1 + u))[n + 1]? ≠ some 10) then ([], 0, 2)
    else if (l.drop (1 + u)).length < n + 2 then ([], 0, 0) else ((l.drop (1 + u)).take n, 1 + u + n + 2, 1) := by
  have h : l ≠ [] := by rintro rfl; simp at h1
  unfold bulkB
  rw [if_neg h, if_neg (by rw [h1]; simp), h2, if_neg (by simp)]
set_option maxHeartbeats 4000000 in
set_option maxRecDepth 100000 in
theorem impl_bulkAt_calls (s : ByteArray) (a : Nat) (w : World) (ha : a ≤ s.size) (hs : s.size ≤ 1125899906842624) :
    Calls Tryd.prog 64 #[.string s, .int .i64 (a : Int)] w fun e w' => e = .returned (bulkRes a (bulkB (tail_ s a))) ∧ w' = w := by
  by_cases hlt : a < s.size
  · have hke : ((a : Int) == (s.size : Int)) = false := beq_eq_false_iff_ne.mpr (by omega)
    obtain ⟨d, hd, hsd, hc, hcd⟩ := tail_byte (s := s) (a := a) (i := 0) (by omega)
    have hsd' : (s[a]'hlt).toNat = d := hsd
    have hi0 : (0 : Int) ≤ (a : Int) := by omega
    have hi1 : (a : Int) < (s.size : Int) := by omega
    by_cases h36 : d = 36
    · have hhd : (tail_ s a)[0]? = some 36 := by rw [hc, h36]; rfl
      subst h36
      have hnum : (tail_ s a).drop 1 = tail_ s (a + 1) := tail_drop s a 1
      clear hsd hc hcd
      cases hr : numB 60 (tail_ s (a + 1)) with
      | mk n q =>
        obtain ⟨u, h⟩ := q
        by_cases h1 : h = 1
        · subst h1
          have hn60 := numB_most hr
          have hBA := bulkB_at hhd (by rw [hnum]; exact hr)
          rw [tail_drop] at hBA
          obtain ⟨hn, hu, hul⟩ := hn60
          rw [tail_len] at hul
          have hrl := tail_len s (a + (1 + u))
          have HBA := Lib.hid hBA
          have HRR := Lib.hid hr
          have hsl : s.extract (a + (1 + u)) s.size = bs (tail_ s (a + (1 + u))) := extract_end s _
          have ht : ((a : Int) + 1 + (u : Int)).toNat = a + (1 + u) := by omega
          have hb0 : (0 : Int) ≤ (a : Int) + 1 + (u : Int) := by omega
          have hb1 : (a : Int) + 1 + (u : Int) ≤ (s.size : Int) := by omega
          have hw1 : IntKind.i64.wrap ((a : Int) + 1) = (a : Int) + 1 := by rw [IntKind.wrap_i64]; omega
          generalize tail_ s (a + (1 + u)) = r at HBA hrl hsl
          clear hr hBA hhd hnum
          have hca : ((a : Int) + 1) = ((a + 1 : Nat) : Int) := by omega
          have HCA := Lib.hid hca
          clear hca
          -- CASES
          by_cases hl0 : n < r.length
          · obtain ⟨x, hx, hbx, hrx, hxx⟩ := byte_at hl0
            by_cases h13 : x = 13
            · have hrx' : r[n]? = some 13 := by rw [hrx, h13]; rfl
              subst h13
              by_cases hl1 : n + 1 < r.length
              · obtain ⟨y, hy, hby, hry, hyy⟩ := byte_at hl1
                have ht1 : ((n : Int) + 1).toNat = n + 1 := by omega
                have hc0 : (0 : Int) ≤ (n : Int) + 1 := by omega
                have hc1 : (n : Int) + 1 < (r.length : Int) := by omega
                have hc2 : (n : Int) < (r.length : Int) := by omega
                by_cases h10 : y = 10
                · have hry' : r[n + 1]? = some 10 := by rw [hry, h10]; rfl
                  have HR : Hid (bulkB (tail_ s a) = (r.take n, 1 + u + n + 2, 1)) := by rw [Hid, HBA.out, if_neg (by rw [hrx', hry']; simp), if_neg (by omega)]
                  have hsx : (bs r).extract 0 n = bs (r.take n) := by rw [bs_extract, ub_bs]; simp
                  have hfr : ¬ (r.length : Int) < (n : Int) + 2 := by omega
                  subst h10
                  clear hrx hry hrx' hry' hxx hyy
                  go_enter Tryd.func64, Tryd.ntmps64
                  go_wp2_with fail
                  go_at_call 63
                  rw [HCA.out]
                  refine (impl_countAt_calls s (a + 1) 60 _ (by omega) hs (by omega)).mono ?_
                  rw [HRR.out]
                  rintro e w' ⟨rfl, rfl⟩
                  simp only [cntRes, if_true]
                  have hcb : ((a + 1 + u : Nat) : Int) = (a : Int) + 1 + (u : Int) := by omega
                  rw [hcb]
                  clear hcb
                  go_wp2
                  go_ret3
                  exact ⟨ret_bulk HR.out (rfl) (by simp; omega) rfl, rfl⟩
                · have hyb : ((y : Int) != 10) = true := bne_iff_ne.mpr (by omega)
                  have HR : Hid (bulkB (tail_ s a) = ([], 0, 2)) := by rw [Hid, HBA.out, if_pos (.inr ⟨hl1, by rw [hry]; exact fun e => h10 ((ofNat_eq hyy 10 rfl).1 (Option.some.inj e))⟩)]
                  clear hrx hry hrx' hxx hyy
                  go_enter Tryd.func64, Tryd.ntmps64
                  go_wp2_with fail
                  go_at_call 63
                  rw [HCA.out]
                  refine (impl_countAt_calls s (a + 1) 60 _ (by omega) hs (by omega)).mono ?_
                  rw [HRR.out]
                  rintro e w' ⟨rfl, rfl⟩
                  simp only [cntRes, if_true]
                  have hcb : ((a + 1 + u : Nat) : Int) = (a : Int) + 1 + (u : Int) := by omega
                  rw [hcb]
                  clear hcb
                  go_wp2
                  go_ret3
                  exact ⟨ret_bulk HR.out (rfl) (by simp) rfl, rfl⟩
              · have hc1 : ¬ (n : Int) + 1 < (r.length : Int) := by omega
                have hc2 : (n : Int) < (r.length : Int) := by omega
                have hfr : (r.length : Int) < (n : Int) + 2 := by omega
                have HR : Hid (bulkB (tail_ s a) = ([], 0, 0)) := by rw [Hid, HBA.out, if_neg (by rw [hrx']; simp; omega), if_pos (by omega)]
                clear hrx hrx' hxx
                go_enter Tryd.func64, Tryd.ntmps64
                go_wp2_with fail
                go_at_call 63
                rw [HCA.out]
                refine (impl_countAt_calls s (a + 1) 60 _ (by omega) hs (by omega)).mono ?_
                rw [HRR.out]
                rintro e w' ⟨rfl, rfl⟩
                simp only [cntRes, if_true]
                have hcb : ((a + 1 + u : Nat) : Int) = (a : Int) + 1 + (u : Int) := by omega
                rw [hcb]
                clear hcb
                go_wp2
                go_ret3
                exact ⟨ret_bulk HR.out (rfl) (by simp) rfl, rfl⟩
            · have hxb : ((x : Int) != 13) = true := bne_iff_ne.mpr (by omega)
              have hc2 : (n : Int) < (r.length : Int) := by omega
              have HR : Hid (bulkB (tail_ s a) = ([], 0, 2)) := by rw [Hid, HBA.out, if_pos (.inl ⟨hl0, by rw [hrx]; exact fun e => h13 ((ofNat_eq hxx 13 rfl).1 (Option.some.inj e))⟩)]
              clear hrx hxx
              go_enter Tryd.func64, Tryd.ntmps64
              go_wp2_with fail
              go_at_call 63
              rw [HCA.out]
              refine (impl_countAt_calls s (a + 1) 60 _ (by omega) hs (by omega)).mono ?_
              rw [HRR.out]
              rintro e w' ⟨rfl, rfl⟩
              simp only [cntRes, if_true]
              have hcb : ((a + 1 + u : Nat) : Int) = (a : Int) + 1 + (u : Int) := by omega
              rw [hcb]
              clear hcb
              go_wp2
              go_ret3
              exact ⟨ret_bulk HR.out (rfl) (by simp) rfl, rfl⟩
          · have hc1 : ¬ (n : Int) + 1 < (r.length : Int) := by omega
            have hc2 : ¬ (n : Int) < (r.length : Int) := by omega
            have hfr : (r.length : Int) < (n : Int) + 2 := by omega
            have HR : Hid (bulkB (tail_ s a) = ([], 0, 0)) := by rw [Hid, HBA.out, if_neg (by omega), if_pos (by omega)]
            go_enter Tryd.func64, Tryd.ntmps64
            go_wp2_with fail
            go_at_call 63
            rw [HCA.out]
            refine (impl_countAt_calls s (a + 1) 60 _ (by omega) hs (by omega)).mono ?_
            rw [HRR.out]
            rintro e w' ⟨rfl, rfl⟩
            simp only [cntRes, if_true]
            have hcb : ((a + 1 + u : Nat) : Int) = (a : Int) + 1 + (u : Int) := by omega
            rw [hcb]
            clear hcb
            go_wp2
            go_ret3
            exact ⟨ret_bulk HR.out (rfl) (by simp) rfl, rfl⟩
          -- END CASES
        · have HB := Lib.hid (bulkB_num hhd (by rw [hnum, hr]; exact h1))
          have HRR := Lib.hid hr
          have hh1 : ((h : Int) != 1) = true := bne_iff_ne.mpr (by omega)
          have HQ : Hid (bulkB (tail_ s a) = ([], 0, h)) := by rw [Hid, HB.out, hnum, hr]
          clear hr hnum hhd
          go_enter Tryd.func64, Tryd.ntmps64
          go_wp2_with fail
          go_at_call 63
          rw [show ((a : Int) + 1) = ((a + 1 : Nat) : Int) by omega]
          refine (impl_countAt_calls s (a + 1) 60 _ (by omega) hs (by omega)).mono ?_
          rw [HRR.out]
          rintro e w' ⟨rfl, rfl⟩
          simp only [cntRes, if_neg h1]
          go_wp2
          go_ret3
          exact ⟨ret_bulk HQ.out rfl (by rw [if_neg h1]) rfl, rfl⟩
    · have hdb : ((d : Int) != 36) = true := bne_iff_ne.mpr (by omega)
      have HR := Lib.hid (bulkB_other (l := tail_ s a) (by intro e; rw [e] at hc; simp at hc) (by rw [hc]; exact fun e => h36 ((ofNat_eq hcd 36 rfl).1 (Option.some.inj e))))
      clear hc hcd hsd
      go_enter Tryd.func64, Tryd.ntmps64
      go_wp2
      go_ret3
      exact ⟨ret_bulk HR.out rfl (by simp) rfl, rfl⟩
  · have hke : ((a : Int) == (s.size : Int)) = true := beq_iff_eq.mpr (by omega)
    have HR : Hid (bulkB (tail_ s a) = ([], 0, 0)) := by rw [Hid, tail_empty (by omega)]; exact bulkB_nil
    go_enter Tryd.func64, Tryd.ntmps64
    go_wp2
    go_ret3
    exact ⟨ret_bulk HR.out rfl (by simp) rfl, rfl⟩
end Go.Proofs.YtanpkomifhbhnaaDoor
