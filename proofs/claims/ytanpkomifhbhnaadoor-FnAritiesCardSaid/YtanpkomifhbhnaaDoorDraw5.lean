/- The draws: the arguments behind the key. -/
import Derived.Test.YtanpkomifhbhnaaDoorDraw4
import Derived.Test.YtanpkomifhbhnaaDoorNum
namespace Go.Proofs.YtanpkomifhbhnaaDoor
set_option linter.unusedVariables false
set_option linter.unusedSimpArgs false
open Go.RowKit
attribute [local go_sem] bs_size List.length_cons List.length_nil List.length_append

/-- A row of at most k short texts, drawn. -/
def RowPost (w : World) (g k : Nat) (e : Ending) (w' : World) : Prop := ∃ b c xs, e = .returned (.slice (some ⟨b, 0, none⟩) xs.length c) ∧ OwnS w' w.heap.size (.slice (some ⟨b, 0, none⟩) xs.length c) xs ∧ xs.length ≤ k ∧ (∀ x ∈ xs, x.size ≤ 60) ∧ Drawn w g w'
theorem ownS_lit {w wr : World} {B : Nat} (hB : B ≤ wr.heap.size) (cs : Array Value) (ws : List ByteArray) (e : cs = (ws.map Value.string).toArray) (hl : ws.length ≤ 1000) :
    OwnS (wr.alloc (.cells cs 9)) B (.slice (some ⟨wr.heap.size, 0, none⟩) ws.length ws.length) ws := by
  subst e
  refine ⟨by simp, .inr ⟨wr.heap.size, ws.length, _, rfl, hB, heap_alloc_new wr _, Nat.le_refl _, by unfold maxLen; omega, by simp, by simp [List.take_of_length_le]⟩⟩
theorem rowPost_lit {w wr : World} {g k : Nat} (ws : List ByteArray) {n c : Nat} {cs : Array Value} (hd : Drawn w g wr) (hl : g < w.heap.size) (e : cs = (ws.map Value.string).toArray) (hn : n = ws.length) (hc : c = ws.length) (hk : ws.length ≤ k) (hk2 : k ≤ 1000) (hs : ∀ x ∈ ws, x.size ≤ 60) :
    RowPost w g k (.returned (.slice (some ⟨wr.heap.size, 0, none⟩) n c)) (wr.alloc (.cells cs 9)) := by
  subst hn hc
  exact ⟨_, _, ws, rfl, ownS_lit (w := w) hd.2.size cs ws e (by omega), hk, hs, hd.alloc' hl _⟩
/-- 'append' of a row of texts (there may be none) to a row of the call's own. -/
theorem wpList_appS {ops : Array Oper} {rest : List Oper} {o : Oper} {a : Act} {w : World} {Q : Exit → Act → World → Prop} (hgd : o.guard = none) (sl x : Operand)
    (ho : o.op = .call { callee := .builtin .append, args := #[sl, x], argTypes := #[22, 22] }) (B b cc : Nat) (xs ws : List ByteArray) (hs : a.eval sl = .slice (some ⟨b, 0, none⟩) xs.length cc) (hown : OwnS w B (.slice (some ⟨b, 0, none⟩) xs.length cc) xs)
    (ad : Addr) (m c : Nat) (hx : a.eval x = .slice (some ad) m c) (hm : m = ws.length) (hnews : ∀ j u, (ws.map Value.string)[j]? = some u → w.cell? (ad.add j) = some u) (hlen : xs.length + ws.length ≤ 100000) (hbase : B ≤ w.heap.size)
    (h : ∀ g cap w', OwnS w' B (.slice (some ⟨g, 0, none⟩) (xs ++ ws).length cap) (xs ++ ws) → w.grownBy w' (some b) → wpList Tryd.prog ops Q rest (a.put o.dst (.slice (some ⟨g, 0, none⟩) (xs ++ ws).length cap)) w') :
    wpList Tryd.prog ops Q (o :: rest) a w := by
  obtain ⟨i0, hi, hz, hsz, hby⟩ := info_parts info_str
  subst hm
  refine wpList_append_own (P := Tryd.prog) w hgd sl x 22 ho B 9 i0 (.string ByteArray.empty) 1 16 Tryd.underlying22 hi hz hsz hby rfl (by omega) _ xs.length (xs.map Value.string) hs hown ad ws.length c (ws.map Value.string) hx (by simp) hnews (by intro u hu; obtain ⟨y, _, rfl⟩ := List.mem_map.1 hu; rfl) (by unfold maxLen; omega) (by omega) hbase ?_
  intro v' w' hown' hgrow hiff
  have ho' : OwnS w' B v' (xs ++ ws) := by
    unfold OwnS
    rw [List.map_append, List.length_append]
    exact hown'
  obtain ⟨A, cap, rfl⟩ := ho'.form
  cases A with
  | none =>
    exfalso
    rcases ho'.2 with ⟨e, h0⟩ | ⟨g, c2, cur, e, _⟩
    · have := (hiff.1 e).1
      cases this
    · cases e
  | some ad' =>
    rcases ho'.2 with ⟨e, h0⟩ | ⟨g, c2, cur, e, _⟩
    · cases e
    · injection e with e1 e2 e3
      obtain rfl := Option.some.inj e1
      exact h g cap w' ho' hgrow
theorem itoa_small (n : Int) (h : -100 ≤ n ∧ n ≤ 100) : (bs (Lib.itoa n)).size ≤ 31 := by
  rw [bs_size]
  have := itoa_len n (by omega) (by omega)
  omega
set_option maxHeartbeats 8000000 in
set_option maxRecDepth 100000 in
theorem rest0 (g : Nat) (s : ByteArray) (w : World) (h : Cu w g) (c0 : (s.toList == [83, 69, 84]) = true) :
    Calls Tryd.prog 97 #[.pointer (some ⟨g, 0, none⟩), .string s] w (RowPost w g 4) := by
  have HC := Lib.hid h
  have HL := Lib.hid h.lt
  clear h
  go_enter Tryd.func97, Tryd.ntmps97
  go_wp2_with fail
  go_at_call 94
  refine (pick_lit g _ _ 20 _ _ HC.out (by kernel_rfl) (by rfl) (by rfl)).mono ?_
  rintro e w1 ⟨fld, rfl, hfld, hd⟩
  have HD1 := Lib.hid hd
  clear hd
  go_wp2_with fail
  go_at_call 71
  refine (spec_l01Below_calls g 12 _ HD1.out.1 (by omega)).mono ?_
  rintro e w2 ⟨x, rfl, hx0, hx1, _, hd⟩
  have hx1 := hx1 (by omega)
  have HD2 := Lib.hid (HD1.out.trans hd)
  clear hd
  go_wp2_with fail
  go_at_call 39
  refine (spec_Decimal_calls (x - 4) _ (by omega) (by omega)).mono ?_
  rintro e w3 ⟨rfl, hb⟩
  have HD3 := Lib.hid (HD2.out.below HL.out hb)
  have hnum := itoa_small (x - 4) (by omega)
  clear hb
  generalize bs (Lib.itoa (x - 4)) = num at hnum ⊢
  go_wp2_with (first
    | (go_at_call 95; refine (spec_l10Word_calls g _ HD3.out.1).mono ?_; rintro e w4 ⟨y, rfl, hy, hd4⟩; have HD4 := Lib.hid (HD3.out.trans hd4); clear hd4)
    | (go_at_call 93; refine (spec_l01Once_calls g 12 _ HD3.out.1 (by omega)).mono ?_; rintro e w4 ⟨b4, rfl, hd4⟩; have HD4 := Lib.hid (HD3.out.trans hd4); clear hd4)
    | (go_at_call 94; refine (pick_lit g _ _ 20 _ _ HD4.out.1 (by kernel_rfl) (by rfl) (by rfl)).mono ?_; rintro e w5 ⟨z, rfl, hz, hd5⟩; have HD5 := Lib.hid (HD4.out.trans hd5); clear hd5)
    | (go_at_call 71; refine (spec_l01Below_calls g 12 _ HD3.out.1 (by omega)).mono ?_; rintro e w4 ⟨y, rfl, hy0, hy1, _, hd4⟩; have HD4 := Lib.hid (HD3.out.trans hd4); clear hd4; have hy1 := hy1 (by omega))
    | (go_at_call 39; refine (spec_Decimal_calls (y - 4) _ (by omega) (by omega)).mono ?_; rintro e w5 ⟨rfl, hb⟩; have HD5 := Lib.hid (HD4.out.below HL.out hb); clear hb; have hnum2 := itoa_small (y - 4) (by omega)))
  go_ret
  exact rowPost_lit [y] HD4.out HL.out rfl rfl rfl (by simp) (by omega) (by intro q hq; simp at hq; first | (subst hq; omega) | (rcases hq with rfl | rfl <;> omega))
set_option maxHeartbeats 8000000 in
set_option maxRecDepth 100000 in
theorem rest1 (g : Nat) (s : ByteArray) (w : World) (h : Cu w g) (c0 : (s.toList == [83, 69, 84]) = false) (c1 : (s.toList == [83, 69, 84, 78, 88]) = true) :
    Calls Tryd.prog 97 #[.pointer (some ⟨g, 0, none⟩), .string s] w (RowPost w g 4) := by
  have HC := Lib.hid h
  have HL := Lib.hid h.lt
  clear h
  go_enter Tryd.func97, Tryd.ntmps97
  go_wp2_with fail
  go_at_call 94
  refine (pick_lit g _ _ 20 _ _ HC.out (by kernel_rfl) (by rfl) (by rfl)).mono ?_
  rintro e w1 ⟨fld, rfl, hfld, hd⟩
  have HD1 := Lib.hid hd
  clear hd
  go_wp2_with fail
  go_at_call 71
  refine (spec_l01Below_calls g 12 _ HD1.out.1 (by omega)).mono ?_
  rintro e w2 ⟨x, rfl, hx0, hx1, _, hd⟩
  have hx1 := hx1 (by omega)
  have HD2 := Lib.hid (HD1.out.trans hd)
  clear hd
  go_wp2_with fail
  go_at_call 39
  refine (spec_Decimal_calls (x - 4) _ (by omega) (by omega)).mono ?_
  rintro e w3 ⟨rfl, hb⟩
  have HD3 := Lib.hid (HD2.out.below HL.out hb)
  have hnum := itoa_small (x - 4) (by omega)
  clear hb
  generalize bs (Lib.itoa (x - 4)) = num at hnum ⊢
  go_wp2_with (first
    | (go_at_call 95; refine (spec_l10Word_calls g _ HD3.out.1).mono ?_; rintro e w4 ⟨y, rfl, hy, hd4⟩; have HD4 := Lib.hid (HD3.out.trans hd4); clear hd4)
    | (go_at_call 93; refine (spec_l01Once_calls g 12 _ HD3.out.1 (by omega)).mono ?_; rintro e w4 ⟨b4, rfl, hd4⟩; have HD4 := Lib.hid (HD3.out.trans hd4); clear hd4)
    | (go_at_call 94; refine (pick_lit g _ _ 20 _ _ HD4.out.1 (by kernel_rfl) (by rfl) (by rfl)).mono ?_; rintro e w5 ⟨z, rfl, hz, hd5⟩; have HD5 := Lib.hid (HD4.out.trans hd5); clear hd5)
    | (go_at_call 71; refine (spec_l01Below_calls g 12 _ HD3.out.1 (by omega)).mono ?_; rintro e w4 ⟨y, rfl, hy0, hy1, _, hd4⟩; have HD4 := Lib.hid (HD3.out.trans hd4); clear hd4; have hy1 := hy1 (by omega))
    | (go_at_call 39; refine (spec_Decimal_calls (y - 4) _ (by omega) (by omega)).mono ?_; rintro e w5 ⟨rfl, hb⟩; have HD5 := Lib.hid (HD4.out.below HL.out hb); clear hb; have hnum2 := itoa_small (y - 4) (by omega)))
  go_ret
  exact rowPost_lit [y] HD4.out HL.out rfl rfl rfl (by simp) (by omega) (by intro q hq; simp at hq; first | (subst hq; omega) | (rcases hq with rfl | rfl <;> omega))
set_option maxHeartbeats 8000000 in
set_option maxRecDepth 100000 in
theorem rest2 (g : Nat) (s : ByteArray) (w : World) (h : Cu w g) (c0 : (s.toList == [83, 69, 84]) = false) (c1 : (s.toList == [83, 69, 84, 78, 88]) = false) (c2 : (s.toList == [71, 69, 84, 83, 69, 84]) = true) :
    Calls Tryd.prog 97 #[.pointer (some ⟨g, 0, none⟩), .string s] w (RowPost w g 4) := by
  have HC := Lib.hid h
  have HL := Lib.hid h.lt
  clear h
  go_enter Tryd.func97, Tryd.ntmps97
  go_wp2_with fail
  go_at_call 94
  refine (pick_lit g _ _ 20 _ _ HC.out (by kernel_rfl) (by rfl) (by rfl)).mono ?_
  rintro e w1 ⟨fld, rfl, hfld, hd⟩
  have HD1 := Lib.hid hd
  clear hd
  go_wp2_with fail
  go_at_call 71
  refine (spec_l01Below_calls g 12 _ HD1.out.1 (by omega)).mono ?_
  rintro e w2 ⟨x, rfl, hx0, hx1, _, hd⟩
  have hx1 := hx1 (by omega)
  have HD2 := Lib.hid (HD1.out.trans hd)
  clear hd
  go_wp2_with fail
  go_at_call 39
  refine (spec_Decimal_calls (x - 4) _ (by omega) (by omega)).mono ?_
  rintro e w3 ⟨rfl, hb⟩
  have HD3 := Lib.hid (HD2.out.below HL.out hb)
  have hnum := itoa_small (x - 4) (by omega)
  clear hb
  generalize bs (Lib.itoa (x - 4)) = num at hnum ⊢
  go_wp2_with (first
    | (go_at_call 95; refine (spec_l10Word_calls g _ HD3.out.1).mono ?_; rintro e w4 ⟨y, rfl, hy, hd4⟩; have HD4 := Lib.hid (HD3.out.trans hd4); clear hd4)
    | (go_at_call 93; refine (spec_l01Once_calls g 12 _ HD3.out.1 (by omega)).mono ?_; rintro e w4 ⟨b4, rfl, hd4⟩; have HD4 := Lib.hid (HD3.out.trans hd4); clear hd4)
    | (go_at_call 94; refine (pick_lit g _ _ 20 _ _ HD4.out.1 (by kernel_rfl) (by rfl) (by rfl)).mono ?_; rintro e w5 ⟨z, rfl, hz, hd5⟩; have HD5 := Lib.hid (HD4.out.trans hd5); clear hd5)
    | (go_at_call 71; refine (spec_l01Below_calls g 12 _ HD3.out.1 (by omega)).mono ?_; rintro e w4 ⟨y, rfl, hy0, hy1, _, hd4⟩; have HD4 := Lib.hid (HD3.out.trans hd4); clear hd4; have hy1 := hy1 (by omega))
    | (go_at_call 39; refine (spec_Decimal_calls (y - 4) _ (by omega) (by omega)).mono ?_; rintro e w5 ⟨rfl, hb⟩; have HD5 := Lib.hid (HD4.out.below HL.out hb); clear hb; have hnum2 := itoa_small (y - 4) (by omega)))
  go_ret
  exact rowPost_lit [y] HD4.out HL.out rfl rfl rfl (by simp) (by omega) (by intro q hq; simp at hq; first | (subst hq; omega) | (rcases hq with rfl | rfl <;> omega))
set_option maxHeartbeats 8000000 in
set_option maxRecDepth 100000 in
theorem rest3 (g : Nat) (s : ByteArray) (w : World) (h : Cu w g) (c0 : (s.toList == [83, 69, 84]) = false) (c1 : (s.toList == [83, 69, 84, 78, 88]) = false) (c2 : (s.toList == [71, 69, 84, 83, 69, 84]) = false) (c3 : (s.toList == [65, 80, 80, 69, 78, 68]) = true) :
    Calls Tryd.prog 97 #[.pointer (some ⟨g, 0, none⟩), .string s] w (RowPost w g 4) := by
  have HC := Lib.hid h
  have HL := Lib.hid h.lt
  clear h
  go_enter Tryd.func97, Tryd.ntmps97
  go_wp2_with fail
  go_at_call 94
  refine (pick_lit g _ _ 20 _ _ HC.out (by kernel_rfl) (by rfl) (by rfl)).mono ?_
  rintro e w1 ⟨fld, rfl, hfld, hd⟩
  have HD1 := Lib.hid hd
  clear hd
  go_wp2_with fail
  go_at_call 71
  refine (spec_l01Below_calls g 12 _ HD1.out.1 (by omega)).mono ?_
  rintro e w2 ⟨x, rfl, hx0, hx1, _, hd⟩
  have hx1 := hx1 (by omega)
  have HD2 := Lib.hid (HD1.out.trans hd)
  clear hd
  go_wp2_with fail
  go_at_call 39
  refine (spec_Decimal_calls (x - 4) _ (by omega) (by omega)).mono ?_
  rintro e w3 ⟨rfl, hb⟩
  have HD3 := Lib.hid (HD2.out.below HL.out hb)
  have hnum := itoa_small (x - 4) (by omega)
  clear hb
  generalize bs (Lib.itoa (x - 4)) = num at hnum ⊢
  go_wp2_with (first
    | (go_at_call 95; refine (spec_l10Word_calls g _ HD3.out.1).mono ?_; rintro e w4 ⟨y, rfl, hy, hd4⟩; have HD4 := Lib.hid (HD3.out.trans hd4); clear hd4)
    | (go_at_call 93; refine (spec_l01Once_calls g 12 _ HD3.out.1 (by omega)).mono ?_; rintro e w4 ⟨b4, rfl, hd4⟩; have HD4 := Lib.hid (HD3.out.trans hd4); clear hd4)
    | (go_at_call 94; refine (pick_lit g _ _ 20 _ _ HD4.out.1 (by kernel_rfl) (by rfl) (by rfl)).mono ?_; rintro e w5 ⟨z, rfl, hz, hd5⟩; have HD5 := Lib.hid (HD4.out.trans hd5); clear hd5)
    | (go_at_call 71; refine (spec_l01Below_calls g 12 _ HD3.out.1 (by omega)).mono ?_; rintro e w4 ⟨y, rfl, hy0, hy1, _, hd4⟩; have HD4 := Lib.hid (HD3.out.trans hd4); clear hd4; have hy1 := hy1 (by omega))
    | (go_at_call 39; refine (spec_Decimal_calls (y - 4) _ (by omega) (by omega)).mono ?_; rintro e w5 ⟨rfl, hb⟩; have HD5 := Lib.hid (HD4.out.below HL.out hb); clear hb; have hnum2 := itoa_small (y - 4) (by omega)))
  go_ret
  exact rowPost_lit [y] HD4.out HL.out rfl rfl rfl (by simp) (by omega) (by intro q hq; simp at hq; first | (subst hq; omega) | (rcases hq with rfl | rfl <;> omega))
set_option maxHeartbeats 8000000 in
set_option maxRecDepth 100000 in
theorem rest4 (g : Nat) (s : ByteArray) (w : World) (h : Cu w g) (c0 : (s.toList == [83, 69, 84]) = false) (c1 : (s.toList == [83, 69, 84, 78, 88]) = false) (c2 : (s.toList == [71, 69, 84, 83, 69, 84]) = false) (c3 : (s.toList == [65, 80, 80, 69, 78, 68]) = false) (c4 : (s.toList == [73, 78, 67, 82, 66, 89]) = true) :
    Calls Tryd.prog 97 #[.pointer (some ⟨g, 0, none⟩), .string s] w (RowPost w g 4) := by
  have HC := Lib.hid h
  have HL := Lib.hid h.lt
  clear h
  go_enter Tryd.func97, Tryd.ntmps97
  go_wp2_with fail
  go_at_call 94
  refine (pick_lit g _ _ 20 _ _ HC.out (by kernel_rfl) (by rfl) (by rfl)).mono ?_
  rintro e w1 ⟨fld, rfl, hfld, hd⟩
  have HD1 := Lib.hid hd
  clear hd
  go_wp2_with fail
  go_at_call 71
  refine (spec_l01Below_calls g 12 _ HD1.out.1 (by omega)).mono ?_
  rintro e w2 ⟨x, rfl, hx0, hx1, _, hd⟩
  have hx1 := hx1 (by omega)
  have HD2 := Lib.hid (HD1.out.trans hd)
  clear hd
  go_wp2_with fail
  go_at_call 39
  refine (spec_Decimal_calls (x - 4) _ (by omega) (by omega)).mono ?_
  rintro e w3 ⟨rfl, hb⟩
  have HD3 := Lib.hid (HD2.out.below HL.out hb)
  have hnum := itoa_small (x - 4) (by omega)
  clear hb
  generalize bs (Lib.itoa (x - 4)) = num at hnum ⊢
  go_wp2_with (first
    | (go_at_call 95; refine (spec_l10Word_calls g _ HD3.out.1).mono ?_; rintro e w4 ⟨y, rfl, hy, hd4⟩; have HD4 := Lib.hid (HD3.out.trans hd4); clear hd4)
    | (go_at_call 93; refine (spec_l01Once_calls g 12 _ HD3.out.1 (by omega)).mono ?_; rintro e w4 ⟨b4, rfl, hd4⟩; have HD4 := Lib.hid (HD3.out.trans hd4); clear hd4)
    | (go_at_call 94; refine (pick_lit g _ _ 20 _ _ HD4.out.1 (by kernel_rfl) (by rfl) (by rfl)).mono ?_; rintro e w5 ⟨z, rfl, hz, hd5⟩; have HD5 := Lib.hid (HD4.out.trans hd5); clear hd5)
    | (go_at_call 71; refine (spec_l01Below_calls g 12 _ HD3.out.1 (by omega)).mono ?_; rintro e w4 ⟨y, rfl, hy0, hy1, _, hd4⟩; have HD4 := Lib.hid (HD3.out.trans hd4); clear hd4; have hy1 := hy1 (by omega))
    | (go_at_call 39; refine (spec_Decimal_calls (y - 4) _ (by omega) (by omega)).mono ?_; rintro e w5 ⟨rfl, hb⟩; have HD5 := Lib.hid (HD4.out.below HL.out hb); clear hb; have hnum2 := itoa_small (y - 4) (by omega)))
  all_goals go_ret
  all_goals first | exact rowPost_lit [z] HD5.out HL.out rfl rfl rfl (by simp) (by omega) (by intro q hq; simp at hq; first | (subst hq; omega) | (rcases hq with rfl | rfl <;> omega)) | exact rowPost_lit [num] HD4.out HL.out rfl rfl rfl (by simp) (by omega) (by intro q hq; simp at hq; first | (subst hq; omega) | (rcases hq with rfl | rfl <;> omega))
set_option maxHeartbeats 8000000 in
set_option maxRecDepth 100000 in
theorem rest5 (g : Nat) (s : ByteArray) (w : World) (h : Cu w g) (c0 : (s.toList == [83, 69, 84]) = false) (c1 : (s.toList == [83, 69, 84, 78, 88]) = false) (c2 : (s.toList == [71, 69, 84, 83, 69, 84]) = false) (c3 : (s.toList == [65, 80, 80, 69, 78, 68]) = false) (c4 : (s.toList == [73, 78, 67, 82, 66, 89]) = false) (c5 : (s.toList == [68, 69, 67, 82, 66, 89]) = true) :
    Calls Tryd.prog 97 #[.pointer (some ⟨g, 0, none⟩), .string s] w (RowPost w g 4) := by
  have HC := Lib.hid h
  have HL := Lib.hid h.lt
  clear h
  go_enter Tryd.func97, Tryd.ntmps97
  go_wp2_with fail
  go_at_call 94
  refine (pick_lit g _ _ 20 _ _ HC.out (by kernel_rfl) (by rfl) (by rfl)).mono ?_
  rintro e w1 ⟨fld, rfl, hfld, hd⟩
  have HD1 := Lib.hid hd
  clear hd
  go_wp2_with fail
  go_at_call 71
  refine (spec_l01Below_calls g 12 _ HD1.out.1 (by omega)).mono ?_
  rintro e w2 ⟨x, rfl, hx0, hx1, _, hd⟩
  have hx1 := hx1 (by omega)
  have HD2 := Lib.hid (HD1.out.trans hd)
  clear hd
  go_wp2_with fail
  go_at_call 39
  refine (spec_Decimal_calls (x - 4) _ (by omega) (by omega)).mono ?_
  rintro e w3 ⟨rfl, hb⟩
  have HD3 := Lib.hid (HD2.out.below HL.out hb)
  have hnum := itoa_small (x - 4) (by omega)
  clear hb
  generalize bs (Lib.itoa (x - 4)) = num at hnum ⊢
  go_wp2_with (first
    | (go_at_call 95; refine (spec_l10Word_calls g _ HD3.out.1).mono ?_; rintro e w4 ⟨y, rfl, hy, hd4⟩; have HD4 := Lib.hid (HD3.out.trans hd4); clear hd4)
    | (go_at_call 93; refine (spec_l01Once_calls g 12 _ HD3.out.1 (by omega)).mono ?_; rintro e w4 ⟨b4, rfl, hd4⟩; have HD4 := Lib.hid (HD3.out.trans hd4); clear hd4)
    | (go_at_call 94; refine (pick_lit g _ _ 20 _ _ HD4.out.1 (by kernel_rfl) (by rfl) (by rfl)).mono ?_; rintro e w5 ⟨z, rfl, hz, hd5⟩; have HD5 := Lib.hid (HD4.out.trans hd5); clear hd5)
    | (go_at_call 71; refine (spec_l01Below_calls g 12 _ HD3.out.1 (by omega)).mono ?_; rintro e w4 ⟨y, rfl, hy0, hy1, _, hd4⟩; have HD4 := Lib.hid (HD3.out.trans hd4); clear hd4; have hy1 := hy1 (by omega))
    | (go_at_call 39; refine (spec_Decimal_calls (y - 4) _ (by omega) (by omega)).mono ?_; rintro e w5 ⟨rfl, hb⟩; have HD5 := Lib.hid (HD4.out.below HL.out hb); clear hb; have hnum2 := itoa_small (y - 4) (by omega)))
  all_goals go_ret
  all_goals first | exact rowPost_lit [z] HD5.out HL.out rfl rfl rfl (by simp) (by omega) (by intro q hq; simp at hq; first | (subst hq; omega) | (rcases hq with rfl | rfl <;> omega)) | exact rowPost_lit [num] HD4.out HL.out rfl rfl rfl (by simp) (by omega) (by intro q hq; simp at hq; first | (subst hq; omega) | (rcases hq with rfl | rfl <;> omega))
set_option maxHeartbeats 8000000 in
set_option maxRecDepth 100000 in
theorem rest6 (g : Nat) (s : ByteArray) (w : World) (h : Cu w g) (c0 : (s.toList == [83, 69, 84]) = false) (c1 : (s.toList == [83, 69, 84, 78, 88]) = false) (c2 : (s.toList == [71, 69, 84, 83, 69, 84]) = false) (c3 : (s.toList == [65, 80, 80, 69, 78, 68]) = false) (c4 : (s.toList == [73, 78, 67, 82, 66, 89]) = false) (c5 : (s.toList == [68, 69, 67, 82, 66, 89]) = false) (c6 : (s.toList == [76, 73, 78, 68, 69, 88]) = true) :
    Calls Tryd.prog 97 #[.pointer (some ⟨g, 0, none⟩), .string s] w (RowPost w g 4) := by
  have HC := Lib.hid h
  have HL := Lib.hid h.lt
  clear h
  go_enter Tryd.func97, Tryd.ntmps97
  go_wp2_with fail
  go_at_call 94
  refine (pick_lit g _ _ 20 _ _ HC.out (by kernel_rfl) (by rfl) (by rfl)).mono ?_
  rintro e w1 ⟨fld, rfl, hfld, hd⟩
  have HD1 := Lib.hid hd
  clear hd
  go_wp2_with fail
  go_at_call 71
  refine (spec_l01Below_calls g 12 _ HD1.out.1 (by omega)).mono ?_
  rintro e w2 ⟨x, rfl, hx0, hx1, _, hd⟩
  have hx1 := hx1 (by omega)
  have HD2 := Lib.hid (HD1.out.trans hd)
  clear hd
  go_wp2_with fail
  go_at_call 39
  refine (spec_Decimal_calls (x - 4) _ (by omega) (by omega)).mono ?_
  rintro e w3 ⟨rfl, hb⟩
  have HD3 := Lib.hid (HD2.out.below HL.out hb)
  have hnum := itoa_small (x - 4) (by omega)
  clear hb
  generalize bs (Lib.itoa (x - 4)) = num at hnum ⊢
  go_wp2_with (first
    | (go_at_call 95; refine (spec_l10Word_calls g _ HD3.out.1).mono ?_; rintro e w4 ⟨y, rfl, hy, hd4⟩; have HD4 := Lib.hid (HD3.out.trans hd4); clear hd4)
    | (go_at_call 93; refine (spec_l01Once_calls g 12 _ HD3.out.1 (by omega)).mono ?_; rintro e w4 ⟨b4, rfl, hd4⟩; have HD4 := Lib.hid (HD3.out.trans hd4); clear hd4)
    | (go_at_call 94; refine (pick_lit g _ _ 20 _ _ HD4.out.1 (by kernel_rfl) (by rfl) (by rfl)).mono ?_; rintro e w5 ⟨z, rfl, hz, hd5⟩; have HD5 := Lib.hid (HD4.out.trans hd5); clear hd5)
    | (go_at_call 71; refine (spec_l01Below_calls g 12 _ HD3.out.1 (by omega)).mono ?_; rintro e w4 ⟨y, rfl, hy0, hy1, _, hd4⟩; have HD4 := Lib.hid (HD3.out.trans hd4); clear hd4; have hy1 := hy1 (by omega))
    | (go_at_call 39; refine (spec_Decimal_calls (y - 4) _ (by omega) (by omega)).mono ?_; rintro e w5 ⟨rfl, hb⟩; have HD5 := Lib.hid (HD4.out.below HL.out hb); clear hb; have hnum2 := itoa_small (y - 4) (by omega)))
  all_goals go_ret
  all_goals first | exact rowPost_lit [z] HD5.out HL.out rfl rfl rfl (by simp) (by omega) (by intro q hq; simp at hq; first | (subst hq; omega) | (rcases hq with rfl | rfl <;> omega)) | exact rowPost_lit [num] HD4.out HL.out rfl rfl rfl (by simp) (by omega) (by intro q hq; simp at hq; first | (subst hq; omega) | (rcases hq with rfl | rfl <;> omega))
set_option maxHeartbeats 8000000 in
set_option maxRecDepth 100000 in
theorem rest7 (g : Nat) (s : ByteArray) (w : World) (h : Cu w g) (c0 : (s.toList == [83, 69, 84]) = false) (c1 : (s.toList == [83, 69, 84, 78, 88]) = false) (c2 : (s.toList == [71, 69, 84, 83, 69, 84]) = false) (c3 : (s.toList == [65, 80, 80, 69, 78, 68]) = false) (c4 : (s.toList == [73, 78, 67, 82, 66, 89]) = false) (c5 : (s.toList == [68, 69, 67, 82, 66, 89]) = false) (c6 : (s.toList == [76, 73, 78, 68, 69, 88]) = false) (c7 : (s.toList == [69, 88, 80, 73, 82, 69]) = true) :
    Calls Tryd.prog 97 #[.pointer (some ⟨g, 0, none⟩), .string s] w (RowPost w g 4) := by
  have HC := Lib.hid h
  have HL := Lib.hid h.lt
  clear h
  go_enter Tryd.func97, Tryd.ntmps97
  go_wp2_with fail
  go_at_call 94
  refine (pick_lit g _ _ 20 _ _ HC.out (by kernel_rfl) (by rfl) (by rfl)).mono ?_
  rintro e w1 ⟨fld, rfl, hfld, hd⟩
  have HD1 := Lib.hid hd
  clear hd
  go_wp2_with fail
  go_at_call 71
  refine (spec_l01Below_calls g 12 _ HD1.out.1 (by omega)).mono ?_
  rintro e w2 ⟨x, rfl, hx0, hx1, _, hd⟩
  have hx1 := hx1 (by omega)
  have HD2 := Lib.hid (HD1.out.trans hd)
  clear hd
  go_wp2_with fail
  go_at_call 39
  refine (spec_Decimal_calls (x - 4) _ (by omega) (by omega)).mono ?_
  rintro e w3 ⟨rfl, hb⟩
  have HD3 := Lib.hid (HD2.out.below HL.out hb)
  have hnum := itoa_small (x - 4) (by omega)
  clear hb
  generalize bs (Lib.itoa (x - 4)) = num at hnum ⊢
  go_wp2_with (first
    | (go_at_call 95; refine (spec_l10Word_calls g _ HD3.out.1).mono ?_; rintro e w4 ⟨y, rfl, hy, hd4⟩; have HD4 := Lib.hid (HD3.out.trans hd4); clear hd4)
    | (go_at_call 93; refine (spec_l01Once_calls g 12 _ HD3.out.1 (by omega)).mono ?_; rintro e w4 ⟨b4, rfl, hd4⟩; have HD4 := Lib.hid (HD3.out.trans hd4); clear hd4)
    | (go_at_call 94; refine (pick_lit g _ _ 20 _ _ HD4.out.1 (by kernel_rfl) (by rfl) (by rfl)).mono ?_; rintro e w5 ⟨z, rfl, hz, hd5⟩; have HD5 := Lib.hid (HD4.out.trans hd5); clear hd5)
    | (go_at_call 71; refine (spec_l01Below_calls g 12 _ HD3.out.1 (by omega)).mono ?_; rintro e w4 ⟨y, rfl, hy0, hy1, _, hd4⟩; have HD4 := Lib.hid (HD3.out.trans hd4); clear hd4; have hy1 := hy1 (by omega))
    | (go_at_call 39; refine (spec_Decimal_calls (y - 4) _ (by omega) (by omega)).mono ?_; rintro e w5 ⟨rfl, hb⟩; have HD5 := Lib.hid (HD4.out.below HL.out hb); clear hb; have hnum2 := itoa_small (y - 4) (by omega)))
  all_goals go_ret
  all_goals first | exact rowPost_lit [z] HD5.out HL.out rfl rfl rfl (by simp) (by omega) (by intro q hq; simp at hq; first | (subst hq; omega) | (rcases hq with rfl | rfl <;> omega)) | exact rowPost_lit [num] HD4.out HL.out rfl rfl rfl (by simp) (by omega) (by intro q hq; simp at hq; first | (subst hq; omega) | (rcases hq with rfl | rfl <;> omega))
set_option maxHeartbeats 8000000 in
set_option maxRecDepth 100000 in
theorem rest8 (g : Nat) (s : ByteArray) (w : World) (h : Cu w g) (c0 : (s.toList == [83, 69, 84]) = false) (c1 : (s.toList == [83, 69, 84, 78, 88]) = false) (c2 : (s.toList == [71, 69, 84, 83, 69, 84]) = false) (c3 : (s.toList == [65, 80, 80, 69, 78, 68]) = false) (c4 : (s.toList == [73, 78, 67, 82, 66, 89]) = false) (c5 : (s.toList == [68, 69, 67, 82, 66, 89]) = false) (c6 : (s.toList == [76, 73, 78, 68, 69, 88]) = false) (c7 : (s.toList == [69, 88, 80, 73, 82, 69]) = false) (c8 : (s.toList == [76, 82, 65, 78, 71, 69]) = true) :
    Calls Tryd.prog 97 #[.pointer (some ⟨g, 0, none⟩), .string s] w (RowPost w g 4) := by
  have HC := Lib.hid h
  have HL := Lib.hid h.lt
  clear h
  go_enter Tryd.func97, Tryd.ntmps97
  go_wp2_with fail
  go_at_call 94
  refine (pick_lit g _ _ 20 _ _ HC.out (by kernel_rfl) (by rfl) (by rfl)).mono ?_
  rintro e w1 ⟨fld, rfl, hfld, hd⟩
  have HD1 := Lib.hid hd
  clear hd
  go_wp2_with fail
  go_at_call 71
  refine (spec_l01Below_calls g 12 _ HD1.out.1 (by omega)).mono ?_
  rintro e w2 ⟨x, rfl, hx0, hx1, _, hd⟩
  have hx1 := hx1 (by omega)
  have HD2 := Lib.hid (HD1.out.trans hd)
  clear hd
  go_wp2_with fail
  go_at_call 39
  refine (spec_Decimal_calls (x - 4) _ (by omega) (by omega)).mono ?_
  rintro e w3 ⟨rfl, hb⟩
  have HD3 := Lib.hid (HD2.out.below HL.out hb)
  have hnum := itoa_small (x - 4) (by omega)
  clear hb
  generalize bs (Lib.itoa (x - 4)) = num at hnum ⊢
  go_wp2_with (first
    | (go_at_call 95; refine (spec_l10Word_calls g _ HD3.out.1).mono ?_; rintro e w4 ⟨y, rfl, hy, hd4⟩; have HD4 := Lib.hid (HD3.out.trans hd4); clear hd4)
    | (go_at_call 93; refine (spec_l01Once_calls g 12 _ HD3.out.1 (by omega)).mono ?_; rintro e w4 ⟨b4, rfl, hd4⟩; have HD4 := Lib.hid (HD3.out.trans hd4); clear hd4)
    | (go_at_call 94; refine (pick_lit g _ _ 20 _ _ HD4.out.1 (by kernel_rfl) (by rfl) (by rfl)).mono ?_; rintro e w5 ⟨z, rfl, hz, hd5⟩; have HD5 := Lib.hid (HD4.out.trans hd5); clear hd5)
    | (go_at_call 71; refine (spec_l01Below_calls g 12 _ HD3.out.1 (by omega)).mono ?_; rintro e w4 ⟨y, rfl, hy0, hy1, _, hd4⟩; have HD4 := Lib.hid (HD3.out.trans hd4); clear hd4; have hy1 := hy1 (by omega))
    | (go_at_call 39; refine (spec_Decimal_calls (y - 4) _ (by omega) (by omega)).mono ?_; rintro e w5 ⟨rfl, hb⟩; have HD5 := Lib.hid (HD4.out.below HL.out hb); clear hb; have hnum2 := itoa_small (y - 4) (by omega)))
  go_ret
  exact rowPost_lit [num, bs (Lib.itoa (y - 4))] HD5.out HL.out rfl rfl rfl (by simp) (by omega) (by intro q hq; simp at hq; first | (subst hq; omega) | (rcases hq with rfl | rfl <;> omega))
set_option maxHeartbeats 8000000 in
set_option maxRecDepth 100000 in
theorem rest9 (g : Nat) (s : ByteArray) (w : World) (h : Cu w g) (c0 : (s.toList == [83, 69, 84]) = false) (c1 : (s.toList == [83, 69, 84, 78, 88]) = false) (c2 : (s.toList == [71, 69, 84, 83, 69, 84]) = false) (c3 : (s.toList == [65, 80, 80, 69, 78, 68]) = false) (c4 : (s.toList == [73, 78, 67, 82, 66, 89]) = false) (c5 : (s.toList == [68, 69, 67, 82, 66, 89]) = false) (c6 : (s.toList == [76, 73, 78, 68, 69, 88]) = false) (c7 : (s.toList == [69, 88, 80, 73, 82, 69]) = false) (c8 : (s.toList == [76, 82, 65, 78, 71, 69]) = false) (c9 : (s.toList == [72, 83, 69, 84]) = true) :
    Calls Tryd.prog 97 #[.pointer (some ⟨g, 0, none⟩), .string s] w (RowPost w g 4) := by
  have HC := Lib.hid h
  have HL := Lib.hid h.lt
  clear h
  go_enter Tryd.func97, Tryd.ntmps97
  go_wp2_with fail
  go_at_call 94
  refine (pick_lit g _ _ 20 _ _ HC.out (by kernel_rfl) (by rfl) (by rfl)).mono ?_
  rintro e w1 ⟨fld, rfl, hfld, hd⟩
  have HD1 := Lib.hid hd
  clear hd
  go_wp2_with fail
  go_at_call 71
  refine (spec_l01Below_calls g 12 _ HD1.out.1 (by omega)).mono ?_
  rintro e w2 ⟨x, rfl, hx0, hx1, _, hd⟩
  have hx1 := hx1 (by omega)
  have HD2 := Lib.hid (HD1.out.trans hd)
  clear hd
  go_wp2_with fail
  go_at_call 39
  refine (spec_Decimal_calls (x - 4) _ (by omega) (by omega)).mono ?_
  rintro e w3 ⟨rfl, hb⟩
  have HD3 := Lib.hid (HD2.out.below HL.out hb)
  have hnum := itoa_small (x - 4) (by omega)
  clear hb
  generalize bs (Lib.itoa (x - 4)) = num at hnum ⊢
  go_wp2_with (first
    | (go_at_call 95; refine (spec_l10Word_calls g _ HD3.out.1).mono ?_; rintro e w4 ⟨y, rfl, hy, hd4⟩; have HD4 := Lib.hid (HD3.out.trans hd4); clear hd4)
    | (go_at_call 93; refine (spec_l01Once_calls g 12 _ HD3.out.1 (by omega)).mono ?_; rintro e w4 ⟨b4, rfl, hd4⟩; have HD4 := Lib.hid (HD3.out.trans hd4); clear hd4)
    | (go_at_call 94; refine (pick_lit g _ _ 20 _ _ HD4.out.1 (by kernel_rfl) (by rfl) (by rfl)).mono ?_; rintro e w5 ⟨z, rfl, hz, hd5⟩; have HD5 := Lib.hid (HD4.out.trans hd5); clear hd5)
    | (go_at_call 71; refine (spec_l01Below_calls g 12 _ HD3.out.1 (by omega)).mono ?_; rintro e w4 ⟨y, rfl, hy0, hy1, _, hd4⟩; have HD4 := Lib.hid (HD3.out.trans hd4); clear hd4; have hy1 := hy1 (by omega))
    | (go_at_call 39; refine (spec_Decimal_calls (y - 4) _ (by omega) (by omega)).mono ?_; rintro e w5 ⟨rfl, hb⟩; have HD5 := Lib.hid (HD4.out.below HL.out hb); clear hb; have hnum2 := itoa_small (y - 4) (by omega)))
  go_ret
  exact rowPost_lit [fld, y] HD4.out HL.out rfl rfl rfl (by simp) (by omega) (by intro q hq; simp at hq; first | (subst hq; omega) | (rcases hq with rfl | rfl <;> omega))
set_option maxHeartbeats 8000000 in
set_option maxRecDepth 100000 in
theorem rest10 (g : Nat) (s : ByteArray) (w : World) (h : Cu w g) (c0 : (s.toList == [83, 69, 84]) = false) (c1 : (s.toList == [83, 69, 84, 78, 88]) = false) (c2 : (s.toList == [71, 69, 84, 83, 69, 84]) = false) (c3 : (s.toList == [65, 80, 80, 69, 78, 68]) = false) (c4 : (s.toList == [73, 78, 67, 82, 66, 89]) = false) (c5 : (s.toList == [68, 69, 67, 82, 66, 89]) = false) (c6 : (s.toList == [76, 73, 78, 68, 69, 88]) = false) (c7 : (s.toList == [69, 88, 80, 73, 82, 69]) = false) (c8 : (s.toList == [76, 82, 65, 78, 71, 69]) = false) (c9 : (s.toList == [72, 83, 69, 84]) = false) (c10 : (s.toList == [72, 71, 69, 84]) = true) :
    Calls Tryd.prog 97 #[.pointer (some ⟨g, 0, none⟩), .string s] w (RowPost w g 4) := by
  have HC := Lib.hid h
  have HL := Lib.hid h.lt
  clear h
  go_enter Tryd.func97, Tryd.ntmps97
  go_wp2_with fail
  go_at_call 94
  refine (pick_lit g _ _ 20 _ _ HC.out (by kernel_rfl) (by rfl) (by rfl)).mono ?_
  rintro e w1 ⟨fld, rfl, hfld, hd⟩
  have HD1 := Lib.hid hd
  clear hd
  go_wp2_with fail
  go_at_call 71
  refine (spec_l01Below_calls g 12 _ HD1.out.1 (by omega)).mono ?_
  rintro e w2 ⟨x, rfl, hx0, hx1, _, hd⟩
  have hx1 := hx1 (by omega)
  have HD2 := Lib.hid (HD1.out.trans hd)
  clear hd
  go_wp2_with fail
  go_at_call 39
  refine (spec_Decimal_calls (x - 4) _ (by omega) (by omega)).mono ?_
  rintro e w3 ⟨rfl, hb⟩
  have HD3 := Lib.hid (HD2.out.below HL.out hb)
  have hnum := itoa_small (x - 4) (by omega)
  clear hb
  generalize bs (Lib.itoa (x - 4)) = num at hnum ⊢
  go_wp2_with (first
    | (go_at_call 95; refine (spec_l10Word_calls g _ HD3.out.1).mono ?_; rintro e w4 ⟨y, rfl, hy, hd4⟩; have HD4 := Lib.hid (HD3.out.trans hd4); clear hd4)
    | (go_at_call 93; refine (spec_l01Once_calls g 12 _ HD3.out.1 (by omega)).mono ?_; rintro e w4 ⟨b4, rfl, hd4⟩; have HD4 := Lib.hid (HD3.out.trans hd4); clear hd4)
    | (go_at_call 94; refine (pick_lit g _ _ 20 _ _ HD4.out.1 (by kernel_rfl) (by rfl) (by rfl)).mono ?_; rintro e w5 ⟨z, rfl, hz, hd5⟩; have HD5 := Lib.hid (HD4.out.trans hd5); clear hd5)
    | (go_at_call 71; refine (spec_l01Below_calls g 12 _ HD3.out.1 (by omega)).mono ?_; rintro e w4 ⟨y, rfl, hy0, hy1, _, hd4⟩; have HD4 := Lib.hid (HD3.out.trans hd4); clear hd4; have hy1 := hy1 (by omega))
    | (go_at_call 39; refine (spec_Decimal_calls (y - 4) _ (by omega) (by omega)).mono ?_; rintro e w5 ⟨rfl, hb⟩; have HD5 := Lib.hid (HD4.out.below HL.out hb); clear hb; have hnum2 := itoa_small (y - 4) (by omega)))
  go_ret
  exact rowPost_lit [fld] HD3.out HL.out rfl rfl rfl (by simp) (by omega) (by intro q hq; simp at hq; first | (subst hq; omega) | (rcases hq with rfl | rfl <;> omega))
set_option maxHeartbeats 8000000 in
set_option maxRecDepth 100000 in
theorem rest11 (g : Nat) (s : ByteArray) (w : World) (h : Cu w g) (c0 : (s.toList == [83, 69, 84]) = false) (c1 : (s.toList == [83, 69, 84, 78, 88]) = false) (c2 : (s.toList == [71, 69, 84, 83, 69, 84]) = false) (c3 : (s.toList == [65, 80, 80, 69, 78, 68]) = false) (c4 : (s.toList == [73, 78, 67, 82, 66, 89]) = false) (c5 : (s.toList == [68, 69, 67, 82, 66, 89]) = false) (c6 : (s.toList == [76, 73, 78, 68, 69, 88]) = false) (c7 : (s.toList == [69, 88, 80, 73, 82, 69]) = false) (c8 : (s.toList == [76, 82, 65, 78, 71, 69]) = false) (c9 : (s.toList == [72, 83, 69, 84]) = false) (c10 : (s.toList == [72, 71, 69, 84]) = false) (c11 : (s.toList == [83, 73, 83, 77, 69, 77, 66, 69, 82]) = true) :
    Calls Tryd.prog 97 #[.pointer (some ⟨g, 0, none⟩), .string s] w (RowPost w g 4) := by
  have HC := Lib.hid h
  have HL := Lib.hid h.lt
  clear h
  go_enter Tryd.func97, Tryd.ntmps97
  go_wp2_with fail
  go_at_call 94
  refine (pick_lit g _ _ 20 _ _ HC.out (by kernel_rfl) (by rfl) (by rfl)).mono ?_
  rintro e w1 ⟨fld, rfl, hfld, hd⟩
  have HD1 := Lib.hid hd
  clear hd
  go_wp2_with fail
  go_at_call 71
  refine (spec_l01Below_calls g 12 _ HD1.out.1 (by omega)).mono ?_
  rintro e w2 ⟨x, rfl, hx0, hx1, _, hd⟩
  have hx1 := hx1 (by omega)
  have HD2 := Lib.hid (HD1.out.trans hd)
  clear hd
  go_wp2_with fail
  go_at_call 39
  refine (spec_Decimal_calls (x - 4) _ (by omega) (by omega)).mono ?_
  rintro e w3 ⟨rfl, hb⟩
  have HD3 := Lib.hid (HD2.out.below HL.out hb)
  have hnum := itoa_small (x - 4) (by omega)
  clear hb
  generalize bs (Lib.itoa (x - 4)) = num at hnum ⊢
  go_wp2_with (first
    | (go_at_call 95; refine (spec_l10Word_calls g _ HD3.out.1).mono ?_; rintro e w4 ⟨y, rfl, hy, hd4⟩; have HD4 := Lib.hid (HD3.out.trans hd4); clear hd4)
    | (go_at_call 93; refine (spec_l01Once_calls g 12 _ HD3.out.1 (by omega)).mono ?_; rintro e w4 ⟨b4, rfl, hd4⟩; have HD4 := Lib.hid (HD3.out.trans hd4); clear hd4)
    | (go_at_call 94; refine (pick_lit g _ _ 20 _ _ HD4.out.1 (by kernel_rfl) (by rfl) (by rfl)).mono ?_; rintro e w5 ⟨z, rfl, hz, hd5⟩; have HD5 := Lib.hid (HD4.out.trans hd5); clear hd5)
    | (go_at_call 71; refine (spec_l01Below_calls g 12 _ HD3.out.1 (by omega)).mono ?_; rintro e w4 ⟨y, rfl, hy0, hy1, _, hd4⟩; have HD4 := Lib.hid (HD3.out.trans hd4); clear hd4; have hy1 := hy1 (by omega))
    | (go_at_call 39; refine (spec_Decimal_calls (y - 4) _ (by omega) (by omega)).mono ?_; rintro e w5 ⟨rfl, hb⟩; have HD5 := Lib.hid (HD4.out.below HL.out hb); clear hb; have hnum2 := itoa_small (y - 4) (by omega)))
  go_ret
  exact rowPost_lit [fld] HD3.out HL.out rfl rfl rfl (by simp) (by omega) (by intro q hq; simp at hq; first | (subst hq; omega) | (rcases hq with rfl | rfl <;> omega))
set_option maxHeartbeats 8000000 in
set_option maxRecDepth 100000 in
theorem rest12 (g : Nat) (s : ByteArray) (w : World) (h : Cu w g) (c0 : (s.toList == [83, 69, 84]) = false) (c1 : (s.toList == [83, 69, 84, 78, 88]) = false) (c2 : (s.toList == [71, 69, 84, 83, 69, 84]) = false) (c3 : (s.toList == [65, 80, 80, 69, 78, 68]) = false) (c4 : (s.toList == [73, 78, 67, 82, 66, 89]) = false) (c5 : (s.toList == [68, 69, 67, 82, 66, 89]) = false) (c6 : (s.toList == [76, 73, 78, 68, 69, 88]) = false) (c7 : (s.toList == [69, 88, 80, 73, 82, 69]) = false) (c8 : (s.toList == [76, 82, 65, 78, 71, 69]) = false) (c9 : (s.toList == [72, 83, 69, 84]) = false) (c10 : (s.toList == [72, 71, 69, 84]) = false) (c11 : (s.toList == [83, 73, 83, 77, 69, 77, 66, 69, 82]) = false) (c12 : (s.toList == [76, 80, 85, 83, 72]) = true) :
    Calls Tryd.prog 97 #[.pointer (some ⟨g, 0, none⟩), .string s] w (RowPost w g 4) := by
  have HC := Lib.hid h
  have HL := Lib.hid h.lt
  clear h
  go_enter Tryd.func97, Tryd.ntmps97
  go_wp2_with fail
  go_at_call 94
  refine (pick_lit g _ _ 20 _ _ HC.out (by kernel_rfl) (by rfl) (by rfl)).mono ?_
  rintro e w1 ⟨fld, rfl, hfld, hd⟩
  have HD1 := Lib.hid hd
  clear hd
  go_wp2_with fail
  go_at_call 71
  refine (spec_l01Below_calls g 12 _ HD1.out.1 (by omega)).mono ?_
  rintro e w2 ⟨x, rfl, hx0, hx1, _, hd⟩
  have hx1 := hx1 (by omega)
  have HD2 := Lib.hid (HD1.out.trans hd)
  clear hd
  go_wp2_with fail
  go_at_call 39
  refine (spec_Decimal_calls (x - 4) _ (by omega) (by omega)).mono ?_
  rintro e w3 ⟨rfl, hb⟩
  have HD3 := Lib.hid (HD2.out.below HL.out hb)
  have hnum := itoa_small (x - 4) (by omega)
  clear hb
  generalize bs (Lib.itoa (x - 4)) = num at hnum ⊢
  go_wp2_with (first
    | (go_at_call 95; refine (spec_l10Word_calls g _ HD3.out.1).mono ?_; rintro e w4 ⟨y, rfl, hy, hd4⟩; have HD4 := Lib.hid (HD3.out.trans hd4); clear hd4)
    | (go_at_call 93; refine (spec_l01Once_calls g 12 _ HD3.out.1 (by omega)).mono ?_; rintro e w4 ⟨b4, rfl, hd4⟩; have HD4 := Lib.hid (HD3.out.trans hd4); clear hd4)
    | (go_at_call 94; refine (pick_lit g _ _ 20 _ _ HD4.out.1 (by kernel_rfl) (by rfl) (by rfl)).mono ?_; rintro e w5 ⟨z, rfl, hz, hd5⟩; have HD5 := Lib.hid (HD4.out.trans hd5); clear hd5)
    | (go_at_call 71; refine (spec_l01Below_calls g 12 _ HD3.out.1 (by omega)).mono ?_; rintro e w4 ⟨y, rfl, hy0, hy1, _, hd4⟩; have HD4 := Lib.hid (HD3.out.trans hd4); clear hd4; have hy1 := hy1 (by omega))
    | (go_at_call 39; refine (spec_Decimal_calls (y - 4) _ (by omega) (by omega)).mono ?_; rintro e w5 ⟨rfl, hb⟩; have HD5 := Lib.hid (HD4.out.below HL.out hb); clear hb; have hnum2 := itoa_small (y - 4) (by omega)))
  go_loopw [7, 8] (fun v iv wr => ∃ (i b c : Nat) (xs : List ByteArray), iv = .int .i64 (i : Int) ∧ i ≤ 3 ∧ v = .slice (some ⟨b, 0, none⟩) xs.length c ∧ OwnS wr w.heap.size (.slice (some ⟨b, 0, none⟩) xs.length c) xs ∧ xs.length = i + 1 ∧ (∀ x ∈ xs, x.size ≤ 60) ∧ Drawn w g wr) (fun _ iv _ => 3 - (intOf iv).toNat)
  case atStart => exact ⟨0, _, _, [fld], rfl, by omega, rfl, ownS_lit (w := w) HD3.out.2.size _ [fld] rfl (by simp), rfl, by intro q hq; simp at hq; subst hq; omega, HD3.out.alloc' HL.out _⟩
  case round =>
    obtain ⟨i, b, c, xs, rfl, hi3, rfl, hown, hlen, hsml, hd⟩ := hrel
    have HO := Lib.hid hown
    have HLEN := Lib.hid hlen
    have HSM := Lib.hid hsml
    have HD := Lib.hid hd
    clear hown hlen hsml hd
    go_wp2_with fail
    go_at_call 71
    refine (spec_l01Below_calls g 3 _ HD.out.1 (by omega)).mono ?_
    rintro e w4 ⟨y, rfl, hy0, hy1, _, hd4⟩
    have hy1 := hy1 (by omega)
    have HD4 := Lib.hid (HD.out.trans hd4)
    have HO4 := Lib.hid (World.ownsRow.kept HO.out hd4.2 (own_ne HO.out.lt HL.out))
    clear hd4
    by_cases hlt : (i : Int) < y
    · go_wp2_with fail
      go_at_call 94
      refine (pick_lit g _ _ 20 _ _ HD4.out.1 (by kernel_rfl) (by rfl) (by rfl)).mono ?_
      rintro e w5 ⟨z, rfl, hz, hd5⟩
      have HD5 := Lib.hid (HD4.out.trans hd5)
      have HO5 : Hid (OwnS (w5.alloc (.cells #[.string z] 9)) w.heap.size (.slice (some ⟨b, 0, none⟩) xs.length c) xs) := World.ownsRow.alloc (World.ownsRow.kept HO4.out hd5.2 (own_ne HO.out.lt HL.out)) _
      clear hd5
      go_wp2_with (at_builtin; refine wpList_appS rfl _ _ rfl w.heap.size b c xs [z] rfl HO5.out ⟨w5.heap.size, 0, none⟩ 1 1 rfl rfl (World.news_of_block (heap_alloc_new w5 _)) (by have := HLEN.out; simp; omega) (by have := HD5.out.2.size; simp; omega) ?_; intro g2 cap w6 hown hgrow)
      have HO6 := Lib.hid hown
      have HD6 := Lib.hid ((HD5.out.alloc' HL.out _).grown HL.out hgrow fun k e => (HO5.out.lt k e).1)
      have HS6 : Hid (∀ x ∈ xs ++ [z], x.size ≤ 60) := by intro q hq; rcases List.mem_append.1 hq with hq | hq; exact HSM.out q hq; simp at hq; subst hq; omega
      clear hown hgrow
      go_wp2
      go_roundw
      case rel => first | exact ⟨i + 1, _, _, xs ++ [z], by go_num, by omega, by first | rfl | simp, HO6.out, by rw [List.length_append, HLEN.out]; rfl, HS6.out, HD6.out⟩ | (repeat (first | (refine ⟨?relx, rfl⟩; exact ⟨i + 1, _, _, xs ++ [z], by go_num, by omega, by first | rfl | simp, HO6.out, by rw [List.length_append, HLEN.out]; rfl, HS6.out, HD6.out⟩) | (refine ⟨?relx, ?eqs⟩; (case eqs => (and_intros <;> rfl)); exact ⟨i + 1, _, _, xs ++ [z], by go_num, by omega, by first | rfl | simp, HO6.out, by rw [List.length_append, HLEN.out]; rfl, HS6.out, HD6.out⟩) | apply Exists.intro))
      case measure => simp [intOf]; omega
    · go_wp2
      go_ret
      exact ⟨b, c, xs, rfl, HO4.out, by have := HLEN.out; omega, HSM.out, HD4.out⟩
set_option maxHeartbeats 8000000 in
set_option maxRecDepth 100000 in
theorem rest13 (g : Nat) (s : ByteArray) (w : World) (h : Cu w g) (c0 : (s.toList == [83, 69, 84]) = false) (c1 : (s.toList == [83, 69, 84, 78, 88]) = false) (c2 : (s.toList == [71, 69, 84, 83, 69, 84]) = false) (c3 : (s.toList == [65, 80, 80, 69, 78, 68]) = false) (c4 : (s.toList == [73, 78, 67, 82, 66, 89]) = false) (c5 : (s.toList == [68, 69, 67, 82, 66, 89]) = false) (c6 : (s.toList == [76, 73, 78, 68, 69, 88]) = false) (c7 : (s.toList == [69, 88, 80, 73, 82, 69]) = false) (c8 : (s.toList == [76, 82, 65, 78, 71, 69]) = false) (c9 : (s.toList == [72, 83, 69, 84]) = false) (c10 : (s.toList == [72, 71, 69, 84]) = false) (c11 : (s.toList == [83, 73, 83, 77, 69, 77, 66, 69, 82]) = false) (c12 : (s.toList == [76, 80, 85, 83, 72]) = false) (c13 : (s.toList == [82, 80, 85, 83, 72]) = true) :
    Calls Tryd.prog 97 #[.pointer (some ⟨g, 0, none⟩), .string s] w (RowPost w g 4) := by
  have HC := Lib.hid h
  have HL := Lib.hid h.lt
  clear h
  go_enter Tryd.func97, Tryd.ntmps97
  go_wp2_with fail
  go_at_call 94
  refine (pick_lit g _ _ 20 _ _ HC.out (by kernel_rfl) (by rfl) (by rfl)).mono ?_
  rintro e w1 ⟨fld, rfl, hfld, hd⟩
  have HD1 := Lib.hid hd
  clear hd
  go_wp2_with fail
  go_at_call 71
  refine (spec_l01Below_calls g 12 _ HD1.out.1 (by omega)).mono ?_
  rintro e w2 ⟨x, rfl, hx0, hx1, _, hd⟩
  have hx1 := hx1 (by omega)
  have HD2 := Lib.hid (HD1.out.trans hd)
  clear hd
  go_wp2_with fail
  go_at_call 39
  refine (spec_Decimal_calls (x - 4) _ (by omega) (by omega)).mono ?_
  rintro e w3 ⟨rfl, hb⟩
  have HD3 := Lib.hid (HD2.out.below HL.out hb)
  have hnum := itoa_small (x - 4) (by omega)
  clear hb
  generalize bs (Lib.itoa (x - 4)) = num at hnum ⊢
  go_wp2_with (first
    | (go_at_call 95; refine (spec_l10Word_calls g _ HD3.out.1).mono ?_; rintro e w4 ⟨y, rfl, hy, hd4⟩; have HD4 := Lib.hid (HD3.out.trans hd4); clear hd4)
    | (go_at_call 93; refine (spec_l01Once_calls g 12 _ HD3.out.1 (by omega)).mono ?_; rintro e w4 ⟨b4, rfl, hd4⟩; have HD4 := Lib.hid (HD3.out.trans hd4); clear hd4)
    | (go_at_call 94; refine (pick_lit g _ _ 20 _ _ HD4.out.1 (by kernel_rfl) (by rfl) (by rfl)).mono ?_; rintro e w5 ⟨z, rfl, hz, hd5⟩; have HD5 := Lib.hid (HD4.out.trans hd5); clear hd5)
    | (go_at_call 71; refine (spec_l01Below_calls g 12 _ HD3.out.1 (by omega)).mono ?_; rintro e w4 ⟨y, rfl, hy0, hy1, _, hd4⟩; have HD4 := Lib.hid (HD3.out.trans hd4); clear hd4; have hy1 := hy1 (by omega))
    | (go_at_call 39; refine (spec_Decimal_calls (y - 4) _ (by omega) (by omega)).mono ?_; rintro e w5 ⟨rfl, hb⟩; have HD5 := Lib.hid (HD4.out.below HL.out hb); clear hb; have hnum2 := itoa_small (y - 4) (by omega)))
  go_loopw [7, 8] (fun v iv wr => ∃ (i b c : Nat) (xs : List ByteArray), iv = .int .i64 (i : Int) ∧ i ≤ 3 ∧ v = .slice (some ⟨b, 0, none⟩) xs.length c ∧ OwnS wr w.heap.size (.slice (some ⟨b, 0, none⟩) xs.length c) xs ∧ xs.length = i + 1 ∧ (∀ x ∈ xs, x.size ≤ 60) ∧ Drawn w g wr) (fun _ iv _ => 3 - (intOf iv).toNat)
  case atStart => exact ⟨0, _, _, [fld], rfl, by omega, rfl, ownS_lit (w := w) HD3.out.2.size _ [fld] rfl (by simp), rfl, by intro q hq; simp at hq; subst hq; omega, HD3.out.alloc' HL.out _⟩
  case round =>
    obtain ⟨i, b, c, xs, rfl, hi3, rfl, hown, hlen, hsml, hd⟩ := hrel
    have HO := Lib.hid hown
    have HLEN := Lib.hid hlen
    have HSM := Lib.hid hsml
    have HD := Lib.hid hd
    clear hown hlen hsml hd
    go_wp2_with fail
    go_at_call 71
    refine (spec_l01Below_calls g 3 _ HD.out.1 (by omega)).mono ?_
    rintro e w4 ⟨y, rfl, hy0, hy1, _, hd4⟩
    have hy1 := hy1 (by omega)
    have HD4 := Lib.hid (HD.out.trans hd4)
    have HO4 := Lib.hid (World.ownsRow.kept HO.out hd4.2 (own_ne HO.out.lt HL.out))
    clear hd4
    by_cases hlt : (i : Int) < y
    · go_wp2_with fail
      go_at_call 94
      refine (pick_lit g _ _ 20 _ _ HD4.out.1 (by kernel_rfl) (by rfl) (by rfl)).mono ?_
      rintro e w5 ⟨z, rfl, hz, hd5⟩
      have HD5 := Lib.hid (HD4.out.trans hd5)
      have HO5 : Hid (OwnS (w5.alloc (.cells #[.string z] 9)) w.heap.size (.slice (some ⟨b, 0, none⟩) xs.length c) xs) := World.ownsRow.alloc (World.ownsRow.kept HO4.out hd5.2 (own_ne HO.out.lt HL.out)) _
      clear hd5
      go_wp2_with (at_builtin; refine wpList_appS rfl _ _ rfl w.heap.size b c xs [z] rfl HO5.out ⟨w5.heap.size, 0, none⟩ 1 1 rfl rfl (World.news_of_block (heap_alloc_new w5 _)) (by have := HLEN.out; simp; omega) (by have := HD5.out.2.size; simp; omega) ?_; intro g2 cap w6 hown hgrow)
      have HO6 := Lib.hid hown
      have HD6 := Lib.hid ((HD5.out.alloc' HL.out _).grown HL.out hgrow fun k e => (HO5.out.lt k e).1)
      have HS6 : Hid (∀ x ∈ xs ++ [z], x.size ≤ 60) := by intro q hq; rcases List.mem_append.1 hq with hq | hq; exact HSM.out q hq; simp at hq; subst hq; omega
      clear hown hgrow
      go_wp2
      go_roundw
      case rel => first | exact ⟨i + 1, _, _, xs ++ [z], by go_num, by omega, by first | rfl | simp, HO6.out, by rw [List.length_append, HLEN.out]; rfl, HS6.out, HD6.out⟩ | (repeat (first | (refine ⟨?relx, rfl⟩; exact ⟨i + 1, _, _, xs ++ [z], by go_num, by omega, by first | rfl | simp, HO6.out, by rw [List.length_append, HLEN.out]; rfl, HS6.out, HD6.out⟩) | (refine ⟨?relx, ?eqs⟩; (case eqs => (and_intros <;> rfl)); exact ⟨i + 1, _, _, xs ++ [z], by go_num, by omega, by first | rfl | simp, HO6.out, by rw [List.length_append, HLEN.out]; rfl, HS6.out, HD6.out⟩) | apply Exists.intro))
      case measure => simp [intOf]; omega
    · go_wp2
      go_ret
      exact ⟨b, c, xs, rfl, HO4.out, by have := HLEN.out; omega, HSM.out, HD4.out⟩
set_option maxHeartbeats 8000000 in
set_option maxRecDepth 100000 in
theorem rest14 (g : Nat) (s : ByteArray) (w : World) (h : Cu w g) (c0 : (s.toList == [83, 69, 84]) = false) (c1 : (s.toList == [83, 69, 84, 78, 88]) = false) (c2 : (s.toList == [71, 69, 84, 83, 69, 84]) = false) (c3 : (s.toList == [65, 80, 80, 69, 78, 68]) = false) (c4 : (s.toList == [73, 78, 67, 82, 66, 89]) = false) (c5 : (s.toList == [68, 69, 67, 82, 66, 89]) = false) (c6 : (s.toList == [76, 73, 78, 68, 69, 88]) = false) (c7 : (s.toList == [69, 88, 80, 73, 82, 69]) = false) (c8 : (s.toList == [76, 82, 65, 78, 71, 69]) = false) (c9 : (s.toList == [72, 83, 69, 84]) = false) (c10 : (s.toList == [72, 71, 69, 84]) = false) (c11 : (s.toList == [83, 73, 83, 77, 69, 77, 66, 69, 82]) = false) (c12 : (s.toList == [76, 80, 85, 83, 72]) = false) (c13 : (s.toList == [82, 80, 85, 83, 72]) = false) (c14 : (s.toList == [83, 65, 68, 68]) = true) :
    Calls Tryd.prog 97 #[.pointer (some ⟨g, 0, none⟩), .string s] w (RowPost w g 4) := by
  have HC := Lib.hid h
  have HL := Lib.hid h.lt
  clear h
  go_enter Tryd.func97, Tryd.ntmps97
  go_wp2_with fail
  go_at_call 94
  refine (pick_lit g _ _ 20 _ _ HC.out (by kernel_rfl) (by rfl) (by rfl)).mono ?_
  rintro e w1 ⟨fld, rfl, hfld, hd⟩
  have HD1 := Lib.hid hd
  clear hd
  go_wp2_with fail
  go_at_call 71
  refine (spec_l01Below_calls g 12 _ HD1.out.1 (by omega)).mono ?_
  rintro e w2 ⟨x, rfl, hx0, hx1, _, hd⟩
  have hx1 := hx1 (by omega)
  have HD2 := Lib.hid (HD1.out.trans hd)
  clear hd
  go_wp2_with fail
  go_at_call 39
  refine (spec_Decimal_calls (x - 4) _ (by omega) (by omega)).mono ?_
  rintro e w3 ⟨rfl, hb⟩
  have HD3 := Lib.hid (HD2.out.below HL.out hb)
  have hnum := itoa_small (x - 4) (by omega)
  clear hb
  generalize bs (Lib.itoa (x - 4)) = num at hnum ⊢
  go_wp2_with (first
    | (go_at_call 95; refine (spec_l10Word_calls g _ HD3.out.1).mono ?_; rintro e w4 ⟨y, rfl, hy, hd4⟩; have HD4 := Lib.hid (HD3.out.trans hd4); clear hd4)
    | (go_at_call 93; refine (spec_l01Once_calls g 12 _ HD3.out.1 (by omega)).mono ?_; rintro e w4 ⟨b4, rfl, hd4⟩; have HD4 := Lib.hid (HD3.out.trans hd4); clear hd4)
    | (go_at_call 94; refine (pick_lit g _ _ 20 _ _ HD4.out.1 (by kernel_rfl) (by rfl) (by rfl)).mono ?_; rintro e w5 ⟨z, rfl, hz, hd5⟩; have HD5 := Lib.hid (HD4.out.trans hd5); clear hd5)
    | (go_at_call 71; refine (spec_l01Below_calls g 12 _ HD3.out.1 (by omega)).mono ?_; rintro e w4 ⟨y, rfl, hy0, hy1, _, hd4⟩; have HD4 := Lib.hid (HD3.out.trans hd4); clear hd4; have hy1 := hy1 (by omega))
    | (go_at_call 39; refine (spec_Decimal_calls (y - 4) _ (by omega) (by omega)).mono ?_; rintro e w5 ⟨rfl, hb⟩; have HD5 := Lib.hid (HD4.out.below HL.out hb); clear hb; have hnum2 := itoa_small (y - 4) (by omega)))
  go_loopw [7, 8] (fun v iv wr => ∃ (i b c : Nat) (xs : List ByteArray), iv = .int .i64 (i : Int) ∧ i ≤ 3 ∧ v = .slice (some ⟨b, 0, none⟩) xs.length c ∧ OwnS wr w.heap.size (.slice (some ⟨b, 0, none⟩) xs.length c) xs ∧ xs.length = i + 1 ∧ (∀ x ∈ xs, x.size ≤ 60) ∧ Drawn w g wr) (fun _ iv _ => 3 - (intOf iv).toNat)
  case atStart => exact ⟨0, _, _, [fld], rfl, by omega, rfl, ownS_lit (w := w) HD3.out.2.size _ [fld] rfl (by simp), rfl, by intro q hq; simp at hq; subst hq; omega, HD3.out.alloc' HL.out _⟩
  case round =>
    obtain ⟨i, b, c, xs, rfl, hi3, rfl, hown, hlen, hsml, hd⟩ := hrel
    have HO := Lib.hid hown
    have HLEN := Lib.hid hlen
    have HSM := Lib.hid hsml
    have HD := Lib.hid hd
    clear hown hlen hsml hd
    go_wp2_with fail
    go_at_call 71
    refine (spec_l01Below_calls g 3 _ HD.out.1 (by omega)).mono ?_
    rintro e w4 ⟨y, rfl, hy0, hy1, _, hd4⟩
    have hy1 := hy1 (by omega)
    have HD4 := Lib.hid (HD.out.trans hd4)
    have HO4 := Lib.hid (World.ownsRow.kept HO.out hd4.2 (own_ne HO.out.lt HL.out))
    clear hd4
    by_cases hlt : (i : Int) < y
    · go_wp2_with fail
      go_at_call 94
      refine (pick_lit g _ _ 20 _ _ HD4.out.1 (by kernel_rfl) (by rfl) (by rfl)).mono ?_
      rintro e w5 ⟨z, rfl, hz, hd5⟩
      have HD5 := Lib.hid (HD4.out.trans hd5)
      have HO5 : Hid (OwnS (w5.alloc (.cells #[.string z] 9)) w.heap.size (.slice (some ⟨b, 0, none⟩) xs.length c) xs) := World.ownsRow.alloc (World.ownsRow.kept HO4.out hd5.2 (own_ne HO.out.lt HL.out)) _
      clear hd5
      go_wp2_with (at_builtin; refine wpList_appS rfl _ _ rfl w.heap.size b c xs [z] rfl HO5.out ⟨w5.heap.size, 0, none⟩ 1 1 rfl rfl (World.news_of_block (heap_alloc_new w5 _)) (by have := HLEN.out; simp; omega) (by have := HD5.out.2.size; simp; omega) ?_; intro g2 cap w6 hown hgrow)
      have HO6 := Lib.hid hown
      have HD6 := Lib.hid ((HD5.out.alloc' HL.out _).grown HL.out hgrow fun k e => (HO5.out.lt k e).1)
      have HS6 : Hid (∀ x ∈ xs ++ [z], x.size ≤ 60) := by intro q hq; rcases List.mem_append.1 hq with hq | hq; exact HSM.out q hq; simp at hq; subst hq; omega
      clear hown hgrow
      go_wp2
      go_roundw
      case rel => first | exact ⟨i + 1, _, _, xs ++ [z], by go_num, by omega, by first | rfl | simp, HO6.out, by rw [List.length_append, HLEN.out]; rfl, HS6.out, HD6.out⟩ | (repeat (first | (refine ⟨?relx, rfl⟩; exact ⟨i + 1, _, _, xs ++ [z], by go_num, by omega, by first | rfl | simp, HO6.out, by rw [List.length_append, HLEN.out]; rfl, HS6.out, HD6.out⟩) | (refine ⟨?relx, ?eqs⟩; (case eqs => (and_intros <;> rfl)); exact ⟨i + 1, _, _, xs ++ [z], by go_num, by omega, by first | rfl | simp, HO6.out, by rw [List.length_append, HLEN.out]; rfl, HS6.out, HD6.out⟩) | apply Exists.intro))
      case measure => simp [intOf]; omega
    · go_wp2
      go_ret
      exact ⟨b, c, xs, rfl, HO4.out, by have := HLEN.out; omega, HSM.out, HD4.out⟩
set_option maxHeartbeats 8000000 in
set_option maxRecDepth 100000 in
theorem rest15 (g : Nat) (s : ByteArray) (w : World) (h : Cu w g) (c0 : (s.toList == [83, 69, 84]) = false) (c1 : (s.toList == [83, 69, 84, 78, 88]) = false) (c2 : (s.toList == [71, 69, 84, 83, 69, 84]) = false) (c3 : (s.toList == [65, 80, 80, 69, 78, 68]) = false) (c4 : (s.toList == [73, 78, 67, 82, 66, 89]) = false) (c5 : (s.toList == [68, 69, 67, 82, 66, 89]) = false) (c6 : (s.toList == [76, 73, 78, 68, 69, 88]) = false) (c7 : (s.toList == [69, 88, 80, 73, 82, 69]) = false) (c8 : (s.toList == [76, 82, 65, 78, 71, 69]) = false) (c9 : (s.toList == [72, 83, 69, 84]) = false) (c10 : (s.toList == [72, 71, 69, 84]) = false) (c11 : (s.toList == [83, 73, 83, 77, 69, 77, 66, 69, 82]) = false) (c12 : (s.toList == [76, 80, 85, 83, 72]) = false) (c13 : (s.toList == [82, 80, 85, 83, 72]) = false) (c14 : (s.toList == [83, 65, 68, 68]) = false) (c15 : (s.toList == [83, 82, 69, 77]) = true) :
    Calls Tryd.prog 97 #[.pointer (some ⟨g, 0, none⟩), .string s] w (RowPost w g 4) := by
  have HC := Lib.hid h
  have HL := Lib.hid h.lt
  clear h
  go_enter Tryd.func97, Tryd.ntmps97
  go_wp2_with fail
  go_at_call 94
  refine (pick_lit g _ _ 20 _ _ HC.out (by kernel_rfl) (by rfl) (by rfl)).mono ?_
  rintro e w1 ⟨fld, rfl, hfld, hd⟩
  have HD1 := Lib.hid hd
  clear hd
  go_wp2_with fail
  go_at_call 71
  refine (spec_l01Below_calls g 12 _ HD1.out.1 (by omega)).mono ?_
  rintro e w2 ⟨x, rfl, hx0, hx1, _, hd⟩
  have hx1 := hx1 (by omega)
  have HD2 := Lib.hid (HD1.out.trans hd)
  clear hd
  go_wp2_with fail
  go_at_call 39
  refine (spec_Decimal_calls (x - 4) _ (by omega) (by omega)).mono ?_
  rintro e w3 ⟨rfl, hb⟩
  have HD3 := Lib.hid (HD2.out.below HL.out hb)
  have hnum := itoa_small (x - 4) (by omega)
  clear hb
  generalize bs (Lib.itoa (x - 4)) = num at hnum ⊢
  go_wp2_with (first
    | (go_at_call 95; refine (spec_l10Word_calls g _ HD3.out.1).mono ?_; rintro e w4 ⟨y, rfl, hy, hd4⟩; have HD4 := Lib.hid (HD3.out.trans hd4); clear hd4)
    | (go_at_call 93; refine (spec_l01Once_calls g 12 _ HD3.out.1 (by omega)).mono ?_; rintro e w4 ⟨b4, rfl, hd4⟩; have HD4 := Lib.hid (HD3.out.trans hd4); clear hd4)
    | (go_at_call 94; refine (pick_lit g _ _ 20 _ _ HD4.out.1 (by kernel_rfl) (by rfl) (by rfl)).mono ?_; rintro e w5 ⟨z, rfl, hz, hd5⟩; have HD5 := Lib.hid (HD4.out.trans hd5); clear hd5)
    | (go_at_call 71; refine (spec_l01Below_calls g 12 _ HD3.out.1 (by omega)).mono ?_; rintro e w4 ⟨y, rfl, hy0, hy1, _, hd4⟩; have HD4 := Lib.hid (HD3.out.trans hd4); clear hd4; have hy1 := hy1 (by omega))
    | (go_at_call 39; refine (spec_Decimal_calls (y - 4) _ (by omega) (by omega)).mono ?_; rintro e w5 ⟨rfl, hb⟩; have HD5 := Lib.hid (HD4.out.below HL.out hb); clear hb; have hnum2 := itoa_small (y - 4) (by omega)))
  go_loopw [7, 8] (fun v iv wr => ∃ (i b c : Nat) (xs : List ByteArray), iv = .int .i64 (i : Int) ∧ i ≤ 3 ∧ v = .slice (some ⟨b, 0, none⟩) xs.length c ∧ OwnS wr w.heap.size (.slice (some ⟨b, 0, none⟩) xs.length c) xs ∧ xs.length = i + 1 ∧ (∀ x ∈ xs, x.size ≤ 60) ∧ Drawn w g wr) (fun _ iv _ => 3 - (intOf iv).toNat)
  case atStart => exact ⟨0, _, _, [fld], rfl, by omega, rfl, ownS_lit (w := w) HD3.out.2.size _ [fld] rfl (by simp), rfl, by intro q hq; simp at hq; subst hq; omega, HD3.out.alloc' HL.out _⟩
  case round =>
    obtain ⟨i, b, c, xs, rfl, hi3, rfl, hown, hlen, hsml, hd⟩ := hrel
    have HO := Lib.hid hown
    have HLEN := Lib.hid hlen
    have HSM := Lib.hid hsml
    have HD := Lib.hid hd
    clear hown hlen hsml hd
    go_wp2_with fail
    go_at_call 71
    refine (spec_l01Below_calls g 3 _ HD.out.1 (by omega)).mono ?_
    rintro e w4 ⟨y, rfl, hy0, hy1, _, hd4⟩
    have hy1 := hy1 (by omega)
    have HD4 := Lib.hid (HD.out.trans hd4)
    have HO4 := Lib.hid (World.ownsRow.kept HO.out hd4.2 (own_ne HO.out.lt HL.out))
    clear hd4
    by_cases hlt : (i : Int) < y
    · go_wp2_with fail
      go_at_call 94
      refine (pick_lit g _ _ 20 _ _ HD4.out.1 (by kernel_rfl) (by rfl) (by rfl)).mono ?_
      rintro e w5 ⟨z, rfl, hz, hd5⟩
      have HD5 := Lib.hid (HD4.out.trans hd5)
      have HO5 : Hid (OwnS (w5.alloc (.cells #[.string z] 9)) w.heap.size (.slice (some ⟨b, 0, none⟩) xs.length c) xs) := World.ownsRow.alloc (World.ownsRow.kept HO4.out hd5.2 (own_ne HO.out.lt HL.out)) _
      clear hd5
      go_wp2_with (at_builtin; refine wpList_appS rfl _ _ rfl w.heap.size b c xs [z] rfl HO5.out ⟨w5.heap.size, 0, none⟩ 1 1 rfl rfl (World.news_of_block (heap_alloc_new w5 _)) (by have := HLEN.out; simp; omega) (by have := HD5.out.2.size; simp; omega) ?_; intro g2 cap w6 hown hgrow)
      have HO6 := Lib.hid hown
      have HD6 := Lib.hid ((HD5.out.alloc' HL.out _).grown HL.out hgrow fun k e => (HO5.out.lt k e).1)
      have HS6 : Hid (∀ x ∈ xs ++ [z], x.size ≤ 60) := by intro q hq; rcases List.mem_append.1 hq with hq | hq; exact HSM.out q hq; simp at hq; subst hq; omega
      clear hown hgrow
      go_wp2
      go_roundw
      case rel => first | exact ⟨i + 1, _, _, xs ++ [z], by go_num, by omega, by first | rfl | simp, HO6.out, by rw [List.length_append, HLEN.out]; rfl, HS6.out, HD6.out⟩ | (repeat (first | (refine ⟨?relx, rfl⟩; exact ⟨i + 1, _, _, xs ++ [z], by go_num, by omega, by first | rfl | simp, HO6.out, by rw [List.length_append, HLEN.out]; rfl, HS6.out, HD6.out⟩) | (refine ⟨?relx, ?eqs⟩; (case eqs => (and_intros <;> rfl)); exact ⟨i + 1, _, _, xs ++ [z], by go_num, by omega, by first | rfl | simp, HO6.out, by rw [List.length_append, HLEN.out]; rfl, HS6.out, HD6.out⟩) | apply Exists.intro))
      case measure => simp [intOf]; omega
    · go_wp2
      go_ret
      exact ⟨b, c, xs, rfl, HO4.out, by have := HLEN.out; omega, HSM.out, HD4.out⟩
set_option maxHeartbeats 8000000 in
set_option maxRecDepth 100000 in
theorem rest16 (g : Nat) (s : ByteArray) (w : World) (h : Cu w g) (c0 : (s.toList == [83, 69, 84]) = false) (c1 : (s.toList == [83, 69, 84, 78, 88]) = false) (c2 : (s.toList == [71, 69, 84, 83, 69, 84]) = false) (c3 : (s.toList == [65, 80, 80, 69, 78, 68]) = false) (c4 : (s.toList == [73, 78, 67, 82, 66, 89]) = false) (c5 : (s.toList == [68, 69, 67, 82, 66, 89]) = false) (c6 : (s.toList == [76, 73, 78, 68, 69, 88]) = false) (c7 : (s.toList == [69, 88, 80, 73, 82, 69]) = false) (c8 : (s.toList == [76, 82, 65, 78, 71, 69]) = false) (c9 : (s.toList == [72, 83, 69, 84]) = false) (c10 : (s.toList == [72, 71, 69, 84]) = false) (c11 : (s.toList == [83, 73, 83, 77, 69, 77, 66, 69, 82]) = false) (c12 : (s.toList == [76, 80, 85, 83, 72]) = false) (c13 : (s.toList == [82, 80, 85, 83, 72]) = false) (c14 : (s.toList == [83, 65, 68, 68]) = false) (c15 : (s.toList == [83, 82, 69, 77]) = false) (c16 : (s.toList == [72, 68, 69, 76]) = true) :
    Calls Tryd.prog 97 #[.pointer (some ⟨g, 0, none⟩), .string s] w (RowPost w g 4) := by
  have HC := Lib.hid h
  have HL := Lib.hid h.lt
  clear h
  go_enter Tryd.func97, Tryd.ntmps97
  go_wp2_with fail
  go_at_call 94
  refine (pick_lit g _ _ 20 _ _ HC.out (by kernel_rfl) (by rfl) (by rfl)).mono ?_
  rintro e w1 ⟨fld, rfl, hfld, hd⟩
  have HD1 := Lib.hid hd
  clear hd
  go_wp2_with fail
  go_at_call 71
  refine (spec_l01Below_calls g 12 _ HD1.out.1 (by omega)).mono ?_
  rintro e w2 ⟨x, rfl, hx0, hx1, _, hd⟩
  have hx1 := hx1 (by omega)
  have HD2 := Lib.hid (HD1.out.trans hd)
  clear hd
  go_wp2_with fail
  go_at_call 39
  refine (spec_Decimal_calls (x - 4) _ (by omega) (by omega)).mono ?_
  rintro e w3 ⟨rfl, hb⟩
  have HD3 := Lib.hid (HD2.out.below HL.out hb)
  have hnum := itoa_small (x - 4) (by omega)
  clear hb
  generalize bs (Lib.itoa (x - 4)) = num at hnum ⊢
  go_wp2_with (first
    | (go_at_call 95; refine (spec_l10Word_calls g _ HD3.out.1).mono ?_; rintro e w4 ⟨y, rfl, hy, hd4⟩; have HD4 := Lib.hid (HD3.out.trans hd4); clear hd4)
    | (go_at_call 93; refine (spec_l01Once_calls g 12 _ HD3.out.1 (by omega)).mono ?_; rintro e w4 ⟨b4, rfl, hd4⟩; have HD4 := Lib.hid (HD3.out.trans hd4); clear hd4)
    | (go_at_call 94; refine (pick_lit g _ _ 20 _ _ HD4.out.1 (by kernel_rfl) (by rfl) (by rfl)).mono ?_; rintro e w5 ⟨z, rfl, hz, hd5⟩; have HD5 := Lib.hid (HD4.out.trans hd5); clear hd5)
    | (go_at_call 71; refine (spec_l01Below_calls g 12 _ HD3.out.1 (by omega)).mono ?_; rintro e w4 ⟨y, rfl, hy0, hy1, _, hd4⟩; have HD4 := Lib.hid (HD3.out.trans hd4); clear hd4; have hy1 := hy1 (by omega))
    | (go_at_call 39; refine (spec_Decimal_calls (y - 4) _ (by omega) (by omega)).mono ?_; rintro e w5 ⟨rfl, hb⟩; have HD5 := Lib.hid (HD4.out.below HL.out hb); clear hb; have hnum2 := itoa_small (y - 4) (by omega)))
  go_loopw [7, 8] (fun v iv wr => ∃ (i b c : Nat) (xs : List ByteArray), iv = .int .i64 (i : Int) ∧ i ≤ 3 ∧ v = .slice (some ⟨b, 0, none⟩) xs.length c ∧ OwnS wr w.heap.size (.slice (some ⟨b, 0, none⟩) xs.length c) xs ∧ xs.length = i + 1 ∧ (∀ x ∈ xs, x.size ≤ 60) ∧ Drawn w g wr) (fun _ iv _ => 3 - (intOf iv).toNat)
  case atStart => exact ⟨0, _, _, [fld], rfl, by omega, rfl, ownS_lit (w := w) HD3.out.2.size _ [fld] rfl (by simp), rfl, by intro q hq; simp at hq; subst hq; omega, HD3.out.alloc' HL.out _⟩
  case round =>
    obtain ⟨i, b, c, xs, rfl, hi3, rfl, hown, hlen, hsml, hd⟩ := hrel
    have HO := Lib.hid hown
    have HLEN := Lib.hid hlen
    have HSM := Lib.hid hsml
    have HD := Lib.hid hd
    clear hown hlen hsml hd
    go_wp2_with fail
    go_at_call 71
    refine (spec_l01Below_calls g 3 _ HD.out.1 (by omega)).mono ?_
    rintro e w4 ⟨y, rfl, hy0, hy1, _, hd4⟩
    have hy1 := hy1 (by omega)
    have HD4 := Lib.hid (HD.out.trans hd4)
    have HO4 := Lib.hid (World.ownsRow.kept HO.out hd4.2 (own_ne HO.out.lt HL.out))
    clear hd4
    by_cases hlt : (i : Int) < y
    · go_wp2_with fail
      go_at_call 94
      refine (pick_lit g _ _ 20 _ _ HD4.out.1 (by kernel_rfl) (by rfl) (by rfl)).mono ?_
      rintro e w5 ⟨z, rfl, hz, hd5⟩
      have HD5 := Lib.hid (HD4.out.trans hd5)
      have HO5 : Hid (OwnS (w5.alloc (.cells #[.string z] 9)) w.heap.size (.slice (some ⟨b, 0, none⟩) xs.length c) xs) := World.ownsRow.alloc (World.ownsRow.kept HO4.out hd5.2 (own_ne HO.out.lt HL.out)) _
      clear hd5
      go_wp2_with (at_builtin; refine wpList_appS rfl _ _ rfl w.heap.size b c xs [z] rfl HO5.out ⟨w5.heap.size, 0, none⟩ 1 1 rfl rfl (World.news_of_block (heap_alloc_new w5 _)) (by have := HLEN.out; simp; omega) (by have := HD5.out.2.size; simp; omega) ?_; intro g2 cap w6 hown hgrow)
      have HO6 := Lib.hid hown
      have HD6 := Lib.hid ((HD5.out.alloc' HL.out _).grown HL.out hgrow fun k e => (HO5.out.lt k e).1)
      have HS6 : Hid (∀ x ∈ xs ++ [z], x.size ≤ 60) := by intro q hq; rcases List.mem_append.1 hq with hq | hq; exact HSM.out q hq; simp at hq; subst hq; omega
      clear hown hgrow
      go_wp2
      go_roundw
      case rel => first | exact ⟨i + 1, _, _, xs ++ [z], by go_num, by omega, by first | rfl | simp, HO6.out, by rw [List.length_append, HLEN.out]; rfl, HS6.out, HD6.out⟩ | (repeat (first | (refine ⟨?relx, rfl⟩; exact ⟨i + 1, _, _, xs ++ [z], by go_num, by omega, by first | rfl | simp, HO6.out, by rw [List.length_append, HLEN.out]; rfl, HS6.out, HD6.out⟩) | (refine ⟨?relx, ?eqs⟩; (case eqs => (and_intros <;> rfl)); exact ⟨i + 1, _, _, xs ++ [z], by go_num, by omega, by first | rfl | simp, HO6.out, by rw [List.length_append, HLEN.out]; rfl, HS6.out, HD6.out⟩) | apply Exists.intro))
      case measure => simp [intOf]; omega
    · go_wp2
      go_ret
      exact ⟨b, c, xs, rfl, HO4.out, by have := HLEN.out; omega, HSM.out, HD4.out⟩
set_option maxHeartbeats 8000000 in
set_option maxRecDepth 100000 in
theorem rest17 (g : Nat) (s : ByteArray) (w : World) (h : Cu w g) (c0 : (s.toList == [83, 69, 84]) = false) (c1 : (s.toList == [83, 69, 84, 78, 88]) = false) (c2 : (s.toList == [71, 69, 84, 83, 69, 84]) = false) (c3 : (s.toList == [65, 80, 80, 69, 78, 68]) = false) (c4 : (s.toList == [73, 78, 67, 82, 66, 89]) = false) (c5 : (s.toList == [68, 69, 67, 82, 66, 89]) = false) (c6 : (s.toList == [76, 73, 78, 68, 69, 88]) = false) (c7 : (s.toList == [69, 88, 80, 73, 82, 69]) = false) (c8 : (s.toList == [76, 82, 65, 78, 71, 69]) = false) (c9 : (s.toList == [72, 83, 69, 84]) = false) (c10 : (s.toList == [72, 71, 69, 84]) = false) (c11 : (s.toList == [83, 73, 83, 77, 69, 77, 66, 69, 82]) = false) (c12 : (s.toList == [76, 80, 85, 83, 72]) = false) (c13 : (s.toList == [82, 80, 85, 83, 72]) = false) (c14 : (s.toList == [83, 65, 68, 68]) = false) (c15 : (s.toList == [83, 82, 69, 77]) = false) (c16 : (s.toList == [72, 68, 69, 76]) = false) :
    Calls Tryd.prog 97 #[.pointer (some ⟨g, 0, none⟩), .string s] w (RowPost w g 4) := by
  have HC := Lib.hid h
  have HL := Lib.hid h.lt
  clear h
  go_enter Tryd.func97, Tryd.ntmps97
  go_wp2_with fail
  go_at_call 94
  refine (pick_lit g _ _ 20 _ _ HC.out (by kernel_rfl) (by rfl) (by rfl)).mono ?_
  rintro e w1 ⟨fld, rfl, hfld, hd⟩
  have HD1 := Lib.hid hd
  clear hd
  go_wp2_with fail
  go_at_call 71
  refine (spec_l01Below_calls g 12 _ HD1.out.1 (by omega)).mono ?_
  rintro e w2 ⟨x, rfl, hx0, hx1, _, hd⟩
  have hx1 := hx1 (by omega)
  have HD2 := Lib.hid (HD1.out.trans hd)
  clear hd
  go_wp2_with fail
  go_at_call 39
  refine (spec_Decimal_calls (x - 4) _ (by omega) (by omega)).mono ?_
  rintro e w3 ⟨rfl, hb⟩
  have HD3 := Lib.hid (HD2.out.below HL.out hb)
  have hnum := itoa_small (x - 4) (by omega)
  clear hb
  generalize bs (Lib.itoa (x - 4)) = num at hnum ⊢
  go_wp2_with (first
    | (go_at_call 95; refine (spec_l10Word_calls g _ HD3.out.1).mono ?_; rintro e w4 ⟨y, rfl, hy, hd4⟩; have HD4 := Lib.hid (HD3.out.trans hd4); clear hd4)
    | (go_at_call 93; refine (spec_l01Once_calls g 12 _ HD3.out.1 (by omega)).mono ?_; rintro e w4 ⟨b4, rfl, hd4⟩; have HD4 := Lib.hid (HD3.out.trans hd4); clear hd4)
    | (go_at_call 94; refine (pick_lit g _ _ 20 _ _ HD4.out.1 (by kernel_rfl) (by rfl) (by rfl)).mono ?_; rintro e w5 ⟨z, rfl, hz, hd5⟩; have HD5 := Lib.hid (HD4.out.trans hd5); clear hd5)
    | (go_at_call 71; refine (spec_l01Below_calls g 12 _ HD3.out.1 (by omega)).mono ?_; rintro e w4 ⟨y, rfl, hy0, hy1, _, hd4⟩; have HD4 := Lib.hid (HD3.out.trans hd4); clear hd4; have hy1 := hy1 (by omega))
    | (go_at_call 39; refine (spec_Decimal_calls (y - 4) _ (by omega) (by omega)).mono ?_; rintro e w5 ⟨rfl, hb⟩; have HD5 := Lib.hid (HD4.out.below HL.out hb); clear hb; have hnum2 := itoa_small (y - 4) (by omega)))
  go_ret
  exact rowPost_lit [] HD3.out HL.out rfl rfl rfl (by simp) (by omega) (by simp)
theorem spec_l11Rest_calls (g : Nat) (s : ByteArray) (w : World) (h : Cu w g) :
    Calls Tryd.prog 97 #[.pointer (some ⟨g, 0, none⟩), .string s] w (RowPost w g 4) := by
  cases c0 : s.toList == [83, 69, 84]
  case true => exact rest0 g s w h c0
  cases c1 : s.toList == [83, 69, 84, 78, 88]
  case true => exact rest1 g s w h c0 c1
  cases c2 : s.toList == [71, 69, 84, 83, 69, 84]
  case true => exact rest2 g s w h c0 c1 c2
  cases c3 : s.toList == [65, 80, 80, 69, 78, 68]
  case true => exact rest3 g s w h c0 c1 c2 c3
  cases c4 : s.toList == [73, 78, 67, 82, 66, 89]
  case true => exact rest4 g s w h c0 c1 c2 c3 c4
  cases c5 : s.toList == [68, 69, 67, 82, 66, 89]
  case true => exact rest5 g s w h c0 c1 c2 c3 c4 c5
  cases c6 : s.toList == [76, 73, 78, 68, 69, 88]
  case true => exact rest6 g s w h c0 c1 c2 c3 c4 c5 c6
  cases c7 : s.toList == [69, 88, 80, 73, 82, 69]
  case true => exact rest7 g s w h c0 c1 c2 c3 c4 c5 c6 c7
  cases c8 : s.toList == [76, 82, 65, 78, 71, 69]
  case true => exact rest8 g s w h c0 c1 c2 c3 c4 c5 c6 c7 c8
  cases c9 : s.toList == [72, 83, 69, 84]
  case true => exact rest9 g s w h c0 c1 c2 c3 c4 c5 c6 c7 c8 c9
  cases c10 : s.toList == [72, 71, 69, 84]
  case true => exact rest10 g s w h c0 c1 c2 c3 c4 c5 c6 c7 c8 c9 c10
  cases c11 : s.toList == [83, 73, 83, 77, 69, 77, 66, 69, 82]
  case true => exact rest11 g s w h c0 c1 c2 c3 c4 c5 c6 c7 c8 c9 c10 c11
  cases c12 : s.toList == [76, 80, 85, 83, 72]
  case true => exact rest12 g s w h c0 c1 c2 c3 c4 c5 c6 c7 c8 c9 c10 c11 c12
  cases c13 : s.toList == [82, 80, 85, 83, 72]
  case true => exact rest13 g s w h c0 c1 c2 c3 c4 c5 c6 c7 c8 c9 c10 c11 c12 c13
  cases c14 : s.toList == [83, 65, 68, 68]
  case true => exact rest14 g s w h c0 c1 c2 c3 c4 c5 c6 c7 c8 c9 c10 c11 c12 c13 c14
  cases c15 : s.toList == [83, 82, 69, 77]
  case true => exact rest15 g s w h c0 c1 c2 c3 c4 c5 c6 c7 c8 c9 c10 c11 c12 c13 c14 c15
  cases c16 : s.toList == [72, 68, 69, 76]
  case true => exact rest16 g s w h c0 c1 c2 c3 c4 c5 c6 c7 c8 c9 c10 c11 c12 c13 c14 c15 c16
  exact rest17 g s w h c0 c1 c2 c3 c4 c5 c6 c7 c8 c9 c10 c11 c12 c13 c14 c15 c16
end Go.Proofs.YtanpkomifhbhnaaDoor
