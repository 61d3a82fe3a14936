/- The plain law of requests, the rest: lengths, fuel, the ends; rows of numbers of the call's own. -/
import Derived.Test.YtanpkomifhbhnaaDoorDraw10
import Derived.Test.YtanpkomifhbhnaaDoorReq
namespace Go.Proofs.YtanpkomifhbhnaaDoor
set_option linter.unusedVariables false
set_option linter.unusedSimpArgs false
open Go.RowKit

theorem fitAll_fine {xs : List ByteArray} (h : Fine xs) : fitAll xs = true := by
  unfold fitAll
  exact List.all_eq_true.2 fun x hx => decide_eq_true (h.2 x hx)
theorem reqText_fine {xs : List ByteArray} (h : Fine xs) : optText (reqText xs) = .tuple #[.string (bs (textR xs)), .bool true] := by
  unfold reqText
  rw [if_pos h.1, if_pos (fitAll_fine h)]
  rfl
theorem textR_len {xs : List ByteArray} (h : Fine xs) : (textR xs).length ≤ 1000 := by
  have h1 := bulks_len _ (fitAll_fine h)
  have h2 := headText_len xs.length (by omega) (by have := h.1; omega)
  have := h.1
  unfold textR
  rw [List.length_append]
  omega
theorem textsR_snoc {L : List (List ByteArray)} {i : Nat} {xs : List ByteArray} (h : L[i]? = some xs) : textsR (L.take (i + 1)) = textsR (L.take i) ++ textR xs := by
  rw [take_snoc h]
  simp [textsR]
theorem textsR_len : ∀ {L : List (List ByteArray)}, (∀ xs ∈ L, Fine xs) → (textsR L).length ≤ 1000 * L.length
  | [], _ => by simp [textsR]
  | xs :: L, h => by
    have h1 := textR_len (h xs (by simp))
    have h2 := textsR_len (L := L) fun y hy => h y (by simp [hy])
    rw [textsR_cons, List.length_append, List.length_cons]
    omega
theorem textsR_take_len {L : List (List ByteArray)} (h : ∀ xs ∈ L, Fine xs) (hL : L.length ≤ 4) (i : Nat) : (textsR (L.take i)).length ≤ 4000 := by
  have h1 := textsR_len (L := L.take i) fun y hy => h y (List.mem_of_mem_take hy)
  have h2 : (L.take i).length ≤ 4 := by rw [List.length_take]; omega
  omega
theorem textsR_ge : ∀ (L : List (List ByteArray)), L.length ≤ (textsR L).length
  | [] => by simp [textsR]
  | xs :: L => by
    have h1 := textR_pos xs
    have h2 := textsR_ge L
    rw [textsR_cons, List.length_append, List.length_cons]
    omega
theorem reqsF_fuel : ∀ (f f' : Nat) (l : List UInt8), l.length < f → l.length < f' → reqsF f l = reqsF f' l
  | 0, _, _, h, _ => by omega
  | _ + 1, 0, _, _, h => by omega
  | f + 1, f' + 1, l, h, h' => by
    rw [reqsF, reqsF]
    split
    next h1 =>
      obtain ⟨u1, u2⟩ := reqB_used h1
      rw [reqsF_fuel f f' (l.drop (reqB l).2.1) (by rw [List.length_drop]; omega) (by rw [List.length_drop]; omega)]
    next => rfl
/-- What Requests says of the whole text, and of a cut one. -/
theorem reqs_whole {L : List (List ByteArray)} (h : ∀ xs ∈ L, Fine xs) {S : ByteArray} (hS : S = bs (textsR L)) : reqsF (S.size + 1) (ub S) = (L.map (·.map ub), S.size, false) := by
  subst hS
  rw [ub_bs, bs_size]
  exact reqsF_texts L _ (by have := textsR_ge L; omega) h
theorem reqs_cut {L : List (List ByteArray)} (h : ∀ xs ∈ L, Fine xs) {S : ByteArray} (hS : S = bs (textsR L)) {k : Nat} (hk : k ≤ S.size) :
    ∃ j, j ≤ L.length ∧ reqsF ((S.extract 0 k).size + 1) (ub (S.extract 0 k)) = ((L.take j).map (·.map ub), (textsR (L.take j)).length, false) ∧ (j < L.length → k < (textsR (L.take (j + 1))).length) := by
  subst hS
  rw [bs_size] at hk
  obtain ⟨j, h1, h2, _, h4⟩ := reqsF_cut L (textsR L).length.succ k (by have := textsR_ge L; omega) h hk
  have e : (bs (textsR L)).extract 0 k = bs ((textsR L).take k) := by
    have := extract_tail (bs (textsR L)) 0 k
    rw [Nat.zero_add] at this
    rw [this, tail_, ub_bs, List.drop_zero]
  have hl : ((textsR L).take k).length = k := by rw [List.length_take]; omega
  refine ⟨j, h1, ?_, h4⟩
  rw [e, ub_bs, bs_size, reqsF_fuel _ (textsR L).length.succ _ (Nat.lt_succ_self _) (by rw [hl]; omega), h2]
/-- The ends of the first i texts. -/
def endsR (L : List (List ByteArray)) (i : Nat) : List Int := (List.range (i + 1)).map fun j => ((textsR (L.take j)).length : Int)
theorem endsR_zero (L : List (List ByteArray)) : endsR L 0 = [0] := by simp [endsR, textsR]
theorem endsR_step (L : List (List ByteArray)) (i : Nat) : endsR L (i + 1) = endsR L i ++ [((textsR (L.take (i + 1))).length : Int)] := by
  unfold endsR
  rw [List.range_succ, List.map_append]
  rfl
theorem endsR_length (L : List (List ByteArray)) (i : Nat) : (endsR L i).length = i + 1 := by simp [endsR]
theorem endsR_at (L : List (List ByteArray)) {i j : Nat} (h : j ≤ i) : (endsR L i)[j]? = some ((textsR (L.take j)).length : Int) := by
  unfold endsR
  rw [List.getElem?_map, List.getElem?_range (by omega)]
  rfl
theorem OwnI.at_ {w : World} {B n c : Nat} {A : Option Addr} {ns : List Int} (h : OwnI w B (.slice A n c) ns) {j : Nat} {x : Int} (hj : ns[j]? = some x) : ∃ b, A = some ⟨b, 0, none⟩ ∧ w.cell? ⟨b, j, none⟩ = some (.int .i64 x) := by
  rcases h.2 with ⟨e, h0⟩ | ⟨g, cap, cur, e, _, _, hle, _⟩
  · have : ns = [] := List.eq_nil_of_length_eq_zero h0
    rw [this] at hj
    simp at hj
  · injection e with e1 e2 e3
    subst e1
    have hc := World.ownsRow.cells h (g := g) rfl j (.int .i64 x) (by rw [List.getElem?_map, hj]; rfl)
    rw [add_plain] at hc
    exact ⟨g, rfl, hc⟩
theorem OwnI.below {w w' : World} {B : Nat} {v : Value} {ns : List Int} (h : OwnI w B v ns) (hb : Below w.heap.size w w') : OwnI w' B v ns := by
  refine World.ownsRow.kept h (row := none) ⟨hb.os, hb.tape, hb.output, hb.size, fun k hk _ => hb.block k hk⟩ ?_
  cases v.ownBlock
  · exact .inl rfl
  · exact .inr (by simp)
theorem ownI_lit (w : World) {B : Nat} (hB : B ≤ w.heap.size) (x : Int) : OwnI (w.alloc (.cells #[.int .i64 x] 3)) B (.slice (some ⟨w.heap.size, 0, none⟩) 1 1) [x] :=
  ⟨rfl, .inr ⟨w.heap.size, 1, #[.int .i64 x], rfl, hB, heap_alloc_new w _, Nat.le_refl _, by unfold maxLen; omega, rfl, rfl⟩⟩
theorem below_pushI {B : Nat} {a w w2 : World} {o : Obj} {v : Value} {ns : List Int} (h : Below B a w) (hB : B ≤ w.heap.size) (ho : OwnI w B v ns) (hg : (w.alloc o).grownBy w2 v.ownBlock) : Below B a w2 :=
  (h.alloc hB o).grown hg (by simp; omega) fun k hk => (ho.lt k hk).1
theorem map_back (L : List (List ByteArray)) : (L.map (·.map ub)).map (·.map bs) = L := by
  rw [List.map_map]
  conv => rhs; rw [← List.map_id L]
  refine List.map_congr_left fun xs _ => ?_
  simp only [Function.comp, List.map_map, id]
  conv => rhs; rw [← List.map_id xs]
  exact List.map_congr_left fun x _ => bs_ub x
end Go.Proofs.YtanpkomifhbhnaaDoor
