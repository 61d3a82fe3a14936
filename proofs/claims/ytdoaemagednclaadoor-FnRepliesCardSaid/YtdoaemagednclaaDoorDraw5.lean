/- The draws: the arguments behind the key. -/
import Derived.Test.YtdoaemagednclaaDoorDraw4
import Derived.Test.YtdoaemagednclaaDoorNum
namespace Go.Proofs.YtdoaemagednclaaDoor
set_option linter.unusedVariables false
set_option linter.unusedSimpArgs false
open Go.RowKit
attribute [local go_sem] bs_size List.length_cons List.length_nil List.length_append

/-- A row of at most k short texts, drawn. -/
def RowPost (w : World) (g k : Nat) (e : Ending) (w' : World) : Prop := ∃ b c xs, e = .returned (.slice (some ⟨b, 0, none⟩) xs.length c) ∧ OwnS w' w.heap.size (.slice (some ⟨b, 0, none⟩) xs.length c) xs ∧ xs.length ≤ k ∧ (∀ x ∈ xs, x.size ≤ 60) ∧ Drawn w g w'
theorem ownS_lit {w wr : World} {B : Nat} (hB : B ≤ wr.heap.size) (cs : Array Value) (ws : List ByteArray) (e : cs = (ws.map Value.string).toArray) (hl : ws.length ≤ 1000) :
    OwnS (wr.alloc (.cells cs 9)) B (.slice (some ⟨wr.heap.size, 0, none⟩) ws.length ws.length) ws := by
  subst e
  refine ⟨by simp, .inr ⟨wr.heap.size, ws.length, _, rfl, hB, heap_alloc_new wr _, Nat.le_refl _, by unfold maxLen; omega, by simp, by simp [List.take_of_length_le]⟩⟩
theorem rowPost_lit {w wr : World} {g k : Nat} (ws : List ByteArray) {n c : Nat} {cs : Array Value} (hd : Drawn w g wr) (hl : g < w.heap.size) (e : cs = (ws.map Value.string).toArray) (hn : n = ws.length) (hc : c = ws.length) (hk : ws.length ≤ k) (hk2 : k ≤ 1000) (hs : ∀ x ∈ ws, x.size ≤ 60) :
    RowPost w g k (.returned (.slice (some ⟨wr.heap.size, 0, none⟩) n c)) (wr.alloc (.cells cs 9)) := by
  subst hn hc
  exact ⟨_, _, ws, rfl, ownS_lit (w := w) hd.2.size cs ws e (by omega), hk, hs, hd.alloc' hl _⟩
/-- 'append' of a row of texts (there may be none) to a row of the call's own. -/
theorem wpList_appS {ops : Array Oper} {rest : List Oper} {o : Oper} {a : Act} {w : World} {Q : Exit → Act → World → Prop} (hgd : o.guard = none) (sl x : Operand)
    (ho : o.op = .call { callee := .builtin .append, args := #[sl, x], argTypes := #[24, 24] }) (B b cc : Nat) (xs ws : List ByteArray) (hs : a.eval sl = .slice (some ⟨b, 0, none⟩) xs.length cc) (hown : OwnS w B (.slice (some ⟨b, 0, none⟩) xs.length cc) xs)
    (ad : Addr) (m c : Nat) (hx : a.eval x = .slice (some ad) m c) (hm : m = ws.length) (hnews : ∀ j u, (ws.map Value.string)[j]? = some u → w.cell? (ad.add j) = some u) (hlen : xs.length + ws.length ≤ 100000) (hbase : B ≤ w.heap.size)
    (h : ∀ g cap w', OwnS w' B (.slice (some ⟨g, 0, none⟩) (xs ++ ws).length cap) (xs ++ ws) → w.grownBy w' (some b) → wpList Tryd.prog ops Q rest (a.put o.dst (.slice (some ⟨g, 0, none⟩) (xs ++ ws).length cap)) w') :
    wpList Tryd.prog ops Q (o :: rest) a w := by
  obtain ⟨i0, hi, hz, hsz, hby⟩ := info_parts info_str
  subst hm
  refine wpList_append_own (P := Tryd.prog) w hgd sl x 24 ho B 9 i0 (.string ByteArray.empty) 1 16 Tryd.underlying24 hi hz hsz hby rfl (by omega) _ xs.length (xs.map Value.string) hs hown ad ws.length c (ws.map Value.string) hx (by simp) hnews (by intro u hu; obtain ⟨y, _, rfl⟩ := List.mem_map.1 hu; rfl) (by unfold maxLen; omega) (by omega) hbase ?_
  intro v' w' hown' hgrow hiff
  have ho' : OwnS w' B v' (xs ++ ws) := by
    unfold OwnS
    rw [List.map_append, List.length_append]
    exact hown'
  obtain ⟨A, cap, rfl⟩ := ho'.form
  cases A with
  | none =>
    exfalso
    rcases ho'.2 with ⟨e, h0⟩ | ⟨g, c2, cur, e, _⟩
    · have := (hiff.1 e).1
      cases this
    · cases e
  | some ad' =>
    rcases ho'.2 with ⟨e, h0⟩ | ⟨g, c2, cur, e, _⟩
    · cases e
    · injection e with e1 e2 e3
      obtain rfl := Option.some.inj e1
      exact h g cap w' ho' hgrow
theorem itoa_small (n : Int) (h : -100 ≤ n ∧ n ≤ 100) : (bs (Lib.itoa n)).size ≤ 31 := by
  rw [bs_size]
  have := itoa_len n (by omega) (by omega)
  omega
end Go.Proofs.YtdoaemagednclaaDoor
