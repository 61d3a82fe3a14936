/- The plain law of the readers: what each read takes off the text, both ways; lists of things read one behind the other. -/
import Derived.Test.YtaacpdejpcbbbaaGreatDoorSh
import Derived.Test.YtaacpdejpcbbbaaGreatDoorRd3
namespace Go.Proofs.YtaacpdejpcbbbaaGreatDoor
set_option linter.unusedVariables false
set_option linter.unusedSimpArgs false
open Go.RowKit

theorem tail_nil {s : ByteArray} {a : Nat} (ha : a ≤ s.size) : tail_ s a = [] ↔ a = s.size := by
  rw [← List.length_eq_zero_iff, tail_len]
  omega
theorem tail_zero (s : ByteArray) : tail_ s 0 = ub s := rfl
theorem tail_le {s : ByteArray} {a : Nat} (ha : a ≤ s.size) {p l : List UInt8} (h : tail_ s a = p ++ l) : a + p.length ≤ s.size ∧ tail_ s (a + p.length) = l := by
  have h1 : (tail_ s a).length = p.length + l.length := by rw [h, List.length_append]
  rw [tail_len] at h1
  refine ⟨by omega, ?_⟩
  rw [← tail_tail, h, List.drop_left]
/-- A read that took the bytes p: where it stands, and what is left. -/
def Took (s : ByteArray) (a : Nat) (p : List UInt8) (a' : Nat) : Prop := a' ≤ s.size ∧ tail_ s a = p ++ tail_ s a'
theorem Took.trans {s : ByteArray} {a b c : Nat} {p q : List UInt8} (h1 : Took s a p b) (h2 : Took s b q c) : Took s a (p ++ q) c := ⟨h2.1, by rw [h1.2, h2.2, List.append_assoc]⟩
theorem Took.nil {s : ByteArray} {a : Nat} (h : a ≤ s.size) : Took s a [] a := ⟨h, rfl⟩
theorem took_of {s : ByteArray} {a : Nat} (ha : a ≤ s.size) {p l : List UInt8} (h : tail_ s a = p ++ l) : Took s a p (a + p.length) ∧ tail_ s (a + p.length) = l := by
  obtain ⟨h1, h2⟩ := tail_le ha h
  exact ⟨⟨h1, by rw [h2, h]⟩, h2⟩

theorem rNum_took {s : ByteArray} {a n a' : Nat} {b : Bool} (ha : a ≤ s.size) (h : rNum s a b = (n, a', false)) : b = false ∧ n ≤ 1000000000 ∧ Took s a (varBytes n) a' := by
  by_cases hc : b = true ∨ readVar (tail_ s a) = none
  · rw [rNum_no s a hc] at h
    simp at h
  · have hb : b = false := by cases b <;> simp_all
    subst hb
    cases hv : readVar (tail_ s a) with
    | none => exact (hc (.inr hv)).elim
    | some pk =>
      obtain ⟨m, k⟩ := pk
      rw [rNum_yes hv] at h
      simp only [Prod.mk.injEq, and_true] at h
      obtain ⟨rfl, rfl⟩ := h
      obtain ⟨h1, h2, h3, _⟩ := readVar_spec hv
      rw [tail_len] at h3
      refine ⟨rfl, h1, by omega, ?_⟩
      rw [← tail_tail, ← h2, List.take_append_drop]
theorem rNum_put {s : ByteArray} {a n : Nat} {l : List UInt8} (hn : n ≤ 1000000000) (h : tail_ s a = varBytes n ++ l) : rNum s a false = (n, a + (varBytes n).length, false) := by
  rw [rNum_yes (by rw [h]; exact readVar_varBytes n hn l)]
theorem readShort_took {l : List UInt8} {x : List UInt8} {m : Nat} (h : readShort l = some (x, m)) : m ≤ l.length ∧ x.length ≤ 20000 ∧ l = shortB x ++ l.drop m ∧ m = (shortB x).length := by
  unfold readShort at h
  split at h
  · rename_i n k hv
    obtain ⟨h1, h2, h3, _, _⟩ := readVar_spec hv
    split at h
    · rename_i hc
      simp only [Option.some.injEq, Prod.mk.injEq] at h
      obtain ⟨rfl, rfl⟩ := h
      have hx : ((l.drop k).take n).length = n := by rw [List.length_take, List.length_drop]; omega
      have hk : (varBytes n).length = k := by rw [← h2, List.length_take]; omega
      refine ⟨by omega, by rw [hx]; exact hc.1, ?_, ?_⟩
      · rw [shortB, hx, ← h2, List.append_assoc, show l.drop (k + n) = (l.drop k).drop n by rw [List.drop_drop], List.take_append_drop, List.take_append_drop]
      · rw [shortB, List.length_append, hx, hk]
    · cases h
  · cases h
theorem readShort_put {x l : List UInt8} (hx : x.length ≤ 20000) : readShort (shortB x ++ l) = some (x, (shortB x).length) := by
  have h : readVar (shortB x ++ l) = some (x.length, (varBytes x.length).length) := by rw [shortB, List.append_assoc]; exact readVar_varBytes _ (by omega) _
  rw [readShort_yes h ⟨hx, by rw [shortB, List.length_append, List.length_append]; omega⟩]
  rw [shortB, List.append_assoc, List.drop_left, List.take_left, List.length_append]
theorem rText_took {s : ByteArray} {a a' : Nat} {b : Bool} {x : List UInt8} (ha : a ≤ s.size) (h : rText s a b = (x, a', false)) : b = false ∧ x.length ≤ 20000 ∧ Took s a (shortB x) a' := by
  by_cases hc : b = true ∨ readShort (tail_ s a) = none
  · rw [rText_no s a hc] at h
    simp at h
  · have hb : b = false := by cases b <;> simp_all
    subst hb
    cases hv : readShort (tail_ s a) with
    | none => exact (hc (.inr hv)).elim
    | some pk =>
      obtain ⟨y, m⟩ := pk
      rw [rText_yes hv] at h
      simp only [Prod.mk.injEq, and_true] at h
      obtain ⟨rfl, rfl⟩ := h
      obtain ⟨h1, h2, h3, h4⟩ := readShort_took hv
      rw [tail_len] at h1
      refine ⟨rfl, h2, by omega, ?_⟩
      rw [← tail_tail]
      exact h3
theorem rText_put {s : ByteArray} {a : Nat} {x l : List UInt8} (hx : x.length ≤ 20000) (h : tail_ s a = shortB x ++ l) : rText s a false = (x, a + (shortB x).length, false) := by
  rw [rText_yes (by rw [h]; exact readShort_put hx)]
theorem rByte_took {s : ByteArray} {a a' n : Nat} {b : Bool} (h : rByte s a b = (n, a', false)) : b = false ∧ n < 256 ∧ Took s a [UInt8.ofNat n] a' := by
  by_cases hc : b = false ∧ a < s.size
  · obtain ⟨rfl, hlt⟩ := hc
    obtain ⟨d, hd, _, hg, hdd⟩ := ub_byte' hlt
    rw [rByte_yes hlt hg hdd] at h
    simp only [Prod.mk.injEq, and_true] at h
    obtain ⟨rfl, rfl⟩ := h
    refine ⟨rfl, hd, by omega, ?_⟩
    obtain ⟨hl, he⟩ := List.getElem?_eq_some_iff.1 hg
    rw [tail_, tail_, List.drop_eq_getElem_cons hl, he]
    rfl
  · rw [rByte_no hc] at h
    simp at h
theorem rByte_put {s : ByteArray} {a : Nat} {c : UInt8} {l : List UInt8} (h : tail_ s a = c :: l) : rByte s a false = (c.toNat, a + 1, false) := by
  have hg : (ub s)[a]? = some c := by
    have : (tail_ s a)[0]? = some c := by rw [h]; rfl
    rw [tail_, List.getElem?_drop] at this
    simpa using this
  have hlt : a < s.size := by rw [← ub_length]; exact (List.getElem?_eq_some_iff.1 hg).1
  exact rByte_yes hlt (by rw [hg]; simp) (by simp)
theorem cTake_put {s : ByteArray} {a : Nat} {x l : List UInt8} (ha : a ≤ s.size) (h : tail_ s a = x ++ l) : cTake s a false x.length = (x, a + x.length, false) := by
  have h1 := (tail_le ha h).1
  unfold cTake
  rw [if_pos ⟨rfl, by omega⟩, h, List.take_left]
theorem cShort_put {s : ByteArray} {a : Nat} {x l : List UInt8} (ha : a ≤ s.size) (hx : x.length ≤ 1000000000) (h : tail_ s a = shortB x ++ l) : cShort s a false = (x, a + (shortB x).length, false) := by
  have h0 : tail_ s a = varBytes x.length ++ (x ++ l) := by rw [h, shortB, List.append_assoc]
  have h1 := rNum_put hx h0
  obtain ⟨h2, h3⟩ := tail_le ha h0
  unfold cShort
  rw [h1]
  show cTake s (a + (varBytes x.length).length) false x.length = _
  rw [cTake_put h2 h3, shortB, List.length_append, Nat.add_assoc]
theorem cTake_le (s : ByteArray) {a : Nat} (b : Bool) (n : Nat) (ha : a ≤ s.size) : (cTake s a b n).2.1 ≤ s.size ∧ (cTake s a b n).1.length ≤ s.size := by
  unfold cTake
  split
  · rename_i h
    have := tail_len s a
    refine ⟨by show a + n ≤ s.size; omega, ?_⟩
    show ((tail_ s a).take n).length ≤ s.size
    rw [List.length_take]; omega
  · exact ⟨ha, by simp⟩
theorem cShort_le (s : ByteArray) {a : Nat} (b : Bool) (ha : a ≤ s.size) : (cShort s a b).2.1 ≤ s.size ∧ (cShort s a b).1.length ≤ s.size := cTake_le s _ _ (rNum_le s a b ha).2.1
theorem rText_le (s : ByteArray) {a : Nat} (b : Bool) (ha : a ≤ s.size) : (rText s a b).2.1 ≤ s.size ∧ (rText s a b).1.length ≤ 20000 := by
  cases h : (rText s a b).2.2
  · have e : rText s a b = ((rText s a b).1, (rText s a b).2.1, false) := by rw [← h]
    obtain ⟨_, h1, h2, _⟩ := rText_took ha e
    exact ⟨h2, h1⟩
  · by_cases hc : b = true ∨ readShort (tail_ s a) = none
    · rw [rText_no s a hc]; exact ⟨ha, by simp⟩
    · have hb : b = false := by cases b <;> simp_all
      subst hb
      cases hv : readShort (tail_ s a) with
      | none => exact (hc (.inr hv)).elim
      | some pk => rw [rText_yes hv] at h; cases h
theorem rByte_le (s : ByteArray) {a : Nat} (b : Bool) (ha : a ≤ s.size) : (rByte s a b).2.1 ≤ s.size ∧ (rByte s a b).1 < 256 := by
  unfold rByte
  split
  · rename_i h
    exact ⟨h.2, UInt8.toNat_lt _⟩
  · exact ⟨ha, by show 0 < 256; omega⟩

/-- n things read one behind the other, while none is wanting. -/
def itemsBy {α : Type} (f : Nat → α × Nat × Bool) : Nat → Nat → Bool → List α × Nat × Bool
  | 0, a, b => ([], a, b)
  | _ + 1, a, true => ([], a, true)
  | n + 1, a, false => ((f a).1 :: (itemsBy f n (f a).2.1 (f a).2.2).1, (itemsBy f n (f a).2.1 (f a).2.2).2)
theorem itemsBy_bad {α : Type} (f : Nat → α × Nat × Bool) (n a : Nat) : itemsBy f n a true = ([], a, true) := by cases n <;> rfl
theorem itemsBy_step {α : Type} (f : Nat → α × Nat × Bool) {n : Nat} (a : Nat) (hn : 0 < n) : itemsBy f n a false = ((f a).1 :: (itemsBy f (n - 1) (f a).2.1 (f a).2.2).1, (itemsBy f (n - 1) (f a).2.1 (f a).2.2).2) := by
  obtain ⟨m, rfl⟩ : ∃ m, n = m + 1 := ⟨n - 1, by omega⟩
  rfl
theorem itemsBy_took {α : Type} {f : Nat → α × Nat × Bool} {enc : α → List UInt8} {s : ByteArray} (hf : ∀ a x a', a ≤ s.size → f a = (x, a', false) → Took s a (enc x) a') :
    ∀ (n a : Nat) (b : Bool) (xs : List α) (a' : Nat), a ≤ s.size → itemsBy f n a b = (xs, a', false) → b = false ∧ xs.length = n ∧ Took s a (xs.map enc).flatten a'
  | 0, a, b, xs, a', ha, h => by
    simp only [itemsBy, Prod.mk.injEq] at h
    obtain ⟨rfl, rfl, rfl⟩ := h
    exact ⟨rfl, rfl, Took.nil ha⟩
  | n + 1, a, true, xs, a', ha, h => by simp [itemsBy] at h
  | n + 1, a, false, xs, a', ha, h => by
    simp only [itemsBy, Prod.mk.injEq] at h
    obtain ⟨rfl, h2⟩ := h
    have hb : (f a).2.2 = false := by
      cases hq : (f a).2.2
      · rfl
      · rw [hq, itemsBy_bad] at h2; simp at h2
    have h1 := hf a (f a).1 (f a).2.1 ha (by rw [← hb])
    obtain ⟨_, h4, h5⟩ := itemsBy_took hf n (f a).2.1 (f a).2.2 (itemsBy f n (f a).2.1 (f a).2.2).1 a' h1.1 (by rw [← h2])
    refine ⟨rfl, by rw [List.length_cons, h4], ?_⟩
    rw [List.map_cons, List.flatten_cons]
    exact h1.trans h5
theorem itemsBy_put {α : Type} {f : Nat → α × Nat × Bool} {enc : α → List UInt8} {s : ByteArray} {good : α → Prop} (hf : ∀ a x l, a ≤ s.size → good x → tail_ s a = enc x ++ l → f a = (x, a + (enc x).length, false)) :
    ∀ (xs : List α) (a : Nat) (l : List UInt8), a ≤ s.size → (∀ x ∈ xs, good x) → tail_ s a = (xs.map enc).flatten ++ l → itemsBy f xs.length a false = (xs, a + (xs.map enc).flatten.length, false)
  | [], a, l, _, _, _ => rfl
  | x :: xs, a, l, ha, hg, h => by
    rw [List.map_cons, List.flatten_cons, List.append_assoc] at h
    have h1 := hf a x _ ha (hg x (by simp)) h
    obtain ⟨h2, h3⟩ := tail_le ha h
    have ih := itemsBy_put hf xs _ l h2 (fun y hy => hg y (by simp [hy])) h3
    rw [List.length_cons, itemsBy, h1]
    show (x :: (itemsBy f xs.length (a + (enc x).length) false).1, (itemsBy f xs.length (a + (enc x).length) false).2) = _
    rw [ih, List.map_cons, List.flatten_cons, List.length_append, Nat.add_assoc]
/-- Where a loop that reads stands: what it has, and what is still to come. -/
def Reads {α : Type} (f : Nat → α × Nat × Bool) (n : Nat) (whole : List α × Nat × Bool) (i : Nat) (acc : List α) (a : Nat) (b : Bool) : Prop := whole = (acc ++ (itemsBy f (n - i) a b).1, (itemsBy f (n - i) a b).2)
theorem Reads.start {α : Type} (f : Nat → α × Nat × Bool) (n a : Nat) (b : Bool) : Reads f n (itemsBy f n a b) 0 [] a b := rfl
theorem Reads.step {α : Type} {f : Nat → α × Nat × Bool} {n i a : Nat} {w : List α × Nat × Bool} {acc : List α} (h : Reads f n w i acc a false) (hi : i < n) : Reads f n w (i + 1) (acc ++ [(f a).1]) (f a).2.1 (f a).2.2 := by
  have hp : 0 < n - i := by omega
  unfold Reads at h ⊢
  rw [itemsBy_step f a hp, Nat.sub_sub] at h
  rw [h, List.append_assoc]
  rfl
theorem Reads.stop {α : Type} {f : Nat → α × Nat × Bool} {n i a : Nat} {b : Bool} {w : List α × Nat × Bool} {acc : List α} (h : Reads f n w i acc a b) (hi : ¬ (i < n ∧ b = false)) : w = (acc, a, b) := by
  unfold Reads at h
  cases b
  · have hi' : ¬ i < n := fun hh => hi ⟨hh, rfl⟩
    rw [show n - i = 0 by omega] at h
    simpa [itemsBy] using h
  · rw [itemsBy_bad] at h
    simpa using h
end Go.Proofs.YtaacpdejpcbbbaaGreatDoor
