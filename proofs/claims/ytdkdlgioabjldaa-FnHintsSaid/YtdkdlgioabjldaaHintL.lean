/- The plain law of ReadHint: what the program reads and what the reference reads is the directory whose hint it is. -/
import Derived.Test.YtdkdlgioabjldaaRdL
import Derived.Test.YtdkdlgioabjldaaSum
namespace Go.Proofs.Ytdkdlgioabjldaa
set_option linter.unusedVariables false
set_option linter.unusedSimpArgs false
open Go.RowKit

/-- A spot: its key, segment, place, sequence number. -/
abbrev SpotD := ByteArray × Int × Int × Int
def spBytes (x : SpotD) : List UInt8 := shortB (ub x.1) ++ (varBytes x.2.1.toNat ++ (varBytes x.2.2.1.toNat ++ varBytes x.2.2.2.toNat))
def spsBytes (ds : List SpotD) : List UInt8 := (ds.map spBytes).flatten
def spOkB (x : SpotD) : Bool := inR (x.1.size : Int) 1 20 && inR x.2.1 0 99 && inR x.2.2.1 0 20000 && inR x.2.2.2 0 1000000000
/-- The spot at i, and its key against the one ahead of it. -/
def spAt (ds : List SpotD) (i : Nat) : Bool := match ds[i]? with
  | none => true
  | some x => spOkB x && (match i with
    | 0 => true
    | j + 1 => match ds[j]? with
      | none => true
      | some p => Op.bytesLess p.1.toList x.1.toList)
def dirOkB (ds : List SpotD) : Bool := ((List.range ds.length).all fun i => spAt ds i) && decide (ds.length ≤ 200)
def hintInner (ds : List SpotD) : List UInt8 := varBytes ds.length ++ spsBytes ds
def hintText (ds : List SpotD) : Option (List UInt8) := if dirOkB ds = true then some (hintInner ds ++ sum4 (hintInner ds)) else none
def IsHint (s : ByteArray) (ds : List SpotD) : Prop := hintText ds = some (ub s)
theorem isHint_parts {s : ByteArray} {ds : List SpotD} (h : IsHint s ds) : dirOkB ds = true ∧ ub s = hintInner ds ++ sum4 (hintInner ds) := by
  unfold IsHint hintText at h
  split at h
  · rename_i hc
    exact ⟨hc, (Option.some.inj h).symm⟩
  · cases h
theorem inR_iff {n lo hi : Int} : inR n lo hi = true ↔ lo ≤ n ∧ n ≤ hi := by
  unfold inR
  simp [Bool.and_eq_true]
theorem spOk_parts {x : SpotD} (h : spOkB x = true) : (1 ≤ x.1.size ∧ x.1.size ≤ 20) ∧ (0 ≤ x.2.1 ∧ x.2.1 ≤ 99) ∧ (0 ≤ x.2.2.1 ∧ x.2.2.1 ≤ 20000) ∧ (0 ≤ x.2.2.2 ∧ x.2.2.2 ≤ 1000000000) := by
  unfold spOkB at h
  simp only [Bool.and_eq_true, inR_iff] at h
  obtain ⟨⟨⟨h1, h2⟩, h3⟩, h4⟩ := h
  exact ⟨by omega, h2, h3, h4⟩
theorem dirOk_parts {ds : List SpotD} (h : dirOkB ds = true) : ds.length ≤ 200 ∧ ∀ x ∈ ds, spOkB x = true := by
  unfold dirOkB at h
  simp only [Bool.and_eq_true, decide_eq_true_eq] at h
  refine ⟨h.2, fun x hx => ?_⟩
  obtain ⟨i, hi, e⟩ := List.mem_iff_getElem.1 hx
  have h1 := List.all_eq_true.1 h.1 i (List.mem_range.2 hi)
  unfold spAt at h1
  rw [List.getElem?_eq_getElem hi, e] at h1
  simp only [Bool.and_eq_true] at h1
  exact h1.1
theorem spBytes_len {x : SpotD} (h : spOkB x = true) : (spBytes x).length ≤ 60 := by
  obtain ⟨h1, h2, h3, h4⟩ := spOk_parts h
  have q1 := shortB_len x.1 (by omega)
  have q2 := varBytes_length 8 x.2.1.toNat (by omega)
  have q3 := varBytes_length 8 x.2.2.1.toNat (by omega)
  have q4 := varBytes_length 8 x.2.2.2.toNat (by omega)
  unfold spBytes
  simp only [List.length_append]
  omega
theorem spsBytes_len : ∀ (ds : List SpotD), (∀ x ∈ ds, spOkB x = true) → (spsBytes ds).length ≤ 60 * ds.length
  | [], _ => by simp [spsBytes]
  | x :: ds, h => by
    have h1 := spBytes_len (h x (by simp))
    have h2 := spsBytes_len ds fun y hy => h y (by simp [hy])
    have e : spsBytes (x :: ds) = spBytes x ++ spsBytes ds := by simp [spsBytes]
    rw [e, List.length_append, List.length_cons]
    omega
theorem hintInner_len {ds : List SpotD} (h : dirOkB ds = true) : (hintInner ds).length ≤ 12009 := by
  obtain ⟨h1, h2⟩ := dirOk_parts h
  have q := varBytes_length 8 ds.length (by omega)
  have q2 := spsBytes_len ds h2
  unfold hintInner
  rw [List.length_append]
  omega
theorem unsealed_hint {s : ByteArray} {ds : List SpotD} (h : IsHint s ds) : unsealed (ub s) = some (hintInner ds) ∧ s.size ≤ 12013 := by
  obtain ⟨h1, h2⟩ := isHint_parts h
  have hl := hintInner_len h1
  have hn : (ub s).length = (hintInner ds).length + 4 := by rw [h2, List.length_append, sum4_len]
  have e : (ub s).length - 4 = (hintInner ds).length := by omega
  have ht : (ub s).take ((ub s).length - 4) = hintInner ds := by rw [e, h2, List.take_left' rfl]
  have hd : (ub s).drop ((ub s).length - 4) = sum4 (hintInner ds) := by rw [e, h2, List.drop_left' rfl]
  refine ⟨?_, by rw [← ub_length]; omega⟩
  unfold unsealed
  rw [ht, hd, if_pos ⟨by omega, by omega, rfl⟩]
theorem unsealed_took {l t : List UInt8} (h : unsealed l = some t) : l = t ++ sum4 t := by
  unfold unsealed at h
  split at h
  · rename_i hc
    have e := Option.some.inj h
    rw [← e, ← hc.2.2, List.take_append_drop]
  · cases h
/-! ### The program's reading -/
def htK (s : ByteArray) (a : Nat) (b : Bool) : List UInt8 × Nat × Bool := rText s a b
def htS (s : ByteArray) (a : Nat) (b : Bool) : Nat × Nat × Bool := rNum s (htK s a b).2.1 (htK s a b).2.2
def htA (s : ByteArray) (a : Nat) (b : Bool) : Nat × Nat × Bool := rNum s (htS s a b).2.1 (htS s a b).2.2
def htQ (s : ByteArray) (a : Nat) (b : Bool) : Nat × Nat × Bool := rNum s (htA s a b).2.1 (htA s a b).2.2
def spI (s : ByteArray) (a : Nat) : SpotD × Nat × Bool := ((bs (htK s a false).1, ((htS s a false).1 : Int), ((htA s a false).1 : Int), ((htQ s a false).1 : Int)), (htQ s a false).2)
def hiN (t : ByteArray) : Nat × Nat × Bool := rNum t 0 false
def hiX (t : ByteArray) : List SpotD × Nat × Bool := itemsBy (spI t) (hiN t).1 (hiN t).2.1 (hiN t).2.2
def readHintI (s : ByteArray) : Option (List SpotD) := match unsealed (ub s) with
  | none => none
  | some t => if s.size ≤ 20000 ∧ rDone (bs t) (hiX (bs t)).2.1 (hiX (bs t)).2.2 = true ∧ dirOkB (hiX (bs t)).1 = true then some (hiX (bs t)).1 else none
/-! ### The reference's reading -/
def hsK (s : ByteArray) (a : Nat) (b : Bool) : List UInt8 × Nat × Bool := cShort s a b
def hsS (s : ByteArray) (a : Nat) (b : Bool) : Nat × Nat × Bool := rNum s (hsK s a b).2.1 (hsK s a b).2.2
def hsA (s : ByteArray) (a : Nat) (b : Bool) : Nat × Nat × Bool := rNum s (hsS s a b).2.1 (hsS s a b).2.2
def hsQ (s : ByteArray) (a : Nat) (b : Bool) : Nat × Nat × Bool := rNum s (hsA s a b).2.1 (hsA s a b).2.2
def spS (s : ByteArray) (a : Nat) : SpotD × Nat × Bool := ((bs (hsK s a false).1, ((hsS s a false).1 : Int), ((hsA s a false).1 : Int), ((hsQ s a false).1 : Int)), (hsQ s a false).2)
/-- The text under the seal, and whether there is none. -/
def hsT (s : ByteArray) : ByteArray × Bool := match unsealed (ub s) with
  | some t => (bs t, false)
  | none => (⟨#[]⟩, true)
def hsN (s : ByteArray) : Nat × Nat × Bool := rNum (hsT s).1 0 (hsT s).2
def hsX (s : ByteArray) : List SpotD × Nat × Bool := itemsBy (spS (hsT s).1) (min (hsN s).1 300) (hsN s).2.1 (hsN s).2.2
def readHintS (s : ByteArray) : Option (List SpotD) := if (hsX s).2.2 = false ∧ hintText (hsX s).1 = some (ub s) then some (hsX s).1 else none

theorem spI_put {s : ByteArray} (a : Nat) (x : SpotD) (l : List UInt8) (_ : a ≤ s.size) (hx : spOkB x = true) (h : tail_ s a = spBytes x ++ l) : spI s a = (x, a + (spBytes x).length, false) := by
  obtain ⟨h1, h2, h3, h4⟩ := spOk_parts hx
  obtain ⟨k, g, p, q⟩ := x
  dsimp only at h1 h2 h3 h4
  obtain ⟨g, rfl⟩ := Int.eq_ofNat_of_zero_le h2.1
  obtain ⟨p, rfl⟩ := Int.eq_ofNat_of_zero_le h3.1
  obtain ⟨q, rfl⟩ := Int.eq_ofNat_of_zero_le h4.1
  have h0 : tail_ s a = shortB (ub k) ++ (varBytes g ++ (varBytes p ++ (varBytes q ++ l))) := by rw [h]; simp [spBytes, List.append_assoc]
  have e1 : htK s a false = (ub k, a + (shortB (ub k)).length, false) := rText_put (by rw [ub_length]; omega) h0
  have l1 := tail_le ‹_› h0
  have e2 : htS s a false = (g, a + (shortB (ub k)).length + (varBytes g).length, false) := by
    unfold htS
    rw [e1]
    exact rNum_put (by omega) l1.2
  have l2 := tail_le l1.1 l1.2
  have e3 : htA s a false = (p, a + (shortB (ub k)).length + (varBytes g).length + (varBytes p).length, false) := by
    unfold htA
    rw [e2]
    exact rNum_put (by omega) l2.2
  have l3 := tail_le l2.1 l2.2
  have e4 : htQ s a false = (q, a + (shortB (ub k)).length + (varBytes g).length + (varBytes p).length + (varBytes q).length, false) := by
    unfold htQ
    rw [e3]
    exact rNum_put (by omega) l3.2
  unfold spI
  rw [e1, e2, e3, e4, bs_ub]
  simp [spBytes]
  omega
theorem spS_put {s : ByteArray} (a : Nat) (x : SpotD) (l : List UInt8) (ha : a ≤ s.size) (hx : spOkB x = true) (h : tail_ s a = spBytes x ++ l) : spS s a = (x, a + (spBytes x).length, false) := by
  obtain ⟨h1, h2, h3, h4⟩ := spOk_parts hx
  obtain ⟨k, g, p, q⟩ := x
  dsimp only at h1 h2 h3 h4
  obtain ⟨g, rfl⟩ := Int.eq_ofNat_of_zero_le h2.1
  obtain ⟨p, rfl⟩ := Int.eq_ofNat_of_zero_le h3.1
  obtain ⟨q, rfl⟩ := Int.eq_ofNat_of_zero_le h4.1
  have h0 : tail_ s a = shortB (ub k) ++ (varBytes g ++ (varBytes p ++ (varBytes q ++ l))) := by rw [h]; simp [spBytes, List.append_assoc]
  have e1 : hsK s a false = (ub k, a + (shortB (ub k)).length, false) := cShort_put ha (by rw [ub_length]; omega) h0
  have l1 := tail_le ‹_› h0
  have e2 : hsS s a false = (g, a + (shortB (ub k)).length + (varBytes g).length, false) := by
    unfold hsS
    rw [e1]
    exact rNum_put (by omega) l1.2
  have l2 := tail_le l1.1 l1.2
  have e3 : hsA s a false = (p, a + (shortB (ub k)).length + (varBytes g).length + (varBytes p).length, false) := by
    unfold hsA
    rw [e2]
    exact rNum_put (by omega) l2.2
  have l3 := tail_le l2.1 l2.2
  have e4 : hsQ s a false = (q, a + (shortB (ub k)).length + (varBytes g).length + (varBytes p).length + (varBytes q).length, false) := by
    unfold hsQ
    rw [e3]
    exact rNum_put (by omega) l3.2
  unfold spS
  rw [e1, e2, e3, e4, bs_ub]
  simp [spBytes]
  omega
theorem spI_took {s : ByteArray} (a : Nat) (x : SpotD) (a' : Nat) (ha : a ≤ s.size) (h : spI s a = (x, a', false)) : Took s a (spBytes x) a' := by
  unfold spI at h
  simp only [Prod.mk.injEq] at h
  obtain ⟨rfl, h2⟩ := h
  have a1 : (htK s a false).2.1 ≤ s.size := (rText_le s _ ha).1
  have a2 : (htS s a false).2.1 ≤ s.size := (rNum_le s _ _ a1).2.1
  have a3 : (htA s a false).2.1 ≤ s.size := (rNum_le s _ _ a2).2.1
  obtain ⟨b3, _, t4⟩ := rNum_took a3 (n := (htQ s a false).1) (a' := a') (b := (htA s a false).2.2) (Prod.ext rfl h2)
  obtain ⟨b2, _, t3⟩ := rNum_took a2 (n := (htA s a false).1) (a' := (htA s a false).2.1) (b := (htS s a false).2.2) (Prod.ext rfl (Prod.ext rfl b3))
  obtain ⟨b1, _, t2⟩ := rNum_took a1 (n := (htS s a false).1) (a' := (htS s a false).2.1) (b := (htK s a false).2.2) (Prod.ext rfl (Prod.ext rfl b2))
  obtain ⟨_, _, t1⟩ := rText_took ha (x := (htK s a false).1) (a' := (htK s a false).2.1) (b := false) (Prod.ext rfl (Prod.ext rfl b1))
  have := ((t1.trans t2).trans t3).trans t4
  rw [List.append_assoc, List.append_assoc] at this
  unfold spBytes
  rw [ub_bs]
  exact this
theorem readHintI_put {s : ByteArray} {ds : List SpotD} (h : IsHint s ds) : readHintI s = some ds := by
  obtain ⟨hu, hsz⟩ := unsealed_hint h
  obtain ⟨hok, _⟩ := isHint_parts h
  obtain ⟨hn, hx⟩ := dirOk_parts hok
  have h0 : tail_ (bs (hintInner ds)) 0 = varBytes ds.length ++ (spsBytes ds ++ []) := by rw [tail_zero, ub_bs, hintInner, List.append_nil]
  have e1 : hiN (bs (hintInner ds)) = (ds.length, 0 + (varBytes ds.length).length, false) := rNum_put (by omega) h0
  have l1 := tail_le (Nat.zero_le _) h0
  have e2 : hiX (bs (hintInner ds)) = (ds, 0 + (varBytes ds.length).length + (spsBytes ds).length, false) := by
    unfold hiX
    rw [e1]
    exact itemsBy_put (f := spI (bs (hintInner ds))) (enc := spBytes) (good := fun x => spOkB x = true) (fun a x l ha hg hh => spI_put a x l ha hg hh) ds _ [] l1.1 hx l1.2
  have l2 := tail_le l1.1 l1.2
  have hend := (tail_nil l2.1).1 l2.2
  unfold readHintI
  rw [hu]
  dsimp only
  rw [e2, if_pos ⟨by omega, by rw [hend]; simp [rDone], hok⟩]
theorem hsT_put {s : ByteArray} {ds : List SpotD} (h : IsHint s ds) : hsT s = (bs (hintInner ds), false) := by
  unfold hsT
  rw [(unsealed_hint h).1]
theorem readHintS_put {s : ByteArray} {ds : List SpotD} (h : IsHint s ds) : readHintS s = some ds := by
  obtain ⟨hok, _⟩ := isHint_parts h
  obtain ⟨hn, hx⟩ := dirOk_parts hok
  have h0 : tail_ (bs (hintInner ds)) 0 = varBytes ds.length ++ (spsBytes ds ++ []) := by rw [tail_zero, ub_bs, hintInner, List.append_nil]
  have e1 : hsN s = (ds.length, 0 + (varBytes ds.length).length, false) := by
    unfold hsN
    rw [hsT_put h]
    exact rNum_put (by omega) h0
  have l1 := tail_le (Nat.zero_le _) h0
  have e2 : hsX s = (ds, 0 + (varBytes ds.length).length + (spsBytes ds).length, false) := by
    unfold hsX
    rw [e1, hsT_put h, show min ds.length 300 = ds.length by omega]
    exact itemsBy_put (f := spS (bs (hintInner ds))) (enc := spBytes) (good := fun x => spOkB x = true) (fun a x l ha hg hh => spS_put a x l ha hg hh) ds _ [] l1.1 hx l1.2
  unfold readHintS
  rw [e2, if_pos ⟨rfl, h⟩]
theorem readHintS_is {s : ByteArray} {ds : List SpotD} (h : readHintS s = some ds) : IsHint s ds := by
  unfold readHintS at h
  split at h
  · rename_i hc
    obtain rfl := Option.some.inj h
    exact hc.2
  · cases h
theorem readHintI_is {s : ByteArray} {ds : List SpotD} (h : readHintI s = some ds) : IsHint s ds := by
  unfold readHintI at h
  split at h
  · cases h
  · rename_i t ht
    split at h
    · rename_i hc
      obtain rfl := Option.some.inj h
      obtain ⟨_, hd, hok⟩ := hc
      simp only [rDone, Bool.and_eq_true, Bool.not_eq_true', decide_eq_true_eq] at hd
      obtain ⟨hb, hend⟩ := hd
      have a1 : (hiN (bs t)).2.1 ≤ (bs t).size := (rNum_le (bs t) 0 false (Nat.zero_le _)).2.1
      obtain ⟨b1, hlen, t2⟩ := itemsBy_took (f := spI (bs t)) (enc := spBytes) (fun a x a' ha hh => spI_took a x a' ha hh) (hiN (bs t)).1 (hiN (bs t)).2.1 (hiN (bs t)).2.2 (hiX (bs t)).1 (hiX (bs t)).2.1 a1 (Prod.ext rfl (Prod.ext rfl hb))
      obtain ⟨_, _, t1⟩ := rNum_took (s := bs t) (a := 0) (Nat.zero_le _) (n := (hiN (bs t)).1) (a' := (hiN (bs t)).2.1) (b := false) (Prod.ext rfl (Prod.ext rfl b1))
      have := (t1.trans t2).2
      rw [tail_zero, ub_bs, (tail_nil t2.1).2 hend, List.append_nil] at this
      have hin : hintInner (hiX (bs t)).1 = t := by rw [hintInner, hlen]; exact this.symm
      unfold IsHint hintText
      rw [if_pos hok, hin, ← unsealed_took ht]
    · cases h
theorem readHint_same (s : ByteArray) : readHintI s = readHintS s := by
  cases h : readHintS s with
  | some d => exact readHintI_put (readHintS_is h)
  | none =>
    cases h2 : readHintI s with
    | none => rfl
    | some d => rw [readHintS_put (readHintI_is h2)] at h; cases h
end Go.Proofs.Ytdkdlgioabjldaa
