/- Segments: placedIn: the batches of a segment's file, their places, in memory. -/
import Derived.Test.YtaacpdejpcbbbaaGreatDoorSeg2
import Derived.Test.YtaacpdejpcbbbaaGreatDoorBReadI
namespace Go.Proofs.YtaacpdejpcbbbaaGreatDoor
set_option linter.unusedVariables false
set_option linter.unusedSimpArgs false
open Go.RowKit
attribute [local go_sem] bs_size List.length_cons List.length_nil List.length_append

/-! ### Rows of changes, each its own -/
def ChSmall (cs : List ChD) : Prop := ∀ x ∈ cs, x.1.size ≤ 9223372036854775807 ∧ x.2.1.size ≤ 9223372036854775807
theorem ChOwn.kept {w w' : World} {B : Nat} {v : Value} {cs : List ChD} {row : Option Nat} (h : ChOwn w B v cs) (hg : w.grownBy w' row) (hne : ∀ k, v.ownBlock = some k → row ≠ some k) : ChOwn w' B v cs := by
  refine World.ownsRow.kept h hg ?_
  cases hv : v.ownBlock with
  | none => exact .inl rfl
  | some k => exact .inr fun e => hne k hv e.symm
theorem ChOwn.lt {w : World} {B : Nat} {v : Value} {cs : List ChD} (h : ChOwn w B v cs) : ∀ k, v.ownBlock = some k → B ≤ k ∧ k < w.heap.size := World.ownsRow.lt h
theorem ChOwn.mono {w : World} {B B' : Nat} {v : Value} {cs : List ChD} (h : ChOwn w B v cs) (hb : B' ≤ B) : ChOwn w B' v cs := own_low h hb
def RowsC (w : World) (B : Nat) : List Value → List (List ChD) → Prop
  | [], [] => True
  | v :: vs, xs :: xss => ChOwn w B v xs ∧ ChSmall xs ∧ (∀ k, v.ownBlock = some k → ∀ u ∈ vs, u.ownBlock ≠ some k) ∧ RowsC w B vs xss
  | _, _ => False
theorem RowsC.length {w : World} {B : Nat} : ∀ {vs : List Value} {xss : List (List ChD)}, RowsC w B vs xss → vs.length = xss.length
  | [], [], _ => rfl
  | _ :: _, _ :: _, h => by rw [List.length_cons, List.length_cons, RowsC.length h.2.2.2]
  | [], _ :: _, h => h.elim
  | _ :: _, [], h => h.elim
theorem RowsC.lt {w : World} {B : Nat} : ∀ {vs : List Value} {xss : List (List ChD)}, RowsC w B vs xss → ∀ u ∈ vs, ∀ k, u.ownBlock = some k → B ≤ k ∧ k < w.heap.size
  | [], [], _, u, hu, _, _ => by simp at hu
  | v :: vs, xs :: xss, h, u, hu, k, hk => by
    rcases List.mem_cons.1 hu with rfl | hu
    · exact h.1.lt k hk
    · exact RowsC.lt h.2.2.2 u hu k hk
  | [], _ :: _, h, _, _, _, _ => h.elim
  | _ :: _, [], h, _, _, _, _ => h.elim
theorem RowsC.kept {w w' : World} {B : Nat} {row : Option Nat} (hg : w.grownBy w' row) : ∀ {vs : List Value} {xss : List (List ChD)}, RowsC w B vs xss → (∀ u ∈ vs, ∀ k, u.ownBlock = some k → row ≠ some k) → RowsC w' B vs xss
  | [], [], _, _ => trivial
  | v :: vs, xs :: xss, h, hne => ⟨h.1.kept hg (hne v (by simp)), h.2.1, h.2.2.1, RowsC.kept hg h.2.2.2 fun u hu => hne u (by simp [hu])⟩
  | [], _ :: _, h, _ => h.elim
  | _ :: _, [], h, _ => h.elim
theorem RowsC.snoc {w : World} {B : Nat} {v : Value} {xs : List ChD} (hv : ChOwn w B v xs) (hx : ChSmall xs) : ∀ {vs : List Value} {xss : List (List ChD)}, RowsC w B vs xss → (∀ u ∈ vs, ∀ k, u.ownBlock = some k → v.ownBlock ≠ some k) → RowsC w B (vs ++ [v]) (xss ++ [xs])
  | [], [], _, _ => ⟨hv, hx, fun _ _ u hu => by simp at hu, trivial⟩
  | u :: vs, ys :: xss, h, hne => ⟨h.1, h.2.1, fun k hk z hz => by
      rcases List.mem_append.1 hz with hz | hz
      · exact h.2.2.1 k hk z hz
      · obtain rfl := List.mem_singleton.1 hz
        exact hne u (by simp) k hk, RowsC.snoc hv hx h.2.2.2 fun z hz => hne z (by simp [hz])⟩
  | [], _ :: _, h, _ => h.elim
  | _ :: _, [], h, _ => h.elim
theorem RowsC.at_ {w : World} {B : Nat} : ∀ {vs : List Value} {xss : List (List ChD)} {j : Nat}, RowsC w B vs xss → j < vs.length → ∃ v xs, vs[j]? = some v ∧ xss[j]? = some xs ∧ ChOwn w B v xs ∧ ChSmall xs
  | [], [], _, _, hj => by simp at hj
  | v :: vs, xs :: xss, 0, h, _ => ⟨v, xs, rfl, rfl, h.1, h.2.1⟩
  | v :: vs, xs :: xss, j + 1, h, hj => by simpa using RowsC.at_ h.2.2.2 (by simpa using hj)
  | [], _ :: _, _, h, _ => h.elim
  | _ :: _, [], _, h, _ => h.elim
theorem RowsC.mono {w : World} {B B' : Nat} (hB : B' ≤ B) : ∀ {vs : List Value} {xss : List (List ChD)}, RowsC w B vs xss → RowsC w B' vs xss
  | [], [], _ => trivial
  | v :: vs, xs :: xss, h => ⟨h.1.mono hB, h.2.1, h.2.2.1, RowsC.mono hB h.2.2.2⟩
  | [], _ :: _, h => h.elim
  | _ :: _, [], h => h.elim
/-- The row at j gets other changes; the others are as they were. -/
theorem RowsC.set {w w' : World} {B : Nat} {v : Value} {ys : List ChD} (hy : ChSmall ys) (hg : w.grownBy w' v.ownBlock) (hv : ChOwn w' B v ys) : ∀ {vs : List Value} {xss : List (List ChD)} {j : Nat}, RowsC w B vs xss → vs[j]? = some v → RowsC w' B vs (xss.set j ys)
  | [], [], _, _, h => by simp at h
  | u :: vs, xs :: xss, 0, h, e => by
    obtain rfl : u = v := by simpa using e
    refine ⟨hv, hy, h.2.2.1, RowsC.kept hg h.2.2.2 fun z hz k hk e2 => ?_⟩
    exact h.2.2.1 k e2 z hz hk
  | u :: vs, xs :: xss, j + 1, h, e => by
    have e' : vs[j]? = some v := by simpa using e
    have hm : v ∈ vs := List.mem_of_getElem? e'
    exact ⟨h.1.kept hg fun k hk e2 => h.2.2.1 k hk v hm e2, h.2.1, h.2.2.1, RowsC.set hy hg hv h.2.2.2 e'⟩
  | [], _ :: _, _, h, _ => h.elim
  | _ :: _, [], _, h, _ => h.elim
/-! ### A list of things, each with a row of changes: te, sz the outer row's element, f a thing's cells -/
def OutC {α : Type} (te : TypeId) (sz : Nat) (f : Value × α → List Value) (w : World) (B : Nat) (v : Value) (zs : List (Value × α)) : Prop := w.ownsRow B te sz v zs.length ((zs.map f).flatten) ∧ ∀ k, v.ownBlock = some k → ∀ z ∈ zs, z.1.ownBlock ≠ some k
def ListC {α : Type} (te : TypeId) (sz : Nat) (f : Value × α → List Value) (g : α → List ChD) (w : World) (B : Nat) (v : Value) (xs : List α) : Prop := ∃ zs : List (Value × α), zs.map Prod.snd = xs ∧ OutC te sz f w B v zs ∧ RowsC w B (zs.map Prod.fst) (xs.map g)
section
variable {α : Type} {te : TypeId} {sz : Nat} {f : Value × α → List Value} {g : α → List ChD}
theorem ListC.nil (w : World) (B : Nat) : ListC te sz f g w B (.slice none 0 0) [] := ⟨[], rfl, ⟨World.ownsRow_nil _ _ _ _, fun k hk => by simp [Value.ownBlock] at hk⟩, trivial⟩
theorem ListC.made {w : World} {B : Nat} (h : B ≤ w.heap.size) : ListC te sz f g (w.alloc (.cells #[] te)) B (.slice (some ⟨w.heap.size, 0, none⟩) 0 0) [] := ⟨[], rfl, ⟨World.ownsRow_made (w := w) #[] 0 h (Nat.zero_le _) (by simp), fun k _ z hz => by simp at hz⟩, trivial⟩
theorem ListC.kept {w w' : World} {B : Nat} {v : Value} {xs : List α} {row : Option Nat} (h : ListC te sz f g w B v xs) (hg : w.grownBy w' row) (hr : ∀ k, row = some k → w.heap.size ≤ k ∨ k < B) : ListC te sz f g w' B v xs := by
  obtain ⟨zs, h0, h1, h2⟩ := h
  refine ⟨zs, h0, ⟨h1.1.kept hg ?_, h1.2⟩, h2.kept hg fun u hu k hk e => ?_⟩
  · cases hv : v.ownBlock with
    | none => exact .inl rfl
    | some k =>
      refine .inr fun e => ?_
      have := h1.1.lt k hv
      have := hr k e.symm
      omega
  · have := h2.lt u hu k hk
    have := hr k e
    omega
theorem ListC.below {w w' : World} {B : Nat} {v : Value} {xs : List α} (h : ListC te sz f g w B v xs) (hb : Below w.heap.size w w') : ListC te sz f g w' B v xs := h.kept (grown_of_below (r := none) hb) fun k e => by cases e
theorem ListC.alloc {w : World} {B : Nat} {v : Value} {xs : List α} (h : ListC te sz f g w B v xs) (o : Obj) : ListC te sz f g (w.alloc o) B v xs := h.below ((Below.refl _ _).alloc (Nat.le_refl _) o)
theorem ListC.mono {w : World} {B B' : Nat} {v : Value} {xs : List α} (h : ListC te sz f g w B v xs) (hB : B' ≤ B) : ListC te sz f g w B' v xs := by
  obtain ⟨zs, h0, h1, h2⟩ := h
  exact ⟨zs, h0, ⟨own_low h1.1 hB, h1.2⟩, h2.mono hB⟩
theorem ListC.form {w : World} {B : Nat} {v : Value} {xs : List α} (h : ListC te sz f g w B v xs) : ∃ A c, v = .slice A xs.length c := by
  obtain ⟨zs, rfl, h1, _⟩ := h
  rw [List.length_map]
  rcases h1.1.2 with ⟨rfl, h0⟩ | ⟨b, cap, cur, rfl, _⟩
  · exact ⟨none, 0, by rw [h0]⟩
  · exact ⟨_, _, rfl⟩
/-- What stands at j: its cells, its row of changes. -/
theorem ListC.at_ {w : World} {B : Nat} {A : Option Addr} {n c : Nat} {xs : List α} (h : ListC te sz f g w B (.slice A n c) xs) (hf : ∀ z, (f z).length = sz) {j : Nat} {x : α} (hj : xs[j]? = some x) :
    ∃ b u, A = some ⟨b, 0, none⟩ ∧ (∀ d, d < sz → w.cell? ⟨b, j * sz + d, none⟩ = (f (u, x))[d]?) ∧ ChOwn w B u (g x) ∧ ChSmall (g x) := by
  obtain ⟨zs, rfl, h1, h2⟩ := h
  obtain ⟨z, hz, rfl⟩ : ∃ z, zs[j]? = some z ∧ z.2 = x := by
    rw [List.getElem?_map] at hj
    cases hz : zs[j]? with
    | none => rw [hz] at hj; cases hj
    | some z => rw [hz] at hj; exact ⟨z, rfl, Option.some.inj hj⟩
  have hjl := (List.getElem?_eq_some_iff.1 hz).1
  obtain ⟨u, ys, e1, e2, ho, hs⟩ := h2.at_ (j := j) (by rw [List.length_map]; exact hjl)
  rw [List.getElem?_map, hz] at e1
  obtain rfl := Option.some.inj e1
  rw [List.getElem?_map, List.getElem?_map, hz] at e2
  obtain rfl := Option.some.inj e2
  rcases own_cells hf h1.1 with ⟨_, e⟩ | ⟨b, cap, e, _, _, _, _, hc⟩
  · rw [e] at hz; simp at hz
  · injection e with ea _ _
    exact ⟨b, z.1, ea, fun d hd => hc j z d hz hd, ho, hs⟩
theorem ListC.lt {w : World} {B : Nat} {v : Value} {xs : List α} (h : ListC te sz f g w B v xs) : ∀ k, v.ownBlock = some k → B ≤ k ∧ k < w.heap.size := by
  obtain ⟨zs, _, h1, _⟩ := h
  exact h1.1.lt
/-- One thing more behind the list: its row u is new; the cells were laid into a block of their own. -/
theorem ListC.pushed {w w2 : World} {B b cap : Nat} {v u : Value} {xs : List α} {x : α} (zs : List (Value × α)) (h0 : zs.map Prod.snd = xs) (h1 : OutC te sz f w B v zs) (h2 : RowsC w B (zs.map Prod.fst) (xs.map g)) (hu : ChOwn w B u (g x)) (hsm : ChSmall (g x))
    (hnew : ∀ k, u.ownBlock = some k → v.ownBlock ≠ some k ∧ ∀ z ∈ zs, z.1.ownBlock ≠ some k)
    (hown : w2.ownsRow B te sz (.slice (some ⟨b, 0, none⟩) (zs.length + 1) cap) (zs.length + 1) ((zs.map f).flatten ++ f (u, x))) (hg : w.grownBy w2 v.ownBlock) (hat : v.ownBlock = some b ∨ b = w.heap.size) :
    ListC te sz f g w2 B (.slice (some ⟨b, 0, none⟩) (zs.length + 1) cap) (xs ++ [x]) := by
  have hb : ∀ z ∈ zs ++ [(u, x)], z.1.ownBlock ≠ some b := by
    intro z hz e
    have hlt : b < w.heap.size := by
      rcases List.mem_append.1 hz with hz | hz
      · exact (h2.lt z.1 (List.mem_map_of_mem hz) b e).2
      · obtain rfl := List.mem_singleton.1 hz
        exact (hu.lt b e).2
    rcases hat with h | h
    · rcases List.mem_append.1 hz with hz | hz
      · exact h1.2 b h z hz e
      · obtain rfl := List.mem_singleton.1 hz
        exact (hnew b e).1 h
    · omega
  refine ⟨zs ++ [(u, x)], by rw [List.map_append, h0]; rfl, ⟨?_, fun k hk z hz => ?_⟩, ?_⟩
  · rw [List.length_append, List.map_append, List.flatten_append]
    simpa using hown
  · simp only [Value.ownBlock, Option.some.injEq] at hk
    subst hk
    exact hb z hz
  · rw [List.map_append, List.map_append]
    refine RowsC.snoc (hu.kept hg fun k hk e => (hnew k hk).1 e) hsm (h2.kept hg fun z hz k hk e => ?_) fun z hz k hk e => ?_
    · obtain ⟨q, hq, rfl⟩ := List.mem_map.1 hz
      exact h1.2 k e q hq hk
    · obtain ⟨q, hq, rfl⟩ := List.mem_map.1 hz
      exact (hnew k e).2 q hq hk
/-- The same, packed: at wr the list stands; at w6 the new row u is there; then the append. -/
theorem ListC.push {wr w6 : World} {B : Nat} {v u : Value} {xs : List α} {x : α} (h : ListC te sz f g wr B v xs) (hb6 : Below wr.heap.size wr w6) (hu : ChOwn w6 B u (g x)) (hsm : ChSmall (g x)) (hun : ∀ k, u.ownBlock = some k → wr.heap.size ≤ k) :
    ∃ fl, w6.ownsRow B te sz v xs.length fl ∧ ∀ b cap w7, w7.ownsRow B te sz (.slice (some ⟨b, 0, none⟩) (xs.length + 1) cap) (xs.length + 1) (fl ++ f (u, x)) → w6.grownBy w7 v.ownBlock → (v.ownBlock = some b ∨ b = w6.heap.size) → ListC te sz f g w7 B (.slice (some ⟨b, 0, none⟩) (xs.length + 1) cap) (xs ++ [x]) := by
  obtain ⟨zs, rfl, h1, h2⟩ := h
  have hg := grown_of_below (r := none) hb6
  have h1' : OutC te sz f w6 B v zs := ⟨own_keep h1.1 hb6, h1.2⟩
  have h2' : RowsC w6 B (zs.map Prod.fst) ((zs.map Prod.snd).map g) := h2.kept hg fun u _ k _ e => by cases e
  refine ⟨(zs.map f).flatten, by rw [List.length_map]; exact h1'.1, fun b cap w7 hown hgr hat => ?_⟩
  rw [List.length_map] at hown ⊢
  refine ListC.pushed zs rfl h1' h2' hu hsm (fun k hk => ⟨fun e => ?_, fun z hz e => ?_⟩) hown hgr hat
  · have := (h1.1.lt k e).2
    have := hun k hk
    omega
  · have := (h2.lt z.1 (List.mem_map_of_mem hz) k e).2
    have := hun k hk
    omega
end
end Go.Proofs.YtaacpdejpcbbbaaGreatDoor
