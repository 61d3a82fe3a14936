/- The program's ReadHint: what it reads (readHintI), and in what memory. -/
import Derived.Test.YtekhfplbhcfdmaaHEach
namespace Go.Proofs.Ytekhfplbhcfdmaa
set_option linter.unusedVariables false
set_option linter.unusedSimpArgs false
open Go.RowKit
attribute [local go_sem] bs_size List.length_cons List.length_nil List.length_append

/-- A row of spots of the call's own, made from block B on. -/
def SpOwn (w : World) (B : Nat) (v : Value) (ds : List SpotD) : Prop := w.ownsRow B 61 4 v ds.length (spFlat ds)
theorem SpOwn.row {w : World} {B : Nat} {v : Value} {ds : List SpotD} (h : SpOwn w B v ds) (hs : ∀ x ∈ ds, x.1.size ≤ 9223372036854775807) : ∃ A c, v = .slice A ds.length c ∧ SpRow w A c ds := by
  rcases own_cells (f := spVals) (m := 4) (fun _ => rfl) h with ⟨rfl, rfl⟩ | ⟨g, cap, rfl, _, hg, hn, hm, hc⟩
  · exact ⟨none, 0, rfl, by simp, by simp, hs, fun h0 => by simp at h0⟩
  · refine ⟨_, cap, rfl, hn, hm, hs, fun _ => ⟨_, rfl, hg, fun j x hx => ?_⟩⟩
    rw [add_plain]
    exact ⟨hc j x 0 hx (by omega), hc j x 1 hx (by omega), hc j x 2 hx (by omega), hc j x 3 hx (by omega)⟩
theorem own_keep {w w' : World} {B : Nat} {te : TypeId} {m : Nat} {v : Value} {n : Nat} {fl : List Value} (h : w.ownsRow B te m v n fl) (hb : Below w.heap.size w w') : w'.ownsRow B te m v n fl := by
  refine World.ownsRow.kept h (grown_of_below (r := none) hb) ?_
  cases v.ownBlock
  · exact .inl rfl
  · exact .inr (by simp)
theorem own_low {w : World} {B B' : Nat} {te : TypeId} {m : Nat} {v : Value} {n : Nat} {fl : List Value} (h : w.ownsRow B te m v n fl) (hb : B' ≤ B) : w.ownsRow B' te m v n fl := by
  refine ⟨h.1, ?_⟩
  rcases h.2 with h2 | ⟨g, cap, cur, e, h3, r⟩
  · exact .inl h2
  · exact .inr ⟨g, cap, cur, e, Nat.le_trans hb h3, r⟩
theorem SpOwn.below {w w' : World} {B : Nat} {v : Value} {ds : List SpotD} (h : SpOwn w B v ds) (hb : Below w.heap.size w w') : SpOwn w' B v ds := own_keep h hb
/-- What ReadHint leaves. -/
def HintPost (w : World) (o : Option (List SpotD)) (e : Ending) (w' : World) : Prop := Below w.heap.size w w' ∧ match o with
  | none => ∃ v, e = .returned (.tuple #[v, .bool false]) ∧ SpOwn w' w.heap.size v []
  | some ds => ∃ v, e = .returned (.tuple #[v, .bool true]) ∧ SpOwn w' w.heap.size v ds
theorem hpost_nil {w w' : World} (h : Below w.heap.size w w') {o : Option (List SpotD)} (ho : o = none) : HintPost w o (.returned (.tuple #[.slice none 0 0, .bool false])) w' := by
  subst ho
  exact ⟨h, _, rfl, World.ownsRow_nil _ _ _ _⟩
abbrev hOut : Obj := .cells #[.slice none 0 0] 22
theorem hst_start (s : ByteArray) (w : World) :
    HSt w.heap.size (w.heap.size + 1 + 1) w.heap.size (w.heap.size + 1) s [] (.slice none 0 0) 0 false w (((w.alloc hOut).alloc (.cells #[.string s, .int .i64 0, .bool false] 70)).alloc (hpObj 68 (w.heap.size + 1))) := by
  have hb : Below w.heap.size w (((w.alloc hOut).alloc (.cells #[.string s, .int .i64 0, .bool false] 70)).alloc (hpObj 68 (w.heap.size + 1))) := (((Below.refl _ _).alloc (Nat.le_refl _) _).alloc (by simp) _).alloc (by simp; omega) _
  refine ⟨hb, gr_old (gr_old (blk_new w _) _) _, ?_, World.ownsRow_nil _ _ _ _, fun p hp => ?_, by simp [Value.ownBlock], by omega⟩
  · refine gr_old ?_ _
    have := blk_new (w.alloc hOut) (.cells #[.string s, .int .i64 0, .bool false] 70)
    simpa using this
  · obtain rfl := List.mem_singleton.1 hp
    refine ⟨by show w.heap.size ≤ w.heap.size + 1 + 1; omega, ?_, by show w.heap.size + 1 + 1 ≠ w.heap.size; omega, by show w.heap.size + 1 + 1 ≠ w.heap.size + 1; omega, by simp [Value.ownBlock]⟩
    have := blk_new ((w.alloc hOut).alloc (.cells #[.string s, .int .i64 0, .bool false] 70)) (hpObj 68 (w.heap.size + 1))
    simpa using this
theorem hText_len (s : ByteArray) (a : Nat) (b : Bool) : (rText s a b).1.length ≤ 20000 := by
  by_cases hc : b = true ∨ readShort (tail_ s a) = none
  · rw [rText_no s a hc]; simp
  · have hb : b = false := by cases b <;> simp_all
    subst hb
    cases hv : readShort (tail_ s a) with
    | none => exact (hc (.inr hv)).elim
    | some pk =>
      obtain ⟨y, m⟩ := pk
      rw [rText_yes hv]
      exact (readShort_took hv).2.1
theorem items_all {α : Type} {f : Nat → α × Nat × Bool} {P : α → Prop} (hf : ∀ a, P (f a).1) : ∀ (n a : Nat) (b : Bool), ∀ x ∈ (itemsBy f n a b).1, P x
  | 0, _, _, x, hx => by simp [itemsBy] at hx
  | _ + 1, _, true, x, hx => by simp [itemsBy] at hx
  | n + 1, a, false, x, hx => by
    simp only [itemsBy, List.mem_cons] at hx
    rcases hx with rfl | hx
    · exact hf a
    · exact items_all hf n _ _ x hx
theorem items_le {α : Type} {f : Nat → α × Nat × Bool} {m : Nat} (hf : ∀ a, a ≤ m → (f a).2.1 ≤ m) : ∀ (n a : Nat) (b : Bool), a ≤ m → (itemsBy f n a b).2.1 ≤ m
  | 0, _, _, h => h
  | _ + 1, _, true, h => h
  | n + 1, a, false, h => items_le hf n _ _ (hf a h)
theorem hiX_small (t : ByteArray) : ∀ x ∈ (hiX t).1, x.1.size ≤ 9223372036854775807 := items_all (fun a => by
  have h1 := hText_len t a false
  show (bs (htK t a false).1).size ≤ _
  rw [bs_size]
  unfold htK
  omega) _ _ _
theorem readHintI_none {s : ByteArray} (h : unsealed (ub s) = none) : readHintI s = none := by unfold readHintI; rw [h]
theorem readHintI_some {s : ByteArray} {t : List UInt8} (h : unsealed (ub s) = some t) : readHintI s = if s.size ≤ 20000 ∧ rDone (bs t) (hiX (bs t)).2.1 (hiX (bs t)).2.2 = true ∧ dirOkB (hiX (bs t)).1 = true then some (hiX (bs t)).1 else none := by unfold readHintI; rw [h]
theorem unsealed_len {l t : List UInt8} (h : unsealed l = some t) : t.length ≤ 20000 := by
  unfold unsealed at h
  split at h
  · rename_i hc
    rw [← Option.some.inj h, List.length_take]
    omega
  · cases h
set_option maxHeartbeats 4000000 in
set_option maxRecDepth 100000 in
theorem impl_ReadHint_calls (s : ByteArray) (w : World) (hs : s.size ≤ 1099511627776) : Calls Try.prog 10 #[.string s] w (HintPost w (readHintI s)) := by
  have hmf : ∀ (fn : Fn) (first cap : Array Value) (w : World), (Instr.makeFunc fn first cap).run Try.prog w = .ok (.func fn first cap) w := fun _ _ _ _ => rfl
  cases hu : unsealed (ub s)
  · have HU := Lib.hid hu
    have HE := Lib.hid (readHintI_none hu)
    clear hu
    go_enter Try.func10, Try.ntmps10
    go_wp2_with fail
    go_at_call 47
    refine (impl_Unsealed_calls s _ (by omega)).mono ?_
    rw [HU.out]
    rintro e w1 ⟨rfl, hb⟩
    simp only [varRes]
    go_wp2
    go_ret2
    exact hpost_nil hb HE.out
  · rename_i t
    have HU := Lib.hid hu
    have HES := Lib.hid (readHintI_some hu)
    have hts : (bs t).size ≤ 20000 := by rw [bs_size]; exact unsealed_len hu
    clear hu
    by_cases hbig : 20000 < s.size
    · have HE : Hid (readHintI s = none) := by rw [Hid, HES.out, if_neg (by omega)]
      go_enter Try.func10, Try.ntmps10
      go_wp2_with fail
      go_at_call 47
      refine (impl_Unsealed_calls s _ (by omega)).mono ?_
      rw [HU.out]
      rintro e w1 ⟨rfl, hb⟩
      simp only [varRes]
      go_wp2
      go_ret2
      exact hpost_nil hb HE.out
    · generalize hT : bs t = T at hts HES
      go_enter Try.func10, Try.ntmps10
      go_wp2_with fail
      go_at_call 47
      refine (impl_Unsealed_calls s _ (by omega)).mono ?_
      rw [HU.out]
      rintro e w1 ⟨rfl, hb⟩
      simp only [varRes]
      rw [hT]
      have HB1 := Lib.hid hb
      have HV1 := Lib.hid (hst_start T w1)
      have a1 : (hiN T).2.1 ≤ T.size := (rNum_le T _ _ (Nat.zero_le _)).2.1
      have a2 : (hiX T).2.1 ≤ T.size := items_le (f := spI T) (fun a h => spI_le T h) _ _ _ a1
      clear hb
      have cp : (((w1.alloc hOut).alloc (.cells #[.string T, .int .i64 0, .bool false] 70)).alloc (hpObj 68 (w1.heap.size + 1))).cell? ⟨w1.heap.size + 1 + 1, 0, none⟩ = some (.pointer (some ⟨w1.heap.size + 1, 0, none⟩)) := blk_cell (HV1.out.at_ (List.mem_cons_self ..)) 0
      go_wp2_with fail
      go_at_call 48
      refine (impl_each_ReadHint_calls _ _ _ _ T _ _ _ _ _ HV1.out (Nat.zero_le _) (by omega)).mono ?_
      rw [show rNum T 0 false = hiN T from rfl, show itemsBy (spI T) (hiN T).1 (hiN T).2.1 (hiN T).2.2 = hiX T from rfl]
      rintro e w2 ⟨rfl, v, hv⟩
      obtain ⟨A, c, rfl, hrow⟩ := SpOwn.row hv.own (hiX_small T)
      have HV2 := Lib.hid hv
      have HRW := Lib.hid hrow
      clear hv hrow cp
      have cp : w2.cell? ⟨w1.heap.size + 1 + 1, 0, none⟩ = some (.pointer (some ⟨w1.heap.size + 1, 0, none⟩)) := blk_cell (HV2.out.at_ (List.mem_cons_self ..)) 0
      go_wp2_with fail
      go_at_call 52
      refine (impl_done_calls _ T _ _ _ HV2.out.rd a2 (by omega)).mono ?_
      rintro e w3 ⟨rfl, hb⟩
      have HV3 := Lib.hid (HV2.out.below hb)
      have HRW3 := Lib.hid (HRW.out.below hb)
      have x0 : w3.cell? ⟨w1.heap.size, 0, none⟩ = some (.slice A (hiX T).1.length c) := HV3.out.cv 0
      clear hb cp
      cases hd : rDone T (hiX T).2.1 (hiX T).2.2
      · have HE : Hid (readHintI s = none) := by rw [Hid, HES.out, hd, if_neg (by simp)]
        clear hd
        go_wp2
        go_ret2
        exact hpost_nil (HB1.out.trans (HV3.out.bel.mono HB1.out.size)) HE.out
      · cases hok : dirOkB (hiX T).1
        · have HE : Hid (readHintI s = none) := by rw [Hid, HES.out, hok, if_neg (by simp)]
          have HO := Lib.hid hok
          clear hd hok
          go_wp2_with fail
          go_at_call 53
          refine (impl_DirOk_calls A c _ _ HRW3.out).mono ?_
          rw [HO.out]
          rintro e w4 ⟨rfl, hb⟩
          have HV4 := Lib.hid (HV3.out.below hb)
          have x1 : w4.cell? ⟨w1.heap.size, 0, none⟩ = some (.slice A (hiX T).1.length c) := HV4.out.cv 0
          clear hb
          go_wp2
          go_ret2
          exact hpost_nil (HB1.out.trans (HV4.out.bel.mono HB1.out.size)) HE.out
        · have HE : Hid (readHintI s = some (hiX T).1) := by rw [Hid, HES.out, hok, hd, if_pos ⟨by omega, rfl, rfl⟩]
          have HO := Lib.hid hok
          clear hd hok
          go_wp2_with fail
          go_at_call 53
          refine (impl_DirOk_calls A c _ _ HRW3.out).mono ?_
          rw [HO.out]
          rintro e w4 ⟨rfl, hb⟩
          have HV4 := Lib.hid (HV3.out.below hb)
          have x1 : w4.cell? ⟨w1.heap.size, 0, none⟩ = some (.slice A (hiX T).1.length c) := HV4.out.cv 0
          clear hb
          go_wp2
          go_ret2
          exact ⟨HB1.out.trans (HV4.out.bel.mono HB1.out.size), by rw [HE.out]; exact ⟨_, rfl, own_low HV4.out.own HB1.out.size⟩⟩
end Go.Proofs.Ytekhfplbhcfdmaa
