/- Short texts: shortB; l05Short, ShortText, short. -/
import Derived.Test.YtaacpdejpcbbbaaGreatDoorVar
namespace Go.Proofs.YtaacpdejpcbbbaaGreatDoor
set_option linter.unusedVariables false
set_option linter.unusedSimpArgs false
open Go.RowKit
attribute [local go_sem] bs_size List.length_cons List.length_nil List.length_append

def shortB (s : List UInt8) : List UInt8 := varBytes s.length ++ s
theorem shortB_len (s : ByteArray) (h : s.size ≤ 1125899906842624) : (shortB (ub s)).length ≤ s.size + 9 := by
  have := var_len (n := s.size) (by omega)
  unfold shortB
  rw [List.length_append, ub_length]
  omega
theorem spec_l05Short_calls (s : ByteArray) (w : World) (hs : s.size ≤ 1125899906842624) : Calls Tryz.prog 120 #[.string s] w fun e w' => e = .returned (.string (bs (shortB (ub s)))) ∧ Below w.heap.size w w' := by
  have h9 := var_len (n := s.size) (by omega)
  go_enter Tryz.func120, Tryz.ntmps120
  go_wp2_with fail
  go_at_call 119
  refine (spec_l01Var_calls s.size _ (by omega)).mono ?_
  rintro e w' ⟨rfl, hb⟩
  go_wp2
  go_ret
  exact ⟨ret_str (by rw [shortB, ub_length, ← bs_append, bs_ub]), hb⟩
theorem varText_nat {n : Nat} (h : n ≤ 1000000000) : varText (n : Int) = some (varBytes n) := by
  unfold varText
  rw [inR_true ⟨by omega, by omega⟩]
  rfl
theorem impl_ShortText_calls (s : ByteArray) (w : World) (hs : s.size ≤ 20000) : Calls Tryz.prog 192 #[.string s] w fun e w' => e = .returned (.tuple #[.string (bs (shortB (ub s))), .bool true]) ∧ Below w.heap.size w w' := by
  have h9 := var_len (n := s.size) (by omega)
  have HV := Lib.hid (varText_nat (n := s.size) (by omega))
  have HSB : Hid (bs (shortB (ub s)) = bs (varBytes s.size) ++ s) := by rw [Hid, shortB, ub_length, ← bs_append, bs_ub]
  go_enter Tryz.func192, Tryz.ntmps192
  go_wp2_with fail
  go_at_call 141
  refine (impl_VarText_calls s.size _).mono ?_
  rw [HV.out]
  rintro e w' ⟨rfl, hb⟩
  simp only [varRes]
  go_wp2
  go_ret2
  exact ⟨congrArg (fun z => Ending.returned (.tuple #[.string z, .bool true])) HSB.out.symm, hb⟩
theorem impl_short_calls (s : ByteArray) (w : World) (hs : s.size ≤ 20000) : Calls Tryz.prog 174 #[.string s] w fun e w' => e = .returned (.string (bs (shortB (ub s)))) ∧ Below w.heap.size w w' := by
  go_enter Tryz.func174, Tryz.ntmps174
  go_wp2_with fail
  go_at_call 192
  refine (impl_ShortText_calls s _ hs).mono ?_
  rintro e w' ⟨rfl, hb⟩
  go_wp2
  go_ret
  exact ⟨rfl, hb⟩
end Go.Proofs.YtaacpdejpcbbbaaGreatDoor
