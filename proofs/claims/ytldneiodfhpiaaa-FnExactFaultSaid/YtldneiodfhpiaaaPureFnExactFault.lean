/- For every text that the statement speaks of, the program's Fault writes what the reference's Fault writes. No condition beyond the statement's own. -/
import Derived.Test.YtldneiodfhpiaaaCFault
namespace Go.Proofs.Ytldneiodfhpiaaa.Pure
open Go.RowKit Go.Proofs.Ytldneiodfhpiaaa.CFault Go.Proofs.YtldneiodfhpiaaaW.PrintWords Go.Proofs.YtldneiodfhpiaaaW.PrintLast

/-- YOURS: ∀ (a0 : ByteArray), a0.size ≤ 140737488351232 → laws_FnExactFault.f a0 = some true
What it reaches (each with k first where it has rounds; `.mono`: more rounds tell the same; `.l0`, ..: its loops, with `.mono_l`): spec_Fault.f, impl_Fault.f, laws_FnExactFault.f -/
theorem FnExactFault : laws_FnExactFault.Pure := by
  intro a0 h
  have hp : ∀ b : UInt8, ((⟨#[b]⟩ : ByteArray) ++ a0).size = 1 + a0.size := fun b => by
    rw [ByteArray.size_append]; rfl
  unfold laws_FnExactFault.f spec_Fault.f impl_Fault.f
  by_cases c : (a0.size : Int) > 1048576
  · rw [if_pos c]
  · rw [if_neg c, if_pos (by omega), hp, if_pos (by omega)]
    simp only [Option.bind_some, if_true]

end Go.Proofs.Ytldneiodfhpiaaa.Pure
