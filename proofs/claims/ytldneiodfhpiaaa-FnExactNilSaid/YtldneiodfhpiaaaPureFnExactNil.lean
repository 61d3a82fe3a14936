/- The program's Nil writes what the reference's Nil writes. No condition. -/
import Derived.Test.YtldneiodfhpiaaaPFnExactNilx1
namespace Go.Proofs.Ytldneiodfhpiaaa.Pure
open Go.RowKit Go.Proofs.Ytldneiodfhpiaaa.PFnExactNil Go.Proofs.YtldneiodfhpiaaaW.PrintWords Go.Proofs.YtldneiodfhpiaaaW.PrintLast

/-- YOURS: laws_FnExactNil.f  = some true
What it reaches (each with k first where it has rounds; `.mono`: more rounds tell the same; `.l0`, ..: its loops, with `.mono_l`): spec_Nil.f, impl_Nil.f, laws_FnExactNil.f -/
theorem FnExactNil : laws_FnExactNil.Pure := by
  unfold laws_FnExactNil.Pure laws_FnExactNil.f spec_Nil.f impl_Nil.f
  simp

end Go.Proofs.Ytldneiodfhpiaaa.Pure
