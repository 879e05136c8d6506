/- The law FnExactInRange returns true at every three integers: the program's InRange answers as the reference's. No condition. -/
import Derived.Test.YtpahdiihojfeoaaPFnExactInRangex1
namespace Go.Proofs.Ytpahdiihojfeoaa.Pure
open Go.RowKit Go.Proofs.Ytpahdiihojfeoaa.PFnExactInRange Go.Proofs.YtpahdiihojfeoaaW.PrintWords Go.Proofs.YtpahdiihojfeoaaW.PrintLast Go.Proofs.YtpahdiihojfeoaaW.PrintMore

theorem FnExactInRange : laws_FnExactInRange.Pure := by
  intro a0 a1 a2 _ _ _
  unfold laws_FnExactInRange.f spec_InRange.f impl_InRange.f
  by_cases h : a1 ≤ a0
  · rw [if_pos h]; simp
  · rw [if_neg h]; simp

end Go.Proofs.Ytpahdiihojfeoaa.Pure
