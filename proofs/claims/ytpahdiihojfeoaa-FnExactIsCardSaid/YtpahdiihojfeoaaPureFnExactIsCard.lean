/- The law FnExactIsCard returns true at every integer: the program's IsCard answers as the reference's. No condition. -/
import Derived.Test.YtpahdiihojfeoaaPFnExactIsCardx1
namespace Go.Proofs.Ytpahdiihojfeoaa.Pure
open Go.RowKit Go.Proofs.Ytpahdiihojfeoaa.PFnExactIsCard Go.Proofs.YtpahdiihojfeoaaW.PrintWords Go.Proofs.YtpahdiihojfeoaaW.PrintLast Go.Proofs.YtpahdiihojfeoaaW.PrintMore

theorem FnExactIsCard : laws_FnExactIsCard.Pure := by
  intro a0 _
  unfold laws_FnExactIsCard.f spec_IsCard.f impl_IsCard.f spec_l1In.f impl_InRange.f
  by_cases h : 0 ≤ a0
  · rw [if_pos h]; simp
  · rw [if_neg h]; simp

end Go.Proofs.Ytpahdiihojfeoaa.Pure
