/- The law FnExactIsValidKey returns true at every integer: the program's IsValidKey answers as the reference's. No condition. -/
import Derived.Test.YtpahdiihojfeoaaPFnExactIsValidKeyx1
namespace Go.Proofs.Ytpahdiihojfeoaa.Pure
open Go.RowKit Go.Proofs.Ytpahdiihojfeoaa.PFnExactIsValidKey Go.Proofs.YtpahdiihojfeoaaW.PrintWords Go.Proofs.YtpahdiihojfeoaaW.PrintLast Go.Proofs.YtpahdiihojfeoaaW.PrintMore

theorem FnExactIsValidKey : laws_FnExactIsValidKey.Pure := by
  intro a0 _
  unfold laws_FnExactIsValidKey.f spec_IsValidKey.f impl_IsValidKey.f spec_l1In.f impl_InRange.f
  by_cases h : 1 ≤ a0
  · rw [if_pos h]; simp
  · rw [if_neg h]; simp

end Go.Proofs.Ytpahdiihojfeoaa.Pure
