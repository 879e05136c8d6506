/- The law FnExactMax returns true at every two integers: the program's Max answers as the reference's. No condition. -/
import Derived.Test.YtpahdiihojfeoaaPFnExactMaxx1
namespace Go.Proofs.Ytpahdiihojfeoaa.Pure
open Go.RowKit Go.Proofs.Ytpahdiihojfeoaa.PFnExactMax Go.Proofs.YtpahdiihojfeoaaW.PrintWords Go.Proofs.YtpahdiihojfeoaaW.PrintLast Go.Proofs.YtpahdiihojfeoaaW.PrintMore

theorem FnExactMax : laws_FnExactMax.Pure := by
  intro a0 a1 _ _
  unfold laws_FnExactMax.f spec_Max.f impl_Max.f mx
  by_cases h : a0 < a1
  · rw [if_pos h, if_pos h]; simp
  · rw [if_neg h, if_neg h]; simp

end Go.Proofs.Ytpahdiihojfeoaa.Pure
