/- The law FnExactMin returns true at every two integers: the program's Min answers as the reference's. No condition. -/
import Derived.Test.YtpahdiihojfeoaaPFnExactMinx1
namespace Go.Proofs.Ytpahdiihojfeoaa.Pure
open Go.RowKit Go.Proofs.Ytpahdiihojfeoaa.PFnExactMin Go.Proofs.YtpahdiihojfeoaaW.PrintWords Go.Proofs.YtpahdiihojfeoaaW.PrintLast Go.Proofs.YtpahdiihojfeoaaW.PrintMore

theorem FnExactMin : laws_FnExactMin.Pure := by
  intro a0 a1 _ _
  unfold laws_FnExactMin.f spec_Min.f impl_Min.f mn
  by_cases h : a1 < a0
  · rw [if_pos h, if_pos h]; simp
  · rw [if_neg h, if_neg h]; simp

end Go.Proofs.Ytpahdiihojfeoaa.Pure
