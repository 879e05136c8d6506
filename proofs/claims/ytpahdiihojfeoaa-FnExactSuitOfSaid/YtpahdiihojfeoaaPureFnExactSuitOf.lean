/- The law FnExactSuitOf returns true at every integer: the program's SuitOf answers as the reference's. No condition. -/
import Derived.Test.YtpahdiihojfeoaaPFnExactSuitOfx1
namespace Go.Proofs.Ytpahdiihojfeoaa.Pure
open Go.RowKit Go.Proofs.Ytpahdiihojfeoaa.PFnExactSuitOf Go.Proofs.YtpahdiihojfeoaaW.PrintWords Go.Proofs.YtpahdiihojfeoaaW.PrintLast Go.Proofs.YtpahdiihojfeoaaW.PrintMore

theorem SuitOf_same : spec_SuitOf.f = impl_SuitOf.f := rfl
theorem SuitOf_some (a : Int) : ∃ r, impl_SuitOf.f a = some r := by
  unfold impl_SuitOf.f impl_IsCard.f impl_InRange.f
  by_cases h1 : 0 ≤ a
  · rw [if_pos h1]
    by_cases h2 : a ≤ 51
    · simp [h2]
    · simp [h2]
  · rw [if_neg h1]; simp
theorem FnExactSuitOf : laws_FnExactSuitOf.Pure := by
  intro a0 _
  obtain ⟨r, hr⟩ := SuitOf_some a0
  unfold laws_FnExactSuitOf.f
  rw [SuitOf_same, hr]; simp

end Go.Proofs.Ytpahdiihojfeoaa.Pure
