/- The law FnExactCeilDiv returns true at every two integers: the program's CeilDiv answers as the reference's. No condition. -/
import Derived.Test.YtpahdiihojfeoaaPFnExactCeilDivx1
namespace Go.Proofs.Ytpahdiihojfeoaa.Pure
open Go.RowKit Go.Proofs.Ytpahdiihojfeoaa.PFnExactCeilDiv Go.Proofs.YtpahdiihojfeoaaW.PrintWords Go.Proofs.YtpahdiihojfeoaaW.PrintLast Go.Proofs.YtpahdiihojfeoaaW.PrintMore

theorem ceil_same : spec_CeilDiv.f = impl_CeilDiv.f := rfl
theorem ceil_some (a b : Int) : ∃ r, impl_CeilDiv.f a b = some r := by
  unfold impl_CeilDiv.f impl_InRange.f
  by_cases h1 : 0 ≤ a
  · rw [if_pos h1]
    by_cases h2 : a ≤ 1000000000000
    · by_cases h3 : 1 ≤ b
      · rw [if_pos h3]
        by_cases h4 : b ≤ 1000000000000
        · have h5 : ¬ b = 0 := by omega
          simp [h2, h4, h5]
        · simp [h2, h4]
      · rw [if_neg h3]; simp [h2]
    · simp [h2]
  · rw [if_neg h1]; simp
theorem FnExactCeilDiv : laws_FnExactCeilDiv.Pure := by
  intro a0 a1 _ _
  obtain ⟨r, hr⟩ := ceil_some a0 a1
  unfold laws_FnExactCeilDiv.f
  rw [ceil_same, hr]; simp

end Go.Proofs.Ytpahdiihojfeoaa.Pure
