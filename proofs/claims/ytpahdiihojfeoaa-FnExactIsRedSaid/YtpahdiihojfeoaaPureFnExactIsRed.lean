/- The law FnExactIsRed returns true at every integer: the program's IsRed answers as the reference's. No condition. -/
import Derived.Test.YtpahdiihojfeoaaPFnExactIsRedx1
namespace Go.Proofs.Ytpahdiihojfeoaa.Pure
open Go.RowKit Go.Proofs.Ytpahdiihojfeoaa.PFnExactIsRed Go.Proofs.YtpahdiihojfeoaaW.PrintWords Go.Proofs.YtpahdiihojfeoaaW.PrintLast Go.Proofs.YtpahdiihojfeoaaW.PrintMore

theorem suit_same : spec_SuitOf.f = impl_SuitOf.f := rfl
theorem suit_some (a : Int) : ∃ r, impl_SuitOf.f a = some r := by
  unfold impl_SuitOf.f impl_IsCard.f impl_InRange.f
  by_cases h1 : 0 ≤ a
  · rw [if_pos h1]
    by_cases h2 : a ≤ 51
    · simp [h2]
    · simp [h2]
  · rw [if_neg h1]; simp
theorem FnExactIsRed : laws_FnExactIsRed.Pure := by
  intro a0 _
  obtain ⟨r, hr⟩ := suit_some a0
  unfold laws_FnExactIsRed.f spec_IsRed.f impl_IsRed.f
  rw [suit_same, hr]
  simp only [Option.bind_some, spec_l1In.f]
  by_cases h1 : r = 1
  · subst h1; simp
  · by_cases h2 : r = 2
    · subst h2; simp
    · rw [if_neg h1]
      by_cases h3 : r ≥ 1
      · rw [if_pos h3]
        have h4 : ¬ r ≤ 2 := by omega
        simp [h2, h4]
      · rw [if_neg h3]; simp [h2]

end Go.Proofs.Ytpahdiihojfeoaa.Pure
