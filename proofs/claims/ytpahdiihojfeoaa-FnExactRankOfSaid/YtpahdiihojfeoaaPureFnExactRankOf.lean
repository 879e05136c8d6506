/- The law FnExactRankOf returns true at every integer: the program's RankOf answers as the reference's. No condition. -/
import Derived.Test.YtpahdiihojfeoaaPFnExactRankOfx1
namespace Go.Proofs.Ytpahdiihojfeoaa.Pure
open Go.RowKit Go.Proofs.Ytpahdiihojfeoaa.PFnExactRankOf Go.Proofs.YtpahdiihojfeoaaW.PrintWords Go.Proofs.YtpahdiihojfeoaaW.PrintLast Go.Proofs.YtpahdiihojfeoaaW.PrintMore

theorem RankOf_same : spec_RankOf.f = impl_RankOf.f := rfl
theorem RankOf_some (a : Int) : ∃ r, impl_RankOf.f a = some r := by
  unfold impl_RankOf.f impl_IsCard.f impl_InRange.f
  by_cases h1 : 0 ≤ a
  · rw [if_pos h1]
    by_cases h2 : a ≤ 51
    · simp [h2]
    · simp [h2]
  · rw [if_neg h1]; simp
theorem FnExactRankOf : laws_FnExactRankOf.Pure := by
  intro a0 _
  obtain ⟨r, hr⟩ := RankOf_some a0
  unfold laws_FnExactRankOf.f
  rw [RankOf_same, hr]; simp

end Go.Proofs.Ytpahdiihojfeoaa.Pure
