/- The law FnExactMod returns true at every two integers: the program's Mod answers as the reference's. No condition. -/
import Derived.Test.YtpahdiihojfeoaaPFnExactModx1
namespace Go.Proofs.Ytpahdiihojfeoaa.Pure
open Go.RowKit Go.Proofs.Ytpahdiihojfeoaa.PFnExactMod Go.Proofs.YtpahdiihojfeoaaW.PrintWords Go.Proofs.YtpahdiihojfeoaaW.PrintLast Go.Proofs.YtpahdiihojfeoaaW.PrintMore

theorem mod_same : spec_Mod.f = impl_Mod.f := rfl
theorem mod_some (a b : Int) : ∃ r, impl_Mod.f a b = some r := by
  unfold impl_Mod.f impl_InRange.f
  by_cases h3 : 1 ≤ b
  · rw [if_pos h3]
    by_cases h4 : b ≤ 1000000000000
    · have h5 : ¬ b = 0 := by omega
      simp [h4, h5]
    · simp [h4]
  · rw [if_neg h3]; simp
theorem FnExactMod : laws_FnExactMod.Pure := by
  intro a0 a1 _ _
  obtain ⟨r, hr⟩ := mod_some a0 a1
  unfold laws_FnExactMod.f
  rw [mod_same, hr]; simp

end Go.Proofs.Ytpahdiihojfeoaa.Pure
