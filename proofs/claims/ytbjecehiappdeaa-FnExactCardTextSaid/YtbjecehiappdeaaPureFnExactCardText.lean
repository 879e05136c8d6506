/- The law FnExactCardText returns true at every integer: the program's CardText answers as the reference's. No condition. -/
import Derived.Test.YtbjecehiappdeaaPFnExactCardTextx1
namespace Go.Proofs.Ytbjecehiappdeaa.Pure
open Go.RowKit Go.Proofs.Ytbjecehiappdeaa.PFnExactCardText Go.Proofs.YtbjecehiappdeaaW.PrintWords Go.Proofs.YtbjecehiappdeaaW.PrintLast Go.Proofs.YtbjecehiappdeaaW.PrintMore

theorem card_texts : ∀ n : Fin 52, laws_FnExactCardText.f (n.val : Int) = some true := by decide +kernel
theorem FnExactCardText : laws_FnExactCardText.Pure := by
  intro a0 _
  by_cases h : 0 ≤ a0 ∧ a0 ≤ 51
  · have := card_texts ⟨a0.toNat, by omega⟩
    simp only [Int.toNat_of_nonneg h.1] at this
    exact this
  · unfold laws_FnExactCardText.f spec_CardText.f impl_CardText.f spec_IsCard.f impl_IsCard.f spec_l1In.f impl_InRange.f
    by_cases h1 : 0 ≤ a0
    · have h2 : ¬ a0 ≤ 51 := fun h2 => h ⟨h1, h2⟩
      simp [h1, h2]
    · simp [h1]

end Go.Proofs.Ytbjecehiappdeaa.Pure
