/- The law FnExactFullDeck returns true: the program's FullDeck answers as the reference's and its results share no memory. No condition. -/
import Derived.Test.YtbjecehiappdeabPFnExactFullDeckx2
namespace Go.Proofs.Ytbjecehiappdeab.Pure
open Go.RowKit Go.Proofs.Ytbjecehiappdeab.PFnExactFullDeck Go.Proofs.YtbjecehiappdeabW.PrintWords Go.Proofs.YtbjecehiappdeabW.PrintLast Go.Proofs.YtbjecehiappdeabW.PrintMore

theorem FnExactFullDeck : laws_FnExactFullDeck.Pure := ⟨60, by decide +kernel⟩

end Go.Proofs.Ytbjecehiappdeab.Pure
