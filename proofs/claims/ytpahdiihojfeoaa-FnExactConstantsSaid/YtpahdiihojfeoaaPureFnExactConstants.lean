/- The law FnExactConstants returns true: every exported constant has its value. No condition. -/
import Derived.Test.YtpahdiihojfeoaaPFnExactConstantsx1
namespace Go.Proofs.Ytpahdiihojfeoaa.Pure
open Go.RowKit Go.Proofs.Ytpahdiihojfeoaa.PFnExactConstants Go.Proofs.YtpahdiihojfeoaaW.PrintWords Go.Proofs.YtpahdiihojfeoaaW.PrintLast Go.Proofs.YtpahdiihojfeoaaW.PrintMore

theorem FnExactConstants : laws_FnExactConstants.Pure := rfl

end Go.Proofs.Ytpahdiihojfeoaa.Pure
