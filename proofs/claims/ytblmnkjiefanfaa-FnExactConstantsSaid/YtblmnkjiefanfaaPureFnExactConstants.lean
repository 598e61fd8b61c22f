/- The statement FnExactConstants: the printed function of the law, which compares constants alone, tells true. No condition. -/
import Derived.Test.YtblmnkjiefanfaaPFnExactConstantsx1
namespace Go.Proofs.Ytblmnkjiefanfaa.Pure
open Go.RowKit Go.Proofs.Ytblmnkjiefanfaa.PFnExactConstants Go.Proofs.YtblmnkjiefanfaaW.PrintWords Go.Proofs.YtblmnkjiefanfaaW.PrintLast



theorem FnExactConstants : laws_FnExactConstants.Pure := by
  rfl

end Go.Proofs.Ytblmnkjiefanfaa.Pure
