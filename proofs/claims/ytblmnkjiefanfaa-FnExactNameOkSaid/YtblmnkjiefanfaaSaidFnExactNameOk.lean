-- Written by a program of this session (wip/myprint.py): the pure statement of a law.
import Derived.Test.YtblmnkjiefanfaaKinds
import Derived.Test.YtblmnkjiefanfaaQ12
namespace Go.Proofs.Ytblmnkjiefanfaa.Q
open Go Go.RowKit
def laws_FnExactNameOk.Pure : Prop := ∀ (x0 : S38), okT38 x0 → ∃ k, laws_FnExactNameOk.f k x0.f0 = some true
end Go.Proofs.Ytblmnkjiefanfaa.Q
