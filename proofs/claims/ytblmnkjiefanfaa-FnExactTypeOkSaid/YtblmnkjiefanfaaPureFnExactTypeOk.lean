/- The statement FnExactTypeOk: at every number the reference and the program say the same of a type. No condition. -/
import Derived.Test.YtblmnkjiefanfaaPureA
import Derived.Test.YtblmnkjiefanfaaQ15
import Derived.Test.YtblmnkjiefanfaaQ16
import Derived.Test.YtblmnkjiefanfaaQ4
import Derived.Test.YtblmnkjiefanfaaQ45
namespace Go.Proofs.Ytblmnkjiefanfaa.Pure
open Go Go.RowKit Go.Proofs.Ytblmnkjiefanfaa.Q Go.Proofs.YtblmnkjiefanfaaW.PrintWords Go.Proofs.YtblmnkjiefanfaaW.PrintLast
def typeOkV (t : Int) : Bool := t == 1 || t == 2 || t == 5 || t == 6 || t == 12 || t == 16 || t == 49
theorem specTypeOk (t : Int) : spec_TypeOk.f t = some (typeOkV t) := by
  unfold spec_TypeOk.f typeOkV
  by_cases h1 : t = 1
  · simp [h1]
  by_cases h2 : t = 2
  · simp [h2]
  by_cases h3 : t = 5
  · simp [h3]
  by_cases h4 : t = 6
  · simp [h4]
  by_cases h5 : t = 12
  · simp [h5]
  by_cases h6 : t = 16
  · simp [h6]
  by_cases h7 : t = 49
  · simp [h7]
  simp [h1, h2, h3, h4, h5, h6, h7]
theorem implTypeOk (t : Int) (ht : -9223372036854775808 ≤ t ∧ t ≤ 9223372036854775807) : impl_TypeOk.f t = some (typeOkV t) := by
  unfold impl_TypeOk.f impl_typeName.f typeOkV impl_typeName.v
  rw [if_pos ht]
  simp only [Option.bind_some, Go.ByteArray.toList_eq]
  by_cases h1 : t = 1
  · subst h1; decide
  by_cases h2 : t = 2
  · subst h2; decide
  by_cases h3 : t = 5
  · subst h3; decide
  by_cases h4 : t = 6
  · subst h4; decide
  by_cases h5 : t = 12
  · subst h5; decide
  by_cases h6 : t = 16
  · subst h6; decide
  by_cases h7 : t = 49
  · subst h7; decide
  rw [if_neg h1, if_neg h2, if_neg h3, if_neg h4, if_neg h5, if_neg h6, if_neg h7]
  simp [h1, h2, h3, h4, h5, h6, h7]
theorem FnExactTypeOk : laws_FnExactTypeOk.Pure := by
  intro t ht
  unfold laws_FnExactTypeOk.f
  rw [specTypeOk, implTypeOk t (i64_of_wf ht)]
  simp
end Go.Proofs.Ytblmnkjiefanfaa.Pure
