/- The statement FnExactNameOk: at every name the reference and the program say the same of it. No condition. -/
import Derived.Test.YtblmnkjiefanfaaPureD
import Derived.Test.YtblmnkjiefanfaaSaidFnExactNameOk
namespace Go.Proofs.Ytblmnkjiefanfaa.Pure
open Go Go.RowKit Go.Proofs.Ytblmnkjiefanfaa.Q Go.Proofs.YtblmnkjiefanfaaW.PrintWords Go.Proofs.YtblmnkjiefanfaaW.PrintLast
theorem FnExactNameOk : laws_FnExactNameOk.Pure := by
  intro x0 h0
  have hl : x0.f0.length ≤ 9223372036854775807 := h0.1
  have he : ∀ x ∈ x0.f0, x.length ≤ 9223372036854775807 := fun x hx => (h0.2 x hx).1
  generalize x0.f0 = l at hl he
  apply Ev.rounds
  unfold laws_FnExactNameOk.f
  obtain ⟨t, ht, hc⟩ := szName l 1048576 hl he (by omega) (by omega)
  refine Ev.bind ht ?_
  by_cases h : t < 0
  · simp only [if_pos h]; exact Ev.now _
  simp only [if_neg h]
  have hb : l.length ≤ 1048576 := by omega
  have hbe : ∀ x ∈ l, x.length ≤ 140737488351232 := fun x hx => by
    obtain ⟨i, hi, rfl⟩ := List.getElem_of_mem hx
    have := len_le_lens l i hi
    omega
  refine Ev.bind (toName l (by omega) hbe) ?_
  refine Ev.bind (specNameOk l hb hbe) ?_
  refine Ev.bind (toName l (by omega) hbe) ?_
  unfold impl_NameOk.f
  simp only [Option.bind_some, bne_self_eq_false, Bool.false_eq_true, if_false]
  refine Ev.bind (toName l (by omega) hbe) ?_
  refine Ev.bind (eqName l (by omega) hbe) ?_
  simp only [if_true]; exact Ev.now _
end Go.Proofs.Ytblmnkjiefanfaa.Pure
