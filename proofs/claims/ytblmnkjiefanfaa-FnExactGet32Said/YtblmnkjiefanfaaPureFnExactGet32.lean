/- The statement FnExactGet32: at every list of bytes and every place the reference and the program tell the same number and place. No condition. -/
import Derived.Test.YtblmnkjiefanfaaPureA
namespace Go.Proofs.Ytblmnkjiefanfaa.Pure
open Go Go.RowKit Go.Proofs.Ytblmnkjiefanfaa.Q Go.Proofs.YtblmnkjiefanfaaW.PrintWords Go.Proofs.YtblmnkjiefanfaaW.PrintLast
theorem FnExactGet32 : laws_FnExactGet32.Pure := by
  intro l at_ hm hl hw ha
  have hb := Bytes.of_wf hw
  have ha := i64_of_wf ha
  apply Ev.rounds
  unfold laws_FnExactGet32.f
  by_cases h : (l.length : Int) > 1048576
  · simp only [if_pos h]; exact Ev.now _
  simp only [if_neg h]
  refine Ev.bind (toByteS l (by omega)) ?_
  rw [specGet32 l hb (by omega) at_ ha]
  simp only [Option.bind_some]
  refine Ev.bind (toByteS l (by omega)) ?_
  unfold impl_Get32.f
  refine Ev.bind (Ev.bind (get_ev l hb (by omega) at_ 4 ha (by omega)) (Ev.now _)) ?_
  simp only [if_pos, bne_self_eq_false]
  refine Ev.step (f := fun k => (laws_toByteS.f k l).bind fun t => (laws_eqByteS.f k l t).bind fun u => if u = true then some true else some false) (fun k => by simp [laws_FnExactGet32.j0]) ?_
  refine Ev.bind (toByteS l (by omega)) ?_
  refine Ev.bind (eqByteS l (by omega)) ?_
  simp only [if_pos]; exact Ev.now _
end Go.Proofs.Ytblmnkjiefanfaa.Pure
