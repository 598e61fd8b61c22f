/- The statement FnExactPut16: at every list of bytes and every number the reference and the program tell the same bytes; what is told is new memory. No condition. -/
import Derived.Test.YtblmnkjiefanfaaPureB
import Derived.Test.YtblmnkjiefanfaaQ10
import Derived.Test.YtblmnkjiefanfaaQ31
import Derived.Test.YtblmnkjiefanfaaQ32
import Derived.Test.YtblmnkjiefanfaaQ47
import Derived.Test.YtblmnkjiefanfaaQ50
import Derived.Test.YtblmnkjiefanfaaQ51
import Derived.Test.YtblmnkjiefanfaaQ52
namespace Go.Proofs.Ytblmnkjiefanfaa.Pure
open Go Go.RowKit Go.Proofs.Ytblmnkjiefanfaa.Q Go.Proofs.YtblmnkjiefanfaaW.PrintWords Go.Proofs.YtblmnkjiefanfaaW.PrintLast
def put16V (l : List Int) (n : Int) : List Int := if 0 ≤ n ∧ n ≤ 65535 then l ++ [(n / 256) % 256, n % 256] else l
theorem put16V_len (l : List Int) (n : Int) : (put16V l n).length ≤ l.length + 2 := by unfold put16V; split <;> simp
theorem specPut16 (l : List Int) (hl : l.length ≤ 1048576) (n : Int) : spec_Put16.f l n = some (put16V l n) := by
  unfold spec_Put16.f put16V
  simp only [Option.bind_some, List.nil_append]
  rw [if_pos (by simp; omega)]
  by_cases h1 : n < 0
  · rw [if_pos h1, if_neg (by omega)]
  by_cases h2 : n > 65535
  · rw [if_neg h1, if_pos h2, if_neg (by omega)]
  rw [if_neg h1, if_neg h2, if_pos (show 0 ≤ n ∧ n ≤ 65535 by omega), if_pos (by simp; omega)]
theorem implPut16 (l : List Int) (hl : l.length ≤ 1048576) (n : Int) : impl_Put16.f l n = some (put16V l n) := by
  unfold impl_Put16.f put16V impl_within.f
  by_cases h1 : 0 ≤ n
  · by_cases h2 : n ≤ 65535
    · rw [if_pos h1, decide_eq_true h2, if_pos ⟨h1, h2⟩]
      simp only [Option.bind_some, if_true, impl_two.f, slices_Concat_byte_byte.f]
      rw [if_pos (by simp [slices_Concat_byte_byte.total]; omega)]
      simp
    · rw [if_pos h1, decide_eq_false h2, if_neg (by omega)]
      simp only [Option.bind_some, Bool.false_eq_true, if_false, bytes_Clone.f]
      rw [if_pos (by omega)]; rfl
  · rw [if_neg h1, if_neg (by omega)]
    simp only [Option.bind_some, Bool.false_eq_true, if_false, bytes_Clone.f]
    rw [if_pos (by omega)]; rfl
theorem FnExactPut16 : laws_FnExactPut16.Pure := by
  intro l n hm hl hw hn
  apply Ev.rounds
  unfold laws_FnExactPut16.f
  by_cases h : (l.length : Int) > 1048576
  · simp only [if_pos h]; exact Ev.now _
  simp only [if_neg h]
  have hlen := put16V_len l n
  refine Ev.bind (toByteS l (by omega)) ?_
  rw [specPut16 l (by omega) n]
  simp only [Option.bind_some]
  refine Ev.bind (toByteS l (by omega)) ?_
  rw [implPut16 l (by omega) n]
  simp only [Option.bind_some]
  refine Ev.bind (eqByteS _ (by omega)) ?_
  simp only [if_true]
  refine Ev.bind (toByteS l (by omega)) ?_
  refine Ev.bind (eqByteS _ (by omega)) ?_
  simp only [if_true]
  refine Ev.bind (markByteS l 1 (by omega) (by omega) (by omega)) ?_
  simp only [if_neg (show ¬ (1 + (l.length : Int) < 0) by omega)]
  refine Ev.bind (eqByteS _ (by omega)) ?_
  simp only [Bool.not_true]
  refine Ev.step (fun k => by simp only [laws_FnExactPut16.j0, Bool.false_eq_true, if_false]; rfl) ?_
  refine Ev.bind (markByteS _ 1 (by omega) (by omega) (by omega)) ?_
  refine Ev.bind (heldByteS 1 (by omega) (by omega) _ (by omega)) ?_
  simp only [if_neg (show ¬ (1 + ((put16V l n).length : Int) < 0) by omega), if_true]
  refine Ev.bind (toByteS l (by omega)) ?_
  rw [implPut16 l (by omega) n]
  simp only [Option.bind_some]
  refine Ev.bind (eqByteS _ (by omega)) ?_
  simp only [if_true]
  refine Ev.bind (heldByteS 1 (by omega) (by omega) _ (by omega)) ?_
  simp only [if_neg (show ¬ (1 + ((put16V l n).length : Int) < 0) by omega), if_true]
  exact Ev.now _
end Go.Proofs.Ytblmnkjiefanfaa.Pure
