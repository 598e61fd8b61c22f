/- The statement FnExactLower: at every list of bytes the reference and the program tell the same bytes; what is told is new memory. No condition. -/
import Derived.Test.YtblmnkjiefanfaaPureB
import Derived.Test.YtblmnkjiefanfaaQ29
import Derived.Test.YtblmnkjiefanfaaQ30
import Derived.Test.YtblmnkjiefanfaaQ9
namespace Go.Proofs.Ytblmnkjiefanfaa.Pure
open Go Go.RowKit Go.Proofs.Ytblmnkjiefanfaa.Q Go.Proofs.YtblmnkjiefanfaaW.PrintWords Go.Proofs.YtblmnkjiefanfaaW.PrintLast
theorem specLower_l0 (l : List Int) (hl : l.length ≤ 140737488351232) (m : Nat) : ∀ (i : Nat), l.length = i + m →
    Ev (fun k => spec_Lower.l0 k ((l.take i).map impl_Lower.byte ++ l.drop i) i) (l.map impl_Lower.byte) := by
  induction m with
  | zero =>
    intro i hi
    refine Ev.step (f := fun _ => some (l.map impl_Lower.byte)) (fun k => ?_) (Ev.now _)
    simp only [spec_Lower.l0]
    rw [if_neg (by simp; omega), List.take_of_length_le (by omega), List.drop_of_length_le (by omega), List.append_nil]
  | succ m ih =>
    intro i hi
    have hil : i < l.length := by omega
    have e := impl_Lower.at l i hil
    have e' : rd ((l.take i).map impl_Lower.byte ++ l.drop i) (i : Int) = rd l (i : Int) := e
    have hn := impl_Lower.next l i hil
    have hk := impl_Lower.keep l i hil
    refine Ev.step (fun k => ?_) (ih (i+1) (by omega))
    simp only [spec_Lower.l0]
    rw [if_pos (by simp; omega), if_pos (by omega), w64 (x := (i : Int) + 1) (by omega) (by omega), e', show ((i : Int)).toNat = i by omega]
    generalize rd l (i : Int) = x at *
    unfold impl_Lower.byte at hn hk
    by_cases h1 : x ≥ 65
    · by_cases h2 : x ≤ 90
      · rw [if_pos ⟨h1, h2⟩] at hn
        rw [if_pos h1, if_pos h2, show (x + 32) % 256 = x + 97 - 65 by omega]
        unfold impl_Lower.byte
        rw [hn]; rfl
      · rw [if_pos h1, if_neg h2]
        unfold impl_Lower.byte
        rw [hk (by rw [if_neg (by omega)])]; rfl
    · rw [if_neg h1]
      unfold impl_Lower.byte
      rw [hk (by rw [if_neg (by omega)])]; rfl
theorem specLower (l : List Int) (hl : l.length ≤ 1048576) : Ev (fun k => spec_Lower.f k l) (l.map impl_Lower.byte) := by
  unfold spec_Lower.f
  simp only [Option.bind_some, List.nil_append, List.length_nil, if_pos (show 0 + l.length < 140737488355328 by omega)]
  simpa using specLower_l0 l (by omega) l.length 0 (by omega)
theorem FnExactLower : laws_FnExactLower.Pure := by
  intro l hm hl hw
  apply Ev.rounds
  unfold laws_FnExactLower.f
  by_cases h : (l.length : Int) > 1048576
  · simp only [if_pos h]; exact Ev.now _
  simp only [if_neg h]
  have hL : impl_Lower.f l = some (l.map impl_Lower.byte) := by unfold impl_Lower.f; rw [if_pos (by omega)]
  have hlen : (l.map impl_Lower.byte).length = l.length := by simp
  have hs := specLower l (by omega)
  generalize l.map impl_Lower.byte = v at *
  refine Ev.bind (toByteS l (by omega)) ?_
  refine Ev.bind hs ?_
  refine Ev.bind (toByteS l (by omega)) ?_
  simp only [hL, Option.bind_some]
  refine Ev.bind (eqByteS _ (by omega)) ?_
  simp only [if_true]
  refine Ev.bind (toByteS l (by omega)) ?_
  refine Ev.bind (eqByteS _ (by omega)) ?_
  simp only [if_true]
  refine Ev.bind (markByteS l 1 (by omega) (by omega) (by omega)) ?_
  simp only [if_neg (show ¬ (1 + (l.length : Int) < 0) by omega)]
  refine Ev.bind (eqByteS _ (by omega)) ?_
  simp only [Bool.not_true]
  refine Ev.step (fun k => by simp only [laws_FnExactLower.j0, Bool.false_eq_true, if_false]; rfl) ?_
  refine Ev.bind (markByteS _ 1 (by omega) (by omega) (by omega)) ?_
  refine Ev.bind (heldByteS 1 (by omega) (by omega) _ (by omega)) ?_
  simp only [if_neg (show ¬ (1 + (v.length : Int) < 0) by omega), if_true]
  refine Ev.bind (toByteS l (by omega)) ?_
  simp only [hL, Option.bind_some]
  refine Ev.bind (eqByteS _ (by omega)) ?_
  simp only [if_true]
  refine Ev.bind (heldByteS 1 (by omega) (by omega) _ (by omega)) ?_
  simp only [if_neg (show ¬ (1 + (v.length : Int) < 0) by omega), if_true]
  exact Ev.now _
end Go.Proofs.Ytblmnkjiefanfaa.Pure
