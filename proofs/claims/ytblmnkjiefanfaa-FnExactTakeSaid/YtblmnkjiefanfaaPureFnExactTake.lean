/- The statement FnExactTake: at every list of bytes, place and number the reference and the program tell the same bytes and place; what is told is new memory. No condition. -/
import Derived.Test.YtblmnkjiefanfaaPureB
import Derived.Test.YtblmnkjiefanfaaQ25
import Derived.Test.YtblmnkjiefanfaaQ26
import Derived.Test.YtblmnkjiefanfaaQ50
import Derived.Test.YtblmnkjiefanfaaQ8
namespace Go.Proofs.Ytblmnkjiefanfaa.Pure
open Go Go.RowKit Go.Proofs.Ytblmnkjiefanfaa.Q Go.Proofs.YtblmnkjiefanfaaW.PrintWords Go.Proofs.YtblmnkjiefanfaaW.PrintLast
def takeV (l : List Int) (i n : Int) : List Int × Int := if i < 0 ∨ n < 0 ∨ i > l.length ∨ n > l.length - i then ([], -1) else ((l.take (i + n).toNat).drop i.toNat, i + n)
theorem takeV_len (l : List Int) (i n : Int) : (takeV l i n).1.length ≤ l.length := by
  unfold takeV; split
  · simp
  · simp; omega
theorem specTake (l : List Int) (hl : l.length ≤ 140737488351232) (i n : Int) (hi : -9223372036854775808 ≤ i ∧ i ≤ 9223372036854775807) (hn : -9223372036854775808 ≤ n ∧ n ≤ 9223372036854775807) :
    spec_Take.f l i n = some (takeV l i n) := by
  unfold spec_Take.f takeV
  by_cases h1 : i < 0
  · rw [if_pos h1, if_pos (Or.inl h1)]
  by_cases h2 : n < 0
  · rw [if_neg h1, if_pos h2, if_pos (Or.inr (Or.inl h2))]
  by_cases h3 : i > (l.length : Int)
  · rw [if_neg h1, if_neg h2, if_pos h3, if_pos (Or.inr (Or.inr (Or.inl h3)))]
  rw [if_neg h1, if_neg h2, if_neg h3, w64 (x := (l.length : Int) - i) (by omega) (by omega)]
  by_cases h4 : n > (l.length : Int) - i
  · rw [if_pos h4, if_pos (Or.inr (Or.inr (Or.inr h4)))]
  rw [if_neg h4, w64 (x := i + n) (by omega) (by omega), if_neg (show ¬ (i < 0 ∨ n < 0 ∨ i > l.length ∨ n > l.length - i) by omega)]
  simp only [Option.bind_some]
  rw [if_pos (show 0 ≤ i by omega), if_pos (show i ≤ i + n by omega), if_pos (show i + n ≤ (l.length : Int) by omega), if_pos (by simp; omega)]
  simp
theorem implTake (l : List Int) (hl : l.length ≤ 140737488351232) (i n : Int) (hi : -9223372036854775808 ≤ i ∧ i ≤ 9223372036854775807) (hn : -9223372036854775808 ≤ n ∧ n ≤ 9223372036854775807) :
    impl_Take.f l i n = some (takeV l i n) := by
  unfold impl_Take.f takeV
  by_cases h1 : i < 0
  · rw [if_pos h1, if_pos (Or.inl h1)]
  by_cases h2 : n < 0
  · rw [if_neg h1, if_pos h2, if_pos (Or.inr (Or.inl h2))]
  by_cases h3 : i > (l.length : Int)
  · rw [if_neg h1, if_neg h2, if_pos h3, if_pos (Or.inr (Or.inr (Or.inl h3)))]
  rw [if_neg h1, if_neg h2, if_neg h3, w64 (x := (l.length : Int) - i) (by omega) (by omega)]
  by_cases h4 : n > (l.length : Int) - i
  · rw [if_pos h4, if_pos (Or.inr (Or.inr (Or.inr h4)))]
  rw [if_neg h4, w64 (x := i + n) (by omega) (by omega), if_neg (show ¬ (i < 0 ∨ n < 0 ∨ i > l.length ∨ n > l.length - i) by omega)]
  rw [if_pos (show 0 ≤ i by omega), if_pos (show i ≤ i + n by omega), if_pos (show i + n ≤ (l.length : Int) by omega)]
  unfold bytes_Clone.f
  rw [if_pos (by simp; omega)]
  rfl
theorem FnExactTake : laws_FnExactTake.Pure := by
  intro l i n hm hl hw hi hn
  have hi := i64_of_wf hi
  have hn := i64_of_wf hn
  apply Ev.rounds
  unfold laws_FnExactTake.f
  by_cases h : (l.length : Int) > 1048576
  · simp only [if_pos h]; exact Ev.now _
  simp only [if_neg h]
  have hlen := takeV_len l i n
  refine Ev.bind (toByteS l (by omega)) ?_
  rw [specTake l (by omega) i n hi hn]
  simp only [Option.bind_some]
  refine Ev.bind (toByteS l (by omega)) ?_
  rw [implTake l (by omega) i n hi hn]
  simp only [Option.bind_some]
  refine Ev.bind (eqByteS _ (by omega)) ?_
  simp only [if_true, bne_self_eq_false]
  refine Ev.step (fun k => by simp only [laws_FnExactTake.j0, Bool.false_eq_true, if_false]; rfl) ?_
  refine Ev.bind (toByteS l (by omega)) ?_
  refine Ev.bind (eqByteS _ (by omega)) ?_
  simp only [if_true]
  refine Ev.bind (markByteS l 1 (by omega) (by omega) (by omega)) ?_
  simp only [if_neg (show ¬ (1 + (l.length : Int) < 0) by omega)]
  refine Ev.bind (eqByteS _ (by omega)) ?_
  simp only [if_true, bne_self_eq_false]
  refine Ev.step (fun k => by simp only [laws_FnExactTake.j1, Bool.false_eq_true, if_false]; rfl) ?_
  refine Ev.bind (markByteS _ 1 (by omega) (by omega) (by omega)) ?_
  refine Ev.bind (heldByteS 1 (by omega) (by omega) _ (by omega)) ?_
  simp only [if_neg (show ¬ (1 + ((takeV l i n).1.length : Int) < 0) by omega), if_true]
  refine Ev.bind (toByteS l (by omega)) ?_
  rw [implTake l (by omega) i n hi hn]
  simp only [Option.bind_some]
  refine Ev.bind (eqByteS _ (by omega)) ?_
  simp only [if_true, bne_self_eq_false]
  refine Ev.step (fun k => by simp only [laws_FnExactTake.j2, Bool.false_eq_true, if_false]; rfl) ?_
  refine Ev.bind (heldByteS 1 (by omega) (by omega) _ (by omega)) ?_
  simp only [if_neg (show ¬ (1 + ((takeV l i n).1.length : Int) < 0) by omega), if_true]
  exact Ev.now _
end Go.Proofs.Ytblmnkjiefanfaa.Pure
