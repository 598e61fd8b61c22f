-- Printed by a program of this session (wip/myprint.py), which drives the kit's printer.
import Derived.Test.YtblmnkjiefanfaaQ0
import Derived.Maps.Own
import Derived.Maps.Views
namespace Go.Proofs.Ytblmnkjiefanfaa.Q
open Go.RowKit Go Go.Proofs.YtblmnkjiefanfaaW.PrintWords Go.Proofs.YtblmnkjiefanfaaW.PrintLast Go.Proofs.YtblmnkjiefanfaaW.PrintMore
attribute [local go_sem] max2_int min2_int max_two min_two max_three min_three max_four min_four   -- for this text's walks alone
set_option linter.unusedVariables false
set_option linter.unusedSimpArgs false

/-! ### impl_typeName: function 45 -/

def impl_typeName.v (t : Int) : ByteArray := if t = 1 then ⟨#[65]⟩ else if t = 2 then ⟨#[78, 83]⟩ else if t = 5 then ⟨#[67, 78, 65, 77, 69]⟩ else if t = 6 then ⟨#[83, 79, 65]⟩ else if t = 12 then ⟨#[80, 84, 82]⟩ else if t = 16 then ⟨#[84, 88, 84]⟩ else if t = 49 then ⟨#[68, 72, 67, 73, 68]⟩ else ⟨#[]⟩
def impl_typeName.f (t : Int) : Option ByteArray := if -9223372036854775808 ≤ t ∧ t ≤ 9223372036854775807 then some (impl_typeName.v t) else none
theorem impl_typeName.inv {e : TypeId} (he : Try.prog.underlying e = some .string) {v : Value} {z : DataW Unit × List MemPlace} (h : plainElem Try.prog e v = some z) : ∃ s : ByteArray, v = .string s ∧ z = (.lit (.string s.data.toList), []) ∧ s.size ≤ maxLen := by
  unfold plainElem at h
  rw [he] at h
  cases v <;> simp at h
  exact ⟨_, rfl, h.2.symm, h.1⟩
theorem impl_typeName.ne {a b : Int} (h : ¬ a = b) : (Lit.int .i64 a) ≠ Lit.int .i64 b := fun e => h (by injection e)
set_option maxHeartbeats 8000000 in
set_option maxRecDepth 100000 in
theorem impl_typeName.calls (a0 : Int) (r : ByteArray) (w : World) (h : impl_typeName.f a0 = some r) :
    Calls Try.prog 45 #[.int .i64 a0] w fun e w' => e = .returned (.string r) ∧ Below w.heap.size w w' := by
  have hw : (Lit.int .i64 a0).wf = true := by
    unfold impl_typeName.f at h; split at h
    · exact WalkArith.wf_i64 (by assumption)
    · cases h
  have hr : impl_typeName.v a0 = r := by
    unfold impl_typeName.f at h; split at h
    · exact Option.some.inj h
    · cases h
  clear h
  have law : Go.Maps.Keyed Try.prog 3 := Go.Maps.int_keyed Try.underlying3
  have um := Try.underlying60
  have us := Try.underlying9
  have key : ∀ n : Int, (Lit.int .i64 n).wf = true → keyOf Try.prog 3 (.int .i64 n) = some (.int .i64 n) := fun n hn => Go.Maps.keyOf_int_mk Try.underlying3 hn
  have el : ∀ s : ByteArray, s.size ≤ maxLen → plainElem (H := Unit) Try.prog 9 (.string s) = some (.lit (.string s.data.toList), []) := fun s hs => plainElem_string us hs
  have o0 := World.ownsMap_made (H := Unit) w Try.prog 3 (plainElem Try.prog 9)
  obtain ⟨w1, r1, o1, g1⟩ := o0.update law um (by unfold maxLen; omega) (key 1 (by decide)) (el ⟨#[65]⟩ (by decide))
  obtain ⟨w2, r2, o2, g2⟩ := o1.update law um (by unfold maxLen; omega) (key 2 (by decide)) (el ⟨#[78, 83]⟩ (by decide))
  obtain ⟨w3, r3, o3, g3⟩ := o2.update law um (by unfold maxLen; omega) (key 5 (by decide)) (el ⟨#[67, 78, 65, 77, 69]⟩ (by decide))
  obtain ⟨w4, r4, o4, g4⟩ := o3.update law um (by unfold maxLen; omega) (key 6 (by decide)) (el ⟨#[83, 79, 65]⟩ (by decide))
  obtain ⟨w5, r5, o5, g5⟩ := o4.update law um (by unfold maxLen; omega) (key 12 (by decide)) (el ⟨#[80, 84, 82]⟩ (by decide))
  obtain ⟨w6, r6, o6, g6⟩ := o5.update law um (by unfold maxLen; omega) (key 16 (by decide)) (el ⟨#[84, 88, 84]⟩ (by decide))
  obtain ⟨w7, r7, o7, g7⟩ := o6.update law um (by unfold maxLen; omega) (key 49 (by decide)) (el ⟨#[68, 72, 67, 73, 68]⟩ (by decide))
  obtain ⟨v, ps, rl, hv⟩ := o7.lookup law um (z := .string ⟨#[]⟩) (by kernel_rfl) (el ⟨#[]⟩ (by decide)) (key a0 hw)
  obtain ⟨s, rfl, hs, _⟩ := impl_typeName.inv us hv
  have hB : Below w.heap.size w w7 := by
    have b0 := below_alloc (Below.refl w.heap.size w) (.map #[] 0)
    refine Below.grown (Below.grown (Below.grown (Below.grown (Below.grown (Below.grown (Below.grown b0 g1 ?_ ?_) g2 ?_ ?_) g3 ?_ ?_) g4 ?_ ?_) g5 ?_ ?_) g6 ?_ ?_) g7 ?_ ?_
    all_goals first
      | (intro j hj; cases hj; exact Nat.le_refl _)
      | (have := b0.size; have := g1.size; have := g2.size; have := g3.size; have := g4.size; have := g5.size; have := g6.size; omega)
  have e : s = impl_typeName.v a0 := by
    simp only [Prod.mk.injEq] at hs
    have hat := hs.1
    have fin : ∀ {l : ByteArray}, (DataW.lit (.string l.data.toList) : DataW Unit) = .lit (.string s.data.toList) → s = l := fun {l} he => by
      simp at he
      cases s; cases l; simp at he; rw [he]
    have im : ∀ {D : DataW Unit} {k d}, Go.Maps.IsMap D → Go.Maps.IsMap (D.put k d) := fun {D k d} ⟨es, he⟩ => by subst he; exact ⟨_, rfl⟩
    have i0 : Go.Maps.IsMap (DataW.map [] : DataW Unit) := ⟨_, rfl⟩
    unfold impl_typeName.v
    by_cases h7 : a0 = 49
    · subst h7
      rw [Go.Maps.atKey_put_same (im (im (im (im (im (im i0)))))) (by trivial)] at hat
      exact fin hat
    rw [Go.Maps.atKey_put_other (impl_typeName.ne h7)] at hat
    by_cases h6 : a0 = 16
    · subst h6
      rw [Go.Maps.atKey_put_same (im (im (im (im (im i0))))) (by trivial)] at hat
      exact fin hat
    rw [Go.Maps.atKey_put_other (impl_typeName.ne h6)] at hat
    by_cases h5 : a0 = 12
    · subst h5
      rw [Go.Maps.atKey_put_same (im (im (im (im i0)))) (by trivial)] at hat
      exact fin hat
    rw [Go.Maps.atKey_put_other (impl_typeName.ne h5)] at hat
    by_cases h4 : a0 = 6
    · subst h4
      rw [Go.Maps.atKey_put_same (im (im (im i0))) (by trivial)] at hat
      exact fin hat
    rw [Go.Maps.atKey_put_other (impl_typeName.ne h4)] at hat
    by_cases h3 : a0 = 5
    · subst h3
      rw [Go.Maps.atKey_put_same (im (im i0)) (by trivial)] at hat
      exact fin hat
    rw [Go.Maps.atKey_put_other (impl_typeName.ne h3)] at hat
    by_cases h2 : a0 = 2
    · subst h2
      rw [Go.Maps.atKey_put_same (im i0) (by trivial)] at hat
      exact fin hat
    rw [Go.Maps.atKey_put_other (impl_typeName.ne h2)] at hat
    by_cases h1 : a0 = 1
    · subst h1
      rw [Go.Maps.atKey_put_same i0 (by trivial)] at hat
      exact fin hat
    rw [Go.Maps.atKey_put_other (impl_typeName.ne h1)] at hat
    rw [if_neg h1, if_neg h2, if_neg h3, if_neg h4, if_neg h5, if_neg h6, if_neg h7]
    exact fin hat
  have HB := Aside0.mk hB
  subst e
  clear o0 o1 o2 o3 o4 o5 o6 o7 g1 g2 g3 g4 g5 g6 g7 hB hs hv key el law hw
  subst hr
  generalize impl_typeName.v a0 = s at rl ⊢
  have hmm := @run_makeMap Try.prog
  go_enter Try.func45, Try.ntmps45
  go_wp2
  go_ret
  exact ⟨rfl, HB.out⟩

end Go.Proofs.Ytblmnkjiefanfaa.Q
