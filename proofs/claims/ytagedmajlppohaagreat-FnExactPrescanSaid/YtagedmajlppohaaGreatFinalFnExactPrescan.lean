/- The statement FnExactPrescan, out of its pure statement and the walk. No condition. -/
import Derived.Test.YtagedmajlppohaaGreatRows
import Derived.Test.YtagedmajlppohaaGreatYFnExactPrescan
import Derived.WalkKit
import Derived.ProofKit
import Derived.OpenShut
import Derived.ShutString
import Derived.ChangeOld
import Derived.Below
import Derived.SizedLaws
namespace Go.Proofs.YtagedmajlppohaaGreat.fnExactPrescan
open Go Go.ChangeShapes Go.WideShapes Go.ChangeAt Go.RowKit Go.Proofs.YtagedmajlppohaaGreat.Q Go.Proofs.YtagedmajlppohaaGreat.Open Go.Proofs.YtagedmajlppohaaGreatW.PrintWords
open Go.ChangeMaps (open_string shut_string)
set_option linter.unusedVariables false
theorem own : ownKnob Tryz.prog.godebug = none := by kernel_rfl
theorem laidOut : laidOutB Tryz.prog = true := by kernel_rfl
set_option maxRecDepth 100000 in
set_option maxHeartbeats 2000000 in
theorem lifted (os : Os) (started : os.Started) (H : Type) (enc : TypeId × Value → H) :
    ReturnsInHanded {} Tryz.checked os 3 .any (Rows.fnExactPrescanSpec.pre6 enc Tryz.prog Tryz.f3 Rows.fnExactPrescanRow.domain false) (Rows.fnExactPrescanSpec.post enc Tryz.prog Tryz.f3 false true false false) := by
  refine returnsInHanded_of_change_sized (C := Tryz.checked) own started (by kernel_rfl) Tryz.func3
    (ChangeSpec.witness6 (enc := enc) (C := Tryz.checked) false ⟨#[], #[.agg #[.slice none 0 0, .slice none 0 0], .slice none 0 0], []⟩ 8 (by kernel_rfl) (by kernel_rfl) (by kernel_rfl) (by kernel_rfl)) ?_
  intro W base args ds gs before qqS hW hcnd qpK _;have hval : ∀ (j : Nat) t v, Tryz.f3.params[j]? = some t → args[j]? = some v → Value.okWide Tryz.prog W .any base t v := qqS;have hW' := hW;obtain ⟨p, q, hA0, hV, rfl, hfz, hnd⟩ := hW;have hA : DataW.TrodAll enc Tryz.prog W 0 (fun _ => true) true Tryz.f3.params.toList args.toList ds p := hA0;rw [Tryz.params3] at hA hval;obtain ⟨v0, vs0, d0, ds0, p0, q0, hargs, rfl, rfl, h0, r0⟩ := trodAll_cons hA;obtain ⟨v1, vs1, d1, ds1, p1, q1, rfl, rfl, rfl, h1, r1⟩ := trodAll_cons r0;obtain ⟨rfl, rfl, rfl⟩ := trodAll_nil r1;obtain rfl : args = #[v0, v1] := by cases args; simp_all
  obtain ⟨rfl, rfl⟩ := trodVars_none hV;have k0 := h0;have lt0 : ∀ x ∈ p0, x.block < W.heap.size := by obtain ⟨m, hm⟩ := k0; exact DataW.trod_lt m _ _ _ hm
  obtain ⟨cs0, x0, rfl, hk0, ok0⟩ := open_arg (d := k27) Tryz.underlying27 (hval 0 27 v0 rfl rfl) h0 opensT27;obtain ⟨qC, qA, yL, jK, rfl, qd, qzi, qc, qzh⟩ := k27_open hk0;have k1 := h1;have lt1 : ∀ x ∈ p1, x.block < W.heap.size := by obtain ⟨m, hm⟩ := k1; exact DataW.trod_lt m _ _ _ hm
  obtain ⟨a1, qHp, qHK, rfl⟩ := okWide_slice Tryz.underlying28 (hval 1 28 v1 rfl rfl);obtain ⟨qHa, hf1⟩ := h1;obtain ⟨x1, ⟨A1, c1, he1, l1, g1⟩, ok1⟩ := opensT28 _ _ _ hf1;simp only [Value.cells, List.cons.injEq, Value.slice.injEq, and_true] at he1;obtain ⟨rfl, rfl, rfl⟩ := he1;clear hA0 qqS qpK;obtain ⟨k, hp⟩ := Pure.FnExactPrescan x0 x1 ok0 ok1;refine (Qf.calls k _ _ x0.f0.f0 _ _ x0.f1 _ _ x1 true W qzi qd qzh qc g1 l1 hp).mono fun e W' ⟨he, qzG⟩ => ?_
  have bel : Below W.heap.size W W' := qzG;subst he;exact ⟨_, rfl, _, _, _, [], _, [], hW', trodAll_mk1 (shut_bool Tryz.underlying4 _), (trodAll_cons_mk (Below.trod laidOut (by kernel_rfl) (of_decide_eq_true (by kernel_rfl)) k0 bel lt0) (trodAll_cons_mk (Below.trod laidOut (by kernel_rfl) (of_decide_eq_true (by kernel_rfl)) k1 bel lt1) trodAll_mk0)), rfl, bel.frame _, fun h => by cases h⟩
theorem over : Rows.fnExactPrescanRow.holds Tryz.pinned (OpenSpec.ofChange Rows.fnExactPrescanSpec) :=
  OpenClaim.holds_of_wide 3 Tryz.f3 rfl rfl rfl rfl rfl rfl rfl ⟨rfl, rfl, rfl, rfl, rfl⟩ rfl rfl rfl rfl rfl (by kernel_rfl) Tryz.func3 (by kernel_rfl)
    (of_decide_eq_true (by kernel_rfl)) (by unfold Func.isWrapper; first | (rw [if_pos (by decide +kernel)]; kernel_rfl) | (rw [if_neg (by decide +kernel)]; exact ⟨rfl, rfl⟩))
    (fun os started H enc _ => lifted os started H enc)
theorem proved : Rows.FnExactPrescanSaid := over
#print axioms proved
end Go.Proofs.YtagedmajlppohaaGreat.fnExactPrescan
namespace Go.Proofs.YtagedmajlppohaaGreat
/-- The row, under a short name, for the claim. -/
theorem fnExactPrescan_holds : Rows.FnExactPrescanSaid := fnExactPrescan.proved
end Go.Proofs.YtagedmajlppohaaGreat

