/- The statement FnExactCacheOk, out of its pure statement and the walk. No condition. -/
import Derived.Test.YtagedmajlppohaaRows
import Derived.Test.YtagedmajlppohaaYFnExactCacheOk
import Derived.WalkKit
import Derived.ProofKit
import Derived.OpenShut
import Derived.ShutString
import Derived.ChangeOld
import Derived.Below
import Derived.SizedLaws
namespace Go.Proofs.Ytagedmajlppohaa.fnExactCacheOk
open Go Go.ChangeShapes Go.WideShapes Go.ChangeAt Go.RowKit Go.Proofs.Ytagedmajlppohaa.Q Go.Proofs.Ytagedmajlppohaa.Open Go.Proofs.YtagedmajlppohaaW.PrintWords
open Go.ChangeMaps (open_string shut_string)
set_option linter.unusedVariables false
theorem own : ownKnob Try.prog.godebug = none := by kernel_rfl
theorem laidOut : laidOutB Try.prog = true := by kernel_rfl
set_option maxRecDepth 100000 in
set_option maxHeartbeats 2000000 in
theorem lifted (os : Os) (started : os.Started) (H : Type) (enc : TypeId × Value → H) :
    ReturnsInHanded {} Try.checked os 11 .any (Rows.fnExactCacheOkSpec.pre6 enc Try.prog Try.f11 Rows.fnExactCacheOkRow.domain false) (Rows.fnExactCacheOkSpec.post enc Try.prog Try.f11 false true false false) := by
  refine returnsInHanded_of_change_sized (C := Try.checked) own started (by kernel_rfl) Try.func11
    (ChangeSpec.witness6 (enc := enc) (C := Try.checked) false ⟨#[], #[.agg #[.int .i64 0, .int .i64 0, .slice none 0 0]], []⟩ 8 (by kernel_rfl) (by kernel_rfl) (by kernel_rfl) (by kernel_rfl)) ?_
  intro W base args ds gs before qrM hW hcnd qx8 _;have hval : ∀ (j : Nat) t v, Try.f11.params[j]? = some t → args[j]? = some v → Value.okWide Try.prog W .any base t v := qrM;have hW' := hW;obtain ⟨p, q, hA0, hV, rfl, hfz, hnd⟩ := hW;have hA : DataW.TrodAll enc Try.prog W 0 (fun _ => true) true Try.f11.params.toList args.toList ds p := hA0;rw [Try.params11] at hA hval;obtain ⟨v0, vs0, d0, ds0, p0, q0, hargs, rfl, rfl, h0, r0⟩ := trodAll_cons hA;obtain ⟨rfl, rfl, rfl⟩ := trodAll_nil r0;obtain rfl : args = #[v0] := by cases args; simp_all
  obtain ⟨rfl, rfl⟩ := trodVars_none hV;have k0 := h0;have lt0 : ∀ x ∈ p0, x.block < W.heap.size := by obtain ⟨m, hm⟩ := k0; exact DataW.trod_lt m _ _ _ hm
  obtain ⟨cs0, x0, rfl, hk0, ok0⟩ := open_arg (d := k74) Try.underlying74 (hval 0 74 v0 rfl rfl) h0 opensT74;obtain ⟨Yi, zz, rfl, qe, qyf⟩ := k74_open hk0;clear hA0 qrM qx8;obtain ⟨k, hp⟩ := Pure.FnExactCacheOk x0 ok0;refine (Jk.calls k x0.f0 x0.f1 _ _ x0.f2 true W qyf qe hp).mono fun e W' ⟨he, qys⟩ => ?_
  have bel : Below W.heap.size W W' := qys;subst he;exact ⟨_, rfl, _, _, _, [], _, [], hW', trodAll_mk1 (shut_bool Try.underlying4 _), (trodAll_cons_mk (Below.trod laidOut (by kernel_rfl) (of_decide_eq_true (by kernel_rfl)) k0 bel lt0) trodAll_mk0), rfl, bel.frame _, fun h => by cases h⟩
theorem over : Rows.fnExactCacheOkRow.holds Try.pinned (OpenSpec.ofChange Rows.fnExactCacheOkSpec) :=
  OpenClaim.holds_of_wide 11 Try.f11 rfl rfl rfl rfl rfl rfl rfl ⟨rfl, rfl, rfl, rfl, rfl⟩ rfl rfl rfl rfl rfl (by kernel_rfl) Try.func11 (by kernel_rfl)
    (of_decide_eq_true (by kernel_rfl)) (by unfold Func.isWrapper; first | (rw [if_pos (by decide +kernel)]; kernel_rfl) | (rw [if_neg (by decide +kernel)]; exact ⟨rfl, rfl⟩))
    (fun os started H enc _ => lifted os started H enc)
theorem proved : Rows.FnExactCacheOkSaid := over
#print axioms proved
end Go.Proofs.Ytagedmajlppohaa.fnExactCacheOk
namespace Go.Proofs.Ytagedmajlppohaa
/-- The row, under a short name, for the claim. -/
theorem fnExactCacheOk_holds : Rows.FnExactCacheOkSaid := fnExactCacheOk.proved
end Go.Proofs.Ytagedmajlppohaa

