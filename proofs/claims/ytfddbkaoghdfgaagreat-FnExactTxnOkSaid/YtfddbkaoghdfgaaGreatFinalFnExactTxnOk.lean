/- The statement FnExactTxnOk, out of its pure statement and the walk. No condition. -/
import Derived.Test.YtfddbkaoghdfgaaGreatRows
import Derived.Test.YtfddbkaoghdfgaaGreatYFnExactTxnOk
import Derived.WalkKit
import Derived.ProofKit
import Derived.OpenShut
import Derived.ShutString
import Derived.ChangeOld
import Derived.Below
import Derived.SizedLaws
namespace Go.Proofs.YtfddbkaoghdfgaaGreat.fnExactTxnOk
open Go Go.ChangeShapes Go.WideShapes Go.ChangeAt Go.RowKit Go.Proofs.YtfddbkaoghdfgaaGreat.Q Go.Proofs.YtfddbkaoghdfgaaGreat.Open Go.Proofs.YtfddbkaoghdfgaaGreatW.PrintWords
open Go.ChangeMaps (open_string shut_string)
set_option linter.unusedVariables false
theorem own:ownKnob Tryz.prog.godebug=none:=by kernel_rfl
theorem laidOut:laidOutB Tryz.prog=true:=by kernel_rfl
set_option maxRecDepth 100000 in
set_option maxHeartbeats 2000000 in
theorem lifted (os:Os) (started:os.Started) (H:Type) (enc:TypeId × Value→H) :
    ReturnsInHanded {} Tryz.checked os 3 .any (Rows.fnExactTxnOkSpec.pre6 enc Tryz.prog Tryz.f3 Rows.fnExactTxnOkRow.domain false) (Rows.fnExactTxnOkSpec.post enc Tryz.prog Tryz.f3 false true false false):=by
  refine returnsInHanded_of_change_sized (C:=Tryz.checked) own started (by kernel_rfl) Tryz.func3
    (ChangeSpec.witness6 (enc:=enc) (C:=Tryz.checked) false ⟨#[],#[.agg #[.int .i64 0,.int .i64 0,.bool false,.int .i64 0,.bool false,.int .i64 0,.slice none 0 0,.slice none 0 0,.slice none 0 0,.slice none 0 0,.slice none 0 0,.slice none 0 0,.int .i64 0,.slice none 0 0,.slice none 0 0,.int .i64 0]],[]⟩ 8 (by kernel_rfl) (by kernel_rfl) (by kernel_rfl) (by kernel_rfl)) ?_
  intro W base args ds gs before qjX hW hcnd qoz _;have hval:∀ (j:Nat) t v,Tryz.f3.params[j]?=some t→args[j]?=some v→Value.okWide Tryz.prog W .any base t v:=qjX;have hW':=hW;obtain ⟨p,q,hA0,hV,rfl,hfz,hnd⟩:=hW;have hA:DataW.TrodAll enc Tryz.prog W 0 (fun _=>true) true Tryz.f3.params.toList args.toList ds p:=hA0;rw [Tryz.params3] at hA hval;obtain ⟨v0,vs0,d0,ds0,p0,q0,hargs,rfl,rfl,h0,r0⟩:=trodAll_cons hA;obtain ⟨rfl,rfl,rfl⟩:=trodAll_nil r0;obtain rfl:args=#[v0]:=by cases args;simp_all
  obtain ⟨rfl,rfl⟩:=trodVars_none hV;have k0:=h0;have lt0:∀ x ∈ p0,x.block < W.heap.size:=by obtain ⟨m,hm⟩:=k0;exact DataW.trod_lt m _ _ _ hm
  obtain ⟨cs0,x0,rfl,hk0,ok0⟩:=open_arg (d:=k29) Tryz.underlying29 (hval 0 29 v0 rfl rfl) h0 opensT29;obtain ⟨qM,qL,jW,jU,jV,jT,zl,zk,jr,jq,ZK,ZG,ZJ,ZF,ZI,ZE,rfl,qb,qoH,qn,qoG,qo,qoF,qr,qoE,qi,qnH,ja,qnG,jv,qnF,jH,qnE⟩:=k29_open hk0;clear hA0 qjX qoz;refine (Pure.FnExactTxnOk x0 ok0 ⟨qM,qL,jW,jU,jV,jT,zl,zk,jr,jq,ZK,ZG,ZJ,ZF,ZI,ZE⟩ W ⟨qoH,qb,qoG,qn,qoF,qo,qoE,qr,qnH,qi,qnG,ja,qnF,jv,qnE,jH⟩).mono fun e W' ⟨he,qo0⟩=>?_
  have bel:Below W.heap.size W W':=qo0;subst he;exact ⟨_,rfl,_,_,_,[],_,[],hW',trodAll_mk1 (shut_bool Tryz.underlying4 _),(trodAll_cons_mk (Below.trod laidOut (by kernel_rfl) (of_decide_eq_true (by kernel_rfl)) k0 bel lt0) trodAll_mk0),rfl,bel.frame _,fun h=>by cases h⟩
theorem over:Rows.fnExactTxnOkRow.holds Tryz.pinned (OpenSpec.ofChange Rows.fnExactTxnOkSpec) :=
  OpenClaim.holds_of_wide 3 Tryz.f3 rfl rfl rfl rfl rfl rfl rfl ⟨rfl,rfl,rfl,rfl,rfl⟩ rfl rfl rfl rfl rfl (by kernel_rfl) Tryz.func3 (by kernel_rfl)
    (of_decide_eq_true (by kernel_rfl)) (by unfold Func.isWrapper;first | (rw [if_pos (by decide +kernel)];kernel_rfl) | (rw [if_neg (by decide +kernel)];exact ⟨rfl,rfl⟩))
    (fun os started H enc _=>lifted os started H enc)
theorem proved:Rows.FnExactTxnOkSaid:=over
#print axioms proved
end Go.Proofs.YtfddbkaoghdfgaaGreat.fnExactTxnOk
namespace Go.Proofs.YtfddbkaoghdfgaaGreat
theorem fnExactTxnOk_holds:Rows.FnExactTxnOkSaid:=fnExactTxnOk.proved
end Go.Proofs.YtfddbkaoghdfgaaGreat

