/- The statement FnExactMsgBytes, out of its pure statement and the walk. No condition. -/
import Derived.Test.YtfddbkaoghdfgaaGreatRows
import Derived.Test.YtfddbkaoghdfgaaGreatYFnExactMsgBytes
import Derived.WalkKit
import Derived.ProofKit
import Derived.OpenShut
import Derived.ShutString
import Derived.ChangeOld
import Derived.Below
import Derived.SizedLaws
namespace Go.Proofs.YtfddbkaoghdfgaaGreat.fnExactMsgBytes
open Go Go.ChangeShapes Go.WideShapes Go.ChangeAt Go.RowKit Go.Proofs.YtfddbkaoghdfgaaGreat.Q Go.Proofs.YtfddbkaoghdfgaaGreat.Open Go.Proofs.YtfddbkaoghdfgaaGreatW.PrintWords
open Go.ChangeMaps (open_string shut_string)
set_option linter.unusedVariables false
theorem own:ownKnob Tryz.prog.godebug=none:=by kernel_rfl
theorem laidOut:laidOutB Tryz.prog=true:=by kernel_rfl
set_option maxRecDepth 100000 in
set_option maxHeartbeats 2000000 in
theorem lifted (os:Os) (started:os.Started) (H:Type) (enc:TypeId × Value→H) :
    ReturnsInHanded {} Tryz.checked os 4 .any (Rows.fnExactMsgBytesSpec.pre6 enc Tryz.prog Tryz.f4 Rows.fnExactMsgBytesRow.domain false) (Rows.fnExactMsgBytesSpec.post enc Tryz.prog Tryz.f4 false true false false):=by
  refine returnsInHanded_of_change_sized (C:=Tryz.checked) own started (by kernel_rfl) Tryz.func4
    (ChangeSpec.witness6 (enc:=enc) (C:=Tryz.checked) false ⟨#[],#[.agg #[.int .i64 0,.bool false,.int .i64 0,.bool false,.int .i64 0,.slice none 0 0,.slice none 0 0,.slice none 0 0,.slice none 0 0,.slice none 0 0,.slice none 0 0]],[]⟩ 8 (by kernel_rfl) (by kernel_rfl) (by kernel_rfl) (by kernel_rfl)) ?_
  intro W base args ds gs before qiu hW hcnd qmM _;have hval:∀ (j:Nat) t v,Tryz.f4.params[j]?=some t→args[j]?=some v→Value.okWide Tryz.prog W .any base t v:=qiu;have hW':=hW;obtain ⟨p,q,hA0,hV,rfl,hfz,hnd⟩:=hW;have hA:DataW.TrodAll enc Tryz.prog W 0 (fun _=>true) true Tryz.f4.params.toList args.toList ds p:=hA0;rw [Tryz.params4] at hA hval;obtain ⟨v0,vs0,d0,ds0,p0,q0,hargs,rfl,rfl,h0,r0⟩:=trodAll_cons hA;obtain ⟨rfl,rfl,rfl⟩:=trodAll_nil r0;obtain rfl:args=#[v0]:=by cases args; simp_all
  obtain ⟨rfl,rfl⟩:=trodVars_none hV;have k0:=h0;have lt0:∀ x ∈ p0,x.block < W.heap.size:=by obtain ⟨m,hm⟩:=k0; exact DataW.trod_lt m _ _ _ hm
  obtain ⟨cs0,x0,rfl,hk0,ok0⟩:=open_arg (d:=k26) Tryz.underlying26 (hval 0 26 v0 rfl rfl) h0 opensT26;obtain ⟨jl,qU,qS,qR,zg,ze,zf,zd,zp,zo,jO,jN,rfl,qb,qmT,qc,qmS,qp,qmR,qq,qmQ,qu,qmP,qo,ql3⟩:=k26_open hk0;clear hA0 qiu qmM;refine (Pure.FnExactMsgBytes x0 ok0 ⟨jl,qU,qS,qR,zg,ze,zf,zd,zp,zo,jO,jN⟩ W ⟨qmT,qb,qmS,qc,qmR,qp,qmQ,qq,qmP,qu,ql3,qo⟩).mono fun e W' ⟨he,qnb⟩=>?_
  have bel:Below W.heap.size W W':=qnb;subst he;exact ⟨_,rfl,_,_,_,[],_,[],hW',trodAll_mk1 (shut_bool Tryz.underlying4 _),(trodAll_cons_mk (Below.trod laidOut (by kernel_rfl) (of_decide_eq_true (by kernel_rfl)) k0 bel lt0) trodAll_mk0),rfl,bel.frame _,fun h=>by cases h⟩
theorem over:Rows.fnExactMsgBytesRow.holds Tryz.pinned (OpenSpec.ofChange Rows.fnExactMsgBytesSpec) :=
  OpenClaim.holds_of_wide 4 Tryz.f4 rfl rfl rfl rfl rfl rfl rfl ⟨rfl,rfl,rfl,rfl,rfl⟩ rfl rfl rfl rfl rfl (by kernel_rfl) Tryz.func4 (by kernel_rfl)
    (of_decide_eq_true (by kernel_rfl)) (by unfold Func.isWrapper; first | (rw [if_pos (by decide +kernel)]; kernel_rfl) | (rw [if_neg (by decide +kernel)]; exact ⟨rfl,rfl⟩))
    (fun os started H enc _=>lifted os started H enc)
theorem proved:Rows.FnExactMsgBytesSaid:=over
#print axioms proved
end Go.Proofs.YtfddbkaoghdfgaaGreat.fnExactMsgBytes
namespace Go.Proofs.YtfddbkaoghdfgaaGreat
/-- The row, under a short name, for the claim. -/
theorem fnExactMsgBytes_holds:Rows.FnExactMsgBytesSaid:=fnExactMsgBytes.proved
end Go.Proofs.YtfddbkaoghdfgaaGreat

