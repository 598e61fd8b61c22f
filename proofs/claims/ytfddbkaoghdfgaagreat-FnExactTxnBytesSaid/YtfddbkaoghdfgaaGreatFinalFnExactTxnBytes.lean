/- The statement FnExactTxnBytes, out of its pure statement and the walk. No condition. -/
import Derived.Test.YtfddbkaoghdfgaaGreatRows
import Derived.Test.YtfddbkaoghdfgaaGreatYFnExactTxnBytes
import Derived.WalkKit
import Derived.ProofKit
import Derived.OpenShut
import Derived.ShutString
import Derived.ChangeOld
import Derived.Below
import Derived.SizedLaws
namespace Go.Proofs.YtfddbkaoghdfgaaGreat.fnExactTxnBytes
open Go Go.ChangeShapes Go.WideShapes Go.ChangeAt Go.RowKit Go.Proofs.YtfddbkaoghdfgaaGreat.Q Go.Proofs.YtfddbkaoghdfgaaGreat.Open Go.Proofs.YtfddbkaoghdfgaaGreatW.PrintWords
open Go.ChangeMaps (open_string shut_string)
set_option linter.unusedVariables false
theorem own:ownKnob Tryz.prog.godebug=none:=by kernel_rfl
theorem laidOut:laidOutB Tryz.prog=true:=by kernel_rfl
set_option maxRecDepth 100000 in
set_option maxHeartbeats 2000000 in
theorem lifted (os:Os) (started:os.Started) (H:Type) (enc:TypeId × Value→H) :
    ReturnsInHanded {} Tryz.checked os 5 .any (Rows.fnExactTxnBytesSpec.pre6 enc Tryz.prog Tryz.f5 Rows.fnExactTxnBytesRow.domain false) (Rows.fnExactTxnBytesSpec.post enc Tryz.prog Tryz.f5 false true false false):=by
  refine returnsInHanded_of_change_sized (C:=Tryz.checked) own started (by kernel_rfl) Tryz.func5
    (ChangeSpec.witness6 (enc:=enc) (C:=Tryz.checked) false ⟨#[],#[.agg #[.int .i64 0,.int .i64 0,.bool false,.int .i64 0,.bool false,.int .i64 0,.slice none 0 0,.slice none 0 0,.slice none 0 0,.slice none 0 0,.slice none 0 0,.slice none 0 0,.int .i64 0,.slice none 0 0,.slice none 0 0,.int .i64 0]],[]⟩ 8 (by kernel_rfl) (by kernel_rfl) (by kernel_rfl) (by kernel_rfl)) ?_
  intro W base args ds gs before qkR hW hcnd qpG _;have hval:∀ (j:Nat) t v,Tryz.f5.params[j]?=some t→args[j]?=some v→Value.okWide Tryz.prog W .any base t v:=qkR;have hW':=hW;obtain ⟨p,q,hA0,hV,rfl,hfz,hnd⟩:=hW;have hA:DataW.TrodAll enc Tryz.prog W 0 (fun _=>true) true Tryz.f5.params.toList args.toList ds p:=hA0;rw [Tryz.params5] at hA hval;obtain ⟨v0,vs0,d0,ds0,p0,q0,hargs,rfl,rfl,h0,r0⟩:=trodAll_cons hA;obtain ⟨rfl,rfl,rfl⟩:=trodAll_nil r0;obtain rfl:args=#[v0]:=by cases args;simp_all
  obtain ⟨rfl,rfl⟩:=trodVars_none hV;have k0:=h0;have lt0:∀ x ∈ p0,x.block < W.heap.size:=by obtain ⟨m,hm⟩:=k0;exact DataW.trod_lt m _ _ _ hm
  obtain ⟨cs0,x0,rfl,hk0,ok0⟩:=open_arg (d:=k29) Tryz.underlying29 (hval 0 29 v0 rfl rfl) h0 opensT29;obtain ⟨qN,qM,jF,jD,jE,jC,jR,jQ,jf,je,Qx,Qt,Qw,Qs,Qv,Qr,rfl,qb,qpO,qk,qpN,ql,qpM,qo,qpL,qh,qoQ,qJ,qoP,qL,qoO,qP,qoN⟩:=k29_open hk0;clear hA0 qkR qpG;refine (Pure.FnExactTxnBytes x0 ok0 ⟨qN,qM,jF,jD,jE,jC,jR,jQ,jf,je,Qx,Qt,Qw,Qs,Qv,Qr⟩ W ⟨qpO,qb,qpN,qk,qpM,ql,qpL,qo,qoQ,qh,qoP,qJ,qoO,qL,qoN,qP⟩).mono fun e W' ⟨he,qp3⟩=>?_
  have bel:Below W.heap.size W W':=qp3;subst he;exact ⟨_,rfl,_,_,_,[],_,[],hW',trodAll_mk1 (shut_bool Tryz.underlying4 _),(trodAll_cons_mk (Below.trod laidOut (by kernel_rfl) (of_decide_eq_true (by kernel_rfl)) k0 bel lt0) trodAll_mk0),rfl,bel.frame _,fun h=>by cases h⟩
theorem over:Rows.fnExactTxnBytesRow.holds Tryz.pinned (OpenSpec.ofChange Rows.fnExactTxnBytesSpec) :=
  OpenClaim.holds_of_wide 5 Tryz.f5 rfl rfl rfl rfl rfl rfl rfl ⟨rfl,rfl,rfl,rfl,rfl⟩ rfl rfl rfl rfl rfl (by kernel_rfl) Tryz.func5 (by kernel_rfl)
    (of_decide_eq_true (by kernel_rfl)) (by unfold Func.isWrapper;first | (rw [if_pos (by decide +kernel)];kernel_rfl) | (rw [if_neg (by decide +kernel)];exact ⟨rfl,rfl⟩))
    (fun os started H enc _=>lifted os started H enc)
theorem proved:Rows.FnExactTxnBytesSaid:=over
#print axioms proved
end Go.Proofs.YtfddbkaoghdfgaaGreat.fnExactTxnBytes
namespace Go.Proofs.YtfddbkaoghdfgaaGreat
theorem fnExactTxnBytes_holds:Rows.FnExactTxnBytesSaid:=fnExactTxnBytes.proved
end Go.Proofs.YtfddbkaoghdfgaaGreat

