/- The statement FnExactPrereqs, out of its pure statement and the walk. No condition. -/
import Derived.Test.YtfddbkaoghdfgaaGreatRows
import Derived.Test.YtfddbkaoghdfgaaGreatYFnExactPrereqs1
import Derived.WalkKit
import Derived.ProofKit
import Derived.OpenShut
import Derived.ShutString
import Derived.ChangeOld
import Derived.Below
import Derived.SizedLaws
namespace Go.Proofs.YtfddbkaoghdfgaaGreat.fnExactPrereqs
open Go Go.ChangeShapes Go.WideShapes Go.ChangeAt Go.RowKit Go.Proofs.YtfddbkaoghdfgaaGreat.Q Go.Proofs.YtfddbkaoghdfgaaGreat.Open Go.Proofs.YtfddbkaoghdfgaaGreatW.PrintWords
open Go.ChangeMaps (open_string shut_string)
set_option linter.unusedVariables false
theorem own:ownKnob Tryz.prog.godebug=none:=by kernel_rfl
theorem laidOut:laidOutB Tryz.prog=true:=by kernel_rfl
set_option maxRecDepth 100000 in
set_option maxHeartbeats 2000000 in
theorem lifted (os:Os) (started:os.Started) (H:Type) (enc:TypeId × Value→H) :
    ReturnsInHanded {} Tryz.checked os 7 .any (Rows.fnExactPrereqsSpec.pre6 enc Tryz.prog Tryz.f7 Rows.fnExactPrereqsRow.domain false) (Rows.fnExactPrereqsSpec.post enc Tryz.prog Tryz.f7 false true false false):=by
  refine returnsInHanded_of_change_sized (C:=Tryz.checked) own started (by kernel_rfl) Tryz.func7
    (ChangeSpec.witness6 (enc:=enc) (C:=Tryz.checked) false ⟨#[],#[.agg #[.slice none 0 0,.slice none 0 0],.slice none 0 0],[]⟩ 8 (by kernel_rfl) (by kernel_rfl) (by kernel_rfl) (by kernel_rfl)) ?_
  intro W base args ds gs before qlI hW hcnd qkl _;have hval:∀ (j:Nat) t v,Tryz.f7.params[j]?=some t→args[j]?=some v→Value.okWide Tryz.prog W .any base t v:=qlI;have hW':=hW;obtain ⟨p,q,hA0,hV,rfl,hfz,hnd⟩:=hW;have hA:DataW.TrodAll enc Tryz.prog W 0 (fun _=>true) true Tryz.f7.params.toList args.toList ds p:=hA0;rw [Tryz.params7] at hA hval;obtain ⟨v0,vs0,d0,ds0,p0,q0,hargs,rfl,rfl,h0,r0⟩:=trodAll_cons hA;obtain ⟨v1,vs1,d1,ds1,p1,q1,rfl,rfl,rfl,h1,r1⟩:=trodAll_cons r0;obtain ⟨rfl,rfl,rfl⟩:=trodAll_nil r1;obtain rfl:args=#[v0,v1]:=by cases args;simp_all
  obtain ⟨rfl,rfl⟩:=trodVars_none hV;have k0:=h0;have lt0:∀ x ∈ p0,x.block < W.heap.size:=by obtain ⟨m,hm⟩:=k0;exact DataW.trod_lt m _ _ _ hm
  obtain ⟨cs0,x0,rfl,hk0,ok0⟩:=open_arg (d:=k61) Tryz.underlying61 (hval 0 61 v0 rfl rfl) h0 opensT61;obtain ⟨qy,qx,jH,ji,rfl,qe,qqT,qc,qqS⟩:=k61_open hk0;have k1:=h1;have lt1:∀ x ∈ p1,x.block < W.heap.size:=by obtain ⟨m,hm⟩:=k1;exact DataW.trod_lt m _ _ _ hm
  obtain ⟨a1,qv1,qwm,rfl⟩:=okWide_slice Tryz.underlying24 (hval 1 24 v1 rfl rfl);obtain ⟨qvG,hf1⟩:=h1;obtain ⟨x1,⟨A1,c1,he1,l1,g1⟩,ok1⟩:=opensT24 _ _ _ hf1;simp only [Value.cells,List.cons.injEq,Value.slice.injEq,and_true] at he1;obtain ⟨rfl,rfl,rfl⟩:=he1;clear hA0 qlI qkl;obtain ⟨k,hp⟩:=Pure.FnExactPrereqs x0 x1 ok0 ok1;refine (QF.calls k _ _ x0.f0.f0 _ _ x0.f1 _ _ x1 true W qqT qe qqS qc g1 l1 hp).mono fun e W' ⟨he,qrk⟩=>?_
  have bel:Below W.heap.size W W':=qrk;subst he;exact ⟨_,rfl,_,_,_,[],_,[],hW',trodAll_mk1 (shut_bool Tryz.underlying4 _),(trodAll_cons_mk (Below.trod laidOut (by kernel_rfl) (of_decide_eq_true (by kernel_rfl)) k0 bel lt0) (trodAll_cons_mk (Below.trod laidOut (by kernel_rfl) (of_decide_eq_true (by kernel_rfl)) k1 bel lt1) trodAll_mk0)),rfl,bel.frame _,fun h=>by cases h⟩
theorem over:Rows.fnExactPrereqsRow.holds Tryz.pinned (OpenSpec.ofChange Rows.fnExactPrereqsSpec) :=
  OpenClaim.holds_of_wide 7 Tryz.f7 rfl rfl rfl rfl rfl rfl rfl ⟨rfl,rfl,rfl,rfl,rfl⟩ rfl rfl rfl rfl rfl (by kernel_rfl) Tryz.func7 (by kernel_rfl)
    (of_decide_eq_true (by kernel_rfl)) (by unfold Func.isWrapper;first | (rw [if_pos (by decide +kernel)];kernel_rfl) | (rw [if_neg (by decide +kernel)];exact ⟨rfl,rfl⟩))
    (fun os started H enc _=>lifted os started H enc)
theorem proved:Rows.FnExactPrereqsSaid:=over
#print axioms proved
end Go.Proofs.YtfddbkaoghdfgaaGreat.fnExactPrereqs
namespace Go.Proofs.YtfddbkaoghdfgaaGreat
theorem fnExactPrereqs_holds:Rows.FnExactPrereqsSaid:=fnExactPrereqs.proved
end Go.Proofs.YtfddbkaoghdfgaaGreat

