/- Plain lemmas for the statement FnExactPrereqs. -/
import Derived.Test.YtfddbkaoghdfgaaGreatYFnExactPrereqs0
namespace Go.Proofs.YtfddbkaoghdfgaaGreat.Q
open Go.RowKit Go Go.Proofs.YtfddbkaoghdfgaaGreatW.PrintWords Go.Proofs.YtfddbkaoghdfgaaGreatW.PrintLast Go.Proofs.YtfddbkaoghdfgaaGreatW.PrintMore
attribute [local go_sem] max2_int min2_int max_two min_two
set_option linter.unusedVariables false
set_option linter.unusedSimpArgs false

mutual
noncomputable def qm.j0:Nat→List (zm)→Bool→List (List Int)→List (qY)→Option (Int)
 | 0,_,_,_,_=>none
 | k+1,x1,x24,qB,ql=>if x24=true then (some 1) else (qm.l0 k x1 x1 (x1.length:Int) 0 qB ql)
noncomputable def qm.l0:Nat→List (zm)→List (zm)→Int→Int→List (List Int)→List (qY)→Option (Int)
 | 0,_,_,_,_,_,_=>none
 | k+1,x1,x25,x26,x27,qB,ql=>if x27 < x26 then (if 0≤x27 then (if x27 < (x25.length:Int) then ((qR.f k qB ql ((qd x25 x27).f0.f0.f0) ((qd x25 x27).f0.f1)).bind fun jt=>((qN.f ((qd x25 x27).f0.f0.f0) qB).bind fun Qj=>(if Qj=true then (if ((qd x25 x27).f2=true) then (qm.j2 k x1 ((qd x25 x27).f0.f1) ((jt.length:Int) == 0) x25 x26 x27 false qB ql ((qd x25 x27).f0.f0.f0) ((qd x25 x27).f0.f1) ((qd x25 x27).f0.f2) ((qd x25 x27).f0.f3) ((qd x25 x27).f0.f4.f0) ((qd x25 x27).f0.f5) ((qd x25 x27).f0.f6) ((qd x25 x27).f1) ((qd x25 x27).f2)) else (if ((qd x25 x27).f0.f2) > 0 then (qm.j2 k x1 ((qd x25 x27).f0.f1) ((jt.length:Int) == 0) x25 x26 x27 true qB ql ((qd x25 x27).f0.f0.f0) ((qd x25 x27).f0.f1) ((qd x25 x27).f0.f2) ((qd x25 x27).f0.f3) ((qd x25 x27).f0.f4.f0) ((qd x25 x27).f0.f5) ((qd x25 x27).f0.f6) ((qd x25 x27).f1) ((qd x25 x27).f2)) else (qm.j2 k x1 ((qd x25 x27).f0.f1) ((jt.length:Int) == 0) x25 x26 x27 (((qd x25 x27).f1) != 1) qB ql ((qd x25 x27).f0.f0.f0) ((qd x25 x27).f0.f1) ((qd x25 x27).f0.f2) ((qd x25 x27).f0.f3) ((qd x25 x27).f0.f4.f0) ((qd x25 x27).f0.f5) ((qd x25 x27).f0.f6) ((qd x25 x27).f1) ((qd x25 x27).f2)))) else (some 10)))) else (none)) else (none)) else ((YI.f k qB ql x1).bind fun qE=>(if qE=true then (some 0) else (some 8)))
noncomputable def qm.j2:Nat→List (zm)→Int→Bool→List (zm)→Int→Int→Bool→List (List Int)→List (qY)→List (List Int)→Int→Int→Int→List (List Int)→List Int→List Int→Int→Bool→Option (Int)
 | 0,_,_,_,_,_,_,_,_,_,_,_,_,_,_,_,_,_,_=>none
 | k+1,x1,x8,x9,x25,x26,x27,x49,qB,ql,XN,XM,XL,XK,XI,XH,XG,ZE,Xe=>if x49=true then (some 1) else (if Xe=true then (if ZE=255 then (if x9=true then (qm.j3 k x1 x8 x9 x25 x26 x27 (x8 == 255) qB ql XN XM XL XK XI XH XG ZE Xe) else (qm.j3 k x1 x8 x9 x25 x26 x27 false qB ql XN XM XL XK XI XH XG ZE Xe)) else (qm.j3 k x1 x8 x9 x25 x26 x27 false qB ql XN XM XL XK XI XH XG ZE Xe)) else (qm.l0 k x1 x25 x26 (wrap64 (x27+1)) qB ql))
noncomputable def qm.j3:Nat→List (zm)→Int→Bool→List (zm)→Int→Int→Bool→List (List Int)→List (qY)→List (List Int)→Int→Int→Int→List (List Int)→List Int→List Int→Int→Bool→Option (Int)
 | 0,_,_,_,_,_,_,_,_,_,_,_,_,_,_,_,_,_,_=>none
 | k+1,x1,x8,x9,x25,x26,x27,x68,qB,ql,XN,XM,XL,XK,XI,XH,XG,ZE,Xe=>if x68=true then (some 3) else (if ZE=255 then (qm.j4 k x1 x8 x9 x25 x26 x27 x9 qB ql XN XM XL XK XI XH XG ZE Xe) else (qm.j4 k x1 x8 x9 x25 x26 x27 false qB ql XN XM XL XK XI XH XG ZE Xe))
noncomputable def qm.j4:Nat→List (zm)→Int→Bool→List (zm)→Int→Int→Bool→List (List Int)→List (qY)→List (List Int)→Int→Int→Int→List (List Int)→List Int→List Int→Int→Bool→Option (Int)
 | 0,_,_,_,_,_,_,_,_,_,_,_,_,_,_,_,_,_,_=>none
 | k+1,x1,x8,x9,x25,x26,x27,x79,qB,ql,XN,XM,XL,XK,XI,XH,XG,ZE,Xe=>if x79=true then (some 8) else (if ZE=254 then (if x9=true then (qm.j5 k x1 x9 x25 x26 x27 false qB ql XN XM XL XK XI XH XG ZE Xe) else (qm.j5 k x1 x9 x25 x26 x27 (x8 == 255) qB ql XN XM XL XK XI XH XG ZE Xe)) else (qm.j5 k x1 x9 x25 x26 x27 false qB ql XN XM XL XK XI XH XG ZE Xe))
noncomputable def qm.j5:Nat→List (zm)→Bool→List (zm)→Int→Int→Bool→List (List Int)→List (qY)→List (List Int)→Int→Int→Int→List (List Int)→List Int→List Int→Int→Bool→Option (Int)
 | 0,_,_,_,_,_,_,_,_,_,_,_,_,_,_,_,_,_=>none
 | k+1,x1,x9,x25,x26,x27,x86,qB,ql,XN,XM,XL,XK,XI,XH,XG,ZE,Xe=>if x86=true then (some 6) else (if ZE=254 then (if x9=true then (qm.l0 k x1 x25 x26 (wrap64 (x27+1)) qB ql) else (some 7)) else (qm.l0 k x1 x25 x26 (wrap64 (x27+1)) qB ql))
end
noncomputable def qm.f (k:Nat) (qe:List (List Int)) (qc:List (qY)) (l1:List (zm)):Option (Int):=(qG.f k qe qc).bind fun qS=>(if qS=true then ((ZA.f k l1).bind fun qQ=>(qm.j0 k l1 (!qQ) qe qc)) else (qm.j0 k l1 true qe qc))
def qm.T6:Bool × List (List Nat × List Nat):=(true,[([],[]),([0],[0]),([1],[1]),([],[]),([3],[3]),([4],[4]),([],[]),([6,2,0,1,2,6],[2,6]),([5,7,0,1,2,3,4,5,6,7],[5])])
def qm.B6:List Nat:=[0,1,3,0,8,24,0,71,255]
theorem qm.tab6:rtab .any (opsOf Tryz.f34 6)=qm.T6:=by kernel_rfl
theorem qm.bits6:waitsOk qm.T6.2 qm.B6=true:=by kernel_rfl
theorem qm.tab26:rtab .any (opsOf Tryz.f34 26)=qm.T6:=by kernel_rfl
set_option maxHeartbeats 8000000 in
set_option maxRecDepth 100000 in
theorem qm.calls (k:Nat) (qy:Option Addr) (qx:Nat) (qe:List (List Int)) (jH:Option Addr) (ji:Nat) (qc:List (qY)) (A1:Option Addr) (c1:Nat) (l1:List (zm)) (r:Int) (w:World) (qO:Kd.C (Kd.slice 5 (Kd.int .u8)) w qy qe.length qe) (qW:qe.length≤qx) (Je:Kd.C jR w jH qc.length qc) (Jf:qc.length≤ji) (hr1:Kd.C yY w A1 l1.length l1) (hc1:l1.length≤c1) (h:qm.f k qe qc l1=some r) :
  Calls Tryz.prog 34 #[.agg #[.slice qy qe.length qx,.slice jH qc.length ji],.slice A1 l1.length c1] w fun e w'=>e=.returned (.int .i64 r)∧Below w.heap.size w w':=by
 have qcZ:=Tryz.underlying67;have qb8:=Tryz.underlying107;have ZQ:=Tryz.underlying65;have qD:=ak qO;have qF:=ak qW;clear qO qW;have ye:=ak Je;have yO:=ak Jf;clear Je Jf;have HR1:=ak hr1;have HC1:=ak hc1;clear hr1 hc1;have HB:=ak (Below.refl w.heap.size w);have H:((qG.f k qe qc).bind fun qS=>(if qS=true then ((ZA.f k l1).bind fun qQ=>(qm.j0 k l1 (!qQ) qe qc)) else (qm.j0 k l1 true qe qc)))=some r:=h;clear h;have HC3:=ak H;clear H;go_enter Tryz.func34,Tryz.ntmps34;go_upto_region 1 with (((with_reducible refine gate_dst (N:=2) rfl ?_);refine bxd (N:=2) rfl HB ?_;clear HB;intro qh w4 hg HB qb qC hb;have jj:=qC;clear hb hg))
 (try simp only [Act.put,List.setIfInBounds_toArray,List.set_cons_zero,List.set_cons_succ])
 go_cut [24] (fun v24 wc=>∃ (kq:Nat) (qjY:Bool),v24=.bool qjY∧Aside0 (qm.j0 kq l1 qjY qe qc=some r)∧Aside0 (kq≤k)∧Aside0 (wc.heap[qh]?=some (.cells #[(.slice qy qe.length qx),(.slice jH qc.length ji)] 67 (0,0)))∧Aside0 (Below w.heap.size w wc))
 case first =>
  have H:=HC3.out;clear HC3;replace H:=bnd H;obtain ⟨qS,A5,H⟩:=H;replace H:=ib H;obtain ⟨rfl,H⟩ | ⟨rfl,H⟩:=H
  ·replace H:=bnd H;obtain ⟨qQ,A7,H⟩:=H;have H':=ak H;clear H;obtain ⟨qbP,qiY,qbO,qiP⟩:=cells2 qb.out;go_wp2_with (first | ((with_reducible refine gate_callee (f:=81) rfl ?_);refine glB 18 rfl rfl Tryz.func81 (qG.calls k _ _ qe _ _ qc true _ (cv qD HB) qF.out (cv ye HB) yO.out A5.out) (fun w9 hb=>?_);replace qb:=b1 qb hb;replace HB:=b2s bs hb;(try clear hb)) | (go_at_call 82;(with_reducible refine (ZA.calls k _ _ l1 qQ _ (cv HR1 HB) HC1.out A7.out).mono ?_);rintro e w10 ⟨rfl,hb⟩;replace qb:=b1 qb hb;replace HB:=b2s bs hb;(try clear hb)));go_meet
   case rel=>exact ⟨_,(!qQ),o2,H',⟨o3⟩,⟨bk qb.out⟩,⟨bs⟩⟩
  ·have H':=ak H;clear H;obtain ⟨YQ,qaE,YO,qaD⟩:=cells2 qb.out;go_wp2_with (((with_reducible refine gate_callee (f:=81) rfl ?_);refine glB 18 rfl rfl Tryz.func81 (qG.calls k _ _ qe _ _ qc false _ (cv qD HB) qF.out (cv ye HB) yO.out A5.out) (fun w12 hb=>?_);replace qb:=b1 qb hb;replace HB:=b2s bs hb;(try clear hb)));go_meet
   case rel=>exact ⟨_,(true),o2,H',⟨o3⟩,⟨bk qb.out⟩,⟨bs⟩⟩
 case rest =>
  clear HC3;(try clear c1)
  obtain ⟨kq,qjY,rfl,HA,HJ2,qb,HB⟩:=hcut;cases kq with
  | zero=>exact absurd HA.out (by simp [qm.j0])
  | succ kj2 =>
   have H:=HA.out;clear HA;simp only [qm.j0] at H;replace H:=ib H;obtain ⟨rfl,H⟩ | ⟨rfl,H⟩:=H
   ·obtain rfl:=Option.some.inj H;go_wp2;go_ret;exact ⟨o1,bs⟩
   ·have H':=ak H;clear H;go_wp2;go_loopg [27] kj2 (fun kq v27 w'=>∃ (qi:Int),v27=.int .i64 qi∧Aside0 (qm.l0 kq l1 l1 (l1.length:Int) qi qe qc=some r)∧Aside0 (kq≤kj2)∧Aside0 (w'.heap[qh]?=some (.cells #[(.slice qy qe.length qx),(.slice jH qc.length ji)] 67 (0,0)))∧Aside0 (Below w.heap.size w w'))
    case atStart=>exact ⟨(0),o2,H',⟨Nat.le_refl _⟩,⟨bk qb.out⟩,⟨bs⟩⟩
    case round =>
     clear H';(try clear c1)
     obtain ⟨qi,rfl,HA,HK2,qb,HB⟩:=hrel;cases gk with
     | zero=>exact absurd HA.out (by simp [qm.l0])
     | succ k2 =>
      have H:=HA.out;clear HA;simp only [qm.l0] at H;replace H:=ip H;obtain ⟨c14b0,H⟩ | ⟨c14b0,H⟩:=H
      ·replace H:=ipN H;obtain ⟨c15b0,H⟩:=H;replace H:=ipN H;obtain ⟨c16b0,H⟩:=H;replace H:=bnd H;obtain ⟨jt,A17,H⟩:=H;replace H:=bnd H;obtain ⟨Qj,A18,H⟩:=H;replace H:=ib H;obtain ⟨rfl,H⟩ | ⟨rfl,H⟩:=H
       ·have qlz:=ak H;clear H;obtain ⟨qbc,zV,zU,Js,Jo,Jr,Jn,Jq,Jm,rfl,zk,qch,qcg,qcf,qbr,qbq,qbp,qc4,qc3,qbJ,qa5,qjS,qjP,qjR,qjO,qjQ,qjN,QB,QA⟩:=el_T107 HR1 HB qi;try go_wp2_with (((with_reducible refine gate_dst (N:=6) rfl ?_);refine bxe (N:=6) rfl ?_;intro je hg w21 hbox hb;have jm:=ak (hbox);have qfU:=b3s hg bs;have qqm:=qfU;replace HB:=b2s bs hb;have Qd:=b4 hg qb;have Qw:=b5 hg qb;replace qb:=b1 qb hb;clear hb hbox hg;have ql0:=Qw.out;have qlS:=Qd.out;obtain ⟨qbz,qdw,qfa,qe9,qe8,qe7,qe6,qe5,qe4,qbw,qdl,qeX,qeW,qeV,qeU,qeT,qeS,qeR⟩:=cells9 jm.out))
        have n0_:Aside0 ((((((((((w21.setCell ⟨je,0,none⟩ (.slice zV ((qd l1 qi).f0.f0.f0).length zU)).setCell ⟨je,1,none⟩ (.int .i64 ((qd l1 qi).f0.f1))).setCell ⟨je,2,none⟩ (.int .i64 ((qd l1 qi).f0.f2))).setCell ⟨je,3,none⟩ (.int .i64 ((qd l1 qi).f0.f3))).setCell ⟨je,4,none⟩ (.slice Js ((qd l1 qi).f0.f4.f0).length Jo)).setCell ⟨je,5,none⟩ (.slice Jr ((qd l1 qi).f0.f5).length Jn)).setCell ⟨je,6,none⟩ (.slice Jq ((qd l1 qi).f0.f6).length Jm)).setCell ⟨je,7,none⟩ (.int .i64 ((qd l1 qi).f1))).setCell ⟨je,8,none⟩ (.bool ((qd l1 qi).f2))).heap[qh]?=some (.cells #[.slice qy qe.length qx,.slice jH qc.length ji] 67 (0,0))):=⟨qfN Qd.out qb.out⟩;have n1_:Aside0 ((((((((((w21.setCell ⟨je,0,none⟩ (.slice zV ((qd l1 qi).f0.f0.f0).length zU)).setCell ⟨je,1,none⟩ (.int .i64 ((qd l1 qi).f0.f1))).setCell ⟨je,2,none⟩ (.int .i64 ((qd l1 qi).f0.f2))).setCell ⟨je,3,none⟩ (.int .i64 ((qd l1 qi).f0.f3))).setCell ⟨je,4,none⟩ (.slice Js ((qd l1 qi).f0.f4.f0).length Jo)).setCell ⟨je,5,none⟩ (.slice Jr ((qd l1 qi).f0.f5).length Jn)).setCell ⟨je,6,none⟩ (.slice Jq ((qd l1 qi).f0.f6).length Jm)).setCell ⟨je,7,none⟩ (.int .i64 ((qd l1 qi).f1))).setCell ⟨je,8,none⟩ (.bool ((qd l1 qi).f2))).heap[je]?=some (.cells #[.slice zV ((qd l1 qi).f0.f0.f0).length zU,.int .i64 ((qd l1 qi).f0.f1),.int .i64 ((qd l1 qi).f0.f2),.int .i64 ((qd l1 qi).f0.f3),.slice Js ((qd l1 qi).f0.f4.f0).length Jo,.slice Jr ((qd l1 qi).f0.f5).length Jn,.slice Jq ((qd l1 qi).f0.f6).length Jm,.int .i64 ((qd l1 qi).f1),.bool ((qd l1 qi).f2)] 107 (0,0))):=⟨qic jm.out⟩;have n2_:Aside0 (Below w.heap.size w (((((((((w21.setCell ⟨je,0,none⟩ (.slice zV ((qd l1 qi).f0.f0.f0).length zU)).setCell ⟨je,1,none⟩ (.int .i64 ((qd l1 qi).f0.f1))).setCell ⟨je,2,none⟩ (.int .i64 ((qd l1 qi).f0.f2))).setCell ⟨je,3,none⟩ (.int .i64 ((qd l1 qi).f0.f3))).setCell ⟨je,4,none⟩ (.slice Js ((qd l1 qi).f0.f4.f0).length Jo)).setCell ⟨je,5,none⟩ (.slice Jr ((qd l1 qi).f0.f5).length Jn)).setCell ⟨je,6,none⟩ (.slice Jq ((qd l1 qi).f0.f6).length Jm)).setCell ⟨je,7,none⟩ (.int .i64 ((qd l1 qi).f1))).setCell ⟨je,8,none⟩ (.bool ((qd l1 qi).f2)))):=⟨bs⟩;(try clear qb)
        (try clear jm)
        (try clear HB)
        generalize (((((((((w21.setCell ⟨je,0,none⟩ (.slice zV ((qd l1 qi).f0.f0.f0).length zU)).setCell ⟨je,1,none⟩ (.int .i64 ((qd l1 qi).f0.f1))).setCell ⟨je,2,none⟩ (.int .i64 ((qd l1 qi).f0.f2))).setCell ⟨je,3,none⟩ (.int .i64 ((qd l1 qi).f0.f3))).setCell ⟨je,4,none⟩ (.slice Js ((qd l1 qi).f0.f4.f0).length Jo)).setCell ⟨je,5,none⟩ (.slice Jr ((qd l1 qi).f0.f5).length Jn)).setCell ⟨je,6,none⟩ (.slice Jq ((qd l1 qi).f0.f6).length Jm)).setCell ⟨je,7,none⟩ (.int .i64 ((qd l1 qi).f1))).setCell ⟨je,8,none⟩ (.bool ((qd l1 qi).f2)))=w24 at n0_ n1_ n2_ ⊢;have qb:=n0_;have jm:=n1_;have HB:=n2_;clear n0_ n1_ n2_;replace qb:=ak (blk_drew qb.out);replace jm:=ak (blk_drew jm.out);replace HB:=ak (below_drew1 HB.out);refine start_ (n:=9) (S:=fun w'=>w'.cell? ⟨je,0,none⟩=some (.slice zV ((qd l1 qi).f0.f0.f0).length zU)∧w'.cell? ⟨je,1,none⟩=some (.int .i64 ((qd l1 qi).f0.f1))∧w'.cell? ⟨je,2,none⟩=some (.int .i64 ((qd l1 qi).f0.f2))∧w'.cell? ⟨je,3,none⟩=some (.int .i64 ((qd l1 qi).f0.f3))∧w'.cell? ⟨je,4,none⟩=some (.slice Js ((qd l1 qi).f0.f4.f0).length Jo)∧w'.cell? ⟨je,5,none⟩=some (.slice Jr ((qd l1 qi).f0.f5).length Jn)∧w'.cell? ⟨je,6,none⟩=some (.slice Jq ((qd l1 qi).f0.f6).length Jm)∧w'.cell? ⟨je,7,none⟩=some (.int .i64 ((qd l1 qi).f1))∧w'.cell? ⟨je,8,none⟩=some (.bool ((qd l1 qi).f2))) (ds:=[]) (bA 9 0) (by kernel_rfl) rfl rfl kq (fun hHeld=>?_);refine with_tabW qm.tab6 qm.bits6 (fun HT_ HW_=>?_);generalize w24.drew=w25 at qb jm HB hHeld ⊢;refine pu HT_ 0 ?_;refine pu HT_ 1 ?_;refine pu HT_ 3 ?_;refine pu HT_ 4 ?_;refine ta HT_ HW_ hHeld 2 ?_;refine ta HT_ HW_ hHeld 5 ?_;refine on HT_ 6 (fun K hK=>?_);refine box_step ?hg (N:=7) ?hd (cs:=#[.slice none 0 0]) (t:=65) ?hr ?_;(case hd=>rfl);(case hg=>rfl);(case hr=>first | (go_simp;done) | (go_simp;rfl));intro jb hg w26 hbox hb;have jP:=ak (hbox);have qa1:=b3s hg bs;have qfW:=qa1;replace HB:=b2s bs hb;have Qx:=b4 hg qb;have Zc:=b5 hg qb;replace qb:=b1 qb hb;have jD:=b4 hg jm;have Qc:=b5 hg jm;replace jm:=b1 jm hb;clear hb hbox hg;refine hK.out _ _ ⟨(blk_cell jm.out 0).trans rfl,(blk_cell jm.out 1).trans rfl,(blk_cell jm.out 2).trans rfl,(blk_cell jm.out 3).trans rfl,(blk_cell jm.out 4).trans rfl,(blk_cell jm.out 5).trans rfl,(blk_cell jm.out 6).trans rfl,(blk_cell jm.out 7).trans rfl,(blk_cell jm.out 8).trans rfl⟩ (fun hHeld=>?_);clear hK K;refine norm_ (a':=?_) ?_ ?_;rotate_left;go_simp;rfl;refine one_ (i:=7) (N:=none) (bA 9 255) rfl rfl (one_of HT_.out (by kernel_rfl)) (by decide) (fun K hK=>?_);have qnM:w26.cell? ⟨jb,0,none⟩=some (.slice none 0 0):=(blk_cell jP.out 0).trans rfl;have ql3:=blk_frozen jP.out 0;have qjf:=Qx.out;have qje:=jD.out;have qjh:=Zc.out;have qjg:=Qc.out;refine skip_ (w1:=?_) (by rfl) rfl ?_ ?_;rotate_left
        ·go_simp;rfl
        refine hK.out _ _ ⟨((cell_far (p:=⟨jb,_,none⟩) jD.out _).trans (hHeld.1)),((cell_far (p:=⟨jb,_,none⟩) jD.out _).trans (hHeld.2.1)),((cell_far (p:=⟨jb,_,none⟩) jD.out _).trans (hHeld.2.2.1)),((cell_far (p:=⟨jb,_,none⟩) jD.out _).trans (hHeld.2.2.2.1)),((cell_far (p:=⟨jb,_,none⟩) jD.out _).trans (hHeld.2.2.2.2.1)),((cell_far (p:=⟨jb,_,none⟩) jD.out _).trans (hHeld.2.2.2.2.2.1)),((cell_far (p:=⟨jb,_,none⟩) jD.out _).trans (hHeld.2.2.2.2.2.2.1)),((cell_far (p:=⟨jb,_,none⟩) jD.out _).trans (hHeld.2.2.2.2.2.2.2.1)),((cell_far (p:=⟨jb,_,none⟩) jD.out _).trans (hHeld.2.2.2.2.2.2.2.2))⟩ (fun hHeld=>?_);clear hK K;refine pu HT_ 8 ?_;refine done_ (done_of HT_.out (by kernel_rfl)) ?_;have n0_:Aside0 ((w26.setCell ⟨jb,0,none⟩ (.slice zV ((qd l1 qi).f0.f0.f0).length zU)).heap[qh]?=some (.cells #[.slice qy qe.length qx,.slice jH qc.length ji] 67 (0,0))):=⟨qfO Qx.out qb.out⟩;have n1_:Aside0 ((w26.setCell ⟨jb,0,none⟩ (.slice zV ((qd l1 qi).f0.f0.f0).length zU)).heap[je]?=some (.cells #[.slice zV ((qd l1 qi).f0.f0.f0).length zU,.int .i64 ((qd l1 qi).f0.f1),.int .i64 ((qd l1 qi).f0.f2),.int .i64 ((qd l1 qi).f0.f3),.slice Js ((qd l1 qi).f0.f4.f0).length Jo,.slice Jr ((qd l1 qi).f0.f5).length Jn,.slice Jq ((qd l1 qi).f0.f6).length Jm,.int .i64 ((qd l1 qi).f1),.bool ((qd l1 qi).f2)] 107 (0,0))):=⟨qfO jD.out jm.out⟩;have n2_:Aside0 ((w26.setCell ⟨jb,0,none⟩ (.slice zV ((qd l1 qi).f0.f0.f0).length zU)).heap[jb]?=some (.cells #[.slice zV ((qd l1 qi).f0.f0.f0).length zU] 65 (0,0))):=⟨qkH jP.out⟩;have n3_:Aside0 (Below w.heap.size w (w26.setCell ⟨jb,0,none⟩ (.slice zV ((qd l1 qi).f0.f0.f0).length zU))):=⟨bs⟩;(try clear qb)
        (try clear jm)
        (try clear jP)
        (try clear HB)
        generalize (w26.setCell ⟨jb,0,none⟩ (.slice zV ((qd l1 qi).f0.f0.f0).length zU))=w28 at n0_ n1_ n2_ n3_ ⊢;have qb:=n0_;have jm:=n1_;have jP:=n2_;have HB:=n3_;clear n0_ n1_ n2_ n3_;have qkv:=Qx.out;have qkp:=Zc.out;obtain ⟨qdv,qe3,qdk,qeQ⟩:=cells2 qb.out;have qpE:=Qc.out;have qpj:=jD.out;obtain ⟨qe2,qeP⟩:=cells1 jP.out;go_upto_region 10 with (first | ((with_reducible refine gate_callee (f:=83) rfl ?_);refine glG 40 rfl rfl Tryz.func83 (qR.calls k2 _ _ qe (fun k_=>k_ < w.heap.size) _ _ qc _ _ ((qd l1 qi).f0.f0.f0) ((qd l1 qi).f0.f1) jt _ (cv qD HB) qF.out ?yb (cv qa5 HB) qbJ.out A17.out) ?_;(case yb=>exact Kd.V_mk yO.out (Kd.F_below (Kd.C_F k105_heap ye.out) bs));rintro e w33 ⟨qit,rfl,ho0,hb⟩;refine ⟨_,rfl,?_⟩;have XB:=ak (Kd.N_lower (Kd.N_mono (ok':=fun k_=>k_≠qh∧k_≠je∧k_≠jb) ho0 (fun k_ hk_=>⟨Or.elim hk_ (fun hs_=>fun e_=>Nat.not_le.2 hs_ (by rw [e_];exact jj.out)) (fun hn_=>(Kd.freshB (g:=qh) (o:=.cells #[.slice qy qe.length qx,.slice jH qc.length ji] 67 (0,0)) (bk qb.out) k_ hn_)),Or.elim hk_ (fun hs_=>fun e_=>Nat.not_le.2 hs_ (by rw [e_];exact qfU.out)) (fun hn_=>(Kd.freshB (g:=je) (o:=.cells #[.slice zV ((qd l1 qi).f0.f0.f0).length zU,.int .i64 ((qd l1 qi).f0.f1),.int .i64 ((qd l1 qi).f0.f2),.int .i64 ((qd l1 qi).f0.f3),.slice Js ((qd l1 qi).f0.f4.f0).length Jo,.slice Jr ((qd l1 qi).f0.f5).length Jn,.slice Jq ((qd l1 qi).f0.f6).length Jm,.int .i64 ((qd l1 qi).f1),.bool ((qd l1 qi).f2)] 107 (0,0)) (bk jm.out) k_ hn_)),Or.elim hk_ (fun hs_=>fun e_=>Nat.not_le.2 hs_ (by rw [e_];exact qa1.out)) (fun hn_=>(Kd.freshB (g:=jb) (o:=.cells #[.slice zV ((qd l1 qi).f0.f0.f0).length zU] 65 (0,0)) (bk jP.out) k_ hn_))⟩)) (below_size bs));replace qb:=b1 qb hb;replace jm:=b1 jm hb;replace jP:=b1 jP hb;replace HB:=b2s bs hb;(try clear hb);(try clear ho0);obtain ⟨qrp,qrh,qlg⟩:=Kd.N_slice XB.out;subst qlg;obtain ⟨qdu,qdj⟩:=cells1 jP.out;obtain ⟨qdt,qe1,qdi,qeO⟩:=cells2 qb.out) | ((with_reducible refine gate_callee (f:=84) rfl ?_);refine glB 47 rfl rfl Tryz.func84 (qN.calls _ _ ((qd l1 qi).f0.f0.f0) _ _ qe true _ (cv qa5 HB) qbJ.out (cv qD HB) qF.out A18.out) (fun w37 hb=>?_);replace XB:=ak (Kd.N_below (nw XB.out) hb);replace qb:=b1 qb hb;replace jm:=b1 jm hb;replace jP:=b1 jP hb;replace HB:=b2s bs hb;(try clear hb)))
        (try simp only [Act.put,List.setIfInBounds_toArray,List.set_cons_zero,List.set_cons_succ])
        go_cut [49] (fun v49 wc=>∃ (kq:Nat) (qip:Bool),v49=.bool qip∧Aside0 (qm.j2 kq l1 ((qd l1 qi).f0.f1) ((jt.length:Int) == 0) l1 (l1.length:Int) qi qip qe qc ((qd l1 qi).f0.f0.f0) ((qd l1 qi).f0.f1) ((qd l1 qi).f0.f2) ((qd l1 qi).f0.f3) ((qd l1 qi).f0.f4.f0) ((qd l1 qi).f0.f5) ((qd l1 qi).f0.f6) ((qd l1 qi).f1) ((qd l1 qi).f2)=some r)∧Aside0 (kq≤k2)∧Aside0 (wc.heap[qh]?=some (.cells #[(.slice qy qe.length qx),(.slice jH qc.length ji)] 67 (0,0)))∧Aside0 (wc.heap[je]?=some (.cells #[(.slice zV ((qd l1 qi).f0.f0.f0).length zU),.int .i64 ((qd l1 qi).f0.f1),.int .i64 ((qd l1 qi).f0.f2),.int .i64 ((qd l1 qi).f0.f3),(.slice Js ((qd l1 qi).f0.f4.f0).length Jo),(.slice Jr ((qd l1 qi).f0.f5).length Jn),(.slice Jq ((qd l1 qi).f0.f6).length Jm),.int .i64 ((qd l1 qi).f1),.bool ((qd l1 qi).f2)] 107 (0,0)))∧Aside0 (wc.heap[jb]?=some (.cells #[(.slice zV ((qd l1 qi).f0.f0.f0).length zU)] 65 (0,0)))∧Aside0 (Below w.heap.size w wc))
        case first =>
         have H:=qlz.out;clear qlz;obtain ⟨qi4,qkA⟩:∃ b_:Bool,b_=((qd l1 qi).f2):=⟨_,rfl⟩;replace H:(if (qi4=true) then (qm.j2 k2 l1 ((qd l1 qi).f0.f1) ((jt.length:Int) == 0) l1 (l1.length:Int) qi false qe qc ((qd l1 qi).f0.f0.f0) ((qd l1 qi).f0.f1) ((qd l1 qi).f0.f2) ((qd l1 qi).f0.f3) ((qd l1 qi).f0.f4.f0) ((qd l1 qi).f0.f5) ((qd l1 qi).f0.f6) ((qd l1 qi).f1) qi4) else (if ((qd l1 qi).f0.f2) > 0 then (qm.j2 k2 l1 ((qd l1 qi).f0.f1) ((jt.length:Int) == 0) l1 (l1.length:Int) qi true qe qc ((qd l1 qi).f0.f0.f0) ((qd l1 qi).f0.f1) ((qd l1 qi).f0.f2) ((qd l1 qi).f0.f3) ((qd l1 qi).f0.f4.f0) ((qd l1 qi).f0.f5) ((qd l1 qi).f0.f6) ((qd l1 qi).f1) qi4) else (qm.j2 k2 l1 ((qd l1 qi).f0.f1) ((jt.length:Int) == 0) l1 (l1.length:Int) qi (((qd l1 qi).f1) != 1) qe qc ((qd l1 qi).f0.f0.f0) ((qd l1 qi).f0.f1) ((qd l1 qi).f0.f2) ((qd l1 qi).f0.f3) ((qd l1 qi).f0.f4.f0) ((qd l1 qi).f0.f5) ((qd l1 qi).f0.f6) ((qd l1 qi).f1) qi4)))=some r:=by rw [← qkA] at H;exact H
         have qcR:=ak qkA;clear qkA;(try rw [← qcR.out])
         by_cases c39:(qi4=true)
         ·subst c39;replace H:=ibT H;have H':=ak H;clear H;have qvt:=Qw.out;have quJ:=Qd.out;have qku:=jD.out;have qko:=Qc.out;obtain ⟨_,_,_,_,_,_,_,_,qm0,_,_,_,_,_,_,_,_,_⟩:=cells9 jm.out;(try rw [← qcR.out] at qm0)
          go_wp2;go_meet
          case rel=>exact ⟨_,(false),o2,⟨by first | exact H'.out | (rw [← qcR.out];exact H'.out)⟩,⟨by have:=HJ2.out;have:=HK2.out;first | omega | exact Nat.le_refl _⟩,⟨bk qb.out⟩,⟨bk jm.out⟩,⟨bk jP.out⟩,⟨bs⟩⟩
         ·replace c39:=Bool.eq_false_iff.mpr c39;subst c39;replace H:=ibF H;replace H:=ig H;obtain ⟨c43b0,H⟩ | ⟨c43b0,H⟩:=H
          ·have H':=ak H;clear H;have qvq:=Qw.out;have quG:=Qd.out;have qvp:=jD.out;have quF:=Qc.out;obtain ⟨_,_,_,_,_,_,_,_,qmZ,_,_,_,_,_,_,_,_,_⟩:=cells9 jm.out;(try rw [← qcR.out] at qmZ)
           go_wp2;go_meet
           case rel=>exact ⟨_,(true),o2,⟨by first | exact H'.out | (rw [← qcR.out];exact H'.out)⟩,⟨by have:=HJ2.out;have:=HK2.out;first | omega | exact Nat.le_refl _⟩,⟨bk qb.out⟩,⟨bk jm.out⟩,⟨bk jP.out⟩,⟨bs⟩⟩
          ·have H':=ak H;clear H;have qpy:=Qw.out;have qpd:=Qd.out;have qlX:=jD.out;have qlP:=Qc.out;obtain ⟨_,_,_,_,_,_,_,_,qmY,_,_,_,_,_,_,_,_,_⟩:=cells9 jm.out;(try rw [← qcR.out] at qmY)
           go_wp2;go_meet
           case rel=>exact ⟨_,((((qd l1 qi).f1) != 1)),o2,⟨by first | exact H'.out | (rw [← qcR.out];exact H'.out)⟩,⟨by have:=HJ2.out;have:=HK2.out;first | omega | exact Nat.le_refl _⟩,⟨bk qb.out⟩,⟨bk jm.out⟩,⟨bk jP.out⟩,⟨bs⟩⟩
        case rest =>
         clear qlz;(try clear c1)
         (try clear c14b0)
         (try clear c15b0)
         (try clear c16b0)
         (try clear qbz)
         (try clear qdw)
         (try clear qfa)
         (try clear qe9)
         (try clear qe8)
         (try clear qe7)
         (try clear qe6)
         (try clear qe5)
         (try clear qe4)
         (try clear qdv)
         (try clear qe3)
         (try clear qe2)
         (try clear qdu)
         (try clear qdt)
         (try clear qe1)
         (try clear qbw)
         (try clear qdl)
         (try clear qeX)
         (try clear qeW)
         (try clear qeV)
         (try clear qeU)
         (try clear qeT)
         (try clear qeS)
         (try clear qeR)
         (try clear qdk)
         (try clear qeQ)
         (try clear qeP)
         (try clear qdj)
         (try clear qdi)
         (try clear qeO)
         (try clear zk)
         (try clear qch)
         (try clear qcg)
         (try clear qcf)
         (try clear qbr)
         (try clear qbq)
         (try clear qbp)
         (try clear qc4)
         (try clear qc3)
         (try clear QB)
         (try clear QA)
         obtain ⟨kq,qip,rfl,HA,qbd,qb,jm,jP,HB⟩:=hcut;cases kq with
         | zero=>exact absurd HA.out (by simp [qm.j2])
         | succ qnC =>
          have H:=HA.out;clear HA;simp only [qm.j2] at H;replace H:=ib H;obtain ⟨rfl,H⟩ | ⟨rfl,H⟩:=H
          ·obtain rfl:=Option.some.inj H;go_wp2;go_ret;exact ⟨o1,bs⟩
          ·by_cases c51:((qd l1 qi).f2)=true
           ·rw [if_pos c51] at H;have c51b0:((qd l1 qi).f2)=true:=c51;clear c51;have qlr:=ak H;clear H;have qvn:=Qw.out;have quD:=Qd.out;have qvm:=jD.out;have quC:=Qc.out;obtain ⟨qhm,qhl,qhk,qhj,qhi,qhh,qhg,qhf,qe0,qgW,qgV,qgU,qgT,qgS,qgR,qgQ,qgP,qgO⟩:=cells9 jm.out;(try rw [← qcR.out] at qe0)
            go_upto_region 13 with (fail)
            go_cut [68] (fun v68 wc=>∃ (kq:Nat) (qik:Bool),v68=.bool qik∧Aside0 (qm.j3 kq l1 ((qd l1 qi).f0.f1) ((jt.length:Int) == 0) l1 (l1.length:Int) qi qik qe qc ((qd l1 qi).f0.f0.f0) ((qd l1 qi).f0.f1) ((qd l1 qi).f0.f2) ((qd l1 qi).f0.f3) ((qd l1 qi).f0.f4.f0) ((qd l1 qi).f0.f5) ((qd l1 qi).f0.f6) ((qd l1 qi).f1) ((qd l1 qi).f2)=some r)∧Aside0 (kq≤qnC)∧Aside0 (wc.heap[qh]?=some (.cells #[(.slice qy qe.length qx),(.slice jH qc.length ji)] 67 (0,0)))∧Aside0 (wc.heap[je]?=some (.cells #[(.slice zV ((qd l1 qi).f0.f0.f0).length zU),.int .i64 ((qd l1 qi).f0.f1),.int .i64 ((qd l1 qi).f0.f2),.int .i64 ((qd l1 qi).f0.f3),(.slice Js ((qd l1 qi).f0.f4.f0).length Jo),(.slice Jr ((qd l1 qi).f0.f5).length Jn),(.slice Jq ((qd l1 qi).f0.f6).length Jm),.int .i64 ((qd l1 qi).f1),.bool ((qd l1 qi).f2)] 107 (0,0)))∧Aside0 (wc.heap[jb]?=some (.cells #[(.slice zV ((qd l1 qi).f0.f0.f0).length zU)] 65 (0,0)))∧Aside0 (Below w.heap.size w wc))
            case first =>
             have H:=qlr.out;clear qlr;replace H:=ie H;obtain ⟨c56b0,c56b1,H⟩ | ⟨c56b0,c56b1,H⟩:=H
             ·(first | rw [c56b0] | (simp only [i64_w,i32_w];rw [c56b0]) | skip)
              by_cases c57:((jt.length:Int) == 0)=true
              ·rw [if_pos c57] at H;have c57b0:((jt.length:Int) == 0)=true:=c57;(try (have c57b1:decide ((jt.length:Int)=0)=true:=by simpa using c57))
               (try (have c57b2:((jt.length:Int) == 0)=true:=by simpa using c57))
               clear c57;have H':=ak H;clear H;have qlW:=Qw.out;have qlO:=Qd.out;have qpv:=jD.out;have qpa:=Qc.out;obtain ⟨_,_,_,_,_,_,_,_,_,_,_,_,_,_,_,_,_,_⟩:=cells9 jm.out;go_wp2;go_meet
               case rel=>exact ⟨_,((((qd l1 qi).f0.f1) == 255)),o2,H',⟨by have:=HJ2.out;have:=HK2.out;have:=qbd.out;first | omega | exact Nat.le_refl _⟩,⟨bk qb.out⟩,⟨bk jm.out⟩,⟨bk jP.out⟩,⟨bs⟩⟩
              ·rw [if_neg c57] at H;have c57b0:((jt.length:Int) == 0)=false:=by simpa using c57
               (try (have c57b1:decide ((jt.length:Int)=0)=false:=by simpa using c57))
               (try (have c57b2:((jt.length:Int) == 0)=false:=by simpa using c57))
               (try (have c57b3:¬ ((jt.length:Int)=0):=by simpa using c57))
               clear c57;have H':=ak H;clear H;have qvi:=Qw.out;have quy:=Qd.out;have qlV:=jD.out;have qlN:=Qc.out;obtain ⟨_,_,_,_,_,_,_,_,_,_,_,_,_,_,_,_,_,_⟩:=cells9 jm.out;go_wp2;go_meet
               case rel=>exact ⟨_,(false),o2,H',⟨by have:=HJ2.out;have:=HK2.out;have:=qbd.out;first | omega | exact Nat.le_refl _⟩,⟨bk qb.out⟩,⟨bk jm.out⟩,⟨bk jP.out⟩,⟨bs⟩⟩
             ·(first | rw [c56b0] | (simp only [i64_w,i32_w];rw [c56b0]) | skip)
              have H':=ak H;clear H;have qpu:=Qw.out;have qo9:=Qd.out;have qvg:=jD.out;have quw:=Qc.out;obtain ⟨_,_,_,_,_,_,_,_,_,_,_,_,_,_,_,_,_,_⟩:=cells9 jm.out;go_wp2;go_meet
              case rel=>exact ⟨_,(false),o2,H',⟨by have:=HJ2.out;have:=HK2.out;have:=qbd.out;first | omega | exact Nat.le_refl _⟩,⟨bk qb.out⟩,⟨bk jm.out⟩,⟨bk jP.out⟩,⟨bs⟩⟩
            case rest =>
             clear qlr;(try clear c1)
             (try clear c14b0)
             (try clear c15b0)
             (try clear c16b0)
             (try clear c51)
             (try clear c51b0)
             (try clear qbz)
             (try clear qdw)
             (try clear qfa)
             (try clear qe9)
             (try clear qe8)
             (try clear qe7)
             (try clear qe6)
             (try clear qe5)
             (try clear qe4)
             (try clear qdv)
             (try clear qe3)
             (try clear qe2)
             (try clear qdu)
             (try clear qdt)
             (try clear qe1)
             (try clear qhm)
             (try clear qhl)
             (try clear qhk)
             (try clear qhj)
             (try clear qhi)
             (try clear qhh)
             (try clear qhg)
             (try clear qhf)
             (try clear qe0)
             (try clear qbw)
             (try clear qdl)
             (try clear qeX)
             (try clear qeW)
             (try clear qeV)
             (try clear qeU)
             (try clear qeT)
             (try clear qeS)
             (try clear qeR)
             (try clear qdk)
             (try clear qeQ)
             (try clear qeP)
             (try clear qdj)
             (try clear qdi)
             (try clear qeO)
             (try clear qgW)
             (try clear qgV)
             (try clear qgU)
             (try clear qgT)
             (try clear qgS)
             (try clear qgR)
             (try clear qgQ)
             (try clear qgP)
             (try clear qgO)
             (try clear zk)
             (try clear qch)
             (try clear qcg)
             (try clear qcf)
             (try clear qbr)
             (try clear qbq)
             (try clear qbp)
             (try clear qc4)
             (try clear qc3)
             (try clear QB)
             (try clear QA)
             obtain ⟨kq,qik,rfl,HA,qd1,qb,jm,jP,HB⟩:=hcut;cases kq with
             | zero=>exact absurd HA.out (by simp [qm.j3])
             | succ qqt =>
              have H:=HA.out;clear HA;simp only [qm.j3] at H;replace H:=ib H;obtain ⟨rfl,H⟩ | ⟨rfl,H⟩:=H
              ·obtain rfl:=Option.some.inj H;go_wp2;go_ret;exact ⟨o1,bs⟩
              ·have qlq:=ak H;clear H;go_upto_region 15 with (fail)
               go_cut [79] (fun v79 wc=>∃ (kq:Nat) (qij:Bool),v79=.bool qij∧Aside0 (qm.j4 kq l1 ((qd l1 qi).f0.f1) ((jt.length:Int) == 0) l1 (l1.length:Int) qi qij qe qc ((qd l1 qi).f0.f0.f0) ((qd l1 qi).f0.f1) ((qd l1 qi).f0.f2) ((qd l1 qi).f0.f3) ((qd l1 qi).f0.f4.f0) ((qd l1 qi).f0.f5) ((qd l1 qi).f0.f6) ((qd l1 qi).f1) ((qd l1 qi).f2)=some r)∧Aside0 (kq≤qqt)∧Aside0 (wc.heap[qh]?=some (.cells #[(.slice qy qe.length qx),(.slice jH qc.length ji)] 67 (0,0)))∧Aside0 (wc.heap[je]?=some (.cells #[(.slice zV ((qd l1 qi).f0.f0.f0).length zU),.int .i64 ((qd l1 qi).f0.f1),.int .i64 ((qd l1 qi).f0.f2),.int .i64 ((qd l1 qi).f0.f3),(.slice Js ((qd l1 qi).f0.f4.f0).length Jo),(.slice Jr ((qd l1 qi).f0.f5).length Jn),(.slice Jq ((qd l1 qi).f0.f6).length Jm),.int .i64 ((qd l1 qi).f1),.bool ((qd l1 qi).f2)] 107 (0,0)))∧Aside0 (wc.heap[jb]?=some (.cells #[(.slice zV ((qd l1 qi).f0.f0.f0).length zU)] 65 (0,0)))∧Aside0 (Below w.heap.size w wc))
               case first =>
                have H:=qlq.out;clear qlq;replace H:=ie H;obtain ⟨c69b0,c69b1,H⟩ | ⟨c69b0,c69b1,H⟩:=H
                ·(first | rw [c69b0] | (simp only [i64_w,i32_w];rw [c69b0]) | skip)
                 have H':=ak H;clear H;have qlU:=Qw.out;have qlM:=Qd.out;have qvd:=jD.out;have qut:=Qc.out;obtain ⟨_,_,_,_,_,_,_,_,_,_,_,_,_,_,_,_,_,_⟩:=cells9 jm.out;go_wp2;go_meet
                 case rel=>exact ⟨_,(((jt.length:Int) == 0)),o2,H',⟨by have:=HJ2.out;have:=HK2.out;have:=qbd.out;have:=qd1.out;first | omega | exact Nat.le_refl _⟩,⟨bk qb.out⟩,⟨bk jm.out⟩,⟨bk jP.out⟩,⟨bs⟩⟩
                ·(first | rw [c69b0] | (simp only [i64_w,i32_w];rw [c69b0]) | skip)
                 have H':=ak H;clear H;have qvb:=Qw.out;have qur:=Qd.out;have qps:=jD.out;have qo7:=Qc.out;obtain ⟨_,_,_,_,_,_,_,_,_,_,_,_,_,_,_,_,_,_⟩:=cells9 jm.out;go_wp2;go_meet
                 case rel=>exact ⟨_,(false),o2,H',⟨by have:=HJ2.out;have:=HK2.out;have:=qbd.out;have:=qd1.out;first | omega | exact Nat.le_refl _⟩,⟨bk qb.out⟩,⟨bk jm.out⟩,⟨bk jP.out⟩,⟨bs⟩⟩
               case rest =>
                clear qlq;(try clear c1)
                (try clear c14b0)
                (try clear c15b0)
                (try clear c16b0)
                (try clear c51)
                (try clear c51b0)
                (try clear qbz)
                (try clear qdw)
                (try clear qfa)
                (try clear qe9)
                (try clear qe8)
                (try clear qe7)
                (try clear qe6)
                (try clear qe5)
                (try clear qe4)
                (try clear qdv)
                (try clear qe3)
                (try clear qe2)
                (try clear qdu)
                (try clear qdt)
                (try clear qe1)
                (try clear qhm)
                (try clear qhl)
                (try clear qhk)
                (try clear qhj)
                (try clear qhi)
                (try clear qhh)
                (try clear qhg)
                (try clear qhf)
                (try clear qe0)
                (try clear qbw)
                (try clear qdl)
                (try clear qeX)
                (try clear qeW)
                (try clear qeV)
                (try clear qeU)
                (try clear qeT)
                (try clear qeS)
                (try clear qeR)
                (try clear qdk)
                (try clear qeQ)
                (try clear qeP)
                (try clear qdj)
                (try clear qdi)
                (try clear qeO)
                (try clear qgW)
                (try clear qgV)
                (try clear qgU)
                (try clear qgT)
                (try clear qgS)
                (try clear qgR)
                (try clear qgQ)
                (try clear qgP)
                (try clear qgO)
                (try clear zk)
                (try clear qch)
                (try clear qcg)
                (try clear qcf)
                (try clear qbr)
                (try clear qbq)
                (try clear qbp)
                (try clear qc4)
                (try clear qc3)
                (try clear QB)
                (try clear QA)
                obtain ⟨kq,qij,rfl,HA,qfA,qb,jm,jP,HB⟩:=hcut;cases kq with
                | zero=>exact absurd HA.out (by simp [qm.j4])
                | succ qqs =>
                 have H:=HA.out;clear HA;simp only [qm.j4] at H;replace H:=ib H;obtain ⟨rfl,H⟩ | ⟨rfl,H⟩:=H
                 ·obtain rfl:=Option.some.inj H;go_wp2;go_ret;exact ⟨o1,bs⟩
                 ·have qlp:=ak H;clear H;go_upto_region 17 with (fail)
                  go_cut [86] (fun v86 wc=>∃ (kq:Nat) (qii:Bool),v86=.bool qii∧Aside0 (qm.j5 kq l1 ((jt.length:Int) == 0) l1 (l1.length:Int) qi qii qe qc ((qd l1 qi).f0.f0.f0) ((qd l1 qi).f0.f1) ((qd l1 qi).f0.f2) ((qd l1 qi).f0.f3) ((qd l1 qi).f0.f4.f0) ((qd l1 qi).f0.f5) ((qd l1 qi).f0.f6) ((qd l1 qi).f1) ((qd l1 qi).f2)=some r)∧Aside0 (kq≤qqs)∧Aside0 (wc.heap[qh]?=some (.cells #[(.slice qy qe.length qx),(.slice jH qc.length ji)] 67 (0,0)))∧Aside0 (wc.heap[je]?=some (.cells #[(.slice zV ((qd l1 qi).f0.f0.f0).length zU),.int .i64 ((qd l1 qi).f0.f1),.int .i64 ((qd l1 qi).f0.f2),.int .i64 ((qd l1 qi).f0.f3),(.slice Js ((qd l1 qi).f0.f4.f0).length Jo),(.slice Jr ((qd l1 qi).f0.f5).length Jn),(.slice Jq ((qd l1 qi).f0.f6).length Jm),.int .i64 ((qd l1 qi).f1),.bool ((qd l1 qi).f2)] 107 (0,0)))∧Aside0 (wc.heap[jb]?=some (.cells #[(.slice zV ((qd l1 qi).f0.f0.f0).length zU)] 65 (0,0)))∧Aside0 (Below w.heap.size w wc))
                  case first =>
                   have H:=qlp.out;clear qlp;replace H:=ie H;obtain ⟨c78b0,c78b1,H⟩ | ⟨c78b0,c78b1,H⟩:=H
                   ·(first | rw [c78b0] | (simp only [i64_w,i32_w];rw [c78b0]) | skip)
                    by_cases c79:((jt.length:Int) == 0)=true
                    ·rw [if_pos c79] at H;have c79b0:((jt.length:Int) == 0)=true:=c79;(try (have c79b1:decide ((jt.length:Int)=0)=true:=by simpa using c79))
                     (try (have c79b2:((jt.length:Int) == 0)=true:=by simpa using c79))
                     clear c79;have H':=ak H;clear H;have qpr:=Qw.out;have qo6:=Qd.out;have qu7:=jD.out;have qun:=Qc.out;obtain ⟨_,_,_,_,_,_,_,_,_,_,_,_,_,_,_,_,_,_⟩:=cells9 jm.out;go_wp2;go_meet
                     case rel=>exact ⟨_,(false),o2,H',⟨by have:=HJ2.out;have:=HK2.out;have:=qbd.out;have:=qd1.out;have:=qfA.out;first | omega | exact Nat.le_refl _⟩,⟨bk qb.out⟩,⟨bk jm.out⟩,⟨bk jP.out⟩,⟨bs⟩⟩
                    ·rw [if_neg c79] at H;have c79b0:((jt.length:Int) == 0)=false:=by simpa using c79
                     (try (have c79b1:decide ((jt.length:Int)=0)=false:=by simpa using c79))
                     (try (have c79b2:((jt.length:Int) == 0)=false:=by simpa using c79))
                     (try (have c79b3:¬ ((jt.length:Int)=0):=by simpa using c79))
                     clear c79;have H':=ak H;clear H;have qu5:=Qw.out;have qul:=Qd.out;have qpq:=jD.out;have qo5:=Qc.out;obtain ⟨_,_,_,_,_,_,_,_,_,_,_,_,_,_,_,_,_,_⟩:=cells9 jm.out;go_wp2;go_meet
                     case rel=>exact ⟨_,((((qd l1 qi).f0.f1) == 255)),o2,H',⟨by have:=HJ2.out;have:=HK2.out;have:=qbd.out;have:=qd1.out;have:=qfA.out;first | omega | exact Nat.le_refl _⟩,⟨bk qb.out⟩,⟨bk jm.out⟩,⟨bk jP.out⟩,⟨bs⟩⟩
                   ·(first | rw [c78b0] | (simp only [i64_w,i32_w];rw [c78b0]) | skip)
                    have H':=ak H;clear H;have qu3:=Qw.out;have quj:=Qd.out;have qu2:=jD.out;have qui:=Qc.out;obtain ⟨_,_,_,_,_,_,_,_,_,_,_,_,_,_,_,_,_,_⟩:=cells9 jm.out;go_wp2;go_meet
                    case rel=>exact ⟨_,(false),o2,H',⟨by have:=HJ2.out;have:=HK2.out;have:=qbd.out;have:=qd1.out;have:=qfA.out;first | omega | exact Nat.le_refl _⟩,⟨bk qb.out⟩,⟨bk jm.out⟩,⟨bk jP.out⟩,⟨bs⟩⟩
                  case rest =>
                   clear qlp;(try clear c1)
                   (try clear c14b0)
                   (try clear c15b0)
                   (try clear c16b0)
                   (try clear c51)
                   (try clear c51b0)
                   (try clear qbz)
                   (try clear qdw)
                   (try clear qfa)
                   (try clear qe9)
                   (try clear qe8)
                   (try clear qe7)
                   (try clear qe6)
                   (try clear qe5)
                   (try clear qe4)
                   (try clear qdv)
                   (try clear qe3)
                   (try clear qe2)
                   (try clear qdu)
                   (try clear qdt)
                   (try clear qe1)
                   (try clear qhm)
                   (try clear qhl)
                   (try clear qhk)
                   (try clear qhj)
                   (try clear qhi)
                   (try clear qhh)
                   (try clear qhg)
                   (try clear qhf)
                   (try clear qe0)
                   (try clear qbw)
                   (try clear qdl)
                   (try clear qeX)
                   (try clear qeW)
                   (try clear qeV)
                   (try clear qeU)
                   (try clear qeT)
                   (try clear qeS)
                   (try clear qeR)
                   (try clear qdk)
                   (try clear qeQ)
                   (try clear qeP)
                   (try clear qdj)
                   (try clear qdi)
                   (try clear qeO)
                   (try clear qgW)
                   (try clear qgV)
                   (try clear qgU)
                   (try clear qgT)
                   (try clear qgS)
                   (try clear qgR)
                   (try clear qgQ)
                   (try clear qgP)
                   (try clear qgO)
                   (try clear zk)
                   (try clear qch)
                   (try clear qcg)
                   (try clear qcf)
                   (try clear qbr)
                   (try clear qbq)
                   (try clear qbp)
                   (try clear qc4)
                   (try clear qc3)
                   (try clear QB)
                   (try clear QA)
                   obtain ⟨kq,qii,rfl,HA,qkO,qb,jm,jP,HB⟩:=hcut;cases kq with
                   | zero=>exact absurd HA.out (by simp [qm.j5])
                   | succ qnB =>
                    have H:=HA.out;clear HA;simp only [qm.j5] at H;replace H:=ib H;obtain ⟨rfl,H⟩ | ⟨rfl,H⟩:=H
                    ·obtain rfl:=Option.some.inj H;go_wp2;go_ret;exact ⟨o1,bs⟩
                    ·replace H:=ie H;obtain ⟨c90b0,c90b1,H⟩ | ⟨c90b0,c90b1,H⟩:=H
                     ·by_cases c91:((jt.length:Int) == 0)=true
                      ·rw [if_pos c91] at H;have c91b0:((jt.length:Int) == 0)=true:=c91;(try (have c91b1:decide ((jt.length:Int)=0)=true:=by simpa using c91))
                       (try (have c91b2:((jt.length:Int) == 0)=true:=by simpa using c91))
                       clear c91;have H':=ak H;clear H;have quZ:=Qw.out;have quf:=Qd.out;have quY:=jD.out;have que:=Qc.out;obtain ⟨_,_,_,_,_,_,_,_,_,_,_,_,_,_,_,_,_,_⟩:=cells9 jm.out;go_wp2;go_roundg qnB;case measure=>have:=HJ2.out;have:=HK2.out;have:=qbd.out;have:=qd1.out;have:=qfA.out;have:=qkO.out;omega
                       case rel=>exact ⟨(wrap64 (qi+1)),o2,H',⟨by have:=HJ2.out;have:=HK2.out;have:=qbd.out;have:=qd1.out;have:=qfA.out;have:=qkO.out;omega⟩,⟨bk qb.out⟩,⟨bs⟩⟩
                      ·rw [if_neg c91] at H;have c91b0:((jt.length:Int) == 0)=false:=by simpa using c91
                       (try (have c91b1:decide ((jt.length:Int)=0)=false:=by simpa using c91))
                       (try (have c91b2:((jt.length:Int) == 0)=false:=by simpa using c91))
                       (try (have c91b3:¬ ((jt.length:Int)=0):=by simpa using c91))
                       clear c91;obtain rfl:=Option.some.inj H;have quX:=Qw.out;have qud:=Qd.out;have quW:=jD.out;have quc:=Qc.out;obtain ⟨_,_,_,_,_,_,_,_,_,_,_,_,_,_,_,_,_,_⟩:=cells9 jm.out;go_wp2;go_ret;exact ⟨o1,bs⟩
                     ·have H':=ak H;clear H;have quV:=Qw.out;have qub:=Qd.out;have quU:=jD.out;have qua:=Qc.out;obtain ⟨_,_,_,_,_,_,_,_,_,_,_,_,_,_,_,_,_,_⟩:=cells9 jm.out;go_wp2;go_roundg qnB;case measure=>have:=HJ2.out;have:=HK2.out;have:=qbd.out;have:=qd1.out;have:=qfA.out;have:=qkO.out;omega
                      case rel=>exact ⟨(wrap64 (qi+1)),o2,H',⟨by have:=HJ2.out;have:=HK2.out;have:=qbd.out;have:=qd1.out;have:=qfA.out;have:=qkO.out;omega⟩,⟨bk qb.out⟩,⟨bs⟩⟩
           ·rw [if_neg c51] at H;have c51b0:((qd l1 qi).f2)=false:=by simpa using c51
            clear c51;have H':=ak H;clear H;have qtV:=Qw.out;have qtQ:=Qd.out;have qtU:=jD.out;have qtP:=Qc.out;obtain ⟨_,_,_,_,_,_,_,_,_,_,_,_,_,_,_,_,_,_⟩:=cells9 jm.out;go_wp2;go_roundg qnC;case measure=>have:=HJ2.out;have:=HK2.out;have:=qbd.out;omega
            case rel=>exact ⟨(wrap64 (qi+1)),o2,H',⟨by have:=HJ2.out;have:=HK2.out;have:=qbd.out;omega⟩,⟨bk qb.out⟩,⟨bs⟩⟩
       ·obtain rfl:=Option.some.inj H;obtain ⟨qbc,zV,zU,Js,Jo,Jr,Jn,Jq,Jm,rfl,zk,qch,qcg,qcf,qbr,qbq,qbp,qc4,qc3,qbJ,qa5,qjS,qjP,qjR,qjO,qjQ,qjN,QB,QA⟩:=el_T107 HR1 HB qi;try go_wp2_with (((with_reducible refine gate_dst (N:=6) rfl ?_);refine bxe (N:=6) rfl ?_;intro je hg qj5 hbox hb;have jm:=ak (hbox);have qfU:=b3s hg bs;have qqm:=qfU;replace HB:=b2s bs hb;have Qd:=b4 hg qb;have Qw:=b5 hg qb;replace qb:=b1 qb hb;clear hb hbox hg;have qtT:=Qw.out;have qtO:=Qd.out;obtain ⟨_,_,_,_,_,_,_,_,_,_,_,_,_,_,_,_,_,_⟩:=cells9 jm.out))
        have n0_:Aside0 ((((((((((qj5.setCell ⟨je,0,none⟩ (.slice zV ((qd l1 qi).f0.f0.f0).length zU)).setCell ⟨je,1,none⟩ (.int .i64 ((qd l1 qi).f0.f1))).setCell ⟨je,2,none⟩ (.int .i64 ((qd l1 qi).f0.f2))).setCell ⟨je,3,none⟩ (.int .i64 ((qd l1 qi).f0.f3))).setCell ⟨je,4,none⟩ (.slice Js ((qd l1 qi).f0.f4.f0).length Jo)).setCell ⟨je,5,none⟩ (.slice Jr ((qd l1 qi).f0.f5).length Jn)).setCell ⟨je,6,none⟩ (.slice Jq ((qd l1 qi).f0.f6).length Jm)).setCell ⟨je,7,none⟩ (.int .i64 ((qd l1 qi).f1))).setCell ⟨je,8,none⟩ (.bool ((qd l1 qi).f2))).heap[qh]?=some (.cells #[.slice qy qe.length qx,.slice jH qc.length ji] 67 (0,0))):=⟨qfN Qd.out qb.out⟩;have n1_:Aside0 ((((((((((qj5.setCell ⟨je,0,none⟩ (.slice zV ((qd l1 qi).f0.f0.f0).length zU)).setCell ⟨je,1,none⟩ (.int .i64 ((qd l1 qi).f0.f1))).setCell ⟨je,2,none⟩ (.int .i64 ((qd l1 qi).f0.f2))).setCell ⟨je,3,none⟩ (.int .i64 ((qd l1 qi).f0.f3))).setCell ⟨je,4,none⟩ (.slice Js ((qd l1 qi).f0.f4.f0).length Jo)).setCell ⟨je,5,none⟩ (.slice Jr ((qd l1 qi).f0.f5).length Jn)).setCell ⟨je,6,none⟩ (.slice Jq ((qd l1 qi).f0.f6).length Jm)).setCell ⟨je,7,none⟩ (.int .i64 ((qd l1 qi).f1))).setCell ⟨je,8,none⟩ (.bool ((qd l1 qi).f2))).heap[je]?=some (.cells #[.slice zV ((qd l1 qi).f0.f0.f0).length zU,.int .i64 ((qd l1 qi).f0.f1),.int .i64 ((qd l1 qi).f0.f2),.int .i64 ((qd l1 qi).f0.f3),.slice Js ((qd l1 qi).f0.f4.f0).length Jo,.slice Jr ((qd l1 qi).f0.f5).length Jn,.slice Jq ((qd l1 qi).f0.f6).length Jm,.int .i64 ((qd l1 qi).f1),.bool ((qd l1 qi).f2)] 107 (0,0))):=⟨qic jm.out⟩;have n2_:Aside0 (Below w.heap.size w (((((((((qj5.setCell ⟨je,0,none⟩ (.slice zV ((qd l1 qi).f0.f0.f0).length zU)).setCell ⟨je,1,none⟩ (.int .i64 ((qd l1 qi).f0.f1))).setCell ⟨je,2,none⟩ (.int .i64 ((qd l1 qi).f0.f2))).setCell ⟨je,3,none⟩ (.int .i64 ((qd l1 qi).f0.f3))).setCell ⟨je,4,none⟩ (.slice Js ((qd l1 qi).f0.f4.f0).length Jo)).setCell ⟨je,5,none⟩ (.slice Jr ((qd l1 qi).f0.f5).length Jn)).setCell ⟨je,6,none⟩ (.slice Jq ((qd l1 qi).f0.f6).length Jm)).setCell ⟨je,7,none⟩ (.int .i64 ((qd l1 qi).f1))).setCell ⟨je,8,none⟩ (.bool ((qd l1 qi).f2)))):=⟨bs⟩;(try clear qb)
        (try clear jm)
        (try clear HB)
        generalize (((((((((qj5.setCell ⟨je,0,none⟩ (.slice zV ((qd l1 qi).f0.f0.f0).length zU)).setCell ⟨je,1,none⟩ (.int .i64 ((qd l1 qi).f0.f1))).setCell ⟨je,2,none⟩ (.int .i64 ((qd l1 qi).f0.f2))).setCell ⟨je,3,none⟩ (.int .i64 ((qd l1 qi).f0.f3))).setCell ⟨je,4,none⟩ (.slice Js ((qd l1 qi).f0.f4.f0).length Jo)).setCell ⟨je,5,none⟩ (.slice Jr ((qd l1 qi).f0.f5).length Jn)).setCell ⟨je,6,none⟩ (.slice Jq ((qd l1 qi).f0.f6).length Jm)).setCell ⟨je,7,none⟩ (.int .i64 ((qd l1 qi).f1))).setCell ⟨je,8,none⟩ (.bool ((qd l1 qi).f2)))=qqp at n0_ n1_ n2_ ⊢;have qb:=n0_;have jm:=n1_;have HB:=n2_;clear n0_ n1_ n2_;replace qb:=ak (blk_drew qb.out);replace jm:=ak (blk_drew jm.out);replace HB:=ak (below_drew1 HB.out);refine start_ (n:=9) (S:=fun w'=>w'.cell? ⟨je,0,none⟩=some (.slice zV ((qd l1 qi).f0.f0.f0).length zU)∧w'.cell? ⟨je,1,none⟩=some (.int .i64 ((qd l1 qi).f0.f1))∧w'.cell? ⟨je,2,none⟩=some (.int .i64 ((qd l1 qi).f0.f2))∧w'.cell? ⟨je,3,none⟩=some (.int .i64 ((qd l1 qi).f0.f3))∧w'.cell? ⟨je,4,none⟩=some (.slice Js ((qd l1 qi).f0.f4.f0).length Jo)∧w'.cell? ⟨je,5,none⟩=some (.slice Jr ((qd l1 qi).f0.f5).length Jn)∧w'.cell? ⟨je,6,none⟩=some (.slice Jq ((qd l1 qi).f0.f6).length Jm)∧w'.cell? ⟨je,7,none⟩=some (.int .i64 ((qd l1 qi).f1))∧w'.cell? ⟨je,8,none⟩=some (.bool ((qd l1 qi).f2))) (ds:=[]) (bA 9 0) (by kernel_rfl) rfl rfl kq (fun hHeld=>?_);refine with_tabW qm.tab6 qm.bits6 (fun HT_ HW_=>?_);generalize qqp.drew=qvU at qb jm HB hHeld ⊢;refine pu HT_ 0 ?_;refine pu HT_ 1 ?_;refine pu HT_ 3 ?_;refine pu HT_ 4 ?_;refine ta HT_ HW_ hHeld 2 ?_;refine ta HT_ HW_ hHeld 5 ?_;refine on HT_ 6 (fun K hK=>?_);refine box_step ?hg (N:=7) ?hd (cs:=#[.slice none 0 0]) (t:=65) ?hr ?_;(case hd=>rfl);(case hg=>rfl);(case hr=>first | (go_simp;done) | (go_simp;rfl));intro jb hg qf4 hbox hb;have jP:=ak (hbox);have qa1:=b3s hg bs;have qfW:=qa1;replace HB:=b2s bs hb;have Qx:=b4 hg qb;have Zc:=b5 hg qb;replace qb:=b1 qb hb;have jD:=b4 hg jm;have Qc:=b5 hg jm;replace jm:=b1 jm hb;clear hb hbox hg;refine hK.out _ _ ⟨(blk_cell jm.out 0).trans rfl,(blk_cell jm.out 1).trans rfl,(blk_cell jm.out 2).trans rfl,(blk_cell jm.out 3).trans rfl,(blk_cell jm.out 4).trans rfl,(blk_cell jm.out 5).trans rfl,(blk_cell jm.out 6).trans rfl,(blk_cell jm.out 7).trans rfl,(blk_cell jm.out 8).trans rfl⟩ (fun hHeld=>?_);clear hK K;refine norm_ (a':=?_) ?_ ?_;rotate_left;go_simp;rfl;refine one_ (i:=7) (N:=none) (bA 9 255) rfl rfl (one_of HT_.out (by kernel_rfl)) (by decide) (fun K hK=>?_);have qt9:qf4.cell? ⟨jb,0,none⟩=some (.slice none 0 0):=(blk_cell jP.out 0).trans rfl;have qtW:=blk_frozen jP.out 0;have qqz:=Qx.out;have qqy:=jD.out;have qqD:=Zc.out;have qqC:=Qc.out;refine skip_ (w1:=?_) (by rfl) rfl ?_ ?_;rotate_left
        ·go_simp;rfl
        refine hK.out _ _ ⟨((cell_far (p:=⟨jb,_,none⟩) jD.out _).trans (hHeld.1)),((cell_far (p:=⟨jb,_,none⟩) jD.out _).trans (hHeld.2.1)),((cell_far (p:=⟨jb,_,none⟩) jD.out _).trans (hHeld.2.2.1)),((cell_far (p:=⟨jb,_,none⟩) jD.out _).trans (hHeld.2.2.2.1)),((cell_far (p:=⟨jb,_,none⟩) jD.out _).trans (hHeld.2.2.2.2.1)),((cell_far (p:=⟨jb,_,none⟩) jD.out _).trans (hHeld.2.2.2.2.2.1)),((cell_far (p:=⟨jb,_,none⟩) jD.out _).trans (hHeld.2.2.2.2.2.2.1)),((cell_far (p:=⟨jb,_,none⟩) jD.out _).trans (hHeld.2.2.2.2.2.2.2.1)),((cell_far (p:=⟨jb,_,none⟩) jD.out _).trans (hHeld.2.2.2.2.2.2.2.2))⟩ (fun hHeld=>?_);clear hK K;refine pu HT_ 8 ?_;refine done_ (done_of HT_.out (by kernel_rfl)) ?_;have n0_:Aside0 ((qf4.setCell ⟨jb,0,none⟩ (.slice zV ((qd l1 qi).f0.f0.f0).length zU)).heap[qh]?=some (.cells #[.slice qy qe.length qx,.slice jH qc.length ji] 67 (0,0))):=⟨qfO Qx.out qb.out⟩;have n1_:Aside0 ((qf4.setCell ⟨jb,0,none⟩ (.slice zV ((qd l1 qi).f0.f0.f0).length zU)).heap[je]?=some (.cells #[.slice zV ((qd l1 qi).f0.f0.f0).length zU,.int .i64 ((qd l1 qi).f0.f1),.int .i64 ((qd l1 qi).f0.f2),.int .i64 ((qd l1 qi).f0.f3),.slice Js ((qd l1 qi).f0.f4.f0).length Jo,.slice Jr ((qd l1 qi).f0.f5).length Jn,.slice Jq ((qd l1 qi).f0.f6).length Jm,.int .i64 ((qd l1 qi).f1),.bool ((qd l1 qi).f2)] 107 (0,0))):=⟨qfO jD.out jm.out⟩;have n2_:Aside0 ((qf4.setCell ⟨jb,0,none⟩ (.slice zV ((qd l1 qi).f0.f0.f0).length zU)).heap[jb]?=some (.cells #[.slice zV ((qd l1 qi).f0.f0.f0).length zU] 65 (0,0))):=⟨qkH jP.out⟩;have n3_:Aside0 (Below w.heap.size w (qf4.setCell ⟨jb,0,none⟩ (.slice zV ((qd l1 qi).f0.f0.f0).length zU))):=⟨bs⟩;(try clear qb)
        (try clear jm)
        (try clear jP)
        (try clear HB)
        generalize (qf4.setCell ⟨jb,0,none⟩ (.slice zV ((qd l1 qi).f0.f0.f0).length zU))=qvT at n0_ n1_ n2_ n3_ ⊢;have qb:=n0_;have jm:=n1_;have jP:=n2_;have HB:=n3_;clear n0_ n1_ n2_ n3_;have qtS:=Qx.out;have qtN:=Zc.out;obtain ⟨qqR,qqQ,qqL,qqK⟩:=cells2 qb.out;have qtR:=Qc.out;have qtM:=jD.out;obtain ⟨qqP,qqJ⟩:=cells1 jP.out;try go_wp2_with (first | ((with_reducible refine gate_callee (f:=83) rfl ?_);refine glG 40 rfl rfl Tryz.func83 (qR.calls k2 _ _ qe (fun k_=>k_ < w.heap.size) _ _ qc _ _ ((qd l1 qi).f0.f0.f0) ((qd l1 qi).f0.f1) jt _ (cv qD HB) qF.out ?yb (cv qa5 HB) qbJ.out A17.out) ?_;(case yb=>exact Kd.V_mk yO.out (Kd.F_below (Kd.C_F k105_heap ye.out) bs));rintro e qvS ⟨qit,rfl,ho0,hb⟩;refine ⟨_,rfl,?_⟩;have XB:=ak (Kd.N_lower (Kd.N_mono (ok':=fun k_=>k_≠qh∧k_≠je∧k_≠jb) ho0 (fun k_ hk_=>⟨Or.elim hk_ (fun hs_=>fun e_=>Nat.not_le.2 hs_ (by rw [e_];exact jj.out)) (fun hn_=>(Kd.freshB (g:=qh) (o:=.cells #[.slice qy qe.length qx,.slice jH qc.length ji] 67 (0,0)) (bk qb.out) k_ hn_)),Or.elim hk_ (fun hs_=>fun e_=>Nat.not_le.2 hs_ (by rw [e_];exact qfU.out)) (fun hn_=>(Kd.freshB (g:=je) (o:=.cells #[.slice zV ((qd l1 qi).f0.f0.f0).length zU,.int .i64 ((qd l1 qi).f0.f1),.int .i64 ((qd l1 qi).f0.f2),.int .i64 ((qd l1 qi).f0.f3),.slice Js ((qd l1 qi).f0.f4.f0).length Jo,.slice Jr ((qd l1 qi).f0.f5).length Jn,.slice Jq ((qd l1 qi).f0.f6).length Jm,.int .i64 ((qd l1 qi).f1),.bool ((qd l1 qi).f2)] 107 (0,0)) (bk jm.out) k_ hn_)),Or.elim hk_ (fun hs_=>fun e_=>Nat.not_le.2 hs_ (by rw [e_];exact qa1.out)) (fun hn_=>(Kd.freshB (g:=jb) (o:=.cells #[.slice zV ((qd l1 qi).f0.f0.f0).length zU] 65 (0,0)) (bk jP.out) k_ hn_))⟩)) (below_size bs));replace qb:=b1 qb hb;replace jm:=b1 jm hb;replace jP:=b1 jP hb;replace HB:=b2s bs hb;(try clear hb);(try clear ho0);obtain ⟨qvN,qvH,qpO⟩:=Kd.N_slice XB.out;subst qpO;obtain ⟨qqO,qqI⟩:=cells1 jP.out;obtain ⟨qqN,qqM,qqH,qqG⟩:=cells2 qb.out) | ((with_reducible refine gate_callee (f:=84) rfl ?_);refine glB 47 rfl rfl Tryz.func84 (qN.calls _ _ ((qd l1 qi).f0.f0.f0) _ _ qe false _ (cv qa5 HB) qbJ.out (cv qD HB) qF.out A18.out) (fun qvR hb=>?_);replace XB:=ak (Kd.N_below (nw XB.out) hb);replace qb:=b1 qb hb;replace jm:=b1 jm hb;replace jP:=b1 jP hb;replace HB:=b2s bs hb;(try clear hb)))
        go_ret;exact ⟨o1,bs⟩
      ·replace H:=bnd H;obtain ⟨qE,qo1,H⟩:=H;obtain ⟨hS,qlL⟩:=YI.is qo1.out;have SS:=ak hS;have SR:=ak qlL;have hll:=hS.lenL;have H':=ak H;clear hS qlL H qo1;go_upto_region 23 with (fail)
       go_loopg [109] l1.length (fun kq qit w'=>∃ i:Nat,qit=.int .i64 i∧i≤l1.length∧l1.length - i≤kq∧Aside0 (Pure.setsB qc l1 (l1.drop i)=qE)∧Aside0 (w'.heap[qh]?=some (.cells #[.slice qy qe.length qx,.slice jH qc.length ji] 67 (0,0)))∧Aside0 (Below w.heap.size w w'))
       case atStart=>exact ⟨0,rfl,Nat.zero_le _,by omega,⟨by simpa using SR.out⟩,⟨bk qb.out⟩,⟨bs⟩⟩
       case round =>
         clear SR qb HB;obtain ⟨i,rfl,hi,qnQ,SR,qb,HB⟩:=hrel;by_cases hlt:i < l1.length
         · have hltz:(i:Int) < (l1.length:Int):=by omega
           have hi0:0≤(i:Int):=by omega
           obtain ⟨ad,e,hA,hW,hR⟩:=wants_at HR1.out i hlt;subst hA;obtain ⟨b,hb⟩:∃ b,l1[i].f2=b:=⟨_,rfl⟩;have WE:=ak (show WC w ad i e l1[i].f1 b from by rw [← hb];exact hW);have RE:=ak hR;have BB:=ak hb;obtain ⟨x0,x1,x2,x3,x4,x5,x6,x7,x8⟩:=WE.out.below HB.out;clear hW hR hb;go_upto_region 25 with (((with_reducible refine gate_dst (N:=11) rfl ?_);refine bxe (N:=11) rfl ?_;intro gb2 hg w4 hbox hb;have BW:=ak hbox;have GW2:=b3s hg bs;replace HB:=b2s bs hb;have NR:=b4 hg qb;have NB:=b5 hg qb;replace qb:=b1 qb hb;clear hb hbox hg;obtain ⟨y0,y1,y2,y3,y4,y5,y6,y7,y8,f0,f1,f2,f3,f4,f5,f6,f7,f8⟩:=cells9 BW.out))
           obtain ⟨W,hW⟩:∃ W,W=(((((((((w4.setCell ⟨gb2,0,none⟩ (.slice e.A0 e.n0 e.c0)).setCell ⟨gb2,1,none⟩ (.int .i64 e.ty)).setCell ⟨gb2,2,none⟩ (.int .i64 e.tl)).setCell ⟨gb2,3,none⟩ (.int .i64 e.ad)).setCell ⟨gb2,4,none⟩ (.slice e.A4 e.n4 e.c4)).setCell ⟨gb2,5,none⟩ (.slice e.A5 e.n5 e.c5)).setCell ⟨gb2,6,none⟩ (.slice e.A6 e.n6 e.c6)).setCell ⟨gb2,7,none⟩ (.int .i64 l1[i].f1)).setCell ⟨gb2,8,none⟩ (.bool b)):=⟨_,rfl⟩;have n1:Aside0 (W.heap[qh]?=some (.cells #[.slice qy qe.length qx,.slice jH qc.length ji] 67 (0,0))):=by rw [hW];exact ⟨qfN NR.out qb.out⟩
           have n2:Aside0 (W.heap[gb2]?=some (.cells #[.slice e.A0 e.n0 e.c0,.int .i64 e.ty,.int .i64 e.tl,.int .i64 e.ad,.slice e.A4 e.n4 e.c4,.slice e.A5 e.n5 e.c5,.slice e.A6 e.n6 e.c6,.int .i64 l1[i].f1,.bool b] 107 (0,0))):=by rw [hW];exact ⟨qic BW.out⟩
           have n3:Aside0 (Below w.heap.size w W):=by rw [hW];exact ⟨bs⟩
           rw [← hW];clear hW qb BW HB x0 x1 x2 x3 x4 x5 x6 x7 x8 y0 y1 y2 y3 y4 y5 y6 y7 y8 f0 f1 f2 f3 f4 f5 f6 f7 f8;have qb:=n1;have BW:=n2;have HB:=n3;clear n1 n2 n3 w4;obtain ⟨y0,y1,y2,y3,y4,y5,y6,y7,y8,f0,f1,f2,f3,f4,f5,f6,f7,f8⟩:=cells9 BW.out;clear f0 f1 f2 f3 f4 f5 f6 f7 f8;cases b with
           | true =>
             go_wp2;go_roundg (l1.length - (i+1));case measure=>omega
             case rel=>exact ⟨i+1,by go_num,by omega,by omega,⟨by rw [← sets_bare i hlt BB.out];exact SR.out⟩,⟨bk qb.out⟩,⟨bs⟩⟩
           | false =>
             go_upto_region 26 with (fail)
             clear y0 y1 y2 y3 y4 y5 y6 y7 y8;refine start_ (n:=9) (S:=fun w'=>w'.cell? ⟨gb2,0,none⟩=some (.slice e.A0 e.n0 e.c0)∧w'.cell? ⟨gb2,1,none⟩=some (.int .i64 e.ty)∧w'.cell? ⟨gb2,2,none⟩=some (.int .i64 e.tl)∧w'.cell? ⟨gb2,3,none⟩=some (.int .i64 e.ad)∧w'.cell? ⟨gb2,4,none⟩=some (.slice e.A4 e.n4 e.c4)∧w'.cell? ⟨gb2,5,none⟩=some (.slice e.A5 e.n5 e.c5)∧w'.cell? ⟨gb2,6,none⟩=some (.slice e.A6 e.n6 e.c6)∧w'.cell? ⟨gb2,7,none⟩=some (.int .i64 l1[i].f1)∧w'.cell? ⟨gb2,8,none⟩=some (.bool false)) (ds:=[]) (bA 9 0) (by kernel_rfl) rfl rfl ⟨(blk_cell (bk BW.out) 0).trans rfl,(blk_cell (bk BW.out) 1).trans rfl,(blk_cell (bk BW.out) 2).trans rfl,(blk_cell (bk BW.out) 3).trans rfl,(blk_cell (bk BW.out) 4).trans rfl,(blk_cell (bk BW.out) 5).trans rfl,(blk_cell (bk BW.out) 6).trans rfl,(blk_cell (bk BW.out) 7).trans rfl,(blk_cell (bk BW.out) 8).trans rfl⟩ (fun hHeld=>?_);refine with_tabW qm.tab26 qm.bits6 (fun HT_ HW_=>?_);replace qb:=ak (bk qb.out (W':=W.drew));replace BW:=ak (bk BW.out (W':=W.drew));replace HB:=ak (bw HB.out (W':=W.drew));generalize W.drew=W1 at qb BW HB hHeld ⊢;refine pu HT_ 0 ?_;refine pu HT_ 1 ?_;refine pu HT_ 3 ?_;refine pu HT_ 4 ?_;refine ta HT_ HW_ hHeld 2 ?_;refine ta HT_ HW_ hHeld 5 ?_;refine on HT_ 6 (fun K hK=>?_);refine box_step ?hg (N:=12) ?hd (cs:=#[.slice none 0 0]) (t:=65) ?hr ?_;(case hd=>rfl);(case hg=>rfl);(case hr=>first | (go_simp;done) | (go_simp;rfl));intro gb3 hg w5 hbox hb;have BN:=ak hbox;have GW3:=b3s hg HB.out;replace HB:=b2s HB.out hb;have NZn:=b4 hg qb;have NnZ:=b5 hg qb;replace qb:=b1 qb hb;have NWn:=b4 hg BW;have NnW:=b5 hg BW;replace BW:=b1 BW hb;clear hb hbox hg;refine hK.out _ _ ⟨(blk_cell (BW.out) 0).trans rfl,(blk_cell (BW.out) 1).trans rfl,(blk_cell (BW.out) 2).trans rfl,(blk_cell (BW.out) 3).trans rfl,(blk_cell (BW.out) 4).trans rfl,(blk_cell (BW.out) 5).trans rfl,(blk_cell (BW.out) 6).trans rfl,(blk_cell (BW.out) 7).trans rfl,(blk_cell (BW.out) 8).trans rfl⟩ (fun hHeld=>?_);clear hK K;refine norm_ (a':=?_) ?_ ?_;rotate_left;go_simp;rfl;refine one_ (i:=7) (N:=none) (bA 9 255) rfl rfl (one_of HT_.out (by kernel_rfl)) (by decide) (fun K hK=>?_);have qnM:w5.cell? ⟨gb3,0,none⟩=some (.slice none 0 0):=(blk_cell BN.out 0).trans rfl;have ql3:=blk_frozen BN.out 0;have qjf:=NZn.out;have qje:=NWn.out;have qjh:=NnZ.out;have qjg:=NnW.out;refine skip_ (w1:=?_) (by rfl) rfl ?_ ?_;rotate_left
             · go_simp
               rfl
             refine hK.out _ _ ⟨(cell_far (p:=⟨gb3,_,none⟩) NWn.out _).trans hHeld.1,(cell_far (p:=⟨gb3,_,none⟩) NWn.out _).trans hHeld.2.1,(cell_far (p:=⟨gb3,_,none⟩) NWn.out _).trans hHeld.2.2.1,(cell_far (p:=⟨gb3,_,none⟩) NWn.out _).trans hHeld.2.2.2.1,(cell_far (p:=⟨gb3,_,none⟩) NWn.out _).trans hHeld.2.2.2.2.1,(cell_far (p:=⟨gb3,_,none⟩) NWn.out _).trans hHeld.2.2.2.2.2.1,(cell_far (p:=⟨gb3,_,none⟩) NWn.out _).trans hHeld.2.2.2.2.2.2.1,(cell_far (p:=⟨gb3,_,none⟩) NWn.out _).trans hHeld.2.2.2.2.2.2.2.1,(cell_far (p:=⟨gb3,_,none⟩) NWn.out _).trans hHeld.2.2.2.2.2.2.2.2⟩ (fun hHeld=>?_);clear hK K;refine pu HT_ 8 ?_;refine done_ (done_of HT_.out (by kernel_rfl)) ?_;clear qnM ql3 qjf qje qjh qjg;obtain ⟨W2,hW⟩:∃ W,W=w5.setCell ⟨gb3,0,none⟩ (.slice e.A0 e.n0 e.c0):=⟨_,rfl⟩;have n1:Aside0 (W2.heap[qh]?=some (.cells #[.slice qy qe.length qx,.slice jH qc.length ji] 67 (0,0))):=by rw [hW];exact ⟨qfO NZn.out qb.out⟩
             have n2:Aside0 (W2.heap[gb3]?=some (.cells #[.slice e.A0 e.n0 e.c0] 65 (0,0))):=by rw [hW];exact ⟨qkH BN.out⟩
             have n3:Aside0 (Below w.heap.size w W2):=by rw [hW];exact ⟨below_set HB.out GW3.out⟩
             rw [← hW];clear hW qb BW BN HB hHeld;have qb:=n1;have BN:=n2;have HB:=n3;clear n1 n2 n3;obtain ⟨z0,f0⟩:=cells1 BN.out;go_wp2_with (((with_reducible refine gate_dst (N:=121) rfl ?_);refine Kd.R_lit kEl w.heap.size 105 ?hg (w0:=w) (N:=121) ?hd (xs:=([]:List El)) (inner:=[]) (ok:=(fun k_=>k_≠qh∧k_≠gb3)) (okp:=(fun _=>False)) ?hr ?hp (fun _ hk=>hk.elim) ⟨Kd.freshB (g:=qh) (bk qb.out) _ (Nat.le_refl _),Kd.freshB (g:=gb3) (bk BN.out) _ (Nat.le_refl _)⟩ bs (below_size bs) (by simp) ?_;(case hd=>rfl);(case hg=>rfl);(case hr=>first | (go_simp;done) | (go_simp;rfl));(case hp=>exact (Reps.none _ _));intro v14 w6 ho hb hg_ hnew_;replace qb:=ak (blk_grown (bk qb.out) hg_ (by simp));replace BN:=ak (blk_grown (bk BN.out) hg_ (by simp));have HO:=ak ho;replace HB:=ak hb;clear hb hg_ hnew_ ho));go_loopg [14,124] l1.length (fun kq2 v14 qnv w'=>∃ (es:List El) (m:Nat),qnv=.int .i64 m∧m≤l1.length∧l1.length - m≤kq2∧es.length≤m∧Aside0 (es.map (dec w)=Pure.ownOf (l1.take m) l1[i])∧Aside0 (∀ a ∈ es,RecAt w a (dec w a)∧dec w a ∈ recs qc l1)∧Aside0 (kEl.R 105 w' w.heap.size (fun k_=>k_≠qh∧k_≠gb3) v14 es)∧Aside0 (w'.heap[qh]?=some (.cells #[.slice qy qe.length qx,.slice jH qc.length ji] 67 (0,0)))∧Aside0 (w'.heap[gb3]?=some (.cells #[.slice e.A0 e.n0 e.c0] 65 (0,0)))∧Aside0 (Below w.heap.size w w'))
             case atStart=>exact ⟨[],0,rfl,Nat.zero_le _,by omega,Nat.le_refl _,⟨rfl⟩,⟨fun a ha=>by cases ha⟩,HO,qb,BN,HB⟩
             case round =>
               clear HO qb BN HB z0 f0;obtain ⟨es,m,rfl,hm,qqF,hesm,HP,HG,HO,qb,BN,HB⟩:=hrel;by_cases hlm:m < l1.length
               · have hlmz:(m:Int) < (l1.length:Int):=by omega
                 have hm0:0≤(m:Int):=by omega
                 obtain ⟨A6,k6,e6⟩:=Kd.R_slice HO.out;subst e6;obtain ⟨ad',e2,hA',hW2,hR2⟩:=wants_at HR1.out m hlm;injection hA' with hA'
                 subst hA';obtain ⟨b2,hb2⟩:∃ b,l1[m].f2=b:=⟨_,rfl⟩;have WE2:=ak (show WC w ad m e2 l1[m].f1 b2 from by rw [← hb2];exact hW2);have RE2:=ak hR2;have HB2:=ak hb2;obtain ⟨x0,x1,x2,x3,x4,x5,x6,x7,x8⟩:=WE2.out.below HB.out;clear hW2 hR2 hb2;go_upto_region 31 with (((with_reducible refine gate_dst (N:=16) rfl ?_);refine bxe (N:=16) rfl ?_;intro gb4 hg w7 hbox hb;replace HO:=ak (Kd.R_mono (ok':=fun k_=>(k_≠qh∧k_≠gb3)∧k_≠gb4) (Kd.R_below (Kd.R_bound (rw_ HO.out)) hb) (fun k_ hk=>⟨hk.1,by have:=hk.2.2.1;omega⟩));have BR:=ak hbox;have GR:=b3s hg bs;replace HB:=b2s bs hb;have N1:=b4 hg qb;have N1':=b5 hg qb;have N3:=b4 hg BN;have N3':=b5 hg BN;replace qb:=b1 qb hb;replace BN:=b1 BN hb;clear hb hbox hg;obtain ⟨y0,y1,y2,y3,y4,y5,y6,y7,y8,f0,f1,f2,f3,f4,f5,f6,f7,f8⟩:=cells9 BR.out))
                 obtain ⟨W,hW⟩:∃ W,W=(((((((((w7.setCell ⟨gb4,0,none⟩ (.slice e2.A0 e2.n0 e2.c0)).setCell ⟨gb4,1,none⟩ (.int .i64 e2.ty)).setCell ⟨gb4,2,none⟩ (.int .i64 e2.tl)).setCell ⟨gb4,3,none⟩ (.int .i64 e2.ad)).setCell ⟨gb4,4,none⟩ (.slice e2.A4 e2.n4 e2.c4)).setCell ⟨gb4,5,none⟩ (.slice e2.A5 e2.n5 e2.c5)).setCell ⟨gb4,6,none⟩ (.slice e2.A6 e2.n6 e2.c6)).setCell ⟨gb4,7,none⟩ (.int .i64 l1[m].f1)).setCell ⟨gb4,8,none⟩ (.bool b2)):=⟨_,rfl⟩;have n1:Aside0 (W.heap[qh]?=some (.cells #[.slice qy qe.length qx,.slice jH qc.length ji] 67 (0,0))):=by rw [hW];exact ⟨qfN N1.out qb.out⟩
                 have n2:Aside0 (W.heap[gb3]?=some (.cells #[.slice e.A0 e.n0 e.c0] 65 (0,0))):=by rw [hW];exact ⟨qfN N3.out BN.out⟩
                 have n3:Aside0 (W.heap[gb4]?=some (.cells #[.slice e2.A0 e2.n0 e2.c0,.int .i64 e2.ty,.int .i64 e2.tl,.int .i64 e2.ad,.slice e2.A4 e2.n4 e2.c4,.slice e2.A5 e2.n5 e2.c5,.slice e2.A6 e2.n6 e2.c6,.int .i64 l1[m].f1,.bool b2] 107 (0,0))):=by rw [hW];exact ⟨qic BR.out⟩
                 have n4:Aside0 (Below w.heap.size w W):=by rw [hW];exact ⟨bs⟩
                 have n5:Aside0 (kEl.R 105 W w.heap.size (fun k_=>(k_≠qh∧k_≠gb3)∧k_≠gb4) (.slice A6 es.length k6) es):=by rw [hW];exact ⟨R_far9 HO.out (fun k hk=>hk.2) _ _ _ _ _ _ _ _ _⟩
                 rw [← hW];clear hW qb BN BR HB HO x0 x1 x2 x3 x4 x5 x6 x7 x8 y0 y1 y2 y3 y4 y5 y6 y7 y8 f0 f1 f2 f3 f4 f5 f6 f7 f8;have qb:=n1;have BN:=n2;have BR:=n3;have HB:=n4;have HO:=n5;clear n1 n2 n3 n4 n5 w7;obtain ⟨y0,y1,y2,y3,y4,y5,y6,y7,y8,f0,f1,f2,f3,f4,f5,f6,f7,f8⟩:=cells9 BR.out;obtain ⟨z0,g0⟩:=cells1 BN.out;clear f0 f1 f2 f3 f4 f5 f6 f7 f8 g0;have TY:=ak (And.intro RE2.out.parts.ty RE.out.parts.ty);cases b2 with
                 | true =>
                   go_wp2;go_roundg (l1.length - (m+1));case measure=>omega
                   case rel=>exact ⟨es,m+1,by go_num,by omega,by omega,by omega,⟨by rw [own_no m hlm (by simp [Pure.isOwn,HB2.out])];exact HP.out⟩,HG,⟨Kd.R_mono (rw_ HO.out) (fun _ hk=>hk.1)⟩,⟨bk qb.out⟩,⟨bk BN.out⟩,⟨bs⟩⟩
                 | false =>
                   by_cases ht:e2.ty=e.ty
                   · have d2:(e2.ty == e.ty)=true:=by simpa using ht
                     clear ht;obtain ⟨sn,hsn⟩:∃ c,Pure.sameN l1[m].f0.f0.f0 l1[i].f0.f0.f0=c:=⟨_,rfl⟩;have C1:=ak (show zc.f k2 l1[m].f0.f0.f0 l1[i].f0.f0.f0=some sn by rw [← hsn];exact SS.out.is_ _ (List.getElem_mem hlt) _ (List.getElem_mem hlm) BB.out HB2.out);have HIO:=ak (show Pure.isOwn l1[i] l1[m]=sn by have:=TY.out;rw [this.1,this.2] at d2;simp [Pure.isOwn,HB2.out,hsn,d2]);clear hsn;cases sn with
                     | true =>
                       go_wp2_with (first | (go_at_call 85;refine (is_any k2 e2 e l1[m].f0 l1[i].f0 true _ (RE2.out.below (bw HB.out)) (RE.out.below (bw HB.out)) C1.out).mono ?_;rintro e' w8 ⟨rfl,hb⟩;replace HO:=ak (Kd.R_below (rw_ HO.out) hb);replace qb:=b1 qb hb;replace BN:=b1 BN hb;replace BR:=b1 BR hb;replace HB:=b2s (bw HB.out) hb;clear hb y0 y1 y2 y3 y4 y5 y6 y7 y8 z0;obtain ⟨y0,y1,y2,y3,y4,y5,y6,y7,y8,f0,f1,f2,f3,f4,f5,f6,f7,f8⟩:=cells9 BR.out;clear f0 f1 f2 f3 f4 f5 f6 f7 f8) | ((with_reducible refine gate_builtin (b:=.append) (xs:=#[.tmp 145,.tmp 148]) rfl ?_);at_builtin;refine Kd.R_append kEl (w0:=w) w.heap.size rfl (.tmp 145) (.tmp 148) 33 105 (.agg #[(.slice none 0 0),(.int .i64 0),(.int .i64 0),(.int .i64 0),(.slice none 0 0),(.slice none 0 0),(.slice none 0 0)]) 120 rfl Tryz.underlying33 qbl rfl (by decide) (by omega) (.slice A6 es.length k6) es e2 [.slice e2.A0 e2.n0 e2.c0,.int .i64 e2.ty,.int .i64 e2.tl,.int .i64 e2.ad,.slice e2.A4 e2.n4 e2.c4,.slice e2.A5 e2.n5 e2.c5,.slice e2.A6 e2.n6 e2.c6] (fun k_=>(k_≠qh∧k_≠gb3)∧k_≠gb4) (fun _=>False) rfl rfl ?aP (fun _ hk=>hk.elim) ?aF ?aO ?aB ?aS ?aL ?_;(case aP=>exact rfl);(case aB=>exact bs);(case aF=>exact (fun k_ hk=>⟨⟨Kd.freshB (g:=qh) (bk qb.out) k_ hk,Kd.freshB (g:=gb3) (bk BN.out) k_ hk⟩,Kd.freshB (g:=gb4) (bk BR.out) k_ hk⟩));(case aO=>exact (rw_ HO.out));(case aS=>exact (below_size bs));(case aL=>omega);intro v1 w34 ho hb hg hat;replace qb:=ak (blk_grown (bk qb.out) hg (Kd.R_ne HO.out qb.out (by decide)));replace BN:=ak (blk_grown (bk BN.out) hg (Kd.R_ne HO.out BN.out (by decide)));replace HO:=ak ho;replace HB:=ak hb;clear ho hb hg hat));go_roundg (l1.length - (m+1));case measure=>omega
                       case rel=>exact ⟨es ++ [e2],m+1,by go_num,by omega,by omega,by simp;omega,⟨by
                         rw [own_yes m hlm HIO.out,List.map_append,List.map_singleton,dec_eq RE2.out,HP.out]⟩,⟨fun a ha=>by
                         rcases List.mem_append.1 ha with ha | ha
                         · exact HG.out a ha
                         · rw [List.mem_singleton.1 ha,dec_eq RE2.out];exact ⟨RE2.out,recs_left (List.getElem_mem hlm) HB2.out⟩⟩,⟨Kd.R_mono (rw_ HO.out) (fun _ hk=>hk.1)⟩,⟨bk qb.out⟩,⟨bk BN.out⟩,⟨bs⟩⟩
                     | false =>
                       go_wp2_with (first | (go_at_call 85;refine (is_any k2 e2 e l1[m].f0 l1[i].f0 false _ (RE2.out.below (bw HB.out)) (RE.out.below (bw HB.out)) C1.out).mono ?_;rintro e' w8 ⟨rfl,hb⟩;replace HO:=ak (Kd.R_below (rw_ HO.out) hb);replace qb:=b1 qb hb;replace BN:=b1 BN hb;replace HB:=b2s (bw HB.out) hb;clear hb y0 y1 y2 y3 y4 y5 y6 y7 y8 z0));go_roundg (l1.length - (m+1));case measure=>omega
                       case rel=>exact ⟨es,m+1,by go_num,by omega,by omega,by omega,⟨by rw [own_no m hlm HIO.out];exact HP.out⟩,HG,⟨Kd.R_mono (rw_ HO.out) (fun _ hk=>hk.1)⟩,⟨bk qb.out⟩,⟨bk BN.out⟩,⟨bs⟩⟩
                   · have d2:(e2.ty == e.ty)=false:=by simpa using ht
                     have HIO:=ak (show Pure.isOwn l1[i] l1[m]=false by have:=TY.out;rw [this.1,this.2] at d2;simp [Pure.isOwn,d2]);clear ht;go_wp2;go_roundg (l1.length - (m+1));case measure=>omega
                     case rel=>exact ⟨es,m+1,by go_num,by omega,by omega,by omega,⟨by rw [own_no m hlm HIO.out];exact HP.out⟩,HG,⟨Kd.R_mono (rw_ HO.out) (fun _ hk=>hk.1)⟩,⟨bk qb.out⟩,⟨bk BN.out⟩,⟨bs⟩⟩
               · have:m=l1.length:=by omega
                 subst this;have hlmz:¬ (l1.length:Int) < (l1.length:Int):=by omega
                 go_upto_region 34 with (fail)
                 have OWN:=ak (show es.map (dec w)=Pure.ownOf l1 l1[i] by rw [HP.out,List.take_length])
                 have hpos:0 < es.length:=by
                   have h1:=own_self i hlt BB.out;rw [← OWN.out] at h1;obtain ⟨a,ha,_⟩:=List.mem_map.1 h1;exact List.length_pos_of_mem ha
                 obtain ⟨g,cap,hv,hcap,hcm,hgb,hgl,hH⟩:=own_rowEl HO.out hpos;subst hv;have NZ:=ak (show qh≠g from fun e_=>Kd.R_ne HO.out qb.out (by decide) (by rw [e_];rfl));have NN:=ak (show gb3≠g from fun e_=>Kd.R_ne HO.out BN.out (by decide) (by rw [e_];rfl));have HS:=ak (show Sw wr g wr es.toArray from ⟨Sb.refl _ _,hgl,hH⟩)
                 have GD:=ak (show AllG (goodW w qc l1) es.toArray from fun j hj=>by
                   have hj':j < es.length:=by simpa using hj
                   rw [getElem!_pos es.toArray j hj];have:=HG.out es[j] (List.getElem_mem hj')
                   exact ⟨_,this.1,this.2⟩)
                 have hcz:cap≤9223372036854775807:=by simp only [maxLen] at hcm;omega
                 clear hcm hgl hH HP;obtain ⟨hpm,_,hsz⟩:=sorted_recs w es.toArray
                 have GS:=ak (show AllG (goodW w qc l1) (Go.Sort.insertionSort (ltOf (cfW w)) es.toArray 0 es.toArray.size) from fun j hj=>by
                   rw [getElem!_pos _ j hj];have hm:(Go.Sort.insertionSort (ltOf (cfW w)) es.toArray 0 es.toArray.size)[j] ∈ es:=hpm.mem_iff.1 (by simp);have:=HG.out _ hm
                   exact ⟨_,this.1,this.2⟩)
                 have GK:=ak (show ∀ a ∈ ku (smW w) (Go.Sort.insertionSort (ltOf (cfW w)) es.toArray 0 es.toArray.size) (Go.Sort.insertionSort (ltOf (cfW w)) es.toArray 0 es.toArray.size).size,a ∈ es from fun a ha=>hpm.mem_iff.1 (ku_mem _ _ _ (Nat.le_refl _) a ha));have SZ:=ak (show (Go.Sort.insertionSort (ltOf (cfW w)) es.toArray 0 es.toArray.size).size=es.length by rw [hsz];simp);have SETS:=ak (fun (W':World) (d2:Array El) (h2:d2.toList.map (dec W')=Pure.setOf qc l1[i].f0.f0.f0 l1[i].f0.f1) (hw:∀ a ∈ es,dec W' a=dec w a)=>sets_rows w W' qc l1 l1[i] es.toArray d2 (by simpa using OWN.out) h2 (by simpa using hw) (by simpa using hpos) SS.out.srt);have SC:=ak (fun (W':World) (hb:Below w.heap.size w W')=>sort_any 87 #[] (fun _ _=>rfl) (goodW w qc l1) (cfW w) g cap es.toArray W' (cmps_of SS.out hb hgb) GD.out);generalize Go.Sort.insertionSort (ltOf (cfW w)) es.toArray 0 es.toArray.size=s at hsz GS GK SZ SETS SC;have CC:=ak (fun (W':World) (hb:Below w.heap.size w W') (h:Sw W' g W' s)=>compact_any 89 #[] (fun _ _=>rfl) (goodW w qc l1) (smW w) g cap s W' (samesB_of SS.out hb hgb) GS.out h (by rw [SZ.out];exact hcap) hcz);clear hsz hpm;have h12:es.toArray.size≤12:=by simp only [List.size_toArray];omega
                 have H12:=ak h12;clear h12;go_upto_region 35 with (first | (go_at_call 86;refine (SC.out _ (bw HB.out) HS.out.gr.here H12.out).mono ?_;rintro e' w9 ⟨rfl,hs⟩;replace qb:=ak (hs.sb.blk (bk qb.out) NZ.out);replace BN:=ak (hs.sb.blk (bk BN.out) NN.out);replace HB:=ak (hs.sb.base (bw HB.out) hgb);have HS2:=ak hs.here;clear hs))
                 have hcc:=CC.out w9 HB.out HS2.out;have KL:=ak (show (ku (smW w) s s.size).length≤12 from Nat.le_trans (ku_len _ _ _) (by rw [SZ.out];omega));generalize ku (smW w) s s.size=KK at hcc GK SETS KL;rw [SZ.out] at hcc;have CX:=ak hcc;clear hcc CC SC HS;go_upto_region 36 with (first | (go_at_call 88;refine CX.out.mono ?_;rintro e' w10 ⟨rfl,hsb,hrow⟩;replace qb:=ak (hsb.blk (bk qb.out) NZ.out);replace BN:=ak (hsb.blk (bk BN.out) NN.out);have GL:=ak (Nat.lt_of_lt_of_le HS2.out.lt hsb.size);replace HB:=ak (hsb.base (bw HB.out) hgb);have ROW:=ak hrow;clear hsb hrow))
                 obtain ⟨z0,z1,g0⟩:=cells2 qb.out;obtain ⟨z2,g1⟩:=cells1 BN.out;clear g0 g1;obtain ⟨q,hq⟩:∃ q,Pure.setB qc l1 l1[i]=q:=⟨_,rfl⟩;have QQ:=ak hq;have SO:=ak (show (Pure.setB qc l1 l1[i] && Pure.setsB qc l1 (l1.drop (i+1)))=qE by rw [← sets_one i hlt BB.out];exact SR.out);clear hq;cases q with
                 | true =>
                   have SN:=ak (show Pure.setsB qc l1 (l1.drop (i+1))=qE by rw [← SO.out,QQ.out,Bool.true_and]);go_wp2_with (first | (go_at_call 83;refine (set_any k2 w _ (bw HB.out) ye.out yO.out qD.out qF.out e l1[i].f0 _ (RE.out.below (bw HB.out)) (SS.out.set _ (List.getElem_mem hlt) BB.out)).mono ?_;rintro e' w11 ⟨A9,k9,d2,rfl,qdV,hdec,hrec,hb⟩;have GL2:=ak (Nat.lt_of_lt_of_le GL.out (below_size hb));have qll:=ak (holds_below ROW.out GL.out hb);replace qb:=b1 qb hb;replace BN:=b1 BN hb;replace HB:=b2s (bw HB.out) hb;have qlk:=ak qdV;have DEC:=ak hdec;have REC:=ak hrec;clear hb qdV hdec hrec) | (go_at_call 90;refine (eq_of SS.out HB.out qll.out GL2.out qlk.out REC.out HG.out GK.out KL.out ((SETS.out w11 d2 DEC.out (fun a ha=>dec_eq ((HG.out a ha).1.below HB.out))).trans QQ.out)).mono ?_;rintro e' w12 ⟨rfl,hb⟩;replace qb:=b1 qb hb;replace HB:=b2s (bw HB.out) hb;clear hb));go_roundg (l1.length - (i+1));case measure=>omega
                   case rel=>exact ⟨i+1,by go_num,by omega,by omega,SN,⟨bk qb.out⟩,⟨bs⟩⟩
                 | false =>
                   have hr:r=8:=by
                     have h1:=SO.out;rw [QQ.out,Bool.false_and] at h1;have h2:=H'.out;rw [← h1] at h2;exact (Option.some.inj h2).symm
                   subst hr;go_wp2_with (first | (go_at_call 83;refine (set_any k2 w _ (bw HB.out) ye.out yO.out qD.out qF.out e l1[i].f0 _ (RE.out.below (bw HB.out)) (SS.out.set _ (List.getElem_mem hlt) BB.out)).mono ?_;rintro e' w11 ⟨A9,k9,d2,rfl,qdV,hdec,hrec,hb⟩;have GL2:=ak (Nat.lt_of_lt_of_le GL.out (below_size hb));have qll:=ak (holds_below ROW.out GL.out hb);replace qb:=b1 qb hb;replace BN:=b1 BN hb;replace HB:=b2s (bw HB.out) hb;have qlk:=ak qdV;have DEC:=ak hdec;have REC:=ak hrec;clear hb qdV hdec hrec) | (go_at_call 90;refine (eq_of SS.out HB.out qll.out GL2.out qlk.out REC.out HG.out GK.out KL.out ((SETS.out w11 d2 DEC.out (fun a ha=>dec_eq ((HG.out a ha).1.below HB.out))).trans QQ.out)).mono ?_;rintro e' w12 ⟨rfl,hb⟩;replace qb:=b1 qb hb;replace HB:=b2s (bw HB.out) hb;clear hb));go_ret;exact ⟨o1,bs⟩
         · have:i=l1.length:=by omega
           subst this;have hltz:¬ (l1.length:Int) < (l1.length:Int):=by omega
           have hr:r=0:=by
             have h1:=SR.out;rw [List.drop_length] at h1;have h2:=H'.out;rw [← h1] at h2;exact (Option.some.inj h2).symm
           subst hr;go_wp2;go_ret;exact ⟨o1,bs⟩
end Go.Proofs.YtfddbkaoghdfgaaGreat.Q

namespace Go.Proofs.YtfddbkaoghdfgaaGreat.Q
open Go.RowKit Go Go.Proofs.YtfddbkaoghdfgaaGreatW.PrintWords Go.Proofs.YtfddbkaoghdfgaaGreatW.PrintLast Go.Proofs.YtfddbkaoghdfgaaGreatW.PrintMore
attribute [local go_sem] max2_int min2_int max_two min_two
set_option linter.unusedVariables false
set_option linter.unusedSimpArgs false

noncomputable def QF.f (k:Nat) (qe:List (List Int)) (qc:List (ZZ)) (l1:List (Xd)):Option (Bool):=(Zo.f k qe qc 1048576).bind fun qS=>(if qS < 0 then (some true) else ((zo.f k l1 qS).bind fun qQ=>(if qQ < 0 then (some true) else ((Qa.f k qe qc).bind fun Yc=>((jx.f k l1).bind fun jY=>((Zr.f k Yc.1 Yc.2 jY).bind fun Qv=>((Qa.f k qe qc).bind fun qaK=>((jx.f k l1).bind fun YB=>((qm.f k qaK.1 qaK.2 YB).bind fun qdJ=>(if qdJ=Qv then ((Qa.f k qe qc).bind fun qbb=>((JN.f k qaK.1 qaK.2 qbb.1 qbb.2).bind fun qcX=>(if qcX=true then ((jx.f k l1).bind fun qbR=>((jv.f k YB qbR).bind fun qcW=>(if qcW=true then (some true) else (none)))) else (none)))) else (none)))))))))))
set_option maxHeartbeats 8000000 in
set_option maxRecDepth 100000 in
theorem QF.calls (k:Nat) (qy:Option Addr) (qx:Nat) (qe:List (List Int)) (jH:Option Addr) (ji:Nat) (qc:List (ZZ)) (A1:Option Addr) (c1:Nat) (l1:List (Xd)) (r:Bool) (w:World) (qO:Kd.C (Kd.slice 5 (Kd.int .u8)) w qy qe.length qe) (qW:qe.length≤qx) (Je:Kd.C qaI w jH qc.length qc) (Jf:qc.length≤ji) (hr1:Kd.C qd6 w A1 l1.length l1) (hc1:l1.length≤c1) (h:QF.f k qe qc l1=some r) :
  Calls Tryz.prog 7 #[.agg #[.slice qy qe.length qx,.slice jH qc.length ji],.slice A1 l1.length c1] w fun e w'=>e=.returned (.bool r)∧Below w.heap.size w w':=by
 have qnL:=Tryz.underlying61;have qcZ:=Tryz.underlying67;have qD:=ak qO;have qF:=ak qW;clear qO qW;have ye:=ak Je;have yO:=ak Jf;clear Je Jf;have HR1:=ak hr1;have HC1:=ak hc1;clear hr1 hc1;have HB:=ak (Below.refl w.heap.size w);have H:((Zo.f k qe qc 1048576).bind fun qS=>(if qS < 0 then (some true) else ((zo.f k l1 qS).bind fun qQ=>(if qQ < 0 then (some true) else ((Qa.f k qe qc).bind fun Yc=>((jx.f k l1).bind fun jY=>((Zr.f k Yc.1 Yc.2 jY).bind fun Qv=>((Qa.f k qe qc).bind fun qaK=>((jx.f k l1).bind fun YB=>((qm.f k qaK.1 qaK.2 YB).bind fun qdJ=>(if qdJ=Qv then ((Qa.f k qe qc).bind fun qbb=>((JN.f k qaK.1 qaK.2 qbb.1 qbb.2).bind fun qcX=>(if qcX=true then ((jx.f k l1).bind fun qbR=>((jv.f k YB qbR).bind fun qcW=>(if qcW=true then (some true) else (none)))) else (none)))) else (none))))))))))))=some r:=h;clear h;replace H:=bnd H;obtain ⟨qS,A3,H⟩:=H;replace H:=ip H;obtain ⟨c4b0,H⟩ | ⟨c4b0,H⟩:=H
 ·obtain rfl:=Option.some.inj H;go_enter Tryz.func7,Tryz.ntmps7;go_wp2_with (first | ((with_reducible refine gate_dst (N:=2) rfl ?_);refine bxd (N:=2) rfl HB ?_;clear HB;intro qh w5 hg HB qb qC hb;have jj:=qC;clear hb hg;obtain ⟨qeg,qkW,qd8,qkU⟩:=cells2 qb.out) | ((with_reducible refine gate_callee (f:=29) rfl ?_);refine glB 12 rfl rfl Tryz.func29 (Zo.calls k _ _ qe _ _ qc 1048576 qS _ (cv qD HB) qF.out (cv ye HB) yO.out A3.out) (fun w7 hb=>?_);replace qb:=b1 qb hb;replace HB:=b2s bs hb;(try clear hb)));go_ret;exact ⟨o1,bs⟩
 ·replace H:=bnd H;obtain ⟨qQ,A8,H⟩:=H;replace H:=ip H;obtain ⟨c9b0,H⟩ | ⟨c9b0,H⟩:=H
  ·obtain rfl:=Option.some.inj H;go_enter Tryz.func7,Tryz.ntmps7;go_wp2_with (first | ((with_reducible refine gate_dst (N:=2) rfl ?_);refine bxd (N:=2) rfl HB ?_;clear HB;intro qh w10 hg HB qb qC hb;have jj:=qC;clear hb hg;obtain ⟨YQ,qaE,YO,qaD⟩:=cells2 qb.out) | ((with_reducible refine gate_callee (f:=29) rfl ?_);refine glB 12 rfl rfl Tryz.func29 (Zo.calls k _ _ qe _ _ qc 1048576 qS _ (cv qD HB) qF.out (cv ye HB) yO.out A3.out) (fun w12 hb=>?_);replace qb:=b1 qb hb;replace HB:=b2s bs hb;(try clear hb)) | ((with_reducible refine gate_callee (f:=30) rfl ?_);refine glB 17 rfl rfl Tryz.func30 (zo.calls k _ _ l1 qS qQ _ (cv HR1 HB) HC1.out A8.out) (fun w13 hb=>?_);replace qb:=b1 qb hb;replace HB:=b2s bs hb;(try clear hb)));go_ret;exact ⟨o1,bs⟩
  ·replace H:=Option.bind_eq_some_iff.mp H;obtain ⟨⟨qE,zX⟩,qo0,H⟩:=H;replace H:((jx.f k l1).bind fun jY=>((Zr.f k qE zX jY).bind fun Qv=>((Qa.f k qe qc).bind fun qaK=>((jx.f k l1).bind fun YB=>((qm.f k qaK.1 qaK.2 YB).bind fun qdJ=>(if qdJ=Qv then ((Qa.f k qe qc).bind fun qbb=>((JN.f k qaK.1 qaK.2 qbb.1 qbb.2).bind fun qcX=>(if qcX=true then ((jx.f k l1).bind fun qbR=>((jv.f k YB qbR).bind fun qcW=>(if qcW=true then (some true) else (none)))) else (none)))) else (none)))))))=some r:=H;have A14:=ak qo0;clear qo0;replace H:=bnd H;obtain ⟨jY,A15,H⟩:=H;replace H:=bnd H;obtain ⟨Qv,A16,H⟩:=H;replace H:=Option.bind_eq_some_iff.mp H;obtain ⟨⟨Ye,Yx⟩,qoZ,H⟩:=H;replace H:((jx.f k l1).bind fun YB=>((qm.f k Ye Yx YB).bind fun qdJ=>(if qdJ=Qv then ((Qa.f k qe qc).bind fun qbb=>((JN.f k Ye Yx qbb.1 qbb.2).bind fun qcX=>(if qcX=true then ((jx.f k l1).bind fun qbR=>((jv.f k YB qbR).bind fun qcW=>(if qcW=true then (some true) else (none)))) else (none)))) else (none))))=some r:=H;have A17:=ak qoZ;clear qoZ;replace H:=bnd H;obtain ⟨YB,A18,H⟩:=H;replace H:=bnd H;obtain ⟨qdJ,A19,H⟩:=H;replace H:=ieN H;obtain ⟨c20b0,c20b1,H⟩:=H;replace H:=Option.bind_eq_some_iff.mp H;obtain ⟨⟨qk7,qk6⟩,qoX,H⟩:=H;replace H:((JN.f k Ye Yx qk7 qk6).bind fun qcX=>(if qcX=true then ((jx.f k l1).bind fun qbR=>((jv.f k YB qbR).bind fun qcW=>(if qcW=true then (some true) else (none)))) else (none)))=some r:=H;have A21:=ak qoX;clear qoX;replace H:=bnd H;obtain ⟨qcX,A22,H⟩:=H;replace H:=ibN H;obtain ⟨rfl,H⟩:=H;replace H:=bnd H;obtain ⟨qbR,A24,H⟩:=H;replace H:=bnd H;obtain ⟨qcW,A25,H⟩:=H;replace H:=ibN H;obtain ⟨rfl,H⟩:=H;obtain rfl:=Option.some.inj H;go_enter Tryz.func7,Tryz.ntmps7;try go_wp2_with (first | ((with_reducible refine gate_dst (N:=2) rfl ?_);refine bxd (N:=2) rfl HB ?_;clear HB;intro qh w27 hg HB qb qC hb;have jj:=qC;clear hb hg;obtain ⟨qna,qm9,qmN,qmM⟩:=cells2 qb.out) | ((with_reducible refine gate_callee (f:=29) rfl ?_);refine glB 12 rfl rfl Tryz.func29 (Zo.calls k _ _ qe _ _ qc 1048576 qS _ (cv qD HB) qF.out (cv ye HB) yO.out A3.out) (fun w29 hb=>?_);replace qb:=b1 qb hb;replace HB:=b2s bs hb;(try clear hb)) | ((with_reducible refine gate_callee (f:=30) rfl ?_);refine glB 17 rfl rfl Tryz.func30 (zo.calls k _ _ l1 qS qQ _ (cv HR1 HB) HC1.out A8.out) (fun w30 hb=>?_);replace qb:=b1 qb hb;replace HB:=b2s bs hb;(try clear hb);obtain ⟨qm3,qm2,qmG,qmF⟩:=cells2 qb.out) | ((with_reducible refine gate_callee (f:=32) rfl ?_);refine glG 21 rfl rfl Tryz.func32 (Qa.calls k _ _ qe _ _ qc qE zX _ (cv qD HB) qF.out (cv ye HB) yO.out A14.out) ?_;rintro e w32 ⟨qcV,qj8,rfl,ho0,ho1,hb⟩;refine ⟨_,rfl,?_⟩;have jE:=ak (Kd.S_lower ho0 (below_size bs));have yz:=ak (Kd.R_lower ho1 (below_size bs));replace qb:=b1 qb hb;replace HB:=b2s bs hb;(try clear hb);(try clear ho0);(try clear ho1)) | ((with_reducible refine gate_callee (f:=33) rfl ?_);refine glG 23 rfl rfl Tryz.func33 (jx.calls k _ _ l1 jY _ (cv HR1 HB) HC1.out A15.out) ?_;rintro e w33 ⟨qj7,rfl,ho0,hb⟩;refine ⟨_,rfl,?_⟩;replace yz:=ak (Kd.R_below (rw_ yz.out) hb);have yN:=ak (Kd.R_lower (Kd.R_new' ho0 (Kd.S_lt (sw jE.out))) (below_size bs));replace jE:=ak (Kd.S_below (sw jE.out) hb);replace qb:=b1 qb hb;replace HB:=b2s bs hb;(try clear hb);(try clear ho0);obtain ⟨qrp,qrh,qlg⟩:=Kd.S_slice jE.out;subst qlg;obtain ⟨qwB,qwj,qq3⟩:=Kd.R_slice yz.out;subst qq3;obtain ⟨qwA,qwi,qq2⟩:=Kd.R_slice yN.out;subst qq2) | ((with_reducible refine gate_callee (f:=31) rfl ?_);refine glB 24 rfl rfl Tryz.func31 (Zr.calls k _ _ qE _ _ zX _ _ jY Qv _ ?jV ?QS ?yb ?Jt ?Xx ?qaT A16.out) (fun w37 hb=>?_);(case jV=>repeat (first | exact (Kd.S_reads' jE.out).2.2 | (with_reducible refine Kd.C_alloc ?_ _) | (with_reducible refine Kd.C_drewN ?_ _) | (with_reducible refine Kd.C_drew ?_)));(case QS=>exact (Kd.S_reads' jE.out).2.1);(case yb=>repeat (first | exact (Kd.R_reads' yz.out).2.2 | (with_reducible refine Kd.C_alloc ?_ _) | (with_reducible refine Kd.C_drewN ?_ _) | (with_reducible refine Kd.C_drew ?_)));(case Jt=>exact (Kd.R_reads' yz.out).2.1);(case Xx=>repeat (first | exact (Kd.R_reads' yN.out).2.2 | (with_reducible refine Kd.C_alloc ?_ _) | (with_reducible refine Kd.C_drewN ?_ _) | (with_reducible refine Kd.C_drew ?_)));(case qaT=>exact (Kd.R_reads' yN.out).2.1);replace jE:=ak (Kd.S_below (sw jE.out) hb);replace yz:=ak (Kd.R_below (rw_ yz.out) hb);replace yN:=ak (Kd.R_below (rw_ yN.out) hb);replace qb:=b1 qb hb;replace HB:=b2s bs hb;(try clear hb);obtain ⟨qtn,qtm,qsB,qsA⟩:=cells2 qb.out) | ((with_reducible refine gate_callee (f:=32) rfl ?_);refine glG 26 rfl rfl Tryz.func32 (Qa.calls k _ _ qe _ _ qc Ye Yx _ (cv qD HB) qF.out (cv ye HB) yO.out A17.out) ?_;rintro e w39 ⟨qcT,qdI,rfl,ho0,ho1,hb⟩;refine ⟨_,rfl,?_⟩;replace yN:=ak (Kd.R_elder' (rw_ yN.out) (Kd.S_base ho0) hb);have yW:=ak (Kd.S_lower (S_ge_ (Kd.S_new' ho0 (Kd.S_lt (sw jE.out)))) (below_size bs));have Qy:=ak (Kd.R_lower (Kd.R_new' (Kd.R_new' ho1 (Kd.S_lt (sw jE.out))) (Kd.R_lt (rw_ yz.out))) (below_size bs));replace jE:=ak (Kd.S_elder' (S_lt_ (sw jE.out)) (Kd.S_base ho0) hb);replace yz:=ak (Kd.R_mono (Kd.R_told (Kd.R_told (Kd.R_old (rw_ yz.out) hb) (Kd.S_base ho0)) (Kd.R_base ho1)) (fun _ h_=>h_.1));replace qb:=b1 qb hb;replace HB:=b2s bs hb;(try clear hb);(try clear ho0);(try clear ho1)) | ((with_reducible refine gate_dst (N:=7) rfl ?_);refine bxe (N:=7) rfl ?_;intro ql5 hg w40 hbox hb;replace jE:=ak (Kd.S_below (sw jE.out) hb);replace yz:=ak (Kd.R_below (rw_ yz.out) hb);replace yN:=ak (Kd.R_below (rw_ yN.out) hb);replace yW:=ak (Kd.S_below (sw yW.out) hb);replace Qy:=ak (Kd.R_below (rw_ Qy.out) hb);have Jg:=ak (hbox);have qqk:=b3s hg bs;have qvK:=qqk;replace HB:=b2s bs hb;have qh6:=b4 hg qb;have qkZ:=b5 hg qb;replace qb:=b1 qb hb;clear hb hbox hg;obtain ⟨qro,qrg,qq1⟩:=Kd.S_slice yW.out;subst qq1;have qvs:=qkZ.out;have quI:=qh6.out;obtain ⟨qtk,qtj,qsy,qsx⟩:=cells2 Jg.out;obtain ⟨qrn,qrf,qq0⟩:=Kd.R_slice Qy.out;subst qq0) | ((with_reducible refine gate_callee (f:=33) rfl ?_);refine glG 28 rfl rfl Tryz.func33 (jx.calls k _ _ l1 YB _ (Kd.C_below HR1.out bs) HC1.out A18.out) ?_;rintro e w45 ⟨qvY,rfl,ho0,hb⟩;refine ⟨_,rfl,?_⟩;replace yz:=ak (Kd.R_below (far2R yz.out Jg.out (by decide)) hb);replace Qy:=ak (Kd.R_below (far2R Qy.out Jg.out (by decide)) hb);have YD:=ak (Kd.R_lower (Kd.R_new' (Kd.R_new' (Kd.R_new' ho0 (Kd.S_lt (far2S jE.out Jg.out (by decide)))) (Kd.R_lt (far2R yN.out Jg.out (by decide)))) (Kd.S_lt (far2S yW.out Jg.out (by decide)))) (below_size bs));replace jE:=ak (Kd.S_below (far2S jE.out Jg.out (by decide)) hb);replace yN:=ak (Kd.R_elder' (far2R yN.out Jg.out (by decide)) (Kd.R_base ho0) hb);replace yW:=ak (Kd.S_below (far2S yW.out Jg.out (by decide)) hb);replace qb:=ak (blk_below (qpR qh6.out qb.out) hb);replace Jg:=ak (blk_below (qpQ Jg.out) hb);replace HB:=b2s bs hb;(try clear hb);(try clear ho0);obtain ⟨qti,qth,qsw,qsv⟩:=cells2 Jg.out;obtain ⟨qwz,qwh,qqZ⟩:=Kd.R_slice YD.out;subst qqZ) | ((with_reducible refine gate_callee (f:=34) rfl ?_);refine glB 31 rfl rfl Tryz.func34 (qm.calls k _ _ Ye _ _ Yx _ _ YB qdJ _ ?jV ?QS ?yb ?Jt ?Xx ?qaT A19.out) (fun w48 hb=>?_);(case jV=>repeat (first | exact (Kd.S_reads' yW.out).2.2 | (with_reducible refine Kd.C_alloc ?_ _) | (with_reducible refine Kd.C_drewN ?_ _) | (with_reducible refine Kd.C_drew ?_)));(case QS=>exact (Kd.S_reads' yW.out).2.1);(case yb=>repeat (first | exact (Kd.R_reads' Qy.out).2.2 | (with_reducible refine Kd.C_alloc ?_ _) | (with_reducible refine Kd.C_drewN ?_ _) | (with_reducible refine Kd.C_drew ?_)));(case Jt=>exact (Kd.R_reads' Qy.out).2.1);(case Xx=>repeat (first | exact (Kd.R_reads' YD.out).2.2 | (with_reducible refine Kd.C_alloc ?_ _) | (with_reducible refine Kd.C_drewN ?_ _) | (with_reducible refine Kd.C_drew ?_)));(case qaT=>exact (Kd.R_reads' YD.out).2.1);replace jE:=ak (Kd.S_below (sw jE.out) hb);replace yz:=ak (Kd.R_below (rw_ yz.out) hb);replace yN:=ak (Kd.R_below (rw_ yN.out) hb);replace yW:=ak (Kd.S_below (sw yW.out) hb);replace Qy:=ak (Kd.R_below (rw_ Qy.out) hb);replace YD:=ak (Kd.R_below (rw_ YD.out) hb);replace qb:=b1 qb hb;replace Jg:=b1 Jg hb;replace HB:=b2s bs hb;(try clear hb)))
   replace jE:=ak (Kd.S_drew jE.out);replace yz:=ak (Kd.R_drew yz.out);replace yN:=ak (Kd.R_drew yN.out);replace yW:=ak (Kd.S_drew yW.out);replace Qy:=ak (Kd.R_drew Qy.out);replace YD:=ak (Kd.R_drew YD.out);replace qb:=ak (blk_drew qb.out);replace Jg:=ak (blk_drew Jg.out);replace HB:=ak (below_drew1 HB.out);refine start_ (n:=5) (S:=fun w'=>w'.cell? ⟨ql5,0,none⟩=some (.slice qro Ye.length qrg)∧w'.cell? ⟨ql5,1,none⟩=some (.slice qrn Yx.length qrf)∧w'.cell? ⟨qh,0,none⟩=some (.slice qy qe.length qx)∧w'.cell? ⟨qh,1,none⟩=some (.slice jH qc.length ji)) (ds:=[]) #[false,false,false,false,false] (by kernel_rfl) rfl rfl ⟨(blk_cell Jg.out 0).trans rfl,(blk_cell Jg.out 1).trans rfl,(blk_cell qb.out 0).trans rfl,(blk_cell qb.out 1).trans rfl⟩ (fun hHeld=>?_);generalize w48.drew=w49 at jE yz yN yW Qy YD qb Jg HB hHeld ⊢;refine take_ (i:=0) (N:=some 35) (v:=?_) (a':=?_) #[true,false,false,false,false] rfl rfl (by kernel_rfl) (fun _ _ _ h=>h) (Or.inl ⟨by rfl,?_⟩) hHeld ?_ ?_;rotate_left;rintro w' ⟨s0,s1,s2,s3⟩;go_simp;with_reducible rfl;rotate_left;go_simp;rfl
   refine take_ (i:=1) (N:=some 36) (v:=?_) (a':=?_) #[true,true,false,false,false] rfl rfl (by kernel_rfl) (fun _ _ _ h=>h) (Or.inl ⟨by rfl,?_⟩) hHeld ?_ ?_;rotate_left;rintro w' ⟨s0,s1,s2,s3⟩;go_simp;with_reducible rfl;rotate_left;go_simp;rfl
   refine one_ (i:=2) (N:=some 37) #[true,true,true,false,false] rfl rfl (by kernel_rfl) (by decide) (fun K hK=>?_);refine gsG Tryz.func32 (Qa.calls k _ _ qe _ _ qc qk7 qk6 _ (cv qD HB) qF.out (cv ye HB) yO.out A21.out) ?_;rintro e w50 ⟨qvX,qvW,rfl,ho0,ho1,hb⟩;refine ⟨_,rfl,?_⟩;replace yN:=ak (Kd.R_elder' (rw_ yN.out) (Kd.S_base ho0) hb);replace YD:=ak (Kd.R_elder' (rw_ YD.out) (Kd.S_base ho0) hb);have qbM:=ak (Kd.S_lower (S_ge_ (Kd.S_new' (Kd.S_new' ho0 (Kd.S_lt (sw jE.out))) (Kd.S_lt (sw yW.out)))) (below_size bs));have qb9:=ak (Kd.R_lower (Kd.R_new' (Kd.R_new' (Kd.R_new' (Kd.R_new' ho1 (Kd.S_lt (sw jE.out))) (Kd.R_lt (rw_ yz.out))) (Kd.S_lt (sw yW.out))) (Kd.R_lt (rw_ Qy.out))) (below_size bs));replace jE:=ak (Kd.S_elder' (S_lt_ (sw jE.out)) (Kd.S_base ho0) hb);replace yz:=ak (Kd.R_mono (Kd.R_told (Kd.R_told (Kd.R_old (rw_ yz.out) hb) (Kd.S_base ho0)) (Kd.R_base ho1)) (fun _ h_=>h_.1));replace yW:=ak (Kd.S_elder' (S_lt_ (sw yW.out)) (Kd.S_base ho0) hb);replace Qy:=ak (Kd.R_mono (Kd.R_told (Kd.R_told (Kd.R_old (rw_ Qy.out) hb) (Kd.S_base ho0)) (Kd.R_base ho1)) (fun _ h_=>h_.1));replace qb:=b1 qb hb;replace Jg:=b1 Jg hb;replace HB:=b2s bs hb;(try clear hb)
   (try clear ho0)
   (try clear ho1)
   obtain ⟨qwy,qwg,qoO⟩:=Kd.S_slice qbM.out;(first | subst qoO | (injection qoO with f1_ f2_ f3_;have f4_:=f1_.symm;have f5_:=f3_.symm;clear f1_ f2_ f3_;subst f4_;subst f5_))
   obtain ⟨qwx,qwf,qoN⟩:=Kd.R_slice qb9.out;(first | subst qoN | (injection qoN with f1_ f2_ f3_;have f4_:=f1_.symm;have f5_:=f3_.symm;clear f1_ f2_ f3_;subst f4_;subst f5_))
   refine hK.out _ _ ⟨(blk_cell Jg.out 0).trans rfl,(blk_cell Jg.out 1).trans rfl,(blk_cell qb.out 0).trans rfl,(blk_cell qb.out 1).trans rfl⟩ (fun hHeld=>?_);clear hK K;refine norm_ (a':=?_) ?_ ?_;rotate_left;go_simp;rfl;refine one_ (i:=3) (N:=some 38) #[true,true,true,true,false] rfl rfl (by kernel_rfl) (by decide) (fun K hK=>?_);refine gsB Tryz.func35 (JN.calls k _ _ Ye _ _ Yx _ _ qk7 _ _ qk6 true _ ?jV ?QS ?yb ?Jt ?Xx ?qaT ?qaS ?qb7 A22.out) (fun w53 hb=>?_);(case jV=>repeat (first | exact (Kd.S_reads' yW.out).2.2 | (with_reducible refine Kd.C_alloc ?_ _) | (with_reducible refine Kd.C_drewN ?_ _) | (with_reducible refine Kd.C_drew ?_)))
   (case QS=>exact (Kd.S_reads' yW.out).2.1)
   (case yb=>repeat (first | exact (Kd.R_reads' Qy.out).2.2 | (with_reducible refine Kd.C_alloc ?_ _) | (with_reducible refine Kd.C_drewN ?_ _) | (with_reducible refine Kd.C_drew ?_)))
   (case Jt=>exact (Kd.R_reads' Qy.out).2.1)
   (case Xx=>repeat (first | exact (Kd.S_reads' qbM.out).2.2 | (with_reducible refine Kd.C_alloc ?_ _) | (with_reducible refine Kd.C_drewN ?_ _) | (with_reducible refine Kd.C_drew ?_)))
   (case qaT=>exact (Kd.S_reads' qbM.out).2.1)
   (case qaS=>repeat (first | exact (Kd.R_reads' qb9.out).2.2 | (with_reducible refine Kd.C_alloc ?_ _) | (with_reducible refine Kd.C_drewN ?_ _) | (with_reducible refine Kd.C_drew ?_)))
   (case qb7=>exact (Kd.R_reads' qb9.out).2.1)
   replace jE:=ak (Kd.S_below (sw jE.out) hb);replace yz:=ak (Kd.R_below (rw_ yz.out) hb);replace yN:=ak (Kd.R_below (rw_ yN.out) hb);replace yW:=ak (Kd.S_below (sw yW.out) hb);replace Qy:=ak (Kd.R_below (rw_ Qy.out) hb);replace YD:=ak (Kd.R_below (rw_ YD.out) hb);replace qbM:=ak (Kd.S_below (sw qbM.out) hb);replace qb9:=ak (Kd.R_below (rw_ qb9.out) hb);replace qb:=b1 qb hb;replace Jg:=b1 Jg hb;replace HB:=b2s bs hb;refine hK.out _ _ kp (fun hHeld=>?_);(try clear hb)
   clear hK K;refine norm_ (a':=?_) ?_ ?_;rotate_left;go_simp;rfl;refine pure_ (i:=4) (N:=some 39) (v:=?_) (a':=?_) #[true,true,true,true,true] rfl rfl (by kernel_rfl) (fun _ _ _ h=>h) (Or.inl ⟨by rfl,?_⟩) ?_ ?_;rotate_left;intro w';go_simp;with_reducible rfl;rotate_left;go_simp;rfl
   refine done_ (by kernel_rfl) ?_;try go_wp2_with (first | ((with_reducible refine gate_callee (f:=33) rfl ?_);refine glG 42 rfl rfl Tryz.func33 (jx.calls k _ _ l1 qbR _ (cv HR1 HB) HC1.out A24.out) ?_;rintro e w54 ⟨qvV,rfl,ho0,hb⟩;refine ⟨_,rfl,?_⟩;replace yz:=ak (Kd.R_below (rw_ yz.out) hb);replace Qy:=ak (Kd.R_below (rw_ Qy.out) hb);replace qb9:=ak (Kd.R_below (rw_ qb9.out) hb);have qfS:=ak (Kd.R_lower (Kd.R_new' (Kd.R_new' (Kd.R_new' (Kd.R_new' (Kd.R_new' ho0 (Kd.S_lt (sw jE.out))) (Kd.R_lt (rw_ yN.out))) (Kd.S_lt (sw yW.out))) (Kd.R_lt (rw_ YD.out))) (Kd.S_lt (sw qbM.out))) (below_size bs));replace jE:=ak (Kd.S_below (sw jE.out) hb);replace yN:=ak (Kd.R_elder' (rw_ yN.out) (Kd.R_base ho0) hb);replace yW:=ak (Kd.S_below (sw yW.out) hb);replace YD:=ak (Kd.R_elder' (rw_ YD.out) (Kd.R_base ho0) hb);replace qbM:=ak (Kd.S_below (sw qbM.out) hb);replace qb:=b1 qb hb;replace Jg:=b1 Jg hb;replace HB:=b2s bs hb;(try clear hb);(try clear ho0);obtain ⟨qww,qwe,qqY⟩:=Kd.R_slice qfS.out;subst qqY) | ((with_reducible refine gate_callee (f:=36) rfl ?_);refine glB 43 rfl rfl Tryz.func36 (jv.calls k _ _ YB _ _ qbR true _ ?jV ?QS ?yb ?Jt A25.out) (fun w56 hb=>?_);(case jV=>repeat (first | exact (Kd.R_reads' YD.out).2.2 | (with_reducible refine Kd.C_alloc ?_ _) | (with_reducible refine Kd.C_drewN ?_ _) | (with_reducible refine Kd.C_drew ?_)));(case QS=>exact (Kd.R_reads' YD.out).2.1);(case yb=>repeat (first | exact (Kd.R_reads' qfS.out).2.2 | (with_reducible refine Kd.C_alloc ?_ _) | (with_reducible refine Kd.C_drewN ?_ _) | (with_reducible refine Kd.C_drew ?_)));(case Jt=>exact (Kd.R_reads' qfS.out).2.1);replace jE:=ak (Kd.S_below (sw jE.out) hb);replace yz:=ak (Kd.R_below (rw_ yz.out) hb);replace yN:=ak (Kd.R_below (rw_ yN.out) hb);replace yW:=ak (Kd.S_below (sw yW.out) hb);replace Qy:=ak (Kd.R_below (rw_ Qy.out) hb);replace YD:=ak (Kd.R_below (rw_ YD.out) hb);replace qbM:=ak (Kd.S_below (sw qbM.out) hb);replace qb9:=ak (Kd.R_below (rw_ qb9.out) hb);replace qfS:=ak (Kd.R_below (rw_ qfS.out) hb);replace qb:=b1 qb hb;replace Jg:=b1 Jg hb;replace HB:=b2s bs hb;(try clear hb)))
   go_ret;exact ⟨o1,bs⟩
end Go.Proofs.YtfddbkaoghdfgaaGreat.Q

-- Written by a program of this session (wip/myprint.py): the pure statement of a law.
namespace Go.Proofs.YtfddbkaoghdfgaaGreat.Q
open Go Go.RowKit
def QF.Pure:Prop:=∀ (x0:S61) (x1:List (Xd)),qlF x0→qlG x1→∃ k,QF.f k x0.f0.f0 x0.f1 x1=some true
end Go.Proofs.YtfddbkaoghdfgaaGreat.Q

namespace Go.Proofs.YtfddbkaoghdfgaaGreat.Pure
open Go Go.RowKit Go.Proofs.YtfddbkaoghdfgaaGreat.Q Go.Proofs.YtfddbkaoghdfgaaGreatW.PrintWords Go.Proofs.YtfddbkaoghdfgaaGreatW.PrintLast Go.Proofs.YtfddbkaoghdfgaaGreatW.PrintMore
set_option linter.unusedVariables false
set_option linter.unusedSimpArgs false
theorem ev_all {α:Type} {P:α→Nat→Prop}:∀ l:List α,(∀ x ∈ l,∃ K,∀ k,K≤k→P x k)→∃ K,∀ k,K≤k→∀ x ∈ l,P x k
  | [],_=>⟨0,fun _ _ x hx=>by cases hx⟩
  | a :: l,h=>by
    obtain ⟨K1,h1⟩:=h a List.mem_cons_self;obtain ⟨K2,h2⟩:=ev_all l (fun x hx=>h x (List.mem_cons_of_mem _ hx))
    exact ⟨max K1 K2,fun k hk x hx=>by
      rcases List.mem_cons.1 hx with rfl | hx
      · exact h1 k (by omega)
      · exact h2 k (by omega) x hx⟩
theorem setT_l0 (L:List RI) (n:List (List Int)) (t:Int) (hL:L.length≤60) (he:∀ x ∈ L,FitR x) (hn:n.length≤1048576) (m:Nat):∀ (i:Nat) (acc:List RI),L.length=i+m→acc.length≤i →
    Ev (fun k=>qR.l0 k t acc L (L.length:Int) i n) (acc ++ (L.drop i).filter (inSet n t)):=by
  induction m with
  | zero =>
    intro i acc hi ha;refine Ev.step (f:=fun _=>some acc) (fun k=>?_) ?_
    · simp only [qR.l0]
      rw [if_neg (by omega)]
    · rw [List.drop_of_length_le (by omega)];simpa using Ev.now _
  | succ m ih =>
    intro i acc hi ha;have hil:i < L.length:=by omega
    refine Ev.step (f:=fun k=>(zc.f k L[i].f0.f0 n).bind fun b=>if b=true then (if t=255 then (if acc.length < 1172812402961 then qR.l0 k t (acc ++ [L[i]]) L (L.length:Int) ((i+1:Nat):Int) n else none) else (if L[i].f1=t then (if acc.length < 1172812402961 then qR.l0 k t (acc ++ [L[i]]) L (L.length:Int) ((i+1:Nat):Int) n else none) else qR.l0 k t acc L (L.length:Int) ((i+1:Nat):Int) n)) else qR.l0 k t acc L (L.length:Int) ((i+1:Nat):Int) n) (fun k=>?_) ?_
    · rw [qR.l0]
      rw [if_pos (by omega),if_pos (by omega),if_pos (by omega),rdRI L i hil,w64 (x:=(i:Int)+1) (by omega) (by omega)];rfl
    · refine Ev.bind (implIs _ _ (he _ (List.getElem_mem hil)).1.1 hn) ?_
      rw [List.drop_eq_getElem_cons hil,List.filter_cons];by_cases h:sameN L[i].f0.f0 n=true
      · simp only [if_pos h,if_pos (show acc.length < 1172812402961 by omega)]
        have go:=ih (i+1) (acc ++ [L[i]]) (by omega) (by simp;omega);have st:=ih (i+1) acc (by omega) (by omega);by_cases h2:t=255
        · simp only [if_pos h2]
          rw [if_pos (show inSet n t L[i]=true by simp [inSet,h,h2])];simpa using go
        · simp only [if_neg h2]
          by_cases h3:L[i].f1=t
          · simp only [if_pos h3]
            rw [if_pos (show inSet n t L[i]=true by simp [inSet,h,h3])];simpa using go
          · simp only [if_neg h3]
            rw [if_neg (show ¬ inSet n t L[i]=true by simp [inSet,h,h2,h3])];exact st
      · simp only [if_neg h]
        rw [if_neg (show ¬ inSet n t L[i]=true by simp [inSet,h])];exact ih (i+1) acc (by omega) (by omega)
theorem implSetT (o:List (List Int)) (L:List RI) (n:List (List Int)) (t:Int) (hL:L.length≤60) (he:∀ x ∈ L,FitR x) (hn:n.length≤1048576):Ev (fun k=>qR.f k o L n t) (setOf L n t):=by
  unfold qR.f setOf;simpa using setT_l0 L n t hL he hn L.length 0 [] (by omega) (by simp)
theorem allT_l0 (o:List (List Int)) (L:List RI) (n:List (List Int)) (t:Int) (hL:L.length≤60) (he:∀ x ∈ L,FitR x) (hn:n.length≤1048576) (m:Nat):∀ (i:Nat) (acc:List RI),L.length=i+m→acc.length≤i →
    Ev (fun k=>jl.l0 k t acc i o L n) (acc ++ (L.drop i).filter (inSet n t)):=by
  induction m with
  | zero =>
    intro i acc hi ha;refine Ev.step (f:=fun _=>some acc) (fun k=>?_) ?_
    · rw [jl.l0,if_neg (by omega)]
    · rw [List.drop_of_length_le (by omega)];simpa using Ev.now _
  | succ m ih =>
    intro i acc hi ha;have hil:i < L.length:=by omega
    refine Ev.step (f:=fun k=>(jd.f k L[i].f0.f0 n).bind fun b=>if b=0 then (if t=255 then (if acc.length < 1172812402961 then jl.l0 k t (acc ++ [L[i]]) ((i+1:Nat):Int) o L n else none) else (if L[i].f1=t then (if acc.length < 1172812402961 then jl.l0 k t (acc ++ [L[i]]) ((i+1:Nat):Int) o L n else none) else jl.l0 k t acc ((i+1:Nat):Int) o L n)) else jl.l0 k t acc ((i+1:Nat):Int) o L n) (fun k=>?_) ?_
    · rw [jl.l0,if_pos (by omega),if_pos (by omega),rdRI L i hil,w64 (x:=(i:Int)+1) (by omega) (by omega)]
      rfl
    · refine Ev.bind (specCmp _ _ (he _ (List.getElem_mem hil)).1.1 hn) ?_
      rw [List.drop_eq_getElem_cons hil,List.filter_cons];by_cases h:nameCmpV L[i].f0.f0 n=0
      · have hs:sameN L[i].f0.f0 n=true:=by simpa [sameN] using h
        simp only [if_pos h,if_pos (show acc.length < 1172812402961 by omega)];have go:=ih (i+1) (acc ++ [L[i]]) (by omega) (by simp;omega);have st:=ih (i+1) acc (by omega) (by omega);by_cases h2:t=255
        · simp only [if_pos h2]
          rw [if_pos (show inSet n t L[i]=true by simp [inSet,hs,h2])];simpa using go
        · simp only [if_neg h2]
          by_cases h3:L[i].f1=t
          · simp only [if_pos h3]
            rw [if_pos (show inSet n t L[i]=true by simp [inSet,hs,h3])];simpa using go
          · simp only [if_neg h3]
            rw [if_neg (show ¬ inSet n t L[i]=true by simp [inSet,hs,h2,h3])];exact st
      · have hs:¬ sameN L[i].f0.f0 n=true:=by simpa [sameN] using h
        simp only [if_neg h];rw [if_neg (show ¬ inSet n t L[i]=true by simp [inSet,hs])];exact ih (i+1) acc (by omega) (by omega)
theorem specAllT (o:List (List Int)) (L:List RI) (n:List (List Int)) (t:Int) (hL:L.length≤60) (he:∀ x ∈ L,FitR x) (hn:n.length≤1048576):Ev (fun k=>jl.f k o L n t) (setOf L n t):=by
  unfold jl.f setOf;simpa using allT_l0 o L n t hL he hn L.length 0 [] (by omega) (by simp)
end Go.Proofs.YtfddbkaoghdfgaaGreat.Pure

namespace Go.Proofs.YtfddbkaoghdfgaaGreat.Pure
open Go Go.RowKit Go.Proofs.YtfddbkaoghdfgaaGreat.Q Go.Proofs.YtfddbkaoghdfgaaGreatW.PrintWords Go.Proofs.YtfddbkaoghdfgaaGreatW.PrintLast
set_option linter.unusedVariables false
set_option linter.unusedSimpArgs false
theorem rdWI' (l:List WI) (i:Nat) (h:i < l.length):qd l (i:Int)=l[i]:=by simp [qd,List.getD_eq_getElem?_getD,h]
theorem wants_all {L:List WI} (h:wantsV L=true):L.length≤12∧∀ x ∈ L,okW x=true:=by
  unfold wantsV at h;rw [Bool.and_eq_true,decide_eq_true_eq] at h;exact ⟨h.1,List.all_eq_true.1 h.2⟩
theorem rrOk_ttl {n:List (List Int)} {t ttl addr:Int} {dst:List (List Int)} {text nums:List Int} (h:rrOkV n t ttl addr dst text nums=true):0≤ttl:=by
  unfold rrOkV at h;simp only [Bool.and_eq_true,decide_eq_true_eq] at h;exact h.2.2.1.1
theorem recs_ok {o:List (List Int)} {R:List RI} {L:List WI} (hz:zoneOkV o R=true) (hw:wantsV L=true):∀ x ∈ recs R L,okR x=true:=by
  intro x hx;rcases List.mem_append.1 hx with hx | hx
  · obtain ⟨y,hy,rfl⟩:=List.mem_map.1 hx
    obtain ⟨h1,h2⟩:=List.mem_filter.1 hy;exact (wantOk_parts ((wants_all hw).2 y h1)).2.2.2 (by simpa using h2)
  · exact (zone_ok hz).2.2 x hx
theorem evC {o:List (List Int)} {R:List RI} {L:List WI} (hz:zoneOkV o R=true) (hw:wantsV L=true) (hr:∀ x ∈ R,FitR x) (he:∀ x ∈ L,FitW x):Ev (fun k=>YI.f k o R L) (setsB R L L):=by
  have hok:=recs_ok hz hw;obtain ⟨K1,h1⟩:=ev_all (P:=fun x k=>∀ y ∈ recs R L,jw.f k x.f0.f0 x.f1 x.f2 x.f3 x.f4.f0 x.f5 x.f6 y.f0.f0 y.f1 y.f2 y.f3 y.f4.f0 y.f5 y.f6=some (cmpR x y)) (recs R L) (fun x hx=>ev_all (P:=fun y k=>jw.f k x.f0.f0 x.f1 x.f2 x.f3 x.f4.f0 x.f5 x.f6 y.f0.f0 y.f1 y.f2 y.f3 y.f4.f0 y.f5 y.f6=some (cmpR x y)) (recs R L) (fun y hy=>implRrCompare (hok x hx) (hok y hy)));obtain ⟨K2,h2⟩:=ev_all (P:=fun (x:WI) (k:Nat)=>∀ y ∈ L,zc.f k y.f0.f0.f0 x.f0.f0.f0=some (sameN y.f0.f0.f0 x.f0.f0.f0)) L (fun x hx=>ev_all (P:=fun (y:WI) (k:Nat)=>zc.f k y.f0.f0.f0 x.f0.f0.f0=some (sameN y.f0.f0.f0 x.f0.f0.f0)) L (fun y hy=>implIs _ _ (he y hy:FitR _).1.1 (he x hx:FitR _).1.1));obtain ⟨K3,h3⟩:=ev_all (P:=fun (x:WI) (k:Nat)=>qR.f k o R x.f0.f0.f0 x.f0.f1=some (setOf R x.f0.f0.f0 x.f0.f1)) L (fun x hx=>implSetT o R _ _ (zone_ok hz).2.1 hr (he x hx:FitR _).1.1);refine ⟨max K1 (max K2 K3),fun k hk=>?_⟩;have hS:SetsC k o R L:=⟨(wants_all hw).1,(zone_ok hz).2.1,zone_sorted hz,h1 k (by omega),fun x hx y hy _ _=>h2 k (by omega) x hx y hy,fun x hx _=>h3 k (by omega) x hx⟩;show YI.f k o R L=_
  unfold YI.f;rw [if_pos hS]
theorem place_ev {K:Nat} {rs:List RI} (h:∀ k,K≤k→∀ x ∈ rs,∀ y ∈ rs,zO.f k x.f0.f0 x.f1 x.f2 x.f3 x.f4.f0 x.f5 x.f6 y.f0.f0 y.f1 y.f2 y.f3 y.f4.f0 y.f5 y.f6=some (cmpR x y)) (W:List RI) (hl:W.length≤12) (hW:∀ a ∈ W,a ∈ rs) (r:RI) (hr:r ∈ rs) (m:Nat):∀ (i k:Nat),W.length=i+m→K+m+1≤k→∃ v,yL.l0 k W i r.f0.f0 r.f1 r.f2 r.f3 r.f4.f0 r.f5 r.f6=some v∧(v < 0 ↔ ¬ ∃ a ∈ W.drop i,cmpR a r=0):=by
  induction m with
  | zero =>
    intro i k hi hk;obtain ⟨k,rfl⟩:∃ k',k=k'+1:=⟨k - 1,by omega⟩;refine ⟨-1,?_,?_⟩
    · simp only [yL.l0];rw [if_neg (by omega)]
    · rw [List.drop_of_length_le (by omega)];simp
  | succ m ih =>
    intro i k hi hk;obtain ⟨k,rfl⟩:∃ k',k=k'+1:=⟨k - 1,by omega⟩;have hil:i < W.length:=by omega
    have hc:=h k (by omega) W[i] (hW _ (List.getElem_mem hil)) r hr;rw [List.drop_eq_getElem_cons hil];by_cases h0:cmpR W[i] r=0
    · refine ⟨i,?_,?_⟩
      · simp only [yL.l0]
        rw [if_pos (by omega),if_pos (by omega),rdRI W i hil,hc,Option.bind_some,if_pos h0]
      · exact ⟨fun h=>absurd h (by omega),fun h=>absurd ⟨W[i],List.mem_cons_self,h0⟩ h⟩
    · obtain ⟨v,hv,hvi⟩:=ih (i+1) k (by omega) (by omega)
      refine ⟨v,?_,?_⟩
      · simp only [yL.l0]
        rw [if_pos (by omega),if_pos (by omega),rdRI W i hil,hc,Option.bind_some,if_neg h0,w64 (x:=(i:Int)+1) (by omega) (by omega)];exact hv
      · rw [hvi]
        refine not_congr ⟨fun ⟨a,ha,e⟩=>⟨a,List.mem_cons_of_mem _ ha,e⟩,fun ⟨a,ha,e⟩=>?_⟩;rcases List.mem_cons.1 ha with rfl | ha
        · exact absurd e h0
        · exact ⟨a,ha,e⟩
theorem evS {o:List (List Int)} {R:List RI} {L:List WI} (hz:zoneOkV o R=true) (hw:wantsV L=true) (hr:∀ x ∈ R,FitR x) (he:∀ x ∈ L,FitW x):Ev (fun k=>jN.f k o R L) (setsB R L L):=by
  have hok:=recs_ok hz hw;obtain ⟨K1,h1⟩:=ev_all (P:=fun x k=>∀ y ∈ recs R L,zO.f k x.f0.f0 x.f1 x.f2 x.f3 x.f4.f0 x.f5 x.f6 y.f0.f0 y.f1 y.f2 y.f3 y.f4.f0 y.f5 y.f6=some (cmpR x y)) (recs R L) (fun x hx=>ev_all (P:=fun y k=>zO.f k x.f0.f0 x.f1 x.f2 x.f3 x.f4.f0 x.f5 x.f6 y.f0.f0 y.f1 y.f2 y.f3 y.f4.f0 y.f5 y.f6=some (cmpR x y)) (recs R L) (fun y hy=>specL3cmp (hok x hx) (hok y hy)));obtain ⟨K2,h2⟩:=ev_all (P:=fun (x:WI) (k:Nat)=>∀ y ∈ L,jd.f k y.f0.f0.f0 x.f0.f0.f0=some (nameCmpV y.f0.f0.f0 x.f0.f0.f0)) L (fun x hx=>ev_all (P:=fun (y:WI) (k:Nat)=>jd.f k y.f0.f0.f0 x.f0.f0.f0=some (nameCmpV y.f0.f0.f0 x.f0.f0.f0)) L (fun y hy=>specCmp _ _ (he y hy:FitR _).1.1 (he x hx:FitR _).1.1));obtain ⟨K3,h3⟩:=ev_all (P:=fun (x:WI) (k:Nat)=>jl.f k o R x.f0.f0.f0 x.f0.f1=some (setOf R x.f0.f0.f0 x.f0.f1)) L (fun x hx=>specAllT o R _ _ (zone_ok hz).2.1 hr (he x hx:FitR _).1.1);refine ⟨max (K1+13) (max K2 K3),fun k hk=>?_⟩
  have hS:SetsS k o R L:=⟨(wants_all hw).1,(zone_ok hz).2.1,fun x hx y hy _ _=>h2 k (by omega) x hx y hy,fun x hx _=>h3 k (by omega) x hx,fun W r hl hW hr=>by
    obtain ⟨v,hv,hvi⟩:=place_ev h1 W hl hW r hr W.length 0 k (by omega) (by omega)
    exact ⟨v,hv,by simpa using hvi⟩⟩
  show jN.f k o R L=_
  unfold jN.f;rw [if_pos hS]
def s2 (has b:Bool) (cl:Int):Int:=if b=true then 6 else (if cl=254 then (if has=true then 7 else 0) else 0)
def s1 (has b:Bool) (t cl:Int):Int:=if b=true then 8 else (if cl=254 then (if t=255 then s2 has has cl else s2 has false cl) else s2 has false cl)
def s0 (has b:Bool) (t cl:Int):Int:=if b=true then 3 else (if cl=255 then s1 has (!has) t cl else s1 has false t cl)
def sB (has:Bool) (t cl:Int):Int:=if cl=255 then (if t=255 then s0 has (!has) t cl else s0 has false t cl) else s0 has false t cl
def qgu (o:List (List Int)) (R:List RI) (x:WI):Int :=
  if qN.v x.f0.f0.f0 o=true then (if x.f2=true then sB (decide (((setOf R x.f0.f0.f0 x.f0.f1).length:Int) > 0)) x.f0.f1 x.f1 else (if x.f0.f2=0 then (if x.f1=1 then 0 else 1) else 1)) else 10
def preL (o:List (List Int)) (R:List RI) (E:Int):List WI→Int
  | []=>E
  | x :: M=>if qgu o R x=0 then preL o R E M else qgu o R x
section
variable (n:List (List Int)) (t ttl ad:Int) (dst:List (List Int)) (tx nu:List Int) (cl:Int) (bare:Bool)
theorem qle (has b:Bool):Ev (fun k=>jq.j2 k has b n t ttl ad dst tx nu cl bare) (s2 has b cl):=by
  refine Ev.step (f:=fun _=>some (s2 has b cl)) (fun k=>?_) (Ev.now _);simp only [jq.j2,s2];cases b
  · simp only [Bool.false_eq_true,if_false]
    by_cases h:cl=254
    · simp only [if_pos h];cases has <;> rfl
    · simp only [if_neg h]
  · rfl
theorem qoM (has b:Bool):Ev (fun k=>jq.j1 k has b n t ttl ad dst tx nu cl bare) (s1 has b t cl):=by
  refine Ev.step (f:=fun k=>if b=true then some 8 else (if cl=254 then (if t=255 then jq.j2 k has has n t ttl ad dst tx nu cl bare else jq.j2 k has false n t ttl ad dst tx nu cl bare) else jq.j2 k has false n t ttl ad dst tx nu cl bare)) (fun k=>by simp only [jq.j1]) ?_;unfold s1;by_cases h1:b=true
  · simp only [if_pos h1];exact Ev.now _
  · simp only [if_neg h1]
    by_cases h2:cl=254
    · simp only [if_pos h2]
      by_cases h3:t=255
      · simp only [if_pos h3];exact h2 ▸ h3 ▸ qle _ _ _ _ _ _ _ _ _ _ _
      · simp only [if_neg h3];exact h2 ▸ qle _ _ _ _ _ _ _ _ _ _ _
    · simp only [if_neg h2];exact qle _ _ _ _ _ _ _ _ _ _ _
theorem qlf (has b:Bool):Ev (fun k=>jq.j0 k has b n t ttl ad dst tx nu cl bare) (s0 has b t cl):=by
  refine Ev.step (f:=fun k=>if b=true then some 3 else (if cl=255 then jq.j1 k has (!has) n t ttl ad dst tx nu cl bare else jq.j1 k has false n t ttl ad dst tx nu cl bare)) (fun k=>by simp only [jq.j0]) ?_;unfold s0;by_cases h1:b=true
  · simp only [if_pos h1];exact Ev.now _
  · simp only [if_neg h1]
    by_cases h2:cl=255
    · simp only [if_pos h2];exact h2 ▸ qoM _ _ _ _ _ _ _ _ _ _ _
    · simp only [if_neg h2];exact qoM _ _ _ _ _ _ _ _ _ _ _
end
theorem specPre1 (o:List (List Int)) (R:List RI) (x:WI) (hR:R.length≤60) (hr:∀ y ∈ R,FitR y) (hx:FitW x) (ho:o.length≤1048576):Ev (fun k=>jq.f k o R x.f0.f0.f0 x.f0.f1 x.f0.f2 x.f0.f3 x.f0.f4.f0 x.f0.f5 x.f0.f6 x.f1 x.f2) (qgu o R x):=by
  have hn:x.f0.f0.f0.length≤1048576:=(hx:FitR _).1.1;unfold jq.f qgu;refine Ev.bind (specUnder2 _ _ hn ho) ?_;by_cases h1:qN.v x.f0.f0.f0 o=true
  · simp only [if_pos h1]
    by_cases h2:x.f2=true
    · simp only [if_pos h2]
      refine Ev.bind (specAllT o R _ _ hR hr hn) ?_;unfold sB;by_cases h3:x.f1=255
      · simp only [if_pos h3]
        by_cases h4:x.f0.f1=255
        · simp only [if_pos h4];exact qlf _ _ _ _ _ _ _ _ _ _ _
        · simp only [if_neg h4];exact qlf _ _ _ _ _ _ _ _ _ _ _
      · simp only [if_neg h3];exact qlf _ _ _ _ _ _ _ _ _ _ _
    · simp only [if_neg h2]
      by_cases h3:x.f0.f2=0
      · simp only [if_pos h3]
        by_cases h4:x.f1=1
        · simp only [if_pos h4];exact Ev.now _
        · simp only [if_neg h4];exact Ev.now _
      · simp only [if_neg h3];exact Ev.now _
  · simp only [if_neg h1];exact Ev.now _
theorem specPreL (o:List (List Int)) (R:List RI) (L:List WI) (E:Bool) (hL:L.length≤12) (hR:R.length≤60) (hr:∀ y ∈ R,FitR y) (he:∀ x ∈ L,FitW x) (ho:o.length≤1048576) (hE:Ev (fun k=>jN.f k o R L) E) (m:Nat):∀ (i:Nat),L.length=i+m →
    Ev (fun k=>zC.l0 k L i o R) (preL o R (if E=true then 0 else 8) (L.drop i)):=by
  induction m with
  | zero =>
    intro i hi;rw [List.drop_of_length_le (by omega)];refine Ev.step (f:=fun k=>(jN.f k o R L).bind fun b=>if b=true then some 0 else some 8) (fun k=>?_) (Ev.bind hE ?_)
    · simp only [zC.l0]
      rw [if_neg (by omega)]
    · unfold preL
      cases E
      · exact Ev.now _
      · exact Ev.now _
  | succ m ih =>
    intro i hi;have hil:i < L.length:=by omega
    rw [List.drop_eq_getElem_cons hil];simp only [preL];refine Ev.step (f:=fun k=>(jq.f k o R L[i].f0.f0.f0 L[i].f0.f1 L[i].f0.f2 L[i].f0.f3 L[i].f0.f4.f0 L[i].f0.f5 L[i].f0.f6 L[i].f1 L[i].f2).bind fun c=>if c=0 then zC.l0 k L ((i+1:Nat):Int) o R else some c) (fun k=>?_) (Ev.bind (specPre1 o R L[i] hR hr (he _ (List.getElem_mem hil)) ho) ?_)
    · simp only [zC.l0]
      rw [if_pos (by omega),if_pos (by omega),rdWI' L i hil,w64 (x:=(i:Int)+1) (by omega) (by omega)];rfl
    · by_cases h:qgu o R L[i]=0
      · simp only [if_pos h];exact ih (i+1) (by omega)
      · simp only [if_neg h];exact Ev.now _
def v5 (e b:Bool) (cl V:Int):Int:=if b=true then 6 else (if cl=254 then (if e=true then V else 7) else V)
def v4 (e b:Bool) (t cl V:Int):Int:=if b=true then 8 else (if cl=254 then (if e=true then v5 e false cl V else v5 e (t == 255) cl V) else v5 e false cl V)
def v3 (e b:Bool) (t cl V:Int):Int:=if b=true then 3 else (if cl=255 then v4 e e t cl V else v4 e false t cl V)
def v2 (e b bare:Bool) (t cl V:Int):Int:=if b=true then 1 else (if bare=true then (if cl=255 then (if e=true then v3 e (t == 255) t cl V else v3 e false t cl V) else v3 e false t cl V) else V)
section
variable {L:List WI} {i:Int} {o:List (List Int)} {R:List RI} {V:Int} (hn:Ev (fun k=>qm.l0 k L L (L.length:Int) (wrap64 (i+1)) o R) V) (n:List (List Int)) (t ttl ad:Int) (dst:List (List Int)) (tx nu:List Int) (cl:Int) (bare:Bool)
include hn
theorem ev5 (e b:Bool):Ev (fun k=>qm.j5 k L e L (L.length:Int) i b o R n t ttl ad dst tx nu cl bare) (v5 e b cl V):=by
  refine Ev.step (f:=fun k=>if b=true then some 6 else (if cl=254 then (if e=true then qm.l0 k L L (L.length:Int) (wrap64 (i+1)) o R else some 7) else qm.l0 k L L (L.length:Int) (wrap64 (i+1)) o R)) (fun k=>by simp only [qm.j5]) ?_;unfold v5;by_cases h1:b=true
  · simp only [if_pos h1];exact Ev.now _
  · simp only [if_neg h1]
    by_cases h2:cl=254
    · simp only [if_pos h2]
      by_cases h3:e=true
      · simp only [if_pos h3];exact hn
      · simp only [if_neg h3];exact Ev.now _
    · simp only [if_neg h2];exact hn
theorem ev4 (e b:Bool):Ev (fun k=>qm.j4 k L t e L (L.length:Int) i b o R n t ttl ad dst tx nu cl bare) (v4 e b t cl V):=by
  refine Ev.step (f:=fun k=>if b=true then some 8 else (if cl=254 then (if e=true then qm.j5 k L e L (L.length:Int) i false o R n t ttl ad dst tx nu cl bare else qm.j5 k L e L (L.length:Int) i (t == 255) o R n t ttl ad dst tx nu cl bare) else qm.j5 k L e L (L.length:Int) i false o R n t ttl ad dst tx nu cl bare)) (fun k=>by simp only [qm.j4]) ?_;unfold v4;have h5:=fun b=>ev5 hn n t ttl ad dst tx nu cl bare e b
  by_cases h1:b=true
  · simp only [if_pos h1];exact Ev.now _
  · simp only [if_neg h1]
    by_cases h2:cl=254
    · simp only [if_pos h2]
      by_cases h3:e=true
      · simp only [if_pos h3];exact h5 _
      · simp only [if_neg h3];exact h5 _
    · simp only [if_neg h2];exact h5 _
theorem ev3 (e b:Bool):Ev (fun k=>qm.j3 k L t e L (L.length:Int) i b o R n t ttl ad dst tx nu cl bare) (v3 e b t cl V):=by
  refine Ev.step (f:=fun k=>if b=true then some 3 else (if cl=255 then qm.j4 k L t e L (L.length:Int) i e o R n t ttl ad dst tx nu cl bare else qm.j4 k L t e L (L.length:Int) i false o R n t ttl ad dst tx nu cl bare)) (fun k=>by simp only [qm.j3]) ?_;unfold v3;have h5:=fun b=>ev4 hn n t ttl ad dst tx nu cl bare e b
  by_cases h1:b=true
  · simp only [if_pos h1];exact Ev.now _
  · simp only [if_neg h1]
    by_cases h2:cl=255
    · simp only [if_pos h2];exact h5 _
    · simp only [if_neg h2];exact h5 _
theorem ev2 (e b:Bool):Ev (fun k=>qm.j2 k L t e L (L.length:Int) i b o R n t ttl ad dst tx nu cl bare) (v2 e b bare t cl V):=by
  refine Ev.step (f:=fun k=>if b=true then some 1 else (if bare=true then (if cl=255 then (if e=true then qm.j3 k L t e L (L.length:Int) i (t == 255) o R n t ttl ad dst tx nu cl bare else qm.j3 k L t e L (L.length:Int) i false o R n t ttl ad dst tx nu cl bare) else qm.j3 k L t e L (L.length:Int) i false o R n t ttl ad dst tx nu cl bare) else qm.l0 k L L (L.length:Int) (wrap64 (i+1)) o R)) (fun k=>by simp only [qm.j2]) ?_;unfold v2;have h5:=fun b=>ev3 hn n t ttl ad dst tx nu cl bare e b
  by_cases h1:b=true
  · simp only [if_pos h1];exact Ev.now _
  · simp only [if_neg h1]
    by_cases h0:bare=true
    · simp only [if_pos h0]
      by_cases h2:cl=255
      · simp only [if_pos h2]
        by_cases h3:e=true
        · simp only [if_pos h3];exact h5 _
        · simp only [if_neg h3];exact h5 _
      · simp only [if_neg h2];exact h5 _
    · simp only [if_neg h0];exact hn
end
theorem v2_bare (m:Nat) (t cl V:Int):v2 (((m:Nat):Int) == 0) false true t cl V=if sB (decide ((m:Int) > 0)) t cl=0 then V else sB (decide ((m:Int) > 0)) t cl:=by
  rcases Nat.eq_zero_or_pos m with rfl | hm
  · have e1:(((0:Nat):Int) == 0)=true:=rfl
    have e2:decide (((0:Nat):Int) > 0)=false:=rfl;rw [e1,e2];by_cases h1:cl=255
    · subst h1
      by_cases h2:t=255
      · subst h2;simp [v2,v3,v4,v5,sB,s0,s1,s2]
      · simp [v2,v3,v4,v5,sB,s0,s1,s2,h2]
    · by_cases h3:cl=254
      · subst h3
        by_cases h2:t=255
        · subst h2;simp [v2,v3,v4,v5,sB,s0,s1,s2]
        · simp [v2,v3,v4,v5,sB,s0,s1,s2,h2]
      · simp [v2,v3,v4,v5,sB,s0,s1,s2,h1,h3]
  · have e1:((m:Int) == 0)=false:=by simp;omega
    have e2:decide ((m:Int) > 0)=true:=decide_eq_true (by omega);rw [e1,e2];by_cases h1:cl=255
    · subst h1
      by_cases h2:t=255
      · subst h2;simp [v2,v3,v4,v5,sB,s0,s1,s2]
      · simp [v2,v3,v4,v5,sB,s0,s1,s2,h2]
    · by_cases h3:cl=254
      · subst h3
        by_cases h2:t=255
        · subst h2;simp [v2,v3,v4,v5,sB,s0,s1,s2]
        · simp [v2,v3,v4,v5,sB,s0,s1,s2,h2]
      · simp [v2,v3,v4,v5,sB,s0,s1,s2,h1,h3]
theorem implPreL (o:List (List Int)) (R:List RI) (L:List WI) (E:Bool) (hL:L.length≤12) (hR:R.length≤60) (hr:∀ y ∈ R,FitR y) (he:∀ x ∈ L,FitW x) (hok:∀ x ∈ L,okW x=true) (ho:o.length≤1048576) (hE:Ev (fun k=>YI.f k o R L) E) (m:Nat):∀ (i:Nat),L.length=i+m →
    Ev (fun k=>qm.l0 k L L (L.length:Int) i o R) (preL o R (if E=true then 0 else 8) (L.drop i)):=by
  induction m with
  | zero =>
    intro i hi;rw [List.drop_of_length_le (by omega)];refine Ev.step (f:=fun k=>(YI.f k o R L).bind fun b=>if b=true then some 0 else some 8) (fun k=>?_) (Ev.bind hE ?_)
    · simp only [qm.l0]
      rw [if_neg (by omega)]
    · unfold preL
      cases E
      · exact Ev.now _
      · exact Ev.now _
  | succ m ih =>
    intro i hi;have hil:i < L.length:=by omega
    have hx:=he _ (List.getElem_mem hil);have hn:L[i].f0.f0.f0.length≤1048576:=(hx:FitR _).1.1
    have hnx:Ev (fun k=>qm.l0 k L L (L.length:Int) (wrap64 ((i:Int)+1)) o R) (preL o R (if E=true then 0 else 8) (L.drop (i+1))):=by
      rw [w64 (x:=(i:Int)+1) (by omega) (by omega)];exact ih (i+1) (by omega)
    have h2':=ev2 hnx L[i].f0.f0.f0 L[i].f0.f1 L[i].f0.f2 L[i].f0.f3 L[i].f0.f4.f0 L[i].f0.f5 L[i].f0.f6 L[i].f1 L[i].f2 (((setOf R L[i].f0.f0.f0 L[i].f0.f1).length:Int) == 0);rw [List.drop_eq_getElem_cons hil];simp only [preL];generalize preL o R (if E=true then 0 else 8) (L.drop (i+1))=V at hnx h2' ⊢;refine Ev.step (f:=fun k=>(qR.f k o R L[i].f0.f0.f0 L[i].f0.f1).bind fun s=>(qN.f L[i].f0.f0.f0 o).bind fun u=>if u=true then (if L[i].f2=true then qm.j2 k L L[i].f0.f1 ((s.length:Int) == 0) L (L.length:Int) i false o R L[i].f0.f0.f0 L[i].f0.f1 L[i].f0.f2 L[i].f0.f3 L[i].f0.f4.f0 L[i].f0.f5 L[i].f0.f6 L[i].f1 L[i].f2 else (if L[i].f0.f2 > 0 then qm.j2 k L L[i].f0.f1 ((s.length:Int) == 0) L (L.length:Int) i true o R L[i].f0.f0.f0 L[i].f0.f1 L[i].f0.f2 L[i].f0.f3 L[i].f0.f4.f0 L[i].f0.f5 L[i].f0.f6 L[i].f1 L[i].f2 else qm.j2 k L L[i].f0.f1 ((s.length:Int) == 0) L (L.length:Int) i (L[i].f1 != 1) o R L[i].f0.f0.f0 L[i].f0.f1 L[i].f0.f2 L[i].f0.f3 L[i].f0.f4.f0 L[i].f0.f5 L[i].f0.f6 L[i].f1 L[i].f2)) else some 10) (fun k=>?_) (Ev.bind (implSetT o R _ _ hR hr hn) ?_)
    · simp only [qm.l0]
      rw [if_pos (by omega),if_pos (by omega),if_pos (by omega),rdWI' L i hil]
    · simp only [underF _ _ hn ho,Option.bind_some]
      unfold qgu;by_cases h1:qN.v L[i].f0.f0.f0 o=true
      · simp only [if_pos h1]
        by_cases h2:L[i].f2=true
        · simp only [if_pos h2]
          have:=h2' false;rw [h2] at this ⊢;rw [v2_bare] at this;exact this
        · have hbf:L[i].f2=false:=by simpa using h2
          have httl:0≤L[i].f0.f2:=rrOk_ttl ((wantOk_parts (hok _ (List.getElem_mem hil))).2.2.2 hbf);simp only [if_neg h2];by_cases h3:L[i].f0.f2 > 0
          · simp only [if_pos h3]
            have:=h2' true;rw [if_neg (show ¬ L[i].f0.f2=0 by omega)];exact this
          · simp only [if_neg h3]
            have:=h2' (L[i].f1 != 1);rw [if_pos (show L[i].f0.f2=0 by omega)];by_cases h4:L[i].f1=1
            · rw [if_pos h4]
              have e:(L[i].f1 != 1)=false:=by simp [h4]
              rw [e] at this ⊢;rw [hbf] at this ⊢;exact this
            · rw [if_neg h4]
              have e:(L[i].f1 != 1)=true:=by simp [h4]
              rw [e] at this ⊢;exact this
      · simp only [if_neg h1];exact Ev.now _
def prereqsV (o:List (List Int)) (R:List RI) (L:List WI):Int:=if zoneOkV o R=true then (if wantsV L=true then preL o R (if setsB R L L=true then 0 else 8) L else 1) else 1
theorem specPrereqs (o:List (List Int)) (R:List RI) (L:List WI) (ho:FitN o) (hR:R.length≤1048576) (hr:∀ x ∈ R,FitR x) (he:∀ x ∈ L,FitW x):Ev (fun k=>Zr.f k o R L) (prereqsV o R L):=by
  unfold Zr.f prereqsV;refine Ev.bind (specZoneOk o R ho hR hr) ?_;by_cases h:zoneOkV o R=true
  · simp only [if_pos h]
    refine Ev.bind (specWants L he) ?_;by_cases h2:wantsV L=true
    · simp only [if_pos h2]
      unfold zC.f;refine Ev.bind (a:=preL o R (if setsB R L L=true then 0 else 8) L) ?_ (Ev.now _);simpa using specPreL o R L (setsB R L L) (wants_all h2).1 (zone_ok h).2.1 hr he ho.1 (evS h h2 hr he) L.length 0 (by omega)
    · simp only [if_neg h2];exact Ev.now _
  · simp only [if_neg h];exact Ev.now _
theorem implJ0 (o:List (List Int)) (R:List RI) (L:List WI) (b:Bool) (V:Int) (h:b=false→Ev (fun k=>qm.l0 k L L (L.length:Int) 0 o R) V):Ev (fun k=>qm.j0 k L b o R) (if b=true then 1 else V):=by
  refine Ev.step (f:=fun k=>if b=true then some 1 else qm.l0 k L L (L.length:Int) 0 o R) (fun k=>by simp only [qm.j0]) ?_;cases b
  · exact h rfl
  · exact Ev.now _
theorem implPrereqs (o:List (List Int)) (R:List RI) (L:List WI) (ho:FitN o) (hR:R.length≤1048576) (hr:∀ x ∈ R,FitR x) (ht:∀ x ∈ R,I64R x) (he:∀ x ∈ L,FitW x) (hw:∀ x ∈ L,I64W x):Ev (fun k=>qm.f k o R L) (prereqsV o R L):=by
  unfold qm.f prereqsV;refine Ev.bind (implZoneOk o R ho hR hr ht) ?_;by_cases h:zoneOkV o R=true
  · simp only [if_pos h]
    refine Ev.bind (implWants L hw) ?_;by_cases h2:wantsV L=true
    · rw [if_pos h2,h2]
      have:=implJ0 o R L (!true) (preL o R (if setsB R L L=true then 0 else 8) L) (fun _=>by simpa using implPreL o R L (setsB R L L) (wants_all h2).1 (zone_ok h).2.1 hr he (wants_all h2).2 ho.1 (evC h h2 hr he) L.length 0 (by omega));exact this
    · have hf:wantsV L=false:=by simpa using h2
      rw [if_neg h2,hf];exact implJ0 o R L (!false) 0 (fun h=>by cases h)
  · simp only [if_neg h]
    exact implJ0 o R L true 0 (fun h=>by cases h)
theorem rawR_ok' {x:RL} (h:qc2 x):RawR x:=by
  obtain ⟨h1,h2,h3,h4,h5,h6,h7⟩:=h;exact ⟨⟨h1.1,fun y hy=>(h1.2 y hy).1⟩,⟨h5.1,fun y hy=>(h5.2 y hy).1⟩,h6.1,h7.1,(i64_of_wf h2).1,(i64_of_wf h2).2⟩
theorem FnExactPrereqs:QF.Pure:=by
  intro x0 W h0 hw0;obtain ⟨ho,hl⟩:=h0;have ho:RawN x0.f0.f0:=⟨ho.1,fun x hx=>(ho.2 x hx).1⟩;have hraw:∀ x ∈ x0.f1,RawR x:=fun x hx=>rawR_ok' (hl.2 x hx)
  have hlen:x0.f1.length≤9223372036854775807:=hl.1;have hwl:W.length≤9223372036854775807:=hw0.1;have hwr:∀ x ∈ W,RawW x:=fun x hx=>rawR_ok' (hw0.2 x hx).1
  generalize x0.f0.f0=o at ho;generalize x0.f1=l at hraw hlen;apply Ev.rounds;unfold QF.f;obtain ⟨u,hu,hc⟩:=szZone o l 1048576 ho hlen hraw (by omega) (by omega);refine Ev.bind hu ?_;by_cases h:u < 0
  · simp only [if_pos h];exact Ev.now _
  simp only [if_neg h];obtain ⟨hu0,hu1,fo,fl,fe⟩:=hc.resolve_left h;obtain ⟨v,hv,hd⟩:=szWantS W u hwl hwr (by omega) (by omega);refine Ev.bind hv ?_;by_cases h2:v < 0
  · simp only [if_pos h2];exact Ev.now _
  simp only [if_neg h2];obtain ⟨_,_,fwl,fwe⟩:=hd.resolve_left h2;have hto:=toZone o l fo fl fe;have htw:=toWantS W fwl fwe;have fe':∀ x ∈ l.map cvR,FitR x:=fun x hx=>by obtain ⟨y,hy,rfl⟩:=List.mem_map.1 hx;exact fe y hy
  have ft':∀ x ∈ l.map cvR,I64R x:=fun x hx=>by obtain ⟨y,hy,rfl⟩:=List.mem_map.1 hx;exact ⟨(hraw y hy).2.2.2.2.1,(hraw y hy).2.2.2.2.2⟩
  have fl':(l.map cvR).length≤1048576:=by simpa using fl
  have we':∀ x ∈ W.map cvW,FitW x:=fun x hx=>by obtain ⟨y,hy,rfl⟩:=List.mem_map.1 hx;exact fwe y hy
  have wt':∀ x ∈ W.map cvW,I64W x:=fun x hx=>by obtain ⟨y,hy,rfl⟩:=List.mem_map.1 hx;exact ⟨(hwr y hy).2.2.2.2.1,(hwr y hy).2.2.2.2.2⟩
  have wl':(W.map cvW).length≤1048576:=by simpa using fwl
  refine Ev.bind hto (Ev.bind htw (Ev.bind (specPrereqs o _ _ fo fl' fe' we') (Ev.bind hto (Ev.bind htw (Ev.bind (implPrereqs o _ _ fo fl' fe' ft' we' wt') ?_)))));simp only [if_true];refine Ev.bind hto (Ev.bind (eqZone o _ fo fl' fe') ?_);simp only [if_true];refine Ev.bind htw (Ev.bind (eqWantS _ wl' we') ?_);simp only [if_true];exact Ev.now _
end Go.Proofs.YtfddbkaoghdfgaaGreat.Pure

