/- Plain lemmas for the statement FnExactPrereqs. -/
import Derived.Test.YtfddbkaoghdfgaaGreatZFnExactPrereqs0
import Derived.Test.YtfddbkaoghdfgaaGreatZFnExactPrereqs1
import Derived.Test.YtfddbkaoghdfgaaGreatZFnExactPrereqs2
import Derived.Test.YtfddbkaoghdfgaaGreatZFnExactPrereqs3
import Derived.Test.YtfddbkaoghdfgaaGreatVFnExactPrereqs
import Derived.Deep.Slices
import Derived.Lib.SmallJoins
import Derived.OpenShut
import Derived.Shelf.SlSortCmp.InsertionK
namespace Go.Proofs.YtfddbkaoghdfgaaGreat.Open
open Go Go.RowKit Go.Deep Go.ChangeShapes Go.WideShapes Go.ChangeAt Go.Proofs.YtfddbkaoghdfgaaGreatW.PrintWords
set_option linter.unusedVariables false
variable {H:Type} {enc:TypeId × Value→H} {P:Program} {W:World} {sp:Nat→Bool} {held:Bool}

def Opens (enc:TypeId × Value→H) (P:Program) (W:World) (sp:Nat→Bool) (held:Bool) {α:Type} (d:Kd α) (ok:α→Prop) (t:TypeId):Prop :=
  ∀ fuel cs x,DataW.trod enc P W 0 sp held fuel t cs=some x→∃ y:α,d.K W y cs∧ok y

theorem opens_int {t:TypeId} {k:IntKind} (ht:P.underlying t=some (.int k)):Opens enc P W sp held (Kd.int k) (fun x=>(Lit.int k x).wf=true) t:=by
  intro fuel cs x h;obtain ⟨a,rfl,_,hw⟩:=DataW.trod_int ht h;exact ⟨a,rfl,hw⟩
theorem opens_bool {t:TypeId} (ht:P.underlying t=some .bool):Opens enc P W sp held Kd.bool (fun _=>True) t:=by
  intro fuel cs x h;obtain ⟨a,rfl,_⟩:=DataW.trod_bool ht h;exact ⟨a,rfl,trivial⟩

theorem list_of {α:Type} {n:Nat} {Q:Nat→α→Prop} (h:∀ i,i < n→∃ y,Q i y):∃ l:List α,l.length=n∧∀ i y,l[i]?=some y→Q i y:=by
  induction n with
  | zero=>exact ⟨[],rfl,fun i y hy=>by simp at hy⟩
  | succ n ih =>
    obtain ⟨l,hl,hq⟩:=ih (fun i hi=>h i (by omega));obtain ⟨y,hy⟩:=h n (by omega);refine ⟨l ++ [y],by simp [hl],fun i z hz=>?_⟩;by_cases hi:i < n
    · rw [List.getElem?_append_left (by omega)] at hz;exact hq i z hz
    · by_cases e:i=n
      · subst e
        rw [List.getElem?_append_right (by omega),hl,Nat.sub_self] at hz;simp at hz;subst hz;exact hy
      · rw [List.getElem?_eq_none (by simp;omega)] at hz;cases hz

theorem opens_slice {α:Type} {d:Kd α} {ok:α→Prop} {t e:TypeId} (ht:P.underlying t=some (.slice e)) (hs:d.sz=P.cellsOf e) (h:Opens enc P W sp held d ok e) :
    Opens enc P W sp held (Kd.slice e d) (fun l=>l.length≤maxLen∧∀ x ∈ l,ok x) t:=by
  intro fuel cs x hx;rcases open_slice ht hx with ⟨rfl,_⟩ | ⟨a,len,cap,m,n,D,Pl,rfl,_,hl,hm,hmm,_,hel⟩
  · exact ⟨[],⟨none,0,rfl,Nat.le_refl _,Kd.C_nil d W⟩,by simp,by simp⟩
  · have hlm:len≤m:=by rw [hmm];split <;> omega
    obtain ⟨l,hll,hq⟩:=list_of (n:=len) (Q:=fun i (y:α)=>∃ c,W.cells? 0 (a.add (i * P.cellsOf e)) (P.cellsOf e)=some c∧d.K W y c∧ok y) (fun i hi=>by
      obtain ⟨c,h1,h2⟩:=hel i (by omega);obtain ⟨y,hy,hok⟩:=h _ _ _ h2
      exact ⟨y,c,h1,hy,hok⟩)
    refine ⟨l,⟨some a,cap,by rw [hll],by omega,rfl,by rw [hll];unfold maxLen at hm;omega,fun _=>⟨a,rfl,fun j p hj=>?_⟩⟩,by omega,fun x hx=>?_⟩
    · obtain ⟨c,h1,h2,_⟩:=hq j p hj
      obtain ⟨_,hlen,hc⟩:=World.cells?_some h1;refine ⟨c,by rw [hlen,hs],h2,fun i u hu=>?_⟩;have hi:i < c.length:=(List.getElem?_eq_some_iff.1 hu).1;have h3:=hc i (by omega);rw [hs,← Go.Proofs.YtfddbkaoghdfgaaGreatW.PrintWords.add_add,h3,hu]
    · obtain ⟨i,hi⟩:=List.mem_iff_getElem?.1 hx
      obtain ⟨_,_,_,hok⟩:=hq i x hi;exact hok

def OpensF (enc:TypeId × Value→H) (P:Program) (W:World) (sp:Nat→Bool) (held:Bool) {α:Type} (d:Kd α) (ok:α→Prop) (fs:List Field) (o n:Nat):Prop :=
  ∀ (fuel:Nat) (cs:List Value),cs.length=o+n→(∀ f ∈ fs,∃ x,DataW.trod enc P W 0 sp held fuel f.type ((cs.drop f.offset).take (P.cellsOf f.type))=some x)→∃ y:α,d.K W y (cs.drop o)∧ok y
theorem opensF_one {α:Type} {d:Kd α} {ok:α→Prop} {f:Field} {o n:Nat} (ho:f.offset=o) (hn:P.cellsOf f.type=n) (h:Opens enc P W sp held d ok f.type):OpensF enc P W sp held d ok [f] o n:=by
  intro fuel cs hl hf;obtain ⟨x,hx⟩:=hf f (by simp);rw [ho,hn,List.take_of_length_le (by simp;omega)] at hx;exact h _ _ _ hx
theorem opensF_cons {α β:Type} {d:Kd α} {d':Kd β} {ok:α→Prop} {ok':β→Prop} {f:Field} {fs:List Field} {o n m:Nat} (ho:f.offset=o) (hn:P.cellsOf f.type=n) (h:Opens enc P W sp held d ok f.type) (hr:OpensF enc P W sp held d' ok' fs (o+n) m) :
    OpensF enc P W sp held (Kd.pair d d') (fun y=>ok y.1∧ok' y.2) (f :: fs) o (n+m):=by
  intro fuel cs hl hf;obtain ⟨x,hx⟩:=hf f (by simp);rw [ho,hn] at hx;obtain ⟨y,hy,hoky⟩:=h _ _ _ hx;obtain ⟨z,hz,hokz⟩:=hr fuel cs (by omega) (fun g hg=>hf g (by simp [hg]));refine ⟨(y,z),⟨(cs.drop o).take n,cs.drop (o+n),?_,hy,hz⟩,hoky,hokz⟩;rw [← List.drop_drop,List.take_append_drop]
theorem opens_struct {α β:Type} {d:Kd α} {ok:α→Prop} {t:TypeId} {fs:Array Field} {n:Nat} (f:β→α) (g:α→β) (hfg:∀ y,f (g y)=y) (ht:P.underlying t=some (.struct fs)) (hn:P.cellsOf t=n) (h:OpensF enc P W sp held d ok fs.toList 0 n) :
    Opens enc P W sp held (Kd.iso d f) (fun y=>ok (f y)) t:=by
  intro fuel cs x hx;obtain ⟨xs,m,_,rfl,hl,hlen,hf⟩:=DataW.trod_struct ht hx
  obtain ⟨y,hy,hok⟩:=h m cs (by omega) (fun fl hfl=>by
    obtain ⟨i,hi⟩:=List.mem_iff_getElem?.1 hfl;have hfi:=hf i fl (by simpa using hi);have hil:i < xs.length:=by rw [hlen];have:=(List.getElem?_eq_some_iff.1 hi).1;simpa using this
    exact ⟨xs[i],by rw [hfi,List.getElem?_eq_getElem hil]⟩)
  exact ⟨g y,by show d.K W (f (g y)) cs;rw [hfg];simpa using hy,by show ok (f (g y));rw [hfg];exact hok⟩
theorem open_arg {r:Reach} {b0:Nat} {α:Type} {d:Kd α} {ok:α→Prop} {t:TypeId} {fs:Array Field} {v:Value} {dt:DataW H} {p:List MemPlace} (ht:P.underlying t=some (.struct fs)) (hv:Value.okWide P W r b0 t v) (h:DataW.Trod enc P W 0 sp held t v dt p) (ho:Opens enc P W sp held d ok t) :
    ∃ (cs:List Value) (y:α),v=.agg cs.toArray∧d.K W y cs∧ok y:=by
  obtain ⟨cs,rfl,hsz⟩:=okWide_struct ht hv;obtain ⟨fuel,hf⟩:=h;obtain ⟨y,hy,hok⟩:=ho _ _ _ hf;exact ⟨cs.toList,y,by simp,by simpa [Value.cells] using hy,hok⟩
end Go.Proofs.YtfddbkaoghdfgaaGreat.Open

-- Written by a program of this session (wip/myprint.py): what each type of the laws' parameters reads as.
namespace Go.Proofs.YtfddbkaoghdfgaaGreat.Q
open Go Go.RowKit Go.Proofs.YtfddbkaoghdfgaaGreat.Open Go.Proofs.YtfddbkaoghdfgaaGreatW.PrintWords
set_option linter.unusedVariables false
def XD (x:Int):Prop:=(Lit.int .i64 x).wf=true
theorem opensT3 {H:Type} {enc:TypeId × Value→H} {W:World}:Opens enc Tryz.prog W (fun _=>true) true (Kd.int .i64) XD 3:=opens_int Tryz.underlying3
def qgw (_:Bool):Prop:=True
theorem opensT4 {H:Type} {enc:TypeId × Value→H} {W:World}:Opens enc Tryz.prog W (fun _=>true) true Kd.bool qgw 4:=opens_bool Tryz.underlying4
def qnA (x:Int):Prop:=(Lit.int .u8 x).wf=true
theorem opensT5 {H:Type} {enc:TypeId × Value→H} {W:World}:Opens enc Tryz.prog W (fun _=>true) true (Kd.int .u8) qnA 5:=opens_int Tryz.underlying5
def qbK (l:List Int):Prop:=l.length≤maxLen∧∀ x ∈ l,qnA x
theorem opensT27 {H:Type} {enc:TypeId × Value→H} {W:World}:Opens enc Tryz.prog W (fun _=>true) true (Kd.slice 5 (Kd.int .u8)) qbK 27:=opens_slice Tryz.underlying27 (by kernel_rfl) opensT5
def qh8 (l:List (List Int)):Prop:=l.length≤maxLen∧∀ x ∈ l,qbK x
theorem opensT57 {H:Type} {enc:TypeId × Value→H} {W:World}:Opens enc Tryz.prog W (fun _=>true) true (Kd.slice 27 (Kd.slice 5 (Kd.int .u8))) qh8 57:=opens_slice Tryz.underlying57 (by kernel_rfl) opensT27
def qaJ (x:S59):Prop:=qh8 x.f0
theorem opensT59 {H:Type} {enc:TypeId × Value→H} {W:World}:Opens enc Tryz.prog W (fun _=>true) true k59 qaJ 59:=by
  have h:=opens_struct (d:=(Kd.slice 27 (Kd.slice 5 (Kd.int .u8)))) (ok:=qh8) (enc:=enc) (P:=Tryz.prog) (W:=W) (sp:=fun _=>true) (held:=true) (fun x:S59=>x.f0) (fun y=>(⟨y⟩:S59)) (fun _=>rfl) Tryz.underlying59 (n:=1) (by kernel_rfl) (by
    refine opensF_one (d:=(Kd.slice 27 (Kd.slice 5 (Kd.int .u8)))) (ok:=qh8) (n:=1) ?ho ?hn ?h;(case ho=>rfl);(case hn=>kernel_rfl);(case h=>exact opensT57))
  exact h
def qa2 (l:List Int):Prop:=l.length≤maxLen∧∀ x ∈ l,XD x
theorem opensT103 {H:Type} {enc:TypeId × Value→H} {W:World}:Opens enc Tryz.prog W (fun _=>true) true (Kd.slice 3 (Kd.int .i64)) qa2 103:=opens_slice Tryz.underlying103 (by kernel_rfl) opensT3
def qc2 (x:ZZ):Prop:=qaJ x.f0∧(XD x.f1∧(XD x.f2∧(XD x.f3∧(qaJ x.f4∧(qbK x.f5∧(qa2 x.f6))))))
theorem opensT114 {H:Type} {enc:TypeId × Value→H} {W:World}:Opens enc Tryz.prog W (fun _=>true) true qaI qc2 114:=by
  have h:=opens_struct (d:=Kd.pair (k59) (Kd.pair ((Kd.int .i64)) (Kd.pair ((Kd.int .i64)) (Kd.pair ((Kd.int .i64)) (Kd.pair (k59) (Kd.pair ((Kd.slice 5 (Kd.int .u8))) ((Kd.slice 3 (Kd.int .i64))))))))) (ok:=(fun y=>qaJ y.1∧(fun y=>XD y.1∧(fun y=>XD y.1∧(fun y=>XD y.1∧(fun y=>qaJ y.1∧(fun y=>qbK y.1∧qa2 y.2) y.2) y.2) y.2) y.2) y.2)) (enc:=enc) (P:=Tryz.prog) (W:=W) (sp:=fun _=>true) (held:=true) (fun x:ZZ=>(x.f0,x.f1,x.f2,x.f3,x.f4,x.f5,x.f6)) (fun y=>(⟨y.1,y.2.1,y.2.2.1,y.2.2.2.1,y.2.2.2.2.1,y.2.2.2.2.2.1,y.2.2.2.2.2.2⟩:ZZ)) (fun _=>rfl) Tryz.underlying114 (n:=7) (by kernel_rfl) (by
    refine opensF_cons (d:=k59) (ok:=qaJ) (d':=Kd.pair ((Kd.int .i64)) (Kd.pair ((Kd.int .i64)) (Kd.pair ((Kd.int .i64)) (Kd.pair (k59) (Kd.pair ((Kd.slice 5 (Kd.int .u8))) ((Kd.slice 3 (Kd.int .i64)))))))) (ok':=(fun y=>XD y.1∧(fun y=>XD y.1∧(fun y=>XD y.1∧(fun y=>qaJ y.1∧(fun y=>qbK y.1∧qa2 y.2) y.2) y.2) y.2) y.2)) (n:=1) (m:=6) ?ho ?hn ?h ?_;(case ho=>rfl);(case hn=>kernel_rfl);(case h=>exact opensT59);refine opensF_cons (d:=(Kd.int .i64)) (ok:=XD) (d':=Kd.pair ((Kd.int .i64)) (Kd.pair ((Kd.int .i64)) (Kd.pair (k59) (Kd.pair ((Kd.slice 5 (Kd.int .u8))) ((Kd.slice 3 (Kd.int .i64))))))) (ok':=(fun y=>XD y.1∧(fun y=>XD y.1∧(fun y=>qaJ y.1∧(fun y=>qbK y.1∧qa2 y.2) y.2) y.2) y.2)) (n:=1) (m:=5) ?ho ?hn ?h ?_;(case ho=>rfl);(case hn=>kernel_rfl);(case h=>exact opensT3);refine opensF_cons (d:=(Kd.int .i64)) (ok:=XD) (d':=Kd.pair ((Kd.int .i64)) (Kd.pair (k59) (Kd.pair ((Kd.slice 5 (Kd.int .u8))) ((Kd.slice 3 (Kd.int .i64)))))) (ok':=(fun y=>XD y.1∧(fun y=>qaJ y.1∧(fun y=>qbK y.1∧qa2 y.2) y.2) y.2)) (n:=1) (m:=4) ?ho ?hn ?h ?_;(case ho=>rfl);(case hn=>kernel_rfl);(case h=>exact opensT3);refine opensF_cons (d:=(Kd.int .i64)) (ok:=XD) (d':=Kd.pair (k59) (Kd.pair ((Kd.slice 5 (Kd.int .u8))) ((Kd.slice 3 (Kd.int .i64))))) (ok':=(fun y=>qaJ y.1∧(fun y=>qbK y.1∧qa2 y.2) y.2)) (n:=1) (m:=3) ?ho ?hn ?h ?_;(case ho=>rfl);(case hn=>kernel_rfl);(case h=>exact opensT3);refine opensF_cons (d:=k59) (ok:=qaJ) (d':=Kd.pair ((Kd.slice 5 (Kd.int .u8))) ((Kd.slice 3 (Kd.int .i64)))) (ok':=(fun y=>qbK y.1∧qa2 y.2)) (n:=1) (m:=2) ?ho ?hn ?h ?_;(case ho=>rfl);(case hn=>kernel_rfl);(case h=>exact opensT59);refine opensF_cons (d:=(Kd.slice 5 (Kd.int .u8))) (ok:=qbK) (d':=(Kd.slice 3 (Kd.int .i64))) (ok':=qa2) (n:=1) (m:=1) ?ho ?hn ?h ?_;(case ho=>rfl);(case hn=>kernel_rfl);(case h=>exact opensT27)
    refine opensF_one (d:=(Kd.slice 3 (Kd.int .i64))) (ok:=qa2) (n:=1) ?ho ?hn ?h;(case ho=>rfl);(case hn=>kernel_rfl);(case h=>exact opensT103))
  exact h
def qfF (l:List (ZZ)):Prop:=l.length≤maxLen∧∀ x ∈ l,qc2 x
theorem opensT23 {H:Type} {enc:TypeId × Value→H} {W:World}:Opens enc Tryz.prog W (fun _=>true) true (Kd.slice 114 qaI) qfF 23:=opens_slice Tryz.underlying23 (by kernel_rfl) opensT114
def qkS (x:Xd):Prop:=qc2 x.f0∧(XD x.f1∧(qgw x.f2))
theorem opensT116 {H:Type} {enc:TypeId × Value→H} {W:World}:Opens enc Tryz.prog W (fun _=>true) true qd6 qkS 116:=by
  have h:=opens_struct (d:=Kd.pair (qaI) (Kd.pair ((Kd.int .i64)) (Kd.bool))) (ok:=(fun y=>qc2 y.1∧(fun y=>XD y.1∧qgw y.2) y.2)) (enc:=enc) (P:=Tryz.prog) (W:=W) (sp:=fun _=>true) (held:=true) (fun x:Xd=>(x.f0,x.f1,x.f2)) (fun y=>(⟨y.1,y.2.1,y.2.2⟩:Xd)) (fun _=>rfl) Tryz.underlying116 (n:=9) (by kernel_rfl) (by
    refine opensF_cons (d:=qaI) (ok:=qc2) (d':=Kd.pair ((Kd.int .i64)) (Kd.bool)) (ok':=(fun y=>XD y.1∧qgw y.2)) (n:=7) (m:=2) ?ho ?hn ?h ?_;(case ho=>rfl);(case hn=>kernel_rfl);(case h=>exact opensT114);refine opensF_cons (d:=(Kd.int .i64)) (ok:=XD) (d':=Kd.bool) (ok':=qgw) (n:=1) (m:=1) ?ho ?hn ?h ?_;(case ho=>rfl);(case hn=>kernel_rfl);(case h=>exact opensT3)
    refine opensF_one (d:=Kd.bool) (ok:=qgw) (n:=1) ?ho ?hn ?h;(case ho=>rfl);(case hn=>kernel_rfl);(case h=>exact opensT4))
  exact h
def qlG (l:List (Xd)):Prop:=l.length≤maxLen∧∀ x ∈ l,qkS x
theorem opensT24 {H:Type} {enc:TypeId × Value→H} {W:World}:Opens enc Tryz.prog W (fun _=>true) true (Kd.slice 116 qd6) qlG 24:=opens_slice Tryz.underlying24 (by kernel_rfl) opensT116
def qlF (x:S61):Prop:=qaJ x.f0∧(qfF x.f1)
theorem opensT61 {H:Type} {enc:TypeId × Value→H} {W:World}:Opens enc Tryz.prog W (fun _=>true) true k61 qlF 61:=by
  have h:=opens_struct (d:=Kd.pair (k59) ((Kd.slice 114 qaI))) (ok:=(fun y=>qaJ y.1∧qfF y.2)) (enc:=enc) (P:=Tryz.prog) (W:=W) (sp:=fun _=>true) (held:=true) (fun x:S61=>(x.f0,x.f1)) (fun y=>(⟨y.1,y.2⟩:S61)) (fun _=>rfl) Tryz.underlying61 (n:=2) (by kernel_rfl) (by
    refine opensF_cons (d:=k59) (ok:=qaJ) (d':=(Kd.slice 114 qaI)) (ok':=qfF) (n:=1) (m:=1) ?ho ?hn ?h ?_;(case ho=>rfl);(case hn=>kernel_rfl);(case h=>exact opensT59)
    refine opensF_one (d:=(Kd.slice 114 qaI)) (ok:=qfF) (n:=1) ?ho ?hn ?h;(case ho=>rfl);(case hn=>kernel_rfl);(case h=>exact opensT23))
  exact h
end Go.Proofs.YtfddbkaoghdfgaaGreat.Q

namespace Go.Proofs.YtfddbkaoghdfgaaGreat.Q
open Go.RowKit Go Go.Proofs Go.Sort Go.Proofs.YtfddbkaoghdfgaaGreatW.PrintWords Go.Proofs.YtfddbkaoghdfgaaGreatW.PrintLast Go.Proofs.YtfddbkaoghdfgaaGreatW.PrintMore
set_option linter.unusedVariables false
structure El where
  A0:Option Addr
  n0:Nat
  c0:Nat
  ty:Int
  tl:Int
  ad:Int
  A4:Option Addr
  n4:Nat
  c4:Nat
  A5:Option Addr
  n5:Nat
  c5:Nat
  A6:Option Addr
  n6:Nat
  c6:Nat
instance:Inhabited El:=⟨⟨none,0,0,0,0,0,none,0,0,none,0,0,none,0,0⟩⟩
def El.enc (x:El):List Value:=[.slice x.A0 x.n0 x.c0,.int .i64 x.ty,.int .i64 x.tl,.int .i64 x.ad,.slice x.A4 x.n4 x.c4,.slice x.A5 x.n5 x.c5,.slice x.A6 x.n6 x.c6]
abbrev El.agg (x:El):Value:=.agg #[.slice x.A0 x.n0 x.c0,.int .i64 x.ty,.int .i64 x.tl,.int .i64 x.ad,.slice x.A4 x.n4 x.c4,.slice x.A5 x.n5 x.c5,.slice x.A6 x.n6 x.c6]
theorem El.len (x:El):x.enc.length=7:=rfl
theorem El.one (x:El):∀ v ∈ x.enc,v.oneCell'=true:=fun v hv=>by simp only [El.enc,List.mem_cons,List.not_mem_nil,or_false] at hv;rcases hv with rfl | rfl | rfl | rfl | rfl | rfl | rfl <;> rfl
structure Sb (w:World) (g:Nat) (W:World):Prop where
  os:W.os=w.os
  tape:W.tape=w.tape
  output:W.output=w.output
  size:w.heap.size≤W.heap.size
  out:∀ k,k < w.heap.size→k≠g→W.heap[k]?=w.heap[k]?
theorem Sb.refl (w:World) (g:Nat):Sb w g w:=⟨rfl,rfl,rfl,Nat.le_refl _,fun _ _ _=>rfl⟩
theorem Sb.below {w W W':World} {g:Nat} (h:Sb w g W) (hb:Below W.heap.size W W'):Sb w g W':=⟨hb.os.trans h.os,hb.tape.trans h.tape,hb.output.trans h.output,Nat.le_trans h.size hb.size,fun k hk hg=>(hb.block k (Nat.lt_of_lt_of_le hk h.size)).trans (h.out k hk hg)⟩
theorem holds_below {W W':World} {g:Nat} {F:Array Value} (h:Holds id W g 0 F) (hg:g < W.heap.size) (hb:Below W.heap.size W W'):Holds id W' g 0 F:=fun j hj=>by
  obtain ⟨h1,h2⟩:=h j hj;exact ⟨(hb.cell (p:=⟨g,0+j,none⟩) hg).trans h1,by unfold World.frozen? at h2 ⊢;rw [show W'.heap[(⟨g,0+j,none⟩:Addr).block]?=W.heap[(⟨g,0+j,none⟩:Addr).block]? from hb.block g hg];exact h2⟩
structure Sw (w:World) (g:Nat) (W:World) (d:Array El):Prop where
  sb:Sb w g W
  lt:g < w.heap.size
  row:HoldsK El.enc 7 W g 0 d
theorem Sw.below {w W W':World} {g:Nat} {d:Array El} (h:Sw w g W d) (hb:Below W.heap.size W W'):Sw w g W' d:=⟨h.sb.below hb,h.lt,holds_below h.row (Nat.lt_of_lt_of_le h.lt h.sb.size) hb⟩
theorem Sw.gr {w W W':World} {g:Nat} {d:Array El} [c:Nonempty (Gr W W')] (h:Sw w g W d):Sw w g W' d:=c.elim fun c=>h.below c
theorem Sb.trans {w W W':World} {g:Nat} (hd:Sb w g W) (hW':Sb W g W'):Sb w g W':=⟨hW'.os.trans hd.os,hW'.tape.trans hd.tape,hW'.output.trans hd.output,Nat.le_trans hd.size hW'.size,fun k hk hkg=>(hW'.out k (Nat.lt_of_lt_of_le hk hd.size) hkg).trans (hd.out k hk hkg)⟩
theorem Sw.trans {w W W':World} {g:Nat} {d d':Array El} (h:Sw w g W d) (k:Sw W g W' d'):Sw w g W' d':=⟨h.sb.trans k.sb,h.lt,k.row⟩
theorem Sw.cell {w W:World} {g:Nat} {d:Array El} (h:Sw w g W d) {i:Nat} (hi:i < d.size) (c:Nat) (v:Value) (hv:d[i]!.enc[c]?=some v):W.cell? ⟨g,i * 7+c,none⟩=some v:=by
  have:=HoldsK.cells h.row El.len hi c v hv;rw [Addr.add_lit,Nat.zero_add] at this;exact this
theorem Sw.cellx {w W:World} {g:Nat} {d:Array El} (h:Sw w g W d) {i:Nat} (hi:i < d.size) {x:El} (hx:d[i]! = x) (c:Nat) (v:Value) (hv:x.enc[c]?=some v):W.cell? ⟨g,i * 7+c,none⟩=some v:=h.cell hi c v (by rw [hx];exact hv)
theorem Sw.fro {w W:World} {g:Nat} {d:Array El} (h:Sw w g W d) {i:Nat} (hi:i < d.size) (c:Nat) (hc:c < 7):W.frozen? ⟨g,i * 7+c,none⟩=false:=by
  have:=(h.row (i * 7+c) (by rw [size_flatK];omega)).2;rw [Nat.zero_add] at this;exact this
theorem Sw.swap {w W:World} {g:Nat} {d:Array El} (h:Sw w g W d) {i j:Nat} (hi:i < d.size) (hj:j < d.size):Sw w g ((W.setCells g (0+i * 7) d[j]!.enc).setCells g (0+j * 7) d[i]!.enc) (swp d i j):=by
  have e:=swap_worldK El.enc 7 El.len W 0 0 g 0 d i j hi hj;rw [show Sort.ahead W 0=W from rfl,putRowK_self El.enc 7 W g 0 d h.row] at e;have e2:((W.setCells g (0+i * 7) d[j]!.enc).setCells g (0+j * 7) d[i]!.enc)=putRowK El.enc 7 (Sort.ahead W (0+0)) g 0 (swp d i j):=e;rw [e2];refine ⟨⟨h.sb.os,h.sb.tape,h.sb.output,?_,fun k hk hg=>?_⟩,h.lt,holdsK_putRowK El.enc 7 _ g 0 d _ h.row (size_swp _ _ _)⟩
  · simp [putRowK,putRow,mapBlock];exact h.sb.size
  · rw [← h.sb.out k hk hg]
    show (W.heap.modify g _)[k]?=W.heap[k]?
    rw [Array.getElem?_modify,if_neg (fun e=>hg e.symm)]
def Cmps (w:World) (g:Nat) (f:Nat) (cb:Array Value) (good:El→Prop) (cf:El→El→Int):Prop :=
  ∀ W,Sb w g W→∀ x y:El,good x→good y→Calls Tryz.prog f (#[x.agg,y.agg] ++ cb) W fun e w'=>e=.returned (.int .i64 (cf x y))∧Below W.heap.size W w'
def AllG (good:El→Prop) (d:Array El):Prop:=∀ i,i < d.size→good d[i]!
theorem AllG.swp {good:El→Prop} {d:Array El} (h:AllG good d) {i j:Nat} (hi:i < d.size) (hj:j < d.size):AllG good (swp d i j):=fun k hk=>by
  rw [size_swp] at hk;rw [swp_get d hi hj];split
  · exact h _ hi
  · split
    · exact h _ hj
    · exact h _ hk
set_option maxHeartbeats 8000000 in
set_option maxRecDepth 100000 in
theorem ins_any (f:Nat) (cb:Array Value) (eg:∀ args w,(callFunc f args).run Tryz.prog w=.ok (.enter f args) w) (good:El→Prop) (cf:El→El→Int) (g cap a b:Nat) (d:Array El) (w:World) (hc:Cmps w g f cb good cf) (hg:AllG good d) (hH:Sw w g w d) (hab:a≤b) (hb:b≤d.size) (hsz:d.size < 4611686018427387904) :
    Calls Tryz.prog 191 #[.slice (some ⟨g,0,none⟩) d.size cap,.int .i64 a,.int .i64 b,.func (.func f) #[] cb] w fun e w'=>e=.returned (.tuple #[])∧Sw w g w' (Sort.insertionSort (ltOf cf) d a b):=by
  have HC:=Aside0.mk hc;have HG:=Aside0.mk hg;have HS:=Aside0.mk hH;clear hc hg hH;go_enter Tryz.func191,Tryz.ntmps191;go_wp2;go_loopg [8] (b - a) (fun g1 vi wr=>∃ (i:Nat) (dk:Array El),vi=.int .i64 i∧a < i∧i≤b+1∧b+1 - i≤g1+1∧dk.size=d.size∧Aside0 (Sw w g wr dk)∧Aside0 (AllG good dk)∧Aside0 (insOuter (ltOf cf) a b i dk=insOuter (ltOf cf) a b (a+1) d))
  case atStart=>exact ⟨a+1,d,by go_num,by omega,by omega,by omega,rfl,HS,HG,⟨rfl⟩⟩
  case round =>
    clear HS HG;obtain ⟨i,dk,rfl,hai,hib,hg1,hsk,HS,HG,HO⟩:=hrel;by_cases hlt:i < b
    · have hltz:(i:Int) < (b:Int):=by omega
      go_wp2;go_loopg [9] i (fun g2 vj wr2=>∃ (j:Nat) (dj:Array El),vj=.int .i64 j∧a≤j∧j≤i∧j≤g2∧dj.size=d.size∧Aside0 (Sw w g wr2 dj)∧Aside0 (AllG good dj)∧Aside0 (insInner (ltOf cf) a j dj=insInner (ltOf cf) a i dk))
      case atStart=>exact ⟨i,dk,rfl,by omega,Nat.le_refl _,Nat.le_refl _,hsk,HS,HG,⟨rfl⟩⟩
      case round =>
        clear HS HG;obtain ⟨j,dj,rfl,haj,hji,hg2,hsj,HS,HG,HI⟩:=hrel;have OUT:=Aside0.mk (fun (hs:j≤a∨ltOf cf dj[j]! dj[j - 1]! = false)=>(show insOuter (ltOf cf) a b (i+1) dj=insOuter (ltOf cf) a b (a+1) d by rw [← HO.out,insOuter_go _ _ _ _ _ hlt,← HI.out,insInner_stop _ _ _ _ hs]));by_cases hja:a < j
        · obtain ⟨jp,rfl⟩:∃ jp,j=jp+1:=⟨j - 1,by omega⟩
          have hjaz:(a:Int) < (jp:Int)+1:=by omega
          have jz:(jp:Int)+1 < (d.size:Int):=by omega
          have jz1:(jp:Int) < (d.size:Int):=by omega
          have p0:(0:Int)≤(jp:Int)+1:=by omega
          have p1:(0:Int)≤(jp:Int):=by omega
          obtain ⟨xj,hxj⟩:∃ x,dj[jp+1]! = x:=⟨_,rfl⟩;obtain ⟨xp,hxp⟩:∃ x,dj[jp]! = x:=⟨_,rfl⟩;have XJ:=Aside0.mk hxj;have XP:=Aside0.mk hxp;go_upto_region 4 with (fail)
          have hwp:IntKind.i64.wrap (jp:Int)=(jp:Int):=by rw [IntKind.wrap_i64];omega
          have qdU:jp+1 < dj.size:=by omega
          have qdT:jp < dj.size:=by omega
          go_region_held3 (fun w'=>w'.cell? ⟨g,(jp+1) * 7,none⟩=some (.slice xj.A0 xj.n0 xj.c0)∧w'.cell? ⟨g,(jp+1) * 7+1,none⟩=some (.int .i64 xj.ty)∧w'.cell? ⟨g,(jp+1) * 7+2,none⟩=some (.int .i64 xj.tl)∧w'.cell? ⟨g,(jp+1) * 7+3,none⟩=some (.int .i64 xj.ad)∧w'.cell? ⟨g,(jp+1) * 7+4,none⟩=some (.slice xj.A4 xj.n4 xj.c4)∧w'.cell? ⟨g,(jp+1) * 7+5,none⟩=some (.slice xj.A5 xj.n5 xj.c5)∧w'.cell? ⟨g,(jp+1) * 7+6,none⟩=some (.slice xj.A6 xj.n6 xj.c6)∧w'.cell? ⟨g,jp * 7,none⟩=some (.slice xp.A0 xp.n0 xp.c0)∧w'.cell? ⟨g,jp * 7+1,none⟩=some (.int .i64 xp.ty)∧w'.cell? ⟨g,jp * 7+2,none⟩=some (.int .i64 xp.tl)∧w'.cell? ⟨g,jp * 7+3,none⟩=some (.int .i64 xp.ad)∧w'.cell? ⟨g,jp * 7+4,none⟩=some (.slice xp.A4 xp.n4 xp.c4)∧w'.cell? ⟨g,jp * 7+5,none⟩=some (.slice xp.A5 xp.n5 xp.c5)∧w'.cell? ⟨g,jp * 7+6,none⟩=some (.slice xp.A6 xp.n6 xp.c6)) (first | exact ⟨(HS.out.gr).cellx (by omega) XJ.out 0 _ rfl,(HS.out.gr).cellx (by omega) XJ.out 1 _ rfl,(HS.out.gr).cellx (by omega) XJ.out 2 _ rfl,(HS.out.gr).cellx (by omega) XJ.out 3 _ rfl,(HS.out.gr).cellx (by omega) XJ.out 4 _ rfl,(HS.out.gr).cellx (by omega) XJ.out 5 _ rfl,(HS.out.gr).cellx (by omega) XJ.out 6 _ rfl,(HS.out.gr).cellx (by omega) XP.out 0 _ rfl,(HS.out.gr).cellx (by omega) XP.out 1 _ rfl,(HS.out.gr).cellx (by omega) XP.out 2 _ rfl,(HS.out.gr).cellx (by omega) XP.out 3 _ rfl,(HS.out.gr).cellx (by omega) XP.out 4 _ rfl,(HS.out.gr).cellx (by omega) XP.out 5 _ rfl,(HS.out.gr).cellx (by omega) XP.out 6 _ rfl⟩ | go_keep)
            (first
              | (go_at_fn f;refine (HC.out _ HS.out.gr.sb xj xp (by rw [← XJ.out];exact HG.out _ (by omega)) (by rw [← XP.out];exact HG.out _ (by omega))).mono ?_;rintro e w3 ⟨rfl,hb⟩;replace HS:=ak (HS.out.gr.below hb);clear hb))
          by_cases hlv:cf xj xp < 0
          · go_upto_region 6 with (fail)
            have f0j:w3.frozen? ⟨g,(jp+1) * 7,none⟩=false:=HS.out.fro qdU 0 (by omega);have f1j:=HS.out.fro qdU 1 (by omega);have f2j:=HS.out.fro qdU 2 (by omega);have f3j:=HS.out.fro qdU 3 (by omega);have f4j:=HS.out.fro qdU 4 (by omega);have f5j:=HS.out.fro qdU 5 (by omega);have f6j:=HS.out.fro qdU 6 (by omega);have f0p:w3.frozen? ⟨g,jp * 7,none⟩=false:=HS.out.fro qdT 0 (by omega);have f1p:=HS.out.fro qdT 1 (by omega);have f2p:=HS.out.fro qdT 2 (by omega);have f3p:=HS.out.fro qdT 3 (by omega);have f4p:=HS.out.fro qdT 4 (by omega);have f5p:=HS.out.fro qdT 5 (by omega);have f6p:=HS.out.fro qdT 6 (by omega);have HSW:=Aside0.mk (HS.out.swap (i:=jp+1) (j:=jp) qdU qdT);rw [XJ.out,XP.out,Nat.zero_add,Nat.zero_add] at HSW;simp only [El.enc,World.setCells,Nat.add_assoc,Nat.reduceAdd] at HSW;have mixed:Tryz.prog.follows Departure.mixedOrders=true:=by kernel_rfl
            go_big_region_o
            all_goals go_wp2
            go_roundg jp;case measure=>omega
            case rel =>
              refine ⟨jp,swp dj (jp+1) jp,by first | rfl | go_num | (congr 1;omega),by omega,by omega,Nat.le_refl _,by rw [size_swp];exact hsj,⟨?_⟩,⟨HG.out.swp qdU qdT⟩,⟨?_⟩⟩
              · exact HSW.out.below (below_drew (Below.refl _ _))
              · have h:=insInner_go (ltOf cf) a (jp+1) dj hja (by simp only [Nat.add_sub_cancel];rw [XJ.out,XP.out];exact decide_eq_true hlv)
                simp only [Nat.add_sub_cancel] at h;rw [← HI.out,h]
          · go_wp2
            go_roundg (b - (i+1));case measure=>omega
            case rel=>exact ⟨i+1,dj,by go_num,by omega,by omega,by omega,hsj,HS,HG,⟨OUT.out (Or.inr (by simp only [Nat.add_sub_cancel];rw [XJ.out,XP.out];exact decide_eq_false (by omega)))⟩⟩
        · have hjaz:decide ((j:Int) > (a:Int))=false:=decide_eq_false (by omega)
          have hjaz':¬ (a:Int) < (j:Int):=by omega
          have mixed:Tryz.prog.follows Departure.mixedOrders=true:=by kernel_rfl
          go_upto_region 4 with (fail)
          go_big_region_o
          all_goals go_wp2
          go_roundg (b - (i+1));case measure=>omega
          case rel=>exact ⟨i+1,dj,by go_num,by omega,by omega,by omega,hsj,⟨HS.out.gr⟩,HG,⟨OUT.out (Or.inl (by omega))⟩⟩
    · have hltz:¬ (i:Int) < (b:Int):=by omega
      go_wp2;go_end0
      exact ⟨rfl,by unfold Sort.insertionSort;rw [← HO.out,insOuter_stop _ _ _ _ _ hlt];exact HS.out⟩
set_option maxHeartbeats 8000000 in
set_option maxRecDepth 100000 in
theorem pdq_any (f:Nat) (cb:Array Value) (eg:∀ args w,(callFunc f args).run Tryz.prog w=.ok (.enter f args) w) (good:El→Prop) (cf:El→El→Int) (g cap b:Nat) (lim:Int) (d:Array El) (w:World) (hc:Cmps w g f cb good cf) (hg:AllG good d) (hH:Sw w g w d) (hb:b≤d.size) (h12:b≤12) (hsz:d.size < 4611686018427387904) :
    Calls Tryz.prog 150 #[.slice (some ⟨g,0,none⟩) d.size cap,.int .i64 0,.int .i64 b,.int .i64 lim,.func (.func f) #[] cb] w fun e w'=>e=.returned (.tuple #[])∧Sw w g w' (Sort.insertionSort (ltOf cf) d 0 b):=by
  have hi:=ins_any f cb eg good cf g cap 0 b d w hc hg hH (Nat.zero_le _) hb hsz;rw [show ((0:Nat):Int)=0 from rfl] at hi;clear hH hc hg;go_enter Tryz.func150,Tryz.ntmps150;go_wp2;refine wp_loop_rounds 1 ?_;rw [rounds_succ];go_wp2_with (go_at_call 191;refine hi.mono ?_;rintro e w2 ⟨rfl,hs⟩);(try simp only [Exit.inBlock,Exit.then]);refine bodyPost_ret (results_none rfl _ _ _) rfl ?_
  exact ⟨rfl,hs⟩
set_option maxHeartbeats 8000000 in
set_option maxRecDepth 100000 in
theorem len64_any (n:Nat) (h:n≤12) (W:World):Calls Tryz.prog 200 #[.int .u64 n] W fun e w'=>(∃ l:Int,e=.returned (.int .i64 l))∧w'=W:=by
  have h1:¬ ((n:Int) ≥ 4294967296):=by omega
  have h2:¬ ((n:Int) ≥ 65536):=by omega
  have h3:¬ ((n:Int) ≥ 256):=by omega
  go_enter Tryz.func200,Tryz.ntmps200;go_upto_region 10 with (fail)
  have hm:(n:Int) % 256=n:=by omega
  have hn:(n:Int).toNat=n:=by omega
  generalize hT:ByteArray.mk _=T;have hs:T.size=256:=by rw [← hT];rfl
  have h4:(n:Int) < (T.size:Int):=by rw [hs];omega
  have h5:n < T.size:=by rw [hs];omega
  have h6:(0:Int)≤n:=by omega
  clear hT;go_wp2;go_ret;exact ⟨⟨_,rfl⟩,rfl⟩
set_option maxHeartbeats 8000000 in
set_option maxRecDepth 100000 in
theorem len_any (n:Nat) (h:n≤12) (W:World):Calls Tryz.prog 151 #[.int .u64 n] W fun e w'=>(∃ l:Int,e=.returned (.int .i64 l))∧w'=W:=by
  have hm:(n:Int) % 18446744073709551616=n:=by omega
  go_enter Tryz.func151,Tryz.ntmps151;go_wp2_with (go_at_call 200;refine (len64_any n h _).mono ?_;rintro e w2 ⟨⟨l,rfl⟩,rfl⟩);go_ret;exact ⟨⟨_,rfl⟩,rfl⟩
set_option maxHeartbeats 8000000 in
set_option maxRecDepth 100000 in
theorem sort_any (f:Nat) (cb:Array Value) (eg:∀ args w,(callFunc f args).run Tryz.prog w=.ok (.enter f args) w) (good:El→Prop) (cf:El→El→Int) (g cap:Nat) (d:Array El) (w:World) (hc:Cmps w g f cb good cf) (hg:AllG good d) (hH:Sw w g w d) (h12:d.size≤12) :
    Calls Tryz.prog 86 #[.slice (some ⟨g,0,none⟩) d.size cap,.func (.func f) #[] cb] w fun e w'=>e=.returned (.tuple #[])∧Sw w g w' (Sort.insertionSort (ltOf cf) d 0 d.size):=by
  have hbg:=h12;have hp:=fun lim W (hd:Sb w g W) (hs:Sw w g W d)=>pdq_any f cb eg good cf g cap d.size lim d W (fun W' hW'=>hc W' ⟨hW'.os.trans hd.os,hW'.tape.trans hd.tape,hW'.output.trans hd.output,Nat.le_trans hd.size hW'.size,fun k hk hkg=>(hW'.out k (Nat.lt_of_lt_of_le hk hd.size) hkg).trans (hd.out k hk hkg)⟩) hg ⟨Sb.refl _ _,Nat.lt_of_lt_of_le hs.lt hs.sb.size,hs.row⟩ (Nat.le_refl _) h12 (by omega)
  have HP:=Aside0.mk hp;have HS:=Aside0.mk hH;clear hH hc hg hp;go_enter Tryz.func86,Tryz.ntmps86
  go_wp2_with (first
    | (go_at_call 151;refine (len_any d.size hbg _).mono ?_;rintro e w2 ⟨⟨l,rfl⟩,rfl⟩)
    | (go_at_call 150;refine (HP.out _ _ HS.out.gr.sb HS.out.gr).mono ?_;rintro e w3 ⟨rfl,hs⟩;have HS3:=ak (Sw.trans HS.out.gr hs)))
  go_end0
  exact ⟨rfl,HS3.out⟩
end Go.Proofs.YtfddbkaoghdfgaaGreat.Q

namespace Go.Proofs.YtfddbkaoghdfgaaGreat.Q
open Go.RowKit Go Go.Proofs Go.Sort Go.Proofs.YtfddbkaoghdfgaaGreatW.PrintWords Go.Proofs.YtfddbkaoghdfgaaGreatW.PrintLast Go.Proofs.YtfddbkaoghdfgaaGreatW.PrintMore
set_option linter.unusedVariables false
def RowAt (W:World) (A:Option Addr) (d:Array El):Prop:=d.size=0∨∃ g,A=some ⟨g,0,none⟩∧g < W.heap.size∧HoldsK El.enc 7 W g 0 d
theorem RowAt.below {W W':World} {A:Option Addr} {d:Array El} (h:RowAt W A d) (hb:Below W.heap.size W W'):RowAt W' A d:=by
  rcases h with h | ⟨g,e,hg,h⟩
  · exact .inl h
  · exact .inr ⟨g,e,Nat.lt_of_lt_of_le hg hb.size,holds_below h hg hb⟩
theorem row_cell {W:World} {g:Nat} {d:Array El} (h:HoldsK El.enc 7 W g 0 d) {i:Nat} (hi:i < d.size) {x:El} (hx:d[i]! = x) (c:Nat) (v:Value) (hv:x.enc[c]?=some v):W.cell? ⟨g,i * 7+c,none⟩=some v:=by
  have:=HoldsK.cells h El.len hi c v (by rw [hx];exact hv);rw [Addr.add_lit,Nat.zero_add] at this;exact this
def Sames (w:World) (f:Nat) (cb:Array Value) (good:El→Prop) (sm:El→El→Bool):Prop :=
  ∀ W,Below w.heap.size w W→∀ x y:El,good x→good y→Calls Tryz.prog f (#[x.agg,y.agg] ++ cb) W fun e w'=>e=.returned (.bool (sm x y))∧Below W.heap.size W w'
def eqRows (sm:El→El→Bool) (d1 d2:Array El):Bool:=decide (d1.size=d2.size) && (List.range d1.size).all fun j=>sm d1[j]! d2[j]!
set_option maxHeartbeats 8000000 in
set_option maxRecDepth 100000 in
theorem equal_any (f:Nat) (cb:Array Value) (eg:∀ args w,(callFunc f args).run Tryz.prog w=.ok (.enter f args) w) (good:El→Prop) (sm:El→El→Bool) (A1 A2:Option Addr) (c1 c2:Nat) (d1 d2:Array El) (w:World) (hs:Sames w f cb good sm) (h1:RowAt w A1 d1) (h2:RowAt w A2 d2) (g1:AllG good d1) (g2:AllG good d2) (hsz:d1.size < 4611686018427387904) :
    Calls Tryz.prog 90 #[.slice A1 d1.size c1,.slice A2 d2.size c2,.func (.func f) #[] cb] w fun e w'=>e=.returned (.bool (eqRows sm d1 d2))∧Below w.heap.size w w':=by
  have HS:=Aside0.mk hs;have H1:=Aside0.mk h1;have H2:=Aside0.mk h2;have G1:=Aside0.mk g1;have G2:=Aside0.mk g2;clear hs h1 h2 g1 g2;go_enter Tryz.func90,Tryz.ntmps90;by_cases hlen:d1.size=d2.size
  · have hl:((d1.size:Int) != (d2.size:Int))=false:=by simp [hlen]
    have qv6:d1.size≤d2.size:=by omega
    have qnP:d2.size≤d1.size:=by omega
    clear hlen;go_upto_region 4 with (fail)
    clear hl;go_loopg [17] d1.size (fun kq v17 w'=>∃ i:Nat,v17=.int .i64 i∧i≤d1.size∧d1.size - i≤kq∧Aside0 (∀ j,j < i→sm d1[j]! d2[j]! = true)∧Aside0 (Below w.heap.size w w'))
    case atStart=>exact ⟨0,rfl,Nat.zero_le _,by omega,⟨fun j hj=>absurd hj (Nat.not_lt_zero _)⟩,⟨Below.refl _ _⟩⟩
    case round =>
      obtain ⟨i,rfl,hi,hg,HA,HB⟩:=hrel;by_cases hlt:i < d1.size
      · have hltz:(i:Int) < (d1.size:Int):=by omega
        have qvE:(i:Int) < (d2.size:Int):=by omega
        have hi0:0≤(i:Int):=by omega
        obtain ⟨k1,e1,b1_,r1⟩:=(H1.out.below HB.out).resolve_left (by omega);obtain ⟨k2,e2,b2_,r2⟩:=(H2.out.below HB.out).resolve_left (by omega);subst e1;subst e2;obtain ⟨x,hx⟩:∃ x,d1[i]! = x:=⟨_,rfl⟩;obtain ⟨y,hy⟩:∃ x,d2[i]! = x:=⟨_,rfl⟩;have GX:=Aside0.mk (show good x by rw [← hx];exact G1.out i hlt);have GY:=Aside0.mk (show good y by rw [← hy];exact G2.out i (by omega));have XY:=Aside0.mk (And.intro hx hy);have R2:=ak r2;have B2:=ak b2_;have x0:wr.cell? ⟨k1,i * 7,none⟩=some (.slice x.A0 x.n0 x.c0):=row_cell r1 (by omega) hx 0 _ rfl;have x1:wr.cell? ⟨k1,i * 7+1,none⟩=some (.int .i64 x.ty):=row_cell r1 (by omega) hx 1 _ rfl;have x2:wr.cell? ⟨k1,i * 7+2,none⟩=some (.int .i64 x.tl):=row_cell r1 (by omega) hx 2 _ rfl;have x3:wr.cell? ⟨k1,i * 7+3,none⟩=some (.int .i64 x.ad):=row_cell r1 (by omega) hx 3 _ rfl;have x4:wr.cell? ⟨k1,i * 7+4,none⟩=some (.slice x.A4 x.n4 x.c4):=row_cell r1 (by omega) hx 4 _ rfl;have x5:wr.cell? ⟨k1,i * 7+5,none⟩=some (.slice x.A5 x.n5 x.c5):=row_cell r1 (by omega) hx 5 _ rfl;have x6:wr.cell? ⟨k1,i * 7+6,none⟩=some (.slice x.A6 x.n6 x.c6):=row_cell r1 (by omega) hx 6 _ rfl;clear r1 r2 hx hy b1_ b2_;go_upto_region 6 with (fail)
        obtain ⟨W2,hW1⟩:∃ W,W=wr.alloc (.cells #[.slice x.A0 x.n0 x.c0,.int .i64 x.ty,.int .i64 x.tl,.int .i64 x.ad,.slice x.A4 x.n4 x.c4,.slice x.A5 x.n5 x.c5,.slice x.A6 x.n6 x.c6] 105):=⟨_,rfl⟩;obtain ⟨p1,hb1⟩:∃ b,b=wr.heap.size:=⟨_,rfl⟩;have BX:=ak (show W2.heap[p1]?=some (.cells #[.slice x.A0 x.n0 x.c0,.int .i64 x.ty,.int .i64 x.tl,.int .i64 x.ad,.slice x.A4 x.n4 x.c4,.slice x.A5 x.n5 x.c5,.slice x.A6 x.n6 x.c6] 105 (0,0)) by rw [hW1,hb1];exact heap_alloc_new wr _);have hnb:=show Below wr.heap.size wr W2 by rw [hW1];exact below_alloc (Below.refl _ _) _
        rw [← hW1,← hb1];clear hW1 hb1;replace R2:=ak (holds_below R2.out B2.out hnb);replace HB:=b2s HB.out hnb;clear hnb x0 x1 x2 x3 x4 x5 x6;have y0:W2.cell? ⟨k2,i * 7,none⟩=some (.slice y.A0 y.n0 y.c0):=row_cell R2.out (by omega) XY.out.2 0 _ rfl;have y1:W2.cell? ⟨k2,i * 7+1,none⟩=some (.int .i64 y.ty):=row_cell R2.out (by omega) XY.out.2 1 _ rfl;have y2:W2.cell? ⟨k2,i * 7+2,none⟩=some (.int .i64 y.tl):=row_cell R2.out (by omega) XY.out.2 2 _ rfl;have y3:W2.cell? ⟨k2,i * 7+3,none⟩=some (.int .i64 y.ad):=row_cell R2.out (by omega) XY.out.2 3 _ rfl;have y4:W2.cell? ⟨k2,i * 7+4,none⟩=some (.slice y.A4 y.n4 y.c4):=row_cell R2.out (by omega) XY.out.2 4 _ rfl;have y5:W2.cell? ⟨k2,i * 7+5,none⟩=some (.slice y.A5 y.n5 y.c5):=row_cell R2.out (by omega) XY.out.2 5 _ rfl;have y6:W2.cell? ⟨k2,i * 7+6,none⟩=some (.slice y.A6 y.n6 y.c6):=row_cell R2.out (by omega) XY.out.2 6 _ rfl;go_upto_region 7 with (fail)
        obtain ⟨W3,hW1⟩:∃ W,W=W2.alloc (.cells #[.slice y.A0 y.n0 y.c0,.int .i64 y.ty,.int .i64 y.tl,.int .i64 y.ad,.slice y.A4 y.n4 y.c4,.slice y.A5 y.n5 y.c5,.slice y.A6 y.n6 y.c6] 105):=⟨_,rfl⟩;obtain ⟨p2,hb1⟩:∃ b,b=W2.heap.size:=⟨_,rfl⟩;have BY:=ak (show W3.heap[p2]?=some (.cells #[.slice y.A0 y.n0 y.c0,.int .i64 y.ty,.int .i64 y.tl,.int .i64 y.ad,.slice y.A4 y.n4 y.c4,.slice y.A5 y.n5 y.c5,.slice y.A6 y.n6 y.c6] 105 (0,0)) by rw [hW1,hb1];exact heap_alloc_new W2 _);have hnb:=show Below W2.heap.size W2 W3 by rw [hW1];exact below_alloc (Below.refl _ _) _
        rw [← hW1,← hb1];clear hW1 hb1;replace BX:=b1 BX hnb;replace HB:=b2s HB.out hnb;clear hnb y0 y1 y2 y3 y4 y5 y6 R2 B2;obtain ⟨_,_,_,_,_,_,_,f0,f1,f2,f3,f4,f5,f6⟩:=cells7 BX.out;obtain ⟨_,_,_,_,_,_,_,k0,k1_,k2_,k3,k4,k5,k6⟩:=cells7 BY.out;clear f0 f1 f2 f3 f4 f5 f6 k0 k1_ k2_ k3 k4 k5 k6;have HCL:=Aside0.mk (HS.out W3 HB.out x y GX.out GY.out);by_cases hsm:sm x y=true
        · rw [hsm] at HCL
          go_wp2_with (first | (go_at_fn f;refine HCL.out.mono ?_;rintro e w4 ⟨rfl,hb⟩;replace HB:=b2s HB.out hb;clear hb));go_roundg (d1.size - (i+1));case measure=>omega
          case rel=>exact ⟨i+1,by go_num,by omega,by omega,⟨fun j hj=>by
            by_cases hji:j=i
            · rw [hji,XY.out.1,XY.out.2];exact hsm
            · exact HA.out j (by omega)⟩,HB⟩
        · have hsf:sm x y=false:=by simpa using hsm
          rw [hsf] at HCL;go_wp2_with (first | (go_at_fn f;refine HCL.out.mono ?_;rintro e w4 ⟨rfl,hb⟩;replace HB:=b2s HB.out hb;clear hb));go_ret;refine ⟨?_,HB.out⟩
          rw [show eqRows sm d1 d2=false from by
            unfold eqRows;rw [Bool.and_eq_false_iff];right
            rw [List.all_eq_false]
            exact ⟨i,List.mem_range.2 hlt,by rw [XY.out.1,XY.out.2];exact hsm⟩]
          rfl
      · have:i=d1.size:=by omega
        subst this;have hltz:¬ (d1.size:Int) < (d1.size:Int):=by omega
        go_wp2;go_ret;refine ⟨?_,HB.out⟩
        rw [show eqRows sm d1 d2=true from by
          unfold eqRows;rw [Bool.and_eq_true,List.all_eq_true]
          exact ⟨decide_eq_true (by omega),fun j hj=>HA.out j (List.mem_range.1 hj)⟩]
        rfl
  · have hl:((d1.size:Int) != (d2.size:Int))=true:=by simp;omega
    go_wp2;go_ret;exact ⟨by unfold eqRows;rw [decide_eq_false hlen];rfl,Below.refl _ _⟩
end Go.Proofs.YtfddbkaoghdfgaaGreat.Q

namespace Go.Proofs.YtfddbkaoghdfgaaGreat.Q
open Go.RowKit Go Go.Proofs Go.Sort Go.Proofs.YtfddbkaoghdfgaaGreatW.PrintWords Go.Proofs.YtfddbkaoghdfgaaGreatW.PrintLast Go.Proofs.YtfddbkaoghdfgaaGreatW.PrintMore
set_option linter.unusedVariables false
def keepAt (sm:El→El→Bool) (d:Array El) (i:Nat):Bool:=i == 0 || !sm d[i]! d[i - 1]!
def ku (sm:El→El→Bool) (d:Array El):Nat→List El
  | 0=>[]
  | m+1=>ku sm d m ++ (if keepAt sm d m=true then [d[m]!] else [])
theorem ku_succ (sm:El→El→Bool) (d:Array El) (m:Nat):ku sm d (m+1)=ku sm d m ++ (if keepAt sm d m=true then [d[m]!] else []):=rfl
theorem ku_len (sm:El→El→Bool) (d:Array El):∀ m,(ku sm d m).length≤m
  | 0=>Nat.le_refl _
  | m+1=>by have:=ku_len sm d m;simp only [ku,List.length_append];split <;> simp <;> omega
theorem ku_all (sm:El→El→Bool) (d:Array El):∀ m,m≤d.size→(∀ i,i < m→keepAt sm d i=true)→ku sm d m=d.toList.take m
  | 0,_,_=>rfl
  | m+1,hm,h=>by
    have h1:=ku_all sm d m (by omega) (fun i hi=>h i (by omega));simp only [ku,h m (Nat.lt_succ_self _),if_true,h1];rw [List.take_succ_eq_append_getElem (by rw [Array.length_toList];omega),getElem!_pos d m hm];rfl
theorem ku_whole (sm:El→El→Bool) (d:Array El) (h:∀ i,i < d.size→keepAt sm d i=true):ku sm d d.size=d.toList:=by
  rw [ku_all sm d d.size (Nat.le_refl _) h];exact List.take_of_length_le (by simp)
def SamesB (w:World) (g:Nat) (f:Nat) (cb:Array Value) (good:El→Prop) (sm:El→El→Bool):Prop :=
  ∀ W,Sb w g W→∀ x y:El,good x→good y→Calls Tryz.prog f (#[x.agg,y.agg] ++ cb) W fun e w'=>e=.returned (.bool (sm x y))∧Below W.heap.size W w'
theorem Sw.cello {w W:World} {g:Nat} {d:Array El} (h:Sw w g W d) {i:Nat} (hi:i < d.size) {x:El} (hx:d[i]! = x) (o c:Nat) (ho:o=i * 7+c) (v:Value) (hv:x.enc[c]?=some v):W.cell? ⟨g,o,none⟩=some v:=by rw [ho];exact h.cellx hi hx c v hv
theorem Sw.froo {w W:World} {g:Nat} {d:Array El} (h:Sw w g W d) {i:Nat} (hi:i < d.size) (o c:Nat) (ho:o=i * 7+c) (hc:c < 7):W.frozen? ⟨g,o,none⟩=false:=by rw [ho];exact h.fro hi c hc
theorem setMany_one (d:Array El) (i:Nat) (x:El) (hi:i < d.size):setMany (flatK El.enc 7 d) (i * 7) x.enc=flatK El.enc 7 (d.setIfInBounds i x):=by
  refine ext_get! (by simp) fun t ht=>?_
  have ht':t < d.size * 7:=by simpa using ht
  rw [get_setMany _ _ _ t (by simpa using ht'),get_flatK _ _ _ t ht',get_flatK _ _ _ t (by simpa using ht'),El.len];by_cases a:t / 7=i
  · rw [if_pos ((blk_iff 7 i t (by omega)).2 a)]
    have e:t - i * 7=t % 7:=by omega
    rw [e,a,getElem!_pos (d.setIfInBounds i x) i (by simpa using hi),Array.getElem_setIfInBounds,if_pos rfl];exact hi
  · rw [if_neg (fun h=>a ((blk_iff 7 i t (by omega)).1 h)),getElem!_set_other d i (t / 7) x a]
set_option maxRecDepth 100000 in
theorem clear7 (W:World) (g o n c:Nat) (ty:TypeId) (hn:0 < n) (hc:∀ j,j < n * 7→(W.cell? ⟨g,o+j,none⟩).isSome=true) (hf:∀ j,j < n * 7→W.frozen? ⟨g,o+j,none⟩=false) :
    ∃ zs:List Value,zs.length=n * 7∧(Builtin.clear_ #[33] ty #[.slice (some ⟨g,o,none⟩) n c]).run Tryz.prog W=.ok (.tuple #[]) (W.setCells g o zs):=by
  have hv:∀ w,(zeroValue 105).run Tryz.prog w=.ok (.agg #[.slice none 0 0,.int .i64 0,.int .i64 0,.int .i64 0,.slice none 0 0,.slice none 0 0,.slice none 0 0]) w:=fun w=>rfl
  have hl:(Builtin.zeroCells (Value.agg #[.slice none 0 0,.int .i64 0,.int .i64 0,.int .i64 0,.slice none 0 0,.slice none 0 0,.slice none 0 0]).cells n).toList.length=n * 7:=by
    simp [Builtin.zeroCells,Value.cells]
  have h1:∀ v ∈ (Builtin.zeroCells (Value.agg #[.slice none 0 0,.int .i64 0,.int .i64 0,.int .i64 0,.slice none 0 0,.slice none 0 0,.slice none 0 0]).cells n).toList,v.oneCell'=true:=by
    intro v hv2;simp only [Builtin.zeroCells,Value.cells,Array.toList_map,List.mem_map] at hv2;obtain ⟨i,_,rfl⟩:=hv2;have h7:i % 7 < 7:=Nat.mod_lt _ (by omega)
    have:∀ k,k < 7→((#[.slice none 0 0,.int .i64 0,.int .i64 0,.int .i64 0,.slice none 0 0,.slice none 0 0,.slice none 0 0]:Array Value)[k]!).oneCell'=true:=by
      intro k hk;rcases (show k=0∨k=1∨k=2∨k=3∨k=4∨k=5∨k=6 by omega) with rfl | rfl | rfl | rfl | rfl | rfl | rfl <;> rfl
    exact this _ h7
  refine ⟨_,hl,?_⟩;have hst:=run_storeCells_cells (P:=Tryz.prog) g o _ 0 W (by rw [hl];simpa using hc) (by rw [hl];simpa using hf) h1;simp only [Nat.add_zero] at hst;obtain ⟨m,rfl⟩:∃ m,n=m+1:=⟨n - 1,by omega⟩;simp [Builtin.clear_,run_underlying Tryz.underlying33,hv,hst]
theorem Sw.clear {w W:World} {g:Nat} {d:Array El} (h:Sw w g W d) (m:Nat) (zs:List Value) (hz:m * 7+zs.length≤d.size * 7):Sb w g (W.setCells g (m * 7) zs)∧HoldsK El.enc 7 (W.setCells g (m * 7) zs) g 0 (d.toList.take m).toArray:=by
  have hb:m * 7+zs.length≤(flatK El.enc 7 d).size:=by rw [size_flatK];exact hz
  have e:W.setCells g (m * 7) zs=putRow id W g 0 (setMany (flatK El.enc 7 d) (m * 7) zs):=by
    have h2:=setCells_putRow W g 0 zs (m * 7) (flatK El.enc 7 d) hb;rw [Nat.zero_add,putRow_self id W g 0 _ h.row] at h2;exact h2
  have hr:=holds_setCells_c h.row (m * 7) zs hb;rw [Nat.zero_add] at hr;refine ⟨?_,fun j hj=>?_⟩
  · rw [e]
    refine ⟨h.sb.os,h.sb.tape,h.sb.output,?_,fun k hk hg=>?_⟩
    · simp [putRow,mapBlock];exact h.sb.size
    · rw [← h.sb.out k hk hg]
      show (W.heap.modify g _)[k]?=W.heap[k]?
      rw [Array.getElem?_modify,if_neg (fun e=>hg e.symm)]
  · rw [size_flatK] at hj
    have hj1:j < m * 7:=by simp at hj;omega
    have hj2:j < d.size * 7:=by omega
    have h3:=hr j (by rw [size_setMany,size_flatK];exact hj2);rw [get_setMany _ _ _ j (by rw [size_flatK];exact hj2),if_neg (by omega),get_flatK _ _ _ j hj2] at h3;rw [get_flatK _ _ _ j (by rw [size_flatK] at *;exact hj)];have hjm:j / 7 < m:=by omega
    have hjd:j / 7 < d.size:=by omega
    rw [show (d.toList.take m).toArray[j / 7]! = d[j / 7]! by
      rw [getElem!_pos (d.toList.take m).toArray (j / 7) (by simp;omega),getElem!_pos d (j / 7) hjd];simp]
    exact h3
theorem AllG.put {good:El→Prop} {d:Array El} (h:AllG good d) {m:Nat} {x:El} (hx:good x):AllG good (d.setIfInBounds m x):=fun i hi=>by
  have hi2:i < d.size:=by simpa using hi
  by_cases e:i=m
  · subst e
    rw [getElem!_set_same d i x hi2];exact hx
  · rw [getElem!_set_other d m i x e];exact h i hi2
theorem Sw.put {w W:World} {g:Nat} {d:Array El} (h:Sw w g W d) {i:Nat} (hi:i < d.size) (x:El):Sw w g (W.setCells g (i * 7) x.enc) (d.setIfInBounds i x):=by
  have hb:i * 7+x.enc.length≤(flatK El.enc 7 d).size:=by rw [El.len,size_flatK];omega
  have e:W.setCells g (i * 7) x.enc=putRow id W g 0 (setMany (flatK El.enc 7 d) (i * 7) x.enc):=by
    have h2:=setCells_putRow W g 0 x.enc (i * 7) (flatK El.enc 7 d) hb;rw [Nat.zero_add,putRow_self id W g 0 _ h.row] at h2;exact h2
  have hr:=holds_setCells_c h.row (i * 7) x.enc hb;rw [Nat.zero_add,setMany_one d i x hi] at hr;refine ⟨?_,h.lt,hr⟩;rw [e];refine ⟨h.sb.os,h.sb.tape,h.sb.output,?_,fun k hk hg=>?_⟩
  · simp [putRow,mapBlock];exact h.sb.size
  · rw [← h.sb.out k hk hg]
    show (W.heap.modify g _)[k]?=W.heap[k]?
    rw [Array.getElem?_modify,if_neg (fun e=>hg e.symm)]
set_option maxHeartbeats 8000000 in
set_option maxRecDepth 100000 in
theorem compact_any (f:Nat) (cb:Array Value) (eg:∀ args w,(callFunc f args).run Tryz.prog w=.ok (.enter f args) w) (good:El→Prop) (sm:El→El→Bool) (g cap:Nat) (d:Array El) (w:World) (hs:SamesB w g f cb good sm) (hg:AllG good d) (hH:Sw w g w d) (hcap:d.size≤cap) (hcz:cap≤9223372036854775807) :
    Calls Tryz.prog 88 #[.slice (some ⟨g,0,none⟩) d.size cap,.func (.func f) #[] cb] w fun e w'=>e=.returned (.slice (some ⟨g,0,none⟩) (ku sm d d.size).length cap)∧Sb w g w'∧HoldsK El.enc 7 w' g 0 (ku sm d d.size).toArray:=by
  have HC:=Aside0.mk hs;have HG:=Aside0.mk hg;have HS:=Aside0.mk hH;clear hs hg hH;go_enter Tryz.func88,Tryz.ntmps88;by_cases h2:d.size < 2
  · have h2z:(d.size:Int) < 2:=by omega
    go_wp2;go_ret;rw [ku_whole sm d (fun i hi=>by rw [show i=0 by omega];rfl)];exact ⟨by rw [Array.length_toList];rfl,Sb.refl _ _,HS.out.row⟩
  · have h2z:¬ (d.size:Int) < 2:=by omega
    go_upto_region 4 with (fail)
    clear h2z;go_loopg [5] d.size (fun kq v5 w'=>∃ k:Nat,v5=.int .i64 k∧1≤k∧k≤d.size∧d.size - k≤kq∧Aside0 (Sw w g w' d)∧Aside0 (∀ i,i < k→keepAt sm d i=true))
    case atStart=>exact ⟨1,rfl,Nat.le_refl _,by omega,by omega,HS,⟨fun i hi=>by rw [show i=0 by omega];rfl⟩⟩
    case round =>
      clear HS;obtain ⟨k,rfl,hk1,hkd,hkq,HS,HK⟩:=hrel;by_cases hlt:k < d.size
      · obtain ⟨kp,rfl⟩:∃ kp,k=kp+1:=⟨k - 1,by omega⟩
        have hltz:(kp:Int)+1 < (d.size:Int):=by omega
        have qpL:(kp:Int) < (d.size:Int):=by omega
        have p0:(0:Int)≤(kp:Int)+1:=by omega
        have p1:(0:Int)≤(kp:Int):=by omega
        have hwp:IntKind.i64.wrap (kp:Int)=(kp:Int):=by rw [IntKind.wrap_i64];omega
        obtain ⟨xj,hxj⟩:∃ x,d[kp+1]! = x:=⟨_,rfl⟩;obtain ⟨xp,hxp⟩:∃ x,d[kp]! = x:=⟨_,rfl⟩;have XJ:=Aside0.mk hxj;have XP:=Aside0.mk hxp;have hs2:kp+1 < d.size:=hlt;have hs3:kp < d.size:=by omega
        go_upto_region 6 with (fail)
        go_region_held3 (fun w'=>w'.cell? ⟨g,(kp+1) * 7,none⟩=some (.slice xj.A0 xj.n0 xj.c0)∧w'.cell? ⟨g,(kp+1) * 7+1,none⟩=some (.int .i64 xj.ty)∧w'.cell? ⟨g,(kp+1) * 7+2,none⟩=some (.int .i64 xj.tl)∧w'.cell? ⟨g,(kp+1) * 7+3,none⟩=some (.int .i64 xj.ad)∧w'.cell? ⟨g,(kp+1) * 7+4,none⟩=some (.slice xj.A4 xj.n4 xj.c4)∧w'.cell? ⟨g,(kp+1) * 7+5,none⟩=some (.slice xj.A5 xj.n5 xj.c5)∧w'.cell? ⟨g,(kp+1) * 7+6,none⟩=some (.slice xj.A6 xj.n6 xj.c6)∧w'.cell? ⟨g,kp * 7,none⟩=some (.slice xp.A0 xp.n0 xp.c0)∧w'.cell? ⟨g,kp * 7+1,none⟩=some (.int .i64 xp.ty)∧w'.cell? ⟨g,kp * 7+2,none⟩=some (.int .i64 xp.tl)∧w'.cell? ⟨g,kp * 7+3,none⟩=some (.int .i64 xp.ad)∧w'.cell? ⟨g,kp * 7+4,none⟩=some (.slice xp.A4 xp.n4 xp.c4)∧w'.cell? ⟨g,kp * 7+5,none⟩=some (.slice xp.A5 xp.n5 xp.c5)∧w'.cell? ⟨g,kp * 7+6,none⟩=some (.slice xp.A6 xp.n6 xp.c6)) (first | exact ⟨(HS.out.gr).cellx hs2 XJ.out 0 _ rfl,(HS.out.gr).cellx hs2 XJ.out 1 _ rfl,(HS.out.gr).cellx hs2 XJ.out 2 _ rfl,(HS.out.gr).cellx hs2 XJ.out 3 _ rfl,(HS.out.gr).cellx hs2 XJ.out 4 _ rfl,(HS.out.gr).cellx hs2 XJ.out 5 _ rfl,(HS.out.gr).cellx hs2 XJ.out 6 _ rfl,(HS.out.gr).cellx hs3 XP.out 0 _ rfl,(HS.out.gr).cellx hs3 XP.out 1 _ rfl,(HS.out.gr).cellx hs3 XP.out 2 _ rfl,(HS.out.gr).cellx hs3 XP.out 3 _ rfl,(HS.out.gr).cellx hs3 XP.out 4 _ rfl,(HS.out.gr).cellx hs3 XP.out 5 _ rfl,(HS.out.gr).cellx hs3 XP.out 6 _ rfl⟩ | go_keep)
          (first
            | (go_at_fn f;refine (HC.out _ HS.out.gr.sb xj xp (by rw [← XJ.out];exact HG.out _ hs2) (by rw [← XP.out];exact HG.out _ hs3)).mono ?_;rintro e w3 ⟨rfl,hb⟩;replace HS:=ak (HS.out.gr.below hb);clear hb))
        by_cases hsm:sm xj xp=true
        · rw [hsm]
          go_upto_region 9 with (fail)
          have KF:=Aside0.mk (show keepAt sm d (kp+1)=false by unfold keepAt;rw [Nat.add_sub_cancel,XJ.out,XP.out,hsm];simp);obtain ⟨L,hL⟩:∃ L,d.size - (kp+1)=L:=⟨_,rfl⟩;rw [hL];have hLd:L+kp+1=d.size:=by omega
          go_loopg [5,7] d.size (fun kq v5 v7 w'=>∃ (m q:Nat) (dk:Array El),v5=.int .i64 m∧v7=.int .i64 ((q:Int)+1)∧q+1≤L∧L - (q+1)≤kq∧m≤kp+q+1∧dk.size=d.size∧Aside0 (Sw w g w' dk)∧Aside0 (AllG good dk)∧Aside0 (dk.toList.take m=ku sm d (kp+1+(q+1)))∧Aside0 (∀ i,kp+1+q≤i→i < d.size→dk[i]! = d[i]!))
          case atStart=>exact ⟨kp+1,0,d,by go_num,rfl,by omega,by omega,by omega,rfl,HS,HG,⟨by
            rw [show kp+1+(0+1)=(kp+1)+1 from rfl];simp only [ku,KF.out,Bool.false_eq_true,if_false,List.append_nil]
            exact (ku_all sm d (kp+1) (by omega) HK.out).symm⟩,⟨fun i _ _=>rfl⟩⟩
          case round =>
            clear HS;obtain ⟨m,q,dk,rfl,rfl,hq,hqk,hm,hsk,HS,HGK,HT,HR⟩:=hrel;by_cases hql:q+1 < L
            · have q0:((q:Int)+1) < (L:Int):=by omega
              have q1:(0:Int)≤(q:Int)+1:=by omega
              have q2:(0:Int)≤(q:Int):=by omega
              have q3:(q:Int) < (L:Int):=by omega
              have hwq:IntKind.i64.wrap (q:Int)=(q:Int):=by rw [IntKind.wrap_i64];omega
              obtain ⟨yj,hyj⟩:∃ x,dk[kp+1+(q+1)]! = x:=⟨_,rfl⟩;obtain ⟨yp,hyp⟩:∃ x,dk[kp+1+q]! = x:=⟨_,rfl⟩;have YJ:=Aside0.mk hyj;have YP:=Aside0.mk hyp;have DJ:=Aside0.mk ((HR.out (kp+1+(q+1)) (by omega) (by omega)).symm.trans hyj);have DP:=Aside0.mk ((HR.out (kp+1+q) (by omega) (by omega)).symm.trans hyp);have KQ:=Aside0.mk (show keepAt sm d (kp+1+(q+1)) = !sm yj yp by unfold keepAt;rw [show kp+1+(q+1) - 1=kp+1+q by omega,DJ.out,DP.out];simp);have ht2:kp+1+(q+1) < dk.size:=by omega
              have ht3:kp+1+q < dk.size:=by omega
              go_upto_region 11 with (fail)
              go_region_held3 (fun w'=>w'.cell? ⟨g,(kp+1) * 7+(q+1) * 7,none⟩=some (.slice yj.A0 yj.n0 yj.c0)∧w'.cell? ⟨g,(kp+1) * 7+(q+1) * 7+1,none⟩=some (.int .i64 yj.ty)∧w'.cell? ⟨g,(kp+1) * 7+(q+1) * 7+2,none⟩=some (.int .i64 yj.tl)∧w'.cell? ⟨g,(kp+1) * 7+(q+1) * 7+3,none⟩=some (.int .i64 yj.ad)∧w'.cell? ⟨g,(kp+1) * 7+(q+1) * 7+4,none⟩=some (.slice yj.A4 yj.n4 yj.c4)∧w'.cell? ⟨g,(kp+1) * 7+(q+1) * 7+5,none⟩=some (.slice yj.A5 yj.n5 yj.c5)∧w'.cell? ⟨g,(kp+1) * 7+(q+1) * 7+6,none⟩=some (.slice yj.A6 yj.n6 yj.c6)∧w'.cell? ⟨g,(kp+1) * 7+q * 7,none⟩=some (.slice yp.A0 yp.n0 yp.c0)∧w'.cell? ⟨g,(kp+1) * 7+q * 7+1,none⟩=some (.int .i64 yp.ty)∧w'.cell? ⟨g,(kp+1) * 7+q * 7+2,none⟩=some (.int .i64 yp.tl)∧w'.cell? ⟨g,(kp+1) * 7+q * 7+3,none⟩=some (.int .i64 yp.ad)∧w'.cell? ⟨g,(kp+1) * 7+q * 7+4,none⟩=some (.slice yp.A4 yp.n4 yp.c4)∧w'.cell? ⟨g,(kp+1) * 7+q * 7+5,none⟩=some (.slice yp.A5 yp.n5 yp.c5)∧w'.cell? ⟨g,(kp+1) * 7+q * 7+6,none⟩=some (.slice yp.A6 yp.n6 yp.c6)) (first | exact ⟨(HS.out.gr).cello ht2 YJ.out ((kp+1) * 7+(q+1) * 7) 0 (by omega) _ rfl,(HS.out.gr).cello ht2 YJ.out ((kp+1) * 7+(q+1) * 7+1) 1 (by omega) _ rfl,(HS.out.gr).cello ht2 YJ.out ((kp+1) * 7+(q+1) * 7+2) 2 (by omega) _ rfl,(HS.out.gr).cello ht2 YJ.out ((kp+1) * 7+(q+1) * 7+3) 3 (by omega) _ rfl,(HS.out.gr).cello ht2 YJ.out ((kp+1) * 7+(q+1) * 7+4) 4 (by omega) _ rfl,(HS.out.gr).cello ht2 YJ.out ((kp+1) * 7+(q+1) * 7+5) 5 (by omega) _ rfl,(HS.out.gr).cello ht2 YJ.out ((kp+1) * 7+(q+1) * 7+6) 6 (by omega) _ rfl,(HS.out.gr).cello ht3 YP.out ((kp+1) * 7+q * 7) 0 (by omega) _ rfl,(HS.out.gr).cello ht3 YP.out ((kp+1) * 7+q * 7+1) 1 (by omega) _ rfl,(HS.out.gr).cello ht3 YP.out ((kp+1) * 7+q * 7+2) 2 (by omega) _ rfl,(HS.out.gr).cello ht3 YP.out ((kp+1) * 7+q * 7+3) 3 (by omega) _ rfl,(HS.out.gr).cello ht3 YP.out ((kp+1) * 7+q * 7+4) 4 (by omega) _ rfl,(HS.out.gr).cello ht3 YP.out ((kp+1) * 7+q * 7+5) 5 (by omega) _ rfl,(HS.out.gr).cello ht3 YP.out ((kp+1) * 7+q * 7+6) 6 (by omega) _ rfl⟩ | go_keep)
                (first
                  | (go_at_fn f;refine (HC.out _ HS.out.gr.sb yj yp (by rw [← YJ.out];exact HGK.out _ ht2) (by rw [← YP.out];exact HGK.out _ ht3)).mono ?_;rintro e w4 ⟨rfl,hb⟩;replace HS:=ak (HS.out.gr.below hb);clear hb))
              by_cases hsy:sm yj yp=true
              · rw [hsy]
                go_wp2;go_roundg (L - (q+1+1));case measure=>omega
                case rel=>exact ⟨m,q+1,dk,rfl,by go_num,by omega,by omega,by omega,hsk,HS,HGK,⟨by
                  rw [show kp+1+(q+1+1)=(kp+1+(q+1))+1 from rfl];simp only [ku,KQ.out,hsy,Bool.not_true,Bool.false_eq_true,if_false,List.append_nil]
                  exact HT.out⟩,⟨fun i h1 h2=>HR.out i (by omega) h2⟩⟩
              · have hsf:sm yj yp=false:=by simpa using hsy
                rw [hsf];obtain ⟨z,hz⟩:∃ x,dk[m]! = x:=⟨_,rfl⟩;have hmd:m < dk.size:=by omega
                have m0:(0:Int)≤(m:Int):=by omega
                have m1:(m:Int) < (d.size:Int):=by omega
                have zc0:w4.cell? ⟨g,m * 7,none⟩=some (.slice z.A0 z.n0 z.c0):=HS.out.cello hmd hz (m * 7) 0 (by omega) _ rfl;have zf0:w4.frozen? ⟨g,m * 7,none⟩=false:=HS.out.froo hmd (m * 7) 0 (by omega) (by omega);have zc1:w4.cell? ⟨g,m * 7+1,none⟩=some (.int .i64 z.ty):=HS.out.cello hmd hz (m * 7+1) 1 (by omega) _ rfl;have zf1:w4.frozen? ⟨g,m * 7+1,none⟩=false:=HS.out.froo hmd (m * 7+1) 1 (by omega) (by omega);have zc2:w4.cell? ⟨g,m * 7+2,none⟩=some (.int .i64 z.tl):=HS.out.cello hmd hz (m * 7+2) 2 (by omega) _ rfl;have zf2:w4.frozen? ⟨g,m * 7+2,none⟩=false:=HS.out.froo hmd (m * 7+2) 2 (by omega) (by omega);have zc3:w4.cell? ⟨g,m * 7+3,none⟩=some (.int .i64 z.ad):=HS.out.cello hmd hz (m * 7+3) 3 (by omega) _ rfl;have zf3:w4.frozen? ⟨g,m * 7+3,none⟩=false:=HS.out.froo hmd (m * 7+3) 3 (by omega) (by omega);have zc4:w4.cell? ⟨g,m * 7+4,none⟩=some (.slice z.A4 z.n4 z.c4):=HS.out.cello hmd hz (m * 7+4) 4 (by omega) _ rfl;have zf4:w4.frozen? ⟨g,m * 7+4,none⟩=false:=HS.out.froo hmd (m * 7+4) 4 (by omega) (by omega);have zc5:w4.cell? ⟨g,m * 7+5,none⟩=some (.slice z.A5 z.n5 z.c5):=HS.out.cello hmd hz (m * 7+5) 5 (by omega) _ rfl;have zf5:w4.frozen? ⟨g,m * 7+5,none⟩=false:=HS.out.froo hmd (m * 7+5) 5 (by omega) (by omega);have zc6:w4.cell? ⟨g,m * 7+6,none⟩=some (.slice z.A6 z.n6 z.c6):=HS.out.cello hmd hz (m * 7+6) 6 (by omega) _ rfl;have zf6:w4.frozen? ⟨g,m * 7+6,none⟩=false:=HS.out.froo hmd (m * 7+6) 6 (by omega) (by omega);have HSW:=Aside0.mk (HS.out.put hmd yj);simp only [El.enc,World.setCells,Nat.add_assoc,Nat.reduceAdd] at HSW;go_wp2_with (fail);go_roundg (L - (q+1+1));case measure=>omega
                case rel=>exact ⟨m+1,q+1,dk.setIfInBounds m yj,by go_num,by go_num,by omega,by omega,by omega,by simpa using hsk,HSW,⟨HGK.out.put (by rw [← YJ.out];exact HGK.out _ ht2)⟩,⟨by
                  rw [show kp+1+(q+1+1)=(kp+1+(q+1))+1 from rfl,ku_succ,if_pos (by rw [KQ.out,hsf];rfl),DJ.out]
                  rw [Array.toList_setIfInBounds,List.take_succ_eq_append_getElem (by simp;omega),List.getElem_set_self,List.take_set_of_le (Nat.le_refl _),HT.out]⟩,⟨fun i h1 h2=>by rw [getElem!_set_other dk m i yj (by omega)];exact HR.out i (by omega) h2⟩⟩
            · have:q+1=L:=by omega
              have q0:¬ ((q:Int)+1) < (L:Int):=by omega
              have m0:(0:Int)≤(m:Int):=by omega
              have m1:(m:Int)≤(d.size:Int):=by omega
              have m2:(m:Int)≤(cap:Int):=by omega
              have hdm:0 < d.size - m:=by omega
              obtain ⟨zs,hzl,hcl⟩:=clear7 wr g (m * 7) (d.size - m) (cap - m) 0 hdm (fun j hj=>by have hr:=(HS.out.row (m * 7+j) (by rw [size_flatK];omega)).1;rw [Nat.zero_add] at hr;rw [hr];rfl) (fun j hj=>by have hr:=(HS.out.row (m * 7+j) (by rw [size_flatK];omega)).2;rw [Nat.zero_add] at hr;exact hr);have HCL:=Aside0.mk (HS.out.clear m zs (by rw [hzl];omega))
              have ML:=Aside0.mk (show (ku sm d d.size).length=m∧(dk.toList.take m).toArray=(ku sm d d.size).toArray by
                rw [show d.size=kp+1+(q+1) by omega,← HT.out]
                exact ⟨by simp;omega,rfl⟩)
              clear hzl;go_wp2_with (fail);go_ret;exact ⟨by rw [ML.out.1];rfl,HCL.out.1,by rw [← ML.out.2];exact HCL.out.2⟩
        · have hsf:sm xj xp=false:=by simpa using hsm
          rw [hsf];go_wp2;go_roundg (d.size - (kp+1+1));case measure=>omega
          case rel=>exact ⟨kp+1+1,by go_num,by omega,by omega,by omega,HS,⟨fun i hi=>by
            by_cases e:i=kp+1
            · subst e;unfold keepAt;rw [Nat.add_sub_cancel,XJ.out,XP.out,hsf];simp
            · exact HK.out i (by omega)⟩⟩
      · have:k=d.size:=by omega
        subst this;have hltz:¬ (d.size:Int) < (d.size:Int):=by omega
        go_wp2;go_ret;rw [ku_whole sm d HK.out];exact ⟨by rw [Array.length_toList];rfl,HS.out.sb,HS.out.row⟩
end Go.Proofs.YtfddbkaoghdfgaaGreat.Q

namespace Go.Proofs.YtfddbkaoghdfgaaGreat.Pure
set_option linter.unusedVariables false
section
variable {α:Type} (cf:α→α→Int) (G:α→Prop)
structure CmpLaw:Prop where
  sym:∀ x y,G x→G y→(cf x y < 0 ↔ 0 < cf y x)
  trans:∀ x y z,G x→G y→G z→cf x y≤0→cf y z≤0→cf x z≤0
variable {cf G}
theorem CmpLaw.refl (h:CmpLaw cf G) {x:α} (hx:G x):cf x x=0:=by have:=h.sym x x hx hx;omega
theorem CmpLaw.same_sym (h:CmpLaw cf G) {x y:α} (hx:G x) (hy:G y) (e:cf x y=0):cf y x=0:=by have:=h.sym x y hx hy;have:=h.sym y x hy hx;omega
theorem CmpLaw.same_trans (h:CmpLaw cf G) {x y z:α} (hx:G x) (hy:G y) (hz:G z) (e:cf x y=0) (f:cf y z=0):cf x z=0:=by
  have h1:=h.trans x y z hx hy hz (by omega) (by omega);have h2:=h.trans z y x hz hy hx (by have:=h.same_sym hy hz f;omega) (by have:=h.same_sym hx hy e;omega);have:=h.sym z x hz hx;have:=h.sym x z hx hz;omega
theorem CmpLaw.lt_same (h:CmpLaw cf G) {x y z:α} (hx:G x) (hy:G y) (hz:G z) (e:cf x y < 0) (f:cf y z=0):cf x z < 0:=by
  have h1:=h.trans x y z hx hy hz (by omega) (by omega);by_cases h0:cf x z=0
  · have:=h.same_trans hx hz hy h0 (h.same_sym hy hz f);omega
  · omega
theorem CmpLaw.same_lt (h:CmpLaw cf G) {x y z:α} (hx:G x) (hy:G y) (hz:G z) (e:cf x y=0) (f:cf y z < 0):cf x z < 0:=by
  have h1:=h.trans x y z hx hy hz (by omega) (by omega);by_cases h0:cf x z=0
  · have:=h.same_trans hy hx hz (h.same_sym hx hy e) h0;omega
  · omega
theorem CmpLaw.lt_trans (h:CmpLaw cf G) {x y z:α} (hx:G x) (hy:G y) (hz:G z) (e:cf x y < 0) (f:cf y z < 0):cf x z < 0:=by
  have h1:=h.trans x y z hx hy hz (by omega) (by omega);by_cases h0:cf x z=0
  · have:=h.lt_same hy hz hx f (h.same_sym hx hz h0);have:=h.sym x y hx hy;omega
  · omega
theorem many_le (h:CmpLaw cf G):∀ (A W:List α),(∀ a ∈ A,G a)→(∀ w ∈ W,G w)→W.Pairwise (fun x y=>cf x y≠0)→(∀ w ∈ W,∃ a ∈ A,cf a w=0)→W.length≤A.length
  | [],W,_,_,_,hm=>by
    cases W with
    | nil=>exact Nat.le_refl _
    | cons w W=>obtain ⟨a,ha,_⟩:=hm w List.mem_cons_self;cases ha
  | a :: A,W,hA,hW,hp,hm=>by
    have hga:=hA a List.mem_cons_self
    have hrec:=many_le h A (W.filter fun w=>decide (cf a w≠0)) (fun x hx=>hA x (List.mem_cons_of_mem _ hx)) (fun w hw=>hW w (List.mem_filter.1 hw).1) (hp.filter _) (fun w hw=>by
      obtain ⟨h1,h2⟩:=List.mem_filter.1 hw;obtain ⟨b,hb,e⟩:=hm w h1;rcases List.mem_cons.1 hb with rfl | hb
      · exact absurd e (of_decide_eq_true h2)
      · exact ⟨b,hb,e⟩)
    have hone:W.length≤(W.filter fun w=>decide (cf a w≠0)).length+1:=by
      clear hrec hm hA;induction W with
      | nil=>simp
      | cons w W ih =>
        have hp':=List.pairwise_cons.1 hp;by_cases e:cf a w=0
        · have hall:W.filter (fun w=>decide (cf a w≠0))=W:=List.filter_eq_self.2 (fun x hx=>by
            refine decide_eq_true (fun e2=>hp'.1 x hx ?_)
            exact h.same_trans (hW w List.mem_cons_self) hga (hW x (List.mem_cons_of_mem _ hx)) (h.same_sym hga (hW w List.mem_cons_self) e) e2)
          rw [List.filter_cons,if_neg (by simp [e]),hall];simp
        · rw [List.filter_cons,if_pos (by simp [e])]
          have:=ih (fun x hx=>hW x (List.mem_cons_of_mem _ hx)) hp'.2;simp only [List.length_cons];omega
    simp only [List.length_cons];omega
theorem strict_ne (h:CmpLaw cf G) {A:List α} (hp:A.Pairwise (fun x y=>cf x y < 0)):A.Pairwise (fun x y=>cf x y≠0):=hp.imp (fun e=>by omega)
theorem strict_same (h:CmpLaw cf G):∀ (A B:List α),(∀ a ∈ A,G a)→(∀ b ∈ B,G b)→A.Pairwise (fun x y=>cf x y < 0)→B.Pairwise (fun x y=>cf x y < 0)→(∀ b ∈ B,∃ a ∈ A,cf a b=0)→A.length=B.length→∀ i (hi:i < A.length) (hj:i < B.length),cf A[i] B[i]=0
  | [],_,_,_,_,_,_,_=>fun i hi=>absurd hi (Nat.not_lt_zero _)
  | a :: A,[],_,_,_,_,_,hl=>by simp at hl
  | a :: A,b :: B,hA,hB,pa,pb,hm,hl=>by
    have ga:=hA a List.mem_cons_self;have gb:=hB b List.mem_cons_self;have pa':=List.pairwise_cons.1 pa;have pb':=List.pairwise_cons.1 pb;have hA':∀ x ∈ A,G x:=fun x hx=>hA x (List.mem_cons_of_mem _ hx)
    have hB':∀ x ∈ B,G x:=fun x hx=>hB x (List.mem_cons_of_mem _ hx)
    have hab:cf a b=0:=by
      obtain ⟨a2,ha2,e⟩:=hm b List.mem_cons_self;rcases List.mem_cons.1 ha2 with rfl | ha2
      · exact e
      · exfalso
        have hlt:cf a b < 0:=h.lt_same ga (hA' a2 ha2) gb (pa'.1 a2 ha2) e
        have hle:=many_le h A (b :: B) hA' hB (strict_ne h pb) (fun w hw=>by
          obtain ⟨x,hx,ex⟩:=hm w hw;rcases List.mem_cons.1 hx with rfl | hx
          · exfalso
            rcases List.mem_cons.1 hw with rfl | hw
            · omega
            · have:=h.lt_trans ga gb (hB' w hw) hlt (pb'.1 w hw);omega
          · exact ⟨x,hx,ex⟩)
        simp only [List.length_cons] at hl hle;omega
    intro i hi hj;cases i with
    | zero=>exact hab
    | succ i =>
      simp only [List.getElem_cons_succ];refine strict_same h A B hA' hB' pa'.2 pb'.2 (fun w hw=>?_) (by simpa using hl) i (by simpa using hi) (by simpa using hj);obtain ⟨x,hx,ex⟩:=hm w (List.mem_cons_of_mem _ hw);rcases List.mem_cons.1 hx with rfl | hx
      · exfalso
        have:=h.same_lt ga gb (hB' w hw) hab (pb'.1 w hw);omega
      · exact ⟨x,hx,ex⟩
def kp (cf:α→α→Int) (prev:α):List α→List α
  | []=>[]
  | y :: l=>if cf y prev=0 then kp cf y l else y :: kp cf y l
theorem kp_mem (prev:α):∀ (l:List α) (z:α),z ∈ kp cf prev l→z ∈ l:=by
  intro l;induction l generalizing prev with
  | nil=>intro z hz;cases hz
  | cons y l ih =>
    intro z hz;unfold kp at hz;split at hz
    · exact List.mem_cons_of_mem _ (ih y z hz)
    · rcases List.mem_cons.1 hz with rfl | hz
      · exact List.mem_cons_self
      · exact List.mem_cons_of_mem _ (ih y z hz)
theorem kp_strict (h:CmpLaw cf G):∀ (l:List α) (r prev:α),G r→G prev→(∀ z ∈ l,G z)→cf r prev=0→(prev :: l).Pairwise (fun x y=>cf x y≤0) →
    (r :: kp cf prev l).Pairwise (fun x y=>cf x y < 0)∧∀ z ∈ l,∃ k ∈ r :: kp cf prev l,cf k z=0:=by
  intro l;induction l with
  | nil=>intro r prev _ _ _ _ _;exact ⟨List.pairwise_singleton _ _,fun z hz=>by cases hz⟩
  | cons y l ih =>
    intro r prev gr gp gl hrp hs;have gy:=gl y List.mem_cons_self;have gl':∀ z ∈ l,G z:=fun z hz=>gl z (List.mem_cons_of_mem _ hz)
    have hs1:=List.pairwise_cons.1 hs;have hpy:cf prev y≤0:=hs1.1 y List.mem_cons_self;by_cases e:cf y prev=0
    · have hry:cf r y=0:=h.same_trans gr gp gy hrp (h.same_sym gy gp e)
      obtain ⟨h1,h2⟩:=ih r y gr gy gl' hry hs1.2;simp only [kp,if_pos e]
      exact ⟨h1,fun z hz=>by
        rcases List.mem_cons.1 hz with rfl | hz
        · exact ⟨r,List.mem_cons_self,hry⟩
        · exact h2 z hz⟩
    · have hlt:cf r y < 0:=h.same_lt gr gp gy hrp (by
        by_cases e0:cf prev y=0
        · exact absurd (h.same_sym gp gy e0) e
        · omega)
      obtain ⟨h1,h2⟩:=ih y y gy gy gl' (h.refl gy) hs1.2;simp only [kp,if_neg e];have h1':=List.pairwise_cons.1 h1;refine ⟨List.pairwise_cons.2 ⟨fun z hz=>?_,h1⟩,fun z hz=>?_⟩
      · rcases List.mem_cons.1 hz with rfl | hz
        · exact hlt
        · exact h.lt_trans gr gy (gl' z (kp_mem y l z hz)) hlt (h1'.1 z hz)
      · rcases List.mem_cons.1 hz with rfl | hz
        · exact ⟨z,List.mem_cons_of_mem _ List.mem_cons_self,h.refl gy⟩
        · obtain ⟨k,hk,ek⟩:=h2 z hz
          exact ⟨k,List.mem_cons_of_mem _ hk,ek⟩
theorem sets_same (h:CmpLaw cf G) {own l W B:List α} {r:α} (hmem:∀ z,z ∈ r :: l ↔ z ∈ own) (hs:(r :: l).Pairwise (fun x y=>cf x y≤0)) (go:∀ z ∈ own,G z) (gb:∀ b ∈ B,G b) (hB:B.Pairwise (fun x y=>cf x y < 0)) (hW:W.Pairwise (fun x y=>cf x y≠0)) (hWo:∀ w ∈ W,w ∈ own) (hoW:∀ o ∈ own,∃ w ∈ W,cf w o=0) :
    ((r :: kp cf r l).length=B.length∧∀ i (hi:i < (r :: kp cf r l).length) (hj:i < B.length),cf (r :: kp cf r l)[i] B[i]=0) ↔ (B.length=W.length∧∀ b ∈ B,∃ w ∈ W,cf w b=0):=by
  have gr:G r:=go r ((hmem r).1 List.mem_cons_self);have gl:∀ z ∈ l,G z:=fun z hz=>go z ((hmem z).1 (List.mem_cons_of_mem _ hz))
  obtain ⟨hA,hf⟩:=kp_strict h l r r gr gr gl (h.refl gr) hs
  have hsub:∀ a ∈ r :: kp cf r l,a ∈ own:=fun a ha=>(hmem a).1 (by
    rcases List.mem_cons.1 ha with rfl | ha
    · exact List.mem_cons_self
    · exact List.mem_cons_of_mem _ (kp_mem r l a ha))
  have hall:∀ o ∈ own,∃ a ∈ r :: kp cf r l,cf a o=0:=fun o ho=>by
    rcases List.mem_cons.1 ((hmem o).2 ho) with rfl | hl
    · exact ⟨o,List.mem_cons_self,h.refl gr⟩
    · exact hf o hl
  generalize hAA:r :: kp cf r l=A at hA hsub hall ⊢;have gA:∀ a ∈ A,G a:=fun a ha=>go a (hsub a ha)
  have gW:∀ w ∈ W,G w:=fun w hw=>go w (hWo w hw)
  have l1:=many_le h W A gW gA (strict_ne h hA) (fun a ha=>hoW a (hsub a ha));have l2:=many_le h A W gA gW hW (fun w hw=>hall w (hWo w hw));constructor
  · rintro ⟨hl,hp⟩
    refine ⟨by omega,fun b hb=>?_⟩;obtain ⟨i,hi,rfl⟩:=List.getElem_of_mem hb;obtain ⟨w,hw,e⟩:=hoW (A[i]'(by omega)) (hsub _ (List.getElem_mem _));exact ⟨w,hw,h.same_trans (gW w hw) (gA _ (List.getElem_mem _)) (gb _ hb) e (hp i (by omega) hi)⟩
  · rintro ⟨hl,hp⟩
    have hlen:A.length=B.length:=by omega
    exact ⟨hlen,strict_same h A B gA gb hA hB (fun b hb=>by
      obtain ⟨w,hw,e⟩:=hp b hb;obtain ⟨a,ha,e2⟩:=hall w (hWo w hw)
      exact ⟨a,ha,h.same_trans (gA a ha) (gW w hw) (gb b hb) e2 e⟩) hlen⟩
def pick (cf:α→α→Int) (W:List α):List α→List α
  | []=>W
  | o :: l=>pick cf (if ∃ w ∈ W,cf w o=0 then W else W ++ [o]) l
theorem pick_laws (h:CmpLaw cf G):∀ (l W:List α),(∀ z ∈ l,G z)→(∀ w ∈ W,G w)→W.Pairwise (fun x y=>cf x y≠0) →
    (pick cf W l).Pairwise (fun x y=>cf x y≠0)∧(∀ w ∈ W,w ∈ pick cf W l)∧(∀ w ∈ pick cf W l,w ∈ W∨w ∈ l)∧∀ o ∈ l,∃ w ∈ pick cf W l,cf w o=0
  | [],W,_,_,hp=>⟨hp,fun w hw=>hw,fun w hw=>.inl hw,fun o ho=>by cases ho⟩
  | o :: l,W,gl,gW,hp=>by
    have go:=gl o List.mem_cons_self;unfold pick;by_cases e:∃ w ∈ W,cf w o=0
    · rw [if_pos e]
      obtain ⟨h1,h2,h3,h4⟩:=pick_laws h l W (fun z hz=>gl z (List.mem_cons_of_mem _ hz)) gW hp;refine ⟨h1,h2,fun w hw=>(h3 w hw).imp id (List.mem_cons_of_mem _),fun z hz=>?_⟩;rcases List.mem_cons.1 hz with rfl | hz
      · obtain ⟨w,hw,ew⟩:=e;exact ⟨w,h2 w hw,ew⟩
      · exact h4 z hz
    · rw [if_neg e]
      obtain ⟨h1,h2,h3,h4⟩:=pick_laws h l (W ++ [o]) (fun z hz=>gl z (List.mem_cons_of_mem _ hz)) (fun w hw=>by
        rcases List.mem_append.1 hw with hw | hw
        · exact gW w hw
        · rw [List.mem_singleton.1 hw];exact go) (List.pairwise_append.2 ⟨hp,List.pairwise_singleton _ _,fun a ha b hb=>by
          rw [List.mem_singleton.1 hb];exact fun e2=>e ⟨a,ha,e2⟩⟩)
      refine ⟨h1,fun w hw=>h2 w (List.mem_append_left _ hw),fun w hw=>?_,fun z hz=>?_⟩
      · rcases h3 w hw with h5 | h5
        · rcases List.mem_append.1 h5 with h6 | h6
          · exact .inl h6
          · rw [List.mem_singleton.1 h6];exact .inr List.mem_cons_self
        · exact .inr (List.mem_cons_of_mem _ h5)
      · rcases List.mem_cons.1 hz with rfl | hz
        · exact ⟨z,h2 z (List.mem_append_right _ (List.mem_singleton.2 rfl)),h.refl go⟩
        · exact h4 z hz
end
end Go.Proofs.YtfddbkaoghdfgaaGreat.Pure

namespace Go.Proofs.YtfddbkaoghdfgaaGreat.Pure
open Go Go.RowKit Go.Proofs.YtfddbkaoghdfgaaGreat.Q Go.Proofs.YtfddbkaoghdfgaaGreatW.PrintWords Go.Proofs.YtfddbkaoghdfgaaGreatW.PrintLast Go.Proofs.YtfddbkaoghdfgaaGreatW.PrintMore
set_option linter.unusedVariables false
set_option linter.unusedSimpArgs false

def Bytes (l:List Int):Prop:=∀ x ∈ l,0≤x∧x≤255
theorem i64_of_wf {x:Int} (h:(Lit.int .i64 x).wf=true):-9223372036854775808≤x∧x≤9223372036854775807:=by
  simp [Lit.wf,IntKind.min,IntKind.max,IntKind.signed,IntKind.bits] at h
  omega
theorem w64 {x:Int} (h1:-9223372036854775808≤x) (h2:x≤9223372036854775807):wrap64 x=x:=by
  unfold wrap64;omega
theorem Ev.here {α:Type} {g:Nat→Option α} {r:α} (h:∀ k,g k=some r):Ev g r:=⟨0,fun k _=>h k⟩

theorem set_prefix (l:List Int) (i:Nat) (h:i < l.length) (m:Nat) (hm:l.length=i+m+1) :
    (l.take i ++ List.replicate (m+1) 0).set i (l.getD i 0)=l.take (i+1) ++ List.replicate m 0:=by
  rw [List.set_append_right _ _ (by simp;omega)];simp only [List.length_take,Nat.min_eq_left (Nat.le_of_lt h),Nat.sub_self,List.replicate_succ,List.set_cons_zero];rw [List.take_succ_eq_append_getElem h,List.append_assoc];simp [List.getD_eq_getElem?_getD,h]

theorem toByteS_l0 (l:List Int) (hl:l.length≤140737488351232) (m:Nat):∀ (i:Nat),l.length=i+m →
    Ev (fun k=>zE.l0 k l (l.take i ++ List.replicate m 0) i) l:=by
  induction m with
  | zero =>
    intro i hi;refine Ev.step (f:=fun _=>some l) (fun k=>?_) (Ev.now _);simp only [zE.l0];rw [if_neg (by omega)];simp [List.take_of_length_le (show l.length≤i by omega)]
  | succ m ih =>
    intro i hi;refine Ev.step (fun k=>?_) (ih (i+1) (by omega));simp only [zE.l0];rw [if_pos (by omega),if_pos (by omega),if_pos (by simp;omega),w64 (by omega) (by omega)];rw [show rd l (i:Int)=l.getD i 0 by simp [rd],show ((i:Int)).toNat=i by omega,set_prefix l i (by omega) m (by omega)];rfl
theorem toByteS (l:List Int) (hl:l.length≤140737488351232):Ev (fun k=>zE.f k l) l:=by
  unfold zE.f;simp only [if_pos (show 0≤(l.length:Int) by omega),if_pos (show ((l.length:Int)).toNat≤281474976710656 by omega)];simpa using toByteS_l0 l hl l.length 0 (by omega)

theorem eqByteS_l0 (l:List Int) (hl:l.length≤140737488351232) (m:Nat):∀ (i:Nat),l.length=i+m →
    Ev (fun k=>jK.l0 k l l i) true:=by
  induction m with
  | zero =>
    intro i hi;refine Ev.step (f:=fun _=>some true) (fun k=>?_) (Ev.now _);simp only [jK.l0];rw [if_neg (by omega)]
  | succ m ih =>
    intro i hi;refine Ev.step (fun k=>?_) (ih (i+1) (by omega));simp only [jK.l0];rw [if_pos (by omega),if_pos (by omega),if_pos (by omega),if_pos trivial,w64 (by omega) (by omega)];rfl
theorem eqByteS (l:List Int) (hl:l.length≤140737488351232):Ev (fun k=>jK.f k l l) true:=by
  unfold jK.f;simp only [if_pos];exact eqByteS_l0 l hl l.length 0 (by omega)

end Go.Proofs.YtfddbkaoghdfgaaGreat.Pure

namespace Go.Proofs.YtfddbkaoghdfgaaGreat.Pure
open Go Go.RowKit Go.Proofs.YtfddbkaoghdfgaaGreat.Q Go.Proofs.YtfddbkaoghdfgaaGreatW.PrintWords Go.Proofs.YtfddbkaoghdfgaaGreatW.PrintLast Go.Proofs.YtfddbkaoghdfgaaGreatW.PrintMore
set_option linter.unusedVariables false
set_option linter.unusedSimpArgs false

theorem rdL_at (l:List (List Int)) (i:Nat) (h:i < l.length):qX l (i:Int)=l[i]:=by simp [qX,List.getD_eq_getElem?_getD,h]
def lens (l:List (List Int)):Nat:=(l.map List.length).sum
theorem lens_drop (l:List (List Int)) (i:Nat) (h:i < l.length):lens (l.drop i)=l[i].length+lens (l.drop (i+1)):=by
  rw [List.drop_eq_getElem_cons h];simp only [lens,List.map_cons,List.sum_cons]
theorem len_le_lens (l:List (List Int)) (i:Nat) (h:i < l.length):l[i].length≤lens l:=by
  induction l generalizing i with
  | nil=>simp at h
  | cons x l ih =>
    cases i with
    | zero=>simp [lens]
    | succ i=>have:=ih i (by simpa using h);simp [lens] at this ⊢;omega
theorem szByteS (l:List Int) (left:Int) (hl:l.length≤9223372036854775807) (h0:0≤left) (h1:left≤1048576):∃ t,QG.f l left=some t∧(t < 0∨(t=left - l.length∧0≤t)):=by
  unfold QG.f;rw [w64 (by omega) (by omega)];by_cases h:left - (l.length:Int) < 0
  · exact ⟨-1,by rw [if_pos h],Or.inl (by omega)⟩
  · exact ⟨left - l.length,by rw [if_neg h],Or.inr ⟨rfl,by omega⟩⟩
theorem szByteSS_l0 (l:List (List Int)) (hl:l.length≤1048576) (he:∀ x ∈ l,x.length≤9223372036854775807) (m:Nat):∀ (i:Nat) (left:Int),l.length=i+m→0≤left→left≤1048576 →
    ∃ t,Ev (fun k=>zu.l0 k l left i) t∧(t < 0∨(t=left - lens (l.drop i)∧0≤t)):=by
  induction m with
  | zero =>
    intro i left hi h0 h1;refine ⟨left,Ev.step (f:=fun _=>some left) (fun k=>?_) (Ev.now _),Or.inr ⟨by rw [List.drop_of_length_le (by omega)];simp [lens],h0⟩⟩;simp only [zu.l0];rw [if_neg (by omega)]
  | succ m ih =>
    intro i left hi h0 h1;have hil:i < l.length:=by omega
    obtain ⟨t,ht,hc⟩:=szByteS l[i] left (he _ (List.getElem_mem hil)) h0 h1;by_cases hneg:t < 0
    · refine ⟨-1,Ev.step (f:=fun _=>some (-1)) (fun k=>?_) (Ev.now _),Or.inl (by omega)⟩
      simp only [zu.l0];rw [if_pos (by omega),if_pos (by omega),rdL_at l i hil,ht];simp [hneg]
    · obtain ⟨u,hu,hcu⟩:=ih (i+1) t (by omega) (by omega) (by omega)
      refine ⟨u,Ev.step (fun k=>?_) hu,?_⟩
      · simp only [zu.l0]
        rw [if_pos (by omega),if_pos (by omega),rdL_at l i hil,ht,w64 (x:=(i:Int)+1) (by omega) (by omega)];simp [hneg]
      · rw [lens_drop l i hil]
        rcases hcu with h | h
        · exact Or.inl h
        · exact Or.inr (by omega)
theorem szByteSS (l:List (List Int)) (left:Int) (hl:l.length≤9223372036854775807) (he:∀ x ∈ l,x.length≤9223372036854775807) (h0:0≤left) (h1:left≤1048576) :
    ∃ t,Ev (fun k=>zu.f k l left) t∧(t < 0∨(t=left - l.length - lens l∧0≤t)):=by
  unfold zu.f;rw [w64 (by omega) (by omega)];by_cases h:left - (l.length:Int) < 0
  · exact ⟨-1,by simp only [if_pos h];exact Ev.now _,Or.inl (by omega)⟩
  · obtain ⟨t,ht,hc⟩:=szByteSS_l0 l (by omega) he l.length 0 (left - l.length) (by omega) (by omega) (by omega)
    exact ⟨t,by simp only [if_neg h];exact ht,by rw [List.drop_zero] at hc;omega⟩
theorem szName (l:List (List Int)) (left:Int) (hl:l.length≤9223372036854775807) (he:∀ x ∈ l,x.length≤9223372036854775807) (h0:0≤left) (h1:left≤1048576) :
    ∃ t,Ev (fun k=>zq.f k l left) t∧(t < 0∨(t=left - l.length - lens l∧0≤t)):=by
  obtain ⟨t,ht,hc⟩:=szByteSS l left hl he h0 h1;unfold zq.f;by_cases h:t < 0
  · exact ⟨-1,Ev.bind ht (by simp only [if_pos h];exact Ev.now _),Or.inl (by omega)⟩
  · exact ⟨t,Ev.bind ht (by simp only [if_neg h];exact Ev.now _),hc⟩
theorem setL_prefix (l:List (List Int)) (i:Nat) (h:i < l.length) (m:Nat) (hm:l.length=i+m+1) :
    (l.take i ++ List.replicate (m+1) []).set i l[i]=l.take (i+1) ++ List.replicate m []:=by
  rw [List.set_append_right _ _ (by simp;omega)];simp only [List.length_take,Nat.min_eq_left (Nat.le_of_lt h),Nat.sub_self,List.replicate_succ,List.set_cons_zero];rw [List.take_succ_eq_append_getElem h,List.append_assoc];simp
theorem toByteSS_l0 (l:List (List Int)) (hl:l.length≤11728124029610) (he:∀ x ∈ l,x.length≤140737488351232) (m:Nat):∀ (i:Nat),l.length=i+m →
    Ev (fun k=>zP.l0 k l (l.take i ++ List.replicate m []) i) l:=by
  induction m with
  | zero =>
    intro i hi;refine Ev.step (f:=fun _=>some l) (fun k=>?_) (Ev.now _);simp only [zP.l0];rw [if_neg (by omega)];simp [List.take_of_length_le (show l.length≤i by omega)]
  | succ m ih =>
    intro i hi;have hil:i < l.length:=by omega
    refine Ev.step (f:=fun k=>(zE.f k l[i]).bind fun t=>zP.l0 k l ((l.take i ++ List.replicate (m+1) []).set i t) ((i+1:Nat):Int)) (fun k=>?_) ?_
    · simp only [zP.l0]
      rw [if_pos (by omega),if_pos (by omega),rdL_at l i hil,w64 (x:=(i:Int)+1) (by omega) (by omega)];simp only [if_pos (show (i:Int) < ((l.take i ++ List.replicate (m+1) ([]:List Int)).length:Int) by simp;omega),show ((i:Int)).toNat=i by omega];rfl
    · refine Ev.bind (toByteS l[i] (he _ (List.getElem_mem hil))) ?_
      rw [setL_prefix l i hil m (by omega)];exact ih (i+1) (by omega)
theorem toByteSS (l:List (List Int)) (hl:l.length≤11728124029610) (he:∀ x ∈ l,x.length≤140737488351232):Ev (fun k=>zP.f k l) l:=by
  unfold zP.f;simp only [if_pos (show 0≤(l.length:Int) by omega),if_pos (show ((l.length:Int)).toNat≤11728124029610 by omega)];simpa using toByteSS_l0 l hl he l.length 0 (by omega)
theorem toName (l:List (List Int)) (hl:l.length≤11728124029610) (he:∀ x ∈ l,x.length≤140737488351232):Ev (fun k=>QC.f k l) l:=by
  unfold QC.f;exact Ev.bind (toByteSS l hl he) (Ev.now _)
theorem eqByteSS_l0 (l:List (List Int)) (hl:l.length≤11728124029610) (he:∀ x ∈ l,x.length≤140737488351232) (m:Nat):∀ (i:Nat),l.length=i+m →
    Ev (fun k=>zv.l0 k l l i) true:=by
  induction m with
  | zero =>
    intro i hi;refine Ev.step (f:=fun _=>some true) (fun k=>?_) (Ev.now _);simp only [zv.l0];rw [if_neg (by omega)]
  | succ m ih =>
    intro i hi;have hil:i < l.length:=by omega
    refine Ev.step (f:=fun k=>(jK.f k l[i] l[i]).bind fun t=>if t=true then zv.l0 k l l ((i+1:Nat):Int) else some false) (fun k=>?_) ?_
    · simp only [zv.l0]
      rw [if_pos (by omega),if_pos (by omega),rdL_at l i hil,w64 (x:=(i:Int)+1) (by omega) (by omega),if_pos (by omega)];rfl
    · refine Ev.bind (eqByteS l[i] (he _ (List.getElem_mem hil))) ?_
      simp only [if_true];exact ih (i+1) (by omega)
theorem eqByteSS (l:List (List Int)) (hl:l.length≤11728124029610) (he:∀ x ∈ l,x.length≤140737488351232):Ev (fun k=>zv.f k l l) true:=by
  unfold zv.f;simp only [if_pos];exact eqByteSS_l0 l hl he l.length 0 (by omega)
theorem eqName (l:List (List Int)) (hl:l.length≤11728124029610) (he:∀ x ∈ l,x.length≤140737488351232):Ev (fun k=>zb.f k l l) true:=by
  unfold zb.f;refine Ev.bind (eqByteSS l hl he) ?_;simp only [if_true];exact Ev.now _
end Go.Proofs.YtfddbkaoghdfgaaGreat.Pure

namespace Go.Proofs.YtfddbkaoghdfgaaGreat.Pure
open Go Go.RowKit Go.Proofs.YtfddbkaoghdfgaaGreat.Q Go.Proofs.YtfddbkaoghdfgaaGreatW.PrintWords Go.Proofs.YtfddbkaoghdfgaaGreatW.PrintLast Go.Proofs.YtfddbkaoghdfgaaGreatW.PrintMore
set_option linter.unusedVariables false
set_option linter.unusedSimpArgs false
theorem specLabelOk_l0 (l:List Int) (hl:l.length≤140737488351232) (m:Nat):∀ (i:Nat),l.length=i+m →
    Ev (fun k=>jn.l0 k l i) ((l.drop i).all jG.byte):=by
  induction m with
  | zero =>
    intro i hi;rw [List.drop_of_length_le (by omega)];refine Ev.step (f:=fun _=>some true) (fun k=>?_) (Ev.now _);simp only [jn.l0];rw [if_neg (by omega)]
  | succ m ih =>
    intro i hi;have hil:i < l.length:=by omega
    have e:rd l (i:Int)=l[i]:=by simp [rd,List.getD_eq_getElem?_getD,hil]
    rw [List.drop_eq_getElem_cons hil,List.all_cons];by_cases hb:jG.byte l[i]=true
    · rw [hb,Bool.true_and]
      refine Ev.step (fun k=>?_) (ih (i+1) (by omega));simp only [jn.l0];rw [if_pos (by omega),if_pos (by omega),e,w64 (by omega) (by omega)];unfold jG.byte at hb;generalize l[i]=x at *;by_cases h1:x ≥ 97 <;> by_cases h2:x≤122 <;> by_cases h3:x ≥ 48 <;> by_cases h4:x≤57 <;> by_cases h5:x=45 <;> first | omega | (simp [h1,h2,h3,h4,h5] at hb ⊢;try omega)
    · rw [Bool.not_eq_true] at hb
      rw [hb,Bool.false_and];refine Ev.step (f:=fun _=>some false) (fun k=>?_) (Ev.now _);simp only [jn.l0];rw [if_pos (by omega),if_pos (by omega),e];unfold jG.byte at hb;generalize l[i]=x at *;by_cases h1:x ≥ 97 <;> by_cases h2:x≤122 <;> by_cases h3:x ≥ 48 <;> by_cases h4:x≤57 <;> by_cases h5:x=45 <;> first | omega | (simp [h1,h2,h3,h4,h5] at hb ⊢;try omega)
theorem specLabelOk (l:List Int) (hl:l.length≤140737488351232):Ev (fun k=>jn.f k l) (jG.v l):=by
  unfold jn.f jG.v;by_cases h1:(l.length:Int) < 1
  · simp only [if_pos h1]
    rw [decide_eq_false (show ¬ 1≤l.length by omega)];refine Ev.step (f:=fun _=>some false) (fun k=>?_) (Ev.now _);simp [jn.j0]
  · simp only [if_neg h1]
    rw [decide_eq_true (show 1≤l.length by omega)];by_cases h2:(l.length:Int) > 15
    · rw [decide_eq_true h2,decide_eq_false (show ¬ l.length≤15 by omega)]
      refine Ev.step (f:=fun _=>some false) (fun k=>?_) (Ev.now _);simp [jn.j0]
    · rw [decide_eq_false h2,decide_eq_true (show l.length≤15 by omega)]
      have:=specLabelOk_l0 l hl l.length 0 (by omega);rw [List.drop_zero] at this;refine Ev.step (fun k=>?_) this;simp [jn.j0]
theorem specNameOk_l0 (l:List (List Int)) (hl:l.length≤1048576) (he:∀ x ∈ l,x.length≤140737488351232) (m:Nat):∀ (i:Nat),l.length=i+m →
    Ev (fun k=>jk.l0 k i l) ((l.drop i).all jG.v):=by
  induction m with
  | zero =>
    intro i hi;rw [List.drop_of_length_le (by omega)];refine Ev.step (f:=fun _=>some true) (fun k=>?_) (Ev.now _);simp only [jk.l0];rw [if_neg (by omega)]
  | succ m ih =>
    intro i hi;have hil:i < l.length:=by omega
    rw [List.drop_eq_getElem_cons hil,List.all_cons];refine Ev.step (f:=fun k=>(jn.f k l[i]).bind fun t=>if t=true then jk.l0 k ((i+1:Nat):Int) l else some false) (fun k=>?_) ?_
    · simp only [jk.l0]
      rw [if_pos (by omega),if_pos (by omega),rdL_at l i hil,w64 (x:=(i:Int)+1) (by omega) (by omega)];rfl
    · refine Ev.bind (specLabelOk l[i] (he _ (List.getElem_mem hil))) ?_
      cases hb:jG.v l[i] with
      | true=>simp only [if_true,Bool.true_and];exact ih (i+1) (by omega)
      | false=>simp only [Bool.false_eq_true,if_false,Bool.false_and];exact Ev.now _
theorem specNameOk (l:List (List Int)) (hl:l.length≤1048576) (he:∀ x ∈ l,x.length≤140737488351232):Ev (fun k=>jk.f k l) (qK.v l):=by
  unfold jk.f qK.v;by_cases h:(l.length:Int) > 6
  · simp only [if_pos h]
    rw [decide_eq_false (show ¬ l.length≤6 by omega)];exact Ev.now _
  · simp only [if_neg h]
    rw [decide_eq_true (show l.length≤6 by omega),Bool.true_and];simpa using specNameOk_l0 l hl he l.length 0 (by omega)
end Go.Proofs.YtfddbkaoghdfgaaGreat.Pure

namespace Go.Proofs.YtfddbkaoghdfgaaGreat.Pure
open Go Go.RowKit Go.Proofs.YtfddbkaoghdfgaaGreat.Q Go.Proofs.YtfddbkaoghdfgaaGreatW.PrintWords Go.Proofs.YtfddbkaoghdfgaaGreatW.PrintLast Go.Proofs.YtfddbkaoghdfgaaGreatW.PrintMore
set_option linter.unusedVariables false
set_option linter.unusedSimpArgs false

theorem bytesLess_irrefl (l:List UInt8):Op.bytesLess l l=false:=by
  induction l with
  | nil=>rfl
  | cons a l ih=>simp [Op.bytesLess,ih]
def cb (a b:List Int):Int:=yk.v a b
def same (a b:List Int):Bool:=(strOfNums a).toList == (strOfNums b).toList
theorem cb_zero (a b:List Int):cb a b=0 ↔ same a b=true:=by
  unfold cb yk.v same;by_cases h:((strOfNums a).toList == (strOfNums b).toList)=true
  · have e:=eq_of_beq h
    rw [e,bytesLess_irrefl];simp
  · have hf:((strOfNums a).toList == (strOfNums b).toList)=false:=by simpa using h
    rw [hf];by_cases h2:Op.bytesLess (strOfNums a).toList (strOfNums b).toList=true
    · rw [if_pos h2];simp
    · rw [if_neg h2];simp
def cmpL:List (List Int)→List (List Int)→Int
  | [],[]=>0
  | [],_ :: _=>-1
  | _ :: _,[]=>1
  | x :: xs,y :: ys=>if cb x y=0 then cmpL xs ys else cb x y
def nameCmpV (a b:List (List Int)):Int:=cmpL a.reverse b.reverse
theorem rev_at (l:List (List Int)) (i:Nat) (h:i < l.length):qX l ((l.length:Int) - ((i+1:Nat):Int))=l.reverse[i]'(by simpa using h):=by
  have e:((l.length:Int) - ((i+1:Nat):Int))=((l.length - 1 - i:Nat):Int):=by omega
  rw [e,rdL_at l _ (by omega),List.getElem_reverse]
theorem specCmp_l0 (a b:List (List Int)) (ha:a.length≤1048576) (hb:b.length≤1048576) (m:Nat):∀ (i:Nat),min a.length b.length=i+m →
    Ev (fun k=>jd.l0 k ((i+1:Nat):Int) a b) (cmpL (a.reverse.drop i) (b.reverse.drop i)):=by
  induction m with
  | zero =>
    intro i hi
    have hend:cmpL (a.reverse.drop i) (b.reverse.drop i)=if (a.length:Int)=(b.length:Int) then 0 else if (a.length:Int) < (b.length:Int) then -1 else 1:=by
      by_cases h1:a.length=b.length
      · rw [List.drop_of_length_le (by simp;omega),List.drop_of_length_le (by simp;omega),if_pos (by omega)];rfl
      · by_cases h2:a.length < b.length
        · rw [List.drop_of_length_le (l:=a.reverse) (by simp;omega),List.drop_eq_getElem_cons (l:=b.reverse) (by simp;omega),if_neg (by omega),if_pos (by omega)];rfl
        · rw [List.drop_of_length_le (l:=b.reverse) (by simp;omega),List.drop_eq_getElem_cons (l:=a.reverse) (by simp;omega),if_neg (by omega),if_neg (by omega)];rfl
    rw [hend];refine Ev.step (f:=fun k=>jd.j1 k ((i+1:Nat):Int) false a b) (fun k=>?_) ?_
    · simp only [jd.l0]
      by_cases h:((i+1:Nat):Int)≤(a.length:Int)
      · rw [if_pos h,decide_eq_false (by omega)]
      · rw [if_neg h]
    · refine Ev.step (f:=fun _=>some (if (a.length:Int)=(b.length:Int) then 0 else if (a.length:Int) < (b.length:Int) then -1 else 1)) (fun k=>?_) (Ev.now _)
      simp only [jd.j1,Bool.false_eq_true,if_false];by_cases h1:(a.length:Int)=(b.length:Int)
      · rw [if_pos h1,if_pos h1]
      · by_cases h2:(a.length:Int) < (b.length:Int)
        · rw [if_neg h1,if_pos h2,if_neg h1,if_pos h2]
        · rw [if_neg h1,if_neg h2,if_neg h1,if_neg h2]
  | succ m ih =>
    intro i hi;have h1:i < a.length:=by omega
    have h2:i < b.length:=by omega
    rw [List.drop_eq_getElem_cons (l:=a.reverse) (by simpa using h1),List.drop_eq_getElem_cons (l:=b.reverse) (by simpa using h2)];have ea:=rev_at a i h1;have eb:=rev_at b i h2;generalize hx:a.reverse[i]'(by simpa using h1)=x at ea ⊢;generalize hy:b.reverse[i]'(by simpa using h2)=y at eb ⊢;refine Ev.step (f:=fun k=>jd.j1 k ((i+1:Nat):Int) true a b) (fun k=>?_) ?_
    · simp only [jd.l0]
      rw [if_pos (by omega),decide_eq_true (by omega)]
    · refine Ev.step (f:=fun k=>if cb x y=0 then jd.l0 k ((i+1+1:Nat):Int) a b else some (cb x y)) (fun k=>?_) ?_
      · simp only [jd.j1,if_true]
        rw [w64 (x:=(a.length:Int) - ((i+1:Nat):Int)) (by omega) (by omega),w64 (x:=(b.length:Int) - ((i+1:Nat):Int)) (by omega) (by omega),if_pos (by omega),if_pos (by omega),if_pos (by omega),if_pos (by omega),ea,eb,w64 (x:=((i+1:Nat):Int)+1) (by omega) (by omega)];rfl
      · show Ev _ (if cb x y=0 then cmpL _ _ else cb x y)
        by_cases hc:cb x y=0
        · simp only [if_pos hc];exact ih (i+1) (by omega)
        · simp only [if_neg hc];exact Ev.now _
theorem specCmp (a b:List (List Int)) (ha:a.length≤1048576) (hb:b.length≤1048576):Ev (fun k=>jd.f k a b) (nameCmpV a b):=by
  have:=specCmp_l0 a b ha hb (min a.length b.length) 0 (by omega);simpa [jd.f,nameCmpV] using this
theorem cmpL_zero (a b:List (List Int)):cmpL a b=0 ↔ a.length=b.length∧(a.zip b).all (fun z=>same z.1 z.2)=true:=by
  induction a generalizing b with
  | nil=>cases b <;> simp [cmpL]
  | cons x a ih =>
    cases b with
    | nil=>simp [cmpL]
    | cons y b =>
      simp only [cmpL];by_cases hc:cb x y=0
      · have hs:=(cb_zero x y).1 hc
        rw [if_pos hc,ih b];simp [hs]
      · have hs:¬ same x y=true:=fun h=>hc ((cb_zero x y).2 h)
        rw [if_neg hc];simp [hc,hs]
theorem zip_reverse_all (a b:List (List Int)) (h:a.length=b.length) (p:List Int × List Int→Bool):(a.reverse.zip b.reverse).all p=(a.zip b).all p:=by
  induction a generalizing b with
  | nil=>simp
  | cons x a ih =>
    cases b with
    | nil=>simp at h
    | cons y b =>
      simp at h
      rw [List.reverse_cons,List.reverse_cons,List.zip_append (by simpa using h),List.all_append,ih b h];simp [Bool.and_comm]
theorem nameCmpV_zero (a b:List (List Int)):(nameCmpV a b == 0)=jg.v qN.eq a b:=by
  unfold nameCmpV jg.v;by_cases h:a.length=b.length
  · rw [decide_eq_true h,Bool.true_and]
    have:=cmpL_zero a.reverse b.reverse;rw [zip_reverse_all a b h] at this;cases hq:(a.zip b).all (fun z=>qN.eq z.1 z.2) with
    | true=>rw [beq_iff_eq,this];exact ⟨by simpa using h,hq⟩
    | false =>
      rw [beq_eq_false_iff_ne];intro he;have h2:=(this.1 he).2;rw [show (a.zip b).all (fun z=>same z.1 z.2)=(a.zip b).all (fun z=>qN.eq z.1 z.2) from rfl,hq] at h2;cases h2
  · rw [decide_eq_false h,Bool.false_and,beq_eq_false_iff_ne]
    intro he;exact h (by simpa using ((cmpL_zero a.reverse b.reverse).1 he).1)
theorem specUnder2 (a b:List (List Int)) (ha:a.length≤1048576) (hb:b.length≤1048576):Ev (fun k=>jF.f k a b) (qN.v a b):=by
  unfold jF.f qN.v;simp only [w64 (x:=(a.length:Int) - (b.length:Int)) (by omega) (by omega)];by_cases h:b.length≤a.length
  · simp only [if_pos (show (a.length:Int) - (b.length:Int) ≥ 0 by omega),if_pos (show 0≤(a.length:Int) - (b.length:Int) by omega),if_pos (show (a.length:Int) - (b.length:Int)≤(a.length:Int) by omega),show ((a.length:Int) - (b.length:Int)).toNat=a.length - b.length by omega]
    rw [decide_eq_true h,Bool.true_and,← nameCmpV_zero];exact Ev.bind (specCmp _ _ (by simp;omega) hb) (Ev.now _)
  · simp only [if_neg (show ¬ (a.length:Int) - (b.length:Int) ≥ 0 by omega)]
    rw [decide_eq_false h,Bool.false_and];exact Ev.now _
theorem compareBytes_eq (a b:List UInt8):Lib.compareBytes a b=if Op.bytesLess a b=true then -1 else if (a == b)=true then 0 else 1:=by
  induction a generalizing b with
  | nil=>cases b <;> simp [Lib.compareBytes,Op.bytesLess]
  | cons x a ih =>
    cases b with
    | nil=>simp [Lib.compareBytes,Op.bytesLess]
    | cons y b =>
      simp only [Lib.compareBytes,Op.bytesLess];by_cases h1:x < y
      · simp [h1]
      · by_cases h2:y < x
        · have h3:x≠y:=by intro e;subst e;exact h1 h2
          simp [h1,h2,h3]
        · have h3:x=y:=by
            have a1:=UInt8.not_lt.1 h1;have a2:=UInt8.not_lt.1 h2;exact UInt8.le_antisymm a2 a1
          subst h3;simp only [h1,if_false,decide_false,Bool.false_or,BEq.rfl,Bool.true_and,ih b];simp
theorem compareV (a b:List Int):jS.f a b=some (cb a b):=by
  unfold jS.f cb yk.v;rw [compareBytes_eq];simp only [Go.ByteArray.toList_eq]
theorem cmpInt (a b:Int):Qg.f a b=some (if a < b then -1 else if a > b then 1 else 0):=by
  unfold Qg.f zx.f;by_cases h1:a < b <;> by_cases h2:a > b <;> simp [h1,h2]
theorem implCmp_l0 (a b:List (List Int)) (ha:a.length≤1048576) (hb:b.length≤1048576) (m:Nat):∀ (i:Nat),min a.length b.length=i+m →
    Ev (fun k=>jy.l0 k ((i+1:Nat):Int) a b) (cmpL (a.reverse.drop i) (b.reverse.drop i)):=by
  induction m with
  | zero =>
    intro i hi
    have hend:cmpL (a.reverse.drop i) (b.reverse.drop i)=if (a.length:Int) < (b.length:Int) then -1 else if (a.length:Int) > (b.length:Int) then 1 else 0:=by
      by_cases h1:a.length=b.length
      · rw [List.drop_of_length_le (by simp;omega),List.drop_of_length_le (by simp;omega),if_neg (by omega),if_neg (by omega)];rfl
      · by_cases h2:a.length < b.length
        · rw [List.drop_of_length_le (l:=a.reverse) (by simp;omega),List.drop_eq_getElem_cons (l:=b.reverse) (by simp;omega),if_pos (by omega)];rfl
        · rw [List.drop_of_length_le (l:=b.reverse) (by simp;omega),List.drop_eq_getElem_cons (l:=a.reverse) (by simp;omega),if_neg (by omega),if_pos (by omega)];rfl
    rw [hend];refine Ev.step (f:=fun _=>some (if (a.length:Int) < (b.length:Int) then -1 else if (a.length:Int) > (b.length:Int) then 1 else 0)) (fun k=>?_) (Ev.now _);simp only [jy.l0];rw [if_neg (by unfold mn;split <;> omega),cmpInt];rfl
  | succ m ih =>
    intro i hi;have h1:i < a.length:=by omega
    have h2:i < b.length:=by omega
    rw [List.drop_eq_getElem_cons (l:=a.reverse) (by simpa using h1),List.drop_eq_getElem_cons (l:=b.reverse) (by simpa using h2)];have ea:=rev_at a i h1;have eb:=rev_at b i h2;generalize hx:a.reverse[i]'(by simpa using h1)=x at ea ⊢;generalize hy:b.reverse[i]'(by simpa using h2)=y at eb ⊢;refine Ev.step (f:=fun k=>if cb x y=0 then jy.l0 k ((i+1+1:Nat):Int) a b else some (cb x y)) (fun k=>?_) ?_
    · simp only [jy.l0]
      rw [if_pos (by unfold mn;split <;> omega),w64 (x:=(a.length:Int) - ((i+1:Nat):Int)) (by omega) (by omega),w64 (x:=(b.length:Int) - ((i+1:Nat):Int)) (by omega) (by omega),if_pos (by omega),if_pos (by omega),if_pos (by omega),if_pos (by omega),ea,eb,w64 (x:=((i+1:Nat):Int)+1) (by omega) (by omega),compareV];rfl
    · show Ev _ (if cb x y=0 then cmpL _ _ else cb x y)
      by_cases hc:cb x y=0
      · simp only [if_pos hc];exact ih (i+1) (by omega)
      · simp only [if_neg hc];exact Ev.now _
theorem implCmp (a b:List (List Int)) (ha:a.length≤1048576) (hb:b.length≤1048576):Ev (fun k=>jy.f k a b) (nameCmpV a b):=by
  have:=implCmp_l0 a b ha hb (min a.length b.length) 0 (by omega);simpa [jy.f,nameCmpV] using this
end Go.Proofs.YtfddbkaoghdfgaaGreat.Pure

namespace Go.Proofs.YtfddbkaoghdfgaaGreat.Pure
open Go Go.RowKit Go.Proofs.YtfddbkaoghdfgaaGreat.Q Go.Proofs.YtfddbkaoghdfgaaGreatW.PrintWords Go.Proofs.YtfddbkaoghdfgaaGreatW.PrintLast Go.Proofs.YtfddbkaoghdfgaaGreatW.PrintMore
set_option linter.unusedVariables false
set_option linter.unusedSimpArgs false

def RawN (l:List (List Int)):Prop:=l.length≤9223372036854775807∧∀ x ∈ l,x.length≤9223372036854775807
def FitN (l:List (List Int)):Prop:=l.length≤1048576∧(∀ x ∈ l,x.length≤1048576)∧lens l≤1048576
theorem FitN.big {l:List (List Int)} (h:FitN l):∀ x ∈ l,x.length≤140737488351232:=fun x hx=>by have:=h.2.1 x hx;omega
theorem lens_fit {l:List (List Int)} (h:l.length+lens l≤1048576):FitN l:=⟨by omega,fun x hx=>by
  obtain ⟨i,hi,rfl⟩:=List.getElem_of_mem hx;have:=len_le_lens l i hi
  omega,by omega⟩
theorem szName' (l:List (List Int)) (left:Int) (hl:RawN l) (h0:0≤left) (h1:left≤1048576) :
    ∃ t,Ev (fun k=>zq.f k l left) t∧(t < 0∨(0≤t∧t≤left∧FitN l)):=by
  obtain ⟨t,ht,hc⟩:=szName l left hl.1 hl.2 h0 h1;refine ⟨t,ht,hc.imp id fun h=>⟨h.2,by omega,lens_fit (by omega)⟩⟩
theorem toName' (l:List (List Int)) (h:FitN l):Ev (fun k=>QC.f k l) l:=toName l (by have:=h.1;omega) h.big
theorem eqName' (l:List (List Int)) (h:FitN l):Ev (fun k=>zb.f k l l) true:=eqName l (by have:=h.1;omega) h.big

theorem szIntS (l:List Int) (left:Int) (hl:l.length≤9223372036854775807) (h0:0≤left) (h1:left≤1048576):∃ t,Ya.f l left=some t∧(t < 0∨(t=left - l.length∧0≤t)):=by
  unfold Ya.f;rw [w64 (by omega) (by omega)];by_cases h:left - (l.length:Int) < 0
  · exact ⟨-1,by rw [if_pos h],Or.inl (by omega)⟩
  · exact ⟨left - l.length,by rw [if_neg h],Or.inr ⟨rfl,by omega⟩⟩
theorem toIntS_l0 (l:List Int) (hl:l.length≤35184372088832) (m:Nat):∀ (i:Nat),l.length=i+m →
    Ev (fun k=>yV.l0 k l (l.take i ++ List.replicate m 0) i) l:=by
  induction m with
  | zero =>
    intro i hi;refine Ev.step (f:=fun _=>some l) (fun k=>?_) (Ev.now _);simp only [yV.l0];rw [if_neg (by omega)];simp [List.take_of_length_le (show l.length≤i by omega)]
  | succ m ih =>
    intro i hi;refine Ev.step (fun k=>?_) (ih (i+1) (by omega));simp only [yV.l0];rw [if_pos (by omega),if_pos (by omega),if_pos (by simp;omega),w64 (by omega) (by omega)];rw [show rd l (i:Int)=l.getD i 0 by simp [rd],show ((i:Int)).toNat=i by omega,set_prefix l i (by omega) m (by omega)];rfl
theorem toIntS (l:List Int) (hl:l.length≤35184372088832):Ev (fun k=>yV.f k l) l:=by
  unfold yV.f;simp only [if_pos (show 0≤(l.length:Int) by omega),if_pos (show ((l.length:Int)).toNat≤35184372088832 by omega)];simpa using toIntS_l0 l hl l.length 0 (by omega)
theorem eqIntS_l0 (l:List Int) (hl:l.length≤140737488351232) (m:Nat):∀ (i:Nat),l.length=i+m →
    Ev (fun k=>yJ.l0 k l l i) true:=by
  induction m with
  | zero =>
    intro i hi;refine Ev.step (f:=fun _=>some true) (fun k=>?_) (Ev.now _);simp only [yJ.l0];rw [if_neg (by omega)]
  | succ m ih =>
    intro i hi;refine Ev.step (fun k=>?_) (ih (i+1) (by omega));simp only [yJ.l0];rw [if_pos (by omega),if_pos (by omega),if_pos (by omega),if_pos trivial,w64 (by omega) (by omega)];rfl
theorem eqIntS (l:List Int) (hl:l.length≤140737488351232):Ev (fun k=>yJ.f k l l) true:=by
  unfold yJ.f;simp only [if_pos];exact eqIntS_l0 l hl l.length 0 (by omega)
theorem szRr (n:List (List Int)) (t ttl addr:Int) (dst:List (List Int)) (text nums:List Int) (left:Int) (hn:RawN n) (hto:RawN dst) (ht:text.length≤9223372036854775807) (hnu:nums.length≤9223372036854775807) (h0:0≤left) (h1:left≤1048576) :
    ∃ u,Ev (fun k=>JJ.f k n t ttl addr dst text nums left) u∧(u < 0∨(0≤u∧u≤left∧FitN n∧FitN dst∧text.length≤1048576∧nums.length≤1048576)):=by
  unfold JJ.f;obtain ⟨a,ha,hca⟩:=szName' n left hn h0 h1;by_cases h:a < 0
  · exact ⟨-1,Ev.bind ha (by simp only [if_pos h];exact Ev.now _),Or.inl (by omega)⟩
  obtain ⟨b,hb,hcb⟩:=szName' dst a hto (by omega) (by omega);by_cases h2:b < 0
  · exact ⟨-1,Ev.bind ha (by simp only [if_neg h];exact Ev.bind hb (by simp only [if_pos h2];exact Ev.now _)),Or.inl (by omega)⟩
  obtain ⟨c,hc,hcc⟩:=szByteS text b ht (by omega) (by omega);by_cases h3:c < 0
  · exact ⟨-1,Ev.bind ha (by simp only [if_neg h];exact Ev.bind hb (by simp only [if_neg h2,hc,Option.bind_some,if_pos h3];exact Ev.now _)),Or.inl (by omega)⟩
  obtain ⟨d,hd,hcd⟩:=szIntS nums c hnu (by omega) (by omega);by_cases h4:d < 0
  · exact ⟨-1,Ev.bind ha (by simp only [if_neg h];exact Ev.bind hb (by simp only [if_neg h2,hc,Option.bind_some,if_neg h3,hd,if_pos h4];exact Ev.now _)),Or.inl (by omega)⟩
  refine ⟨d,Ev.bind ha (by simp only [if_neg h];exact Ev.bind hb (by simp only [if_neg h2,hc,Option.bind_some,if_neg h3,hd,if_neg h4];exact Ev.now _)),Or.inr ?_⟩;have f1:=hca.resolve_left h;have f2:=hcb.resolve_left h2;exact ⟨by omega,by omega,f1.2.2,f2.2.2,by omega,by omega⟩
theorem toRr (n:List (List Int)) (t ttl addr:Int) (dst:List (List Int)) (text nums:List Int) (hn:FitN n) (hto:FitN dst) (ht:text.length≤1048576) (hnu:nums.length≤1048576) :
    Ev (fun k=>Yf.f k n t ttl addr dst text nums) (n,t,ttl,addr,dst,text,nums):=by
  unfold Yf.f;exact Ev.bind (toName' n hn) (Ev.bind (toName' dst hto) (Ev.bind (toByteS text (by omega)) (Ev.bind (toIntS nums (by omega)) (Ev.now _))))
theorem eqRr (n:List (List Int)) (t ttl addr:Int) (dst:List (List Int)) (text nums:List Int) (hn:FitN n) (hto:FitN dst) (ht:text.length≤1048576) (hnu:nums.length≤1048576) :
    Ev (fun k=>Ji.f k n t ttl addr dst text nums n t ttl addr dst text nums) true:=by
  unfold Ji.f;refine Ev.bind (eqName' n hn) ?_;simp only [if_true];refine Ev.bind (eqName' dst hto) ?_;simp only [if_true];refine Ev.bind (eqByteS text (by omega)) ?_;simp only [if_true];refine Ev.bind (eqIntS nums (by omega)) ?_;simp only [if_true];exact Ev.now _
def typeOkV (t:Int):Bool:=t == 1 || t == 2 || t == 5 || t == 6 || t == 12 || t == 16 || t == 49
theorem specTypeOk (t:Int):Qz.f t=some (typeOkV t):=by
  unfold Qz.f typeOkV;by_cases h1:t=1
  · simp [h1]
  by_cases h2:t=2
  · simp [h2]
  by_cases h3:t=5
  · simp [h3]
  by_cases h4:t=6
  · simp [h4]
  by_cases h5:t=12
  · simp [h5]
  by_cases h6:t=16
  · simp [h6]
  by_cases h7:t=49
  · simp [h7]
  simp [h1,h2,h3,h4,h5,h6,h7]
theorem implTypeOk (t:Int) (ht:-9223372036854775808≤t∧t≤9223372036854775807):QY.f t=some (typeOkV t):=by
  unfold QY.f jL.f typeOkV jL.v;rw [if_pos ht];simp only [Option.bind_some,Go.ByteArray.toList_eq];by_cases h1:t=1
  · subst h1;decide
  by_cases h2:t=2
  · subst h2;decide
  by_cases h3:t=5
  · subst h3;decide
  by_cases h4:t=6
  · subst h4;decide
  by_cases h5:t=12
  · subst h5;decide
  by_cases h6:t=16
  · subst h6;decide
  by_cases h7:t=49
  · subst h7;decide
  rw [if_neg h1,if_neg h2,if_neg h3,if_neg h4,if_neg h5,if_neg h6,if_neg h7];simp [h1,h2,h3,h4,h5,h6,h7]
def namedV (t:Int):Bool:=t == 2 || t == 5 || t == 6 || t == 12
def textedV (t:Int):Bool:=t == 16 || t == 49
theorem specNamed (t:Int):Jh.f t=some (namedV t):=by
  unfold Jh.f namedV;by_cases h1:t=2
  · simp [h1]
  by_cases h2:t=5
  · simp [h2]
  by_cases h3:t=6
  · simp [h3]
  simp [h1,h2,h3]
theorem implNamed (t:Int):Zs.f t=some (namedV t):=specNamed t
theorem specTexted (t:Int):Yz.f t=some (textedV t):=by
  unfold Yz.f textedV;by_cases h1:t=16
  · simp [h1]
  simp [h1]
theorem implTexted (t:Int):QH.f t=some (textedV t):=specTexted t
theorem implWithin (a b c:Int):QX.f a b c=some (decide (b≤a∧a≤c)):=by
  unfold QX.f;by_cases h:b≤a <;> simp [h]
theorem implIsWord (a:Int):Zq.f a=some (decide (0≤a∧a≤4294967295)):=by
  unfold Zq.f;rw [implWithin];rfl
def numsV (t:Int) (nums:List Int):Bool:=if t=6 then decide (nums.length=2∧(0≤rd nums 0∧rd nums 0≤4294967295)∧0≤rd nums 1∧rd nums 1≤100000) else decide (nums.length=0)
def addrV (t addr:Int):Bool:=if t=1 then decide (0≤addr∧addr≤4294967295) else decide (addr=0)
def toV (t:Int) (dst:List (List Int)):Bool:=if namedV t=true then qK.v dst else decide (dst.length=0)
def textV (t:Int) (text:List Int):Bool:=if textedV t=true then decide (text.length≤40) else decide (text.length=0)
def rrOkV (n:List (List Int)) (t ttl addr:Int) (dst:List (List Int)) (text nums:List Int):Bool :=
  qK.v n && (typeOkV t && (decide (0≤ttl∧ttl≤100000) && (addrV t addr && (toV t dst && (textV t text && numsV t nums)))))
theorem specData_j2 (n:List (List Int)) (t ttl addr:Int) (dst:List (List Int)) (text nums:List Int):Ev (fun k=>ju.j2 k n t ttl addr dst text nums) (numsV t nums):=by
  refine Ev.step (f:=fun _=>some (numsV t nums)) (fun k=>?_) (Ev.now _);simp only [ju.j2];unfold numsV;by_cases h6:t=6
  · rw [if_pos h6,if_pos h6]
    by_cases h2:nums.length=2
    · rw [if_pos (by omega),if_pos (by omega)]
      by_cases a1:rd nums 0 < 0
      · rw [if_pos a1,decide_eq_false (by omega)]
      rw [if_neg a1];by_cases a2:rd nums 0 ≥ 4294967296
      · rw [if_pos a2,decide_eq_false (by omega)]
      rw [if_neg a2,if_pos (by omega)];by_cases a3:rd nums 1 ≥ 0
      · rw [if_pos a3];congr 1;apply decide_eq_decide.2;constructor <;> intro h <;> omega
      · rw [if_neg a3,decide_eq_false (by omega)]
    · rw [if_neg (by omega),decide_eq_false (by omega)]
  · rw [if_neg h6,if_neg h6]
    congr 1
    rw [Bool.eq_iff_iff,beq_iff_eq,decide_eq_true_iff];omega
theorem specData_j1 (n:List (List Int)) (t ttl addr:Int) (dst:List (List Int)) (text nums:List Int):Ev (fun k=>ju.j1 k n t ttl addr dst text nums) (textV t text && numsV t nums):=by
  refine Ev.step (f:=fun k=>if textV t text=true then ju.j2 k n t ttl addr dst text nums else some false) (fun k=>?_) ?_
  · simp only [ju.j1]
    rw [specTexted,Option.bind_some];unfold textV;cases textedV t
    · simp only [Bool.false_eq_true,if_false,decide_eq_true_iff]
      by_cases h:text.length=0
      · rw [if_neg (by omega),if_pos h]
      · rw [if_pos (by omega),if_neg h]
    · simp only [if_true,decide_eq_true_iff]
      by_cases h:text.length≤40
      · rw [if_neg (by omega),if_pos h]
      · rw [if_pos (by omega),if_neg h]
  · cases textV t text
    · simp only [Bool.false_eq_true,if_false,Bool.false_and];exact Ev.now _
    · simp only [if_true,Bool.true_and];exact specData_j2 ..
theorem specData_j0 (n:List (List Int)) (t ttl addr:Int) (dst:List (List Int)) (text nums:List Int) (hto:FitN dst):Ev (fun k=>ju.j0 k n t ttl addr dst text nums) (toV t dst && (textV t text && numsV t nums)):=by
  refine Ev.step (f:=fun k=>if namedV t=true then ((jk.f k dst).bind fun qQ=>(if qQ=true then (ju.j1 k n t ttl addr dst text nums) else (some false))) else (if (dst.length:Int) > 0 then (some false) else (ju.j1 k n t ttl addr dst text nums))) (fun k=>?_) ?_
  · simp only [ju.j0]
    rw [specNamed,Option.bind_some]
  · unfold toV
    cases namedV t
    · simp only [Bool.false_eq_true,if_false]
      by_cases h:dst.length=0
      · simp only [if_neg (show ¬ (dst.length:Int) > 0 by omega)]
        rw [decide_eq_true h,Bool.true_and];exact specData_j1 ..
      · simp only [if_pos (show (dst.length:Int) > 0 by omega)]
        rw [decide_eq_false h,Bool.false_and];exact Ev.now _
    · simp only [if_true]
      refine Ev.bind (specNameOk dst hto.1 hto.big) ?_;cases qK.v dst
      · simp only [Bool.false_eq_true,if_false,Bool.false_and];exact Ev.now _
      · simp only [if_true,Bool.true_and];exact specData_j1 ..
theorem specData (n:List (List Int)) (t ttl addr:Int) (dst:List (List Int)) (text nums:List Int) (hto:FitN dst):Ev (fun k=>ju.f k n t ttl addr dst text nums) (addrV t addr && (toV t dst && (textV t text && numsV t nums))):=by
  unfold ju.f addrV;by_cases h1:t=1
  · simp only [if_pos h1]
    by_cases a1:addr < 0
    · simp only [if_pos a1];rw [decide_eq_false (by omega),Bool.false_and];exact Ev.now _
    simp only [if_neg a1];by_cases a2:addr ≥ 4294967296
    · simp only [if_pos a2];rw [decide_eq_false (by omega),Bool.false_and];exact Ev.now _
    simp only [if_neg a2];rw [decide_eq_true (show 0≤addr∧addr≤4294967295 by omega),Bool.true_and];exact specData_j0 _ _ _ _ _ _ _ hto
  · simp only [if_neg h1]
    by_cases a1:addr=0
    · simp only [if_pos a1];rw [decide_eq_true a1,Bool.true_and];exact specData_j0 _ _ _ _ _ _ _ hto
    · simp only [if_neg a1];rw [decide_eq_false a1,Bool.false_and];exact Ev.now _
theorem specRrOk (n:List (List Int)) (t ttl addr:Int) (dst:List (List Int)) (text nums:List Int) (hn:FitN n) (hto:FitN dst):Ev (fun k=>QE.f k n t ttl addr dst text nums) (rrOkV n t ttl addr dst text nums):=by
  unfold QE.f rrOkV;refine Ev.bind (specNameOk n hn.1 hn.big) ?_;cases qK.v n
  · simp only [Bool.false_eq_true,if_false,Bool.false_and];exact Ev.now _
  simp only [if_true,Bool.true_and,specTypeOk,Option.bind_some];cases typeOkV t
  · simp only [Bool.false_eq_true,if_false,Bool.false_and];exact Ev.now _
  simp only [if_true,Bool.true_and];by_cases a1:ttl ≥ 0
  · simp only [if_pos a1]
    by_cases a2:ttl≤100000
    · simp only [if_pos a2];rw [decide_eq_true (show 0≤ttl∧ttl≤100000 by omega),Bool.true_and]
      exact Ev.bind (specData _ _ _ _ _ _ _ hto) (Ev.now _)
    · simp only [if_neg a2];rw [decide_eq_false (by omega),Bool.false_and];exact Ev.now _
  · simp only [if_neg a1];rw [decide_eq_false (by omega),Bool.false_and];exact Ev.now _
theorem rrOk_j3 (x3 x4 x5:Bool) (n:List (List Int)) (t ttl addr:Int) (dst:List (List Int)) (text nums:List Int):Ev (fun k=>jf.j3 k x3 x4 x5 n t ttl addr dst text nums) (x3 && (x4 && (x5 && textV t text))):=by
  refine Ev.step (f:=fun _=>some (x3 && (x4 && (x5 && textV t text)))) (fun k=>?_) (Ev.now _);simp only [jf.j3];rw [implTexted,Option.bind_some];unfold textV;by_cases h:text.length=0
  · rw [if_pos (by omega),decide_eq_true h,decide_eq_true (show text.length≤40 by omega)]
    cases x3 <;> cases x4 <;> cases x5 <;> cases textedV t <;> rfl
  · rw [if_neg (by omega),decide_eq_false h,show decide ((text.length:Int)≤40)=decide (text.length≤40) from decide_eq_decide.2 (by omega)]
    cases x3 <;> cases x4 <;> cases x5 <;> cases textedV t <;> simp
theorem rrOk_j2 (x3 x4:Bool) (n:List (List Int)) (t ttl addr:Int) (dst:List (List Int)) (text nums:List Int):Ev (fun k=>jf.j2 k x3 x4 n t ttl addr dst text nums) (x3 && (x4 && (toV t dst && textV t text))):=by
  refine Ev.step (f:=fun k=>jf.j3 k x3 x4 (toV t dst) n t ttl addr dst text nums) (fun k=>?_) (rrOk_j3 ..);simp only [jf.j2];rw [implNamed,Option.bind_some];unfold toV qK.f;by_cases h:dst.length=0
  · have:=List.eq_nil_of_length_eq_zero h
    subst this;cases namedV t <;> simp [qK.v]
  · rw [if_neg (by omega),decide_eq_false h]
    cases namedV t <;> simp
theorem rrOk_j1 (x3:Bool) (n:List (List Int)) (t ttl addr:Int) (dst:List (List Int)) (text nums:List Int):Ev (fun k=>jf.j1 k x3 n t ttl addr dst text nums) (x3 && (addrV t addr && (toV t dst && textV t text))):=by
  refine Ev.step (f:=fun k=>jf.j2 k x3 (addrV t addr) n t ttl addr dst text nums) (fun k=>?_) (rrOk_j2 ..);simp only [jf.j1];rw [implIsWord,Option.bind_some];unfold addrV;by_cases h:addr=0
  · subst h;simp
  · rw [if_neg h,decide_eq_false h]
    by_cases h1:t=1
    · rw [if_pos h1,if_pos h1]
    · rw [if_neg h1,if_neg h1]
theorem rrOk_j0 (x22:Bool) (n:List (List Int)) (t ttl addr:Int) (dst:List (List Int)) (text nums:List Int):Ev (fun k=>jf.j0 k x22 n t ttl addr dst text nums) (!x22 && (numsV t nums && (addrV t addr && (toV t dst && textV t text)))):=by
  cases x22
  · refine Ev.step (f:=fun k=>jf.j1 k (numsV t nums) n t ttl addr dst text nums) (fun k=>?_) ?_
    · simp only [jf.j0,Bool.false_eq_true,if_false]
      simp only [implIsWord,implWithin,Option.bind_some];unfold numsV;by_cases h6:t=6
      · simp only [if_pos h6]
        by_cases h2:nums.length=2
        · rw [if_pos (by omega),if_pos (by omega)]
          by_cases a1:0≤rd nums 0∧rd nums 0≤4294967295
          · simp only [decide_eq_true_iff,if_pos a1]
            rw [if_pos (by omega)];congr 1;apply decide_eq_decide.2;constructor <;> intro h <;> omega
          · simp only [decide_eq_true_iff,if_neg a1]
            rw [decide_eq_false (by omega)]
        · rw [if_neg (by omega),decide_eq_false (by omega)]
      · simp only [if_neg h6]
        congr 1
        rw [Bool.eq_iff_iff,beq_iff_eq,decide_eq_true_iff];omega
    · simpa using rrOk_j1 (numsV t nums) n t ttl addr dst text nums
  · refine Ev.step (f:=fun _=>some false) (fun k=>?_) (Ev.now _)
    simp only [jf.j0,if_true]
theorem implRrOk (n:List (List Int)) (t ttl addr:Int) (dst:List (List Int)) (text nums:List Int) (ht:-9223372036854775808≤t∧t≤9223372036854775807):Ev (fun k=>jf.f k n t ttl addr dst text nums) (rrOkV n t ttl addr dst text nums):=by
  have e:rrOkV n t ttl addr dst text nums=(!(!(qK.v n && (typeOkV t && decide (0≤ttl∧ttl≤100000)))) && (numsV t nums && (addrV t addr && (toV t dst && textV t text)))):=by
    unfold rrOkV;cases qK.v n <;> cases typeOkV t <;> cases decide (0≤ttl∧ttl≤100000) <;> cases numsV t nums <;> cases addrV t addr <;> cases toV t dst <;> cases textV t text <;> rfl
  rw [e];unfold jf.f qK.f;simp only [Option.bind_some,implTypeOk t ht,implWithin];cases qK.v n
  · simp only [Bool.false_eq_true,if_false,Bool.false_and,Bool.not_false];exact rrOk_j0 ..
  cases typeOkV t
  · simp only [Bool.false_eq_true,if_false,if_true,Bool.false_and,Bool.true_and,Bool.not_false];exact rrOk_j0 ..
  simp only [if_true,Bool.true_and];exact rrOk_j0 ..
end Go.Proofs.YtfddbkaoghdfgaaGreat.Pure

namespace Go.Proofs.YtfddbkaoghdfgaaGreat.Pure
open Go Go.RowKit Go.Proofs.YtfddbkaoghdfgaaGreat.Q Go.Proofs.YtfddbkaoghdfgaaGreatW.PrintWords Go.Proofs.YtfddbkaoghdfgaaGreatW.PrintLast Go.Proofs.YtfddbkaoghdfgaaGreatW.PrintMore
set_option linter.unusedVariables false
set_option linter.unusedSimpArgs false

def fourV (a:Int):List Int:=[(a / 16777216) % 256,(a / 65536) % 256,(a / 256) % 256,a % 256]
theorem specPut32 (l:List Int) (a:Int) (hl:l.length≤140737488355000) (ha:0≤a∧a≤4294967295):Jd.f l a=some (l ++ fourV a):=by
  unfold Jd.f;simp only [Option.bind_some,List.length_nil,List.nil_append];rw [if_pos (by omega),if_neg (by omega),if_neg (by omega),if_pos (by simp;omega)];rfl
theorem implFour (a:Int):YK.f a=some (fourV a):=by
  unfold YK.f XE.f fourV;simp only [Option.bind_some,List.length_cons,List.length_nil];rw [if_pos (by omega)];simp only [List.cons_append,List.nil_append];congr 2
  omega
def wireV (l:List (List Int)):List Int:=qU.w l ++ [0]
theorem w_len (l:List (List Int)):(qU.w l).length=l.length+lens l:=by
  induction l with
  | nil=>simp [qU.w,lens]
  | cons x l ih=>simp only [qU.w,List.length_cons,List.length_append,ih,lens,List.map_cons,List.sum_cons];omega
theorem lens_le (l:List (List Int)) (m:Nat) (h:∀ x ∈ l,x.length≤m):lens l≤l.length * m:=by
  induction l with
  | nil=>simp [lens]
  | cons x l ih =>
    have h1:=h x (by simp);have h2:=ih (fun y hy=>h y (by simp [hy]));simp only [lens,List.map_cons,List.sum_cons,List.length_cons,Nat.add_mul,Nat.one_mul] at h2 ⊢;omega
theorem nameOk_len {l:List (List Int)} (h:qK.v l=true):l.length≤6∧∀ x ∈ l,1≤x.length∧x.length≤15∧Bytes x:=by
  unfold qK.v at h;rw [Bool.and_eq_true,decide_eq_true_iff,List.all_eq_true] at h;refine ⟨h.1,fun x hx=>?_⟩;have h2:=h.2 x hx;unfold jG.v at h2;simp only [Bool.and_eq_true,decide_eq_true_iff,List.all_eq_true] at h2;refine ⟨by omega,by omega,fun y hy=>?_⟩;have h3:=h2.2 y hy;unfold jG.byte at h3;simp at h3
  omega
theorem nameOk_w {l:List (List Int)} (h:qK.v l=true):(qU.w l).length≤96:=by
  obtain ⟨h1,h2⟩:=nameOk_len h;have:=lens_le l 15 (fun x hx=>(h2 x hx).2.1);rw [w_len];omega
theorem specPut (b:List Int) (l:List (List Int)) (h:qK.v l=true) (hb:b.length≤140737488355000):qU.f b l=some (b ++ wireV l):=by
  have:=nameOk_w h;unfold qU.f wireV;rw [if_pos (by omega),List.append_assoc]
theorem implWire_l0 (l:List (List Int)) (hl:l.length+lens l≤1048576) (m:Nat):∀ (i:Nat),l.length=i+m →
    Ev (fun k=>zl.l0 k (qU.w (l.take i)) l (l.length:Int) i) (wireV l):=by
  induction m with
  | zero =>
    intro i hi;refine Ev.step (f:=fun _=>some (wireV l)) (fun k=>?_) (Ev.now _);have hw:=qU.w_take l i;rw [w_len l] at hw;simp only [zl.l0];rw [if_neg (by omega),if_pos (by omega),List.take_of_length_le (by omega)];rfl
  | succ m ih =>
    intro i hi;have hil:i < l.length:=by omega
    have hw:=qU.w_take l i;have hw1:=qU.w_take l (i+1);rw [w_len l] at hw hw1
    have e:qU.w (l.take (i+1))=qU.w (l.take i) ++ [(l[i].length:Int) % 256] ++ l[i]:=by
      rw [List.take_succ_eq_append_getElem hil,qU.w_snoc]
    rw [e] at hw1;simp only [List.length_append,List.length_singleton] at hw1;refine Ev.step (fun k=>?_) (ih (i+1) (by omega));simp only [zl.l0,Option.bind_some];rw [if_pos (by omega),if_pos (by omega),if_pos (by omega),if_pos (by omega),rdL_at l i hil,if_pos (by simp only [List.length_append,List.length_singleton];omega),w64 (by omega) (by omega),e];rfl
theorem implWire (l:List (List Int)) (hl:l.length+lens l≤1048576):Ev (fun k=>zl.f k l) (wireV l):=by
  unfold zl.f;simpa [qU.w] using implWire_l0 l hl l.length 0 (by omega)
theorem nameOk_sum {l:List (List Int)} (h:qK.v l=true):l.length+lens l≤96:=by
  have:=nameOk_w h;rwa [w_len] at this
def dataV (t addr:Int) (dst:List (List Int)) (text nums:List Int):List Int :=
  if t=1 then fourV addr else if t=6 then wireV dst ++ fourV (rd nums 0) ++ fourV (rd nums 1) else if namedV t=true then wireV dst else (text.length:Int) % 256 :: text
theorem rrOk_parts {n:List (List Int)} {t ttl addr:Int} {dst:List (List Int)} {text nums:List Int} (h:rrOkV n t ttl addr dst text nums=true) :
    qK.v n=true∧typeOkV t=true∧(0≤ttl∧ttl≤100000)∧addrV t addr=true∧toV t dst=true∧textV t text=true∧numsV t nums=true:=by
  unfold rrOkV at h;simp only [Bool.and_eq_true,decide_eq_true_iff] at h;exact h
theorem specL3put {n:List (List Int)} {t ttl addr:Int} {dst:List (List Int)} {text nums:List Int} (h:rrOkV n t ttl addr dst text nums=true):Qi.f n t ttl addr dst text nums=some (dataV t addr dst text nums):=by
  obtain ⟨_,_,_,ha,hd,ht,hn⟩:=rrOk_parts h;unfold Qi.f dataV;by_cases h1:t=1
  · rw [if_pos h1,if_pos h1]
    unfold addrV at ha;rw [if_pos h1,decide_eq_true_iff] at ha;rw [specPut32 [] addr (by simp) ha];rfl
  rw [if_neg h1,if_neg h1];by_cases h6:t=6
  · rw [if_pos h6,if_pos h6]
    unfold toV namedV at hd;rw [if_pos (by simp [h6])] at hd;unfold numsV at hn;rw [if_pos h6,decide_eq_true_iff] at hn;have hw:=nameOk_w hd;rw [specPut [] dst hd (by simp),Option.bind_some,if_pos (by omega),List.nil_append,specPut32 _ _ (by simp only [wireV,List.length_append,List.length_singleton];omega) hn.2.1,Option.bind_some,if_pos (by omega),specPut32 _ _ (by simp only [wireV,fourV,List.length_append,List.length_cons,List.length_nil];omega) (by omega)];rfl
  rw [if_neg h6,if_neg h6,specNamed,Option.bind_some];by_cases hm:namedV t=true
  · rw [if_pos hm,if_pos hm]
    unfold toV at hd;rw [if_pos hm] at hd;rw [specPut [] dst hd (by simp)];rfl
  · rw [if_neg hm,if_neg hm]
    have hl:text.length≤40:=by
      unfold textV at ht;split at ht <;> rw [decide_eq_true_iff] at ht <;> omega
    rw [Option.bind_some,if_pos (by simp;omega)];rfl
theorem implData_none (b:List Int):Ev (fun k=>jT.l0 k b [] 0 0) b:=by
  refine Ev.step (f:=fun _=>some b) (fun k=>?_) (Ev.now _);simp only [jT.l0];rw [if_neg (by omega)]
theorem implData_two (b nums:List Int) (h:nums.length=2) (hb:b.length≤140737488355000):Ev (fun k=>jT.l0 k b nums (nums.length:Int) 0) (b ++ fourV (rd nums 0) ++ fourV (rd nums 1)):=by
  rw [show ((nums.length:Nat):Int)=2 by omega];have h0:w64 (x:=0+1) (by omega) (by omega)=w64 (x:=0+1) (by omega) (by omega):=rfl;refine Ev.step (f:=fun k=>jT.l0 k (b ++ fourV (rd nums 0)) nums 2 1) (fun k=>?_) ?_
  · simp only [jT.l0]
    rw [if_pos (by omega),if_pos (by omega),if_pos (by omega),implFour,Option.bind_some,if_pos (by simp only [fourV,List.length_cons,List.length_nil];omega),w64 (by omega) (by omega)];rfl
  refine Ev.step (f:=fun k=>jT.l0 k (b ++ fourV (rd nums 0) ++ fourV (rd nums 1)) nums 2 2) (fun k=>?_) ?_
  · simp only [jT.l0]
    rw [if_pos (by omega),if_pos (by omega),if_pos (by omega),implFour,Option.bind_some,if_pos (by simp only [fourV,List.length_append,List.length_cons,List.length_nil];omega),w64 (by omega) (by omega)];rfl
  refine Ev.step (f:=fun _=>some (b ++ fourV (rd nums 0) ++ fourV (rd nums 1))) (fun k=>?_) (Ev.now _);simp only [jT.l0];rw [if_neg (by omega)]
theorem implData {n:List (List Int)} {t ttl addr:Int} {dst:List (List Int)} {text nums:List Int} (h:rrOkV n t ttl addr dst text nums=true):Ev (fun k=>jT.f k n t ttl addr dst text nums) (dataV t addr dst text nums):=by
  obtain ⟨_,_,_,ha,hd,ht,hn⟩:=rrOk_parts h;unfold jT.f dataV;by_cases h1:t=1
  · simp only [if_pos h1,implFour,Option.bind_some]
    exact Ev.now _
  simp only [if_neg h1,implNamed,Option.bind_some];by_cases hm:namedV t=true
  · simp only [if_pos hm]
    unfold toV at hd;rw [if_pos hm] at hd;have hs:=nameOk_sum hd;have hw:=nameOk_w hd;refine Ev.bind (implWire dst (by omega)) ?_;unfold numsV at hn;by_cases h6:t=6
    · simp only [if_pos h6]
      rw [if_pos h6,decide_eq_true_iff] at hn;exact implData_two _ nums hn.1 (by simp only [wireV,List.length_append,List.length_singleton];omega)
    · simp only [if_neg h6]
      rw [if_neg h6,decide_eq_true_iff] at hn;have:=List.eq_nil_of_length_eq_zero hn;subst this;exact implData_none _
  · have h6:¬ t=6:=fun e=>hm (by simp [namedV,e])
    simp only [if_neg hm,if_neg h6]
    have hl:text.length≤40:=by
      unfold textV at ht;split at ht <;> rw [decide_eq_true_iff] at ht <;> omega
    simp only [if_pos (show ([(text.length:Int) % 256]:List Int).length+text.length < 140737488355328 by simp;omega)];exact Ev.now _
def numV (a b:Int):Int:=if a < b then -1 else if a > b then 1 else 0
def rrCmpV (n:List (List Int)) (t addr:Int) (dst:List (List Int)) (text nums:List Int) (n':List (List Int)) (t' addr':Int) (dst':List (List Int)) (text' nums':List Int):Int :=
  if nameCmpV n n'=0 then (if numV t t'=0 then cb (dataV t addr dst text nums) (dataV t' addr' dst' text' nums') else numV t t') else nameCmpV n n'
theorem orInt (a b c:Int):Ev (fun k=>zR.f k [a,b,c]) (if a=0 then (if b=0 then c else b) else a):=by
  unfold zR.f;simp only [List.length_cons,List.length_nil];by_cases h1:a=0
  · rw [if_pos h1]
    refine Ev.step (f:=fun k=>zR.l0 k 0 [a,b,c] 3 1) (fun k=>?_) ?_
    · simp only [zR.l0]
      rw [if_pos (by omega),if_pos (by omega),if_pos (by simp),if_pos (by simpa [rd] using h1),w64 (by omega) (by omega)];rfl
    by_cases h2:b=0
    · rw [if_pos h2]
      refine Ev.step (f:=fun k=>zR.l0 k 0 [a,b,c] 3 2) (fun k=>?_) ?_
      · simp only [zR.l0]
        rw [if_pos (by omega),if_pos (by omega),if_pos (by simp),if_pos (by simpa [rd] using h2),w64 (by omega) (by omega)];rfl
      by_cases h3:c=0
      · refine Ev.step (f:=fun k=>zR.l0 k 0 [a,b,c] 3 3) (fun k=>?_) ?_
        · simp only [zR.l0]
          rw [if_pos (by omega),if_pos (by omega),if_pos (by simp),if_pos (by simpa [rd] using h3),w64 (by omega) (by omega)];rfl
        refine Ev.step (f:=fun _=>some c) (fun k=>?_) (Ev.now _);simp only [zR.l0];rw [if_neg (by omega),h3]
      · refine Ev.step (f:=fun _=>some c) (fun k=>?_) (Ev.now _)
        simp only [zR.l0];rw [if_pos (by omega),if_pos (by omega),if_pos (by simp),if_neg (by simpa [rd] using h3)];rfl
    · rw [if_neg h2]
      refine Ev.step (f:=fun _=>some b) (fun k=>?_) (Ev.now _);simp only [zR.l0];rw [if_pos (by omega),if_pos (by omega),if_pos (by simp),if_neg (by simpa [rd] using h2)];rfl
  · rw [if_neg h1]
    refine Ev.step (f:=fun _=>some a) (fun k=>?_) (Ev.now _);simp only [zR.l0];rw [if_pos (by omega),if_pos (by omega),if_pos (by simp),if_neg (by simpa [rd] using h1)];rfl
theorem specL3cmp {n:List (List Int)} {t ttl addr:Int} {dst:List (List Int)} {text nums:List Int} {n':List (List Int)} {t' ttl' addr':Int} {dst':List (List Int)} {text' nums':List Int} (h:rrOkV n t ttl addr dst text nums=true) (h':rrOkV n' t' ttl' addr' dst' text' nums'=true) :
    Ev (fun k=>zO.f k n t ttl addr dst text nums n' t' ttl' addr' dst' text' nums') (rrCmpV n t addr dst text nums n' t' addr' dst' text' nums'):=by
  have l1:=(nameOk_len (rrOk_parts h).1).1;have l2:=(nameOk_len (rrOk_parts h').1).1
  have hj:∀ x,Ev (fun k=>zO.j0 k x n t ttl addr dst text nums n' t' ttl' addr' dst' text' nums') (if x=0 then cb (dataV t addr dst text nums) (dataV t' addr' dst' text' nums') else x):=by
    intro x;refine Ev.step (f:=fun _=>some (if x=0 then cb (dataV t addr dst text nums) (dataV t' addr' dst' text' nums') else x)) (fun k=>?_) (Ev.now _);simp only [zO.j0];by_cases hx:x=0
    · rw [if_pos hx,if_pos hx,specL3put h,Option.bind_some,specL3put h']
      rfl
    · rw [if_neg hx,if_neg hx]
  unfold zO.f rrCmpV;refine Ev.bind (specCmp n n' (by omega) (by omega)) ?_;by_cases h0:nameCmpV n n'=0
  · simp only [if_pos h0]
    have e:Xu.f t t'=some (numV t t'):=by
      unfold Xu.f numV;split
      · rfl
      · split <;> rfl
    simp only [e,Option.bind_some];exact hj _
  · simp only [if_neg h0]
    have:=hj (nameCmpV n n');rwa [if_neg h0] at this
theorem implRrCompare {n:List (List Int)} {t ttl addr:Int} {dst:List (List Int)} {text nums:List Int} {n':List (List Int)} {t' ttl' addr':Int} {dst':List (List Int)} {text' nums':List Int} (h:rrOkV n t ttl addr dst text nums=true) (h':rrOkV n' t' ttl' addr' dst' text' nums'=true) :
    Ev (fun k=>jw.f k n t ttl addr dst text nums n' t' ttl' addr' dst' text' nums') (rrCmpV n t addr dst text nums n' t' addr' dst' text' nums'):=by
  have l1:=(nameOk_len (rrOk_parts h).1).1;have l2:=(nameOk_len (rrOk_parts h').1).1;unfold jw.f;refine Ev.bind (implCmp n n' (by omega) (by omega)) ?_;simp only [cmpInt,Option.bind_some];refine Ev.bind (implData h) (Ev.bind (implData h') ?_);simp only [compareV,Option.bind_some];exact Ev.bind (orInt _ _ _) (Ev.now _)
end Go.Proofs.YtfddbkaoghdfgaaGreat.Pure

namespace Go.Proofs.YtfddbkaoghdfgaaGreat.Pure
open Go Go.RowKit Go.Proofs.YtfddbkaoghdfgaaGreat.Q Go.Proofs.YtfddbkaoghdfgaaGreatW.PrintWords Go.Proofs.YtfddbkaoghdfgaaGreatW.PrintLast Go.Proofs.YtfddbkaoghdfgaaGreatW.PrintMore
set_option linter.unusedVariables false
set_option linter.unusedSimpArgs false
abbrev RL:=ZZ
abbrev RI:=qY
def cvR (x:RL):RI:=⟨⟨x.f0.f0⟩,x.f1,x.f2,x.f3,⟨x.f4.f0⟩,x.f5,x.f6⟩
theorem rdRL (l:List RL) (i:Nat) (h:i < l.length):jc l (i:Int)=l[i]:=by simp [jc,List.getD_eq_getElem?_getD,h]
theorem rdRI (l:List RI) (i:Nat) (h:i < l.length):qa l (i:Int)=l[i]:=by simp [qa,List.getD_eq_getElem?_getD,h]
def RawR (x:RL):Prop:=RawN x.f0.f0∧RawN x.f4.f0∧x.f5.length≤9223372036854775807∧x.f6.length≤9223372036854775807 ∧ -9223372036854775808≤x.f1∧x.f1≤9223372036854775807
def FitR (x:RI):Prop:=FitN x.f0.f0∧FitN x.f4.f0∧x.f5.length≤1048576∧x.f6.length≤1048576
def I64R (x:RI):Prop:=-9223372036854775808≤x.f1∧x.f1≤9223372036854775807
theorem szRrS_l0 (l:List RL) (hl:l.length≤1048576) (he:∀ x ∈ l,RawR x) (m:Nat):∀ (i:Nat) (left:Int),l.length=i+m→0≤left→left≤1048576 →
    ∃ u,Ev (fun k=>yB.l0 k l left i) u∧(u < 0∨(0≤u∧u≤left∧∀ x ∈ l.drop i,FitR (cvR x))):=by
  induction m with
  | zero =>
    intro i left hi h0 h1;refine ⟨left,Ev.step (f:=fun _=>some left) (fun k=>?_) (Ev.now _),Or.inr ⟨h0,by omega,fun x hx=>by rw [List.drop_of_length_le (by omega)] at hx;cases hx⟩⟩;simp only [yB.l0];rw [if_neg (by omega)]
  | succ m ih =>
    intro i left hi h0 h1;have hil:i < l.length:=by omega
    obtain ⟨r0,r4,r5,r6,_⟩:=he _ (List.getElem_mem hil);obtain ⟨t,ht,hc⟩:=szRr l[i].f0.f0 l[i].f1 l[i].f2 l[i].f3 l[i].f4.f0 l[i].f5 l[i].f6 left r0 r4 r5 r6 h0 h1;by_cases hneg:t < 0
    · refine ⟨-1,Ev.step (f:=fun k=>(JJ.f k l[i].f0.f0 l[i].f1 l[i].f2 l[i].f3 l[i].f4.f0 l[i].f5 l[i].f6 left).bind fun qS=>if qS < 0 then some (-1) else yB.l0 k l qS (wrap64 ((i:Int)+1))) (fun k=>?_) (Ev.bind ht (by simp only [if_pos hneg];exact Ev.now _)),Or.inl (by omega)⟩
      simp only [yB.l0];rw [if_pos (by omega),if_pos (by omega),rdRL l i hil]
    · obtain ⟨h2,h3,hf⟩:=hc.resolve_left hneg
      obtain ⟨u,hu,hcu⟩:=ih (i+1) t (by omega) (by omega) (by omega);refine ⟨u,Ev.step (f:=fun k=>(JJ.f k l[i].f0.f0 l[i].f1 l[i].f2 l[i].f3 l[i].f4.f0 l[i].f5 l[i].f6 left).bind fun qS=>if qS < 0 then some (-1) else yB.l0 k l qS (wrap64 ((i:Int)+1))) (fun k=>?_) (Ev.bind ht ?_),?_⟩
      · simp only [yB.l0]
        rw [if_pos (by omega),if_pos (by omega),rdRL l i hil]
      · simp only [if_neg hneg]
        rw [w64 (x:=(i:Int)+1) (by omega) (by omega)];exact hu
      · rcases hcu with h | ⟨h,h',hd⟩
        · exact Or.inl h
        · refine Or.inr ⟨h,by omega,fun x hx=>?_⟩
          rw [List.drop_eq_getElem_cons hil] at hx;rcases List.mem_cons.1 hx with rfl | hx
          · exact hf
          · exact hd x hx
theorem szRrS (l:List RL) (left:Int) (hl:l.length≤9223372036854775807) (he:∀ x ∈ l,RawR x) (h0:0≤left) (h1:left≤1048576) :
    ∃ u,Ev (fun k=>yB.f k l left) u∧(u < 0∨(0≤u∧u≤left∧l.length≤1048576∧∀ x ∈ l,FitR (cvR x))):=by
  unfold yB.f;rw [w64 (by omega) (by omega)];by_cases h:left - (l.length:Int) < 0
  · exact ⟨-1,by simp only [if_pos h];exact Ev.now _,Or.inl (by omega)⟩
  · obtain ⟨u,hu,hc⟩:=szRrS_l0 l (by omega) he l.length 0 (left - l.length) (by omega) (by omega) (by omega)
    refine ⟨u,by simp only [if_neg h];exact hu,?_⟩;rcases hc with h2 | ⟨h2,h3,h4⟩
    · exact Or.inl h2
    · exact Or.inr ⟨h2,by omega,by omega,by rw [List.drop_zero] at h4;exact h4⟩
theorem setR_prefix {α:Type} (z:α) (l:List α) (i:Nat) (h:i < l.length) (m:Nat) :
    (l.take i ++ List.replicate (m+1) z).set i l[i]=l.take (i+1) ++ List.replicate m z:=by
  rw [List.set_append_right _ _ (by simp;omega)];simp only [List.length_take,Nat.min_eq_left (Nat.le_of_lt h),Nat.sub_self,List.replicate_succ,List.set_cons_zero];rw [List.take_succ_eq_append_getElem h,List.append_assoc];simp
theorem toRrS_l0 (l:List RL) (hl:l.length≤1048576) (he:∀ x ∈ l,FitR (cvR x)) (m:Nat):∀ (i:Nat),l.length=i+m →
    Ev (fun k=>yP.l0 k l ((l.map cvR).take i ++ List.replicate m QR) i) (l.map cvR):=by
  induction m with
  | zero =>
    intro i hi;refine Ev.step (f:=fun _=>some (l.map cvR)) (fun k=>?_) (Ev.now _);simp only [yP.l0];rw [if_neg (by omega),List.take_of_length_le (by simp;omega)];simp
  | succ m ih =>
    intro i hi;have hil:i < l.length:=by omega
    have hil':i < (l.map cvR).length:=by simpa using hil
    obtain ⟨f0,f4,f5,f6⟩:=he _ (List.getElem_mem hil);have ht:=toRr l[i].f0.f0 l[i].f1 l[i].f2 l[i].f3 l[i].f4.f0 l[i].f5 l[i].f6 f0 f4 f5 f6;have hs:=setR_prefix QR (l.map cvR) i hil' m;have hlen:((l.map cvR).take i ++ List.replicate (m+1) QR).length=l.length:=by simp;omega
    generalize (l.map cvR).take i ++ List.replicate (m+1) QR=L at hs hlen;refine Ev.step (f:=fun k=>(Yf.f k l[i].f0.f0 l[i].f1 l[i].f2 l[i].f3 l[i].f4.f0 l[i].f5 l[i].f6).bind fun b=>if (i:Int) < (L.length:Int) then yP.l0 k l (L.set ((i:Int)).toNat ⟨⟨b.1⟩,b.2.1,b.2.2.1,b.2.2.2.1,⟨b.2.2.2.2.1⟩,b.2.2.2.2.2.1,b.2.2.2.2.2.2⟩) (wrap64 ((i:Int)+1)) else none) (fun k=>?_) (Ev.bind ht ?_)
    · simp only [yP.l0]
      rw [if_pos (by omega),if_pos (by omega),rdRL l i hil]
    · simp only [if_pos (show (i:Int) < (L.length:Int) by omega),show ((i:Int)).toNat=i by omega,w64 (x:=(i:Int)+1) (by omega) (by omega)]
      have e:(⟨⟨l[i].f0.f0⟩,l[i].f1,l[i].f2,l[i].f3,⟨l[i].f4.f0⟩,l[i].f5,l[i].f6⟩:RI)=(l.map cvR)[i]:=by simp [cvR]
      rw [e,hs];exact ih (i+1) (by omega)
theorem toRrS (l:List RL) (hl:l.length≤1048576) (he:∀ x ∈ l,FitR (cvR x)):Ev (fun k=>yP.f k l) (l.map cvR):=by
  have h:=toRrS_l0 l hl he l.length 0 (by omega);unfold yP.f;simp only [if_pos (show 0≤(l.length:Int) by omega),show ((l.length:Int)).toNat=l.length by omega,if_pos (show l.length≤2345624805922 by omega)];simpa using h
theorem eqRrS_l0 (l:List RI) (hl:l.length≤1048576) (he:∀ x ∈ l,FitR x) (m:Nat):∀ (i:Nat),l.length=i+m→Ev (fun k=>jW.l0 k l l i) true:=by
  induction m with
  | zero =>
    intro i hi;refine Ev.step (f:=fun _=>some true) (fun k=>?_) (Ev.now _);simp only [jW.l0];rw [if_neg (by omega)]
  | succ m ih =>
    intro i hi;have hil:i < l.length:=by omega
    obtain ⟨f0,f4,f5,f6⟩:=he _ (List.getElem_mem hil);have ht:=eqRr l[i].f0.f0 l[i].f1 l[i].f2 l[i].f3 l[i].f4.f0 l[i].f5 l[i].f6 f0 f4 f5 f6;refine Ev.step (f:=fun k=>(Ji.f k l[i].f0.f0 l[i].f1 l[i].f2 l[i].f3 l[i].f4.f0 l[i].f5 l[i].f6 l[i].f0.f0 l[i].f1 l[i].f2 l[i].f3 l[i].f4.f0 l[i].f5 l[i].f6).bind fun b=>if b=true then jW.l0 k l l (wrap64 ((i:Int)+1)) else some false) (fun k=>?_) (Ev.bind ht ?_)
    · simp only [jW.l0]
      rw [if_pos (by omega),if_pos (by omega),if_pos (by omega),rdRI l i hil]
    · simp only [if_true,w64 (x:=(i:Int)+1) (by omega) (by omega)]
      exact ih (i+1) (by omega)
theorem eqRrS (l:List RI) (hl:l.length≤1048576) (he:∀ x ∈ l,FitR x):Ev (fun k=>jW.f k l l) true:=by
  unfold jW.f;simp only [if_true];exact eqRrS_l0 l hl he l.length 0 (by omega)
def okR (x:RI):Bool:=rrOkV x.f0.f0 x.f1 x.f2 x.f3 x.f4.f0 x.f5 x.f6
theorem idx_all (q:Nat→RI→Option Bool) (v:RI→Bool):∀ (l:List RI) (j:Nat),(∀ x ∈ l,Ev (fun k=>q k x) (v x))→∃ r:Int,Ev (fun k=>QP.idx (fun x=>(q k x).map (fun b=>!b)) l j) r∧(!decide (0≤r))=l.all v
  | [],j,_=>⟨-1,Ev.here (fun _=>rfl),by simp⟩
  | x :: l,j,h=>by
    have hx:=h x List.mem_cons_self;obtain ⟨r,hr,e⟩:=idx_all q v l (j+1) (fun y hy=>h y (List.mem_cons_of_mem _ hy));simp only [QP.idx,Option.bind_map];cases hv:v x with
    | true =>
      rw [hv] at hx;refine ⟨r,Ev.bind hx ?_,by rw [e];simp [hv]⟩;simpa using hr
    | false =>
      rw [hv] at hx;refine ⟨j,Ev.bind hx ?_,by simp [hv]⟩;simpa using Ev.now _
theorem allOk (L:List RI) (ht:∀ x ∈ L,I64R x):Ev (fun k=>Qk.f k L) (L.all okR):=by
  obtain ⟨r,hr,e⟩:=idx_all (fun k x=>Qk.q k x) okR L 0 (fun x hx=>implRrOk _ _ _ _ _ _ _ (ht x hx));unfold Qk.f;rw [← e];obtain ⟨n,hn⟩:=hr;exact ⟨n,fun k hk=>by have h:=hn k hk;have h:QP.idx (fun x=>(Qk.q k x).map (fun b=>!b)) L 0=some r:=h;show Option.map (fun r=>!decide (0≤r)) (QP.idx (fun x=>(Qk.q k x).map (fun b=>!b)) L 0)=_;rw [h];rfl⟩
end Go.Proofs.YtfddbkaoghdfgaaGreat.Pure

namespace Go.Proofs.YtfddbkaoghdfgaaGreat.Pure
open Go Go.RowKit Go.Proofs.YtfddbkaoghdfgaaGreat.Q Go.Proofs.YtfddbkaoghdfgaaGreatW.PrintWords Go.Proofs.YtfddbkaoghdfgaaGreatW.PrintLast Go.Proofs.YtfddbkaoghdfgaaGreatW.PrintMore
set_option linter.unusedVariables false
set_option linter.unusedSimpArgs false
theorem szZone (o:List (List Int)) (l:List RL) (left:Int) (ho:RawN o) (hl:l.length≤9223372036854775807) (he:∀ x ∈ l,RawR x) (h0:0≤left) (h1:left≤1048576) :
    ∃ u,Ev (fun k=>Zo.f k o l left) u∧(u < 0∨(0≤u∧u≤left∧FitN o∧l.length≤1048576∧∀ x ∈ l,FitR (cvR x))):=by
  unfold Zo.f;obtain ⟨a,ha,hca⟩:=szName' o left ho h0 h1;by_cases h:a < 0
  · exact ⟨-1,Ev.bind ha (by simp only [if_pos h];exact Ev.now _),Or.inl (by omega)⟩
  have f1:=hca.resolve_left h;obtain ⟨b,hb,hcb⟩:=szRrS l a hl he (by omega) (by omega);by_cases h2:b < 0
  · exact ⟨-1,Ev.bind ha (by simp only [if_neg h];exact Ev.bind hb (by simp only [if_pos h2];exact Ev.now _)),Or.inl (by omega)⟩
  obtain ⟨h3,h4,h5,h6⟩:=hcb.resolve_left h2;exact ⟨b,Ev.bind ha (by simp only [if_neg h];exact Ev.bind hb (by simp only [if_neg h2];exact Ev.now _)),Or.inr ⟨h3,by omega,f1.2.2,h5,h6⟩⟩
theorem toZone (o:List (List Int)) (l:List RL) (ho:FitN o) (hl:l.length≤1048576) (he:∀ x ∈ l,FitR (cvR x)):Ev (fun k=>Qa.f k o l) (o,l.map cvR):=by
  unfold Qa.f;exact Ev.bind (toName' o ho) (Ev.bind (toRrS l hl he) (Ev.now _))
theorem eqZone (o:List (List Int)) (l:List RI) (ho:FitN o) (hl:l.length≤1048576) (he:∀ x ∈ l,FitR x):Ev (fun k=>JN.f k o l o l) true:=by
  unfold JN.f;refine Ev.bind (eqName' o ho) ?_;simp only [if_true];refine Ev.bind (eqRrS l hl he) ?_;simp only [if_true];exact Ev.now _
def cmpR (a b:RI):Int:=rrCmpV a.f0.f0 a.f1 a.f3 a.f4.f0 a.f5 a.f6 b.f0.f0 b.f1 b.f3 b.f4.f0 b.f5 b.f6
def sameN (a b:List (List Int)):Bool:=nameCmpV a b == 0
theorem sameN_refl (a:List (List Int)):sameN a a=true:=by
  unfold sameN;rw [beq_iff_eq,nameCmpV,cmpL_zero];refine ⟨rfl,?_⟩;rw [List.all_eq_true];intro z hz
  have:z.1=z.2:=by
    obtain ⟨j,hj,rfl⟩:=List.getElem_of_mem hz;simp
  rw [this];simp [same]
def lone (L:List RI) (n:List (List Int)) (i:Nat):Nat→Nat→Bool
  | 0,_=>true
  | m+1,j=>(j == i || !sameN (L.getD j QR).f0.f0 n) && lone L n i m (j+1)
def good (o:List (List Int)) (L:List RI) (i:Nat) (x:RI):Bool :=
  okR x && (qN.v x.f0.f0 o && ((i == 0 || decide (cmpR (L.getD (i - 1) QR) x < 0)) && ((x.f1 != 5 || lone L x.f0.f0 i L.length 0) && (x.f1 != 6 || sameN x.f0.f0 o))))
def run (o:List (List Int)) (L:List RI):Nat→Nat→Int→Bool
  | 0,_,s=>s == 1
  | m+1,i,s=>good o L i (L.getD i QR) && run o L m (i+1) (if (L.getD i QR).f1=6 then s+1 else s)
def zoneOkV (o:List (List Int)) (L:List RI):Bool:=qK.v o && (decide (L.length≤60) && run o L L.length 0 0)
theorem getD_at (L:List RI) (i:Nat) (h:i < L.length):L.getD i QR=L[i]:=by simp [List.getD_eq_getElem?_getD,h]
theorem alone_l0 (L:List RI) (hl:L.length≤1048576) (he:∀ x ∈ L,FitR x) (i:Nat) (hi:i < L.length) (m:Nat):∀ (j:Nat),L.length=j+m →
    Ev (fun k=>ja.l0 k L i j) (lone L L[i].f0.f0 i m j):=by
  induction m with
  | zero =>
    intro j hj;refine Ev.step (f:=fun _=>some true) (fun k=>?_) (Ev.now _);simp only [ja.l0];rw [if_neg (by omega)]
  | succ m ih =>
    intro j hj;have hjl:j < L.length:=by omega
    have hj1:∀ b:Bool,Ev (fun k=>ja.j1 k L i j b) (!b && lone L L[i].f0.f0 i m (j+1)):=by
      intro b;cases b with
      | true =>
        refine Ev.step (f:=fun _=>some false) (fun k=>?_) (Ev.now _);simp only [ja.j1,if_true]
      | false =>
        refine Ev.step (f:=fun k=>ja.l0 k L i ((j+1:Nat):Int)) (fun k=>?_) (by simpa using ih (j+1) (by omega));simp only [ja.j1];rw [if_neg (by decide),w64 (x:=(j:Int)+1) (by omega) (by omega)];rfl
    simp only [lone,getD_at L j hjl];by_cases hij:j=i
    · subst hij
      refine Ev.step (f:=fun k=>ja.j1 k L j j false) (fun k=>?_) ?_
      · rw [ja.l0,if_pos (by omega),if_pos rfl]
      · simpa using hj1 false
    · refine Ev.step (f:=fun k=>(jd.f k L[j].f0.f0 L[i].f0.f0).bind fun t=>ja.j1 k L i j (t == 0)) (fun k=>?_) ?_
      · simp only [ja.l0]
        rw [if_pos (by omega),if_neg (by omega),if_pos (by omega),if_pos (by omega),if_pos (by omega),rdRI L j hjl,rdRI L i hi]
      · refine Ev.bind (specCmp _ _ (he _ (List.getElem_mem hjl)).1.1 (he _ (List.getElem_mem hi)).1.1) ?_
        have:=hj1 (nameCmpV L[j].f0.f0 L[i].f0.f0 == 0);rw [show (j == i)=false from by simpa using hij,Bool.false_or];exact this
theorem alone (L:List RI) (hl:L.length≤1048576) (he:∀ x ∈ L,FitR x) (i:Nat) (hi:i < L.length):Ev (fun k=>ja.f k L i) (L[i].f1 != 5 || lone L L[i].f0.f0 i L.length 0):=by
  unfold ja.f;simp only [if_pos (show 0≤(i:Int) by omega),if_pos (show (i:Int) < (L.length:Int) by omega),rdRI L i hi];by_cases h:L[i].f1=5
  · simp only [if_pos h]
    rw [show (L[i].f1 != 5)=false from by simpa using h,Bool.false_or];exact alone_l0 L hl he i hi L.length 0 (by omega)
  · simp only [if_neg h]
    rw [show (L[i].f1 != 5)=true from by simpa using h,Bool.true_or];exact Ev.now _
theorem specZone_j2 (o:List (List Int)) (L:List RI) (ho:FitN o) (i:Nat) (hi:i < L.length) (hb:i≤60) (s:Int) (h0:0≤s) (h1:s≤i) (he:∀ x ∈ L,FitR x) (b c:Bool)
    (ih:∀ s:Int,0≤s→s≤(i+1:Nat)→Ev (fun k=>qA.l0 k s ((i+1:Nat):Int) o L) (if c=true then run o L (L.length - (i+1)) (i+1) s else false)) :
    Ev (fun k=>qA.j2 k s i b o L L[i].f0.f0 L[i].f1 L[i].f2 L[i].f3 L[i].f4.f0 L[i].f5 L[i].f6) (!b && ((L[i].f1 != 6 || sameN L[i].f0.f0 o) && (if c=true then run o L (L.length - (i+1)) (i+1) (if L[i].f1=6 then s+1 else s) else false))):=by
  cases b with
  | true =>
    refine Ev.step (f:=fun _=>some false) (fun k=>?_) (Ev.now _);simp only [qA.j2,if_true]
  | false =>
    simp only [Bool.not_false,Bool.true_and];by_cases h6:L[i].f1=6
    · rw [show (L[i].f1 != 6)=false from by simpa using h6,Bool.false_or]
      simp only [if_pos h6];refine Ev.step (f:=fun k=>(jd.f k L[i].f0.f0 o).bind fun t=>if t=0 then qA.l0 k (s+1) ((i+1:Nat):Int) o L else some false) (fun k=>?_) ?_
      · simp only [qA.j2]
        rw [if_neg (by decide),if_pos h6,w64 (x:=(i:Int)+1) (by omega) (by omega),w64 (x:=s+1) (by omega) (by omega)];rfl
      · refine Ev.bind (specCmp _ _ (he _ (List.getElem_mem hi)).1.1 ho.1) ?_
        by_cases h:nameCmpV L[i].f0.f0 o=0
        · simp only [if_pos h]
          rw [show sameN L[i].f0.f0 o=true from by simpa [sameN] using h,Bool.true_and];exact ih (s+1) (by omega) (by omega)
        · simp only [if_neg h]
          rw [show sameN L[i].f0.f0 o=false from by simpa [sameN] using h,Bool.false_and];exact Ev.now _
    · rw [show (L[i].f1 != 6)=true from by simpa using h6,Bool.true_or,Bool.true_and]
      simp only [if_neg h6];refine Ev.step (f:=fun k=>qA.l0 k s ((i+1:Nat):Int) o L) (fun k=>?_) (ih s (by omega) (by omega));simp only [qA.j2];rw [if_neg (by decide),if_neg h6,w64 (x:=(i:Int)+1) (by omega) (by omega)];rfl
theorem run_at (o:List (List Int)) (L:List RI) (m i:Nat) (s:Int) (h:i < L.length):run o L (m+1) i s=(good o L i L[i] && run o L m (i+1) (if L[i].f1=6 then s+1 else s)):=by
  simp only [run,getD_at L i h]
theorem specZone_l0 (o:List (List Int)) (L:List RI) (ho:FitN o) (hL:L.length≤60) (he:∀ x ∈ L,FitR x) (m:Nat):∀ (i:Nat) (s:Int),L.length=i+m→(i=0∨okR (L.getD (i - 1) QR)=true)→0≤s→s≤i →
    Ev (fun k=>qA.l0 k s i o L) (run o L m i s):=by
  induction m with
  | zero =>
    intro i s hi _ _ _;refine Ev.step (f:=fun _=>some (s == 1)) (fun k=>?_) (Ev.now _);simp only [qA.l0];rw [if_neg (by omega)]
  | succ m ih =>
    intro i s hi hp h0 h1;have hil:i < L.length:=by omega
    have hx:=he _ (List.getElem_mem hil);rw [run_at o L m i s hil];have hm:L.length - (i+1)=m:=by omega
    have hj:∀ b:Bool,(b=false→okR L[i]=true)→Ev (fun k=>qA.j2 k s i b o L L[i].f0.f0 L[i].f1 L[i].f2 L[i].f3 L[i].f4.f0 L[i].f5 L[i].f6) (!b && ((L[i].f1 != 6 || sameN L[i].f0.f0 o) && run o L m (i+1) (if L[i].f1=6 then s+1 else s))):=by
      intro b hb;cases b with
      | true =>
        refine Ev.step (f:=fun _=>some false) (fun k=>?_) (Ev.now _);simp only [qA.j2,if_true]
      | false =>
        have:=specZone_j2 o L ho i hil (by omega) s h0 h1 he false true (fun s' h2 h3=>by
          rw [if_pos rfl,hm]
          exact ih (i+1) s' (by omega) (Or.inr (by rw [Nat.add_sub_cancel,getD_at L i hil];exact hb rfl)) h2 (by omega))
        simpa [hm] using this
    have hgood:good o L i L[i]=(okR L[i] && (qN.v L[i].f0.f0 o && ((i == 0 || decide (cmpR (L.getD (i - 1) QR) L[i] < 0)) && ((L[i].f1 != 5 || lone L L[i].f0.f0 i L.length 0) && (L[i].f1 != 6 || sameN L[i].f0.f0 o))))):=rfl;have hal:=alone L (by omega) he i hil;rw [hgood]
    have hstep:∀ k,qA.l0 (k+1) s i o L=(QE.f k L[i].f0.f0 L[i].f1 L[i].f2 L[i].f3 L[i].f4.f0 L[i].f5 L[i].f6).bind fun jJ=>(if jJ=true then ((jF.f k L[i].f0.f0 o).bind fun Yy=>(if Yy=true then (if (i:Int) > 0 then (if 0≤(wrap64 ((i:Int) - 1)) then (if (wrap64 ((i:Int) - 1)) < (L.length:Int) then ((zO.f k (qa L (wrap64 ((i:Int) - 1))).f0.f0 (qa L (wrap64 ((i:Int) - 1))).f1 (qa L (wrap64 ((i:Int) - 1))).f2 (qa L (wrap64 ((i:Int) - 1))).f3 (qa L (wrap64 ((i:Int) - 1))).f4.f0 (qa L (wrap64 ((i:Int) - 1))).f5 (qa L (wrap64 ((i:Int) - 1))).f6 L[i].f0.f0 L[i].f1 L[i].f2 L[i].f3 L[i].f4.f0 L[i].f5 L[i].f6).bind fun jt=>(if jt ≥ 0 then (qA.j2 k s i true o L L[i].f0.f0 L[i].f1 L[i].f2 L[i].f3 L[i].f4.f0 L[i].f5 L[i].f6) else ((ja.f k L i).bind fun yC=>(qA.j2 k s i (!yC) o L L[i].f0.f0 L[i].f1 L[i].f2 L[i].f3 L[i].f4.f0 L[i].f5 L[i].f6)))) else none) else none) else ((ja.f k L i).bind fun jY=>(qA.j2 k s i (!jY) o L L[i].f0.f0 L[i].f1 L[i].f2 L[i].f3 L[i].f4.f0 L[i].f5 L[i].f6))) else (qA.j2 k s i true o L L[i].f0.f0 L[i].f1 L[i].f2 L[i].f3 L[i].f4.f0 L[i].f5 L[i].f6))) else (qA.j2 k s i true o L L[i].f0.f0 L[i].f1 L[i].f2 L[i].f3 L[i].f4.f0 L[i].f5 L[i].f6)):=by
      intro k;rw [qA.l0];rw [if_pos (by omega),if_pos (by omega),rdRI L i hil]
    refine Ev.step hstep ?_;refine Ev.bind (specRrOk _ _ _ _ _ _ _ hx.1 hx.2.1) ?_;by_cases hok:okR L[i]=true
    · have hok':rrOkV L[i].f0.f0 L[i].f1 L[i].f2 L[i].f3 L[i].f4.f0 L[i].f5 L[i].f6=true:=hok
      simp only [if_pos hok',hok,Bool.true_and];refine Ev.bind (specUnder2 _ _ hx.1.1 ho.1) ?_;by_cases hu:qN.v L[i].f0.f0 o=true
      · simp only [if_pos hu,hu,Bool.true_and]
        have hfin:Ev (fun k=>(ja.f k L i).bind fun t=>qA.j2 k s i (!t) o L L[i].f0.f0 L[i].f1 L[i].f2 L[i].f3 L[i].f4.f0 L[i].f5 L[i].f6) ((L[i].f1 != 5 || lone L L[i].f0.f0 i L.length 0) && ((L[i].f1 != 6 || sameN L[i].f0.f0 o) && run o L m (i+1) (if L[i].f1=6 then s+1 else s))):=by
          refine Ev.bind hal ?_;have:=hj (!(L[i].f1 != 5 || lone L L[i].f0.f0 i L.length 0)) (fun _=>hok);rwa [Bool.not_not] at this
        by_cases hi0:i=0
        · subst hi0
          simp only [if_neg (show ¬ ((0:Nat):Int) > 0 by omega)];simpa [Bool.and_assoc] using hfin
        · have hpl:i - 1 < L.length:=by omega
          have hpok:okR L[i - 1]=true:=by rw [← getD_at L (i - 1) hpl];exact hp.resolve_left hi0
          have hw:wrap64 ((i:Int) - 1)=((i - 1:Nat):Int):=by rw [w64 (by omega) (by omega)];omega
          simp only [hw,if_pos (show (i:Int) > 0 by omega),if_pos (show (0:Int)≤((i - 1:Nat):Int) by omega),if_pos (show ((i - 1:Nat):Int) < (L.length:Int) by omega),rdRI L (i - 1) hpl];refine Ev.bind (specL3cmp hpok hok) ?_;rw [getD_at L (i - 1) hpl,show (i == 0)=false from by simpa using hi0,Bool.false_or];by_cases hc:cmpR L[i - 1] L[i] < 0
          · rw [decide_eq_true hc,Bool.true_and]
            have hc':¬ rrCmpV L[i - 1].f0.f0 L[i - 1].f1 L[i - 1].f3 L[i - 1].f4.f0 L[i - 1].f5 L[i - 1].f6 L[i].f0.f0 L[i].f1 L[i].f3 L[i].f4.f0 L[i].f5 L[i].f6 ≥ 0:=by
              have:rrCmpV L[i - 1].f0.f0 L[i - 1].f1 L[i - 1].f3 L[i - 1].f4.f0 L[i - 1].f5 L[i - 1].f6 L[i].f0.f0 L[i].f1 L[i].f3 L[i].f4.f0 L[i].f5 L[i].f6 < 0:=hc;omega
            simp only [if_neg hc'];rw [Bool.and_assoc];exact hfin
          · rw [decide_eq_false hc,Bool.false_and,Bool.false_and]
            have hc':rrCmpV L[i - 1].f0.f0 L[i - 1].f1 L[i - 1].f3 L[i - 1].f4.f0 L[i - 1].f5 L[i - 1].f6 L[i].f0.f0 L[i].f1 L[i].f3 L[i].f4.f0 L[i].f5 L[i].f6 ≥ 0:=by
              have:¬ rrCmpV L[i - 1].f0.f0 L[i - 1].f1 L[i - 1].f3 L[i - 1].f4.f0 L[i - 1].f5 L[i - 1].f6 L[i].f0.f0 L[i].f1 L[i].f3 L[i].f4.f0 L[i].f5 L[i].f6 < 0:=hc;omega
            simp only [if_pos hc'];simpa using hj true (fun e=>by cases e)
      · have hu':qN.v L[i].f0.f0 o=false:=by simpa using hu
        simp only [hu',Bool.false_eq_true,if_false,Bool.false_and];simpa using hj true (fun e=>by cases e)
    · have hok':rrOkV L[i].f0.f0 L[i].f1 L[i].f2 L[i].f3 L[i].f4.f0 L[i].f5 L[i].f6=false:=by
        have:¬ rrOkV L[i].f0.f0 L[i].f1 L[i].f2 L[i].f3 L[i].f4.f0 L[i].f5 L[i].f6=true:=hok;simpa using this
      simp only [hok',Bool.false_eq_true,if_false];rw [show okR L[i]=false from hok',Bool.false_and,Bool.false_and];simpa using hj true (fun e=>by cases e)
theorem specZoneOk (o:List (List Int)) (L:List RI) (ho:FitN o) (hL:L.length≤1048576) (he:∀ x ∈ L,FitR x):Ev (fun k=>qA.f k o L) (zoneOkV o L):=by
  unfold qA.f zoneOkV;refine Ev.bind (specNameOk o ho.1 ho.big) ?_
  have hj:∀ b:Bool,b=false→L.length≤60→Ev (fun k=>qA.j0 k b o L) (run o L L.length 0 0):=by
    intro b hb h60;subst hb;refine Ev.step (f:=fun k=>qA.l0 k 0 ((0:Nat):Int) o L) (fun k=>?_) (specZone_l0 o L ho h60 he L.length 0 0 (by omega) (Or.inl rfl) (by omega) (by omega));simp only [qA.j0,Bool.false_eq_true,if_false];rfl
  have ht:Ev (fun k=>qA.j0 k true o L) false:=by
    refine Ev.step (f:=fun _=>some false) (fun k=>?_) (Ev.now _);simp only [qA.j0,if_true]
  by_cases h:qK.v o=true
  · simp only [if_pos h,h,Bool.true_and]
    by_cases h2:L.length≤60
    · rw [decide_eq_true h2,Bool.true_and,decide_eq_false (show ¬ (L.length:Int) > 60 by omega)]
      exact hj false rfl h2
    · rw [decide_eq_false h2,Bool.false_and,decide_eq_true (show (L.length:Int) > 60 by omega)]
      exact ht
  · have h':qK.v o=false:=by simpa using h
    simp only [h',Bool.false_eq_true,if_false,Bool.false_and];exact ht
theorem implIs (a b:List (List Int)) (ha:a.length≤1048576) (hb:b.length≤1048576):Ev (fun k=>zc.f k a b) (sameN a b):=by
  unfold zc.f;exact Ev.bind (implCmp a b ha hb) (Ev.now _)
def named (n:List (List Int)) (x:RI):Bool:=sameN x.f0.f0 n
theorem setAny_l0 (L:List RI) (n:List (List Int)) (hL:L.length≤60) (he:∀ x ∈ L,FitR x) (hn:n.length≤1048576) (m:Nat):∀ (i:Nat) (acc:List RI),L.length=i+m→acc.length≤i →
    Ev (fun k=>qR.l0 k 255 acc L (L.length:Int) i n) (acc ++ (L.drop i).filter (named n)):=by
  induction m with
  | zero =>
    intro i acc hi ha;refine Ev.step (f:=fun _=>some acc) (fun k=>?_) ?_
    · simp only [qR.l0]
      rw [if_neg (by omega)]
    · rw [List.drop_of_length_le (by omega)];simpa using Ev.now _
  | succ m ih =>
    intro i acc hi ha;have hil:i < L.length:=by omega
    refine Ev.step (f:=fun k=>(zc.f k L[i].f0.f0 n).bind fun t=>if t=true then (if acc.length < 1172812402961 then qR.l0 k 255 (acc ++ [L[i]]) L (L.length:Int) ((i+1:Nat):Int) n else none) else qR.l0 k 255 acc L (L.length:Int) ((i+1:Nat):Int) n) (fun k=>?_) ?_
    · rw [qR.l0]
      rw [if_pos (by omega),if_pos (by omega),if_pos (by omega),rdRI L i hil,w64 (x:=(i:Int)+1) (by omega) (by omega)];simp only [if_true];rfl
    · refine Ev.bind (implIs _ _ (he _ (List.getElem_mem hil)).1.1 hn) ?_
      rw [List.drop_eq_getElem_cons hil,List.filter_cons];by_cases h:sameN L[i].f0.f0 n=true
      · simp only [if_pos h,if_pos (show acc.length < 1172812402961 by omega),if_pos (show named n L[i]=true from h)]
        have:=ih (i+1) (acc ++ [L[i]]) (by omega) (by simp;omega);simpa using this
      · simp only [if_neg h,if_neg (show ¬ named n L[i]=true from h)]
        exact ih (i+1) acc (by omega) (by omega)
theorem setAny (o:List (List Int)) (L:List RI) (n:List (List Int)) (hL:L.length≤60) (he:∀ x ∈ L,FitR x) (hn:n.length≤1048576):Ev (fun k=>qR.f k o L n 255) (L.filter (named n)):=by
  unfold qR.f;simpa using setAny_l0 L n hL he hn L.length 0 [] (by omega) (by simp)
theorem lone_len (L:List RI) (n:List (List Int)) (i:Nat) (m:Nat):∀ j,L.length=j+m→(j≤i→i < L.length→sameN (L.getD i QR).f0.f0 n=true) →
    (lone L n i m j=true ↔ ((L.drop j).filter (named n)).length=(if j≤i∧i < L.length then 1 else 0)):=by
  induction m with
  | zero =>
    intro j hj _;rw [List.drop_of_length_le (by omega)];simp only [lone,List.filter_nil,List.length_nil,true_iff];rw [if_neg (by omega)]
  | succ m ih =>
    intro j hj hs;have hjl:j < L.length:=by omega
    have h2:=ih (j+1) (by omega) (fun a b=>hs (by omega) b);rw [List.drop_eq_getElem_cons hjl,List.filter_cons];simp only [lone,Bool.and_eq_true,getD_at L j hjl];by_cases hij:j=i
    · subst hij
      have hn:named n L[j]=true:=by have:=hs (by omega) hjl;rw [getD_at L j hjl] at this;exact this
      rw [if_pos hn,if_pos (by omega),List.length_cons,h2,if_neg (by omega)];simp
    · rw [show (j == i)=false from by simpa using hij,Bool.false_or]
      by_cases hn:sameN L[j].f0.f0 n=true
      · rw [if_pos (show named n L[j]=true from hn),List.length_cons,hn]
        simp only [Bool.not_true,Bool.false_eq_true,false_and,false_iff];intro hc;by_cases hc2:j≤i∧i < L.length
        · rw [if_pos hc2] at hc
          have hmem:L[i]'hc2.2 ∈ (L.drop (j+1)).filter (named n):=by
            rw [List.mem_filter];refine ⟨?_,by have:=hs hc2.1 hc2.2;rw [getD_at L i hc2.2] at this;exact this⟩;rw [List.mem_drop_iff_getElem];exact ⟨i - (j+1),by omega,by congr 1;omega⟩
          have:((L.drop (j+1)).filter (named n)).length=0:=by omega
          rw [List.eq_nil_of_length_eq_zero this] at hmem;cases hmem
        · rw [if_neg hc2] at hc;omega
      · have hn':sameN L[j].f0.f0 n=false:=by simpa using hn
        rw [if_neg (show ¬ named n L[j]=true from hn),hn'];simp only [Bool.not_false,true_and];rw [h2];by_cases hc2:j≤i∧i < L.length
        · rw [if_pos hc2,if_pos (by omega)]
        · rw [if_neg hc2,if_neg (by omega)]
theorem lone_iff (L:List RI) (i:Nat) (hi:i < L.length):lone L L[i].f0.f0 i L.length 0 = !decide ((((L.filter (named L[i].f0.f0)).length:Nat):Int) > 1):=by
  have h:=lone_len L L[i].f0.f0 i L.length 0 (by omega) (fun _ _=>by rw [getD_at L i hi];exact sameN_refl _);rw [List.drop_zero,if_pos (by omega)] at h;have hpos:0 < (L.filter (named L[i].f0.f0)).length:=List.length_pos_of_mem (List.mem_filter.2 ⟨List.getElem_mem hi,sameN_refl _⟩);by_cases hl:(L.filter (named L[i].f0.f0)).length=1
  · rw [h.2 hl,hl];rfl
  · have:lone L L[i].f0.f0 i L.length 0=false:=by
      cases hq:lone L L[i].f0.f0 i L.length 0
      · rfl
      · exact absurd (h.1 hq) hl
    rw [this,decide_eq_true (by omega)];rfl
theorem underF (a b:List (List Int)) (ha:a.length≤1048576) (hb:b.length≤1048576):qN.f a b=some (qN.v a b):=by
  unfold qN.f;rw [if_pos (by omega)]
theorem implZone_j2 (o:List (List Int)) (L:List RI) (ho:FitN o) (hL:L.length≤60) (he:∀ x ∈ L,FitR x) (i:Nat) (hi:i < L.length) (s:Int) (h0:0≤s) (h1:s≤i) (R:Int→Bool)
    (ih:∀ s':Int,0≤s'→s'≤(i+1:Nat)→Ev (fun k=>qG.l0 k s' L (L.length:Int) ((i+1:Nat):Int) o L) (R s')) (b:Bool) :
    Ev (fun k=>qG.j2 k s L (L.length:Int) i b o L L[i].f0.f0 L[i].f1 L[i].f2 L[i].f3 L[i].f4.f0 L[i].f5 L[i].f6) (!b && ((L[i].f1 != 5 || lone L L[i].f0.f0 i L.length 0) && ((L[i].f1 != 6 || sameN L[i].f0.f0 o) && R (if L[i].f1=6 then s+1 else s)))):=by
  have hn:=(he _ (List.getElem_mem hi)).1.1;cases b with
  | true =>
    refine Ev.step (f:=fun _=>some false) (fun k=>?_) (Ev.now _);rw [qG.j2,if_pos rfl]
  | false =>
    rw [Bool.not_false,Bool.true_and];by_cases h6:L[i].f1=6
    · have h5:¬ L[i].f1=5:=by omega
      rw [show (L[i].f1 != 5)=true from by simpa using h5,Bool.true_or,Bool.true_and,show (L[i].f1 != 6)=false from by simpa using h6,Bool.false_or,if_pos h6];refine Ev.step (f:=fun k=>(zc.f k L[i].f0.f0 o).bind fun t=>if t=true then qG.l0 k (s+1) L (L.length:Int) ((i+1:Nat):Int) o L else some false) (fun k=>?_) ?_
      · rw [qG.j2,if_neg (by decide),if_pos h6]
        simp only [if_neg h5,w64 (x:=(i:Int)+1) (by omega) (by omega),w64 (x:=s+1) (by omega) (by omega)];rfl
      · refine Ev.bind (implIs _ _ hn ho.1) ?_
        by_cases h:sameN L[i].f0.f0 o=true
        · simp only [if_pos h]
          rw [h,Bool.true_and];exact ih (s+1) (by omega) (by omega)
        · have h':sameN L[i].f0.f0 o=false:=by simpa using h
          simp only [h',Bool.false_eq_true,if_false,Bool.false_and];exact Ev.now _
    · rw [show (L[i].f1 != 6)=true from by simpa using h6,Bool.true_or,Bool.true_and,if_neg h6]
      by_cases h5:L[i].f1=5
      · rw [show (L[i].f1 != 5)=false from by simpa using h5,Bool.false_or,lone_iff L i hi]
        refine Ev.step (f:=fun k=>(qR.f k o L L[i].f0.f0 255).bind fun t=>if (t.length:Int) > 1 then some false else qG.l0 k s L (L.length:Int) ((i+1:Nat):Int) o L) (fun k=>?_) ?_
        · rw [qG.j2,if_neg (by decide),if_neg h6,if_pos h5]
          simp only [w64 (x:=(i:Int)+1) (by omega) (by omega)];rfl
        · refine Ev.bind (setAny o L _ hL he hn) ?_
          by_cases h:(((L.filter (named L[i].f0.f0)).length:Nat):Int) > 1
          · simp only [if_pos h]
            rw [decide_eq_true h,Bool.not_true,Bool.false_and];exact Ev.now _
          · simp only [if_neg h]
            rw [decide_eq_false h,Bool.not_false,Bool.true_and];exact ih s (by omega) (by omega)
      · rw [show (L[i].f1 != 5)=true from by simpa using h5,Bool.true_or,Bool.true_and]
        refine Ev.step (f:=fun k=>qG.l0 k s L (L.length:Int) ((i+1:Nat):Int) o L) (fun k=>?_) (ih s (by omega) (by omega));rw [qG.j2,if_neg (by decide),if_neg h6,if_neg h5,w64 (x:=(i:Int)+1) (by omega) (by omega)];rfl
theorem implZone_l0 (o:List (List Int)) (L:List RI) (ho:FitN o) (hL:L.length≤60) (he:∀ x ∈ L,FitR x) (hall:∀ x ∈ L,okR x=true) (m:Nat):∀ (i:Nat) (s:Int),L.length=i+m→0≤s→s≤i →
    Ev (fun k=>qG.l0 k s L (L.length:Int) i o L) (run o L m i s):=by
  induction m with
  | zero =>
    intro i s hi _ _;refine Ev.step (f:=fun _=>some (s == 1)) (fun k=>?_) (Ev.now _);rw [qG.l0,if_neg (by omega)]
  | succ m ih =>
    intro i s hi h0 h1;have hil:i < L.length:=by omega
    have hok:okR L[i]=true:=hall _ (List.getElem_mem hil);have hj:=implZone_j2 o L ho hL he i hil s h0 h1 (run o L m (i+1)) (fun s' a b=>ih (i+1) s' (by omega) a b);rw [run_at o L m i s hil];have hgood:good o L i L[i]=(okR L[i] && (qN.v L[i].f0.f0 o && ((i == 0 || decide (cmpR (L.getD (i - 1) QR) L[i] < 0)) && ((L[i].f1 != 5 || lone L L[i].f0.f0 i L.length 0) && (L[i].f1 != 6 || sameN L[i].f0.f0 o))))):=rfl;rw [hgood,hok,Bool.true_and];by_cases hi0:i=0
    · subst hi0
      refine Ev.step (f:=fun k=>qG.j2 k s L (L.length:Int) ((0:Nat):Int) (!qN.v L[0].f0.f0 o) o L L[0].f0.f0 L[0].f1 L[0].f2 L[0].f3 L[0].f4.f0 L[0].f5 L[0].f6) (fun k=>?_) ?_
      · rw [qG.l0,if_pos (by omega),if_pos (by omega),if_pos (by omega),if_neg (by omega),rdRI L 0 hil,underF _ _ (he _ (List.getElem_mem hil)).1.1 ho.1,Option.bind_some]
      · have:=hj (!qN.v L[0].f0.f0 o)
        simpa [Bool.and_assoc] using this
    · have hpl:i - 1 < L.length:=by omega
      have hpok:okR L[i - 1]=true:=hall _ (List.getElem_mem hpl);refine Ev.step (f:=fun k=>(jw.f k L[i - 1].f0.f0 L[i - 1].f1 L[i - 1].f2 L[i - 1].f3 L[i - 1].f4.f0 L[i - 1].f5 L[i - 1].f6 L[i].f0.f0 L[i].f1 L[i].f2 L[i].f3 L[i].f4.f0 L[i].f5 L[i].f6).bind fun t=>if t ≥ 0 then qG.j2 k s L (L.length:Int) i true o L L[i].f0.f0 L[i].f1 L[i].f2 L[i].f3 L[i].f4.f0 L[i].f5 L[i].f6 else qG.j2 k s L (L.length:Int) i (!qN.v L[i].f0.f0 o) o L L[i].f0.f0 L[i].f1 L[i].f2 L[i].f3 L[i].f4.f0 L[i].f5 L[i].f6) (fun k=>?_) ?_
      · rw [qG.l0,if_pos (by omega),if_pos (by omega),if_pos (by omega),if_pos (by omega)]
        simp only [w64 (x:=(i:Int) - 1) (by omega) (by omega)];rw [if_pos (by omega),if_pos (by omega)];simp only [show (i:Int) - 1=((i - 1:Nat):Int) by omega,rdRI L (i - 1) hpl,rdRI L i hil,underF L[i].f0.f0 o (he _ (List.getElem_mem hil)).1.1 ho.1,Option.bind_some]
      · refine Ev.bind (implRrCompare hpok hok) ?_
        rw [getD_at L (i - 1) hpl,show (i == 0)=false from by simpa using hi0,Bool.false_or];by_cases hc:cmpR L[i - 1] L[i] < 0
        · have hc':¬ rrCmpV L[i - 1].f0.f0 L[i - 1].f1 L[i - 1].f3 L[i - 1].f4.f0 L[i - 1].f5 L[i - 1].f6 L[i].f0.f0 L[i].f1 L[i].f3 L[i].f4.f0 L[i].f5 L[i].f6 ≥ 0:=by
            have:rrCmpV L[i - 1].f0.f0 L[i - 1].f1 L[i - 1].f3 L[i - 1].f4.f0 L[i - 1].f5 L[i - 1].f6 L[i].f0.f0 L[i].f1 L[i].f3 L[i].f4.f0 L[i].f5 L[i].f6 < 0:=hc;omega
          simp only [if_neg hc'];rw [decide_eq_true hc,Bool.true_and];have:=hj (!qN.v L[i].f0.f0 o);simpa [Bool.and_assoc] using this
        · have hc':rrCmpV L[i - 1].f0.f0 L[i - 1].f1 L[i - 1].f3 L[i - 1].f4.f0 L[i - 1].f5 L[i - 1].f6 L[i].f0.f0 L[i].f1 L[i].f3 L[i].f4.f0 L[i].f5 L[i].f6 ≥ 0:=by
            have:¬ rrCmpV L[i - 1].f0.f0 L[i - 1].f1 L[i - 1].f3 L[i - 1].f4.f0 L[i - 1].f5 L[i - 1].f6 L[i].f0.f0 L[i].f1 L[i].f3 L[i].f4.f0 L[i].f5 L[i].f6 < 0:=hc;omega
          simp only [if_pos hc'];rw [decide_eq_false hc,Bool.false_and,Bool.and_false,Bool.false_and];simpa using hj true
theorem run_false (o:List (List Int)) (L:List RI) (m:Nat):∀ (i:Nat) (s:Int),L.length=i+m→(∃ x ∈ L.drop i,okR x=false)→run o L m i s=false:=by
  induction m with
  | zero =>
    intro i s hi ⟨x,hx,_⟩;rw [List.drop_of_length_le (by omega)] at hx;cases hx
  | succ m ih =>
    intro i s hi ⟨x,hx,hf⟩;have hil:i < L.length:=by omega
    rw [run_at o L m i s hil];rw [List.drop_eq_getElem_cons hil] at hx;rcases List.mem_cons.1 hx with rfl | hx
    · rw [show good o L i L[i]=false from by unfold good;rw [hf,Bool.false_and],Bool.false_and]
    · rw [ih (i+1) _ (by omega) ⟨x,hx,hf⟩,Bool.and_false]
theorem implZoneOk (o:List (List Int)) (L:List RI) (ho:FitN o) (hL:L.length≤1048576) (he:∀ x ∈ L,FitR x) (ht:∀ x ∈ L,I64R x):Ev (fun k=>qG.f k o L) (zoneOkV o L):=by
  unfold qG.f zoneOkV
  have hT:Ev (fun k=>qG.j0 k true o L) false:=by
    refine Ev.step (f:=fun _=>some false) (fun k=>?_) (Ev.now _);rw [qG.j0,if_pos rfl]
  simp only [show qK.f o=some (qK.v o) from rfl,Option.bind_some];by_cases h:qK.v o=true
  · simp only [if_pos h,h,Bool.true_and]
    by_cases h2:L.length≤60
    · simp only [if_neg (show ¬ (L.length:Int) > 60 by omega)]
      rw [decide_eq_true h2,Bool.true_and];refine Ev.bind (allOk L ht) ?_;by_cases ha:L.all okR=true
      · rw [ha]
        refine Ev.step (f:=fun k=>qG.l0 k 0 L (L.length:Int) ((0:Nat):Int) o L) (fun k=>?_) (implZone_l0 o L ho h2 he (fun x hx=>List.all_eq_true.1 ha x hx) L.length 0 0 (by omega) (by omega) (by omega));rw [qG.j0,if_neg (by decide)];rfl
      · have ha':L.all okR=false:=by simpa using ha
        rw [ha',run_false o L L.length 0 0 (by omega) (by
          rw [List.drop_zero];rw [List.all_eq_false] at ha';obtain ⟨x,hx,hf⟩:=ha'
          exact ⟨x,hx,by simpa using hf⟩)]
        exact hT
    · simp only [if_pos (show (L.length:Int) > 60 by omega)]
      rw [decide_eq_false h2,Bool.false_and];exact hT
  · have h':qK.v o=false:=by simpa using h
    simp only [h',Bool.false_eq_true,if_false,Bool.false_and];exact hT
end Go.Proofs.YtfddbkaoghdfgaaGreat.Pure

namespace Go.Proofs.YtfddbkaoghdfgaaGreat.Pure
open Go Go.RowKit Go.Proofs.YtfddbkaoghdfgaaGreat.Q Go.Proofs.YtfddbkaoghdfgaaGreatW.PrintWords Go.Proofs.YtfddbkaoghdfgaaGreatW.PrintLast Go.Proofs.YtfddbkaoghdfgaaGreatW.PrintMore
set_option linter.unusedVariables false
set_option linter.unusedSimpArgs false

def askedV (t:Int):Bool:=typeOkV t || t == 255
theorem specAsked (t:Int):QT.f t=some (askedV t):=by
  unfold QT.f askedV;rw [specTypeOk];cases typeOkV t <;> simp
theorem implAsked (t:Int) (ht:-9223372036854775808≤t∧t≤9223372036854775807):QW.f t=some (askedV t):=by
  unfold QW.f askedV;rw [implTypeOk t ht];cases typeOkV t <;> simp
def wantOkV (n:List (List Int)) (t ttl addr:Int) (dst:List (List Int)) (text nums:List Int) (cl:Int) (bare:Bool):Bool :=
  if cl=1∨cl=254∨cl=255 then
    (if bare=true then decide (cl≠1) && (qK.v n && (askedV t && (decide (ttl=0) && (decide (addr=0) && (decide (dst.length=0) && (decide (text.length=0) && decide (nums.length=0)))))))
    else decide (cl≠255) && (rrOkV n t ttl addr dst text nums && (decide (cl≠254) || decide (ttl=0))))
  else false
theorem specWantOk_j0 (x:Bool) (n:List (List Int)) (t ttl addr:Int) (dst:List (List Int)) (text nums:List Int) (cl:Int) (bare:Bool) (hn:FitN n) (hto:FitN dst):Ev (fun k=>zp.j0 k x n t ttl addr dst text nums cl bare) (if x=true then false else if bare=true then decide (cl≠1) && (qK.v n && (askedV t && (decide (ttl=0) && (decide (addr=0) && (decide (dst.length=0) && (decide (text.length=0) && decide (nums.length=0)))))))
    else decide (cl≠255) && (rrOkV n t ttl addr dst text nums && (decide (cl≠254) || decide (ttl=0)))):=by
  cases x
  · simp only [Bool.false_eq_true,if_false]
    cases bare
    · refine Ev.step (f:=fun k=>(QE.f k n t ttl addr dst text nums).bind fun u=>some (decide (cl≠255) && (u && (decide (cl≠254) || decide (ttl=0))))) (fun k=>?_) ?_
      · simp only [zp.j0,Bool.false_eq_true,if_false]
        congr 1;funext u
        cases u
        · simp
        · by_cases h1:cl=254
          · subst h1;by_cases h2:ttl=0 <;> simp [h2]
          · by_cases h3:cl=255
            · subst h3;simp
            · simp [h1,h3]
      · simp only [Bool.false_eq_true,if_false]
        exact Ev.bind (specRrOk _ _ _ _ _ _ _ hn hto) (Ev.now _)
    · refine Ev.step (f:=fun k=>if cl=1 then some false else (jk.f k n).bind fun u=>some (u && (askedV t && (decide (ttl=0) && (decide (addr=0) && (decide (dst.length=0) && (decide (text.length=0) && decide (nums.length=0)))))))) (fun k=>?_) ?_
      · simp only [zp.j0,Bool.false_eq_true,if_false,if_true]
        by_cases h:cl=1
        · rw [if_pos h,if_pos h]
        rw [if_neg h,if_neg h];congr 1;funext u
        rw [specAsked];cases u
        · simp
        simp only [if_true,Option.bind_some,Bool.true_and];cases askedV t
        · simp
        by_cases b1:ttl=0
        · by_cases b2:addr=0
          · by_cases b3:dst.length=0
            · by_cases b4:text.length=0
              · rw [if_pos rfl,if_pos b1,if_pos b2,if_pos (by omega),if_pos (by omega)]
                simp only [b1,b2,b3,b4,decide_true,Bool.true_and];congr 1
                rw [Bool.eq_iff_iff,beq_iff_eq,decide_eq_true_iff];omega
              · rw [if_pos rfl,if_pos b1,if_pos b2,if_pos (by omega),if_neg (by omega)]
                simp [b4]
            · rw [if_pos rfl,if_pos b1,if_pos b2,if_neg (by omega)]
              simp [b3]
          · rw [if_pos rfl,if_pos b1,if_neg b2]
            simp [b2]
        · rw [if_pos rfl,if_neg b1]
          simp [b1]
      · by_cases h:cl=1
        · simp only [if_pos h,if_true];rw [decide_eq_false (by omega),Bool.false_and];exact Ev.now _
        · simp only [if_neg h,if_true];rw [decide_eq_true h,Bool.true_and]
          exact Ev.bind (specNameOk n hn.1 hn.big) (Ev.now _)
  · refine Ev.step (f:=fun _=>some false) (fun k=>?_) (Ev.now _)
    simp only [zp.j0,if_true]
theorem specWantOk (n:List (List Int)) (t ttl addr:Int) (dst:List (List Int)) (text nums:List Int) (cl:Int) (bare:Bool) (hn:FitN n) (hto:FitN dst):Ev (fun k=>zp.f k n t ttl addr dst text nums cl bare) (wantOkV n t ttl addr dst text nums cl bare):=by
  have e:∀ x:Bool,x=decide (¬ (cl=1∨cl=254∨cl=255))→Ev (fun k=>zp.j0 k x n t ttl addr dst text nums cl bare) (wantOkV n t ttl addr dst text nums cl bare):=by
    intro x hx;have:=specWantOk_j0 x n t ttl addr dst text nums cl bare hn hto;unfold wantOkV;by_cases h:cl=1∨cl=254∨cl=255
    · rw [if_pos h];rw [decide_eq_false (fun h2=>h2 h)] at hx;subst hx;simpa only [Bool.false_eq_true,if_false] using this
    · rw [if_neg h];rw [decide_eq_true h] at hx;subst hx;simpa only [if_true] using this
  unfold zp.f;by_cases h1:cl=1
  · simp only [if_pos h1];exact e _ (by simp [h1])
  simp only [if_neg h1];by_cases h2:cl=254
  · simp only [if_pos h2];exact e _ (by simp [h2])
  simp only [if_neg h2];exact e _ (by simp [h1,h2];rw [Bool.eq_iff_iff];simp)
theorem implWantOk_j0 (x:Bool) (n:List (List Int)) (t ttl addr:Int) (dst:List (List Int)) (text nums:List Int) (cl:Int) (bare:Bool) (ht:-9223372036854775808≤t∧t≤9223372036854775807) (hcl:cl=1∨cl=254∨cl=255∨x=true):Ev (fun k=>zW.j0 k x n t ttl addr dst text nums cl bare n t ttl addr dst text nums) (if x=true then false else if bare=true then decide (cl≠1) && (qK.v n && (askedV t && (decide (ttl=0) && (decide (addr=0) && (decide (dst.length=0) && (decide (text.length=0) && decide (nums.length=0)))))))
    else decide (cl≠255) && (rrOkV n t ttl addr dst text nums && (decide (cl≠254) || decide (ttl=0)))):=by
  cases x
  · simp only [Bool.false_eq_true,if_false]
    cases bare
    · refine Ev.step (f:=fun k=>if cl=255 then some false else (jf.f k n t ttl addr dst text nums).bind fun u=>some (u && (decide (cl≠254) || decide (ttl=0)))) (fun k=>?_) ?_
      · simp only [zW.j0,Bool.false_eq_true,if_false]
        by_cases h:cl=255
        · rw [if_pos h,if_pos h]
        rw [if_neg h,if_neg h];congr 1;funext u
        cases u
        · simp
        · by_cases h1:cl=1
          · subst h1;simp
          · have h3:cl=254:=by simp at hcl;omega
            subst h3;simp;rw [Bool.eq_iff_iff];simp
      · by_cases h:cl=255
        · simp only [if_pos h,Bool.false_eq_true,if_false];rw [decide_eq_false (by omega),Bool.false_and];exact Ev.now _
        · simp only [if_neg h,Bool.false_eq_true,if_false];rw [decide_eq_true h,Bool.true_and]
          exact Ev.bind (implRrOk _ _ _ _ _ _ _ ht) (Ev.now _)
    · refine Ev.step (f:=fun k=>if cl=1 then some false else some (qK.v n && (askedV t && (decide (ttl=0) && (decide (addr=0) && (decide (dst.length=0) && (decide (text.length=0) && decide (nums.length=0)))))))) (fun k=>?_) ?_
      · simp only [zW.j0,Bool.false_eq_true,if_false,if_true]
        by_cases h:cl=1
        · rw [if_pos h,if_pos h]
        rw [if_neg h,if_neg h];unfold qK.f;rw [implAsked t ht,Option.bind_some];cases qK.v n
        · simp
        simp only [if_true,Option.bind_some,Bool.true_and];cases askedV t
        · simp
        by_cases b1:ttl=0
        · by_cases b2:addr=0
          · by_cases b3:dst.length=0
            · by_cases b4:text.length=0
              · rw [if_pos rfl,if_pos b1,if_pos b2,if_pos (by omega),if_pos (by omega)]
                simp only [b1,b2,b3,b4,decide_true,Bool.true_and];congr 1
                rw [Bool.eq_iff_iff,beq_iff_eq,decide_eq_true_iff];omega
              · rw [if_pos rfl,if_pos b1,if_pos b2,if_pos (by omega),if_neg (by omega)]
                simp [b4]
            · rw [if_pos rfl,if_pos b1,if_pos b2,if_neg (by omega)]
              simp [b3]
          · rw [if_pos rfl,if_pos b1,if_neg b2]
            simp [b2]
        · rw [if_pos rfl,if_neg b1]
          simp [b1]
      · by_cases h:cl=1
        · simp only [if_pos h,if_true];rw [decide_eq_false (by omega),Bool.false_and];exact Ev.now _
        · simp only [if_neg h,if_true];rw [decide_eq_true h,Bool.true_and]
          exact Ev.now _
  · refine Ev.step (f:=fun _=>some false) (fun k=>?_) (Ev.now _)
    simp only [zW.j0,if_true]
theorem implWantOk (n:List (List Int)) (t ttl addr:Int) (dst:List (List Int)) (text nums:List Int) (cl:Int) (bare:Bool) (ht:-9223372036854775808≤t∧t≤9223372036854775807):Ev (fun k=>zW.f k n t ttl addr dst text nums cl bare) (wantOkV n t ttl addr dst text nums cl bare):=by
  have e:∀ x:Bool,x=decide (¬ (cl=1∨cl=254∨cl=255))→Ev (fun k=>zW.j0 k x n t ttl addr dst text nums cl bare n t ttl addr dst text nums) (wantOkV n t ttl addr dst text nums cl bare):=by
    intro x hx
    have:=implWantOk_j0 x n t ttl addr dst text nums cl bare ht (by
      by_cases h:cl=1∨cl=254∨cl=255
      · omega
      · rw [decide_eq_true h] at hx;simp [hx])
    unfold wantOkV;by_cases h:cl=1∨cl=254∨cl=255
    · rw [if_pos h];rw [decide_eq_false (fun h2=>h2 h)] at hx;subst hx;simpa only [Bool.false_eq_true,if_false] using this
    · rw [if_neg h];rw [decide_eq_true h] at hx;subst hx;simpa only [if_true] using this
  unfold zW.f;by_cases h1:cl=1
  · simp only [if_pos h1];exact e _ (by simp [h1])
  simp only [if_neg h1];by_cases h2:cl=254
  · simp only [if_pos h2];exact e _ (by simp [h2])
  simp only [if_neg h2];exact e _ (by simp [h1,h2];rw [Bool.eq_iff_iff];simp)
theorem szWant (n:List (List Int)) (t ttl addr:Int) (dst:List (List Int)) (text nums:List Int) (cl:Int) (bare:Bool) (left:Int) (hn:RawN n) (hto:RawN dst) (ht:text.length≤9223372036854775807) (hnu:nums.length≤9223372036854775807) (h0:0≤left) (h1:left≤1048576) :
    ∃ u,Ev (fun k=>Zp.f k n t ttl addr dst text nums cl bare left) u∧(u < 0∨(0≤u∧u≤left∧FitN n∧FitN dst∧text.length≤1048576∧nums.length≤1048576)):=by
  unfold Zp.f;obtain ⟨a,ha,hca⟩:=szRr n t ttl addr dst text nums left hn hto ht hnu h0 h1;by_cases h:a < 0
  · exact ⟨-1,Ev.bind ha (by simp only [if_pos h];exact Ev.now _),Or.inl (by omega)⟩
  · exact ⟨a,Ev.bind ha (by simp only [if_neg h];exact Ev.now _),hca⟩
theorem toWant (n:List (List Int)) (t ttl addr:Int) (dst:List (List Int)) (text nums:List Int) (cl:Int) (bare:Bool) (hn:FitN n) (hto:FitN dst) (ht:text.length≤1048576) (hnu:nums.length≤1048576) :
    Ev (fun k=>YH.f k n t ttl addr dst text nums cl bare) (n,t,ttl,addr,dst,text,nums,cl,bare):=by
  unfold YH.f;exact Ev.bind (toRr n t ttl addr dst text nums hn hto ht hnu) (Ev.now _)
theorem eqWant (n:List (List Int)) (t ttl addr:Int) (dst:List (List Int)) (text nums:List Int) (cl:Int) (bare:Bool) (hn:FitN n) (hto:FitN dst) (ht:text.length≤1048576) (hnu:nums.length≤1048576) :
    Ev (fun k=>Yb.f k n t ttl addr dst text nums cl bare n t ttl addr dst text nums cl bare) true:=by
  unfold Yb.f;refine Ev.bind (eqRr n t ttl addr dst text nums hn hto ht hnu) ?_;simp only [if_true,bne_self_eq_false,Bool.false_eq_true,if_false];exact Ev.now _
end Go.Proofs.YtfddbkaoghdfgaaGreat.Pure

namespace Go.Proofs.YtfddbkaoghdfgaaGreat.Pure
open Go Go.RowKit Go.Proofs.YtfddbkaoghdfgaaGreat.Q Go.Proofs.YtfddbkaoghdfgaaGreatW.PrintWords Go.Proofs.YtfddbkaoghdfgaaGreatW.PrintLast Go.Proofs.YtfddbkaoghdfgaaGreatW.PrintMore
set_option linter.unusedVariables false
set_option linter.unusedSimpArgs false
abbrev WL:=Xd
abbrev WI:=zm
theorem rdWL (l:List WL) (i:Nat) (h:i < l.length):qM l (i:Int)=l[i]:=by simp [qM,List.getD_eq_getElem?_getD,h]
theorem rdWI (l:List WI) (i:Nat) (h:i < l.length):qd l (i:Int)=l[i]:=by simp [qd,List.getD_eq_getElem?_getD,h]
def cvW (x:WL):WI:=⟨cvR x.f0,x.f1,x.f2⟩
def RawW (x:WL):Prop:=RawR x.f0
def FitW (x:WI):Prop:=FitR x.f0
def I64W (x:WI):Prop:=I64R x.f0
theorem szWantS_l0 (l:List WL) (hl:l.length≤1048576) (he:∀ x ∈ l,RawW x) (m:Nat):∀ (i:Nat) (left:Int),l.length=i+m→0≤left→left≤1048576 →
    ∃ u,Ev (fun k=>zo.l0 k l left i) u∧(u < 0∨(0≤u∧u≤left∧∀ x ∈ l.drop i,FitW (cvW x))):=by
  induction m with
  | zero =>
    intro i left hi h0 h1;refine ⟨left,Ev.step (f:=fun _=>some left) (fun k=>?_) (Ev.now _),Or.inr ⟨h0,by omega,fun x hx=>by rw [List.drop_of_length_le (by omega)] at hx;cases hx⟩⟩;simp only [zo.l0];rw [if_neg (by omega)]
  | succ m ih =>
    intro i left hi h0 h1;have hil:i < l.length:=by omega
    obtain ⟨r0,r4,r5,r6,_⟩:=he _ (List.getElem_mem hil);obtain ⟨t,ht,hc⟩:=szWant l[i].f0.f0.f0 l[i].f0.f1 l[i].f0.f2 l[i].f0.f3 l[i].f0.f4.f0 l[i].f0.f5 l[i].f0.f6 l[i].f1 l[i].f2 left r0 r4 r5 r6 h0 h1;by_cases hneg:t < 0
    · refine ⟨-1,Ev.step (f:=fun k=>(Zp.f k l[i].f0.f0.f0 l[i].f0.f1 l[i].f0.f2 l[i].f0.f3 l[i].f0.f4.f0 l[i].f0.f5 l[i].f0.f6 l[i].f1 l[i].f2 left).bind fun qS=>if qS < 0 then some (-1) else zo.l0 k l qS (wrap64 ((i:Int)+1))) (fun k=>?_) (Ev.bind ht (by simp only [if_pos hneg];exact Ev.now _)),Or.inl (by omega)⟩
      simp only [zo.l0];rw [if_pos (by omega),if_pos (by omega),rdWL l i hil]
    · obtain ⟨h2,h3,hf⟩:=hc.resolve_left hneg
      obtain ⟨u,hu,hcu⟩:=ih (i+1) t (by omega) (by omega) (by omega);refine ⟨u,Ev.step (f:=fun k=>(Zp.f k l[i].f0.f0.f0 l[i].f0.f1 l[i].f0.f2 l[i].f0.f3 l[i].f0.f4.f0 l[i].f0.f5 l[i].f0.f6 l[i].f1 l[i].f2 left).bind fun qS=>if qS < 0 then some (-1) else zo.l0 k l qS (wrap64 ((i:Int)+1))) (fun k=>?_) (Ev.bind ht ?_),?_⟩
      · simp only [zo.l0]
        rw [if_pos (by omega),if_pos (by omega),rdWL l i hil]
      · simp only [if_neg hneg]
        rw [w64 (x:=(i:Int)+1) (by omega) (by omega)];exact hu
      · rcases hcu with h | ⟨h,h',hd⟩
        · exact Or.inl h
        · refine Or.inr ⟨h,by omega,fun x hx=>?_⟩
          rw [List.drop_eq_getElem_cons hil] at hx;rcases List.mem_cons.1 hx with rfl | hx
          · exact hf
          · exact hd x hx
theorem szWantS (l:List WL) (left:Int) (hl:l.length≤9223372036854775807) (he:∀ x ∈ l,RawW x) (h0:0≤left) (h1:left≤1048576) :
    ∃ u,Ev (fun k=>zo.f k l left) u∧(u < 0∨(0≤u∧u≤left∧l.length≤1048576∧∀ x ∈ l,FitW (cvW x))):=by
  unfold zo.f;rw [w64 (by omega) (by omega)];by_cases h:left - (l.length:Int) < 0
  · exact ⟨-1,by simp only [if_pos h];exact Ev.now _,Or.inl (by omega)⟩
  · obtain ⟨u,hu,hc⟩:=szWantS_l0 l (by omega) he l.length 0 (left - l.length) (by omega) (by omega) (by omega)
    refine ⟨u,by simp only [if_neg h];exact hu,?_⟩;rcases hc with h2 | ⟨h2,h3,h4⟩
    · exact Or.inl h2
    · exact Or.inr ⟨h2,by omega,by omega,by rw [List.drop_zero] at h4;exact h4⟩
theorem toWantS_l0 (l:List WL) (hl:l.length≤1048576) (he:∀ x ∈ l,FitW (cvW x)) (m:Nat):∀ (i:Nat),l.length=i+m →
    Ev (fun k=>jx.l0 k l ((l.map cvW).take i ++ List.replicate m qaM) i) (l.map cvW):=by
  induction m with
  | zero =>
    intro i hi;refine Ev.step (f:=fun _=>some (l.map cvW)) (fun k=>?_) (Ev.now _);simp only [jx.l0];rw [if_neg (by omega),List.take_of_length_le (by simp;omega)];simp
  | succ m ih =>
    intro i hi;have hil:i < l.length:=by omega
    have hil':i < (l.map cvW).length:=by simpa using hil
    obtain ⟨f0,f4,f5,f6⟩:=he _ (List.getElem_mem hil);have ht:=toWant l[i].f0.f0.f0 l[i].f0.f1 l[i].f0.f2 l[i].f0.f3 l[i].f0.f4.f0 l[i].f0.f5 l[i].f0.f6 l[i].f1 l[i].f2 f0 f4 f5 f6;have hs:=setR_prefix qaM (l.map cvW) i hil' m;have hlen:((l.map cvW).take i ++ List.replicate (m+1) qaM).length=l.length:=by simp;omega
    generalize (l.map cvW).take i ++ List.replicate (m+1) qaM=L at hs hlen;refine Ev.step (f:=fun k=>(YH.f k l[i].f0.f0.f0 l[i].f0.f1 l[i].f0.f2 l[i].f0.f3 l[i].f0.f4.f0 l[i].f0.f5 l[i].f0.f6 l[i].f1 l[i].f2).bind fun b=>if (i:Int) < (L.length:Int) then jx.l0 k l (L.set ((i:Int)).toNat ⟨⟨⟨b.1⟩,b.2.1,b.2.2.1,b.2.2.2.1,⟨b.2.2.2.2.1⟩,b.2.2.2.2.2.1,b.2.2.2.2.2.2.1⟩,b.2.2.2.2.2.2.2.1,b.2.2.2.2.2.2.2.2⟩) (wrap64 ((i:Int)+1)) else none) (fun k=>?_) (Ev.bind ht ?_)
    · simp only [jx.l0]
      rw [if_pos (by omega),if_pos (by omega),rdWL l i hil]
    · simp only [if_pos (show (i:Int) < (L.length:Int) by omega),show ((i:Int)).toNat=i by omega,w64 (x:=(i:Int)+1) (by omega) (by omega)]
      have e:(⟨⟨⟨l[i].f0.f0.f0⟩,l[i].f0.f1,l[i].f0.f2,l[i].f0.f3,⟨l[i].f0.f4.f0⟩,l[i].f0.f5,l[i].f0.f6⟩,l[i].f1,l[i].f2⟩:WI)=(l.map cvW)[i]:=by simp [cvW,cvR]
      rw [e,hs];exact ih (i+1) (by omega)
theorem toWantS (l:List WL) (hl:l.length≤1048576) (he:∀ x ∈ l,FitW (cvW x)):Ev (fun k=>jx.f k l) (l.map cvW):=by
  have h:=toWantS_l0 l hl he l.length 0 (by omega);unfold jx.f;simp only [if_pos (show 0≤(l.length:Int) by omega),show ((l.length:Int)).toNat=l.length by omega,if_pos (show l.length≤2069668946401 by omega)];simpa using h
theorem eqWantS_l0 (l:List WI) (hl:l.length≤1048576) (he:∀ x ∈ l,FitW x) (m:Nat):∀ (i:Nat),l.length=i+m→Ev (fun k=>jv.l0 k l l i) true:=by
  induction m with
  | zero =>
    intro i hi;refine Ev.step (f:=fun _=>some true) (fun k=>?_) (Ev.now _);simp only [jv.l0];rw [if_neg (by omega)]
  | succ m ih =>
    intro i hi;have hil:i < l.length:=by omega
    obtain ⟨f0,f4,f5,f6⟩:=he _ (List.getElem_mem hil);have ht:=eqWant l[i].f0.f0.f0 l[i].f0.f1 l[i].f0.f2 l[i].f0.f3 l[i].f0.f4.f0 l[i].f0.f5 l[i].f0.f6 l[i].f1 l[i].f2 f0 f4 f5 f6;refine Ev.step (f:=fun k=>(Yb.f k l[i].f0.f0.f0 l[i].f0.f1 l[i].f0.f2 l[i].f0.f3 l[i].f0.f4.f0 l[i].f0.f5 l[i].f0.f6 l[i].f1 l[i].f2 l[i].f0.f0.f0 l[i].f0.f1 l[i].f0.f2 l[i].f0.f3 l[i].f0.f4.f0 l[i].f0.f5 l[i].f0.f6 l[i].f1 l[i].f2).bind fun b=>if b=true then jv.l0 k l l (wrap64 ((i:Int)+1)) else some false) (fun k=>?_) (Ev.bind ht ?_)
    · simp only [jv.l0]
      rw [if_pos (by omega),if_pos (by omega),if_pos (by omega),rdWI l i hil]
    · simp only [if_true,w64 (x:=(i:Int)+1) (by omega) (by omega)]
      exact ih (i+1) (by omega)
theorem eqWantS (l:List WI) (hl:l.length≤1048576) (he:∀ x ∈ l,FitW x):Ev (fun k=>jv.f k l l) true:=by
  unfold jv.f;simp only [if_true];exact eqWantS_l0 l hl he l.length 0 (by omega)
def okW (x:WI):Bool:=wantOkV x.f0.f0.f0 x.f0.f1 x.f0.f2 x.f0.f3 x.f0.f4.f0 x.f0.f5 x.f0.f6 x.f1 x.f2
theorem idx_allW (q:Nat→WI→Option Bool) (v:WI→Bool):∀ (l:List WI) (j:Nat),(∀ x ∈ l,Ev (fun k=>q k x) (v x))→∃ r:Int,Ev (fun k=>Qf.idx (fun x=>(q k x).map (fun b=>!b)) l j) r∧(!decide (0≤r))=l.all v
  | [],j,_=>⟨-1,Ev.here (fun _=>rfl),by simp⟩
  | x :: l,j,h=>by
    have hx:=h x List.mem_cons_self;obtain ⟨r,hr,e⟩:=idx_allW q v l (j+1) (fun y hy=>h y (List.mem_cons_of_mem _ hy));simp only [Qf.idx,Option.bind_map];cases hv:v x with
    | true =>
      rw [hv] at hx;refine ⟨r,Ev.bind hx ?_,by rw [e];simp [hv]⟩;simpa using hr
    | false =>
      rw [hv] at hx;refine ⟨j,Ev.bind hx ?_,by simp [hv]⟩;simpa using Ev.now _
theorem allOkW (L:List WI) (ht:∀ x ∈ L,I64W x):Ev (fun k=>yI.f k L) (L.all okW):=by
  obtain ⟨r,hr,e⟩:=idx_allW (fun k x=>yI.q k x) okW L 0 (fun x hx=>implWantOk _ _ _ _ _ _ _ _ _ (ht x hx));unfold yI.f;rw [← e];obtain ⟨n,hn⟩:=hr;exact ⟨n,fun k hk=>by have h:=hn k hk;have h:Qf.idx (fun x=>(yI.q k x).map (fun b=>!b)) L 0=some r:=h;show Option.map (fun r=>!decide (0≤r)) (Qf.idx (fun x=>(yI.q k x).map (fun b=>!b)) L 0)=_;rw [h];rfl⟩
end Go.Proofs.YtfddbkaoghdfgaaGreat.Pure

namespace Go.Proofs.YtfddbkaoghdfgaaGreat.Pure
open Go Go.RowKit Go.Proofs.YtfddbkaoghdfgaaGreat.Q Go.Proofs.YtfddbkaoghdfgaaGreatW.PrintWords Go.Proofs.YtfddbkaoghdfgaaGreatW.PrintLast Go.Proofs.YtfddbkaoghdfgaaGreatW.PrintMore
set_option linter.unusedVariables false
set_option linter.unusedSimpArgs false
theorem ktype_in {t:Int} (h:typeOkV t=true):0≤t∧t≤65535:=by
  unfold typeOkV at h;simp only [Bool.or_eq_true,beq_iff_eq] at h;omega
theorem kasked_in {t:Int} (h:askedV t=true):0≤t∧t≤65535:=by
  unfold askedV at h;simp only [Bool.or_eq_true,beq_iff_eq] at h;rcases h with h | h
  · exact ktype_in h
  · omega
theorem wantOk_parts {x:WI} (h:okW x=true):qK.v x.f0.f0.f0=true∧(0≤x.f0.f1∧x.f0.f1≤65535)∧(0≤x.f1∧x.f1≤65535)∧(x.f2=false→rrOkV x.f0.f0.f0 x.f0.f1 x.f0.f2 x.f0.f3 x.f0.f4.f0 x.f0.f5 x.f0.f6=true):=by
  unfold okW wantOkV at h;by_cases hc:x.f1=1∨x.f1=254∨x.f1=255
  · rw [if_pos hc] at h
    cases hb:x.f2 with
    | true =>
      rw [hb,if_pos rfl] at h;simp only [Bool.and_eq_true] at h;exact ⟨h.2.1,kasked_in h.2.2.1,by omega,fun h'=>by cases h'⟩
    | false =>
      rw [hb,if_neg (by decide)] at h;simp only [Bool.and_eq_true] at h;exact ⟨(rrOk_parts h.2.1).1,ktype_in (rrOk_parts h.2.1).2.1,by omega,fun _=>h.2.1⟩
  · rw [if_neg hc] at h;cases h
def wantsV (L:List WI):Bool:=decide (L.length≤12) && L.all okW
theorem specWants_l0 (L:List WI) (hl:L.length≤12) (he:∀ x ∈ L,FitW x) (m:Nat):∀ (i:Nat),L.length=i+m→Ev (fun k=>zY.l0 k L i) ((L.drop i).all okW):=by
  induction m with
  | zero =>
    intro i hi;refine Ev.step (f:=fun _=>some ((L.drop i).all okW)) (fun k=>?_) (Ev.now _);simp only [zY.l0];rw [if_neg (by omega),List.drop_of_length_le (by omega)];rfl
  | succ m ih =>
    intro i hi;have hil:i < L.length:=by omega
    obtain ⟨f0,f4,f5,f6⟩:=(he _ (List.getElem_mem hil):FitR _);have ht:=specWantOk L[i].f0.f0.f0 L[i].f0.f1 L[i].f0.f2 L[i].f0.f3 L[i].f0.f4.f0 L[i].f0.f5 L[i].f0.f6 L[i].f1 L[i].f2 f0 f4;refine Ev.step (f:=fun k=>(zp.f k L[i].f0.f0.f0 L[i].f0.f1 L[i].f0.f2 L[i].f0.f3 L[i].f0.f4.f0 L[i].f0.f5 L[i].f0.f6 L[i].f1 L[i].f2).bind fun qS=>if qS=true then zY.l0 k L (wrap64 ((i:Int)+1)) else some false) (fun k=>?_) (Ev.bind ht ?_)
    · simp only [zY.l0]
      rw [if_pos (by omega),if_pos (by omega),rdWI L i hil]
    · rw [List.drop_eq_getElem_cons hil,List.all_cons]
      rw [show okW L[i]=wantOkV L[i].f0.f0.f0 L[i].f0.f1 L[i].f0.f2 L[i].f0.f3 L[i].f0.f4.f0 L[i].f0.f5 L[i].f0.f6 L[i].f1 L[i].f2 from rfl];cases wantOkV L[i].f0.f0.f0 L[i].f0.f1 L[i].f0.f2 L[i].f0.f3 L[i].f0.f4.f0 L[i].f0.f5 L[i].f0.f6 L[i].f1 L[i].f2 with
      | true =>
        simp only [if_true,w64 (x:=(i:Int)+1) (by omega) (by omega),Bool.true_and];exact ih (i+1) (by omega)
      | false=>simp only [Bool.false_eq_true,if_false,Bool.false_and];exact Ev.now _
theorem specWants (L:List WI) (he:∀ x ∈ L,FitW x):Ev (fun k=>zY.f k L) (wantsV L):=by
  unfold zY.f wantsV;by_cases h:(L.length:Int) > 12
  · rw [decide_eq_false (by omega)];simp only [if_pos h];exact Ev.now _
  · rw [decide_eq_true (by omega)];simp only [if_neg h];exact specWants_l0 L (by omega) he L.length 0 (by omega)
theorem implWants (L:List WI) (ht:∀ x ∈ L,I64W x):Ev (fun k=>ZA.f k L) (wantsV L):=by
  unfold ZA.f wantsV;by_cases h:(L.length:Int)≤12
  · rw [decide_eq_true (by omega)];simp only [if_pos h];exact Ev.bind (allOkW L ht) (Ev.now _)
  · rw [decide_eq_false (by omega)];simp only [if_neg h];exact Ev.now _
end Go.Proofs.YtfddbkaoghdfgaaGreat.Pure

namespace Go.Proofs.YtfddbkaoghdfgaaGreat.Pure
open Go Go.RowKit Go.Proofs.YtfddbkaoghdfgaaGreat.Q Go.Proofs.YtfddbkaoghdfgaaGreatW.PrintWords Go.Proofs.YtfddbkaoghdfgaaGreatW.PrintLast Go.Proofs.YtfddbkaoghdfgaaGreatW.PrintMore
set_option linter.unusedVariables false
set_option linter.unusedSimpArgs false
theorem bl_tri:∀ A B:List UInt8,Op.bytesLess A B=true ↔ ¬ Op.bytesLess B A=true∧A≠B
  | [],[]=>by simp [Op.bytesLess]
  | [],_ :: _=>by simp [Op.bytesLess]
  | _ :: _,[]=>by simp [Op.bytesLess]
  | x :: A,y :: B=>by
    have ih:=bl_tri A B;simp only [Op.bytesLess];rcases Nat.lt_trichotomy x.toNat y.toNat with h | h | h
    · have h1:x < y:=UInt8.lt_iff_toNat_lt.2 h
      have h2:¬ y < x:=fun c=>by have:=UInt8.lt_iff_toNat_lt.1 c;omega
      have h3:x≠y:=fun c=>by rw [c] at h;omega
      have h4:y≠x:=fun c=>h3 c.symm
      simp [h1,h2,h3,h4]
    · have h3:x=y:=UInt8.toNat_inj.1 h
      subst h3;have h1:¬ x < x:=fun c=>by have:=UInt8.lt_iff_toNat_lt.1 c;omega
      simp only [h1,decide_false,Bool.false_or,BEq.rfl,Bool.true_and,ih,ne_eq,List.cons.injEq,true_and]
    · have h1:y < x:=UInt8.lt_iff_toNat_lt.2 h
      have h2:¬ x < y:=fun c=>by have:=UInt8.lt_iff_toNat_lt.1 c;omega
      have h3:x≠y:=fun c=>by rw [c] at h;omega
      simp [h1,h2,h3]
theorem bl_trans:∀ A B C:List UInt8,Op.bytesLess A B=true→Op.bytesLess B C=true→Op.bytesLess A C=true
  | [],[],_,h,_=>by simp [Op.bytesLess] at h
  | [],_ :: _,[],_,h=>by simp [Op.bytesLess] at h
  | [],_ :: _,_ :: _,_,_=>by simp [Op.bytesLess]
  | _ :: _,[],_,h,_=>by simp [Op.bytesLess] at h
  | _ :: _,_ :: _,[],_,h=>by simp [Op.bytesLess] at h
  | x :: A,y :: B,z :: C,h,k=>by
    have ih:=bl_trans A B C;simp only [Op.bytesLess,Bool.or_eq_true,decide_eq_true_eq,Bool.and_eq_true,beq_iff_eq] at h k ⊢;rcases h with h | ⟨rfl,h⟩
    · rcases k with k | ⟨rfl,k⟩
      · exact .inl (UInt8.lt_iff_toNat_lt.2 (by have:=UInt8.lt_iff_toNat_lt.1 h;have:=UInt8.lt_iff_toNat_lt.1 k;omega))
      · exact .inl h
    · rcases k with k | ⟨rfl,k⟩
      · exact .inl k
      · exact .inr ⟨rfl,ih h k⟩
theorem cb_val (a b:List Int):cb a b=if Op.bytesLess (strOfNums a).toList (strOfNums b).toList=true then -1 else if ((strOfNums a).toList == (strOfNums b).toList)=true then 0 else 1:=rfl
theorem cb_neg (a b:List Int):cb a b < 0 ↔ Op.bytesLess (strOfNums a).toList (strOfNums b).toList=true:=by
  rw [cb_val];split
  · simp [*]
  · split <;> simp [*]
theorem cb_pos (a b:List Int):0 < cb a b ↔ ¬ Op.bytesLess (strOfNums a).toList (strOfNums b).toList=true∧(strOfNums a).toList≠(strOfNums b).toList:=by
  rw [cb_val];split
  · simp [*]
  · split
    · rename_i h;have:=eq_of_beq h;simp [*]
    · rename_i h;exact ⟨fun _=>⟨by assumption,fun e=>h (by rw [e];exact BEq.rfl)⟩,fun _=>by omega⟩
theorem cbL:CmpLaw cb (fun _=>True) where
  sym x y _ _:=by rw [cb_neg,cb_pos,bl_tri];exact ⟨fun h=>⟨h.1,fun e=>h.2 e.symm⟩,fun h=>⟨h.1,fun e=>h.2 e.symm⟩⟩
  trans x y z _ _ _ h k:=by
    have p1:¬ 0 < cb x y:=by omega
    have p2:¬ 0 < cb y z:=by omega
    suffices ¬ 0 < cb x z by omega
    rw [cb_pos] at p1 p2 ⊢;rintro ⟨h1,h2⟩;by_cases e1:(strOfNums x).toList=(strOfNums y).toList
    · rw [e1] at h1 h2
      exact p2 ⟨h1,h2⟩
    · have q1:Op.bytesLess (strOfNums x).toList (strOfNums y).toList=true:=by
        by_cases c:Op.bytesLess (strOfNums x).toList (strOfNums y).toList=true
        · exact c
        · exact absurd ⟨c,e1⟩ p1
      by_cases e2:(strOfNums y).toList=(strOfNums z).toList
      · rw [e2] at q1;exact h1 q1
      · have q2:Op.bytesLess (strOfNums y).toList (strOfNums z).toList=true:=by
          by_cases c:Op.bytesLess (strOfNums y).toList (strOfNums z).toList=true
          · exact c
          · exact absurd ⟨c,e2⟩ p2
        exact h1 (bl_trans _ _ _ q1 q2)
section
variable {α:Type} {f:α→α→Int} {G:α→Prop}
theorem lex_sym (h:CmpLaw f G) {x y:α} (hx:G x) (hy:G y) {p q:Int} (e:p < 0 ↔ 0 < q):(if f x y=0 then p else f x y) < 0 ↔ 0 < (if f y x=0 then q else f y x):=by
  by_cases e0:f x y=0
  · rw [if_pos e0,if_pos (h.same_sym hx hy e0)];exact e
  · rw [if_neg e0,if_neg (fun c=>e0 (h.same_sym hy hx c))];exact h.sym x y hx hy
theorem lex_trans (h:CmpLaw f G) {x y z:α} (hx:G x) (hy:G y) (hz:G z) {p q r:Int} (e:p≤0→q≤0→r≤0) (h1:(if f x y=0 then p else f x y)≤0) (h2:(if f y z=0 then q else f y z)≤0):(if f x z=0 then r else f x z)≤0:=by
  by_cases e1:f x y=0
  · rw [if_pos e1] at h1
    by_cases e2:f y z=0
    · rw [if_pos e2] at h2
      rw [if_pos (h.same_trans hx hy hz e1 e2)];exact e h1 h2
    · rw [if_neg e2] at h2
      have:=h.same_lt hx hy hz e1 (by omega);rw [if_neg (by omega)];omega
  · rw [if_neg e1] at h1
    have h3:f x z < 0:=by
      by_cases e2:f y z=0
      · exact h.lt_same hx hy hz (by omega) e2
      · rw [if_neg e2] at h2
        exact h.lt_trans hx hy hz (by omega) (by omega)
    rw [if_neg (by omega)];omega
end
theorem cmpL_sym:∀ a b:List (List Int),cmpL a b < 0 ↔ 0 < cmpL b a
  | [],[]=>by simp [cmpL]
  | [],_ :: _=>by simp [cmpL]
  | _ :: _,[]=>by simp [cmpL]
  | x :: a,y :: b=>by simp only [cmpL];exact lex_sym cbL trivial trivial (cmpL_sym a b)
theorem cmpL_trans:∀ a b c:List (List Int),cmpL a b≤0→cmpL b c≤0→cmpL a c≤0
  | [],_,[],_,_=>by simp [cmpL]
  | [],_,_ :: _,_,_=>by simp [cmpL]
  | _ :: _,[],_,h,_=>by simp [cmpL] at h
  | _ :: _,_ :: _,[],_,h=>by simp [cmpL] at h
  | x :: a,y :: b,z :: c,h,k=>by simp only [cmpL] at h k ⊢;exact lex_trans cbL trivial trivial trivial (cmpL_trans a b c) h k
theorem nameL:CmpLaw nameCmpV (fun _=>True) where
  sym x y _ _:=cmpL_sym _ _
  trans x y z _ _ _:=cmpL_trans _ _ _
theorem numL:CmpLaw numV (fun _=>True) where
  sym x y _ _:=by unfold numV;split <;> split <;> (try split) <;> (try split) <;> omega
  trans x y z _ _ _:=by unfold numV;intro h k;repeat' split at h;all_goals (repeat' split at k);all_goals (repeat' split);all_goals omega
theorem cmpRL:CmpLaw cmpR (fun _=>True) where
  sym x y _ _:=lex_sym nameL trivial trivial (lex_sym numL trivial trivial (cbL.sym _ _ trivial trivial))
  trans x y z _ _ _:=lex_trans nameL trivial trivial trivial (lex_trans numL trivial trivial trivial (cbL.trans _ _ _ trivial trivial trivial))
def isOwn (x o:WI):Bool:=!o.f2 && (o.f0.f1 == x.f0.f1 && sameN o.f0.f0.f0 x.f0.f0.f0)
def ownOf (L:List WI) (x:WI):List RI:=(L.filter (isOwn x)).map (·.f0)
def inSet (n:List (List Int)) (t:Int) (r:RI):Bool:=sameN r.f0.f0 n && (t == 255 || r.f1 == t)
def setOf (R:List RI) (n:List (List Int)) (t:Int):List RI:=R.filter (inSet n t)
def setB (R:List RI) (L:List WI) (x:WI):Bool :=
  decide ((setOf R x.f0.f0.f0 x.f0.f1).length=(pick cmpR [] (ownOf L x)).length) && (setOf R x.f0.f0.f0 x.f0.f1).all fun b=>(pick cmpR [] (ownOf L x)).any fun w=>cmpR w b == 0
def setsB (R:List RI):List WI→List WI→Bool
  | _,[]=>true
  | L,x :: M=>(x.f2 || setB R L x) && setsB R L M
theorem join_set (R:List RI) (L:List WI) (x:WI) {r:RI} {l:List RI} (hp:(r :: l).Perm (ownOf L x)) (hs:(r :: l).Pairwise (fun x y=>cmpR x y≤0)) (hR:R.Pairwise (fun x y=>cmpR x y < 0)) :
    ((r :: kp cmpR r l).length=(setOf R x.f0.f0.f0 x.f0.f1).length∧∀ i (hi:i < (r :: kp cmpR r l).length) (hj:i < (setOf R x.f0.f0.f0 x.f0.f1).length),cmpR (r :: kp cmpR r l)[i] (setOf R x.f0.f0.f0 x.f0.f1)[i]=0) ↔ setB R L x=true:=by
  obtain ⟨h1,h2,h3,h4⟩:=pick_laws cmpRL (ownOf L x) [] (fun _ _=>trivial) (fun _ h=>by cases h) List.Pairwise.nil;have:=sets_same (cf:=cmpR) (G:=fun _=>True) cmpRL (own:=ownOf L x) (l:=l) (W:=pick cmpR [] (ownOf L x)) (B:=setOf R x.f0.f0.f0 x.f0.f1) (r:=r) (fun z=>hp.mem_iff) hs (fun _ _=>trivial) (fun _ _=>trivial) (hR.filter _) h1 (fun w hw=>(h3 w hw).resolve_left (fun h=>by cases h)) h4;rw [this];unfold setB;rw [Bool.and_eq_true,decide_eq_true_eq,List.all_eq_true];refine and_congr_right (fun _=>⟨fun h b hb=>?_,fun h b hb=>?_⟩)
  · obtain ⟨w,hw,e⟩:=h b hb
    exact List.any_eq_true.2 ⟨w,hw,by rw [beq_iff_eq];exact e⟩
  · obtain ⟨w,hw,e⟩:=List.any_eq_true.1 (h b hb)
    exact ⟨w,hw,by rw [beq_iff_eq] at e;exact e⟩
theorem run_sorted (o:List (List Int)) (L:List RI) (m:Nat):∀ (i:Nat) (s:Int),L.length=i+m→run o L m i s=true→∀ j,i≤j→1≤j→(hj:j < L.length)→cmpR (L[j - 1]'(by omega)) L[j] < 0:=by
  induction m with
  | zero=>intro i s hi _ j h1 h2 hj;omega
  | succ m ih =>
    intro i s hi h j h1 h2 hj;have hil:i < L.length:=by omega
    rw [run_at o L m i s hil,Bool.and_eq_true] at h;by_cases e:j=i
    · subst e
      have:=h.1;unfold good at this;simp only [Bool.and_eq_true,Bool.or_eq_true,beq_iff_eq,decide_eq_true_eq] at this;have h3:=this.2.2.1;rw [getD_at L (j - 1) (by omega)] at h3;rcases h3 with h3 | h3
      · omega
      · exact h3
    · exact ih (i+1) _ (by omega) h.2 j (by omega) h2 hj
theorem pairwise_of_next {α:Type} {p:α→α→Prop} (ht:∀ x y z,p x y→p y z→p x z):∀ (L:List α),(∀ j (h1:1≤j) (hj:j < L.length),p (L[j - 1]'(by omega)) L[j])→L.Pairwise p
  | [],_=>List.Pairwise.nil
  | [a],_=>List.pairwise_singleton _ _
  | a :: b :: L,h=>by
    have ih:=pairwise_of_next ht (b :: L) (fun j h1 hj=>by
      have:=h (j+1) (by omega) (by simp only [List.length_cons] at hj ⊢;omega);obtain ⟨k,rfl⟩:∃ k,j=k+1:=⟨j - 1,by omega⟩
      simpa using this)
    have h0:p a b:=h 1 (Nat.le_refl _) (by simp);refine List.pairwise_cons.2 ⟨fun z hz=>?_,ih⟩;rcases List.mem_cons.1 hz with rfl | hz
    · exact h0
    · exact ht _ _ _ h0 ((List.pairwise_cons.1 ih).1 z hz)
theorem zone_sorted {o:List (List Int)} {L:List RI} (h:zoneOkV o L=true):L.Pairwise (fun x y=>cmpR x y < 0):=by
  unfold zoneOkV at h;simp only [Bool.and_eq_true,decide_eq_true_eq] at h;have hn:∀ j (h1:1≤j) (hj:j < L.length),cmpR (L[j - 1]'(by omega)) L[j] < 0:=fun j h1 hj=>run_sorted o L L.length 0 0 (by omega) h.2.2 j (Nat.zero_le _) h1 hj
  exact pairwise_of_next (p:=fun x y=>cmpR x y < 0) (fun x y z h1 h2=>cmpRL.lt_trans (x:=x) (y:=y) (z:=z) trivial trivial trivial h1 h2) L hn
theorem run_ok (o:List (List Int)) (L:List RI) (m:Nat):∀ (i:Nat) (s:Int),L.length=i+m→run o L m i s=true→∀ x ∈ L.drop i,okR x=true:=by
  intro i s hi h x hx;by_cases c:okR x=true
  · exact c
  · have:=run_false o L m i s hi ⟨x,hx,by simpa using c⟩
    rw [this] at h;cases h
theorem zone_ok {o:List (List Int)} {L:List RI} (h:zoneOkV o L=true):qK.v o=true∧L.length≤60∧∀ x ∈ L,okR x=true:=by
  unfold zoneOkV at h;simp only [Bool.and_eq_true,decide_eq_true_eq] at h;exact ⟨h.1,h.2.1,fun x hx=>run_ok o L L.length 0 0 (by omega) h.2.2 x (by simpa using hx)⟩
end Go.Proofs.YtfddbkaoghdfgaaGreat.Pure

namespace Go.Proofs.YtfddbkaoghdfgaaGreat.Q
open Go.RowKit Go Go.Proofs Go.Sort Go.Proofs.YtfddbkaoghdfgaaGreatW.PrintWords Go.Proofs.YtfddbkaoghdfgaaGreatW.PrintLast Go.Proofs.YtfddbkaoghdfgaaGreatW.PrintMore
set_option linter.unusedVariables false
def Fn {α:Type} (d:Kd α):Prop:=∀ w x y cs,d.K w x cs→d.K w y cs→x=y
theorem fn_scalar {α:Type} {enc:α→Value} {h1:∀ x,(enc x).oneCell'=true} (hi:∀ x y,enc x=enc y→x=y):Fn (Kd.scalar enc h1):=fun w x y cs h k=>hi x y (by
  have e:[enc x]=[enc y]:=(show cs=[enc x] from h).symm.trans (show cs=[enc y] from k)
  injection e)
theorem fn_int (k:IntKind):Fn (Kd.int k):=fn_scalar (fun x y e=>by injection e)
theorem fn_slice {α:Type} {d:Kd α} (e:Nat) (h:Fn d):Fn (Kd.slice e d):=by
  rintro w x y cs ⟨A,c,rfl,hl,hr⟩ ⟨A',c',he,hl',hr'⟩;simp only [List.cons.injEq,Value.slice.injEq,and_true] at he;obtain ⟨rfl,hlen,rfl⟩:=he;refine List.ext_getElem hlen (fun i h1 h2=>?_);obtain ⟨ad,cc,ha,hcl,hk,hc⟩:=Kd.C_get hr x[i] (i:Int) (by omega) (by omega);obtain ⟨ad',cc',ha',hcl',hk',hc'⟩:=Kd.C_get hr' x[i] (i:Int) (by omega) (by omega);rw [ha] at ha';injection ha' with ha'
  subst ha'
  have hcc:cc=cc':=by
    refine List.ext_getElem (by omega) (fun j j1 j2=>?_);have e1:=hc j _ (List.getElem?_eq_getElem j1);have e2:=hc' j _ (List.getElem?_eq_getElem j2);rw [e1] at e2;injection e2
  subst hcc;have:=h w _ _ _ hk hk';simp only [Int.toNat_natCast,List.getD_eq_getElem?_getD,List.getElem?_eq_getElem h1,List.getElem?_eq_getElem h2,Option.getD_some] at this;exact this
theorem fn_pair {α β:Type} {a:Kd α} {b:Kd β} (ha:Fn a) (hb:Fn b):Fn (Kd.pair a b):=by
  rintro w ⟨x1,x2⟩ ⟨y1,y2⟩ cs ⟨c0,c1,rfl,h0,h1⟩ ⟨d0,d1,e,k0,k1⟩;have hl:c0.length=d0.length:=(a.K_len h0).trans (a.K_len k0).symm;obtain ⟨rfl,rfl⟩:=List.append_inj e hl;have e1:x1=y1:=ha w _ _ _ h0 k0;have e2:x2=y2:=hb w _ _ _ h1 k1;rw [e1,e2]
theorem fn_iso {α β:Type} {d:Kd α} (f:β→α) (hf:∀ x y,f x=f y→x=y) (h:Fn d):Fn (Kd.iso d f):=fun w x y cs hx hy=>hf x y (h w _ _ cs hx hy)
theorem fn_name:Fn k65:=fn_iso (fun x:S65=>x.f0) (fun x y e=>by cases x;cases y;cases e;rfl) (fn_slice _ (fn_slice _ (fn_int _)))
theorem fn_rr:Fn jR:=fn_iso (fun x:qY=>(x.f0,x.f1,x.f2,x.f3,x.f4,x.f5,x.f6)) (fun x y e=>by cases x;cases y;cases e;rfl) (fn_pair fn_name (fn_pair (fn_int _) (fn_pair (fn_int _) (fn_pair (fn_int _) (fn_pair fn_name (fn_pair (fn_slice _ (fn_int _)) (fn_slice _ (fn_int _))))))))
abbrev RI:=qY
abbrev WI:=zm
def RecAt (w:World) (e:El) (x:RI):Prop:=jR.K w x e.enc
theorem RecAt.below {w W:World} {e:El} {x:RI} (h:RecAt w e x) (hb:Below w.heap.size w W):RecAt W e x:=Kd.K_below _ hb h
theorem el_of {w:World} {x:RI} {cs:List Value} (h:jR.K w x cs):∃ e:El,cs=e.enc∧RecAt w e x:=by
  have h':=h;obtain ⟨c0,_,rfl,⟨A0,k0,rfl,_⟩,c1,_,rfl,h1,c2,_,rfl,h2,c3,_,rfl,h3,c4,_,rfl,⟨A4,k4,rfl,_⟩,c5,c6,rfl,⟨A5,k5,rfl,_⟩,⟨A6,k6,rfl,_⟩⟩:=h;cases h1;cases h2;cases h3;exact ⟨⟨A0,_,k0,_,_,_,A4,_,k4,A5,_,k5,A6,_,k6⟩,rfl,h'⟩
structure Parts (w:World) (e:El) (x:RI):Prop where
  n0:e.n0=x.f0.f0.length
  ty:e.ty=x.f1
  tl:e.tl=x.f2
  ad:e.ad=x.f3
  n4:e.n4=x.f4.f0.length
  n5:e.n5=x.f5.length
  n6:e.n6=x.f6.length
  r0:Kd.C (Kd.slice 27 (Kd.int .u8)) w e.A0 x.f0.f0.length x.f0.f0
  l0:x.f0.f0.length≤e.c0
  r4:Kd.C (Kd.slice 27 (Kd.int .u8)) w e.A4 x.f4.f0.length x.f4.f0
  l4:x.f4.f0.length≤e.c4
  r5:Kd.C (Kd.int .u8) w e.A5 x.f5.length x.f5
  l5:x.f5.length≤e.c5
  r6:Kd.C (Kd.int .i64) w e.A6 x.f6.length x.f6
  l6:x.f6.length≤e.c6
theorem RecAt.parts {w:World} {e:El} {x:RI} (h:RecAt w e x):Parts w e x:=by
  unfold RecAt at h;obtain ⟨c0,_,e1,⟨A0,k0,rfl,l0,r0⟩,c1,_,rfl,h1,c2,_,rfl,h2,c3,_,rfl,h3,c4,_,rfl,⟨A4,k4,rfl,l4,r4⟩,c5,c6,rfl,⟨A5,k5,rfl,l5,r5⟩,⟨A6,k6,rfl,l6,r6⟩⟩:=h;cases h1;cases h2;cases h3;obtain ⟨a0,a1,a2,a3,a4,a5,a6,a7,a8,a9,a10,a11,a12,a13,a14⟩:=e;simp only [El.enc,List.cons_append,List.nil_append,List.cons.injEq,Value.slice.injEq,Value.int.injEq,true_and,and_true] at e1;obtain ⟨⟨rfl,rfl,rfl⟩,rfl,rfl,rfl,⟨rfl,rfl,rfl⟩,⟨rfl,rfl,rfl⟩,rfl,rfl,rfl⟩:=e1;exact ⟨rfl,rfl,rfl,rfl,rfl,rfl,rfl,r0,l0,r4,l4,r5,l5,r6,l6⟩
open Classical in
noncomputable def dec (w:World) (e:El):RI:=if h:∃ x,RecAt w e x then h.choose else QR
theorem dec_eq {w:World} {e:El} {x:RI} (h:RecAt w e x):dec w e=x:=by
  unfold dec;rw [dif_pos ⟨x,h⟩];exact fn_rr w _ _ _ (Exists.choose_spec (⟨x,h⟩:∃ x,RecAt w e x)) h
noncomputable def cfW (w:World) (x y:El):Int:=Pure.cmpR (dec w x) (dec w y)
noncomputable def smW (w:World) (x y:El):Bool:=cfW w x y == 0
theorem lt_iff (w:World) (x y:El):ltOf (cfW w) x y=true ↔ Pure.cmpR (dec w x) (dec w y) < 0:=⟨fun h=>of_decide_eq_true h,fun h=>decide_eq_true h⟩
theorem nlt_iff (w:World) (x y:El):ltOf (cfW w) x y=false ↔ ¬ Pure.cmpR (dec w x) (dec w y) < 0:=⟨fun h=>of_decide_eq_false h,fun h=>decide_eq_false h⟩
theorem swo_cf (w:World):SWO (ltOf (cfW w)) where
  irrefl x:=by
    have h:=Pure.cmpRL.refl (x:=dec w x) trivial;rw [nlt_iff];omega
  trans x y z h k:=by
    rw [lt_iff] at *;exact Pure.cmpRL.lt_trans trivial trivial trivial h k
  ntrans x y z h k:=by
    rw [nlt_iff] at *;have s1:=Pure.cmpRL.sym (dec w y) (dec w x) trivial trivial;have s2:=Pure.cmpRL.sym (dec w z) (dec w y) trivial trivial;have s3:=Pure.cmpRL.sym (dec w x) (dec w z) trivial trivial;have s4:=Pure.cmpRL.sym (dec w x) (dec w y) trivial trivial;have s5:=Pure.cmpRL.sym (dec w y) (dec w z) trivial trivial;have s6:=Pure.cmpRL.sym (dec w z) (dec w x) trivial trivial;have t:=Pure.cmpRL.trans (dec w z) (dec w y) (dec w x) trivial trivial trivial (by omega) (by omega);omega
theorem sorted_recs (w:World) (d:Array El):(Sort.insertionSort (ltOf (cfW w)) d 0 d.size).toList.Perm d.toList∧((Sort.insertionSort (ltOf (cfW w)) d 0 d.size).toList.map (dec w)).Pairwise (fun x y=>Pure.cmpR x y≤0)∧(Sort.insertionSort (ltOf (cfW w)) d 0 d.size).size=d.size:=by
  obtain ⟨⟨h1,_,h2⟩,h3⟩:=insertionSort_holds (lt:=ltOf (cfW w)) (swo_cf w) d 0 d.size (Nat.zero_le _) (Nat.le_refl _);generalize Sort.insertionSort (ltOf (cfW w)) d 0 d.size=s at h1 h2 h3;refine ⟨?_,?_,h1⟩
  · rw [← h1,Array.extract_size] at h2
    rw [h1,Array.extract_size] at h2;exact h2
  · rw [List.pairwise_iff_getElem]
    intro i j hi hj hij;simp only [List.length_map,Array.length_toList] at hi hj;simp only [List.getElem_map,Array.getElem_toList];have:=h3 i j (Nat.zero_le _) hij (by omega);rw [getElem!_pos s j hj,getElem!_pos s i hi] at this;rw [nlt_iff] at this;have:=Pure.cmpRL.sym (dec w s[j]) (dec w s[i]) trivial trivial;have:=Pure.cmpRL.sym (dec w s[i]) (dec w s[j]) trivial trivial;omega
theorem kp_snoc {α:Type} (cf:α→α→Int) (y z:α):∀ (l:List α) (r:α),(r :: l).getLast (List.cons_ne_nil _ _)=z→Pure.kp cf r (l ++ [y])=Pure.kp cf r l ++ (if cf y z=0 then [] else [y])
  | [],r,h=>by
    simp only [List.getLast_singleton] at h;subst h;simp only [List.nil_append,Pure.kp]
  | a :: l,r,h=>by
    rw [List.getLast_cons (List.cons_ne_nil _ _)] at h;have ih:=kp_snoc cf y z l a h;simp only [List.cons_append,Pure.kp,ih];split <;> simp
theorem ku_recs (w:World) (s:Array El) {r:RI} {l:List RI} (h:s.toList.map (dec w)=r :: l):∀ m,m < s.size→(ku (smW w) s (m+1)).map (dec w)=r :: Pure.kp Pure.cmpR r (l.take m):=by
  have hl:s.size=l.length+1:=by have:=congrArg List.length h;simpa using this
  have at_:∀ i (hi:i < s.size),dec w s[i]! = (r :: l)[i]'(by simp;omega):=fun i hi=>by
    rw [getElem!_pos s i hi];have:(s.toList.map (dec w))[i]'(by simpa using hi)=(r :: l)[i]'(by simp;omega):=by simp only [h]
    rw [← this];simp
  intro m;induction m with
  | zero =>
    intro hm;have:=at_ 0 hm;simp only [ku,keepAt,List.nil_append,List.take_zero,Pure.kp];simpa using this
  | succ m ih =>
    intro hm;have hml:m < l.length:=by omega
    rw [ku_succ,List.map_append,ih (by omega),List.take_succ_eq_append_getElem hml,kp_snoc Pure.cmpR l[m] ((r :: l)[m]'(by simp;omega)) (l.take m) r (by
      rw [List.getLast_eq_getElem];simp only [List.length_cons,List.length_take];have e:min m l.length+1 - 1=m:=by omega
      simp only [e];rcases m with _ | m
      · rfl
      · simp)]
    have a1:=at_ (m+1) hm;have a0:=at_ m (by omega);simp only [List.getElem_cons_succ] at a1
    have hk:keepAt (smW w) s (m+1) = !(Pure.cmpR l[m] ((r :: l)[m]'(by simp;omega)) == 0):=by
      unfold keepAt smW cfW;rw [Nat.add_sub_cancel,a1,a0];simp
    rw [hk,List.cons_append];congr 2
    by_cases c:Pure.cmpR l[m] ((r :: l)[m]'(by simp;omega))=0
    · rw [if_pos c];simp [c]
    · rw [if_neg c];simp [c,a1]
theorem ku_mem (sm:El→El→Bool) (s:Array El):∀ m,m≤s.size→∀ e ∈ ku sm s m,e ∈ s.toList
  | 0,_,e,he=>by cases he
  | m+1,hm,e,he=>by
    rw [ku_succ] at he;rcases List.mem_append.1 he with he | he
    · exact ku_mem sm s m (by omega) e he
    · split at he
      · rw [List.mem_singleton.1 he,getElem!_pos s m hm];simp
      · cases he
theorem sets_rows (w W:World) (R:List RI) (L:List WI) (x:WI) (d d2:Array El) (hd:d.toList.map (dec w)=Pure.ownOf L x) (h2:d2.toList.map (dec W)=Pure.setOf R x.f0.f0.f0 x.f0.f1) (hw:∀ e ∈ d.toList,dec W e=dec w e) (h0:0 < d.size) (hR:R.Pairwise (fun x y=>Pure.cmpR x y < 0)) :
    eqRows (smW W) (ku (smW w) (Sort.insertionSort (ltOf (cfW w)) d 0 d.size) (Sort.insertionSort (ltOf (cfW w)) d 0 d.size).size).toArray d2=Pure.setB R L x:=by
  obtain ⟨hq,hs,hz⟩:=sorted_recs w d;generalize Sort.insertionSort (ltOf (cfW w)) d 0 d.size=s at hq hs hz;have hp:=hq.map (dec w);rw [hd] at hp
  obtain ⟨r,l,hrl⟩:∃ r l,s.toList.map (dec w)=r :: l:=by
    cases hq:s.toList.map (dec w) with
    | nil=>have h3:=congrArg List.length hq;rw [List.length_map,Array.length_toList] at h3;have h4:s.size=0:=h3;omega
    | cons r l=>exact ⟨r,l,rfl⟩
  have hl:s.size=l.length+1:=by have:=congrArg List.length hrl;simpa using this
  have hku:=ku_recs w s hrl l.length (by omega);rw [List.take_length,← hl] at hku;rw [hrl] at hp hs;have hj:=Pure.join_set R L x hp hs hR;have hm:=ku_mem (smW w) s s.size (Nat.le_refl _);generalize ku (smW w) s s.size=K at hku hm
  have qqE:K.map (dec W)=r :: Pure.kp Pure.cmpR r l:=by
    rw [← hku];exact List.map_congr_left (fun e he=>hw e (hq.mem_iff.1 (hm e he)))
  rw [← qqE,← h2] at hj;rw [Bool.eq_iff_iff,← hj];unfold eqRows;simp only [Bool.and_eq_true,decide_eq_true_eq,List.all_eq_true,List.mem_range,List.length_map,Array.length_toList,List.size_toArray,List.getElem_map,Array.getElem_toList];refine and_congr_right (fun hlen=>⟨fun h i hi hj=>?_,fun h i hi=>?_⟩)
  · have:=h i hi
    unfold smW cfW at this;rw [beq_iff_eq,getElem!_pos d2 i hj,getElem!_pos K.toArray i (by simpa using hi)] at this;simpa using this
  · have:=h i hi (by omega)
    unfold smW cfW;rw [beq_iff_eq,getElem!_pos d2 i (by omega),getElem!_pos K.toArray i (by simpa using hi)];simpa using this
def kEl:Kd El where
  sz:=7
  E:=[]
  K:=fun _ x cs=>cs=x.enc
  M:=fun _ _ _ x cs=>cs=x.enc
  K_len:=fun h=>by rw [h];rfl
  K_one:=fun h u hu=>by rw [h] at hu;exact El.one _ u hu
  K_below:=fun _ h=>h
  K_of_M:=fun h=>h
  M_mono:=fun _ h=>h
  M_bound:=fun h=>h
  M_move:=fun _ h=>h
  M_lower:=fun _ h=>h
theorem own_rowEl {w:World} {base e:Nat} {ok:Nat→Prop} {v:Value} {xs:List El} (h:kEl.R e w base ok v xs) (h0:0 < xs.length):∃ g cap,v=.slice (some ⟨g,0,none⟩) xs.length cap∧xs.length≤cap∧cap≤maxLen∧base≤g∧g < w.heap.size∧HoldsK El.enc 7 w g 0 xs.toArray:=by
  obtain ⟨_,inner,⟨hl,ho⟩,hr⟩:=h;rcases ho with ⟨_,ho⟩ | ⟨g,cap,cur,rfl,hg,hh,hc,hm,hz,ht⟩
  · omega
  refine ⟨g,cap,rfl,hc,hm,hg,blk_lt hh,fun j hj=>?_⟩;rw [size_flatK] at hj;simp only [List.size_toArray] at hj;have hq:j / 7 < xs.length:=by omega
  have h3:(inner.drop (j / 7 * 7)).take 7=xs[j / 7].enc:=hr.2 (j / 7) _ (List.getElem?_eq_getElem hq);have hz7:cur.size=cap * 7:=hz;have ht7:cur.toList.take (xs.length * 7)=inner:=ht;have hjc:j < cur.size:=by omega
  have hv:(flatK El.enc 7 xs.toArray)[j]! = cur[j]:=by
    rw [get_flatK _ _ _ j (by simpa using hj),getElem!_pos xs.toArray (j / 7) (by simpa using hq),List.getElem_toArray,← h3,← ht7];have hlen:(List.take 7 (List.drop (j / 7 * 7) (List.take (xs.length * 7) cur.toList))).length=7:=by simp;omega
    rw [getElem!_pos _ (j % 7) (by omega)];simp only [List.getElem_take,List.getElem_drop,Array.getElem_toList];congr 1
    omega
  rw [Nat.zero_add];refine ⟨?_,?_⟩
  · unfold World.cell?
    simp only [hh,hv,id];simp [hjc]
  · unfold World.frozen?
    simp only [hh];simp
theorem els_of {w:World}:∀ (rows:List (List Value)) (xs:List RI),rows.length=xs.length→(∀ (j:Nat) (x:RI) (c:List Value),xs[j]?=some x→rows[j]?=some c→jR.K w x c)→∃ es:List El,rows=es.map El.enc∧es.map (dec w)=xs∧∀ e ∈ es,∃ x ∈ xs,RecAt w e x
  | [],[],_,_=>⟨[],rfl,rfl,fun e he=>by cases he⟩
  | [],_ :: _,h,_=>by simp at h
  | _ :: _,[],h,_=>by simp at h
  | c :: rows,x :: xs,h,hk=>by
    obtain ⟨e,he,hr⟩:=el_of (hk 0 x c rfl rfl);obtain ⟨es,h1,h2,h3⟩:=els_of rows xs (by simpa using h) (fun j y d hy hd=>hk (j+1) y d (by simpa using hy) (by simpa using hd))
    exact ⟨e :: es,by rw [he,h1];rfl,by rw [List.map_cons,h2,dec_eq hr],fun a ha=>by
      rcases List.mem_cons.1 ha with rfl | ha
      · exact ⟨x,List.mem_cons_self,hr⟩
      · obtain ⟨y,hy,h4⟩:=h3 a ha;exact ⟨y,List.mem_cons_of_mem _ hy,h4⟩⟩
theorem N_rowEl {w:World} {base e:Nat} {ok:Nat→Prop} {v:Value} {xs:List RI} (h:Kd.N jR e w base ok v xs):∃ (A:Option Addr) (c:Nat) (d:Array El),v=.slice A d.size c∧RowAt w A d∧d.size=xs.length∧d.toList.map (dec w)=xs∧∀ a ∈ d.toList,∃ x ∈ xs,RecAt w a x:=by
  obtain ⟨A,c,hv⟩:=Kd.N_slice h;obtain ⟨_,rows,hl,⟨h0,inner,ho,hr⟩,hf⟩:=h;obtain ⟨es,e1,e2,e3⟩:=els_of (w:=w) rows xs hl (fun j x c hx hc=>Kd.FK_now (hf j x c hx hc));have hle:es.length=xs.length:=by have:=congrArg List.length e2;simpa using this
  have hR:kEl.R e w base (fun _=>True) v es:=⟨fun _ _=>trivial,inner,by rw [show es.length=rows.length by rw [e1];simp];exact ho,⟨by have h7:=hr.1;rw [show es.length=rows.length by rw [e1];simp];exact h7,fun j p hj=>(hr.2 j p.enc (by rw [e1,List.getElem?_map,hj];rfl)).1⟩⟩;refine ⟨A,c,es.toArray,by rw [hv,List.size_toArray,hle],?_,by simpa using hle,by simpa using e2,by simpa using e3⟩;by_cases hz:0 < es.length
  · obtain ⟨g,cap,hg,_,_,_,hlt,hH⟩:=own_rowEl hR hz
    rw [hv] at hg;injection hg with hg
    exact .inr ⟨g,hg,hlt,hH⟩
  · exact .inl (by simp only [List.size_toArray];omega)
theorem want_of {w:World} {x:WI} {cs:List Value} (h:yY.K w x cs):∃ e:El,cs=e.enc ++ [.int .i64 x.f1,.bool x.f2]∧RecAt w e x.f0:=by
  obtain ⟨c0,_,rfl,h0,c1,c2,rfl,h1,h2⟩:=h;cases h1;cases h2;obtain ⟨e,rfl,he⟩:=el_of h0;exact ⟨e,rfl,he⟩
theorem C_els {w W:World} {A:Option Addr} {n:Nat} {es:List El} {xs:List RI} (h:kEl.C W A n es) (hx:es.map (dec w)=xs) (hr:∀ e ∈ es,RecAt W e (dec w e)):Kd.C jR W A n xs:=by
  obtain ⟨h1,h2,h3⟩:=h;subst hx;refine ⟨by rw [List.length_map];exact h1,h2,fun hp=>?_⟩;obtain ⟨ad,ha,h4⟩:=h3 hp;refine ⟨ad,ha,fun j p hj=>?_⟩;rw [List.getElem?_map] at hj;obtain ⟨e,he,rfl⟩:=Option.map_eq_some_iff.1 hj;obtain ⟨c,hc1,hc2,hc3⟩:=h4 j e he;subst hc2;exact ⟨e.enc,hc1,hr e (List.mem_of_getElem? he),hc3⟩
theorem C_els' {w W:World} {A:Option Addr} {es:List El} (h:kEl.C W A es.length es) (hr:∀ e ∈ es,RecAt W e (dec w e)):Kd.C jR W A es.length (es.map (dec w)):=C_els h rfl hr
end Go.Proofs.YtfddbkaoghdfgaaGreat.Q

namespace Go.Proofs.YtfddbkaoghdfgaaGreat.Q
open Go.RowKit Go Go.Proofs Go.Proofs.YtfddbkaoghdfgaaGreatW.PrintWords Go.Proofs.YtfddbkaoghdfgaaGreatW.PrintLast Go.Proofs.YtfddbkaoghdfgaaGreatW.PrintMore
set_option linter.unusedVariables false
theorem cell_bl {w W:World} {p:Addr} {v:Value} (h:w.cell? p=some v) (hb:Below w.heap.size w W):W.cell? p=some v:=(hb.cell (World.block_lt_of_cell? w p h)).trans h
structure WC (W:World) (ad:Addr) (n:Nat) (e:El) (cl:Int) (b:Bool):Prop where
  h0:W.cell? (ad.add (n * 9))=some (.slice e.A0 e.n0 e.c0)
  h1:W.cell? ⟨(ad.add (n * 9)).block,(ad.add (n * 9)).off+1,none⟩=some (.int .i64 e.ty)
  h2:W.cell? ⟨(ad.add (n * 9)).block,(ad.add (n * 9)).off+2,none⟩=some (.int .i64 e.tl)
  h3:W.cell? ⟨(ad.add (n * 9)).block,(ad.add (n * 9)).off+3,none⟩=some (.int .i64 e.ad)
  h4:W.cell? ⟨(ad.add (n * 9)).block,(ad.add (n * 9)).off+4,none⟩=some (.slice e.A4 e.n4 e.c4)
  h5:W.cell? ⟨(ad.add (n * 9)).block,(ad.add (n * 9)).off+5,none⟩=some (.slice e.A5 e.n5 e.c5)
  h6:W.cell? ⟨(ad.add (n * 9)).block,(ad.add (n * 9)).off+6,none⟩=some (.slice e.A6 e.n6 e.c6)
  h7:W.cell? ⟨(ad.add (n * 9)).block,(ad.add (n * 9)).off+7,none⟩=some (.int .i64 cl)
  h8:W.cell? ⟨(ad.add (n * 9)).block,(ad.add (n * 9)).off+8,none⟩=some (.bool b)
theorem WC.below {w W:World} {ad:Addr} {n:Nat} {e:El} {cl:Int} {b:Bool} (h:WC w ad n e cl b) (hb:Below w.heap.size w W):WC W ad n e cl b :=
  ⟨cell_bl h.h0 hb,cell_bl h.h1 hb,cell_bl h.h2 hb,cell_bl h.h3 hb,cell_bl h.h4 hb,cell_bl h.h5 hb,cell_bl h.h6 hb,cell_bl h.h7 hb,cell_bl h.h8 hb⟩
theorem wants_at {w:World} {A:Option Addr} {L:List WI} (h:Kd.C yY w A L.length L) (n:Nat) (hn:n < L.length):∃ ad e,A=some ad∧WC w ad n e L[n].f1 L[n].f2∧RecAt w e L[n].f0:=by
  obtain ⟨ad,c,ha,hcl,hk,hc⟩:=Kd.C_get h qaM (n:Int) (by omega) (by omega);simp only [Int.toNat_natCast,List.getD_eq_getElem?_getD,List.getElem?_eq_getElem hn,Option.getD_some] at hk hc;obtain ⟨e,rfl,hr⟩:=want_of hk;have hc':∀ j u,(e.enc ++ [Value.int .i64 L[n].f1,Value.bool L[n].f2])[j]?=some u→w.cell? (ad.add (n * 9+j))=some u:=hc;have hx:∀ j u,0 < j→(e.enc ++ [Value.int .i64 L[n].f1,Value.bool L[n].f2])[j]?=some u→w.cell? ⟨(ad.add (n * 9)).block,(ad.add (n * 9)).off+j,none⟩=some u:=fun j u hj hu=>by rw [← add_field _ _ j hj];exact hc' j u hu
  exact ⟨ad,e,ha,⟨hc' 0 _ rfl,hx 1 _ (by omega) rfl,hx 2 _ (by omega) rfl,hx 3 _ (by omega) rfl,hx 4 _ (by omega) rfl,hx 5 _ (by omega) rfl,hx 6 _ (by omega) rfl,hx 7 _ (by omega) rfl,hx 8 _ (by omega) rfl⟩,hr⟩
def recs (R:List RI) (L:List WI):List RI:=(L.filter (fun x=>!x.f2)).map (·.f0) ++ R
theorem recs_left {R:List RI} {L:List WI} {x:WI} (h:x ∈ L) (hb:x.f2=false):x.f0 ∈ recs R L:=List.mem_append_left _ (List.mem_map.2 ⟨x,List.mem_filter.2 ⟨h,by simp [hb]⟩,rfl⟩)
theorem recs_right {R:List RI} {L:List WI} {r:RI} (h:r ∈ R):r ∈ recs R L:=List.mem_append_right _ h
structure SetsS (k:Nat) (o:List (List Int)) (R:List RI) (L:List WI):Prop where
  lenL:L.length≤12
  lenR:R.length≤60
  cmp:∀ x ∈ L,∀ y ∈ L,x.f2=false→y.f2=false→jd.f k y.f0.f0.f0 x.f0.f0.f0=some (Pure.nameCmpV y.f0.f0.f0 x.f0.f0.f0)
  all:∀ x ∈ L,x.f2=false→jl.f k o R x.f0.f0.f0 x.f0.f1=some (Pure.setOf R x.f0.f0.f0 x.f0.f1)
  place:∀ (W:List RI) (r:RI),W.length≤12→(∀ a ∈ W,a ∈ recs R L)→r ∈ recs R L→∃ v,yL.f k W r.f0.f0 r.f1 r.f2 r.f3 r.f4.f0 r.f5 r.f6=some v∧(v < 0 ↔ ¬ ∃ a ∈ W,Pure.cmpR a r=0)
open Classical in
noncomputable def jN.f (k:Nat) (qe:List (List Int)) (qc:List RI) (l1:List WI):Option Bool:=if SetsS k qe qc l1 then some (Pure.setsB qc l1 l1) else none
theorem pick_no {L:List WI} {x:WI} {W:List RI} (m:Nat) (hm:m < L.length) (h:Pure.isOwn x L[m]=false):Pure.pick Pure.cmpR W (Pure.ownOf (L.drop m) x)=Pure.pick Pure.cmpR W (Pure.ownOf (L.drop (m+1)) x):=by
  unfold Pure.ownOf;rw [List.drop_eq_getElem_cons hm,List.filter_cons,if_neg (by simp [h])]
theorem pick_yes {L:List WI} {x:WI} {W:List RI} (m:Nat) (hm:m < L.length) (h:Pure.isOwn x L[m]=true):Pure.pick Pure.cmpR W (Pure.ownOf (L.drop m) x)=Pure.pick Pure.cmpR (if ∃ a ∈ W,Pure.cmpR a L[m].f0=0 then W else W ++ [L[m].f0]) (Pure.ownOf (L.drop (m+1)) x):=by
  unfold Pure.ownOf;rw [List.drop_eq_getElem_cons hm,List.filter_cons,if_pos h,List.map_cons,Pure.pick]
theorem sets_bare {R:List RI} {L:List WI} (i:Nat) (hi:i < L.length) (h:L[i].f2=true):Pure.setsB R L (L.drop i)=Pure.setsB R L (L.drop (i+1)):=by
  rw [List.drop_eq_getElem_cons hi,Pure.setsB,h];rfl
theorem sets_one {R:List RI} {L:List WI} (i:Nat) (hi:i < L.length) (h:L[i].f2=false):Pure.setsB R L (L.drop i)=(Pure.setB R L L[i] && Pure.setsB R L (L.drop (i+1))):=by
  rw [List.drop_eq_getElem_cons hi,Pure.setsB,h];rfl
def jN.T10:Bool × List (List Nat × List Nat):=(true,[([],[]),([],[]),([0,1],[0,1]),([2],[2]),([3],[3]),([4],[4]),([5],[5]),([6],[6]),([7,6],[6,7]),([6],[6]),([6],[6]),([9,10,6],[6,9,10]),([11,6],[6,11]),([12,6],[6,12]),([13,6],[6,13]),([8,14,6,6],[6,8,14]),([15,6],[6,15]),([6,16],[6,16]),([17,15],[17]),([18],[18]),([19,18],[18,19]),([18],[18]),([18],[18]),([21,22,18],[18,21,22]),([23,18],[18,23]),([24,18],[18,24]),([25,18],[18,25]),([20,26,18],[18,20,26]),([18,27],[18,27]),([28,18],[28]),([29],[29]),([29],[29]),([30,31,29,29],[29,30,31]),([32,29],[29,32]),([29,33],[29,33])])
def jN.B10:List Nat:=[0,0,3,7,15,31,63,127,255,127,127,1663,3711,7807,15999,32767,65535,131071,262143,524287,1048575,524287,524287,6815743,15204351,31981567,65535999,134217727,268435455,536870911,1073741823,1073741823,4294967295,8589934591,17179869183]
theorem jN.tab10:rtab .any (opsOf Tryz.f143 10)=jN.T10:=by kernel_rfl
theorem jN.bits10:waitsOk jN.T10.2 jN.B10=true:=by kernel_rfl
theorem l5all_any (k:Nat) {qy:Option Addr} {qx:Nat} {qe:List (List Int)} {P:Nat→Prop} {jH:Option Addr} {ji:Nat} {qc:List RI} (w W:World) (hb:Below w.heap.size w W) (hV:Kd.V jR 105 w w.heap.size P (.slice jH qc.length ji) qc) (hR:Kd.C (Kd.slice 27 (Kd.int .u8)) w qy qe.length qe) (hC:qe.length≤qx) (e:El) (x:RI) (r:List RI) (h2:RecAt W e x) (h:jl.f k qe qc x.f0.f0 x.f1=some r) :
    Calls Tryz.prog 185 #[.agg #[.slice qy qe.length qx,.slice jH qc.length ji],.agg #[.slice e.A0 e.n0 e.c0],.int .i64 e.ty] W fun e' w'=>∃ (A:Option Addr) (c:Nat) (d:Array El),e'=.returned (.slice A d.size c)∧RowAt w' A d∧d.toList.map (dec w')=r∧(∀ a ∈ d.toList,∃ x ∈ r,RecAt w' a x)∧Below W.heap.size W w':=by
  have p:=h2.parts;rw [p.n0,p.ty];refine (jl.calls k _ _ qe P _ _ qc _ _ x.f0.f0 x.f1 r W (Kd.C_below hR hb) hC (Kd.V_below hV hb) p.r0 p.l0 h).mono ?_;rintro e' w' ⟨v,rfl,hN,hb2⟩;obtain ⟨A,c,d,rfl,h1,_,h3,h4⟩:=N_rowEl hN;exact ⟨A,c,d,rfl,h1,h3,h4,hb2⟩
theorem RowAt.gr {W W':World} {A:Option Addr} {d:Array El} [c:Nonempty (Gr W W')] (h:RowAt W A d):RowAt W' A d:=c.elim fun c=>h.below c
theorem RecAt.gr {W W':World} {e:El} {x:RI} [c:Nonempty (Gr W W')] (h:RecAt W e x):RecAt W' e x:=c.elim fun c=>h.below c
theorem meas {a n g:Nat} (h:a - n≤g) (h2:n < a):a - (n+1) < g:=by omega
theorem R_far7 {α:Type} {d:Kd α} {e:Nat} {W:World} {base:Nat} {ok:Nat→Prop} {v:Value} {xs:List α} {g:Nat} (h:d.R e W base ok v xs) (hok:∀ k,ok k→k≠g) (v0 v1 v2 v3 v4 v5 v6:Value):d.R e (((((((W.setCell ⟨g,0,none⟩ v0).setCell ⟨g,1,none⟩ v1).setCell ⟨g,2,none⟩ v2).setCell ⟨g,3,none⟩ v3).setCell ⟨g,4,none⟩ v4).setCell ⟨g,5,none⟩ v5).setCell ⟨g,6,none⟩ v6) base ok v xs :=
  Kd.R_far (p:=⟨g,6,none⟩) (Kd.R_far (p:=⟨g,5,none⟩) (Kd.R_far (p:=⟨g,4,none⟩) (Kd.R_far (p:=⟨g,3,none⟩) (Kd.R_far (p:=⟨g,2,none⟩) (Kd.R_far (p:=⟨g,1,none⟩) (Kd.R_far (p:=⟨g,0,none⟩) h hok v0) hok v1) hok v2) hok v3) hok v4) hok v5) hok v6
theorem l2cmp_any (k:Nat) (e1 e2:El) (x1 x2:RI) (r:Int) (W:World) (h1:RecAt W e1 x1) (h2:RecAt W e2 x2) (h:jd.f k x1.f0.f0 x2.f0.f0=some r):Calls Tryz.prog 140 #[.agg #[.slice e1.A0 e1.n0 e1.c0],.agg #[.slice e2.A0 e2.n0 e2.c0]] W fun e w'=>e=.returned (.int .i64 r)∧Below W.heap.size W w':=by
  have p1:=h1.parts;have p2:=h2.parts;rw [p1.n0,p2.n0];exact jd.calls k _ _ _ _ _ _ r W p1.r0 p1.l0 p2.r0 p2.l0 h
theorem place_any (k:Nat) (w W:World) (A:Option Addr) (c:Nat) (es:List El) (e:El) (x:RI) (v:Int) (base:Nat) (ok:Nat→Prop) (hO:kEl.R 105 W base ok (.slice A es.length c) es) (hg:∀ a ∈ es,RecAt W a (dec w a)) (h2:RecAt W e x) (h:yL.f k (es.map (dec w)) x.f0.f0 x.f1 x.f2 x.f3 x.f4.f0 x.f5 x.f6=some v):Calls Tryz.prog 186 #[.slice A es.length c,e.agg] W fun e w'=>e=.returned (.int .i64 v)∧Below W.heap.size W w':=by
  have p:=h2.parts;obtain ⟨_,hc,hr⟩:=Kd.R_reads' hO;have hC:=C_els' (w:=w) hr hg;have hl:(es.map (dec w)).length=es.length:=List.length_map ..;unfold El.agg;rw [p.n0,p.ty,p.tl,p.ad,p.n4,p.n5,p.n6,← hl];exact yL.calls k A c (es.map (dec w)) _ _ _ _ _ _ _ _ _ _ _ _ _ _ _ v W (by rw [hl];exact hC) (by rw [hl];exact hc) p.r0 p.l0 p.r4 p.l4 p.r5 p.l5 p.r6 p.l6 h
set_option maxHeartbeats 8000000 in
set_option maxRecDepth 100000 in
theorem jN.calls (k:Nat) (qy:Option Addr) (qx:Nat) (qe:List (List Int)) (jr:Nat→Prop) (jH:Option Addr) (ji:Nat) (qc:List RI) (P1_:Nat→Prop) (A1:Option Addr) (c1:Nat) (l1:List WI) (r:Bool) (w:World) (qO:Kd.C (Kd.slice 27 (Kd.int .u8)) w qy qe.length qe) (qW:qe.length≤qx) (qeN:Kd.V jR 105 w w.heap.size (fun k_=>jr k_) (.slice jH qc.length ji) qc) (hs1:Kd.V yY 107 w w.heap.size (fun k_=>P1_ k_) (.slice A1 l1.length c1) l1) (h:jN.f k qe qc l1=some r) :
    Calls Tryz.prog 143 #[.agg #[.slice qy qe.length qx,.slice jH qc.length ji],.slice A1 l1.length c1] w fun e w'=>e=.returned (.bool r)∧Below w.heap.size w w':=by
  have hS:SetsS k qe qc l1∧Pure.setsB qc l1 l1=r:=by
    unfold jN.f at h;split at h
    · exact ⟨‹_›,Option.some.inj h⟩
    · cases h
  obtain ⟨hS,hr⟩:=hS;have SS:=ak hS;have SR:=ak hr;have HL:=ak (Kd.V_reads' hs1).2.2;have hll:=hS.lenL;have HV:=ak qeN;have HR0:=ak qO;have HC0:=ak qW;clear h hS hr qO qW qeN hs1;have HB:=ak (Below.refl w.heap.size w);go_enter Tryz.func143,Tryz.ntmps143;go_wp2_with (((with_reducible refine gate_dst (N:=2) rfl ?_);refine bxe (N:=2) rfl ?_;intro gb hg w3 hbox hb;have BK:=ak hbox;have GW:=b3 hg HB;replace HB:=b2 HB hb;clear hb hbox hg));go_loopg [5] l1.length (fun kq v5 w'=>∃ i:Nat,v5=.int .i64 i∧i≤l1.length∧l1.length - i≤kq∧Aside0 (Pure.setsB qc l1 (l1.drop i)=r)∧Aside0 (w'.heap[gb]?=some (.cells #[.slice qy qe.length qx,.slice jH qc.length ji] 67 (0,0)))∧Aside0 (Below w.heap.size w w'))
  case atStart=>exact ⟨0,rfl,Nat.zero_le _,by omega,⟨by simpa using SR.out⟩,⟨bk BK.out⟩,⟨bs⟩⟩
  case round =>
    clear SR;obtain ⟨i,rfl,hi,hkq,SR,BK,HB⟩:=hrel;by_cases hlt:i < l1.length
    · have hltz:(i:Int) < (l1.length:Int):=by omega
      have hi0:0≤(i:Int):=by omega
      obtain ⟨ad,e,hA,hW,hR⟩:=wants_at HL.out i hlt;subst hA;have WE:=ak hW;have RE:=ak hR;obtain ⟨x0,x1,x2,x3,x4,x5,x6,x7,x8⟩:=WE.out.below HB.out;clear hW hR;by_cases hb:l1[i].f2=true
      · rw [hb] at x8
        go_wp2;go_roundg (l1.length - (i+1));case measure=>omega
        case rel=>exact ⟨i+1,by go_num,by omega,by omega,⟨by rw [← sets_bare i hlt hb];exact SR.out⟩,⟨bk BK.out⟩,⟨bs⟩⟩
      · have hbf:l1[i].f2=false:=by simpa using hb
        rw [hbf] at x8;have BF:=ak hbf;clear hb hbf;go_wp2;clear x0 x1 x2 x3 x4 x5 x6 x7 x8;go_loopg [6,7] l1.length (fun kq2 v6 v7 w'=>∃ (es:List El) (m:Nat),v7=.int .i64 m∧m≤l1.length∧l1.length - m≤kq2∧es.length≤m∧Aside0 (Pure.pick Pure.cmpR (es.map (dec w)) (Pure.ownOf (l1.drop m) l1[i])=Pure.pick Pure.cmpR [] (Pure.ownOf l1 l1[i]))∧Aside0 (∀ a ∈ es,RecAt w a (dec w a)∧dec w a ∈ recs qc l1)∧Aside0 (kEl.R 105 w' w.heap.size (fun k_=>k_≠gb) v6 es)∧Aside0 (w'.heap[gb]?=some (.cells #[.slice qy qe.length qx,.slice jH qc.length ji] 67 (0,0)))∧Aside0 (Below w.heap.size w w'))
        case atStart=>exact ⟨[],0,rfl,Nat.zero_le _,by omega,Nat.le_refl _,⟨by simp⟩,⟨fun a ha=>by cases ha⟩,⟨Kd.R_nil _ _ _ _ _⟩,⟨bk BK.out⟩,⟨bs⟩⟩
        case round =>
          obtain ⟨es,m,rfl,hm,qqF,hesm,HP,HG,HO,BK,HB⟩:=hrel;by_cases hlm:m < l1.length
          · have hlmz:(m:Int) < (l1.length:Int):=by omega
            have hm0:0≤(m:Int):=by omega
            obtain ⟨A6,k6,e6⟩:=Kd.R_slice HO.out;subst e6;obtain ⟨ad',e2,hA',hW2,hR2⟩:=wants_at HL.out m hlm;injection hA' with hA'
            subst hA';have WE2:=ak hW2;have RE2:=ak hR2;obtain ⟨x0,x1,x2,x3,x4,x5,x6,x7,x8⟩:=WE2.out.below HB.out;clear hW2 hR2;go_upto_region 10 with (((with_reducible refine gate_dst (N:=8) rfl ?_);refine bxe (N:=8) rfl ?_;intro gb2 hg w4 hbox hb;replace HO:=ak (Kd.R_mono (ok':=fun k_=>k_≠gb∧k_≠gb2) (Kd.R_below (Kd.R_bound (rw_ HO.out)) hb) (fun k_ hk=>⟨hk.1,by have:=hk.2.2.1;omega⟩));have BR:=ak hbox;have GR:=b3s hg bs;replace HB:=b2s bs hb;have NR:=b4 hg BK;have NB:=b5 hg BK;replace BK:=b1 BK hb;clear hb hbox hg;obtain ⟨y0,y1,y2,y3,y4,y5,y6,f0,f1,f2,f3,f4,f5,f6⟩:=cells7 BR.out))
            obtain ⟨W,hW⟩:∃ W,W=(((((((w4.setCell ⟨gb2,0,none⟩ (.slice e2.A0 e2.n0 e2.c0)).setCell ⟨gb2,1,none⟩ (.int .i64 e2.ty)).setCell ⟨gb2,2,none⟩ (.int .i64 e2.tl)).setCell ⟨gb2,3,none⟩ (.int .i64 e2.ad)).setCell ⟨gb2,4,none⟩ (.slice e2.A4 e2.n4 e2.c4)).setCell ⟨gb2,5,none⟩ (.slice e2.A5 e2.n5 e2.c5)).setCell ⟨gb2,6,none⟩ (.slice e2.A6 e2.n6 e2.c6)):=⟨_,rfl⟩;have n1:Aside0 (W.heap[gb]?=some (.cells #[.slice qy qe.length qx,.slice jH qc.length ji] 67 (0,0))):=by rw [hW];exact ⟨JE NR.out BK.out⟩
            have n2:Aside0 (W.heap[gb2]?=some (.cells #[.slice e2.A0 e2.n0 e2.c0,.int .i64 e2.ty,.int .i64 e2.tl,.int .i64 e2.ad,.slice e2.A4 e2.n4 e2.c4,.slice e2.A5 e2.n5 e2.c5,.slice e2.A6 e2.n6 e2.c6] 105 (0,0))):=by rw [hW];exact ⟨Zu BR.out⟩
            have n3:Aside0 (Below w.heap.size w W):=by rw [hW];exact ⟨bs⟩
            have n4:Aside0 (kEl.R 105 W w.heap.size (fun k_=>k_≠gb∧k_≠gb2) (.slice A6 es.length k6) es):=by rw [hW];exact ⟨R_far7 HO.out (fun k hk=>hk.2) _ _ _ _ _ _ _⟩
            rw [← hW];clear hW BK BR HB HO x0 x1 x2 x3 x4 x5 x6 x7 x8 y0 y1 y2 y3 y4 y5 y6 f0 f1 f2 f3 f4 f5 f6;have BK:=n1;have BR:=n2;have HB:=n3;have HO:=n4;clear n1 n2 n3 n4;clear w4;obtain ⟨b2,hb2⟩:∃ b,l1[m].f2=b:=⟨_,rfl⟩;have HB2:=ak hb2;have HW8:=ak (show WC w ad m e2 l1[m].f1 b2 from by rw [← hb2];exact WE2.out);clear hb2;cases b2 with
            | true =>
              refine start_ (n:=35) (S:=fun w'=>w'.cell? ⟨(ad.add (m * 9)).block,(ad.add (m * 9)).off+8,none⟩=some (.bool true)∧w'.cell? ⟨gb2,0,none⟩=some (.slice e2.A0 e2.n0 e2.c0)∧w'.cell? ⟨gb2,1,none⟩=some (.int .i64 e2.ty)∧w'.cell? ⟨gb2,2,none⟩=some (.int .i64 e2.tl)∧w'.cell? ⟨gb2,3,none⟩=some (.int .i64 e2.ad)∧w'.cell? ⟨gb2,4,none⟩=some (.slice e2.A4 e2.n4 e2.c4)∧w'.cell? ⟨gb2,5,none⟩=some (.slice e2.A5 e2.n5 e2.c5)∧w'.cell? ⟨gb2,6,none⟩=some (.slice e2.A6 e2.n6 e2.c6)∧w'.cell? (ad.add (i * 9))=some (.slice e.A0 e.n0 e.c0)∧w'.cell? ⟨(ad.add (i * 9)).block,(ad.add (i * 9)).off+1,none⟩=some (.int .i64 e.ty)) (ds:=[]) (bA 35 0) (by kernel_rfl) rfl rfl ⟨(HW8.out.below (bw HB.out)).h8,(blk_cell (bk BR.out) 0).trans rfl,(blk_cell (bk BR.out) 1).trans rfl,(blk_cell (bk BR.out) 2).trans rfl,(blk_cell (bk BR.out) 3).trans rfl,(blk_cell (bk BR.out) 4).trans rfl,(blk_cell (bk BR.out) 5).trans rfl,(blk_cell (bk BR.out) 6).trans rfl,(WE.out.below (bw HB.out)).h0,(WE.out.below (bw HB.out)).h1⟩ (fun hHeld=>?_);refine with_tabW jN.tab10 jN.bits10 (fun HT_ HW_=>?_);replace HO:=ak (rw_ HO.out (W':=W.drew));replace BK:=ak (bk BK.out (W':=W.drew));replace BR:=ak (bk BR.out (W':=W.drew));replace HB:=ak (bw HB.out (W':=W.drew));generalize W.drew=W1 at HO BK BR HB hHeld ⊢;refine pu HT_ 0 ?_;refine pu HT_ 1 ?_;refine pu HT_ 2 ?_;refine pu HT_ 3 ?_;refine ta HT_ HW_ hHeld 4 ?_;refine pu HT_ 5 ?_;refine pu HT_ 6 ?_;refine sk HT_ 7 ?_;refine sk HT_ 8 ?_;refine sk HT_ 9 ?_;refine sk HT_ 10 ?_;refine sk HT_ 11 ?_;refine sk HT_ 12 ?_;refine sk HT_ 13 ?_;refine sk HT_ 14 ?_;refine sk HT_ 15 ?_;refine sk HT_ 16 ?_;refine pu HT_ 17 ?_;refine pu HT_ 18 ?_;refine sk HT_ 19 ?_;refine sk HT_ 20 ?_;refine sk HT_ 21 ?_;refine sk HT_ 22 ?_;refine sk HT_ 23 ?_;refine sk HT_ 24 ?_;refine sk HT_ 25 ?_;refine sk HT_ 26 ?_;refine sk HT_ 27 ?_;refine pu HT_ 28 ?_;refine pu HT_ 29 ?_;refine sk HT_ 30 ?_;refine sk HT_ 31 ?_;refine sk HT_ 32 ?_;refine sk HT_ 33 ?_;refine pu HT_ 34 ?_;refine done_ (done_of HT_.out (by kernel_rfl)) ?_;go_wp2;go_roundg (l1.length - (m+1));case measure=>omega
              case rel=>exact ⟨es,m+1,by go_num,by omega,by omega,by omega,⟨by rw [← pick_no m hlm (by simp [Pure.isOwn,HB2.out])];exact HP.out⟩,HG,⟨Kd.R_mono (rw_ HO.out) (fun _ hk=>hk.1)⟩,⟨bk BK.out⟩,⟨bs⟩⟩
            | false =>
              obtain ⟨cn,hcn⟩:∃ c,Pure.nameCmpV l1[m].f0.f0.f0 l1[i].f0.f0.f0=c:=⟨_,rfl⟩;have C1:=ak (show jd.f k l1[m].f0.f0.f0 l1[i].f0.f0.f0=some cn by rw [← hcn];exact SS.out.cmp _ (List.getElem_mem hlt) _ (List.getElem_mem hlm) BF.out HB2.out);have CN:=ak hcn;have TY:=ak (And.intro RE2.out.parts.ty RE.out.parts.ty);clear hcn;by_cases hc:cn=0
              · have d1:(cn == 0)=true:=by simpa using hc
                have SN:=ak (show Pure.sameN l1[m].f0.f0.f0 l1[i].f0.f0.f0=true by unfold Pure.sameN;rw [CN.out];exact d1);by_cases ht:e2.ty=e.ty
                · have d2:(e2.ty == e.ty)=true:=by simpa using ht
                  have HIO:=ak (show Pure.isOwn l1[i] l1[m]=true by have:=TY.out;rw [this.1,this.2] at d2;simp [Pure.isOwn,HB2.out,SN.out,d2]);obtain ⟨v,hv,hvi⟩:=SS.out.place (es.map (dec w)) l1[m].f0 (by rw [List.length_map];omega) (fun a ha=>by obtain ⟨b,hb,rfl⟩:=List.mem_map.1 ha;exact (HG.out b hb).2) (recs_left (List.getElem_mem hlm) HB2.out);have C2:=ak hv;have VI:=ak hvi;clear hv hvi hc ht;by_cases hv:v < 0
                  · have d3:decide (v < 0)=true:=decide_eq_true hv
                    refine start_ (n:=35) (S:=fun w'=>w'.cell? ⟨(ad.add (m * 9)).block,(ad.add (m * 9)).off+8,none⟩=some (.bool false)∧w'.cell? ⟨gb2,0,none⟩=some (.slice e2.A0 e2.n0 e2.c0)∧w'.cell? ⟨gb2,1,none⟩=some (.int .i64 e2.ty)∧w'.cell? ⟨gb2,2,none⟩=some (.int .i64 e2.tl)∧w'.cell? ⟨gb2,3,none⟩=some (.int .i64 e2.ad)∧w'.cell? ⟨gb2,4,none⟩=some (.slice e2.A4 e2.n4 e2.c4)∧w'.cell? ⟨gb2,5,none⟩=some (.slice e2.A5 e2.n5 e2.c5)∧w'.cell? ⟨gb2,6,none⟩=some (.slice e2.A6 e2.n6 e2.c6)∧w'.cell? (ad.add (i * 9))=some (.slice e.A0 e.n0 e.c0)∧w'.cell? ⟨(ad.add (i * 9)).block,(ad.add (i * 9)).off+1,none⟩=some (.int .i64 e.ty)) (ds:=[]) (bA 35 0) (by kernel_rfl) rfl rfl ⟨(HW8.out.below (bw HB.out)).h8,(blk_cell (bk BR.out) 0).trans rfl,(blk_cell (bk BR.out) 1).trans rfl,(blk_cell (bk BR.out) 2).trans rfl,(blk_cell (bk BR.out) 3).trans rfl,(blk_cell (bk BR.out) 4).trans rfl,(blk_cell (bk BR.out) 5).trans rfl,(blk_cell (bk BR.out) 6).trans rfl,(WE.out.below (bw HB.out)).h0,(WE.out.below (bw HB.out)).h1⟩ (fun hHeld=>?_);refine with_tabW jN.tab10 jN.bits10 (fun HT_ HW_=>?_);replace HO:=ak (rw_ HO.out (W':=W.drew));replace BK:=ak (bk BK.out (W':=W.drew));replace BR:=ak (bk BR.out (W':=W.drew));replace HB:=ak (bw HB.out (W':=W.drew));generalize W.drew=W1 at HO BK BR HB hHeld ⊢;refine pu HT_ 0 ?_;refine pu HT_ 1 ?_;refine pu HT_ 2 ?_;refine pu HT_ 3 ?_;refine ta HT_ HW_ hHeld 4 ?_;refine pu HT_ 5 ?_;refine pu HT_ 6 ?_;refine pu HT_ 7 ?_;refine pu HT_ 9 ?_;refine pu HT_ 10 ?_;refine pu HT_ 11 ?_;refine pu HT_ 12 ?_;refine pu HT_ 13 ?_;refine ta HT_ HW_ hHeld 8 ?_;refine ta HT_ HW_ hHeld 14 ?_;refine on HT_ 15 (fun K hK=>?_);refine gsG Tryz.func140 (l2cmp_any k e2 e l1[m].f0 l1[i].f0 cn _ (RE2.out.below HB.out) (RE.out.below HB.out) C1.out) ?_;rintro e' W2 ⟨rfl,hb⟩;refine ⟨_,rfl,?_⟩;replace HO:=ak (Kd.R_below HO.out hb);replace BK:=b1 BK hb;replace BR:=b1 BR hb;replace HB:=b2s HB.out hb;clear hb hHeld;refine hK.out _ _ ⟨(HW8.out.below (HB.out)).h8,(blk_cell (BR.out) 0).trans rfl,(blk_cell (BR.out) 1).trans rfl,(blk_cell (BR.out) 2).trans rfl,(blk_cell (BR.out) 3).trans rfl,(blk_cell (BR.out) 4).trans rfl,(blk_cell (BR.out) 5).trans rfl,(blk_cell (BR.out) 6).trans rfl,(WE.out.below (HB.out)).h0,(WE.out.below (HB.out)).h1⟩ (fun hHeld=>?_);clear hK K;refine norm_ (a':=?_) ?_ ?_;rotate_left;go_simp;rfl;refine pu HT_ 16 ?_;refine pu HT_ 17 ?_;refine pu HT_ 18 ?_;refine pu HT_ 19 ?_;refine pu HT_ 21 ?_;refine pu HT_ 22 ?_;refine pu HT_ 23 ?_;refine pu HT_ 24 ?_;refine pu HT_ 25 ?_;refine ta HT_ HW_ hHeld 20 ?_;refine ta HT_ HW_ hHeld 26 ?_;refine pu HT_ 27 ?_;refine pu HT_ 28 ?_;refine pu HT_ 29 ?_;refine pu HT_ 30 ?_;refine ta HT_ HW_ hHeld 31 ?_;refine on HT_ 32 (fun K hK=>?_);refine gsG Tryz.func186 (place_any k w _ A6 k6 es e2 l1[m].f0 v w.heap.size _ HO.out (fun a ha=>(HG.out a ha).1.below HB.out) (RE2.out.below HB.out) C2.out) ?_;rintro e' W3 ⟨rfl,hb⟩;refine ⟨_,rfl,?_⟩;replace HO:=ak (Kd.R_below HO.out hb);replace BK:=b1 BK hb;replace BR:=b1 BR hb;replace HB:=b2s HB.out hb;clear hb hHeld;refine hK.out _ _ ⟨(HW8.out.below (HB.out)).h8,(blk_cell (BR.out) 0).trans rfl,(blk_cell (BR.out) 1).trans rfl,(blk_cell (BR.out) 2).trans rfl,(blk_cell (BR.out) 3).trans rfl,(blk_cell (BR.out) 4).trans rfl,(blk_cell (BR.out) 5).trans rfl,(blk_cell (BR.out) 6).trans rfl,(WE.out.below (HB.out)).h0,(WE.out.below (HB.out)).h1⟩ (fun hHeld=>?_);clear hK K;refine norm_ (a':=?_) ?_ ?_;rotate_left;go_simp;rfl;refine pu HT_ 33 ?_;refine pu HT_ 34 ?_;refine done_ (done_of HT_.out (by kernel_rfl)) ?_;obtain ⟨y0,y1,y2,y3,y4,y5,y6,f0,f1,f2,f3,f4,f5,f6⟩:=cells7 BR.out;go_wp2_with (((with_reducible refine gate_builtin (b:=.append) (xs:=#[.tmp 68,.tmp 70]) rfl ?_);at_builtin;refine Kd.R_append kEl (w0:=w) w.heap.size rfl (.tmp 68) (.tmp 70) 33 105 (.agg #[(.slice none 0 0),(.int .i64 0),(.int .i64 0),(.int .i64 0),(.slice none 0 0),(.slice none 0 0),(.slice none 0 0)]) 120 rfl Tryz.underlying33 qbl rfl (by decide) (by omega) (.slice A6 es.length k6) es e2 [.slice e2.A0 e2.n0 e2.c0,.int .i64 e2.ty,.int .i64 e2.tl,.int .i64 e2.ad,.slice e2.A4 e2.n4 e2.c4,.slice e2.A5 e2.n5 e2.c5,.slice e2.A6 e2.n6 e2.c6] (fun k_=>k_≠gb∧k_≠gb2) (fun _=>False) rfl rfl ?aP (fun _ hk=>hk.elim) ?aF ?aO ?aB ?aS ?aL ?_;(case aP=>exact rfl);(case aB=>exact bs);(case aF=>exact (fun k_ hk=>⟨Kd.freshB (g:=gb) (bk BK.out) k_ hk,Kd.freshB (g:=gb2) (bk BR.out) k_ hk⟩));(case aO=>exact (rw_ HO.out));(case aS=>exact (below_size bs));(case aL=>omega);intro v1 w34 ho hb hg hat;replace BK:=ak (blk_grown (bk BK.out) hg (Kd.R_ne HO.out BK.out (by decide)));replace HO:=ak ho;replace HB:=ak hb;clear ho hb hg hat));go_roundg (l1.length - (m+1));case measure=>omega
                    case rel=>exact ⟨es ++ [e2],m+1,by go_num,by omega,by omega,by simp;omega,⟨by
                      rw [← HP.out,pick_yes m hlm HIO.out,if_neg (VI.out.1 hv),List.map_append,List.map_singleton,dec_eq RE2.out]⟩,⟨fun a ha=>by
                      rcases List.mem_append.1 ha with ha | ha
                      · exact HG.out a ha
                      · rw [List.mem_singleton.1 ha,dec_eq RE2.out];exact ⟨RE2.out,recs_left (List.getElem_mem hlm) HB2.out⟩⟩,⟨Kd.R_mono (rw_ HO.out) (fun _ hk=>hk.1)⟩,⟨bk BK.out⟩,⟨bs⟩⟩
                  · have d3:decide (v < 0)=false:=decide_eq_false hv
                    refine start_ (n:=35) (S:=fun w'=>w'.cell? ⟨(ad.add (m * 9)).block,(ad.add (m * 9)).off+8,none⟩=some (.bool false)∧w'.cell? ⟨gb2,0,none⟩=some (.slice e2.A0 e2.n0 e2.c0)∧w'.cell? ⟨gb2,1,none⟩=some (.int .i64 e2.ty)∧w'.cell? ⟨gb2,2,none⟩=some (.int .i64 e2.tl)∧w'.cell? ⟨gb2,3,none⟩=some (.int .i64 e2.ad)∧w'.cell? ⟨gb2,4,none⟩=some (.slice e2.A4 e2.n4 e2.c4)∧w'.cell? ⟨gb2,5,none⟩=some (.slice e2.A5 e2.n5 e2.c5)∧w'.cell? ⟨gb2,6,none⟩=some (.slice e2.A6 e2.n6 e2.c6)∧w'.cell? (ad.add (i * 9))=some (.slice e.A0 e.n0 e.c0)∧w'.cell? ⟨(ad.add (i * 9)).block,(ad.add (i * 9)).off+1,none⟩=some (.int .i64 e.ty)) (ds:=[]) (bA 35 0) (by kernel_rfl) rfl rfl ⟨(HW8.out.below (bw HB.out)).h8,(blk_cell (bk BR.out) 0).trans rfl,(blk_cell (bk BR.out) 1).trans rfl,(blk_cell (bk BR.out) 2).trans rfl,(blk_cell (bk BR.out) 3).trans rfl,(blk_cell (bk BR.out) 4).trans rfl,(blk_cell (bk BR.out) 5).trans rfl,(blk_cell (bk BR.out) 6).trans rfl,(WE.out.below (bw HB.out)).h0,(WE.out.below (bw HB.out)).h1⟩ (fun hHeld=>?_);refine with_tabW jN.tab10 jN.bits10 (fun HT_ HW_=>?_);replace HO:=ak (rw_ HO.out (W':=W.drew));replace BK:=ak (bk BK.out (W':=W.drew));replace BR:=ak (bk BR.out (W':=W.drew));replace HB:=ak (bw HB.out (W':=W.drew));generalize W.drew=W1 at HO BK BR HB hHeld ⊢;refine pu HT_ 0 ?_;refine pu HT_ 1 ?_;refine pu HT_ 2 ?_;refine pu HT_ 3 ?_;refine ta HT_ HW_ hHeld 4 ?_;refine pu HT_ 5 ?_;refine pu HT_ 6 ?_;refine pu HT_ 7 ?_;refine pu HT_ 9 ?_;refine pu HT_ 10 ?_;refine pu HT_ 11 ?_;refine pu HT_ 12 ?_;refine pu HT_ 13 ?_;refine ta HT_ HW_ hHeld 8 ?_;refine ta HT_ HW_ hHeld 14 ?_;refine on HT_ 15 (fun K hK=>?_);refine gsG Tryz.func140 (l2cmp_any k e2 e l1[m].f0 l1[i].f0 cn _ (RE2.out.below HB.out) (RE.out.below HB.out) C1.out) ?_;rintro e' W2 ⟨rfl,hb⟩;refine ⟨_,rfl,?_⟩;replace HO:=ak (Kd.R_below HO.out hb);replace BK:=b1 BK hb;replace BR:=b1 BR hb;replace HB:=b2s HB.out hb;clear hb hHeld;refine hK.out _ _ ⟨(HW8.out.below (HB.out)).h8,(blk_cell (BR.out) 0).trans rfl,(blk_cell (BR.out) 1).trans rfl,(blk_cell (BR.out) 2).trans rfl,(blk_cell (BR.out) 3).trans rfl,(blk_cell (BR.out) 4).trans rfl,(blk_cell (BR.out) 5).trans rfl,(blk_cell (BR.out) 6).trans rfl,(WE.out.below (HB.out)).h0,(WE.out.below (HB.out)).h1⟩ (fun hHeld=>?_);clear hK K;refine norm_ (a':=?_) ?_ ?_;rotate_left;go_simp;rfl;refine pu HT_ 16 ?_;refine pu HT_ 17 ?_;refine pu HT_ 18 ?_;refine pu HT_ 19 ?_;refine pu HT_ 21 ?_;refine pu HT_ 22 ?_;refine pu HT_ 23 ?_;refine pu HT_ 24 ?_;refine pu HT_ 25 ?_;refine ta HT_ HW_ hHeld 20 ?_;refine ta HT_ HW_ hHeld 26 ?_;refine pu HT_ 27 ?_;refine pu HT_ 28 ?_;refine pu HT_ 29 ?_;refine pu HT_ 30 ?_;refine ta HT_ HW_ hHeld 31 ?_;refine on HT_ 32 (fun K hK=>?_);refine gsG Tryz.func186 (place_any k w _ A6 k6 es e2 l1[m].f0 v w.heap.size _ HO.out (fun a ha=>(HG.out a ha).1.below HB.out) (RE2.out.below HB.out) C2.out) ?_;rintro e' W3 ⟨rfl,hb⟩;refine ⟨_,rfl,?_⟩;replace HO:=ak (Kd.R_below HO.out hb);replace BK:=b1 BK hb;replace BR:=b1 BR hb;replace HB:=b2s HB.out hb;clear hb hHeld;refine hK.out _ _ ⟨(HW8.out.below (HB.out)).h8,(blk_cell (BR.out) 0).trans rfl,(blk_cell (BR.out) 1).trans rfl,(blk_cell (BR.out) 2).trans rfl,(blk_cell (BR.out) 3).trans rfl,(blk_cell (BR.out) 4).trans rfl,(blk_cell (BR.out) 5).trans rfl,(blk_cell (BR.out) 6).trans rfl,(WE.out.below (HB.out)).h0,(WE.out.below (HB.out)).h1⟩ (fun hHeld=>?_);clear hK K;refine norm_ (a':=?_) ?_ ?_;rotate_left;go_simp;rfl;refine pu HT_ 33 ?_;refine pu HT_ 34 ?_;refine done_ (done_of HT_.out (by kernel_rfl)) ?_;go_wp2;go_roundg (l1.length - (m+1));case measure=>omega
                    case rel=>exact ⟨es,m+1,by go_num,by omega,by omega,by omega,⟨by
                      rw [← HP.out,pick_yes m hlm HIO.out,if_pos (Decidable.byContradiction fun hno=>absurd (VI.out.2 hno) (by omega))]⟩,HG,⟨Kd.R_mono (rw_ HO.out) (fun _ hk=>hk.1)⟩,⟨bk BK.out⟩,⟨bs⟩⟩
                · have d2:(e2.ty == e.ty)=false:=by simpa using ht
                  have HIO:=ak (show Pure.isOwn l1[i] l1[m]=false by have:=TY.out;rw [this.1,this.2] at d2;simp [Pure.isOwn,d2]);clear hc ht;refine start_ (n:=35) (S:=fun w'=>w'.cell? ⟨(ad.add (m * 9)).block,(ad.add (m * 9)).off+8,none⟩=some (.bool false)∧w'.cell? ⟨gb2,0,none⟩=some (.slice e2.A0 e2.n0 e2.c0)∧w'.cell? ⟨gb2,1,none⟩=some (.int .i64 e2.ty)∧w'.cell? ⟨gb2,2,none⟩=some (.int .i64 e2.tl)∧w'.cell? ⟨gb2,3,none⟩=some (.int .i64 e2.ad)∧w'.cell? ⟨gb2,4,none⟩=some (.slice e2.A4 e2.n4 e2.c4)∧w'.cell? ⟨gb2,5,none⟩=some (.slice e2.A5 e2.n5 e2.c5)∧w'.cell? ⟨gb2,6,none⟩=some (.slice e2.A6 e2.n6 e2.c6)∧w'.cell? (ad.add (i * 9))=some (.slice e.A0 e.n0 e.c0)∧w'.cell? ⟨(ad.add (i * 9)).block,(ad.add (i * 9)).off+1,none⟩=some (.int .i64 e.ty)) (ds:=[]) (bA 35 0) (by kernel_rfl) rfl rfl ⟨(HW8.out.below (bw HB.out)).h8,(blk_cell (bk BR.out) 0).trans rfl,(blk_cell (bk BR.out) 1).trans rfl,(blk_cell (bk BR.out) 2).trans rfl,(blk_cell (bk BR.out) 3).trans rfl,(blk_cell (bk BR.out) 4).trans rfl,(blk_cell (bk BR.out) 5).trans rfl,(blk_cell (bk BR.out) 6).trans rfl,(WE.out.below (bw HB.out)).h0,(WE.out.below (bw HB.out)).h1⟩ (fun hHeld=>?_);refine with_tabW jN.tab10 jN.bits10 (fun HT_ HW_=>?_);replace HO:=ak (rw_ HO.out (W':=W.drew));replace BK:=ak (bk BK.out (W':=W.drew));replace BR:=ak (bk BR.out (W':=W.drew));replace HB:=ak (bw HB.out (W':=W.drew));generalize W.drew=W1 at HO BK BR HB hHeld ⊢;refine pu HT_ 0 ?_;refine pu HT_ 1 ?_;refine pu HT_ 2 ?_;refine pu HT_ 3 ?_;refine ta HT_ HW_ hHeld 4 ?_;refine pu HT_ 5 ?_;refine pu HT_ 6 ?_;refine pu HT_ 7 ?_;refine pu HT_ 9 ?_;refine pu HT_ 10 ?_;refine pu HT_ 11 ?_;refine pu HT_ 12 ?_;refine pu HT_ 13 ?_;refine ta HT_ HW_ hHeld 8 ?_;refine ta HT_ HW_ hHeld 14 ?_;refine on HT_ 15 (fun K hK=>?_);refine gsG Tryz.func140 (l2cmp_any k e2 e l1[m].f0 l1[i].f0 cn _ (RE2.out.below HB.out) (RE.out.below HB.out) C1.out) ?_;rintro e' W2 ⟨rfl,hb⟩;refine ⟨_,rfl,?_⟩;replace HO:=ak (Kd.R_below HO.out hb);replace BK:=b1 BK hb;replace BR:=b1 BR hb;replace HB:=b2s HB.out hb;clear hb hHeld;refine hK.out _ _ ⟨(HW8.out.below (HB.out)).h8,(blk_cell (BR.out) 0).trans rfl,(blk_cell (BR.out) 1).trans rfl,(blk_cell (BR.out) 2).trans rfl,(blk_cell (BR.out) 3).trans rfl,(blk_cell (BR.out) 4).trans rfl,(blk_cell (BR.out) 5).trans rfl,(blk_cell (BR.out) 6).trans rfl,(WE.out.below (HB.out)).h0,(WE.out.below (HB.out)).h1⟩ (fun hHeld=>?_);clear hK K;refine norm_ (a':=?_) ?_ ?_;rotate_left;go_simp;rfl;refine pu HT_ 16 ?_;refine pu HT_ 17 ?_;refine pu HT_ 18 ?_;refine pu HT_ 19 ?_;refine pu HT_ 21 ?_;refine pu HT_ 22 ?_;refine pu HT_ 23 ?_;refine pu HT_ 24 ?_;refine pu HT_ 25 ?_;refine ta HT_ HW_ hHeld 20 ?_;refine ta HT_ HW_ hHeld 26 ?_;refine pu HT_ 27 ?_;refine pu HT_ 28 ?_;refine pu HT_ 29 ?_;refine sk HT_ 30 ?_;refine sk HT_ 31 ?_;refine sk HT_ 32 ?_;refine sk HT_ 33 ?_;refine pu HT_ 34 ?_;refine done_ (done_of HT_.out (by kernel_rfl)) ?_;go_wp2;go_roundg (l1.length - (m+1));case measure=>omega
                  case rel=>exact ⟨es,m+1,by go_num,by omega,by omega,by omega,⟨by rw [← pick_no m hlm HIO.out];exact HP.out⟩,HG,⟨Kd.R_mono (rw_ HO.out) (fun _ hk=>hk.1)⟩,⟨bk BK.out⟩,⟨bs⟩⟩
              · have d1:(cn == 0)=false:=by simpa using hc
                have HIO:=ak (show Pure.isOwn l1[i] l1[m]=false by have hsn:Pure.sameN l1[m].f0.f0.f0 l1[i].f0.f0.f0=false:=(by unfold Pure.sameN;rw [CN.out];exact d1);simp [Pure.isOwn,hsn]);clear hc;refine start_ (n:=35) (S:=fun w'=>w'.cell? ⟨(ad.add (m * 9)).block,(ad.add (m * 9)).off+8,none⟩=some (.bool false)∧w'.cell? ⟨gb2,0,none⟩=some (.slice e2.A0 e2.n0 e2.c0)∧w'.cell? ⟨gb2,1,none⟩=some (.int .i64 e2.ty)∧w'.cell? ⟨gb2,2,none⟩=some (.int .i64 e2.tl)∧w'.cell? ⟨gb2,3,none⟩=some (.int .i64 e2.ad)∧w'.cell? ⟨gb2,4,none⟩=some (.slice e2.A4 e2.n4 e2.c4)∧w'.cell? ⟨gb2,5,none⟩=some (.slice e2.A5 e2.n5 e2.c5)∧w'.cell? ⟨gb2,6,none⟩=some (.slice e2.A6 e2.n6 e2.c6)∧w'.cell? (ad.add (i * 9))=some (.slice e.A0 e.n0 e.c0)∧w'.cell? ⟨(ad.add (i * 9)).block,(ad.add (i * 9)).off+1,none⟩=some (.int .i64 e.ty)) (ds:=[]) (bA 35 0) (by kernel_rfl) rfl rfl ⟨(HW8.out.below (bw HB.out)).h8,(blk_cell (bk BR.out) 0).trans rfl,(blk_cell (bk BR.out) 1).trans rfl,(blk_cell (bk BR.out) 2).trans rfl,(blk_cell (bk BR.out) 3).trans rfl,(blk_cell (bk BR.out) 4).trans rfl,(blk_cell (bk BR.out) 5).trans rfl,(blk_cell (bk BR.out) 6).trans rfl,(WE.out.below (bw HB.out)).h0,(WE.out.below (bw HB.out)).h1⟩ (fun hHeld=>?_);refine with_tabW jN.tab10 jN.bits10 (fun HT_ HW_=>?_);replace HO:=ak (rw_ HO.out (W':=W.drew));replace BK:=ak (bk BK.out (W':=W.drew));replace BR:=ak (bk BR.out (W':=W.drew));replace HB:=ak (bw HB.out (W':=W.drew));generalize W.drew=W1 at HO BK BR HB hHeld ⊢;refine pu HT_ 0 ?_;refine pu HT_ 1 ?_;refine pu HT_ 2 ?_;refine pu HT_ 3 ?_;refine ta HT_ HW_ hHeld 4 ?_;refine pu HT_ 5 ?_;refine pu HT_ 6 ?_;refine pu HT_ 7 ?_;refine pu HT_ 9 ?_;refine pu HT_ 10 ?_;refine pu HT_ 11 ?_;refine pu HT_ 12 ?_;refine pu HT_ 13 ?_;refine ta HT_ HW_ hHeld 8 ?_;refine ta HT_ HW_ hHeld 14 ?_;refine on HT_ 15 (fun K hK=>?_);refine gsG Tryz.func140 (l2cmp_any k e2 e l1[m].f0 l1[i].f0 cn _ (RE2.out.below HB.out) (RE.out.below HB.out) C1.out) ?_;rintro e' W2 ⟨rfl,hb⟩;refine ⟨_,rfl,?_⟩;replace HO:=ak (Kd.R_below HO.out hb);replace BK:=b1 BK hb;replace BR:=b1 BR hb;replace HB:=b2s HB.out hb;clear hb hHeld;refine hK.out _ _ ⟨(HW8.out.below (HB.out)).h8,(blk_cell (BR.out) 0).trans rfl,(blk_cell (BR.out) 1).trans rfl,(blk_cell (BR.out) 2).trans rfl,(blk_cell (BR.out) 3).trans rfl,(blk_cell (BR.out) 4).trans rfl,(blk_cell (BR.out) 5).trans rfl,(blk_cell (BR.out) 6).trans rfl,(WE.out.below (HB.out)).h0,(WE.out.below (HB.out)).h1⟩ (fun hHeld=>?_);clear hK K;refine norm_ (a':=?_) ?_ ?_;rotate_left;go_simp;rfl;refine pu HT_ 16 ?_;refine pu HT_ 17 ?_;refine pu HT_ 18 ?_;refine sk HT_ 19 ?_;refine sk HT_ 20 ?_;refine sk HT_ 21 ?_;refine sk HT_ 22 ?_;refine sk HT_ 23 ?_;refine sk HT_ 24 ?_;refine sk HT_ 25 ?_;refine sk HT_ 26 ?_;refine sk HT_ 27 ?_;refine pu HT_ 28 ?_;refine pu HT_ 29 ?_;refine sk HT_ 30 ?_;refine sk HT_ 31 ?_;refine sk HT_ 32 ?_;refine sk HT_ 33 ?_;refine pu HT_ 34 ?_;refine done_ (done_of HT_.out (by kernel_rfl)) ?_;go_wp2;go_roundg (l1.length - (m+1));case measure=>omega
                case rel=>exact ⟨es,m+1,by go_num,by omega,by omega,by omega,⟨by rw [← pick_no m hlm HIO.out];exact HP.out⟩,HG,⟨Kd.R_mono (rw_ HO.out) (fun _ hk=>hk.1)⟩,⟨bk BK.out⟩,⟨bs⟩⟩
          · have:m=l1.length:=by omega
            subst this;have hlmz:¬ (l1.length:Int) < (l1.length:Int):=by omega
            have PK:=ak (show Pure.pick Pure.cmpR [] (Pure.ownOf l1 l1[i])=es.map (dec w) by rw [← HP.out,List.drop_length];rfl);clear HP;obtain ⟨A6,k6,e6⟩:=Kd.R_slice HO.out;subst e6;obtain ⟨x0,x1,_⟩:=WE.out.below HB.out;obtain ⟨z0,z1,_⟩:=cells2 BK.out;have ST:=ak (SS.out.all _ (List.getElem_mem hlt) BF.out);go_upto_region 12 with (fail)
            go_region_held3 (fun w'=>w'.cell? ⟨gb,0,none⟩=some (.slice qy qe.length qx)∧w'.cell? ⟨gb,1,none⟩=some (.slice jH qc.length ji)∧w'.cell? (ad.add (i * 9))=some (.slice e.A0 e.n0 e.c0)∧w'.cell? ⟨(ad.add (i * 9)).block,(ad.add (i * 9)).off+1,none⟩=some (.int .i64 e.ty)) (first | exact ⟨(blk_cell (bk BK.out) 0).trans rfl,(blk_cell (bk BK.out) 1).trans rfl,(WE.out.below (bw HB.out)).h0,(WE.out.below (bw HB.out)).h1⟩ | go_keep)
              (first
                | (go_at_call 185;refine (l5all_any k w _ (bw HB.out) HV.out HR0.out HC0.out e l1[i].f0 _ (RE.out.below (bw HB.out)) ST.out).mono ?_;rintro e' w5 ⟨A9,k9,d2,rfl,hrow,hdec,hrec,hb⟩;have ROW:=ak hrow;have DEC:=ak hdec;have REC:=ak hrec;replace HO:=ak (Kd.R_below (rw_ HO.out) hb);replace BK:=b1 BK hb;replace HB:=b2s (bw HB.out) hb;clear hb hrow hdec hrec)
                | fail)
            have hslen:(Pure.setOf qc l1[i].f0.f0.f0 l1[i].f0.f1).length=d2.size:=by rw [← DEC.out];simp
            have SL:=ak hslen;have h60:d2.size≤60:=by rw [← hslen];exact Nat.le_trans (List.length_filter_le _ _) SS.out.lenR
            clear hslen hlmz x0 x1 z0 z1;have SO:=ak (show (Pure.setB qc l1 l1[i] && Pure.setsB qc l1 (l1.drop (i+1)))=r by rw [← sets_one i hlt BF.out];exact SR.out);have PL:=ak (show (Pure.pick Pure.cmpR [] (Pure.ownOf l1 l1[i])).length=es.length by rw [PK.out,List.length_map]);by_cases hlen:d2.size=es.length
            · have hl:((d2.size:Int) != (es.length:Int))=false:=by simp [hlen]
              have LE:=ak hlen;clear hlen;go_wp2
              have RC:=ak (show ∀ a ∈ d2.toList,RecAt w5 a (dec w5 a)∧dec w5 a ∈ qc from fun a ha=>by
                obtain ⟨y,hy,hr⟩:=REC.out a ha;rw [dec_eq hr]
                exact ⟨hr,(List.mem_filter.1 hy).1⟩)
              clear REC;go_loopg [10] d2.size (fun kq3 v10 w'=>∃ n:Nat,v10=.int .i64 n∧n≤d2.size∧d2.size - n≤kq3∧Aside0 (∀ j,j < n→∃ a ∈ es.map (dec w),Pure.cmpR a (dec w5 d2[j]!)=0)∧Aside0 (RowAt w' A9 d2)∧Aside0 (∀ a ∈ d2.toList,RecAt w' a (dec w5 a)∧dec w5 a ∈ qc)∧Aside0 (kEl.R 105 w' w.heap.size (fun k_=>k_≠gb) (.slice A6 es.length k6) es)∧Aside0 (w'.heap[gb]?=some (.cells #[.slice qy qe.length qx,.slice jH qc.length ji] 67 (0,0)))∧Aside0 (Below w.heap.size w w'))
              case atStart=>exact ⟨0,rfl,Nat.zero_le _,by omega,⟨fun j hj=>absurd hj (Nat.not_lt_zero _)⟩,ROW,RC,HO,BK,HB⟩
              case round =>
                clear ROW RC HO BK HB hl;obtain ⟨n,rfl,hn,qnQ,FD,ROW,RC,HO,BK,HB⟩:=hrel;by_cases hln:n < d2.size
                · have hlnz:(n:Int) < (d2.size:Int):=by omega
                  have hn0:0≤(n:Int):=by omega
                  obtain ⟨g9,e9,b9,r9⟩:=ROW.out.resolve_left (by omega);subst e9;obtain ⟨x,hx⟩:∃ x,d2[n]! = x:=⟨_,rfl⟩;have hxm:x ∈ d2.toList:=by rw [← hx,getElem!_pos d2 n hln];simp
                  have XX:=ak hx;have RX:=ak (RC.out x hxm);have y0:wr.cell? ⟨g9,n * 7,none⟩=some (.slice x.A0 x.n0 x.c0):=row_cell r9 (by omega) hx 0 _ rfl;have y1:wr.cell? ⟨g9,n * 7+1,none⟩=some (.int .i64 x.ty):=row_cell r9 (by omega) hx 1 _ rfl;have y2:wr.cell? ⟨g9,n * 7+2,none⟩=some (.int .i64 x.tl):=row_cell r9 (by omega) hx 2 _ rfl;have y3:wr.cell? ⟨g9,n * 7+3,none⟩=some (.int .i64 x.ad):=row_cell r9 (by omega) hx 3 _ rfl;have y4:wr.cell? ⟨g9,n * 7+4,none⟩=some (.slice x.A4 x.n4 x.c4):=row_cell r9 (by omega) hx 4 _ rfl;have y5:wr.cell? ⟨g9,n * 7+5,none⟩=some (.slice x.A5 x.n5 x.c5):=row_cell r9 (by omega) hx 5 _ rfl;have y6:wr.cell? ⟨g9,n * 7+6,none⟩=some (.slice x.A6 x.n6 x.c6):=row_cell r9 (by omega) hx 6 _ rfl;clear r9 b9 hx hxm;obtain ⟨v,hv,hvi⟩:=SS.out.place (es.map (dec w)) (dec w5 x) (by rw [List.length_map];omega) (fun a ha=>by obtain ⟨b,hb,rfl⟩:=List.mem_map.1 ha;exact (HG.out b hb).2) (recs_right RX.out.2);have C2:=ak hv;have VI:=ak hvi;clear hv hvi;by_cases hv:v < 0
                  · have d3:decide (v < 0)=true:=decide_eq_true hv
                    go_wp2_with (first | (go_at_call 186;refine (place_any k w _ A6 k6 es x (dec w5 x) v w.heap.size _ (rw_ HO.out) (fun a ha=>(HG.out a ha).1.below (bw HB.out)) (RX.out.1.gr) C2.out).mono ?_;rintro e' w6 ⟨rfl,hb⟩;replace HB:=b2s (bw HB.out) hb;clear hb))
                    have hr:r=false:=by
                      rw [← SO.out,Bool.and_eq_false_iff];left
                      unfold Pure.setB;rw [Bool.and_eq_false_iff];right
                      rw [List.all_eq_false];refine ⟨dec w5 x,?_,?_⟩
                      · rw [← DEC.out,← XX.out,getElem!_pos d2 n hln];exact List.mem_map.2 ⟨d2[n],by simp,rfl⟩
                      · intro hany
                        obtain ⟨a,ha,hc⟩:=List.any_eq_true.1 hany;rw [PK.out] at ha;exact VI.out.1 hv ⟨a,ha,by simpa using hc⟩
                    subst hr;go_ret;exact ⟨o1,bs⟩
                  · have d3:decide (v < 0)=false:=decide_eq_false hv
                    go_wp2_with (first | (go_at_call 186;refine (place_any k w _ A6 k6 es x (dec w5 x) v w.heap.size _ (rw_ HO.out) (fun a ha=>(HG.out a ha).1.below (bw HB.out)) (RX.out.1.gr) C2.out).mono ?_;rintro e' w6 ⟨rfl,hb⟩;replace ROW:=ak (ROW.out.gr.below hb);replace RC:=ak (fun a ha=>And.intro ((RC.out a ha).1.gr.below hb) (RC.out a ha).2);replace HO:=ak (Kd.R_below (rw_ HO.out) hb);replace BK:=b1 BK hb;replace HB:=b2s (bw HB.out) hb;clear hb));go_roundg (d2.size - (n+1));case measure=>exact meas qnQ hln
                    case rel=>exact ⟨n+1,by go_num,hln,Nat.le_refl _,⟨fun j hj=>by
                      by_cases hjn:j=n
                      · rw [hjn,XX.out];exact Decidable.byContradiction fun hno=>absurd (VI.out.2 hno) (by omega)
                      · exact FD.out j (by omega)⟩,ROW,RC,HO,BK,HB⟩
                · have:n=d2.size:=by omega
                  subst this;have hlnz:¬ (d2.size:Int) < (d2.size:Int):=by omega
                  have hsb:Pure.setB qc l1 l1[i]=true:=by
                    unfold Pure.setB;rw [Bool.and_eq_true,decide_eq_true_eq,SL.out,PL.out,List.all_eq_true];refine ⟨LE.out,fun b hb=>?_⟩;rw [← DEC.out] at hb;obtain ⟨j,hj,rfl⟩:=List.getElem_of_mem hb;simp only [List.length_map,Array.length_toList] at hj;obtain ⟨a,ha,hc⟩:=FD.out j hj;rw [getElem!_pos d2 j hj] at hc;rw [PK.out];exact List.any_eq_true.2 ⟨a,ha,by simpa using hc⟩
                  have SN:=ak (show Pure.setsB qc l1 (l1.drop (i+1))=r by rw [← SO.out,hsb,Bool.true_and]);clear hsb;go_wp2;go_roundg (l1.length - (i+1));case measure=>omega
                  case rel=>exact ⟨i+1,by go_num,by omega,by omega,SN,⟨bk BK.out⟩,⟨bs⟩⟩
            · have hl:((d2.size:Int) != (es.length:Int))=true:=by simp;omega
              have hr:r=false:=by
                rw [← SO.out,Bool.and_eq_false_iff];left
                unfold Pure.setB;rw [Bool.and_eq_false_iff];left
                rw [SL.out,PL.out];exact decide_eq_false hlen
              subst hr;go_wp2;go_ret;exact ⟨o1,bs⟩
    · have:i=l1.length:=by omega
      subst this;have hltz:¬ (l1.length:Int) < (l1.length:Int):=by omega
      have hr:r=true:=by have:=SR.out;rw [List.drop_length] at this;exact this.symm
      subst hr;go_wp2;go_ret;exact ⟨o1,bs⟩
end Go.Proofs.YtfddbkaoghdfgaaGreat.Q

namespace Go.Proofs.YtfddbkaoghdfgaaGreat.Q
open Go.RowKit Go Go.Proofs.YtfddbkaoghdfgaaGreatW.PrintWords Go.Proofs.YtfddbkaoghdfgaaGreatW.PrintLast Go.Proofs.YtfddbkaoghdfgaaGreatW.PrintMore
attribute [local go_sem] max2_int min2_int max_two min_two
set_option linter.unusedVariables false
set_option linter.unusedSimpArgs false

noncomputable def zC.l0:Nat→List (zm)→Int→List (List Int)→List (qY)→Option (Int)
 | 0,_,_,_,_=>none
 | k+1,x1,x5,qB,ql=>if x5 < (x1.length:Int) then (if 0≤x5 then ((jq.f k qB ql ((qd x1 x5).f0.f0.f0) ((qd x1 x5).f0.f1) ((qd x1 x5).f0.f2) ((qd x1 x5).f0.f3) ((qd x1 x5).f0.f4.f0) ((qd x1 x5).f0.f5) ((qd x1 x5).f0.f6) ((qd x1 x5).f1) ((qd x1 x5).f2)).bind fun qQ=>(if qQ=0 then (zC.l0 k x1 (wrap64 (x5+1)) qB ql) else (some qQ))) else (none)) else ((jN.f k qB ql x1).bind fun qE=>(if qE=true then (some 0) else (some 8)))
noncomputable def zC.f (k:Nat) (qe:List (List Int)) (qc:List (qY)) (l1:List (zm)):Option (Int):=zC.l0 k l1 0 qe qc
set_option maxHeartbeats 8000000 in
set_option maxRecDepth 100000 in
theorem zC.calls (k:Nat) (qy:Option Addr) (qx:Nat) (qe:List (List Int)) (jH:Option Addr) (ji:Nat) (qc:List (qY)) (A1:Option Addr) (c1:Nat) (l1:List (zm)) (r:Int) (w:World) (qO:Kd.C (Kd.slice 5 (Kd.int .u8)) w qy qe.length qe) (qW:qe.length≤qx) (Je:Kd.C jR w jH qc.length qc) (Jf:qc.length≤ji) (hr1:Kd.C yY w A1 l1.length l1) (hc1:l1.length≤c1) (h:zC.f k qe qc l1=some r) :
  Calls Tryz.prog 78 #[.agg #[.slice qy qe.length qx,.slice jH qc.length ji],.slice A1 l1.length c1] w fun e w'=>e=.returned (.int .i64 r)∧Below w.heap.size w w':=by
 have qcZ:=Tryz.underlying67;have qb8:=Tryz.underlying107;have qD:=ak qO;have qF:=ak qW;clear qO qW;have ye:=ak Je;have yO:=ak Jf;clear Je Jf;have HR1:=ak hr1;have HC1:=ak hc1;clear hr1 hc1;have HB:=ak (Below.refl w.heap.size w);have H:(zC.l0 k l1 0 qe qc)=some r:=h;clear h;have H':=ak H;clear H;go_enter Tryz.func78,Tryz.ntmps78;go_wp2_with (((with_reducible refine gate_dst (N:=2) rfl ?_);refine bxd (N:=2) rfl HB ?_;clear HB;intro qh w3 hg HB qb qC hb;have jj:=qC;clear hb hg));go_loopg [5] k (fun kq v5 w'=>∃ (qg:Int),v5=.int .i64 qg∧Aside0 (zC.l0 kq l1 qg qe qc=some r)∧Aside0 (kq≤k)∧Aside0 (w'.heap[qh]?=some (.cells #[(.slice qy qe.length qx),(.slice jH qc.length ji)] 67 (0,0)))∧Aside0 (Below w.heap.size w w'))
 case atStart=>exact ⟨(0),o2,H',⟨Nat.le_refl _⟩,⟨bk qb.out⟩,⟨bs⟩⟩
 case round =>
  clear H';(try clear c1)
  obtain ⟨qg,rfl,HA,HK1,qb,HB⟩:=hrel;cases gk with
  | zero=>exact absurd HA.out (by simp [zC.l0])
  | succ k1 =>
   have H:=HA.out;clear HA;simp only [zC.l0] at H;replace H:=ip H;obtain ⟨c4b0,H⟩ | ⟨c4b0,H⟩:=H
   ·replace H:=ipN H;obtain ⟨c5b0,H⟩:=H;replace H:=bnd H;obtain ⟨qQ,A6,H⟩:=H;replace H:=ie H;obtain ⟨c7b0,c7b1,H⟩ | ⟨c7b0,c7b1,H⟩:=H
    ·have H':=ak H;clear H;try go_wp2
     replace qb:=ak (blk_drew qb.out);replace HB:=ak (below_drew1 HB.out);obtain ⟨qJ,JP,JO,Yo,Yi,Yn,Yh,Ym,Yg,rfl,Xq,Xp,Xo,Xn,Xm,Xl,Xk,qc8,qc7,yE,JV,JU,JT,JS,JR,JQ,qbt,qbs,yU,zy,Zz,Qr,Zy,Qq,Zx,Qp,Xc,Xb⟩:=elw_T107 HR1 HB qg;refine start_ (n:=7) (S:=fun w'=>w'.cell? ⟨qh,0,none⟩=some (.slice qy qe.length qx)∧w'.cell? ⟨qh,1,none⟩=some (.slice jH qc.length ji)∧w'.cell? (qJ.add ((qg).toNat * 9))=some (.slice JP ((qd l1 qg).f0.f0.f0).length JO)∧w'.cell? ⟨(qJ.add ((qg).toNat * 9)).block,(qJ.add ((qg).toNat * 9)).off+1,none⟩=some (.int .i64 ((qd l1 qg).f0.f1))∧w'.cell? ⟨(qJ.add ((qg).toNat * 9)).block,(qJ.add ((qg).toNat * 9)).off+2,none⟩=some (.int .i64 ((qd l1 qg).f0.f2))∧w'.cell? ⟨(qJ.add ((qg).toNat * 9)).block,(qJ.add ((qg).toNat * 9)).off+3,none⟩=some (.int .i64 ((qd l1 qg).f0.f3))∧w'.cell? ⟨(qJ.add ((qg).toNat * 9)).block,(qJ.add ((qg).toNat * 9)).off+4,none⟩=some (.slice Yo ((qd l1 qg).f0.f4.f0).length Yi)∧w'.cell? ⟨(qJ.add ((qg).toNat * 9)).block,(qJ.add ((qg).toNat * 9)).off+5,none⟩=some (.slice Yn ((qd l1 qg).f0.f5).length Yh)∧w'.cell? ⟨(qJ.add ((qg).toNat * 9)).block,(qJ.add ((qg).toNat * 9)).off+6,none⟩=some (.slice Ym ((qd l1 qg).f0.f6).length Yg)∧w'.cell? ⟨(qJ.add ((qg).toNat * 9)).block,(qJ.add ((qg).toNat * 9)).off+7,none⟩=some (.int .i64 ((qd l1 qg).f1))∧w'.cell? ⟨(qJ.add ((qg).toNat * 9)).block,(qJ.add ((qg).toNat * 9)).off+8,none⟩=some (.bool ((qd l1 qg).f2))) (ds:=[]) (bA 7 0) (by kernel_rfl) rfl rfl ⟨(blk_cell qb.out 0).trans rfl,(blk_cell qb.out 1).trans rfl,(pw_cell_below HB.out Xq),(pw_cell_below HB.out Xp),(pw_cell_below HB.out Xo),(pw_cell_below HB.out Xn),(pw_cell_below HB.out Xm),(pw_cell_below HB.out Xl),(pw_cell_below HB.out Xk),(pw_cell_below HB.out qc8),(pw_cell_below HB.out qc7)⟩ (fun hHeld=>?_);generalize wr.drew=w8 at qb HB zy Qr Qq Qp yE JV JU JT JS JR JQ qbt qbs hHeld ⊢;refine pure_ (i:=1) (N:=some 14) (v:=?_) (a':=?_) (bA 7 2) rfl rfl (by kernel_rfl) (fun _ _ _ h=>h) (Or.inl ⟨by rfl,?_⟩) ?_ ?_;rotate_left;intro w';go_simp;with_reducible rfl;rotate_left;go_simp;rfl
     refine pure_ (i:=2) (N:=some 15) (v:=?_) (a':=?_) (bA 7 6) rfl rfl (by kernel_rfl) (fun _ _ _ h=>h) (Or.inl ⟨by rfl,?_⟩) ?_ ?_;rotate_left;intro w';go_simp;with_reducible rfl;rotate_left;go_simp;rfl
     refine pure_ (i:=3) (N:=some 16) (v:=?_) (a':=?_) (bA 7 14) rfl rfl (by kernel_rfl) (fun _ _ _ h=>h) (Or.inl ⟨by rfl,?_⟩) ?_ ?_;rotate_left;intro w';go_simp;with_reducible rfl;rotate_left;go_simp;rfl
     refine take_ (i:=0) (N:=some 13) (v:=?_) (a':=?_) (bA 7 15) rfl rfl (by kernel_rfl) (fun _ _ _ h=>h) (Or.inl ⟨by rfl,?_⟩) hHeld ?_ ?_;rotate_left;rintro w' ⟨s0,s1,s2,s3,s4,s5,s6,s7,s8,s9,s10⟩;go_simp;with_reducible rfl;rotate_left;go_simp;rfl
     refine take_ (i:=4) (N:=some 17) (v:=?_) (a':=?_) (bA 7 31) rfl rfl (by kernel_rfl) (fun _ _ _ h=>h) (Or.inl ⟨by rfl,?_⟩) hHeld ?_ ?_;rotate_left;rintro w' ⟨s0,s1,s2,s3,s4,s5,s6,s7,s8,s9,s10⟩;go_simp;with_reducible rfl;rotate_left;go_simp;rfl
     refine one_ (i:=5) (N:=some 18) (bA 7 63) rfl rfl (by kernel_rfl) (by decide) (fun K hK=>?_);refine gsB Tryz.func142 (jq.calls k1 _ _ qe _ _ qc _ _ ((qd l1 qg).f0.f0.f0) ((qd l1 qg).f0.f1) ((qd l1 qg).f0.f2) ((qd l1 qg).f0.f3) _ _ ((qd l1 qg).f0.f4.f0) _ _ ((qd l1 qg).f0.f5) _ _ ((qd l1 qg).f0.f6) ((qd l1 qg).f1) ((qd l1 qg).f2) qQ _ (cv qD HB) qF.out (cv ye HB) yO.out (cv zy HB) yU.out (cv Qr HB) Zz.out (cv Qq HB) Zy.out (cv Qp HB) Zx.out A6.out) (fun w9 hb=>?_);replace qb:=b1 qb hb;replace HB:=b2s bs hb;refine hK.out _ _ kp (fun hHeld=>?_);(try clear hb)
     clear hK K;refine norm_ (a':=?_) ?_ ?_;rotate_left;go_simp;rfl;refine pure_ (i:=6) (N:=some 6) (v:=?_) (a':=?_) (bA 7 127) rfl rfl (by kernel_rfl) (fun _ _ _ h=>h) (Or.inl ⟨by rfl,?_⟩) ?_ ?_;rotate_left;intro w';go_simp;with_reducible rfl;rotate_left;go_simp;rfl
     refine done_ (by kernel_rfl) ?_;try go_wp2
     go_roundg k1;case measure=>have:=HK1.out;omega
     case rel=>exact ⟨(wrap64 (qg+1)),o2,H',⟨by have:=HK1.out;omega⟩,⟨bk qb.out⟩,⟨bs⟩⟩
    ·obtain rfl:=Option.some.inj H;try go_wp2
     replace qb:=ak (blk_drew qb.out);replace HB:=ak (below_drew1 HB.out);obtain ⟨qJ,JP,JO,Yo,Yi,Yn,Yh,Ym,Yg,rfl,Xq,Xp,Xo,Xn,Xm,Xl,Xk,qc8,qc7,yE,JV,JU,JT,JS,JR,JQ,qbt,qbs,yU,zy,Zz,Qr,Zy,Qq,Zx,Qp,Xc,Xb⟩:=elw_T107 HR1 HB qg;refine start_ (n:=7) (S:=fun w'=>w'.cell? ⟨qh,0,none⟩=some (.slice qy qe.length qx)∧w'.cell? ⟨qh,1,none⟩=some (.slice jH qc.length ji)∧w'.cell? (qJ.add ((qg).toNat * 9))=some (.slice JP ((qd l1 qg).f0.f0.f0).length JO)∧w'.cell? ⟨(qJ.add ((qg).toNat * 9)).block,(qJ.add ((qg).toNat * 9)).off+1,none⟩=some (.int .i64 ((qd l1 qg).f0.f1))∧w'.cell? ⟨(qJ.add ((qg).toNat * 9)).block,(qJ.add ((qg).toNat * 9)).off+2,none⟩=some (.int .i64 ((qd l1 qg).f0.f2))∧w'.cell? ⟨(qJ.add ((qg).toNat * 9)).block,(qJ.add ((qg).toNat * 9)).off+3,none⟩=some (.int .i64 ((qd l1 qg).f0.f3))∧w'.cell? ⟨(qJ.add ((qg).toNat * 9)).block,(qJ.add ((qg).toNat * 9)).off+4,none⟩=some (.slice Yo ((qd l1 qg).f0.f4.f0).length Yi)∧w'.cell? ⟨(qJ.add ((qg).toNat * 9)).block,(qJ.add ((qg).toNat * 9)).off+5,none⟩=some (.slice Yn ((qd l1 qg).f0.f5).length Yh)∧w'.cell? ⟨(qJ.add ((qg).toNat * 9)).block,(qJ.add ((qg).toNat * 9)).off+6,none⟩=some (.slice Ym ((qd l1 qg).f0.f6).length Yg)∧w'.cell? ⟨(qJ.add ((qg).toNat * 9)).block,(qJ.add ((qg).toNat * 9)).off+7,none⟩=some (.int .i64 ((qd l1 qg).f1))∧w'.cell? ⟨(qJ.add ((qg).toNat * 9)).block,(qJ.add ((qg).toNat * 9)).off+8,none⟩=some (.bool ((qd l1 qg).f2))) (ds:=[]) (bA 7 0) (by kernel_rfl) rfl rfl ⟨(blk_cell qb.out 0).trans rfl,(blk_cell qb.out 1).trans rfl,(pw_cell_below HB.out Xq),(pw_cell_below HB.out Xp),(pw_cell_below HB.out Xo),(pw_cell_below HB.out Xn),(pw_cell_below HB.out Xm),(pw_cell_below HB.out Xl),(pw_cell_below HB.out Xk),(pw_cell_below HB.out qc8),(pw_cell_below HB.out qc7)⟩ (fun hHeld=>?_);generalize wr.drew=w10 at qb HB zy Qr Qq Qp yE JV JU JT JS JR JQ qbt qbs hHeld ⊢;refine pure_ (i:=1) (N:=some 14) (v:=?_) (a':=?_) (bA 7 2) rfl rfl (by kernel_rfl) (fun _ _ _ h=>h) (Or.inl ⟨by rfl,?_⟩) ?_ ?_;rotate_left;intro w';go_simp;with_reducible rfl;rotate_left;go_simp;rfl
     refine pure_ (i:=2) (N:=some 15) (v:=?_) (a':=?_) (bA 7 6) rfl rfl (by kernel_rfl) (fun _ _ _ h=>h) (Or.inl ⟨by rfl,?_⟩) ?_ ?_;rotate_left;intro w';go_simp;with_reducible rfl;rotate_left;go_simp;rfl
     refine pure_ (i:=3) (N:=some 16) (v:=?_) (a':=?_) (bA 7 14) rfl rfl (by kernel_rfl) (fun _ _ _ h=>h) (Or.inl ⟨by rfl,?_⟩) ?_ ?_;rotate_left;intro w';go_simp;with_reducible rfl;rotate_left;go_simp;rfl
     refine take_ (i:=0) (N:=some 13) (v:=?_) (a':=?_) (bA 7 15) rfl rfl (by kernel_rfl) (fun _ _ _ h=>h) (Or.inl ⟨by rfl,?_⟩) hHeld ?_ ?_;rotate_left;rintro w' ⟨s0,s1,s2,s3,s4,s5,s6,s7,s8,s9,s10⟩;go_simp;with_reducible rfl;rotate_left;go_simp;rfl
     refine take_ (i:=4) (N:=some 17) (v:=?_) (a':=?_) (bA 7 31) rfl rfl (by kernel_rfl) (fun _ _ _ h=>h) (Or.inl ⟨by rfl,?_⟩) hHeld ?_ ?_;rotate_left;rintro w' ⟨s0,s1,s2,s3,s4,s5,s6,s7,s8,s9,s10⟩;go_simp;with_reducible rfl;rotate_left;go_simp;rfl
     refine one_ (i:=5) (N:=some 18) (bA 7 63) rfl rfl (by kernel_rfl) (by decide) (fun K hK=>?_);refine gsB Tryz.func142 (jq.calls k1 _ _ qe _ _ qc _ _ ((qd l1 qg).f0.f0.f0) ((qd l1 qg).f0.f1) ((qd l1 qg).f0.f2) ((qd l1 qg).f0.f3) _ _ ((qd l1 qg).f0.f4.f0) _ _ ((qd l1 qg).f0.f5) _ _ ((qd l1 qg).f0.f6) ((qd l1 qg).f1) ((qd l1 qg).f2) qQ _ (cv qD HB) qF.out (cv ye HB) yO.out (cv zy HB) yU.out (cv Qr HB) Zz.out (cv Qq HB) Zy.out (cv Qp HB) Zx.out A6.out) (fun w11 hb=>?_);replace qb:=b1 qb hb;replace HB:=b2s bs hb;refine hK.out _ _ kp (fun hHeld=>?_);(try clear hb)
     clear hK K;refine norm_ (a':=?_) ?_ ?_;rotate_left;go_simp;rfl;refine pure_ (i:=6) (N:=some 6) (v:=?_) (a':=?_) (bA 7 127) rfl rfl (by kernel_rfl) (fun _ _ _ h=>h) (Or.inl ⟨by rfl,?_⟩) ?_ ?_;rotate_left;intro w';go_simp;with_reducible rfl;rotate_left;go_simp;rfl
     refine done_ (by kernel_rfl) ?_;try go_wp2
     go_ret;exact ⟨o1,bs⟩
   ·replace H:=bnd H;obtain ⟨qE,A12,H⟩:=H;replace H:=ib H;obtain ⟨rfl,H⟩ | ⟨rfl,H⟩:=H
    ·obtain rfl:=Option.some.inj H;obtain ⟨qbA,qcs,qbx,qcm⟩:=cells2 qb.out;go_wp2_with (((with_reducible refine gate_callee (f:=143) rfl ?_);refine glB 24 rfl rfl Tryz.func143 (jN.calls k1 _ _ qe (fun k_=>k_ < w.heap.size) _ _ qc (fun k_=>k_ < w.heap.size) _ _ l1 true _ (cv qD HB) qF.out ?yb ?Jt A12.out) (fun w15 hb=>?_);(case yb=>exact Kd.V_mk yO.out (Kd.F_below (Kd.C_F k105_heap ye.out) bs));(case Jt=>exact Kd.V_mk HC1.out (Kd.F_below (Kd.C_F k107_heap HR1.out) bs));replace qb:=b1 qb hb;replace HB:=b2s bs hb;(try clear hb)));go_ret;exact ⟨o1,bs⟩
    ·obtain rfl:=Option.some.inj H;obtain ⟨qcp,qdx,qcj,qdm⟩:=cells2 qb.out;go_wp2_with (((with_reducible refine gate_callee (f:=143) rfl ?_);refine glB 24 rfl rfl Tryz.func143 (jN.calls k1 _ _ qe (fun k_=>k_ < w.heap.size) _ _ qc (fun k_=>k_ < w.heap.size) _ _ l1 false _ (cv qD HB) qF.out ?yb ?Jt A12.out) (fun w17 hb=>?_);(case yb=>exact Kd.V_mk yO.out (Kd.F_below (Kd.C_F k105_heap ye.out) bs));(case Jt=>exact Kd.V_mk HC1.out (Kd.F_below (Kd.C_F k107_heap HR1.out) bs));replace qb:=b1 qb hb;replace HB:=b2s bs hb;(try clear hb)));go_ret;exact ⟨o1,bs⟩
end Go.Proofs.YtfddbkaoghdfgaaGreat.Q

namespace Go.Proofs.YtfddbkaoghdfgaaGreat.Q
open Go.RowKit Go Go.Proofs.YtfddbkaoghdfgaaGreatW.PrintWords Go.Proofs.YtfddbkaoghdfgaaGreatW.PrintLast Go.Proofs.YtfddbkaoghdfgaaGreatW.PrintMore
attribute [local go_sem] max2_int min2_int max_two min_two
set_option linter.unusedVariables false
set_option linter.unusedSimpArgs false

noncomputable def Zr.f (k:Nat) (qe:List (List Int)) (qc:List (qY)) (l1:List (zm)):Option (Int):=(qA.f k qe qc).bind fun qS=>(if qS=true then ((zY.f k l1).bind fun qQ=>(if qQ=true then ((zC.f k qe qc l1).bind fun qE=>(some qE)) else (some 1))) else (some 1))
set_option maxHeartbeats 8000000 in
set_option maxRecDepth 100000 in
theorem Zr.calls (k:Nat) (qy:Option Addr) (qx:Nat) (qe:List (List Int)) (jH:Option Addr) (ji:Nat) (qc:List (qY)) (A1:Option Addr) (c1:Nat) (l1:List (zm)) (r:Int) (w:World) (qO:Kd.C (Kd.slice 5 (Kd.int .u8)) w qy qe.length qe) (qW:qe.length≤qx) (Je:Kd.C jR w jH qc.length qc) (Jf:qc.length≤ji) (hr1:Kd.C yY w A1 l1.length l1) (hc1:l1.length≤c1) (h:Zr.f k qe qc l1=some r) :
  Calls Tryz.prog 31 #[.agg #[.slice qy qe.length qx,.slice jH qc.length ji],.slice A1 l1.length c1] w fun e w'=>e=.returned (.int .i64 r)∧Below w.heap.size w w':=by
 have qcZ:=Tryz.underlying67;have qD:=ak qO;have qF:=ak qW;clear qO qW;have ye:=ak Je;have yO:=ak Jf;clear Je Jf;have HR1:=ak hr1;have HC1:=ak hc1;clear hr1 hc1;have HB:=ak (Below.refl w.heap.size w);have H:((qA.f k qe qc).bind fun qS=>(if qS=true then ((zY.f k l1).bind fun qQ=>(if qQ=true then ((zC.f k qe qc l1).bind fun qE=>(some qE)) else (some 1))) else (some 1)))=some r:=h;clear h;replace H:=bnd H;obtain ⟨qS,A3,H⟩:=H;replace H:=ib H;obtain ⟨rfl,H⟩ | ⟨rfl,H⟩:=H
 ·replace H:=bnd H;obtain ⟨qQ,A5,H⟩:=H;replace H:=ib H;obtain ⟨rfl,H⟩ | ⟨rfl,H⟩:=H
  ·replace H:=bnd H;obtain ⟨qE,A7,H⟩:=H;obtain rfl:=Option.some.inj H;go_enter Tryz.func31,Tryz.ntmps31;go_wp2_with (first | ((with_reducible refine gate_dst (N:=2) rfl ?_);refine bxd (N:=2) rfl HB ?_;clear HB;intro qh w8 hg HB qb qC hb;have jj:=qC;clear hb hg;obtain ⟨qba,qcL,qa9,qcK⟩:=cells2 qb.out) | ((with_reducible refine gate_callee (f:=76) rfl ?_);refine glB 6 rfl rfl Tryz.func76 (qA.calls k _ _ qe _ _ qc true _ (cv qD HB) qF.out (cv ye HB) yO.out A3.out) (fun w10 hb=>?_);replace qb:=b1 qb hb;replace HB:=b2s bs hb;(try clear hb)) | (go_at_call 77;(with_reducible refine (zY.calls k _ _ l1 true _ (cv HR1 HB) HC1.out A5.out).mono ?_);rintro e w11 ⟨rfl,hb⟩;replace qb:=b1 qb hb;replace HB:=b2s bs hb;(try clear hb);obtain ⟨qbB,qfc,qby,qeZ⟩:=cells2 qb.out) | ((with_reducible refine gate_callee (f:=78) rfl ?_);refine glB 15 rfl rfl Tryz.func78 (zC.calls k _ _ qe _ _ qc _ _ l1 qE _ (cv qD HB) qF.out (cv ye HB) yO.out (cv HR1 HB) HC1.out A7.out) (fun w13 hb=>?_);replace qb:=b1 qb hb;replace HB:=b2s bs hb;(try clear hb)));go_ret;exact ⟨o1,bs⟩
  ·obtain rfl:=Option.some.inj H;go_enter Tryz.func31,Tryz.ntmps31;go_wp2_with (first | ((with_reducible refine gate_dst (N:=2) rfl ?_);refine bxd (N:=2) rfl HB ?_;clear HB;intro qh w14 hg HB qb qC hb;have jj:=qC;clear hb hg;obtain ⟨qcr,qcq,qcl,qck⟩:=cells2 qb.out) | ((with_reducible refine gate_callee (f:=76) rfl ?_);refine glB 6 rfl rfl Tryz.func76 (qA.calls k _ _ qe _ _ qc true _ (cv qD HB) qF.out (cv ye HB) yO.out A3.out) (fun w16 hb=>?_);replace qb:=b1 qb hb;replace HB:=b2s bs hb;(try clear hb)) | (go_at_call 77;(with_reducible refine (zY.calls k _ _ l1 false _ (cv HR1 HB) HC1.out A5.out).mono ?_);rintro e w17 ⟨rfl,hb⟩;replace qb:=b1 qb hb;replace HB:=b2s bs hb;(try clear hb)));go_ret;exact ⟨o1,bs⟩
 ·obtain rfl:=Option.some.inj H;go_enter Tryz.func31,Tryz.ntmps31;go_wp2_with (first | ((with_reducible refine gate_dst (N:=2) rfl ?_);refine bxd (N:=2) rfl HB ?_;clear HB;intro qh w18 hg HB qb qC hb;have jj:=qC;clear hb hg;obtain ⟨qht,qnc,qg3,qmP⟩:=cells2 qb.out) | ((with_reducible refine gate_callee (f:=76) rfl ?_);refine glB 6 rfl rfl Tryz.func76 (qA.calls k _ _ qe _ _ qc false _ (cv qD HB) qF.out (cv ye HB) yO.out A3.out) (fun w20 hb=>?_);replace qb:=b1 qb hb;replace HB:=b2s bs hb;(try clear hb)));go_ret;exact ⟨o1,bs⟩
end Go.Proofs.YtfddbkaoghdfgaaGreat.Q

namespace Go.Proofs.YtfddbkaoghdfgaaGreat.Q
open Go.RowKit Go Go.Proofs Go.Sort Go.Proofs.YtfddbkaoghdfgaaGreatW.PrintWords Go.Proofs.YtfddbkaoghdfgaaGreatW.PrintLast Go.Proofs.YtfddbkaoghdfgaaGreatW.PrintMore
set_option linter.unusedVariables false
structure SetsC (k:Nat) (o:List (List Int)) (R:List RI) (L:List WI):Prop where
  lenL:L.length≤12
  lenR:R.length≤60
  srt:R.Pairwise (fun x y=>Pure.cmpR x y < 0)
  cmp:∀ x ∈ recs R L,∀ y ∈ recs R L,jw.f k x.f0.f0 x.f1 x.f2 x.f3 x.f4.f0 x.f5 x.f6 y.f0.f0 y.f1 y.f2 y.f3 y.f4.f0 y.f5 y.f6=some (Pure.cmpR x y)
  is_:∀ x ∈ L,∀ y ∈ L,x.f2=false→y.f2=false→zc.f k y.f0.f0.f0 x.f0.f0.f0=some (Pure.sameN y.f0.f0.f0 x.f0.f0.f0)
  set:∀ x ∈ L,x.f2=false→qR.f k o R x.f0.f0.f0 x.f0.f1=some (Pure.setOf R x.f0.f0.f0 x.f0.f1)
open Classical in
noncomputable def YI.f (k:Nat) (qe:List (List Int)) (qc:List RI) (l1:List WI):Option Bool:=if SetsC k qe qc l1 then some (Pure.setsB qc l1 l1) else none
theorem YI.is {k:Nat} {o:List (List Int)} {R:List RI} {L:List WI} {b:Bool} (h:YI.f k o R L=some b):SetsC k o R L∧Pure.setsB R L L=b:=by
  unfold YI.f at h;split at h
  · exact ⟨‹_›,Option.some.inj h⟩
  · cases h
theorem is_any (k:Nat) (e1 e2:El) (x1 x2:RI) (r:Bool) (W:World) (h1:RecAt W e1 x1) (h2:RecAt W e2 x2) (h:zc.f k x1.f0.f0 x2.f0.f0=some r):Calls Tryz.prog 85 #[.agg #[.slice e1.A0 e1.n0 e1.c0],.agg #[.slice e2.A0 e2.n0 e2.c0]] W fun e w'=>e=.returned (.bool r)∧Below W.heap.size W w':=by
  have p1:=h1.parts;have p2:=h2.parts;rw [p1.n0,p2.n0];exact zc.calls k _ _ _ _ _ _ r W p1.r0 p1.l0 p2.r0 p2.l0 h
theorem compare_any (k:Nat) (e1 e2:El) (x y:RI) (r:Int) (W:World) (h1:RecAt W e1 x) (h2:RecAt W e2 y) (h:jw.f k x.f0.f0 x.f1 x.f2 x.f3 x.f4.f0 x.f5 x.f6 y.f0.f0 y.f1 y.f2 y.f3 y.f4.f0 y.f5 y.f6=some r):Calls Tryz.prog 87 #[e1.agg,e2.agg] W fun e w'=>e=.returned (.int .i64 r)∧Below W.heap.size W w':=by
  have p:=h1.parts;have q:=h2.parts;unfold El.agg;rw [p.n0,p.ty,p.tl,p.ad,p.n4,p.n5,p.n6,q.n0,q.ty,q.tl,q.ad,q.n4,q.n5,q.n6];exact jw.calls k _ _ _ _ _ _ _ _ _ _ _ _ _ _ _ _ _ _ _ _ _ _ _ _ _ _ _ _ _ _ r W p.r0 p.l0 p.r4 p.l4 p.r5 p.l5 p.r6 p.l6 q.r0 q.l0 q.r4 q.l4 q.r5 q.l5 q.r6 q.l6 h
theorem same_any (k:Nat) (e1 e2:El) (x y:RI) (r:Bool) (W:World) (h1:RecAt W e1 x) (h2:RecAt W e2 y) (h:YS.f k x.f0.f0 x.f1 x.f2 x.f3 x.f4.f0 x.f5 x.f6 y.f0.f0 y.f1 y.f2 y.f3 y.f4.f0 y.f5 y.f6=some r):Calls Tryz.prog 89 #[e1.agg,e2.agg] W fun e w'=>e=.returned (.bool r)∧Below W.heap.size W w':=by
  have p:=h1.parts;have q:=h2.parts;unfold El.agg;rw [p.n0,p.ty,p.tl,p.ad,p.n4,p.n5,p.n6,q.n0,q.ty,q.tl,q.ad,q.n4,q.n5,q.n6];exact YS.calls k _ _ _ _ _ _ _ _ _ _ _ _ _ _ _ _ _ _ _ _ _ _ _ _ _ _ _ _ _ _ r W p.r0 p.l0 p.r4 p.l4 p.r5 p.l5 p.r6 p.l6 q.r0 q.l0 q.r4 q.l4 q.r5 q.l5 q.r6 q.l6 h
theorem set_any (k:Nat) {qy:Option Addr} {qx:Nat} {qe:List (List Int)} {jH:Option Addr} {ji:Nat} {qc:List RI} (w W:World) (hb:Below w.heap.size w W) (hC1:Kd.C jR w jH qc.length qc) (hl1:qc.length≤ji) (hR:Kd.C (Kd.slice 27 (Kd.int .u8)) w qy qe.length qe) (hC:qe.length≤qx) (e:El) (x:RI) (r:List RI) (h2:RecAt W e x) (h:qR.f k qe qc x.f0.f0 x.f1=some r) :
    Calls Tryz.prog 83 #[.agg #[.slice qy qe.length qx,.slice jH qc.length ji],.agg #[.slice e.A0 e.n0 e.c0],.int .i64 e.ty] W fun e' w'=>∃ (A:Option Addr) (c:Nat) (d:Array El),e'=.returned (.slice A d.size c)∧RowAt w' A d∧d.toList.map (dec w')=r∧(∀ a ∈ d.toList,∃ x ∈ r,RecAt w' a x)∧Below W.heap.size W w':=by
  have p:=h2.parts;rw [p.n0,p.ty];refine (qR.calls k _ _ qe (fun k_=>k_ < w.heap.size) _ _ qc _ _ x.f0.f0 x.f1 r W (Kd.C_below hR hb) hC (Kd.V_mk hl1 (Kd.F_below (Kd.C_F k105_heap hC1) hb)) p.r0 p.l0 h).mono ?_;rintro e' w' ⟨v,rfl,hN,hb2⟩;obtain ⟨A,c,d,rfl,h1,_,h3,h4⟩:=N_rowEl hN;exact ⟨A,c,d,rfl,h1,h3,h4,hb2⟩
theorem Sb.base {w0 w W:World} {g:Nat} (h:Sb w g W) (hb:Below w0.heap.size w0 w) (hg:w0.heap.size≤g):Below w0.heap.size w0 W where
  os:=h.os.trans hb.os
  tape:=h.tape.trans hb.tape
  output:=h.output.trans hb.output
  size:=Nat.le_trans hb.size h.size
  block k hk:=(h.out k (Nat.lt_of_lt_of_le hk hb.size) (by omega)).trans (hb.block k hk)
def goodW (w:World) (R:List RI) (L:List WI) (e:El):Prop:=∃ x,RecAt w e x∧x ∈ recs R L
theorem cmps_of {k:Nat} {o:List (List Int)} {R:List RI} {L:List WI} (hS:SetsC k o R L) {w0 w:World} {g:Nat} (hb:Below w0.heap.size w0 w) (hg:w0.heap.size≤g):Cmps w g 87 #[] (goodW w0 R L) (cfW w0):=by
  intro W hW x y ⟨a,ha,ha2⟩ ⟨b,hb2,hb3⟩;have hB:=hW.base hb hg;rw [Array.append_empty];unfold cfW;rw [dec_eq ha,dec_eq hb2];exact compare_any k x y a b _ W (ha.below hB) (hb2.below hB) (hS.cmp a ha2 b hb3)
theorem same_f {k:Nat} {o:List (List Int)} {R:List RI} {L:List WI} (hS:SetsC k o R L) {x y:RI} (hx:x ∈ recs R L) (hy:y ∈ recs R L):YS.f k x.f0.f0 x.f1 x.f2 x.f3 x.f4.f0 x.f5 x.f6 y.f0.f0 y.f1 y.f2 y.f3 y.f4.f0 y.f5 y.f6=some (Pure.cmpR x y == 0):=by
  unfold YS.f;rw [hS.cmp x hx y hy];rfl
theorem samesB_of {k:Nat} {o:List (List Int)} {R:List RI} {L:List WI} (hS:SetsC k o R L) {w0 w:World} {g:Nat} (hb:Below w0.heap.size w0 w) (hg:w0.heap.size≤g):SamesB w g 89 #[] (goodW w0 R L) (smW w0):=by
  intro W hW x y ⟨a,ha,ha2⟩ ⟨b,hb2,hb3⟩;have hB:=hW.base hb hg;rw [Array.append_empty];unfold smW cfW;rw [dec_eq ha,dec_eq hb2];exact same_any k x y a b _ W (ha.below hB) (hb2.below hB) (same_f hS ha2 hb3)
theorem sames_of {k:Nat} {o:List (List Int)} {R:List RI} {L:List WI} (hS:SetsC k o R L) {w:World}:Sames w 89 #[] (goodW w R L) (smW w):=by
  intro W hB x y ⟨a,ha,ha2⟩ ⟨b,hb2,hb3⟩;rw [Array.append_empty];unfold smW cfW;rw [dec_eq ha,dec_eq hb2];exact same_any k x y a b _ W (ha.below hB) (hb2.below hB) (same_f hS ha2 hb3)
theorem R_far9 {α:Type} {d:Kd α} {e:Nat} {W:World} {base:Nat} {ok:Nat→Prop} {v:Value} {xs:List α} {g:Nat} (h:d.R e W base ok v xs) (hok:∀ k,ok k→k≠g) (v0 v1 v2 v3 v4 v5 v6 v7 v8:Value):d.R e (((((((((W.setCell ⟨g,0,none⟩ v0).setCell ⟨g,1,none⟩ v1).setCell ⟨g,2,none⟩ v2).setCell ⟨g,3,none⟩ v3).setCell ⟨g,4,none⟩ v4).setCell ⟨g,5,none⟩ v5).setCell ⟨g,6,none⟩ v6).setCell ⟨g,7,none⟩ v7).setCell ⟨g,8,none⟩ v8) base ok v xs :=
  Kd.R_far (p:=⟨g,8,none⟩) (Kd.R_far (p:=⟨g,7,none⟩) (R_far7 h hok v0 v1 v2 v3 v4 v5 v6) hok v7) hok v8
theorem Sw.here {w W:World} {g:Nat} {d:Array El} (h:Sw w g W d):Sw W g W d:=⟨Sb.refl _ _,Nat.lt_of_lt_of_le h.lt h.sb.size,h.row⟩
theorem Sb.blk {w W:World} {g k:Nat} {x:Obj} (h:Sb w g W) (hb:w.heap[k]?=some x) (hk:k≠g):W.heap[k]?=some x:=(h.out k (blk_lt hb) hk).trans hb
set_option maxRecDepth 100000 in
theorem eq_of {k:Nat} {o:List (List Int)} {R:List RI} {L:List WI} (hS:SetsC k o R L) {w w1:World} (hb:Below w.heap.size w w1) {es K:List El} {g cap k9:Nat} {A9:Option Addr} {d2:Array El} {v:Bool} {n:List (List Int)} {t:Int} (hrow:HoldsK El.enc 7 w1 g 0 K.toArray) (hg:g < w1.heap.size) (qdV:RowAt w1 A9 d2) (hrec:∀ a ∈ d2.toList,∃ x ∈ Pure.setOf R n t,RecAt w1 a x) (hHG:∀ a ∈ es,RecAt w a (dec w a)∧dec w a ∈ recs R L) (hGK:∀ a ∈ K,a ∈ es) (hKl:K.length≤12) (hse:eqRows (smW w1) K.toArray d2=v) :
    Calls Tryz.prog 90 #[.slice (some ⟨g,0,none⟩) K.length cap,.slice A9 d2.size k9,.func (.func 89) #[] #[]] w1 fun e w'=>e=.returned (.bool v)∧Below w1.heap.size w1 w':=by
  rw [← hse];refine equal_any 89 #[] (fun _ _=>rfl) (goodW w1 R L) (smW w1) (some ⟨g,0,none⟩) A9 cap k9 K.toArray d2 w1 (sames_of hS) (.inr ⟨g,rfl,hg,hrow⟩) qdV (fun j hj=>?_) (fun j hj=>?_) (by simp only [List.size_toArray];omega)
  · have hj':j < K.length:=by simpa using hj
    rw [getElem!_pos K.toArray j hj];have h1:=hHG _ (hGK K[j] (List.getElem_mem hj'));exact ⟨_,h1.1.below hb,h1.2⟩
  · rw [getElem!_pos d2 j hj]
    obtain ⟨x,hx,hr⟩:=hrec d2[j] (by simp);exact ⟨x,hr,recs_right (List.mem_filter.1 hx).1⟩
theorem own_no {L:List WI} {x:WI} (m:Nat) (hm:m < L.length) (h:Pure.isOwn x L[m]=false):Pure.ownOf (L.take (m+1)) x=Pure.ownOf (L.take m) x:=by
  unfold Pure.ownOf;rw [List.take_succ_eq_append_getElem hm,List.filter_append];simp [h]
theorem own_yes {L:List WI} {x:WI} (m:Nat) (hm:m < L.length) (h:Pure.isOwn x L[m]=true):Pure.ownOf (L.take (m+1)) x=Pure.ownOf (L.take m) x ++ [L[m].f0]:=by
  unfold Pure.ownOf;rw [List.take_succ_eq_append_getElem hm,List.filter_append];simp [h]
theorem own_self {L:List WI} (i:Nat) (hi:i < L.length) (h:L[i].f2=false):L[i].f0 ∈ Pure.ownOf L L[i]:=List.mem_map.2 ⟨L[i],List.mem_filter.2 ⟨List.getElem_mem hi,by simp [Pure.isOwn,h,Pure.sameN_refl]⟩,rfl⟩
end Go.Proofs.YtfddbkaoghdfgaaGreat.Q

