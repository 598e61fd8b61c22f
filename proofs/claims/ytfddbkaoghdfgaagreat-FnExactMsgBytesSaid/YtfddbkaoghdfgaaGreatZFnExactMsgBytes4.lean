/- Printed by a program of this session (wip/myprint.py), which drives the kit's printer: functions and what their calls do. -/
import Derived.Test.YtfddbkaoghdfgaaGreatZFnExactMsgBytes0
import Derived.Test.YtfddbkaoghdfgaaGreatZFnExactMsgBytes1
import Derived.Test.YtfddbkaoghdfgaaGreatZFnExactMsgBytes2
import Derived.Test.YtfddbkaoghdfgaaGreatZFnExactMsgBytes3
namespace Go.Proofs.YtfddbkaoghdfgaaGreat.Q
open Go.RowKit Go Go.Proofs.YtfddbkaoghdfgaaGreatW.PrintWords Go.Proofs.YtfddbkaoghdfgaaGreatW.PrintLast Go.Proofs.YtfddbkaoghdfgaaGreatW.PrintMore

set_option linter.unusedVariables false
set_option linter.unusedSimpArgs false

/-- An element of a row: its cells, where they lie, what it leads to. -/
theorem R_at {α:Type} {d:Kd α} {e base:Nat} {ok:Nat→Prop} {w:World} {v:Value} {xs:List α} (h:d.R e w base ok v xs) (i:Nat) (hi:i < xs.length) :
    ∃ (P:Nat→Prop) (c:List Value) (g cap:Nat) (cur:Array Value),(∀ k,P k→ok k∧k≠g)∧ok g∧v=.slice (some ⟨g,0,none⟩) xs.length cap∧w.heap[g]?=some (.cells cur e (0,0))∧d.M w base P (xs[i]) c∧∀ j u,c[j]?=some u→cur[i * d.sz+j]?=some u:=by
  obtain ⟨h0,inner,⟨hil,ho⟩,hrl,hr⟩:=h;rcases ho with ⟨rfl,hn⟩ | ⟨g,cap,cur,rfl,hb,hg,hcap,hmax,hsz,htk⟩
  · omega
  · refine ⟨_,_,g,cap,cur,fun k hk=>⟨hk.1,fun e=>hk.2 (by rw [e]; rfl)⟩,h0 g rfl,rfl,hg,hr i _ (List.getElem?_eq_getElem hi),fun j u hu=>?_⟩
    rw [List.getElem?_take] at hu;split at hu
    · rw [List.getElem?_drop,← htk,List.getElem?_take] at hu
      split at hu
      · have:=hu; simp only [Array.getElem?_toList] at this; exact this
      · cases hu
    · cases hu
/-- How many bytes a row of rows holds. -/
def sumB (l:List (List Int)):Nat:=(l.map List.length).sum
theorem sumB_sh {xs ys:List (List Int)} (h:ShL (ShL (fun _ _=>True)) xs ys):sumB ys=sumB xs:=by
  obtain ⟨h1,h2⟩:=h;induction xs generalizing ys with
  | nil=>have:=List.eq_nil_of_length_eq_zero h1; subst this; rfl
  | cons x xs ih =>
    cases ys with
    | nil=>simp at h1
    | cons y ys =>
      have e:=(h2 0 x y rfl rfl).1;have:=ih (ys:=ys) (by simpa using h1) (fun j a b ha hb=>h2 (j+1) a b (by simpa using ha) (by simpa using hb));simp only [sumB,List.map_cons,List.sum_cons] at this ⊢;omega
/-- Sums of a measure over the front of a list. -/
def sumN {α:Type} (n:α→Nat) (l:List α):Nat:=(l.map n).sum
theorem sumN_next {α:Type} (n:α→Nat) (l:List α) (i:Nat) (h:i < l.length):sumN n (l.take (i+1))=sumN n (l.take i)+n l[i]:=by
  rw [List.take_succ_eq_append_getElem h]; simp only [sumN,List.map_append,List.sum_append,List.map_cons,List.map_nil,List.sum_cons,List.sum_nil,Nat.add_zero]
theorem sumN_take {α:Type} (n:α→Nat) (l:List α) (i:Nat):sumN n (l.take i)≤sumN n l:=by
  have h:=congrArg (sumN n) (List.take_append_drop i l);have h2:sumN n (l.take i ++ l.drop i)=sumN n (l.take i)+sumN n (l.drop i):=by simp only [sumN,List.map_append,List.sum_append]
  omega
set_option maxHeartbeats 8000000 in
set_option maxRecDepth 100000 in
/-- markByteS: numbers are written over a row of bytes. -/
theorem mk_bytes (P:Nat→Prop) (u:Value) (l:List Int) (k0:Int) (base:Nat) (w:World) (h:Kd.R (Kd.int .u8) 5 w base P u l) (h0:0≤k0) (h1:k0+l.length≤4611686018427387904) :
    Calls Tryz.prog 20 #[u,.int .i64 k0] w fun e w'=>e=.returned (.int .i64 (k0+l.length))∧Mark P w w':=by
  have HO:=Aside0.mk h;obtain ⟨A,c,rfl⟩:=Kd.R_slice h;clear h;go_enter Tryz.func20,Tryz.ntmps20;go_wp2;go_loopg [1,5] l.length (fun kq v1 v5 w'=>∃ i:Nat,i≤l.length∧l.length - i≤kq∧v1=.int .i64 (k0+i)∧v5=.int .i64 i∧Aside0 (Mark P w w'))
  case atStart=>exact ⟨0,Nat.zero_le _,by omega,by simp,rfl,⟨Mark.refl _ _⟩⟩
  case round =>
    obtain ⟨i,hi,hg,rfl,rfl,HM⟩:=hrel;by_cases hlt:i < l.length
    · obtain ⟨ys,⟨hyl,_⟩,hR⟩:=stab_R (stab_int _) HM.out HO.out
      obtain ⟨Q,cs,g,cap,cur,hQ,hPg,hu,hblk,hm,hcs⟩:=R_at hR i (by omega);injection hu with e1 e2 e3
      subst e1;subst e3;generalize ys[i]'(by omega)=y at hm;have hm:cs=[.int .u8 y]:=hm;subst hm;have hx:=hcs 0 _ rfl;simp only [Kd.int,Kd.scalar,Nat.mul_one,Nat.add_zero] at hx;have hcell:wr.cell? ⟨g,i,none⟩=some (.int .u8 y):=by rw [cell_of_row wr g _ cur _ (0,0) hblk]; exact hx
      have hfro:=blk_frozen hblk i;have HX:=Aside0.mk hx;have HBK:=Aside0.mk hblk;have HPo:=Aside0.mk hPg;have hltz:(i:Int) < (l.length:Int):=by omega
      have hi0:0≤(i:Int):=by omega
      clear hQ hblk hcs hR hyl e2 hx hPg hm;go_wp2_with (fail);go_roundg (l.length - (i+1));case measure=>omega
      case rel=>exact ⟨i+1,by omega,by omega,by go_num,by go_num,⟨HM.out.trans (Mark.set HBK.out HX.out HPo.out)⟩⟩
    · have:i=l.length:=by omega
      subst this;clear HO;have hlz:¬ (l.length:Int) < (l.length:Int):=by omega
      go_wp2;go_ret;exact ⟨rfl,HM.out⟩
set_option maxHeartbeats 8000000 in
set_option maxRecDepth 100000 in
/-- markIntS: so over a row of numbers. -/
theorem mk_ints (P:Nat→Prop) (u:Value) (l:List Int) (k0:Int) (base:Nat) (w:World) (h:Kd.R (Kd.int .i64) 3 w base P u l) (h0:0≤k0) (h1:k0+l.length≤4611686018427387904) :
    Calls Tryz.prog 114 #[u,.int .i64 k0] w fun e w'=>e=.returned (.int .i64 (k0+l.length))∧Mark P w w':=by
  have HO:=Aside0.mk h;obtain ⟨A,c,rfl⟩:=Kd.R_slice h;clear h;go_enter Tryz.func114,Tryz.ntmps114;go_wp2;go_loopg [1,5] l.length (fun kq v1 v5 w'=>∃ i:Nat,i≤l.length∧l.length - i≤kq∧v1=.int .i64 (k0+i)∧v5=.int .i64 i∧Aside0 (Mark P w w'))
  case atStart=>exact ⟨0,Nat.zero_le _,by omega,by simp,rfl,⟨Mark.refl _ _⟩⟩
  case round =>
    obtain ⟨i,hi,hg,rfl,rfl,HM⟩:=hrel;by_cases hlt:i < l.length
    · obtain ⟨ys,⟨hyl,_⟩,hR⟩:=stab_R (stab_int _) HM.out HO.out
      obtain ⟨Q,cs,g,cap,cur,hQ,hPg,hu,hblk,hm,hcs⟩:=R_at hR i (by omega);injection hu with e1 e2 e3
      subst e1;subst e3;generalize ys[i]'(by omega)=y at hm;have hm:cs=[.int .i64 y]:=hm;subst hm;have hx:=hcs 0 _ rfl;simp only [Kd.int,Kd.scalar,Nat.mul_one,Nat.add_zero] at hx;have hcell:wr.cell? ⟨g,i,none⟩=some (.int .i64 y):=by rw [cell_of_row wr g _ cur _ (0,0) hblk]; exact hx
      have hfro:=blk_frozen hblk i;have HX:=Aside0.mk hx;have HBK:=Aside0.mk hblk;have HPo:=Aside0.mk hPg;have hltz:(i:Int) < (l.length:Int):=by omega
      have hi0:0≤(i:Int):=by omega
      clear hQ hblk hcs hR hyl e2 hx hPg hm;go_wp2_with (fail);go_roundg (l.length - (i+1));case measure=>omega
      case rel=>exact ⟨i+1,by omega,by omega,by go_num,by go_num,⟨HM.out.trans (Mark.set HBK.out HX.out HPo.out)⟩⟩
    · have:i=l.length:=by omega
      subst this;clear HO;have hlz:¬ (l.length:Int) < (l.length:Int):=by omega
      go_wp2;go_ret;exact ⟨rfl,HM.out⟩
set_option maxHeartbeats 8000000 in
set_option maxRecDepth 100000 in
/-- markByteSS: so over rows of bytes. -/
theorem mk_byteSS (P:Nat→Prop) (u:Value) (l:List (List Int)) (k0:Int) (base:Nat) (w:World) (h:Kd.R (Kd.slice 5 (Kd.int .u8)) 27 w base P u l) (h0:0≤k0) (h1:k0+(sumN List.length l:Int)≤4611686018427387904) :
    Calls Tryz.prog 113 #[u,.int .i64 k0] w fun e w'=>e=.returned (.int .i64 (k0+(sumN List.length l:Int)))∧Mark P w w':=by
  have HO:=Aside0.mk h;have H1:=Aside0.mk h1
  have hbig:l.length≤9223372036854775807:=by
    obtain ⟨A,c,rfl,_,hr⟩:=Kd.R_reads h;exact hr.2.1
  obtain ⟨A,c,rfl⟩:=Kd.R_slice h;clear h h1;go_enter Tryz.func113,Tryz.ntmps113;go_wp2;go_loopg [1,5] l.length (fun kq v1 v5 w'=>∃ i:Nat,i≤l.length∧l.length - i≤kq∧v1=.int .i64 (k0+(sumN List.length (l.take i):Int))∧v5=.int .i64 i∧Aside0 (Mark P w w'))
  case atStart=>exact ⟨0,Nat.zero_le _,by omega,by simp [sumN],rfl,⟨Mark.refl _ _⟩⟩
  case round =>
    obtain ⟨i,hi,hg,rfl,rfl,HM⟩:=hrel;by_cases hlt:i < l.length
    · obtain ⟨ys,⟨hyl,hsh⟩,hR⟩:=stab_R (stab_slice _ (stab_int _)) HM.out HO.out
      obtain ⟨Q,cs,g,cap,cur,hQ,hPg,hu,hblk,hm,hcs⟩:=R_at hR i (by omega);injection hu with e1 e2 e3
      subst e1;subst e3;have hsi:=(hsh i _ _ (List.getElem?_eq_getElem hlt) (List.getElem?_eq_getElem (by omega))).1;generalize ys[i]'(by omega)=y at hm hsi;obtain ⟨vi,rfl,hRi⟩:=hm;obtain ⟨Ai,ci,rfl⟩:=Kd.R_slice hRi;have hx:=hcs 0 _ rfl;simp only [Kd.slice,Nat.mul_one,Nat.add_zero] at hx;have hcell:wr.cell? ⟨g,i,none⟩=some (.slice Ai y.length ci):=by rw [cell_of_row wr g _ cur _ (0,0) hblk]; exact hx
      have hn:=sumN_next List.length l i hlt;have hle:=sumN_take List.length l (i+1);have h1':=H1.out;rw [hsi] at hcell;have hcall:=mk_bytes Q (.slice Ai y.length ci) y (k0+(sumN List.length (l.take i):Int)) base wr hRi (by omega) (by omega);rw [hsi,show k0+(sumN List.length (l.take i):Int)+(l[i].length:Int)=k0+(sumN List.length (l.take (i+1)):Int) by omega] at hcall;have HQ:=Aside0.mk (fun k hk=>(hQ k hk).1);have hltz:(i:Int) < (l.length:Int):=by omega
      have hi0:0≤(i:Int):=by omega
      clear hQ hblk hcs hR hRi hsh hsi hyl e2 hx hPg hn hle h1';generalize l[i].length=n at hcell hcall;go_wp2_with (first | (go_at_call 20; refine hcall.mono ?_; rintro e w2 ⟨rfl,hm⟩; replace HM:=Aside0.mk (HM.out.trans (hm.mono HQ.out)); clear hm hcall));go_roundg (l.length - (i+1));case measure=>omega
      case rel=>exact ⟨i+1,by omega,by omega,rfl,by go_num,HM⟩
    · have:i=l.length:=by omega
      subst this;rw [List.take_of_length_le (Nat.le_refl _)];clear HO H1;have hlz:¬ (l.length:Int) < (l.length:Int):=by omega
      go_wp2;go_ret;exact ⟨rfl,HM.out⟩
/-! rows of structs -/
abbrev ShN (x y:S65):Prop:=ShL (ShL (fun _ _:Int=>True)) x.f0 y.f0
theorem stab_name:Stab k65 ShN:=stab_iso (fun x:S65=>x.f0) (fun x=>⟨x⟩) (fun _=>rfl) (stab_slice _ (stab_slice _ (stab_int _)))
abbrev ShI (x y:List Int):Prop:=ShL (fun _ _:Int=>True) x y
abbrev ShR (x y:qw):Prop:=ShN x.f0 y.f0∧True∧True∧True∧ShN x.f4 y.f4∧ShI x.f5 y.f5∧ShI x.f6 y.f6
theorem stab_rr:Stab js ShR:=stab_iso (fun x:qw=>(x.f0,x.f1,x.f2,x.f3,x.f4,x.f5,x.f6)) (fun x=>⟨x.1,x.2.1,x.2.2.1,x.2.2.2.1,x.2.2.2.2.1,x.2.2.2.2.2.1,x.2.2.2.2.2.2⟩) (fun _=>rfl) (stab_pair stab_name (stab_pair (stab_int _) (stab_pair (stab_int _) (stab_pair (stab_int _) (stab_pair stab_name (stab_pair (stab_slice _ (stab_int _)) (stab_slice _ (stab_int _))))))))
abbrev ShQ (x y:S96):Prop:=ShN x.f0 y.f0∧True
theorem stab_q:Stab k96 ShQ:=stab_iso (fun x:S96=>(x.f0,x.f1)) (fun x=>⟨x.1,x.2⟩) (fun _=>rfl) (stab_pair stab_name (stab_int _))
abbrev ShW (x y:qH):Prop:=ShR x.f0 y.f0∧True∧True
theorem stab_w:Stab zr ShW:=stab_iso (fun x:qH=>(x.f0,x.f1,x.f2)) (fun x=>⟨x.1,x.2.1,x.2.2⟩) (fun _=>rfl) (stab_pair stab_rr (stab_pair (stab_int _) stab_bool))
theorem sum_sh {xs ys:List (List Int)} (h:ShL (ShL (fun _ _=>True)) xs ys):sumN List.length ys=sumN List.length xs:=sumB_sh h
def n_q (x:S96):Nat:=sumN List.length x.f0.f0+1
theorem open_q {P:Nat→Prop} {w W:World} {base g n c:Nat} {xs:List S96} (hm:Mark P w W) (h:Kd.R k96 96 w base P (.slice (some ⟨g,0,none⟩) n c) xs) (i:Nat) (hi:i < xs.length) :
    ∃ (Q:Nat→Prop) (cur:Array Value) (l0:List (List Int)) (A0:Option Addr) (c0:Nat) (x1:Int),(∀ k,Q k→P k∧k≠g)∧P g∧W.heap[g]?=some (.cells cur 96 (0,0))∧cur[i * 2]?=some (.slice A0 l0.length c0)∧cur[i * 2+1]?=some (.int .i64 x1)∧Kd.R (Kd.slice 5 (Kd.int .u8)) 27 W base Q (.slice A0 l0.length c0) l0∧sumN List.length l0=sumN List.length xs[i].f0.f0:=by
  obtain ⟨ys,⟨hyl,hsh⟩,hR⟩:=stab_R stab_q hm h;obtain ⟨Q,cs,g',cap,cur,hQ,hPg,hu,hblk,hM,hcs⟩:=R_at hR i (by omega);injection hu with e1 e2 e3
  injection e1 with e1
  injection e1 with e1
  subst e1;have hs:=hsh i _ _ (List.getElem?_eq_getElem hi) (List.getElem?_eq_getElem (by omega));generalize ys[i]'(by omega)=y at hM hs;obtain ⟨_,_,rfl,⟨v0,rfl,h0⟩,h1⟩:=hM;have h1:_=[Value.int .i64 y.f1]:=h1;subst h1;obtain ⟨A0,c0,rfl⟩:=Kd.R_slice h0;exact ⟨Q,cur,_,_,_,y.f1,hQ,hPg,hblk,hcs 0 _ rfl,hcs 1 _ rfl,h0,(sum_sh hs.1)⟩
set_option maxHeartbeats 16000000 in
set_option maxRecDepth 100000 in
/-- markQuestionS: over a row of structs. -/
theorem mk_qS (P:Nat→Prop) (u:Value) (l:List S96) (k0:Int) (base:Nat) (w:World) (h:Kd.R k96 96 w base P u l) (h0:0≤k0) (h1:k0+(sumN n_q l:Int)≤4611686018427387904) :
    Calls Tryz.prog 55 #[u,.int .i64 k0] w fun e w'=>e=.returned (.int .i64 (k0+(sumN n_q l:Int)))∧Mark P w w':=by
  have HO:=Aside0.mk h;have H1:=Aside0.mk h1
  have hbig:l.length≤9223372036854775807:=by
    obtain ⟨A,c,rfl,_,hr⟩:=Kd.R_reads h;exact hr.2.1
  obtain ⟨A,c,rfl⟩:=Kd.R_slice h;clear h1;go_enter Tryz.func55,Tryz.ntmps55;go_wp2;go_loopg [1,5] l.length (fun kq v1 v5 w'=>∃ i:Nat,i≤l.length∧l.length - i≤kq∧v1=.int .i64 (k0+(sumN n_q (l.take i):Int))∧v5=.int .i64 i∧Aside0 (Mark P w w'))
  case atStart=>exact ⟨0,Nat.zero_le _,by omega,by simp [sumN],rfl,⟨Mark.refl _ _⟩⟩
  case round =>
    obtain ⟨i,hi,hg,rfl,rfl,HM⟩:=hrel;by_cases hlt:i < l.length
    · obtain ⟨_,_,g,cap,_,_,_,hu,_⟩:=R_at h i hlt
      injection hu with e1 e2 e3
      subst e1;subst e3;clear h e2;have hn:=sumN_next n_q l i hlt;have hle:=sumN_take n_q l (i+1);have h1':=H1.out;obtain ⟨K,hK⟩:∃ K:Int,K=k0+(sumN n_q (l.take i):Int):=⟨_,rfl⟩;obtain ⟨K',hK'⟩:∃ K:Int,K=k0+(sumN n_q (l.take (i+1)):Int):=⟨_,rfl⟩;rw [← hK];have hK0:0≤K:=by omega
      obtain ⟨s0,hs0⟩:∃ s:Nat,sumN List.length l[i].f0.f0=s:=⟨_,rfl⟩;have hnx:n_q l[i]=s0+1:=by simp only [n_q]; omega
      have hK1:K'=K+((s0+1:Nat):Int):=by omega
      have hK2:K+((s0+1:Nat):Int)≤4611686018427387904:=by omega
      have HK':=Aside0.mk hK';have HS:=Aside0.mk (hs0:sumN List.length l[i].f0.f0=s0);clear hn hle h1' hK hK' hnx hs0;have hltz:(i:Int) < (l.length:Int):=by omega
      have hi0:0≤(i:Int):=by omega
      obtain ⟨Q,cur,l0,A0,c0,x1,hQ,hPg,hblk,hc0,-,hR0,hl0⟩:=open_q HM.out HO.out i hlt;have HQ:=Aside0.mk (fun k hk=>(hQ k hk).1);have HR:=Aside0.mk hR0;have HL:=Aside0.mk (hl0.trans HS.out);have hcell:=(blk_cell hblk (i * 2)).trans hc0;clear hQ hPg hR0 hl0 hc0 hblk
      go_wp2_with (first
        | ((with_reducible refine gate_store (t:=3) (p:=24) rfl ?_); refine store_event (t:=3) (p:=24) (v:=?vo_w21) (w1:=(w20.setCell ⟨g,i * 2+1,none⟩ (.int .i64 (K+(s0:Int))))) ?hg ?ho ?hn ?hr ?_; (case ho=>rfl); (case hg=>rfl); (case hn=>rfl); (case hr=>first | (go_simp; done) | (go_simp; rfl)); intro w21 hw; replace HM:Aside0 (Mark P w w21):=⟨by rw [hw]; exact HM.out.trans (Mark.set HBK.out HC.out HPG.out)⟩; clear hw hcell hfro HBK HC HPG; skip)
        | (go_at_call 113; have hcall:=mk_byteSS Q (.slice A0 l0.length c0) l0 (K) base wr HR.out (by omega) (by have:=HL.out; omega); refine hcall.mono ?_; rintro e w20 ⟨rfl,hm⟩; rw [HL.out]; replace HM:=Aside0.mk (HM.out.trans (hm.mono HQ.out)); clear hm hcall hcell HQ HR HL; obtain ⟨Q,cur,l0,A0,c0,x1,hQ,hPg,hblk,-,hc1,-,-⟩:=open_q HM.out HO.out i hlt; have HPG:=Aside0.mk hPg; have HBK:=Aside0.mk hblk; have HC:=Aside0.mk hc1; have hcell:=(blk_cell hblk (i * 2+1)).trans hc1; have hfro:=blk_frozen hblk (i * 2+1); clear hQ hPg hc1 hblk))
      go_roundg (l.length - (i+1));case measure=>omega
      case rel=>exact ⟨i+1,by omega,by omega,by rw [← HK'.out]; congr 1; omega,by go_num,HM⟩
    · have:i=l.length:=by omega
      subst this;rw [List.take_of_length_le (Nat.le_refl _)];clear HO H1 h;have hlz:¬ (l.length:Int) < (l.length:Int):=by omega
      go_wp2;go_ret;exact ⟨rfl,HM.out⟩
def n_rr (x:qw):Nat:=sumN List.length x.f0.f0+1+1+1+sumN List.length x.f4.f0+x.f5.length+x.f6.length
theorem open_rr {P:Nat→Prop} {w W:World} {base g n c:Nat} {xs:List qw} (hm:Mark P w W) (h:Kd.R js 105 w base P (.slice (some ⟨g,0,none⟩) n c) xs) (i:Nat) (hi:i < xs.length) :
    ∃ (Q:Nat→Prop) (cur:Array Value) (l0:List (List Int)) (A0:Option Addr) (c0:Nat) (l4:List (List Int)) (A4:Option Addr) (c4:Nat) (l5:List Int) (A5:Option Addr) (c5:Nat) (l6:List Int) (A6:Option Addr) (c6:Nat) (x1:Int) (x2:Int) (x3:Int),(∀ k,Q k→P k∧k≠g)∧P g∧W.heap[g]?=some (.cells cur 105 (0,0))∧cur[i * 7]?=some (.slice A0 l0.length c0)∧cur[i * 7+4]?=some (.slice A4 l4.length c4)∧cur[i * 7+5]?=some (.slice A5 l5.length c5)∧cur[i * 7+6]?=some (.slice A6 l6.length c6)∧cur[i * 7+1]?=some (.int .i64 x1)∧cur[i * 7+2]?=some (.int .i64 x2)∧cur[i * 7+3]?=some (.int .i64 x3)∧Kd.R (Kd.slice 5 (Kd.int .u8)) 27 W base Q (.slice A0 l0.length c0) l0∧Kd.R (Kd.slice 5 (Kd.int .u8)) 27 W base Q (.slice A4 l4.length c4) l4∧Kd.R (Kd.int .u8) 5 W base Q (.slice A5 l5.length c5) l5∧Kd.R (Kd.int .i64) 3 W base Q (.slice A6 l6.length c6) l6∧sumN List.length l0=sumN List.length xs[i].f0.f0∧sumN List.length l4=sumN List.length xs[i].f4.f0∧l5.length=xs[i].f5.length∧l6.length=xs[i].f6.length:=by
  obtain ⟨ys,⟨hyl,hsh⟩,hR⟩:=stab_R stab_rr hm h;obtain ⟨Q,cs,g',cap,cur,hQ,hPg,hu,hblk,hM,hcs⟩:=R_at hR i (by omega);injection hu with e1 e2 e3
  injection e1 with e1
  injection e1 with e1
  subst e1;have hs:=hsh i _ _ (List.getElem?_eq_getElem hi) (List.getElem?_eq_getElem (by omega));generalize ys[i]'(by omega)=y at hM hs;obtain ⟨_,_,rfl,⟨v0,rfl,h0⟩,_,_,rfl,h1,_,_,rfl,h2,_,_,rfl,h3,_,_,rfl,⟨v4,rfl,h4⟩,_,_,rfl,⟨v5,rfl,h5⟩,⟨v6,rfl,h6⟩⟩:=hM;have h1:_=[Value.int .i64 y.f1]:=h1;subst h1;have h2:_=[Value.int .i64 y.f2]:=h2;subst h2;have h3:_=[Value.int .i64 y.f3]:=h3;subst h3;obtain ⟨A0,c0,rfl⟩:=Kd.R_slice h0;obtain ⟨A4,c4,rfl⟩:=Kd.R_slice h4;obtain ⟨A5,c5,rfl⟩:=Kd.R_slice h5;obtain ⟨A6,c6,rfl⟩:=Kd.R_slice h6;exact ⟨Q,cur,_,_,_,_,_,_,_,_,_,_,_,_,y.f1,y.f2,y.f3,hQ,hPg,hblk,hcs 0 _ rfl,hcs 4 _ rfl,hcs 5 _ rfl,hcs 6 _ rfl,hcs 1 _ rfl,hcs 2 _ rfl,hcs 3 _ rfl,h0,h4,h5,h6,(sum_sh hs.1),(sum_sh hs.2.2.2.2.1),hs.2.2.2.2.2.1.1,hs.2.2.2.2.2.2.1⟩
set_option maxHeartbeats 16000000 in
set_option maxRecDepth 100000 in
/-- markRrS: over a row of structs. -/
theorem mk_rrS (P:Nat→Prop) (u:Value) (l:List qw) (k0:Int) (base:Nat) (w:World) (h:Kd.R js 105 w base P u l) (h0:0≤k0) (h1:k0+(sumN n_rr l:Int)≤4611686018427387904) :
    Calls Tryz.prog 56 #[u,.int .i64 k0] w fun e w'=>e=.returned (.int .i64 (k0+(sumN n_rr l:Int)))∧Mark P w w':=by
  have HO:=Aside0.mk h;have H1:=Aside0.mk h1
  have hbig:l.length≤9223372036854775807:=by
    obtain ⟨A,c,rfl,_,hr⟩:=Kd.R_reads h;exact hr.2.1
  obtain ⟨A,c,rfl⟩:=Kd.R_slice h;clear h1;go_enter Tryz.func56,Tryz.ntmps56;go_wp2;go_loopg [1,5] l.length (fun kq v1 v5 w'=>∃ i:Nat,i≤l.length∧l.length - i≤kq∧v1=.int .i64 (k0+(sumN n_rr (l.take i):Int))∧v5=.int .i64 i∧Aside0 (Mark P w w'))
  case atStart=>exact ⟨0,Nat.zero_le _,by omega,by simp [sumN],rfl,⟨Mark.refl _ _⟩⟩
  case round =>
    obtain ⟨i,hi,hg,rfl,rfl,HM⟩:=hrel;by_cases hlt:i < l.length
    · obtain ⟨_,_,g,cap,_,_,_,hu,_⟩:=R_at h i hlt
      injection hu with e1 e2 e3
      subst e1;subst e3;clear h e2;have hn:=sumN_next n_rr l i hlt;have hle:=sumN_take n_rr l (i+1);have h1':=H1.out;obtain ⟨K,hK⟩:∃ K:Int,K=k0+(sumN n_rr (l.take i):Int):=⟨_,rfl⟩;obtain ⟨K',hK'⟩:∃ K:Int,K=k0+(sumN n_rr (l.take (i+1)):Int):=⟨_,rfl⟩;rw [← hK];have hK0:0≤K:=by omega
      obtain ⟨s0,hs0⟩:∃ s:Nat,sumN List.length l[i].f0.f0=s:=⟨_,rfl⟩;obtain ⟨s4,hs4⟩:∃ s:Nat,sumN List.length l[i].f4.f0=s:=⟨_,rfl⟩;obtain ⟨s5,hs5⟩:∃ s:Nat,l[i].f5.length=s:=⟨_,rfl⟩;obtain ⟨s6,hs6⟩:∃ s:Nat,l[i].f6.length=s:=⟨_,rfl⟩;have hnx:n_rr l[i]=s0+s4+s5+s6+3:=by simp only [n_rr]; omega
      have hK1:K'=K+((s0+s4+s5+s6+3:Nat):Int):=by omega
      have hK2:K+((s0+s4+s5+s6+3:Nat):Int)≤4611686018427387904:=by omega
      have HK':=Aside0.mk hK';have HS:=Aside0.mk (⟨hs0,hs4,hs5,hs6⟩:sumN List.length l[i].f0.f0=s0∧sumN List.length l[i].f4.f0=s4∧l[i].f5.length=s5∧l[i].f6.length=s6);clear hn hle h1' hK hK' hnx hs0 hs4 hs5 hs6;have hltz:(i:Int) < (l.length:Int):=by omega
      have hi0:0≤(i:Int):=by omega
      obtain ⟨Q,cur,l0,A0,c0,l4,A4,c4,l5,A5,c5,l6,A6,c6,x1,x2,x3,hQ,hPg,hblk,hc0,-,-,-,-,-,-,hR0,-,-,-,hl0,-,-,-⟩:=open_rr HM.out HO.out i hlt;have HQ:=Aside0.mk (fun k hk=>(hQ k hk).1);have HR:=Aside0.mk hR0;have HL:=Aside0.mk (hl0.trans HS.out.1);have hcell:=(blk_cell hblk (i * 7)).trans hc0;clear hQ hPg hR0 hl0 hc0 hblk
      go_wp2_with (first
        | (go_at_call 114; have hcall:=mk_ints Q (.slice A6 l6.length c6) l6 (K+(s0:Int)+1+1+1+(s4:Int)+(s5:Int)) base w25 HR.out (by omega) (by have:=HL.out; omega); refine hcall.mono ?_; rintro e w26 ⟨rfl,hm⟩; rw [HL.out]; replace HM:=Aside0.mk (HM.out.trans (hm.mono HQ.out)); clear hm hcall hcell HQ HR HL; skip)
        | (go_at_call 20; have hcall:=mk_bytes Q (.slice A5 l5.length c5) l5 (K+(s0:Int)+1+1+1+(s4:Int)) base w24 HR.out (by omega) (by have:=HL.out; omega); refine hcall.mono ?_; rintro e w25 ⟨rfl,hm⟩; rw [HL.out]; replace HM:=Aside0.mk (HM.out.trans (hm.mono HQ.out)); clear hm hcall hcell HQ HR HL; obtain ⟨Q,cur,l0,A0,c0,l4,A4,c4,l5,A5,c5,l6,A6,c6,x1,x2,x3,hQ,hPg,hblk,-,-,-,hc6,-,-,-,-,-,-,hR6,-,-,-,hl6⟩:=open_rr HM.out HO.out i hlt; have HQ:=Aside0.mk (fun k hk=>(hQ k hk).1); have HR:=Aside0.mk hR6; have HL:=Aside0.mk (hl6.trans HS.out.2.2.2); have hcell:=(blk_cell hblk (i * 7+6)).trans hc6; clear hQ hPg hR6 hl6 hc6 hblk)
        | (go_at_call 113; have hcall:=mk_byteSS Q (.slice A4 l4.length c4) l4 (K+(s0:Int)+1+1+1) base w23 HR.out (by omega) (by have:=HL.out; omega); refine hcall.mono ?_; rintro e w24 ⟨rfl,hm⟩; rw [HL.out]; replace HM:=Aside0.mk (HM.out.trans (hm.mono HQ.out)); clear hm hcall hcell HQ HR HL; obtain ⟨Q,cur,l0,A0,c0,l4,A4,c4,l5,A5,c5,l6,A6,c6,x1,x2,x3,hQ,hPg,hblk,-,-,hc5,-,-,-,-,-,-,hR5,-,-,-,hl5,-⟩:=open_rr HM.out HO.out i hlt; have HQ:=Aside0.mk (fun k hk=>(hQ k hk).1); have HR:=Aside0.mk hR5; have HL:=Aside0.mk (hl5.trans HS.out.2.2.1); have hcell:=(blk_cell hblk (i * 7+5)).trans hc5; clear hQ hPg hR5 hl5 hc5 hblk)
        | ((with_reducible refine gate_store (t:=3) (p:=38) rfl ?_); refine store_event (t:=3) (p:=38) (v:=?vo_w23) (w1:=(w22.setCell ⟨g,i * 7+3,none⟩ (.int .i64 (K+(s0:Int)+1+1)))) ?hg ?ho ?hn ?hr ?_; (case ho=>rfl); (case hg=>rfl); (case hn=>rfl); (case hr=>first | (go_simp; done) | (go_simp; rfl)); intro w23 hw; replace HM:Aside0 (Mark P w w23):=⟨by rw [hw]; exact HM.out.trans (Mark.set HBK.out HC.out HPG.out)⟩; clear hw hcell hfro HBK HC HPG; obtain ⟨Q,cur,l0,A0,c0,l4,A4,c4,l5,A5,c5,l6,A6,c6,x1,x2,x3,hQ,hPg,hblk,-,hc4,-,-,-,-,-,-,hR4,-,-,-,hl4,-,-⟩:=open_rr HM.out HO.out i hlt; have HQ:=Aside0.mk (fun k hk=>(hQ k hk).1); have HR:=Aside0.mk hR4; have HL:=Aside0.mk (hl4.trans HS.out.2.1); have hcell:=(blk_cell hblk (i * 7+4)).trans hc4; clear hQ hPg hR4 hl4 hc4 hblk)
        | ((with_reducible refine gate_store (t:=3) (p:=31) rfl ?_); refine store_event (t:=3) (p:=31) (v:=?vo_w22) (w1:=(w21.setCell ⟨g,i * 7+2,none⟩ (.int .i64 (K+(s0:Int)+1)))) ?hg ?ho ?hn ?hr ?_; (case ho=>rfl); (case hg=>rfl); (case hn=>rfl); (case hr=>first | (go_simp; done) | (go_simp; rfl)); intro w22 hw; replace HM:Aside0 (Mark P w w22):=⟨by rw [hw]; exact HM.out.trans (Mark.set HBK.out HC.out HPG.out)⟩; clear hw hcell hfro HBK HC HPG; obtain ⟨Q,cur,l0,A0,c0,l4,A4,c4,l5,A5,c5,l6,A6,c6,x1,x2,x3,hQ,hPg,hblk,-,-,-,-,-,-,hc3,-,-,-,-,-,-,-,-⟩:=open_rr HM.out HO.out i hlt; have HPG:=Aside0.mk hPg; have HBK:=Aside0.mk hblk; have HC:=Aside0.mk hc3; have hcell:=(blk_cell hblk (i * 7+3)).trans hc3; have hfro:=blk_frozen hblk (i * 7+3); clear hQ hPg hc3 hblk)
        | ((with_reducible refine gate_store (t:=3) (p:=24) rfl ?_); refine store_event (t:=3) (p:=24) (v:=?vo_w21) (w1:=(w20.setCell ⟨g,i * 7+1,none⟩ (.int .i64 (K+(s0:Int))))) ?hg ?ho ?hn ?hr ?_; (case ho=>rfl); (case hg=>rfl); (case hn=>rfl); (case hr=>first | (go_simp; done) | (go_simp; rfl)); intro w21 hw; replace HM:Aside0 (Mark P w w21):=⟨by rw [hw]; exact HM.out.trans (Mark.set HBK.out HC.out HPG.out)⟩; clear hw hcell hfro HBK HC HPG; obtain ⟨Q,cur,l0,A0,c0,l4,A4,c4,l5,A5,c5,l6,A6,c6,x1,x2,x3,hQ,hPg,hblk,-,-,-,-,-,hc2,-,-,-,-,-,-,-,-,-⟩:=open_rr HM.out HO.out i hlt; have HPG:=Aside0.mk hPg; have HBK:=Aside0.mk hblk; have HC:=Aside0.mk hc2; have hcell:=(blk_cell hblk (i * 7+2)).trans hc2; have hfro:=blk_frozen hblk (i * 7+2); clear hQ hPg hc2 hblk)
        | (go_at_call 113; have hcall:=mk_byteSS Q (.slice A0 l0.length c0) l0 (K) base wr HR.out (by omega) (by have:=HL.out; omega); refine hcall.mono ?_; rintro e w20 ⟨rfl,hm⟩; rw [HL.out]; replace HM:=Aside0.mk (HM.out.trans (hm.mono HQ.out)); clear hm hcall hcell HQ HR HL; obtain ⟨Q,cur,l0,A0,c0,l4,A4,c4,l5,A5,c5,l6,A6,c6,x1,x2,x3,hQ,hPg,hblk,-,-,-,-,hc1,-,-,-,-,-,-,-,-,-,-⟩:=open_rr HM.out HO.out i hlt; have HPG:=Aside0.mk hPg; have HBK:=Aside0.mk hblk; have HC:=Aside0.mk hc1; have hcell:=(blk_cell hblk (i * 7+1)).trans hc1; have hfro:=blk_frozen hblk (i * 7+1); clear hQ hPg hc1 hblk))
      go_roundg (l.length - (i+1));case measure=>omega
      case rel=>exact ⟨i+1,by omega,by omega,by rw [← HK'.out]; congr 1; omega,by go_num,HM⟩
    · have:i=l.length:=by omega
      subst this;rw [List.take_of_length_le (Nat.le_refl _)];clear HO H1 h;have hlz:¬ (l.length:Int) < (l.length:Int):=by omega
      go_wp2;go_ret;exact ⟨rfl,HM.out⟩
def n_w (x:qH):Nat:=sumN List.length x.f0.f0.f0+1+1+1+sumN List.length x.f0.f4.f0+x.f0.f5.length+x.f0.f6.length+1+1
theorem open_w {P:Nat→Prop} {w W:World} {base g n c:Nat} {xs:List qH} (hm:Mark P w W) (h:Kd.R zr 107 w base P (.slice (some ⟨g,0,none⟩) n c) xs) (i:Nat) (hi:i < xs.length) :
    ∃ (Q:Nat→Prop) (cur:Array Value) (l0:List (List Int)) (A0:Option Addr) (c0:Nat) (l4:List (List Int)) (A4:Option Addr) (c4:Nat) (l5:List Int) (A5:Option Addr) (c5:Nat) (l6:List Int) (A6:Option Addr) (c6:Nat) (x1:Int) (x2:Int) (x3:Int) (x7:Int) (x8:Bool),(∀ k,Q k→P k∧k≠g)∧P g∧W.heap[g]?=some (.cells cur 107 (0,0))∧cur[i * 9]?=some (.slice A0 l0.length c0)∧cur[i * 9+4]?=some (.slice A4 l4.length c4)∧cur[i * 9+5]?=some (.slice A5 l5.length c5)∧cur[i * 9+6]?=some (.slice A6 l6.length c6)∧cur[i * 9+1]?=some (.int .i64 x1)∧cur[i * 9+2]?=some (.int .i64 x2)∧cur[i * 9+3]?=some (.int .i64 x3)∧cur[i * 9+7]?=some (.int .i64 x7)∧cur[i * 9+8]?=some (.bool x8)∧Kd.R (Kd.slice 5 (Kd.int .u8)) 27 W base Q (.slice A0 l0.length c0) l0∧Kd.R (Kd.slice 5 (Kd.int .u8)) 27 W base Q (.slice A4 l4.length c4) l4∧Kd.R (Kd.int .u8) 5 W base Q (.slice A5 l5.length c5) l5∧Kd.R (Kd.int .i64) 3 W base Q (.slice A6 l6.length c6) l6∧sumN List.length l0=sumN List.length xs[i].f0.f0.f0∧sumN List.length l4=sumN List.length xs[i].f0.f4.f0∧l5.length=xs[i].f0.f5.length∧l6.length=xs[i].f0.f6.length:=by
  obtain ⟨ys,⟨hyl,hsh⟩,hR⟩:=stab_R stab_w hm h;obtain ⟨Q,cs,g',cap,cur,hQ,hPg,hu,hblk,hM,hcs⟩:=R_at hR i (by omega);injection hu with e1 e2 e3
  injection e1 with e1
  injection e1 with e1
  subst e1;have hs:=hsh i _ _ (List.getElem?_eq_getElem hi) (List.getElem?_eq_getElem (by omega));generalize ys[i]'(by omega)=y at hM hs;obtain ⟨_,_,rfl,hM,_,_,rfl,h7,h8⟩:=hM;have h7:_=[Value.int .i64 y.f1]:=h7;have h8:_=[Value.bool y.f2]:=h8;subst h7;subst h8;have hs:=hs.1;obtain ⟨_,_,rfl,⟨v0,rfl,h0⟩,_,_,rfl,h1,_,_,rfl,h2,_,_,rfl,h3,_,_,rfl,⟨v4,rfl,h4⟩,_,_,rfl,⟨v5,rfl,h5⟩,⟨v6,rfl,h6⟩⟩:=hM;have h1:_=[Value.int .i64 y.f0.f1]:=h1;subst h1;have h2:_=[Value.int .i64 y.f0.f2]:=h2;subst h2;have h3:_=[Value.int .i64 y.f0.f3]:=h3;subst h3;obtain ⟨A0,c0,rfl⟩:=Kd.R_slice h0;obtain ⟨A4,c4,rfl⟩:=Kd.R_slice h4;obtain ⟨A5,c5,rfl⟩:=Kd.R_slice h5;obtain ⟨A6,c6,rfl⟩:=Kd.R_slice h6;exact ⟨Q,cur,_,_,_,_,_,_,_,_,_,_,_,_,y.f0.f1,y.f0.f2,y.f0.f3,y.f1,y.f2,hQ,hPg,hblk,hcs 0 _ rfl,hcs 4 _ rfl,hcs 5 _ rfl,hcs 6 _ rfl,hcs 1 _ rfl,hcs 2 _ rfl,hcs 3 _ rfl,hcs 7 _ rfl,hcs 8 _ rfl,h0,h4,h5,h6,(sum_sh hs.1),(sum_sh hs.2.2.2.2.1),hs.2.2.2.2.2.1.1,hs.2.2.2.2.2.2.1⟩
set_option maxHeartbeats 16000000 in
set_option maxRecDepth 100000 in
/-- markWantS: over a row of structs. -/
theorem mk_wS (P:Nat→Prop) (u:Value) (l:List qH) (k0:Int) (base:Nat) (w:World) (h:Kd.R zr 107 w base P u l) (h0:0≤k0) (h1:k0+(sumN n_w l:Int)≤4611686018427387904) :
    Calls Tryz.prog 57 #[u,.int .i64 k0] w fun e w'=>e=.returned (.int .i64 (k0+(sumN n_w l:Int)))∧Mark P w w':=by
  have HO:=Aside0.mk h;have H1:=Aside0.mk h1
  have hbig:l.length≤9223372036854775807:=by
    obtain ⟨A,c,rfl,_,hr⟩:=Kd.R_reads h;exact hr.2.1
  obtain ⟨A,c,rfl⟩:=Kd.R_slice h;clear h1;go_enter Tryz.func57,Tryz.ntmps57;go_wp2;go_loopg [1,5] l.length (fun kq v1 v5 w'=>∃ i:Nat,i≤l.length∧l.length - i≤kq∧v1=.int .i64 (k0+(sumN n_w (l.take i):Int))∧v5=.int .i64 i∧Aside0 (Mark P w w'))
  case atStart=>exact ⟨0,Nat.zero_le _,by omega,by simp [sumN],rfl,⟨Mark.refl _ _⟩⟩
  case round =>
    obtain ⟨i,hi,hg,rfl,rfl,HM⟩:=hrel;by_cases hlt:i < l.length
    · obtain ⟨_,_,g,cap,_,_,_,hu,_⟩:=R_at h i hlt
      injection hu with e1 e2 e3
      subst e1;subst e3;clear h e2;have hn:=sumN_next n_w l i hlt;have hle:=sumN_take n_w l (i+1);have h1':=H1.out;obtain ⟨K,hK⟩:∃ K:Int,K=k0+(sumN n_w (l.take i):Int):=⟨_,rfl⟩;obtain ⟨K',hK'⟩:∃ K:Int,K=k0+(sumN n_w (l.take (i+1)):Int):=⟨_,rfl⟩;rw [← hK];have hK0:0≤K:=by omega
      obtain ⟨s0,hs0⟩:∃ s:Nat,sumN List.length l[i].f0.f0.f0=s:=⟨_,rfl⟩;obtain ⟨s4,hs4⟩:∃ s:Nat,sumN List.length l[i].f0.f4.f0=s:=⟨_,rfl⟩;obtain ⟨s5,hs5⟩:∃ s:Nat,l[i].f0.f5.length=s:=⟨_,rfl⟩;obtain ⟨s6,hs6⟩:∃ s:Nat,l[i].f0.f6.length=s:=⟨_,rfl⟩;have hnx:n_w l[i]=s0+s4+s5+s6+5:=by simp only [n_w]; omega
      have hK1:K'=K+((s0+s4+s5+s6+5:Nat):Int):=by omega
      have hK2:K+((s0+s4+s5+s6+5:Nat):Int)≤4611686018427387904:=by omega
      have HK':=Aside0.mk hK';have HS:=Aside0.mk (⟨hs0,hs4,hs5,hs6⟩:sumN List.length l[i].f0.f0.f0=s0∧sumN List.length l[i].f0.f4.f0=s4∧l[i].f0.f5.length=s5∧l[i].f0.f6.length=s6);clear hn hle h1' hK hK' hnx hs0 hs4 hs5 hs6;have hltz:(i:Int) < (l.length:Int):=by omega
      have hi0:0≤(i:Int):=by omega
      obtain ⟨Q,cur,l0,A0,c0,l4,A4,c4,l5,A5,c5,l6,A6,c6,x1,x2,x3,x7,x8,hQ,hPg,hblk,hc0,-,-,-,-,-,-,-,-,hR0,-,-,-,hl0,-,-,-⟩:=open_w HM.out HO.out i hlt;have HQ:=Aside0.mk (fun k hk=>(hQ k hk).1);have HR:=Aside0.mk hR0;have HL:=Aside0.mk (hl0.trans HS.out.1);have hcell:=(blk_cell hblk (i * 9)).trans hc0;clear hQ hPg hR0 hl0 hc0 hblk
      go_wp2_with (first
        | ((with_reducible refine gate_store (t:=4) (p:=83) rfl ?_); refine store_event (t:=4) (p:=83) (v:=?vo_w28) (w1:=(w27.setCell ⟨g,i * 9+8,none⟩ (.bool ((K+(s0:Int)+1+1+1+(s4:Int)+(s5:Int)+(s6:Int)+1) % 3 == 0)))) ?hg ?ho ?hn ?hr ?_; (case ho=>rfl); (case hg=>rfl); (case hn=>rfl); (case hr=>first | (go_simp; done) | (go_simp; rfl)); intro w28 hw; replace HM:Aside0 (Mark P w w28):=⟨by rw [hw]; exact HM.out.trans (Mark.setb HBK.out HC.out HPG.out)⟩; clear hw hcell hfro HBK HC HPG; skip)
        | ((with_reducible refine gate_store (t:=3) (p:=74) rfl ?_); refine store_event (t:=3) (p:=74) (v:=?vo_w27) (w1:=(w26.setCell ⟨g,i * 9+7,none⟩ (.int .i64 (K+(s0:Int)+1+1+1+(s4:Int)+(s5:Int)+(s6:Int))))) ?hg ?ho ?hn ?hr ?_; (case ho=>rfl); (case hg=>rfl); (case hn=>rfl); (case hr=>first | (go_simp; done) | (go_simp; rfl)); intro w27 hw; replace HM:Aside0 (Mark P w w27):=⟨by rw [hw]; exact HM.out.trans (Mark.set HBK.out HC.out HPG.out)⟩; clear hw hcell hfro HBK HC HPG; obtain ⟨Q,cur,l0,A0,c0,l4,A4,c4,l5,A5,c5,l6,A6,c6,x1,x2,x3,x7,x8,hQ,hPg,hblk,-,-,-,-,-,-,-,-,hc8,-,-,-,-,-,-,-,-⟩:=open_w HM.out HO.out i hlt; have HPG:=Aside0.mk hPg; have HBK:=Aside0.mk hblk; have HC:=Aside0.mk hc8; have hcell:=(blk_cell hblk (i * 9+8)).trans hc8; have hfro:=blk_frozen hblk (i * 9+8); clear hQ hPg hc8 hblk)
        | (go_at_call 114; have hcall:=mk_ints Q (.slice A6 l6.length c6) l6 (K+(s0:Int)+1+1+1+(s4:Int)+(s5:Int)) base w25 HR.out (by omega) (by have:=HL.out; omega); refine hcall.mono ?_; rintro e w26 ⟨rfl,hm⟩; rw [HL.out]; replace HM:=Aside0.mk (HM.out.trans (hm.mono HQ.out)); clear hm hcall hcell HQ HR HL; obtain ⟨Q,cur,l0,A0,c0,l4,A4,c4,l5,A5,c5,l6,A6,c6,x1,x2,x3,x7,x8,hQ,hPg,hblk,-,-,-,-,-,-,-,hc7,-,-,-,-,-,-,-,-,-⟩:=open_w HM.out HO.out i hlt; have HPG:=Aside0.mk hPg; have HBK:=Aside0.mk hblk; have HC:=Aside0.mk hc7; have hcell:=(blk_cell hblk (i * 9+7)).trans hc7; have hfro:=blk_frozen hblk (i * 9+7); clear hQ hPg hc7 hblk)
        | (go_at_call 20; have hcall:=mk_bytes Q (.slice A5 l5.length c5) l5 (K+(s0:Int)+1+1+1+(s4:Int)) base w24 HR.out (by omega) (by have:=HL.out; omega); refine hcall.mono ?_; rintro e w25 ⟨rfl,hm⟩; rw [HL.out]; replace HM:=Aside0.mk (HM.out.trans (hm.mono HQ.out)); clear hm hcall hcell HQ HR HL; obtain ⟨Q,cur,l0,A0,c0,l4,A4,c4,l5,A5,c5,l6,A6,c6,x1,x2,x3,x7,x8,hQ,hPg,hblk,-,-,-,hc6,-,-,-,-,-,-,-,-,hR6,-,-,-,hl6⟩:=open_w HM.out HO.out i hlt; have HQ:=Aside0.mk (fun k hk=>(hQ k hk).1); have HR:=Aside0.mk hR6; have HL:=Aside0.mk (hl6.trans HS.out.2.2.2); have hcell:=(blk_cell hblk (i * 9+6)).trans hc6; clear hQ hPg hR6 hl6 hc6 hblk)
        | (go_at_call 113; have hcall:=mk_byteSS Q (.slice A4 l4.length c4) l4 (K+(s0:Int)+1+1+1) base w23 HR.out (by omega) (by have:=HL.out; omega); refine hcall.mono ?_; rintro e w24 ⟨rfl,hm⟩; rw [HL.out]; replace HM:=Aside0.mk (HM.out.trans (hm.mono HQ.out)); clear hm hcall hcell HQ HR HL; obtain ⟨Q,cur,l0,A0,c0,l4,A4,c4,l5,A5,c5,l6,A6,c6,x1,x2,x3,x7,x8,hQ,hPg,hblk,-,-,hc5,-,-,-,-,-,-,-,-,hR5,-,-,-,hl5,-⟩:=open_w HM.out HO.out i hlt; have HQ:=Aside0.mk (fun k hk=>(hQ k hk).1); have HR:=Aside0.mk hR5; have HL:=Aside0.mk (hl5.trans HS.out.2.2.1); have hcell:=(blk_cell hblk (i * 9+5)).trans hc5; clear hQ hPg hR5 hl5 hc5 hblk)
        | ((with_reducible refine gate_store (t:=3) (p:=42) rfl ?_); refine store_event (t:=3) (p:=42) (v:=?vo_w23) (w1:=(w22.setCell ⟨g,i * 9+3,none⟩ (.int .i64 (K+(s0:Int)+1+1)))) ?hg ?ho ?hn ?hr ?_; (case ho=>rfl); (case hg=>rfl); (case hn=>rfl); (case hr=>first | (go_simp; done) | (go_simp; rfl)); intro w23 hw; replace HM:Aside0 (Mark P w w23):=⟨by rw [hw]; exact HM.out.trans (Mark.set HBK.out HC.out HPG.out)⟩; clear hw hcell hfro HBK HC HPG; obtain ⟨Q,cur,l0,A0,c0,l4,A4,c4,l5,A5,c5,l6,A6,c6,x1,x2,x3,x7,x8,hQ,hPg,hblk,-,hc4,-,-,-,-,-,-,-,-,hR4,-,-,-,hl4,-,-⟩:=open_w HM.out HO.out i hlt; have HQ:=Aside0.mk (fun k hk=>(hQ k hk).1); have HR:=Aside0.mk hR4; have HL:=Aside0.mk (hl4.trans HS.out.2.1); have hcell:=(blk_cell hblk (i * 9+4)).trans hc4; clear hQ hPg hR4 hl4 hc4 hblk)
        | ((with_reducible refine gate_store (t:=3) (p:=34) rfl ?_); refine store_event (t:=3) (p:=34) (v:=?vo_w22) (w1:=(w21.setCell ⟨g,i * 9+2,none⟩ (.int .i64 (K+(s0:Int)+1)))) ?hg ?ho ?hn ?hr ?_; (case ho=>rfl); (case hg=>rfl); (case hn=>rfl); (case hr=>first | (go_simp; done) | (go_simp; rfl)); intro w22 hw; replace HM:Aside0 (Mark P w w22):=⟨by rw [hw]; exact HM.out.trans (Mark.set HBK.out HC.out HPG.out)⟩; clear hw hcell hfro HBK HC HPG; obtain ⟨Q,cur,l0,A0,c0,l4,A4,c4,l5,A5,c5,l6,A6,c6,x1,x2,x3,x7,x8,hQ,hPg,hblk,-,-,-,-,-,-,hc3,-,-,-,-,-,-,-,-,-,-⟩:=open_w HM.out HO.out i hlt; have HPG:=Aside0.mk hPg; have HBK:=Aside0.mk hblk; have HC:=Aside0.mk hc3; have hcell:=(blk_cell hblk (i * 9+3)).trans hc3; have hfro:=blk_frozen hblk (i * 9+3); clear hQ hPg hc3 hblk)
        | ((with_reducible refine gate_store (t:=3) (p:=26) rfl ?_); refine store_event (t:=3) (p:=26) (v:=?vo_w21) (w1:=(w20.setCell ⟨g,i * 9+1,none⟩ (.int .i64 (K+(s0:Int))))) ?hg ?ho ?hn ?hr ?_; (case ho=>rfl); (case hg=>rfl); (case hn=>rfl); (case hr=>first | (go_simp; done) | (go_simp; rfl)); intro w21 hw; replace HM:Aside0 (Mark P w w21):=⟨by rw [hw]; exact HM.out.trans (Mark.set HBK.out HC.out HPG.out)⟩; clear hw hcell hfro HBK HC HPG; obtain ⟨Q,cur,l0,A0,c0,l4,A4,c4,l5,A5,c5,l6,A6,c6,x1,x2,x3,x7,x8,hQ,hPg,hblk,-,-,-,-,-,hc2,-,-,-,-,-,-,-,-,-,-,-⟩:=open_w HM.out HO.out i hlt; have HPG:=Aside0.mk hPg; have HBK:=Aside0.mk hblk; have HC:=Aside0.mk hc2; have hcell:=(blk_cell hblk (i * 9+2)).trans hc2; have hfro:=blk_frozen hblk (i * 9+2); clear hQ hPg hc2 hblk)
        | (go_at_call 113; have hcall:=mk_byteSS Q (.slice A0 l0.length c0) l0 (K) base wr HR.out (by omega) (by have:=HL.out; omega); refine hcall.mono ?_; rintro e w20 ⟨rfl,hm⟩; rw [HL.out]; replace HM:=Aside0.mk (HM.out.trans (hm.mono HQ.out)); clear hm hcall hcell HQ HR HL; obtain ⟨Q,cur,l0,A0,c0,l4,A4,c4,l5,A5,c5,l6,A6,c6,x1,x2,x3,x7,x8,hQ,hPg,hblk,-,-,-,-,hc1,-,-,-,-,-,-,-,-,-,-,-,-⟩:=open_w HM.out HO.out i hlt; have HPG:=Aside0.mk hPg; have HBK:=Aside0.mk hblk; have HC:=Aside0.mk hc1; have hcell:=(blk_cell hblk (i * 9+1)).trans hc1; have hfro:=blk_frozen hblk (i * 9+1); clear hQ hPg hc1 hblk))
      go_roundg (l.length - (i+1));case measure=>omega
      case rel=>exact ⟨i+1,by omega,by omega,by rw [← HK'.out]; congr 1; omega,by go_num,HM⟩
    · have:i=l.length:=by omega
      subst this;rw [List.take_of_length_le (Nat.le_refl _)];clear HO H1 h;have hlz:¬ (l.length:Int) < (l.length:Int):=by omega
      go_wp2;go_ret;exact ⟨rfl,HM.out⟩
theorem sumN_sh {α:Type} {sh:α→α→Prop} (n:α→Nat) (hn:∀ x y,sh x y→n y=n x) {xs ys:List α} (h:ShL sh xs ys):sumN n ys=sumN n xs:=by
  obtain ⟨h1,h2⟩:=h;induction xs generalizing ys with
  | nil=>have:=List.eq_nil_of_length_eq_zero h1; subst this; rfl
  | cons x xs ih =>
    cases ys with
    | nil=>simp at h1
    | cons y ys =>
      have e:=hn x y (h2 0 x y rfl rfl);have:=ih (ys:=ys) (by simpa using h1) (fun j a b ha hb=>h2 (j+1) a b (by simpa using ha) (by simpa using hb));simp only [sumN,List.map_cons,List.sum_cons] at this ⊢;omega
theorem nq_sh {xs ys:List S96} (h:ShL ShQ xs ys):sumN n_q ys=sumN n_q xs:=sumN_sh n_q (fun x y h=>by have:=sum_sh h.1; simp only [n_q]; omega) h
theorem nr1 {x y:qw} (h:ShR x y):n_rr y=n_rr x:=by
  have h1:=sum_sh h.1; have h2:=sum_sh h.2.2.2.2.1; have h3:=h.2.2.2.2.2.1.1; have h4:=h.2.2.2.2.2.2.1;simp only [n_rr]; omega
theorem nrr_sh {xs ys:List qw} (h:ShL ShR xs ys):sumN n_rr ys=sumN n_rr xs:=sumN_sh n_rr (fun x y h=>nr1 h) h
theorem nw_sh {xs ys:List qH} (h:ShL ShW xs ys):sumN n_w ys=sumN n_w xs:=sumN_sh n_w (fun x y h=>by have:=nr1 h.1; simp only [n_w,n_rr] at this ⊢; omega) h

structure HdM where
  a5:Option Addr
  c5:Nat
  a6:Option Addr
  c6:Nat
  a7:Option Addr
  c7:Nat
  a8:Option Addr
  c8:Nat
  a9:Option Addr
  c9:Nat
  a10:Option Addr
  c10:Nat
structure RdLM (w:World) (h:HdM) (Q:List (Jk)) (A:List (yj)) (N:List (yj)) (M:List (yj)) (P:List (Qc)) (U:List (Qc)):Prop where
  r5:Kd.C Yo w h.a5 Q.length Q
  l5:Q.length≤h.c5
  r6:Kd.C yr w h.a6 A.length A
  l6:A.length≤h.c6
  r7:Kd.C yr w h.a7 N.length N
  l7:N.length≤h.c7
  r8:Kd.C yr w h.a8 M.length M
  l8:M.length≤h.c8
  r9:Kd.C Qr w h.a9 P.length P
  l9:P.length≤h.c9
  r10:Kd.C Qr w h.a10 U.length U
  l10:U.length≤h.c10
theorem RdLM.below {w W:World} {h:HdM} {Q:List (Jk)} {A:List (yj)} {N:List (yj)} {M:List (yj)} {P:List (Qc)} {U:List (Qc)} (g:RdLM w h Q A N M P U) (hb:Below w.heap.size w W):RdLM W h Q A N M P U :=
  ⟨Kd.C_below g.r5 hb,g.l5,Kd.C_below g.r6 hb,g.l6,Kd.C_below g.r7 hb,g.l7,Kd.C_below g.r8 hb,g.l8,Kd.C_below g.r9 hb,g.l9,Kd.C_below g.r10 hb,g.l10⟩
structure RdIM (w:World) (h:HdM) (Q:List (S96)) (A:List (qw)) (N:List (qw)) (M:List (qw)) (P:List (qH)) (U:List (qH)):Prop where
  r5:Kd.C k96 w h.a5 Q.length Q
  l5:Q.length≤h.c5
  r6:Kd.C js w h.a6 A.length A
  l6:A.length≤h.c6
  r7:Kd.C js w h.a7 N.length N
  l7:N.length≤h.c7
  r8:Kd.C js w h.a8 M.length M
  l8:M.length≤h.c8
  r9:Kd.C zr w h.a9 P.length P
  l9:P.length≤h.c9
  r10:Kd.C zr w h.a10 U.length U
  l10:U.length≤h.c10
/-- Rows of one's own. -/
structure RdOM (w:World) (base:Nat) (ok:Nat→Prop) (h:HdM) (Q:List (S96)) (A:List (qw)) (N:List (qw)) (M:List (qw)) (P:List (qH)) (U:List (qH)):Prop where
  o5:Kd.R k96 96 w base ok (.slice h.a5 Q.length h.c5) Q
  o6:Kd.R js 105 w base ok (.slice h.a6 A.length h.c6) A
  o7:Kd.R js 105 w base ok (.slice h.a7 N.length h.c7) N
  o8:Kd.R js 105 w base ok (.slice h.a8 M.length h.c8) M
  o9:Kd.R zr 107 w base ok (.slice h.a9 P.length h.c9) P
  o10:Kd.R zr 107 w base ok (.slice h.a10 U.length h.c10) U
theorem RdOM.below {w W:World} {base:Nat} {ok:Nat→Prop} {h:HdM} {Q:List (S96)} {A:List (qw)} {N:List (qw)} {M:List (qw)} {P:List (qH)} {U:List (qH)} (g:RdOM w base ok h Q A N M P U) (hb:Below w.heap.size w W):RdOM W base ok h Q A N M P U :=
  ⟨Kd.R_below g.o5 hb,Kd.R_below g.o6 hb,Kd.R_below g.o7 hb,Kd.R_below g.o8 hb,Kd.R_below g.o9 hb,Kd.R_below g.o10 hb⟩
theorem RdOM.gr {w W:World} {base:Nat} {ok:Nat→Prop} {h:HdM} {Q:List (S96)} {A:List (qw)} {N:List (qw)} {M:List (qw)} {P:List (qH)} {U:List (qH)} [c:Nonempty (Gr w W)] (g:RdOM w base ok h Q A N M P U):RdOM W base ok h Q A N M P U:=c.elim fun c=>g.below c
theorem RdOM.rd {w:World} {base:Nat} {ok:Nat→Prop} {h:HdM} {Q:List (S96)} {A:List (qw)} {N:List (qw)} {M:List (qw)} {P:List (qH)} {U:List (qH)} (g:RdOM w base ok h Q A N M P U):RdIM w h Q A N M P U :=
  ⟨(Kd.R_reads' g.o5).2.2,(Kd.R_reads' g.o5).2.1,(Kd.R_reads' g.o6).2.2,(Kd.R_reads' g.o6).2.1,(Kd.R_reads' g.o7).2.2,(Kd.R_reads' g.o7).2.1,(Kd.R_reads' g.o8).2.2,(Kd.R_reads' g.o8).2.1,(Kd.R_reads' g.o9).2.2,(Kd.R_reads' g.o9).2.1,(Kd.R_reads' g.o10).2.2,(Kd.R_reads' g.o10).2.1⟩
abbrev HdM.argL (h:HdM) (id op co:Int) (rp au:Bool) (Q:List (Jk)) (A:List (yj)) (N:List (yj)) (M:List (yj)) (P:List (Qc)) (U:List (Qc)):Value:=.agg #[.int .i64 id,.bool rp,.int .i64 op,.bool au,.int .i64 co,.slice h.a5 Q.length h.c5,.slice h.a6 A.length h.c6,.slice h.a7 N.length h.c7,.slice h.a8 M.length h.c8,.slice h.a9 P.length h.c9,.slice h.a10 U.length h.c10]
abbrev HdM.argI (h:HdM) (id op co:Int) (rp au:Bool) (Q:List (S96)) (A:List (qw)) (N:List (qw)) (M:List (qw)) (P:List (qH)) (U:List (qH)):Value:=.agg #[.int .i64 id,.bool rp,.int .i64 op,.bool au,.int .i64 co,.slice h.a5 Q.length h.c5,.slice h.a6 A.length h.c6,.slice h.a7 N.length h.c7,.slice h.a8 M.length h.c8,.slice h.a9 P.length h.c9,.slice h.a10 U.length h.c10]
theorem sz_anyM (k:Nat) (id op co:Int) (rp au:Bool) (Q:List (Jk)) (A:List (yj)) (N:List (yj)) (M:List (yj)) (P:List (Qc)) (U:List (Qc)) (h:HdM) (left u:Int) (w:World) (g:RdLM w h Q A N M P U) (e:Ze.f k id rp op au co Q A N M P U left=some u):Calls Tryz.prog 13 #[(h.argL id op co rp au Q A N M P U),.int .i64 left] w fun e w'=>e=.returned (.int .i64 u)∧Below w.heap.size w w' :=
  Ze.calls k id rp op au co h.a5 h.c5 Q h.a6 h.c6 A h.a7 h.c7 N h.a8 h.c8 M h.a9 h.c9 P h.a10 h.c10 U left u w g.r5 g.l5 g.r6 g.l6 g.r7 g.l7 g.r8 g.l8 g.r9 g.l9 g.r10 g.l10 e
theorem sp_anyM (k:Nat) (id op co:Int) (rp au:Bool) (Q:List (S96)) (A:List (qw)) (N:List (qw)) (M:List (qw)) (P:List (qH)) (U:List (qH)) (h:HdM) (r:List Int) (v:Bool) (w:World) (g:RdIM w h Q A N M P U) (e:Jw.f k id rp op au co Q A N M P U=some (r,v)):Calls Tryz.prog 14 #[(h.argI id op co rp au Q A N M P U)] w fun e w'=>∃ A c,e=.returned (.tuple #[.slice A r.length c,.bool v])∧Kd.R (Kd.int .u8) 5 w' w.heap.size (fun k=>w.heap.size≤k) (.slice A r.length c) r∧Below w.heap.size w w':=by
  refine (Jw.calls k id rp op au co h.a5 h.c5 Q h.a6 h.c6 A h.a7 h.c7 N h.a8 h.c8 M h.a9 h.c9 P h.a10 h.c10 U r v w g.r5 g.l5 g.r6 g.l6 g.r7 g.l7 g.r8 g.l8 g.r9 g.l9 g.r10 g.l10 e).mono ?_;rintro e w' ⟨v0,rfl,o,hb⟩;obtain ⟨A,c,rfl⟩:=Kd.R_slice o;exact ⟨A,c,rfl,Kd.R_mono (Kd.R_bound o) (fun k hk=>hk.2.1),hb⟩
theorem im_anyM (k:Nat) (id op co:Int) (rp au:Bool) (Q:List (S96)) (A:List (qw)) (N:List (qw)) (M:List (qw)) (P:List (qH)) (U:List (qH)) (h:HdM) (r:List Int) (v:Bool) (w:World) (g:RdIM w h Q A N M P U) (e:Jx.f k id rp op au co Q A N M P U=some (r,v)):Calls Tryz.prog 16 #[(h.argI id op co rp au Q A N M P U)] w fun e w'=>∃ A c,e=.returned (.tuple #[.slice A r.length c,.bool v])∧Kd.R (Kd.int .u8) 5 w' w.heap.size (fun k=>w.heap.size≤k) (.slice A r.length c) r∧Below w.heap.size w w':=by
  refine (Jx.calls k id rp op au co h.a5 h.c5 Q h.a6 h.c6 A h.a7 h.c7 N h.a8 h.c8 M h.a9 h.c9 P h.a10 h.c10 U r v w g.r5 g.l5 g.r6 g.l6 g.r7 g.l7 g.r8 g.l8 g.r9 g.l9 g.r10 g.l10 e).mono ?_;rintro e w' ⟨v0,rfl,o,hb⟩;obtain ⟨A,c,rfl⟩:=Kd.R_slice o;exact ⟨A,c,rfl,Kd.R_mono (Kd.R_bound o) (fun k hk=>hk.2.1),hb⟩
theorem eq_anyM (k:Nat) (id op co:Int) (rp au:Bool) (Q:List (S96)) (A:List (qw)) (N:List (qw)) (M:List (qw)) (P:List (qH)) (U:List (qH)) (h j:HdM) (v:Bool) (w:World) (g:RdIM w h Q A N M P U) (g':RdIM w j Q A N M P U) (e:ZG.f k id rp op au co Q A N M P U id rp op au co Q A N M P U=some v):Calls Tryz.prog 18 #[(h.argI id op co rp au Q A N M P U),(j.argI id op co rp au Q A N M P U)] w fun e w'=>e=.returned (.bool v)∧Below w.heap.size w w' :=
  ZG.calls k id rp op au co h.a5 h.c5 Q h.a6 h.c6 A h.a7 h.c7 N h.a8 h.c8 M h.a9 h.c9 P h.a10 h.c10 U id rp op au co j.a5 j.c5 Q j.a6 j.c6 A j.a7 j.c7 N j.a8 j.c8 M j.a9 j.c9 P j.a10 j.c10 U v w g.r5 g.l5 g.r6 g.l6 g.r7 g.l7 g.r8 g.l8 g.r9 g.l9 g.r10 g.l10 g'.r5 g'.l5 g'.r6 g'.l6 g'.r7 g'.l7 g'.r8 g'.l8 g'.r9 g'.l9 g'.r10 g'.l10 e
theorem to_anyM (k:Nat) (id op co:Int) (rp au:Bool) (Q:List (Jk)) (A:List (yj)) (N:List (yj)) (M:List (yj)) (P:List (Qc)) (U:List (Qc)) (h:HdM) (id1 op1 co1:Int) (rp1 au1:Bool) (Q1:List (S96)) (A1:List (qw)) (N1:List (qw)) (M1:List (qw)) (P1:List (qH)) (U1:List (qH)) (w:World) (g:RdLM w h Q A N M P U) (e:ZF.f k id rp op au co Q A N M P U=some (id1,rp1,op1,au1,co1,Q1,A1,N1,M1,P1,U1)):Calls Tryz.prog 15 #[(h.argL id op co rp au Q A N M P U)] w fun e w'=>∃ j:HdM,e=.returned (j.argI id1 op1 co1 rp1 au1 Q1 A1 N1 M1 P1 U1)∧RdOM w' w.heap.size (Btw w.heap.size w'.heap.size) j Q1 A1 N1 M1 P1 U1∧Below w.heap.size w w':=by
  refine (ZF.calls k id rp op au co h.a5 h.c5 Q h.a6 h.c6 A h.a7 h.c7 N h.a8 h.c8 M h.a9 h.c9 P h.a10 h.c10 U id1 rp1 op1 au1 co1 Q1 A1 N1 M1 P1 U1 w g.r5 g.l5 g.r6 g.l6 g.r7 g.l7 g.r8 g.l8 g.r9 g.l9 g.r10 g.l10 e).mono ?_;rintro e w' ⟨v5,v6,v7,v8,v9,v10,rfl,o5,o6,o7,o8,o9,o10,hb⟩;obtain ⟨A5,c5,e5⟩:=Kd.R_slice o5;subst e5;obtain ⟨A6,c6,e6⟩:=Kd.R_slice o6;subst e6;obtain ⟨A7,c7,e7⟩:=Kd.R_slice o7;subst e7;obtain ⟨A8,c8,e8⟩:=Kd.R_slice o8;subst e8;obtain ⟨A9,c9,e9⟩:=Kd.R_slice o9;subst e9;obtain ⟨A10,c10,e10⟩:=Kd.R_slice o10;subst e10;exact ⟨⟨A5,c5,A6,c6,A7,c7,A8,c8,A9,c9,A10,c10⟩,rfl,⟨R_btw o5,R_btw o6,R_btw o7,R_btw o8,R_btw o9,R_btw o10⟩,hb⟩
def n_Msg (Q:List (S96)) (A:List (qw)) (N:List (qw)) (M:List (qw)) (P:List (qH)) (U:List (qH)):Nat:=sumN n_q Q+sumN n_rr A+sumN n_rr N+sumN n_rr M+sumN n_w P+sumN n_w U
set_option maxHeartbeats 8000000 in
set_option maxRecDepth 100000 in
theorem mk_anyM (pr:Nat→Prop) (base:Nat) (h:HdM) (id op co:Int) (rp au:Bool) (Q:List (S96)) (A:List (qw)) (N:List (qw)) (M:List (qw)) (P:List (qH)) (U:List (qH)) (k0:Int) (w:World) (g:RdOM w base pr h Q A N M P U) (hP:∀ k,pr k→k < w.heap.size) (h0:0≤k0) (h1:k0+(n_Msg Q A N M P U:Int)≤4611686018427387904):Calls Tryz.prog 19 #[(h.argI id op co rp au Q A N M P U),.int .i64 k0] w fun e w'=>e=.returned (.int .i64 (k0+(n_Msg Q A N M P U:Int)))∧Mark pr w w':=by
  have G:=ak g;have HP:=ak hP;obtain ⟨s5,e5⟩:∃ s:Nat,sumN n_q Q=s:=⟨_,rfl⟩;obtain ⟨s6,e6⟩:∃ s:Nat,sumN n_rr A=s:=⟨_,rfl⟩;obtain ⟨s7,e7⟩:∃ s:Nat,sumN n_rr N=s:=⟨_,rfl⟩;obtain ⟨s8,e8⟩:∃ s:Nat,sumN n_rr M=s:=⟨_,rfl⟩;obtain ⟨s9,e9⟩:∃ s:Nat,sumN n_w P=s:=⟨_,rfl⟩;obtain ⟨s10,e10⟩:∃ s:Nat,sumN n_w U=s:=⟨_,rfl⟩;have E5:=ak e5;have E6:=ak e6;have E7:=ak e7;have E8:=ak e8;have E9:=ak e9;have E10:=ak e10;have hn:n_Msg Q A N M P U=s5+s6+s7+s8+s9+s10:=by unfold n_Msg; omega
  rw [hn] at h1 ⊢;clear g hP hn e5 e6 e7 e8 e9 e10;go_enter Tryz.func19,Tryz.ntmps19;go_upto_region 1 with (fail)
  obtain ⟨W,hW1⟩:∃ W,W=w.alloc (.cells #[.int .i64 id,.bool rp,.int .i64 op,.bool au,.int .i64 co,.slice h.a5 Q.length h.c5,.slice h.a6 A.length h.c6,.slice h.a7 N.length h.c7,.slice h.a8 M.length h.c8,.slice h.a9 P.length h.c9,.slice h.a10 U.length h.c10] 36):=⟨_,rfl⟩;obtain ⟨b,hb1⟩:∃ b,b=w.heap.size:=⟨_,rfl⟩;have BK:=ak (show W.heap[b]?=some (.cells #[.int .i64 id,.bool rp,.int .i64 op,.bool au,.int .i64 co,.slice h.a5 Q.length h.c5,.slice h.a6 A.length h.c6,.slice h.a7 N.length h.c7,.slice h.a8 M.length h.c8,.slice h.a9 P.length h.c9,.slice h.a10 U.length h.c10] 36 (0,0)) by rw [hW1,hb1]; exact heap_alloc_new w _);have HM:=ak (show Mark pr w W by rw [hW1]; exact Mark.of_below (below_alloc (Below.refl _ _) _));have NP:=ak (show ¬ pr b from fun hp=>by have:=HP.out b hp; omega);rw [← hW1,← hb1];clear hW1 hb1;try generalize Value.agg #[.int .i64 id,.bool rp,.int .i64 op,.bool au,.int .i64 co,.slice h.a5 Q.length h.c5,.slice h.a6 A.length h.c6,.slice h.a7 N.length h.c7,.slice h.a8 M.length h.c8,.slice h.a9 P.length h.c9,.slice h.a10 U.length h.c10]=dz
  try generalize h.argI id op co rp au Q A N M P U=dz
  as_aux_lemma =>
   obtain ⟨ys,hsh,hR⟩:=stab_R stab_q HM.out G.out.o5;have hl:=(nq_sh hsh).trans E5.out;have HR:=ak hR;have HS:=ak hl;clear hsh hR hl;have x0:=(blk_cell BK.out 0).trans rfl;have x1:=(blk_cell BK.out 1).trans rfl;have x2:=(blk_cell BK.out 2).trans rfl;have x3:=(blk_cell BK.out 3).trans rfl;have x4:=(blk_cell BK.out 4).trans rfl;have x5:=(blk_cell BK.out 5).trans rfl;have x6:=(blk_cell BK.out 6).trans rfl;have x7:=(blk_cell BK.out 7).trans rfl;have x8:=(blk_cell BK.out 8).trans rfl;have x9:=(blk_cell BK.out 9).trans rfl;have x10:=(blk_cell BK.out 10).trans rfl;go_wp2_with (fail);refine (mk_qS pr _ ys (k0) base W HR.out (by omega) (by have:=HS.out; omega)).mono ?_;rintro e u5 ⟨rfl,hm⟩;rw [HS.out];clear HR HS;replace BK:=ak ((hm.out b (blk_lt BK.out) NP.out).trans BK.out);replace HM:=ak (HM.out.trans hm);clear hm x0 x1 x2 x3 x4 x5 x6 x7 x8 x9 x10
   as_aux_lemma =>
    obtain ⟨ys,hsh,hR⟩:=stab_R stab_rr HM.out G.out.o6;have hl:=(nrr_sh hsh).trans E6.out;have HR:=ak hR;have HS:=ak hl;clear hsh hR hl;have x0:=(blk_cell BK.out 0).trans rfl;have x1:=(blk_cell BK.out 1).trans rfl;have x2:=(blk_cell BK.out 2).trans rfl;have x3:=(blk_cell BK.out 3).trans rfl;have x4:=(blk_cell BK.out 4).trans rfl;have x5:=(blk_cell BK.out 5).trans rfl;have x6:=(blk_cell BK.out 6).trans rfl;have x7:=(blk_cell BK.out 7).trans rfl;have x8:=(blk_cell BK.out 8).trans rfl;have x9:=(blk_cell BK.out 9).trans rfl;have x10:=(blk_cell BK.out 10).trans rfl;go_wp2_with (fail);refine (mk_rrS pr _ ys (k0+(s5:Int)) base u5 HR.out (by omega) (by have:=HS.out; omega)).mono ?_;rintro e u6 ⟨rfl,hm⟩;rw [HS.out];clear HR HS;replace BK:=ak ((hm.out b (blk_lt BK.out) NP.out).trans BK.out);replace HM:=ak (HM.out.trans hm);clear hm x0 x1 x2 x3 x4 x5 x6 x7 x8 x9 x10
    as_aux_lemma =>
     obtain ⟨ys,hsh,hR⟩:=stab_R stab_rr HM.out G.out.o7;have hl:=(nrr_sh hsh).trans E7.out;have HR:=ak hR;have HS:=ak hl;clear hsh hR hl;have x0:=(blk_cell BK.out 0).trans rfl;have x1:=(blk_cell BK.out 1).trans rfl;have x2:=(blk_cell BK.out 2).trans rfl;have x3:=(blk_cell BK.out 3).trans rfl;have x4:=(blk_cell BK.out 4).trans rfl;have x5:=(blk_cell BK.out 5).trans rfl;have x6:=(blk_cell BK.out 6).trans rfl;have x7:=(blk_cell BK.out 7).trans rfl;have x8:=(blk_cell BK.out 8).trans rfl;have x9:=(blk_cell BK.out 9).trans rfl;have x10:=(blk_cell BK.out 10).trans rfl;go_wp2_with (fail);refine (mk_rrS pr _ ys (k0+(s5:Int)+(s6:Int)) base u6 HR.out (by omega) (by have:=HS.out; omega)).mono ?_;rintro e u7 ⟨rfl,hm⟩;rw [HS.out];clear HR HS;replace BK:=ak ((hm.out b (blk_lt BK.out) NP.out).trans BK.out);replace HM:=ak (HM.out.trans hm);clear hm x0 x1 x2 x3 x4 x5 x6 x7 x8 x9 x10
     as_aux_lemma =>
      obtain ⟨ys,hsh,hR⟩:=stab_R stab_rr HM.out G.out.o8;have hl:=(nrr_sh hsh).trans E8.out;have HR:=ak hR;have HS:=ak hl;clear hsh hR hl;have x0:=(blk_cell BK.out 0).trans rfl;have x1:=(blk_cell BK.out 1).trans rfl;have x2:=(blk_cell BK.out 2).trans rfl;have x3:=(blk_cell BK.out 3).trans rfl;have x4:=(blk_cell BK.out 4).trans rfl;have x5:=(blk_cell BK.out 5).trans rfl;have x6:=(blk_cell BK.out 6).trans rfl;have x7:=(blk_cell BK.out 7).trans rfl;have x8:=(blk_cell BK.out 8).trans rfl;have x9:=(blk_cell BK.out 9).trans rfl;have x10:=(blk_cell BK.out 10).trans rfl;go_wp2_with (fail);refine (mk_rrS pr _ ys (k0+(s5:Int)+(s6:Int)+(s7:Int)) base u7 HR.out (by omega) (by have:=HS.out; omega)).mono ?_;rintro e u8 ⟨rfl,hm⟩;rw [HS.out];clear HR HS;replace BK:=ak ((hm.out b (blk_lt BK.out) NP.out).trans BK.out);replace HM:=ak (HM.out.trans hm);clear hm x0 x1 x2 x3 x4 x5 x6 x7 x8 x9 x10
      as_aux_lemma =>
       obtain ⟨ys,hsh,hR⟩:=stab_R stab_w HM.out G.out.o9;have hl:=(nw_sh hsh).trans E9.out;have HR:=ak hR;have HS:=ak hl;clear hsh hR hl;have x0:=(blk_cell BK.out 0).trans rfl;have x1:=(blk_cell BK.out 1).trans rfl;have x2:=(blk_cell BK.out 2).trans rfl;have x3:=(blk_cell BK.out 3).trans rfl;have x4:=(blk_cell BK.out 4).trans rfl;have x5:=(blk_cell BK.out 5).trans rfl;have x6:=(blk_cell BK.out 6).trans rfl;have x7:=(blk_cell BK.out 7).trans rfl;have x8:=(blk_cell BK.out 8).trans rfl;have x9:=(blk_cell BK.out 9).trans rfl;have x10:=(blk_cell BK.out 10).trans rfl;go_wp2_with (fail);refine (mk_wS pr _ ys (k0+(s5:Int)+(s6:Int)+(s7:Int)+(s8:Int)) base u8 HR.out (by omega) (by have:=HS.out; omega)).mono ?_;rintro e u9 ⟨rfl,hm⟩;rw [HS.out];clear HR HS;replace BK:=ak ((hm.out b (blk_lt BK.out) NP.out).trans BK.out);replace HM:=ak (HM.out.trans hm);clear hm x0 x1 x2 x3 x4 x5 x6 x7 x8 x9 x10
       as_aux_lemma =>
        obtain ⟨ys,hsh,hR⟩:=stab_R stab_w HM.out G.out.o10;have hl:=(nw_sh hsh).trans E10.out;have HR:=ak hR;have HS:=ak hl;clear hsh hR hl;have x0:=(blk_cell BK.out 0).trans rfl;have x1:=(blk_cell BK.out 1).trans rfl;have x2:=(blk_cell BK.out 2).trans rfl;have x3:=(blk_cell BK.out 3).trans rfl;have x4:=(blk_cell BK.out 4).trans rfl;have x5:=(blk_cell BK.out 5).trans rfl;have x6:=(blk_cell BK.out 6).trans rfl;have x7:=(blk_cell BK.out 7).trans rfl;have x8:=(blk_cell BK.out 8).trans rfl;have x9:=(blk_cell BK.out 9).trans rfl;have x10:=(blk_cell BK.out 10).trans rfl;go_wp2_with (fail);refine (mk_wS pr _ ys (k0+(s5:Int)+(s6:Int)+(s7:Int)+(s8:Int)+(s9:Int)) base u9 HR.out (by omega) (by have:=HS.out; omega)).mono ?_;rintro e u10 ⟨rfl,hm⟩;rw [HS.out];clear HR HS;replace BK:=ak ((hm.out b (blk_lt BK.out) NP.out).trans BK.out);replace HM:=ak (HM.out.trans hm);clear hm x0 x1 x2 x3 x4 x5 x6 x7 x8 x9 x10
        as_aux_lemma =>
         go_wp2_with (fail);go_ret;exact ⟨by show Ending.returned (.int .i64 (k0+(s5:Int)+(s6:Int)+(s7:Int)+(s8:Int)+(s9:Int)+(s10:Int)))=_; congr 2; omega,HM.out⟩
set_option maxHeartbeats 8000000 in
set_option maxRecDepth 100000 in
theorem qhh (k:Nat) (id op co:Int) (rp au:Bool) (Q:List (Jk)) (A:List (yj)) (N:List (yj)) (M:List (yj)) (P:List (Qc)) (U:List (Qc)) (h:HdM) (u:Int) (w:World) (g:RdLM w h Q A N M P U) (e1:Ze.f k id rp op au co Q A N M P U 1048576=some u) (hu:u < 0):Calls Tryz.prog 4 #[(h.argL id op co rp au Q A N M P U)] w fun e w'=>e=.returned (.bool true)∧Below w.heap.size w w':=by
  have G:=ak g;have E1:=ak e1;clear g e1;go_enter Tryz.func4,Tryz.ntmps4;go_upto_region 1 with (fail)
  obtain ⟨W1,hW1⟩:∃ W,W=w.alloc (.cells #[.int .i64 id,.bool rp,.int .i64 op,.bool au,.int .i64 co,.slice h.a5 Q.length h.c5,.slice h.a6 A.length h.c6,.slice h.a7 N.length h.c7,.slice h.a8 M.length h.c8,.slice h.a9 P.length h.c9,.slice h.a10 U.length h.c10] 26):=⟨_,rfl⟩;obtain ⟨p1,hb1⟩:∃ b,b=w.heap.size:=⟨_,rfl⟩;have BK:=ak (show W1.heap[p1]?=some (.cells #[.int .i64 id,.bool rp,.int .i64 op,.bool au,.int .i64 co,.slice h.a5 Q.length h.c5,.slice h.a6 A.length h.c6,.slice h.a7 N.length h.c7,.slice h.a8 M.length h.c8,.slice h.a9 P.length h.c9,.slice h.a10 U.length h.c10] 26 (0,0)) by rw [hW1,hb1]; exact heap_alloc_new w _);have HB:=ak (show Below w.heap.size w W1 by rw [hW1]; exact below_alloc (Below.refl _ _) _);rw [← hW1,← hb1];clear hW1 hb1;try generalize Value.agg #[.int .i64 id,.bool rp,.int .i64 op,.bool au,.int .i64 co,.slice h.a5 Q.length h.c5,.slice h.a6 A.length h.c6,.slice h.a7 N.length h.c7,.slice h.a8 M.length h.c8,.slice h.a9 P.length h.c9,.slice h.a10 U.length h.c10]=dz
  try generalize h.argL id op co rp au Q A N M P U=dz
  as_aux_lemma =>
   have x0:=(blk_cell BK.out 0).trans rfl;have x1:=(blk_cell BK.out 1).trans rfl;have x2:=(blk_cell BK.out 2).trans rfl;have x3:=(blk_cell BK.out 3).trans rfl;have x4:=(blk_cell BK.out 4).trans rfl;have x5:=(blk_cell BK.out 5).trans rfl;have x6:=(blk_cell BK.out 6).trans rfl;have x7:=(blk_cell BK.out 7).trans rfl;have x8:=(blk_cell BK.out 8).trans rfl;have x9:=(blk_cell BK.out 9).trans rfl;have x10:=(blk_cell BK.out 10).trans rfl;go_wp2_with (fail);refine (sz_anyM k id op co rp au Q A N M P U h 1048576 u W1 (G.out.below HB.out) E1.out).mono ?_;rintro e w2 ⟨rfl,hb⟩;replace HB:=b2s HB.out hb;clear hb x0 x1 x2 x3 x4 x5 x6 x7 x8 x9 x10;try generalize Value.agg #[.int .i64 id,.bool rp,.int .i64 op,.bool au,.int .i64 co,.slice h.a5 Q.length h.c5,.slice h.a6 A.length h.c6,.slice h.a7 N.length h.c7,.slice h.a8 M.length h.c8,.slice h.a9 P.length h.c9,.slice h.a10 U.length h.c10]=dz
   try generalize h.argL id op co rp au Q A N M P U=dz
   as_aux_lemma =>
    go_wp2_with (fail);go_ret;exact ⟨rfl,HB.out⟩
set_option maxHeartbeats 8000000 in
set_option maxRecDepth 100000 in
theorem qhi (k:Nat) (id op co:Int) (rp au:Bool) (Q:List (Jk)) (A:List (yj)) (N:List (yj)) (M:List (yj)) (P:List (Qc)) (U:List (Qc)) (h:HdM) (u:Int) (w:World) (g:RdLM w h Q A N M P U) (e1:Ze.f k id rp op au co Q A N M P U 1048576=some u) (hu:¬ u < 0) (id1 op1 co1:Int) (rp1 au1:Bool) (Q1:List (S96)) (A1:List (qw)) (N1:List (qw)) (M1:List (qw)) (P1:List (qH)) (U1:List (qH)) (r mk:List Int) (v:Bool) (e2:ZF.f k id rp op au co Q A N M P U=some (id1,rp1,op1,au1,co1,Q1,A1,N1,M1,P1,U1)) (e3:Jw.f k id1 rp1 op1 au1 co1 Q1 A1 N1 M1 P1 U1=some (r,v)) (e4:Jx.f k id1 rp1 op1 au1 co1 Q1 A1 N1 M1 P1 U1=some (r,v)) (e5:ZG.f k id1 rp1 op1 au1 co1 Q1 A1 N1 M1 P1 U1 id1 rp1 op1 au1 co1 Q1 A1 N1 M1 P1 U1=some true) (e6:jG.f k r r=some true) (e7:zQ.f k r 1=some (1+(r.length:Int),mk)) (e8:zR.f k mk 1=some (1+(r.length:Int))) (e9:mk.length=r.length) (e10:n_Msg Q1 A1 N1 M1 P1 U1≤4611686018427380000) (e11:r.length≤4611686018427380000):Calls Tryz.prog 4 #[(h.argL id op co rp au Q A N M P U)] w fun e w'=>e=.returned (.bool true)∧Below w.heap.size w w':=by
  have G:=ak g;have E1:=ak e1;have E2:=ak e2;have E3:=ak e3;have E4:=ak e4;have E5:=ak e5;have E6:=ak e6;have E7:=ak e7;have E8:=ak e8;have E9:=ak e9;have E10:=ak e10;have E11:=ak e11;clear g e1 e2 e3 e4 e5 e6 e7 e8 e9 e10 e11;go_enter Tryz.func4,Tryz.ntmps4;go_upto_region 1 with (fail)
  obtain ⟨W1,hW1⟩:∃ W,W=w.alloc (.cells #[.int .i64 id,.bool rp,.int .i64 op,.bool au,.int .i64 co,.slice h.a5 Q.length h.c5,.slice h.a6 A.length h.c6,.slice h.a7 N.length h.c7,.slice h.a8 M.length h.c8,.slice h.a9 P.length h.c9,.slice h.a10 U.length h.c10] 26):=⟨_,rfl⟩;obtain ⟨p1,hb1⟩:∃ b,b=w.heap.size:=⟨_,rfl⟩;have BK:=ak (show W1.heap[p1]?=some (.cells #[.int .i64 id,.bool rp,.int .i64 op,.bool au,.int .i64 co,.slice h.a5 Q.length h.c5,.slice h.a6 A.length h.c6,.slice h.a7 N.length h.c7,.slice h.a8 M.length h.c8,.slice h.a9 P.length h.c9,.slice h.a10 U.length h.c10] 26 (0,0)) by rw [hW1,hb1]; exact heap_alloc_new w _);have HB:=ak (show Below w.heap.size w W1 by rw [hW1]; exact below_alloc (Below.refl _ _) _);rw [← hW1,← hb1];clear hW1 hb1;try generalize Value.agg #[.int .i64 id,.bool rp,.int .i64 op,.bool au,.int .i64 co,.slice h.a5 Q.length h.c5,.slice h.a6 A.length h.c6,.slice h.a7 N.length h.c7,.slice h.a8 M.length h.c8,.slice h.a9 P.length h.c9,.slice h.a10 U.length h.c10]=dz
  try generalize h.argL id op co rp au Q A N M P U=dz
  as_aux_lemma =>
   have x0:=(blk_cell BK.out 0).trans rfl;have x1:=(blk_cell BK.out 1).trans rfl;have x2:=(blk_cell BK.out 2).trans rfl;have x3:=(blk_cell BK.out 3).trans rfl;have x4:=(blk_cell BK.out 4).trans rfl;have x5:=(blk_cell BK.out 5).trans rfl;have x6:=(blk_cell BK.out 6).trans rfl;have x7:=(blk_cell BK.out 7).trans rfl;have x8:=(blk_cell BK.out 8).trans rfl;have x9:=(blk_cell BK.out 9).trans rfl;have x10:=(blk_cell BK.out 10).trans rfl;go_wp2_with (fail);refine (sz_anyM k id op co rp au Q A N M P U h 1048576 u W1 (G.out.below HB.out) E1.out).mono ?_;rintro e w2 ⟨rfl,hb⟩;replace BK:=b1 BK hb;replace HB:=b2s HB.out hb;clear hb x0 x1 x2 x3 x4 x5 x6 x7 x8 x9 x10;try generalize Value.agg #[.int .i64 id,.bool rp,.int .i64 op,.bool au,.int .i64 co,.slice h.a5 Q.length h.c5,.slice h.a6 A.length h.c6,.slice h.a7 N.length h.c7,.slice h.a8 M.length h.c8,.slice h.a9 P.length h.c9,.slice h.a10 U.length h.c10]=dz
   try generalize h.argL id op co rp au Q A N M P U=dz
   as_aux_lemma =>
    have x0:=(blk_cell BK.out 0).trans rfl;have x1:=(blk_cell BK.out 1).trans rfl;have x2:=(blk_cell BK.out 2).trans rfl;have x3:=(blk_cell BK.out 3).trans rfl;have x4:=(blk_cell BK.out 4).trans rfl;have x5:=(blk_cell BK.out 5).trans rfl;have x6:=(blk_cell BK.out 6).trans rfl;have x7:=(blk_cell BK.out 7).trans rfl;have x8:=(blk_cell BK.out 8).trans rfl;have x9:=(blk_cell BK.out 9).trans rfl;have x10:=(blk_cell BK.out 10).trans rfl;go_wp2_with (fail);refine (to_anyM k id op co rp au Q A N M P U h id1 op1 co1 rp1 au1 Q1 A1 N1 M1 P1 U1 w2 (G.out.below HB.out) E2.out).mono ?_;rintro e w3 ⟨j,rfl,gj,hb⟩;replace BK:=b1 BK hb;have GJ:=ak gj.rd;replace HB:=b2s HB.out hb;clear hb gj x0 x1 x2 x3 x4 x5 x6 x7 x8 x9 x10;try generalize Value.agg #[.int .i64 id,.bool rp,.int .i64 op,.bool au,.int .i64 co,.slice h.a5 Q.length h.c5,.slice h.a6 A.length h.c6,.slice h.a7 N.length h.c7,.slice h.a8 M.length h.c8,.slice h.a9 P.length h.c9,.slice h.a10 U.length h.c10]=dz
    try generalize h.argL id op co rp au Q A N M P U=dz
    as_aux_lemma =>
     go_wp2_with (fail);refine (sp_anyM k id1 op1 co1 rp1 au1 Q1 A1 N1 M1 P1 U1 j r v w3 GJ.out E3.out).mono ?_;rintro e w4 ⟨Aw,cw,rfl,ow,hb⟩;replace BK:=b1 BK hb;replace HB:=b2s HB.out hb;have GW:=ak (Kd.R_reads' ow).2.2;have LW:=ak (Kd.R_reads' ow).2.1;have HB4:=ak (Below.refl w4.heap.size w4);replace G:=ak (G.out.below HB.out);clear hb GJ ow;try generalize Value.agg #[.int .i64 id1,.bool rp1,.int .i64 op1,.bool au1,.int .i64 co1,.slice j.a5 Q1.length j.c5,.slice j.a6 A1.length j.c6,.slice j.a7 N1.length j.c7,.slice j.a8 M1.length j.c8,.slice j.a9 P1.length j.c9,.slice j.a10 U1.length j.c10]=dz
     try generalize j.argI id1 op1 co1 rp1 au1 Q1 A1 N1 M1 P1 U1=dz
     as_aux_lemma =>
      have x0:=(blk_cell BK.out 0).trans rfl;have x1:=(blk_cell BK.out 1).trans rfl;have x2:=(blk_cell BK.out 2).trans rfl;have x3:=(blk_cell BK.out 3).trans rfl;have x4:=(blk_cell BK.out 4).trans rfl;have x5:=(blk_cell BK.out 5).trans rfl;have x6:=(blk_cell BK.out 6).trans rfl;have x7:=(blk_cell BK.out 7).trans rfl;have x8:=(blk_cell BK.out 8).trans rfl;have x9:=(blk_cell BK.out 9).trans rfl;have x10:=(blk_cell BK.out 10).trans rfl;go_wp2_with (fail);refine (to_anyM k id op co rp au Q A N M P U h id1 op1 co1 rp1 au1 Q1 A1 N1 M1 P1 U1 w4 (G.out) E2.out).mono ?_;rintro e w5 ⟨j,rfl,gj,hb⟩;have HO:=ak gj;replace HB4:=ak hb;clear hb gj x0 x1 x2 x3 x4 x5 x6 x7 x8 x9 x10;try generalize Value.agg #[.int .i64 id,.bool rp,.int .i64 op,.bool au,.int .i64 co,.slice h.a5 Q.length h.c5,.slice h.a6 A.length h.c6,.slice h.a7 N.length h.c7,.slice h.a8 M.length h.c8,.slice h.a9 P.length h.c9,.slice h.a10 U.length h.c10]=dz
      try generalize h.argL id op co rp au Q A N M P U=dz
      as_aux_lemma =>
       have BKn:=ak (blk_below BK.out HB4.out);go_upto_region 7 with (fail)
       obtain ⟨W6,hW1⟩:∃ W,W=w5.alloc (.cells #[.int .i64 id1,.bool rp1,.int .i64 op1,.bool au1,.int .i64 co1,.slice j.a5 Q1.length j.c5,.slice j.a6 A1.length j.c6,.slice j.a7 N1.length j.c7,.slice j.a8 M1.length j.c8,.slice j.a9 P1.length j.c9,.slice j.a10 U1.length j.c10] 36):=⟨_,rfl⟩;obtain ⟨p6,hb1⟩:∃ b,b=w5.heap.size:=⟨_,rfl⟩;have BJ:=ak (show W6.heap[p6]?=some (.cells #[.int .i64 id1,.bool rp1,.int .i64 op1,.bool au1,.int .i64 co1,.slice j.a5 Q1.length j.c5,.slice j.a6 A1.length j.c6,.slice j.a7 N1.length j.c7,.slice j.a8 M1.length j.c8,.slice j.a9 P1.length j.c9,.slice j.a10 U1.length j.c10] 36 (0,0)) by rw [hW1,hb1]; exact heap_alloc_new w5 _);have H6:=show Below w5.heap.size w5 W6 by rw [hW1]; exact below_alloc (Below.refl _ _) _
       have N6:=ak (show W6.heap.size=w5.heap.size+1 by rw [hW1]; exact Array.size_push _);have NP:=ak (show p6=w5.heap.size from hb1);rw [← hW1,← hb1];clear hW1 hb1;replace HB4:=b2s HB4.out H6;replace HO:=ak (HO.out.below H6);clear H6 BKn;try generalize Value.agg #[.int .i64 id1,.bool rp1,.int .i64 op1,.bool au1,.int .i64 co1,.slice j.a5 Q1.length j.c5,.slice j.a6 A1.length j.c6,.slice j.a7 N1.length j.c7,.slice j.a8 M1.length j.c8,.slice j.a9 P1.length j.c9,.slice j.a10 U1.length j.c10]=dz
       try generalize j.argI id1 op1 co1 rp1 au1 Q1 A1 N1 M1 P1 U1=dz
       as_aux_lemma =>
        have y0:=(blk_cell BJ.out 0).trans rfl;have y1:=(blk_cell BJ.out 1).trans rfl;have y2:=(blk_cell BJ.out 2).trans rfl;have y3:=(blk_cell BJ.out 3).trans rfl;have y4:=(blk_cell BJ.out 4).trans rfl;have y5:=(blk_cell BJ.out 5).trans rfl;have y6:=(blk_cell BJ.out 6).trans rfl;have y7:=(blk_cell BJ.out 7).trans rfl;have y8:=(blk_cell BJ.out 8).trans rfl;have y9:=(blk_cell BJ.out 9).trans rfl;have y10:=(blk_cell BJ.out 10).trans rfl;go_wp2_with (fail);refine (im_anyM k id1 op1 co1 rp1 au1 Q1 A1 N1 M1 P1 U1 j r v W6 HO.out.rd E4.out).mono ?_;rintro e w7 ⟨Ag,cg,rfl,og,hb⟩;have LG:=ak (Kd.R_reads' og).2.1;have GO:=ak (Kd.R_lower og HB4.out.size);replace BJ:=b1 BJ hb;replace HO:=ak (HO.out.below hb);have HB6:=ak hb;replace HB4:=b2s HB4.out hb;clear hb og y0 y1 y2 y3 y4 y5 y6 y7 y8 y9 y10;try generalize Value.agg #[.int .i64 id1,.bool rp1,.int .i64 op1,.bool au1,.int .i64 co1,.slice j.a5 Q1.length j.c5,.slice j.a6 A1.length j.c6,.slice j.a7 N1.length j.c7,.slice j.a8 M1.length j.c8,.slice j.a9 P1.length j.c9,.slice j.a10 U1.length j.c10]=dz
        try generalize j.argI id1 op1 co1 rp1 au1 Q1 A1 N1 M1 P1 U1=dz
        as_aux_lemma =>
         go_wp2_with (fail);refine (jG.calls k Ag cg r Aw cw r true w7 (Kd.R_reads' GO.out).2.2 LG.out (Kd.C_below GW.out HB4.out) LW.out E6.out).mono ?_;rintro e w8 ⟨rfl,hd⟩;have hb:=hd.below;clear hd;replace GO:=ak (Kd.R_below GO.out hb);replace BJ:=b1 BJ hb;replace HO:=ak (HO.out.below hb);replace HB6:=b2s HB6.out hb;replace HB4:=b2s HB4.out hb;clear hb
         as_aux_lemma =>
          have hv:(v != v)=false:=by simp
          have BKn:=ak (blk_below BK.out HB4.out);go_upto_region 10 with (fail)
          clear hv
          go_region_held3 (fun w'=>w'.cell? ⟨p6,0,none⟩=some (.int .i64 id1)∧w'.cell? ⟨p6,1,none⟩=some (.bool rp1)∧w'.cell? ⟨p6,2,none⟩=some (.int .i64 op1)∧w'.cell? ⟨p6,3,none⟩=some (.bool au1)∧w'.cell? ⟨p6,4,none⟩=some (.int .i64 co1)∧w'.cell? ⟨p6,5,none⟩=some (.slice j.a5 Q1.length j.c5)∧w'.cell? ⟨p6,6,none⟩=some (.slice j.a6 A1.length j.c6)∧w'.cell? ⟨p6,7,none⟩=some (.slice j.a7 N1.length j.c7)∧w'.cell? ⟨p6,8,none⟩=some (.slice j.a8 M1.length j.c8)∧w'.cell? ⟨p6,9,none⟩=some (.slice j.a9 P1.length j.c9)∧w'.cell? ⟨p6,10,none⟩=some (.slice j.a10 U1.length j.c10)∧w'.cell? ⟨p1,0,none⟩=some (.int .i64 id)∧w'.cell? ⟨p1,1,none⟩=some (.bool rp)∧w'.cell? ⟨p1,2,none⟩=some (.int .i64 op)∧w'.cell? ⟨p1,3,none⟩=some (.bool au)∧w'.cell? ⟨p1,4,none⟩=some (.int .i64 co)∧w'.cell? ⟨p1,5,none⟩=some (.slice h.a5 Q.length h.c5)∧w'.cell? ⟨p1,6,none⟩=some (.slice h.a6 A.length h.c6)∧w'.cell? ⟨p1,7,none⟩=some (.slice h.a7 N.length h.c7)∧w'.cell? ⟨p1,8,none⟩=some (.slice h.a8 M.length h.c8)∧w'.cell? ⟨p1,9,none⟩=some (.slice h.a9 P.length h.c9)∧w'.cell? ⟨p1,10,none⟩=some (.slice h.a10 U.length h.c10)) (first | exact ⟨(blk_cell (bk BJ.out) 0).trans rfl,(blk_cell (bk BJ.out) 1).trans rfl,(blk_cell (bk BJ.out) 2).trans rfl,(blk_cell (bk BJ.out) 3).trans rfl,(blk_cell (bk BJ.out) 4).trans rfl,(blk_cell (bk BJ.out) 5).trans rfl,(blk_cell (bk BJ.out) 6).trans rfl,(blk_cell (bk BJ.out) 7).trans rfl,(blk_cell (bk BJ.out) 8).trans rfl,(blk_cell (bk BJ.out) 9).trans rfl,(blk_cell (bk BJ.out) 10).trans rfl,(blk_cell (bk BKn.out) 0).trans rfl,(blk_cell (bk BKn.out) 1).trans rfl,(blk_cell (bk BKn.out) 2).trans rfl,(blk_cell (bk BKn.out) 3).trans rfl,(blk_cell (bk BKn.out) 4).trans rfl,(blk_cell (bk BKn.out) 5).trans rfl,(blk_cell (bk BKn.out) 6).trans rfl,(blk_cell (bk BKn.out) 7).trans rfl,(blk_cell (bk BKn.out) 8).trans rfl,(blk_cell (bk BKn.out) 9).trans rfl,(blk_cell (bk BKn.out) 10).trans rfl⟩ | go_keep)
            (first
              | (go_at_call 15; refine (to_anyM k id op co rp au Q A N M P U h id1 op1 co1 rp1 au1 Q1 A1 N1 M1 P1 U1 _ (G.out.below (bw HB4.out)) E2.out).mono ?_; rintro e w9 ⟨m,rfl,gm,hb⟩; have GM:=ak gm; replace BKn:=ak (blk_below (bk BKn.out) hb); replace BJ:=ak (blk_below (bk BJ.out) hb); replace HO:=ak (HO.out.gr.below hb); replace GO:=ak (Kd.R_below (rw_ GO.out) hb); replace HB6:=b2s (bw HB6.out) hb; replace HB4:=b2s (bw HB4.out) hb; clear hb gm)
              | (go_at_call 18; refine (eq_anyM k id1 op1 co1 rp1 au1 Q1 A1 N1 M1 P1 U1 j m true _ HO.out.gr.rd GM.out.gr.rd E5.out).mono ?_; rintro e w10 ⟨rfl,hb⟩; replace BKn:=ak (blk_below (bk BKn.out) hb); replace BJ:=ak (blk_below (bk BJ.out) hb); replace HO:=ak (HO.out.gr.below hb); replace GO:=ak (Kd.R_below (rw_ GO.out) hb); replace HB6:=b2s (bw HB6.out) hb; replace HB4:=b2s (bw HB4.out) hb; clear hb GM))
          clear BKn;try generalize Value.agg #[.int .i64 id1,.bool rp1,.int .i64 op1,.bool au1,.int .i64 co1,.slice j.a5 Q1.length j.c5,.slice j.a6 A1.length j.c6,.slice j.a7 N1.length j.c7,.slice j.a8 M1.length j.c8,.slice j.a9 P1.length j.c9,.slice j.a10 U1.length j.c10]=dz
          try generalize j.argI id1 op1 co1 rp1 au1 Q1 A1 N1 M1 P1 U1=dz
          try generalize Value.agg #[.int .i64 id,.bool rp,.int .i64 op,.bool au,.int .i64 co,.slice h.a5 Q.length h.c5,.slice h.a6 A.length h.c6,.slice h.a7 N.length h.c7,.slice h.a8 M.length h.c8,.slice h.a9 P.length h.c9,.slice h.a10 U.length h.c10]=dz
          try generalize h.argL id op co rp au Q A N M P U=dz
          try generalize m.argI id1 op1 co1 rp1 au1 Q1 A1 N1 M1 P1 U1=dz
          as_aux_lemma =>
           have y0:=(blk_cell BJ.out 0).trans rfl;have y1:=(blk_cell BJ.out 1).trans rfl;have y2:=(blk_cell BJ.out 2).trans rfl;have y3:=(blk_cell BJ.out 3).trans rfl;have y4:=(blk_cell BJ.out 4).trans rfl;have y5:=(blk_cell BJ.out 5).trans rfl;have y6:=(blk_cell BJ.out 6).trans rfl;have y7:=(blk_cell BJ.out 7).trans rfl;have y8:=(blk_cell BJ.out 8).trans rfl;have y9:=(blk_cell BJ.out 9).trans rfl;have y10:=(blk_cell BJ.out 10).trans rfl;obtain ⟨c,hc⟩:∃ c:Int,(n_Msg Q1 A1 N1 M1 P1 U1:Int)=c:=⟨_,rfl⟩;have hc0:0≤c:=by omega
           have hc1:c≤4611686018427380000:=by have:=E10.out; omega
           go_wp2_with (fail);refine (mk_anyM (Btw w4.heap.size w5.heap.size) w4.heap.size j id1 op1 co1 rp1 au1 Q1 A1 N1 M1 P1 U1 1 w10 HO.out (fun k hk=>by have:=hk.2; have:=HB6.out.size; have:=N6.out; omega) (by omega) (by rw [hc]; omega)).mono ?_;rintro e w11 ⟨rfl,hmk⟩;rw [hc];replace GO:=ak (Kd.R_step GO.out (fun k hk hlt=>hmk.out k hlt (fun hp=>by have:=hp.2; have:=N6.out; omega)));replace HB4:=ak (hmk.below0 HB4.out HB4.out.size (Nat.le_refl _));clear hmk HO HB6 BJ hc y0 y1 y2 y3 y4 y5 y6 y7 y8 y9 y10;try generalize Value.agg #[.int .i64 id1,.bool rp1,.int .i64 op1,.bool au1,.int .i64 co1,.slice j.a5 Q1.length j.c5,.slice j.a6 A1.length j.c6,.slice j.a7 N1.length j.c7,.slice j.a8 M1.length j.c8,.slice j.a9 P1.length j.c9,.slice j.a10 U1.length j.c10]=dz
           try generalize j.argI id1 op1 co1 rp1 au1 Q1 A1 N1 M1 P1 U1=dz
           as_aux_lemma =>
            have hng:¬ (1+c < 0):=by omega
            go_wp2_with (fail);refine (jG.calls k Ag cg r Aw cw r true w11 (Kd.R_reads' GO.out).2.2 LG.out (Kd.C_below GW.out HB4.out) LW.out E6.out).mono ?_;rintro e w12 ⟨rfl,hd⟩;have hb:=hd.below;clear hd;replace GO:=ak (Kd.R_below GO.out hb);replace HB4:=b2s HB4.out hb;clear hb
            as_aux_lemma =>
             have hv:(v != v)=false:=by simp
             go_wp2_with (fail);refine (zQ.calls k (fun k=>W6.heap.size≤k) (.slice Ag r.length cg) r 1 (1+(r.length:Int)) mk w4 w12 HB4.out GO.out E7.out).mono ?_;rintro e w13 ⟨rfl,hg,hb,hk⟩;have GM:=ak (show Kd.C (Kd.int .u8) w13 Ag mk.length mk from by obtain ⟨A,c,e,_,h⟩:=Kd.R_reads hg; injection e with e _ _; rw [e]; exact h);replace HB4:=ak hb;have hrl:(0:Int)≤r.length:=by omega
             have LM:=ak (show mk.length≤cg by rw [E9.out]; exact LG.out);have hcall:=fun W h=>zR.calls k Ag cg mk 1 (1+(r.length:Int)) W h LM.out E8.out
             rw [E9.out] at hcall GM;have HCALL:=ak hcall;clear hg hb hk hcall GO hv
             as_aux_lemma =>
              go_wp2_with (fail);refine (HCALL.out w13 GM.out).mono ?_;rintro e w14 ⟨rfl,hd⟩;replace HB4:=b2s HB4.out hd.below;replace GM:=ak (Kd.C_below GM.out hd.below);clear hd
              as_aux_lemma =>
               have hnr:¬ (1+(r.length:Int) < 0):=by omega
               have hnb:((1+(r.length:Int)) != (1+(r.length:Int)))=false:=by simp
               have BKn:=ak (blk_below BK.out HB4.out);have x0:=(blk_cell BKn.out 0).trans rfl;have x1:=(blk_cell BKn.out 1).trans rfl;have x2:=(blk_cell BKn.out 2).trans rfl;have x3:=(blk_cell BKn.out 3).trans rfl;have x4:=(blk_cell BKn.out 4).trans rfl;have x5:=(blk_cell BKn.out 5).trans rfl;have x6:=(blk_cell BKn.out 6).trans rfl;have x7:=(blk_cell BKn.out 7).trans rfl;have x8:=(blk_cell BKn.out 8).trans rfl;have x9:=(blk_cell BKn.out 9).trans rfl;have x10:=(blk_cell BKn.out 10).trans rfl;go_wp2_with (fail);refine (to_anyM k id op co rp au Q A N M P U h id1 op1 co1 rp1 au1 Q1 A1 N1 M1 P1 U1 w14 (G.out.below HB4.out) E2.out).mono ?_;rintro e w15 ⟨j2,rfl,gj,hb⟩;replace HB4:=b2s HB4.out hb;replace GM:=ak (Kd.C_below GM.out hb);have HO:=ak gj.rd;clear hb gj BKn hnb x0 x1 x2 x3 x4 x5 x6 x7 x8 x9 x10;try generalize Value.agg #[.int .i64 id,.bool rp,.int .i64 op,.bool au,.int .i64 co,.slice h.a5 Q.length h.c5,.slice h.a6 A.length h.c6,.slice h.a7 N.length h.c7,.slice h.a8 M.length h.c8,.slice h.a9 P.length h.c9,.slice h.a10 U.length h.c10]=dz
               try generalize h.argL id op co rp au Q A N M P U=dz
               as_aux_lemma =>
                go_wp2_with (fail);refine (im_anyM k id1 op1 co1 rp1 au1 Q1 A1 N1 M1 P1 U1 j2 r v w15 HO.out E4.out).mono ?_;rintro e w16 ⟨Ah,ch,rfl,oh,hb⟩;have GH:=ak (Kd.R_reads' oh).2.2;have LH:=ak (Kd.R_reads' oh).2.1;replace HB4:=b2s HB4.out hb;replace GM:=ak (Kd.C_below GM.out hb);clear hb oh HO;try generalize Value.agg #[.int .i64 id1,.bool rp1,.int .i64 op1,.bool au1,.int .i64 co1,.slice j2.a5 Q1.length j2.c5,.slice j2.a6 A1.length j2.c6,.slice j2.a7 N1.length j2.c7,.slice j2.a8 M1.length j2.c8,.slice j2.a9 P1.length j2.c9,.slice j2.a10 U1.length j2.c10]=dz
                try generalize j2.argI id1 op1 co1 rp1 au1 Q1 A1 N1 M1 P1 U1=dz
                as_aux_lemma =>
                 go_wp2_with (fail);refine (jG.calls k Ah ch r Aw cw r true w16 GH.out LH.out (Kd.C_below GW.out HB4.out) LW.out E6.out).mono ?_;rintro e w17 ⟨rfl,hd⟩;replace HB4:=b2s HB4.out hd.below;replace GM:=ak (Kd.C_below GM.out hd.below);clear hd GH
                 as_aux_lemma =>
                  have hv:(v != v)=false:=by simp
                  go_wp2_with (fail);refine (HCALL.out w17 GM.out).mono ?_;rintro e w18 ⟨rfl,hd⟩;replace HB4:=b2s HB4.out hd.below;clear hd GM hv
                  as_aux_lemma =>
                   have hnr:¬ (1+(r.length:Int) < 0):=by omega
                   have hnb:((1+(r.length:Int)) != (1+(r.length:Int)))=false:=by simp
                   go_wp2;go_ret;exact ⟨rfl,below_step HB.out HB4.out⟩

end Go.Proofs.YtfddbkaoghdfgaaGreat.Q
