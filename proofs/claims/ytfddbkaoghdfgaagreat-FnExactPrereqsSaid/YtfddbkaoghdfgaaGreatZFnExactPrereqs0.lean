/- Printed by a program of this session (wip/myprint.py), which drives the kit's printer: functions and what their calls do. -/
import Derived.Test.YtfddbkaoghdfgaaGreatProg
import Derived.Below
import Derived.Deep.Draws
import Derived.Deep.AppendLies
import Derived.Maps.AppendAt
import Derived.OwnWalk
import Derived.Laws.BytesArg
import Derived.Laws.MakeOwn
import Derived.Laws.OwnMore
import Derived.Deep.OwnRows
import Derived.Tactics
import Derived.Lib.ConvBytes
import Derived.Laws.Slices
import Derived.WalkKit
import Derived.KernelRfl
import Derived.RowKit3
import Derived.Deep.LoopGhost
import Derived.Deep.QuietTactic
import Derived.BigQuiet
import Derived.WideLaws
import Derived.Deep.DeepCutAuto
import Derived.Deep.CutBlock
import Derived.Deep.RegionHeld3
import Derived.Laws.Rows
import Derived.Lib.AppendStr
import Derived.ArgAppend
import Derived.Laws.IdiomCopy
import Derived.OrdersHeld
import Derived.Laws.BitsLemmas
import Derived.RowKit
import Derived.WalkSpells
import Derived.WalkLawsBesides
import Derived.Shelf.Abstract
import Derived.Test.YtfddbkaoghdfgaaGreatVFnExactPrereqs
import Derived.Deep.DrawnRows
namespace Go.Proofs.YtfddbkaoghdfgaaGreat.Q
open Go.RowKit Go Go.Proofs.YtfddbkaoghdfgaaGreatW.PrintWords Go.Proofs.YtfddbkaoghdfgaaGreatW.PrintLast Go.Proofs.YtfddbkaoghdfgaaGreatW.PrintMore
attribute [local go_sem] max2_int min2_int max_two min_two
set_option linter.unusedVariables false
set_option linter.unusedSimpArgs false

theorem qo3:(Tryz.prog.info? 3).map (fun i=>(i.zero,i.size,i.bytes))=some (some (.int .i64 0),1,8):=by kernel_rfl
theorem qaw:(Tryz.prog.info? 5).map (fun i=>(i.zero,i.size,i.bytes))=some (some (.int .u8 0),1,1):=by kernel_rfl
theorem qiw:(Tryz.prog.info? 27).map (fun i=>(i.zero,i.size,i.bytes))=some (some (.slice none 0 0),1,24):=by kernel_rfl
theorem qbl:(Tryz.prog.info? 105).map (fun i=>(i.zero,i.size,i.bytes))=some (some (.agg #[(.slice none 0 0),(.int .i64 0),(.int .i64 0),(.int .i64 0),(.slice none 0 0),(.slice none 0 0),(.slice none 0 0)]),7,120):=by kernel_rfl
theorem qml:(Tryz.prog.info? 107).map (fun i=>(i.zero,i.size,i.bytes))=some (some (.agg #[(.slice none 0 0),(.int .i64 0),(.int .i64 0),(.int .i64 0),(.slice none 0 0),(.slice none 0 0),(.slice none 0 0),(.int .i64 0),(.bool false)]),9,136):=by kernel_rfl
-- the values' own types
def qX (xs:List (List Int)) (i:Int):(List Int):=xs.getD i.toNat ([]:List Int)
theorem qcQ {w:World} {A:Option Addr} {n:Nat} {xs:List (List Int)} (h:Kd.C (Kd.slice 5 (Kd.int .u8)) w A n xs) (i:Int) (h0:0≤i) (h1:i < n):∃ ad A0 c0,A=some ad∧w.cell? (ad.add i.toNat)=some (.slice A0 (qX xs i).length c0)∧(qX xs i).length≤c0∧(Kd.int .u8).C w A0 (qX xs i).length (qX xs i):=by
  obtain ⟨ad,c,e,_,hK,hc0⟩:=Kd.C_get h ([]:List Int) i h0 h1;have hc:∀ j u,c[j]?=some u→w.cell? (ad.add (i.toNat * 1+j))=some u:=hc0;obtain ⟨A0,c0,rfl,l0,g0⟩:=hK;exact ⟨ad,A0,c0,e,by have hq:=hc 0 _ rfl;rwa [Nat.mul_one,Nat.add_zero] at hq,l0,g0⟩

structure S59 where
  f0:(List (List Int))
def z59:S59:=⟨([]:List (List Int))⟩
def k59:Kd S59:=Kd.iso (Kd.slice 27 (Kd.slice 5 (Kd.int .u8))) (fun x:S59=>x.f0)
theorem k59_open {w:World} {x:S59} {cs:List Value} (h:k59.K w x cs):∃ A0 c0,cs=[.slice A0 x.f0.length c0]∧x.f0.length≤c0∧(Kd.slice 5 (Kd.int .u8)).C w A0 x.f0.length x.f0:=by
  obtain ⟨A0,c0,rfl,l0,g0⟩:=h;exact ⟨A0,c0,rfl,l0,g0⟩
structure ZZ where
  f0:S59
  f1:Int
  f2:Int
  f3:Int
  f4:S59
  f5:(List Int)
  f6:(List Int)
def qk0:ZZ:=⟨z59,(0:Int),(0:Int),(0:Int),z59,([]:List Int),([]:List Int)⟩
def qaI:Kd ZZ:=Kd.iso (Kd.pair k59 (Kd.pair (Kd.int .i64) (Kd.pair (Kd.int .i64) (Kd.pair (Kd.int .i64) (Kd.pair k59 (Kd.pair (Kd.slice 5 (Kd.int .u8)) (Kd.slice 3 (Kd.int .i64)))))))) (fun x:ZZ=>(x.f0,x.f1,x.f2,x.f3,x.f4,x.f5,x.f6))
theorem k114_open {w:World} {x:ZZ} {cs:List Value} (h:qaI.K w x cs):∃ A0 c0 A4 c4 A5 c5 A6 c6,cs=[.slice A0 x.f0.f0.length c0,.int .i64 x.f1,.int .i64 x.f2,.int .i64 x.f3,.slice A4 x.f4.f0.length c4,.slice A5 x.f5.length c5,.slice A6 x.f6.length c6]∧x.f0.f0.length≤c0∧(Kd.slice 5 (Kd.int .u8)).C w A0 x.f0.f0.length x.f0.f0∧x.f4.f0.length≤c4∧(Kd.slice 5 (Kd.int .u8)).C w A4 x.f4.f0.length x.f4.f0∧x.f5.length≤c5∧(Kd.int .u8).C w A5 x.f5.length x.f5∧x.f6.length≤c6∧(Kd.int .i64).C w A6 x.f6.length x.f6:=by
  obtain ⟨_,_,rfl,s0,⟨_,_,rfl,rfl,⟨_,_,rfl,rfl,⟨_,_,rfl,rfl,⟨_,_,rfl,s4,⟨_,_,rfl,⟨A5,c5,rfl,l5,g5⟩,⟨A6,c6,rfl,l6,g6⟩⟩⟩⟩⟩⟩⟩:=h;obtain ⟨A0,c0,rfl,l0,g0⟩:=k59_open s0;obtain ⟨A4,c4,rfl,l4,g4⟩:=k59_open s4;exact ⟨A0,c0,A4,c4,A5,c5,A6,c6,rfl,l0,g0,l4,g4,l5,g5,l6,g6⟩
def jc (xs:List ZZ) (i:Int):ZZ:=xs.getD i.toNat qk0
theorem qnk {w:World} {A:Option Addr} {n:Nat} {xs:List ZZ} (h:Kd.C qaI w A n xs) (i:Int) (h0:0≤i) (h1:i < n):∃ ad A0 c0 A4 c4 A5 c5 A6 c6,A=some ad∧w.cell? (ad.add (i.toNat * 7))=some (.slice A0 (jc xs i).f0.f0.length c0)∧w.cell? ⟨(ad.add (i.toNat * 7)).block,(ad.add (i.toNat * 7)).off+1,none⟩=some (.int .i64 (jc xs i).f1)∧w.cell? ⟨(ad.add (i.toNat * 7)).block,(ad.add (i.toNat * 7)).off+2,none⟩=some (.int .i64 (jc xs i).f2)∧w.cell? ⟨(ad.add (i.toNat * 7)).block,(ad.add (i.toNat * 7)).off+3,none⟩=some (.int .i64 (jc xs i).f3)∧w.cell? ⟨(ad.add (i.toNat * 7)).block,(ad.add (i.toNat * 7)).off+4,none⟩=some (.slice A4 (jc xs i).f4.f0.length c4)∧w.cell? ⟨(ad.add (i.toNat * 7)).block,(ad.add (i.toNat * 7)).off+5,none⟩=some (.slice A5 (jc xs i).f5.length c5)∧w.cell? ⟨(ad.add (i.toNat * 7)).block,(ad.add (i.toNat * 7)).off+6,none⟩=some (.slice A6 (jc xs i).f6.length c6)∧(jc xs i).f0.f0.length≤c0∧(Kd.slice 5 (Kd.int .u8)).C w A0 (jc xs i).f0.f0.length (jc xs i).f0.f0∧(jc xs i).f4.f0.length≤c4∧(Kd.slice 5 (Kd.int .u8)).C w A4 (jc xs i).f4.f0.length (jc xs i).f4.f0∧(jc xs i).f5.length≤c5∧(Kd.int .u8).C w A5 (jc xs i).f5.length (jc xs i).f5∧(jc xs i).f6.length≤c6∧(Kd.int .i64).C w A6 (jc xs i).f6.length (jc xs i).f6:=by
  obtain ⟨ad,c,e,_,hK,hc0⟩:=Kd.C_get h qk0 i h0 h1;have hc:∀ j u,c[j]?=some u→w.cell? (ad.add (i.toNat * 7+j))=some u:=hc0;obtain ⟨A0,c0,A4,c4,A5,c5,A6,c6,rfl,l0,g0,l4,g4,l5,g5,l6,g6⟩:=k114_open hK;exact ⟨ad,A0,c0,A4,c4,A5,c5,A6,c6,e,hc 0 _ rfl,by rw [← add_field _ _ 1 (by omega)];exact hc 1 _ rfl,by rw [← add_field _ _ 2 (by omega)];exact hc 2 _ rfl,by rw [← add_field _ _ 3 (by omega)];exact hc 3 _ rfl,by rw [← add_field _ _ 4 (by omega)];exact hc 4 _ rfl,by rw [← add_field _ _ 5 (by omega)];exact hc 5 _ rfl,by rw [← add_field _ _ 6 (by omega)];exact hc 6 _ rfl,l0,g0,l4,g4,l5,g5,l6,g6⟩

structure Xd where
  f0:ZZ
  f1:Int
  f2:Bool
def qnp:Xd:=⟨qk0,(0:Int),false⟩
def qd6:Kd Xd:=Kd.iso (Kd.pair qaI (Kd.pair (Kd.int .i64) Kd.bool)) (fun x:Xd=>(x.f0,x.f1,x.f2))
theorem k116_open {w:World} {x:Xd} {cs:List Value} (h:qd6.K w x cs):∃ A0 c0 A4 c4 A5 c5 A6 c6,cs=[.slice A0 x.f0.f0.f0.length c0,.int .i64 x.f0.f1,.int .i64 x.f0.f2,.int .i64 x.f0.f3,.slice A4 x.f0.f4.f0.length c4,.slice A5 x.f0.f5.length c5,.slice A6 x.f0.f6.length c6,.int .i64 x.f1,.bool x.f2]∧x.f0.f0.f0.length≤c0∧(Kd.slice 5 (Kd.int .u8)).C w A0 x.f0.f0.f0.length x.f0.f0.f0∧x.f0.f4.f0.length≤c4∧(Kd.slice 5 (Kd.int .u8)).C w A4 x.f0.f4.f0.length x.f0.f4.f0∧x.f0.f5.length≤c5∧(Kd.int .u8).C w A5 x.f0.f5.length x.f0.f5∧x.f0.f6.length≤c6∧(Kd.int .i64).C w A6 x.f0.f6.length x.f0.f6:=by
  obtain ⟨_,_,rfl,s0,⟨_,_,rfl,rfl,rfl⟩⟩:=h;obtain ⟨A0,c0,A4,c4,A5,c5,A6,c6,rfl,l0,g0,l4,g4,l5,g5,l6,g6⟩:=k114_open s0;exact ⟨A0,c0,A4,c4,A5,c5,A6,c6,rfl,l0,g0,l4,g4,l5,g5,l6,g6⟩
def qM (xs:List Xd) (i:Int):Xd:=xs.getD i.toNat qnp
theorem qnj {w:World} {A:Option Addr} {n:Nat} {xs:List Xd} (h:Kd.C qd6 w A n xs) (i:Int) (h0:0≤i) (h1:i < n):∃ ad A0 c0 A4 c4 A5 c5 A6 c6,A=some ad∧w.cell? (ad.add (i.toNat * 9))=some (.slice A0 (qM xs i).f0.f0.f0.length c0)∧w.cell? ⟨(ad.add (i.toNat * 9)).block,(ad.add (i.toNat * 9)).off+1,none⟩=some (.int .i64 (qM xs i).f0.f1)∧w.cell? ⟨(ad.add (i.toNat * 9)).block,(ad.add (i.toNat * 9)).off+2,none⟩=some (.int .i64 (qM xs i).f0.f2)∧w.cell? ⟨(ad.add (i.toNat * 9)).block,(ad.add (i.toNat * 9)).off+3,none⟩=some (.int .i64 (qM xs i).f0.f3)∧w.cell? ⟨(ad.add (i.toNat * 9)).block,(ad.add (i.toNat * 9)).off+4,none⟩=some (.slice A4 (qM xs i).f0.f4.f0.length c4)∧w.cell? ⟨(ad.add (i.toNat * 9)).block,(ad.add (i.toNat * 9)).off+5,none⟩=some (.slice A5 (qM xs i).f0.f5.length c5)∧w.cell? ⟨(ad.add (i.toNat * 9)).block,(ad.add (i.toNat * 9)).off+6,none⟩=some (.slice A6 (qM xs i).f0.f6.length c6)∧w.cell? ⟨(ad.add (i.toNat * 9)).block,(ad.add (i.toNat * 9)).off+7,none⟩=some (.int .i64 (qM xs i).f1)∧w.cell? ⟨(ad.add (i.toNat * 9)).block,(ad.add (i.toNat * 9)).off+8,none⟩=some (.bool (qM xs i).f2)∧(qM xs i).f0.f0.f0.length≤c0∧(Kd.slice 5 (Kd.int .u8)).C w A0 (qM xs i).f0.f0.f0.length (qM xs i).f0.f0.f0∧(qM xs i).f0.f4.f0.length≤c4∧(Kd.slice 5 (Kd.int .u8)).C w A4 (qM xs i).f0.f4.f0.length (qM xs i).f0.f4.f0∧(qM xs i).f0.f5.length≤c5∧(Kd.int .u8).C w A5 (qM xs i).f0.f5.length (qM xs i).f0.f5∧(qM xs i).f0.f6.length≤c6∧(Kd.int .i64).C w A6 (qM xs i).f0.f6.length (qM xs i).f0.f6:=by
  obtain ⟨ad,c,e,_,hK,hc0⟩:=Kd.C_get h qnp i h0 h1;have hc:∀ j u,c[j]?=some u→w.cell? (ad.add (i.toNat * 9+j))=some u:=hc0;obtain ⟨A0,c0,A4,c4,A5,c5,A6,c6,rfl,l0,g0,l4,g4,l5,g5,l6,g6⟩:=k116_open hK;exact ⟨ad,A0,c0,A4,c4,A5,c5,A6,c6,e,hc 0 _ rfl,by rw [← add_field _ _ 1 (by omega)];exact hc 1 _ rfl,by rw [← add_field _ _ 2 (by omega)];exact hc 2 _ rfl,by rw [← add_field _ _ 3 (by omega)];exact hc 3 _ rfl,by rw [← add_field _ _ 4 (by omega)];exact hc 4 _ rfl,by rw [← add_field _ _ 5 (by omega)];exact hc 5 _ rfl,by rw [← add_field _ _ 6 (by omega)];exact hc 6 _ rfl,by rw [← add_field _ _ 7 (by omega)];exact hc 7 _ rfl,by rw [← add_field _ _ 8 (by omega)];exact hc 8 _ rfl,l0,g0,l4,g4,l5,g5,l6,g6⟩

structure S65 where
  f0:(List (List Int))
def z65:S65:=⟨([]:List (List Int))⟩
def k65:Kd S65:=Kd.iso (Kd.slice 27 (Kd.slice 5 (Kd.int .u8))) (fun x:S65=>x.f0)
theorem k65_heap:Kd.Heap k65:=Kd.heap_iso _ (Kd.heap_slice 27 (Kd.heap_slice 5 (Kd.heap_int .u8)))
theorem k65_open {w:World} {x:S65} {cs:List Value} (h:k65.K w x cs):∃ A0 c0,cs=[.slice A0 x.f0.length c0]∧x.f0.length≤c0∧(Kd.slice 5 (Kd.int .u8)).C w A0 x.f0.length x.f0:=by
  obtain ⟨A0,c0,rfl,l0,g0⟩:=h;exact ⟨A0,c0,rfl,l0,g0⟩
theorem k65_openM {w:World} {base:Nat} {ok:Nat→Prop} {x:S65} {cs:List Value} (h:k65.M w base ok x cs):∃ v0,cs=[v0]∧(Kd.slice 5 (Kd.int .u8)).R 27 w base ok v0 x.f0:=by
  obtain ⟨v0,rfl,g0⟩:=h;exact ⟨v0,rfl,g0⟩
theorem k65_mk (w:World) (x:S65) {A0:Option Addr} {c0:Nat} (l0:x.f0.length≤c0) (g0:(Kd.slice 5 (Kd.int .u8)).C w A0 x.f0.length x.f0):k65.K w x [.slice A0 x.f0.length c0]:=⟨A0,c0,rfl,l0,g0⟩
theorem k65_mkM (w:World) (base:Nat) (ok:Nat→Prop) (x:S65) {v0:Value} (g0:(Kd.slice 5 (Kd.int .u8)).R 27 w base ok v0 x.f0):k65.M w base ok x [v0]:=⟨v0,rfl,g0⟩
structure qY where
  f0:S65
  f1:Int
  f2:Int
  f3:Int
  f4:S65
  f5:(List Int)
  f6:(List Int)
def QR:qY:=⟨z65,(0:Int),(0:Int),(0:Int),z65,([]:List Int),([]:List Int)⟩
def jR:Kd qY:=Kd.iso (Kd.pair k65 (Kd.pair (Kd.int .i64) (Kd.pair (Kd.int .i64) (Kd.pair (Kd.int .i64) (Kd.pair k65 (Kd.pair (Kd.slice 5 (Kd.int .u8)) (Kd.slice 3 (Kd.int .i64)))))))) (fun x:qY=>(x.f0,x.f1,x.f2,x.f3,x.f4,x.f5,x.f6))
theorem k105_heap:Kd.Heap jR:=Kd.heap_iso _ (Kd.heap_pair k65_heap (Kd.heap_pair (Kd.heap_int .i64) (Kd.heap_pair (Kd.heap_int .i64) (Kd.heap_pair (Kd.heap_int .i64) (Kd.heap_pair k65_heap (Kd.heap_pair (Kd.heap_slice 5 (Kd.heap_int .u8)) (Kd.heap_slice 3 (Kd.heap_int .i64))))))))
theorem k105_open {w:World} {x:qY} {cs:List Value} (h:jR.K w x cs):∃ A0 c0 A4 c4 A5 c5 A6 c6,cs=[.slice A0 x.f0.f0.length c0,.int .i64 x.f1,.int .i64 x.f2,.int .i64 x.f3,.slice A4 x.f4.f0.length c4,.slice A5 x.f5.length c5,.slice A6 x.f6.length c6]∧x.f0.f0.length≤c0∧(Kd.slice 5 (Kd.int .u8)).C w A0 x.f0.f0.length x.f0.f0∧x.f4.f0.length≤c4∧(Kd.slice 5 (Kd.int .u8)).C w A4 x.f4.f0.length x.f4.f0∧x.f5.length≤c5∧(Kd.int .u8).C w A5 x.f5.length x.f5∧x.f6.length≤c6∧(Kd.int .i64).C w A6 x.f6.length x.f6:=by
  obtain ⟨_,_,rfl,s0,⟨_,_,rfl,rfl,⟨_,_,rfl,rfl,⟨_,_,rfl,rfl,⟨_,_,rfl,s4,⟨_,_,rfl,⟨A5,c5,rfl,l5,g5⟩,⟨A6,c6,rfl,l6,g6⟩⟩⟩⟩⟩⟩⟩:=h;obtain ⟨A0,c0,rfl,l0,g0⟩:=k65_open s0;obtain ⟨A4,c4,rfl,l4,g4⟩:=k65_open s4;exact ⟨A0,c0,A4,c4,A5,c5,A6,c6,rfl,l0,g0,l4,g4,l5,g5,l6,g6⟩
theorem k105_openM {w:World} {base:Nat} {ok:Nat→Prop} {x:qY} {cs:List Value} (h:jR.M w base ok x cs):∃ v0 v4 v5 v6,cs=[v0,.int .i64 x.f1,.int .i64 x.f2,.int .i64 x.f3,v4,v5,v6]∧(Kd.slice 5 (Kd.int .u8)).R 27 w base ok v0 x.f0.f0∧(Kd.slice 5 (Kd.int .u8)).R 27 w base ok v4 x.f4.f0∧(Kd.int .u8).R 5 w base ok v5 x.f5∧(Kd.int .i64).R 3 w base ok v6 x.f6:=by
  obtain ⟨_,_,rfl,s0,⟨_,_,rfl,rfl,⟨_,_,rfl,rfl,⟨_,_,rfl,rfl,⟨_,_,rfl,s4,⟨_,_,rfl,⟨v5,rfl,g5⟩,⟨v6,rfl,g6⟩⟩⟩⟩⟩⟩⟩:=h;obtain ⟨v0,rfl,g0⟩:=k65_openM s0;obtain ⟨v4,rfl,g4⟩:=k65_openM s4;exact ⟨v0,v4,v5,v6,rfl,g0,g4,g5,g6⟩
theorem k105_mk (w:World) (x:qY) {A0:Option Addr} {c0:Nat} (l0:x.f0.f0.length≤c0) (g0:(Kd.slice 5 (Kd.int .u8)).C w A0 x.f0.f0.length x.f0.f0) {A4:Option Addr} {c4:Nat} (l4:x.f4.f0.length≤c4) (g4:(Kd.slice 5 (Kd.int .u8)).C w A4 x.f4.f0.length x.f4.f0) {A5:Option Addr} {c5:Nat} (l5:x.f5.length≤c5) (g5:(Kd.int .u8).C w A5 x.f5.length x.f5) {A6:Option Addr} {c6:Nat} (l6:x.f6.length≤c6) (g6:(Kd.int .i64).C w A6 x.f6.length x.f6):jR.K w x [.slice A0 x.f0.f0.length c0,.int .i64 x.f1,.int .i64 x.f2,.int .i64 x.f3,.slice A4 x.f4.f0.length c4,.slice A5 x.f5.length c5,.slice A6 x.f6.length c6]:=⟨[.slice A0 x.f0.f0.length c0],[.int .i64 x.f1,.int .i64 x.f2,.int .i64 x.f3,.slice A4 x.f4.f0.length c4,.slice A5 x.f5.length c5,.slice A6 x.f6.length c6],rfl,(k65_mk w x.f0 l0 g0),⟨[.int .i64 x.f1],[.int .i64 x.f2,.int .i64 x.f3,.slice A4 x.f4.f0.length c4,.slice A5 x.f5.length c5,.slice A6 x.f6.length c6],rfl,rfl,⟨[.int .i64 x.f2],[.int .i64 x.f3,.slice A4 x.f4.f0.length c4,.slice A5 x.f5.length c5,.slice A6 x.f6.length c6],rfl,rfl,⟨[.int .i64 x.f3],[.slice A4 x.f4.f0.length c4,.slice A5 x.f5.length c5,.slice A6 x.f6.length c6],rfl,rfl,⟨[.slice A4 x.f4.f0.length c4],[.slice A5 x.f5.length c5,.slice A6 x.f6.length c6],rfl,(k65_mk w x.f4 l4 g4),⟨[.slice A5 x.f5.length c5],[.slice A6 x.f6.length c6],rfl,⟨A5,c5,rfl,l5,g5⟩,⟨A6,c6,rfl,l6,g6⟩⟩⟩⟩⟩⟩⟩
theorem k105_mkM (w:World) (base:Nat) (ok:Nat→Prop) (x:qY) {v0:Value} (g0:(Kd.slice 5 (Kd.int .u8)).R 27 w base ok v0 x.f0.f0) {v4:Value} (g4:(Kd.slice 5 (Kd.int .u8)).R 27 w base ok v4 x.f4.f0) {v5:Value} (g5:(Kd.int .u8).R 5 w base ok v5 x.f5) {v6:Value} (g6:(Kd.int .i64).R 3 w base ok v6 x.f6):jR.M w base ok x [v0,.int .i64 x.f1,.int .i64 x.f2,.int .i64 x.f3,v4,v5,v6]:=⟨[v0],[.int .i64 x.f1,.int .i64 x.f2,.int .i64 x.f3,v4,v5,v6],rfl,(k65_mkM w base ok x.f0 g0),⟨[.int .i64 x.f1],[.int .i64 x.f2,.int .i64 x.f3,v4,v5,v6],rfl,rfl,⟨[.int .i64 x.f2],[.int .i64 x.f3,v4,v5,v6],rfl,rfl,⟨[.int .i64 x.f3],[v4,v5,v6],rfl,rfl,⟨[v4],[v5,v6],rfl,(k65_mkM w base ok x.f4 g4),⟨[v5],[v6],rfl,⟨v5,rfl,g5⟩,⟨v6,rfl,g6⟩⟩⟩⟩⟩⟩⟩
theorem k105_openF {W:World} {ok:Nat→Prop} {x:qY} {cs:List Value} (h:Kd.FK jR W ok x cs):∃ A0 c0 A4 c4 A5 c5 A6 c6,cs=[.slice A0 x.f0.f0.length c0,.int .i64 x.f1,.int .i64 x.f2,.int .i64 x.f3,.slice A4 x.f4.f0.length c4,.slice A5 x.f5.length c5,.slice A6 x.f6.length c6]∧x.f0.f0.length≤c0∧Kd.F (Kd.slice 5 (Kd.int .u8)) W ok A0 x.f0.f0.length x.f0.f0∧x.f4.f0.length≤c4∧Kd.F (Kd.slice 5 (Kd.int .u8)) W ok A4 x.f4.f0.length x.f4.f0∧x.f5.length≤c5∧Kd.F (Kd.int .u8) W ok A5 x.f5.length x.f5∧x.f6.length≤c6∧Kd.F (Kd.int .i64) W ok A6 x.f6.length x.f6:=by
  obtain ⟨A0,c0,A4,c4,A5,c5,A6,c6,rfl,l0,_,l4,_,l5,_,l6,_⟩:=k105_open (Kd.FK_now h);exact ⟨A0,c0,A4,c4,A5,c5,A6,c6,rfl,l0,(fun W' hW=>by obtain ⟨A0_,c0_,A4_,c4_,A5_,c5_,A6_,c6_,he,l0_,g0_,l4_,g4_,l5_,g5_,l6_,g6_⟩:=k105_open (h W' hW);injection (Option.some.inj (show some (Value.slice A0 x.f0.f0.length c0)=some (Value.slice A0_ x.f0.f0.length c0_) from congrArg (fun l=>l[0]?) he)) with ha_ _ _;rw [ha_];exact g0_),l4,(fun W' hW=>by obtain ⟨A0_,c0_,A4_,c4_,A5_,c5_,A6_,c6_,he,l0_,g0_,l4_,g4_,l5_,g5_,l6_,g6_⟩:=k105_open (h W' hW);injection (Option.some.inj (show some (Value.slice A4 x.f4.f0.length c4)=some (Value.slice A4_ x.f4.f0.length c4_) from congrArg (fun l=>l[4]?) he)) with ha_ _ _;rw [ha_];exact g4_),l5,(fun W' hW=>by obtain ⟨A0_,c0_,A4_,c4_,A5_,c5_,A6_,c6_,he,l0_,g0_,l4_,g4_,l5_,g5_,l6_,g6_⟩:=k105_open (h W' hW);injection (Option.some.inj (show some (Value.slice A5 x.f5.length c5)=some (Value.slice A5_ x.f5.length c5_) from congrArg (fun l=>l[5]?) he)) with ha_ _ _;rw [ha_];exact g5_),l6,(fun W' hW=>by obtain ⟨A0_,c0_,A4_,c4_,A5_,c5_,A6_,c6_,he,l0_,g0_,l4_,g4_,l5_,g5_,l6_,g6_⟩:=k105_open (h W' hW);injection (Option.some.inj (show some (Value.slice A6 x.f6.length c6)=some (Value.slice A6_ x.f6.length c6_) from congrArg (fun l=>l[6]?) he)) with ha_ _ _;rw [ha_];exact g6_)⟩
theorem k105_mkF (W:World) (ok:Nat→Prop) (x:qY) {A0:Option Addr} {c0:Nat} (l0:x.f0.f0.length≤c0) (g0:Kd.F (Kd.slice 5 (Kd.int .u8)) W ok A0 x.f0.f0.length x.f0.f0) {A4:Option Addr} {c4:Nat} (l4:x.f4.f0.length≤c4) (g4:Kd.F (Kd.slice 5 (Kd.int .u8)) W ok A4 x.f4.f0.length x.f4.f0) {A5:Option Addr} {c5:Nat} (l5:x.f5.length≤c5) (g5:Kd.F (Kd.int .u8) W ok A5 x.f5.length x.f5) {A6:Option Addr} {c6:Nat} (l6:x.f6.length≤c6) (g6:Kd.F (Kd.int .i64) W ok A6 x.f6.length x.f6):Kd.FK jR W ok x [.slice A0 x.f0.f0.length c0,.int .i64 x.f1,.int .i64 x.f2,.int .i64 x.f3,.slice A4 x.f4.f0.length c4,.slice A5 x.f5.length c5,.slice A6 x.f6.length c6]:=fun W2 hW=>k105_mk W2 x l0 (g0 W2 hW) l4 (g4 W2 hW) l5 (g5 W2 hW) l6 (g6 W2 hW)
def qa (xs:List qY) (i:Int):qY:=xs.getD i.toNat QR
theorem Zw {w:World} {A:Option Addr} {n:Nat} {xs:List qY} (h:Kd.C jR w A n xs) (i:Int) (h0:0≤i) (h1:i < n):∃ ad A0 c0 A4 c4 A5 c5 A6 c6,A=some ad∧w.cell? (ad.add (i.toNat * 7))=some (.slice A0 (qa xs i).f0.f0.length c0)∧w.cell? ⟨(ad.add (i.toNat * 7)).block,(ad.add (i.toNat * 7)).off+1,none⟩=some (.int .i64 (qa xs i).f1)∧w.cell? ⟨(ad.add (i.toNat * 7)).block,(ad.add (i.toNat * 7)).off+2,none⟩=some (.int .i64 (qa xs i).f2)∧w.cell? ⟨(ad.add (i.toNat * 7)).block,(ad.add (i.toNat * 7)).off+3,none⟩=some (.int .i64 (qa xs i).f3)∧w.cell? ⟨(ad.add (i.toNat * 7)).block,(ad.add (i.toNat * 7)).off+4,none⟩=some (.slice A4 (qa xs i).f4.f0.length c4)∧w.cell? ⟨(ad.add (i.toNat * 7)).block,(ad.add (i.toNat * 7)).off+5,none⟩=some (.slice A5 (qa xs i).f5.length c5)∧w.cell? ⟨(ad.add (i.toNat * 7)).block,(ad.add (i.toNat * 7)).off+6,none⟩=some (.slice A6 (qa xs i).f6.length c6)∧(qa xs i).f0.f0.length≤c0∧(Kd.slice 5 (Kd.int .u8)).C w A0 (qa xs i).f0.f0.length (qa xs i).f0.f0∧(qa xs i).f4.f0.length≤c4∧(Kd.slice 5 (Kd.int .u8)).C w A4 (qa xs i).f4.f0.length (qa xs i).f4.f0∧(qa xs i).f5.length≤c5∧(Kd.int .u8).C w A5 (qa xs i).f5.length (qa xs i).f5∧(qa xs i).f6.length≤c6∧(Kd.int .i64).C w A6 (qa xs i).f6.length (qa xs i).f6:=by
  obtain ⟨ad,c,e,_,hK,hc0⟩:=Kd.C_get h QR i h0 h1;have hc:∀ j u,c[j]?=some u→w.cell? (ad.add (i.toNat * 7+j))=some u:=hc0;obtain ⟨A0,c0,A4,c4,A5,c5,A6,c6,rfl,l0,g0,l4,g4,l5,g5,l6,g6⟩:=k105_open hK;exact ⟨ad,A0,c0,A4,c4,A5,c5,A6,c6,e,hc 0 _ rfl,by rw [← add_field _ _ 1 (by omega)];exact hc 1 _ rfl,by rw [← add_field _ _ 2 (by omega)];exact hc 2 _ rfl,by rw [← add_field _ _ 3 (by omega)];exact hc 3 _ rfl,by rw [← add_field _ _ 4 (by omega)];exact hc 4 _ rfl,by rw [← add_field _ _ 5 (by omega)];exact hc 5 _ rfl,by rw [← add_field _ _ 6 (by omega)];exact hc 6 _ rfl,l0,g0,l4,g4,l5,g5,l6,g6⟩

structure zm where
  f0:qY
  f1:Int
  f2:Bool
def qaM:zm:=⟨QR,(0:Int),false⟩
def yY:Kd zm:=Kd.iso (Kd.pair jR (Kd.pair (Kd.int .i64) Kd.bool)) (fun x:zm=>(x.f0,x.f1,x.f2))
theorem k107_heap:Kd.Heap yY:=Kd.heap_iso _ (Kd.heap_pair k105_heap (Kd.heap_pair (Kd.heap_int .i64) Kd.heap_bool))
theorem k107_open {w:World} {x:zm} {cs:List Value} (h:yY.K w x cs):∃ A0 c0 A4 c4 A5 c5 A6 c6,cs=[.slice A0 x.f0.f0.f0.length c0,.int .i64 x.f0.f1,.int .i64 x.f0.f2,.int .i64 x.f0.f3,.slice A4 x.f0.f4.f0.length c4,.slice A5 x.f0.f5.length c5,.slice A6 x.f0.f6.length c6,.int .i64 x.f1,.bool x.f2]∧x.f0.f0.f0.length≤c0∧(Kd.slice 5 (Kd.int .u8)).C w A0 x.f0.f0.f0.length x.f0.f0.f0∧x.f0.f4.f0.length≤c4∧(Kd.slice 5 (Kd.int .u8)).C w A4 x.f0.f4.f0.length x.f0.f4.f0∧x.f0.f5.length≤c5∧(Kd.int .u8).C w A5 x.f0.f5.length x.f0.f5∧x.f0.f6.length≤c6∧(Kd.int .i64).C w A6 x.f0.f6.length x.f0.f6:=by
  obtain ⟨_,_,rfl,s0,⟨_,_,rfl,rfl,rfl⟩⟩:=h;obtain ⟨A0,c0,A4,c4,A5,c5,A6,c6,rfl,l0,g0,l4,g4,l5,g5,l6,g6⟩:=k105_open s0;exact ⟨A0,c0,A4,c4,A5,c5,A6,c6,rfl,l0,g0,l4,g4,l5,g5,l6,g6⟩
theorem k107_openM {w:World} {base:Nat} {ok:Nat→Prop} {x:zm} {cs:List Value} (h:yY.M w base ok x cs):∃ v0 v4 v5 v6,cs=[v0,.int .i64 x.f0.f1,.int .i64 x.f0.f2,.int .i64 x.f0.f3,v4,v5,v6,.int .i64 x.f1,.bool x.f2]∧(Kd.slice 5 (Kd.int .u8)).R 27 w base ok v0 x.f0.f0.f0∧(Kd.slice 5 (Kd.int .u8)).R 27 w base ok v4 x.f0.f4.f0∧(Kd.int .u8).R 5 w base ok v5 x.f0.f5∧(Kd.int .i64).R 3 w base ok v6 x.f0.f6:=by
  obtain ⟨_,_,rfl,s0,⟨_,_,rfl,rfl,rfl⟩⟩:=h;obtain ⟨v0,v4,v5,v6,rfl,g0,g4,g5,g6⟩:=k105_openM s0;exact ⟨v0,v4,v5,v6,rfl,g0,g4,g5,g6⟩
theorem k107_mkM (w:World) (base:Nat) (ok:Nat→Prop) (x:zm) {v0:Value} (g0:(Kd.slice 5 (Kd.int .u8)).R 27 w base ok v0 x.f0.f0.f0) {v4:Value} (g4:(Kd.slice 5 (Kd.int .u8)).R 27 w base ok v4 x.f0.f4.f0) {v5:Value} (g5:(Kd.int .u8).R 5 w base ok v5 x.f0.f5) {v6:Value} (g6:(Kd.int .i64).R 3 w base ok v6 x.f0.f6):yY.M w base ok x [v0,.int .i64 x.f0.f1,.int .i64 x.f0.f2,.int .i64 x.f0.f3,v4,v5,v6,.int .i64 x.f1,.bool x.f2]:=⟨[v0,.int .i64 x.f0.f1,.int .i64 x.f0.f2,.int .i64 x.f0.f3,v4,v5,v6],[.int .i64 x.f1,.bool x.f2],rfl,(k105_mkM w base ok x.f0 g0 g4 g5 g6),⟨[.int .i64 x.f1],[.bool x.f2],rfl,rfl,rfl⟩⟩
def qd (xs:List zm) (i:Int):zm:=xs.getD i.toNat qaM
theorem qjM {w:World} {A:Option Addr} {n:Nat} {xs:List zm} (h:Kd.C yY w A n xs) (i:Int) (h0:0≤i) (h1:i < n):∃ ad A0 c0 A4 c4 A5 c5 A6 c6,A=some ad∧w.cell? (ad.add (i.toNat * 9))=some (.slice A0 (qd xs i).f0.f0.f0.length c0)∧w.cell? ⟨(ad.add (i.toNat * 9)).block,(ad.add (i.toNat * 9)).off+1,none⟩=some (.int .i64 (qd xs i).f0.f1)∧w.cell? ⟨(ad.add (i.toNat * 9)).block,(ad.add (i.toNat * 9)).off+2,none⟩=some (.int .i64 (qd xs i).f0.f2)∧w.cell? ⟨(ad.add (i.toNat * 9)).block,(ad.add (i.toNat * 9)).off+3,none⟩=some (.int .i64 (qd xs i).f0.f3)∧w.cell? ⟨(ad.add (i.toNat * 9)).block,(ad.add (i.toNat * 9)).off+4,none⟩=some (.slice A4 (qd xs i).f0.f4.f0.length c4)∧w.cell? ⟨(ad.add (i.toNat * 9)).block,(ad.add (i.toNat * 9)).off+5,none⟩=some (.slice A5 (qd xs i).f0.f5.length c5)∧w.cell? ⟨(ad.add (i.toNat * 9)).block,(ad.add (i.toNat * 9)).off+6,none⟩=some (.slice A6 (qd xs i).f0.f6.length c6)∧w.cell? ⟨(ad.add (i.toNat * 9)).block,(ad.add (i.toNat * 9)).off+7,none⟩=some (.int .i64 (qd xs i).f1)∧w.cell? ⟨(ad.add (i.toNat * 9)).block,(ad.add (i.toNat * 9)).off+8,none⟩=some (.bool (qd xs i).f2)∧(qd xs i).f0.f0.f0.length≤c0∧(Kd.slice 5 (Kd.int .u8)).C w A0 (qd xs i).f0.f0.f0.length (qd xs i).f0.f0.f0∧(qd xs i).f0.f4.f0.length≤c4∧(Kd.slice 5 (Kd.int .u8)).C w A4 (qd xs i).f0.f4.f0.length (qd xs i).f0.f4.f0∧(qd xs i).f0.f5.length≤c5∧(Kd.int .u8).C w A5 (qd xs i).f0.f5.length (qd xs i).f0.f5∧(qd xs i).f0.f6.length≤c6∧(Kd.int .i64).C w A6 (qd xs i).f0.f6.length (qd xs i).f0.f6:=by
  obtain ⟨ad,c,e,_,hK,hc0⟩:=Kd.C_get h qaM i h0 h1;have hc:∀ j u,c[j]?=some u→w.cell? (ad.add (i.toNat * 9+j))=some u:=hc0;obtain ⟨A0,c0,A4,c4,A5,c5,A6,c6,rfl,l0,g0,l4,g4,l5,g5,l6,g6⟩:=k107_open hK;exact ⟨ad,A0,c0,A4,c4,A5,c5,A6,c6,e,hc 0 _ rfl,by rw [← add_field _ _ 1 (by omega)];exact hc 1 _ rfl,by rw [← add_field _ _ 2 (by omega)];exact hc 2 _ rfl,by rw [← add_field _ _ 3 (by omega)];exact hc 3 _ rfl,by rw [← add_field _ _ 4 (by omega)];exact hc 4 _ rfl,by rw [← add_field _ _ 5 (by omega)];exact hc 5 _ rfl,by rw [← add_field _ _ 6 (by omega)];exact hc 6 _ rfl,by rw [← add_field _ _ 7 (by omega)];exact hc 7 _ rfl,by rw [← add_field _ _ 8 (by omega)];exact hc 8 _ rfl,l0,g0,l4,g4,l5,g5,l6,g6⟩

structure S61 where
  f0:S59
  f1:(List ZZ)
def k61:Kd S61:=Kd.iso (Kd.pair k59 (Kd.slice 114 qaI)) (fun x:S61=>(x.f0,x.f1))
theorem k61_open {w:World} {x:S61} {cs:List Value} (h:k61.K w x cs):∃ A0 c0 A1 c1,cs=[.slice A0 x.f0.f0.length c0,.slice A1 x.f1.length c1]∧x.f0.f0.length≤c0∧(Kd.slice 5 (Kd.int .u8)).C w A0 x.f0.f0.length x.f0.f0∧x.f1.length≤c1∧qaI.C w A1 x.f1.length x.f1:=by
  obtain ⟨_,_,rfl,s0,⟨A1,c1,rfl,l1,g1⟩⟩:=h;obtain ⟨A0,c0,rfl,l0,g0⟩:=k59_open s0;exact ⟨A0,c0,A1,c1,rfl,l0,g0,l1,g1⟩
def Gr (A W:World):Prop:=Below A.heap.size A W
instance Gr.refl_ (A:World):Nonempty (Gr A A):=⟨Below.refl _ _⟩
instance Gr.alloc_ (A W:World) (o:Obj) [h:Nonempty (Gr A W)]:Nonempty (Gr A (W.alloc o)):=h.elim fun h=>⟨below_alloc h o⟩
instance Gr.drew_ (A W:World) [h:Nonempty (Gr A W)]:Nonempty (Gr A W.drew):=h.elim fun h=>⟨below_drew h⟩
instance Gr.drewN_ (A W:World) (n:Nat) [h:Nonempty (Gr A W)]:Nonempty (Gr A (W.drewN n)):=h.elim fun h=>⟨pw_below_drewN h n⟩
section
variable {α:Type} {d:Kd α} {e base n:Nat} {ok:Nat→Prop} {w W W':World} {v:Value} {xs:List α} {A:Option Addr}
theorem bw (h:Below w.heap.size w W) [g:Nonempty (Gr W W')]:Below w.heap.size w W':=g.elim fun g=>below_step h g
theorem bk {g:Nat} {o:Obj} (h:W.heap[g]?=some o) [k:Nonempty (Gr W W')]:W'.heap[g]?=some o:=k.elim fun k=>blk_below h k
theorem cw (h:d.C w A n xs) (hb:Below w.heap.size w W) [g:Nonempty (Gr W W')]:d.C W' A n xs:=Kd.C_below h (bw hb)
theorem rw_ (h:d.R e W base ok v xs) [g:Nonempty (Gr W W')]:d.R e W' base ok v xs:=g.elim fun g=>Kd.R_below h g
theorem sw (h:d.S e W base ok v xs) [g:Nonempty (Gr W W')]:d.S e W' base ok v xs:=g.elim fun g=>Kd.S_below h g
end
section
variable {W:World} {g t:Nat} {a b c d e f x y z:Value}
theorem cells1 (h:W.heap[g]?=some (.cells #[a] t (0,0))):W.cell? ⟨g,0,none⟩=some a∧W.frozen? ⟨g,0,none⟩=false:=⟨(blk_cell h 0).trans rfl,blk_frozen h 0⟩
theorem cells2 (h:W.heap[g]?=some (.cells #[a,b] t (0,0))):W.cell? ⟨g,0,none⟩=some a∧W.cell? ⟨g,1,none⟩=some b∧W.frozen? ⟨g,0,none⟩=false∧W.frozen? ⟨g,1,none⟩=false :=
  ⟨(blk_cell h 0).trans rfl,(blk_cell h 1).trans rfl,blk_frozen h 0,blk_frozen h 1⟩
theorem cells7 (h:W.heap[g]?=some (.cells #[a,b,c,d,e,f,x] t (0,0))):W.cell? ⟨g,0,none⟩=some a∧W.cell? ⟨g,1,none⟩=some b∧W.cell? ⟨g,2,none⟩=some c∧W.cell? ⟨g,3,none⟩=some d∧W.cell? ⟨g,4,none⟩=some e∧W.cell? ⟨g,5,none⟩=some f∧W.cell? ⟨g,6,none⟩=some x∧W.frozen? ⟨g,0,none⟩=false∧W.frozen? ⟨g,1,none⟩=false∧W.frozen? ⟨g,2,none⟩=false∧W.frozen? ⟨g,3,none⟩=false∧W.frozen? ⟨g,4,none⟩=false∧W.frozen? ⟨g,5,none⟩=false∧W.frozen? ⟨g,6,none⟩=false :=
  ⟨(blk_cell h 0).trans rfl,(blk_cell h 1).trans rfl,(blk_cell h 2).trans rfl,(blk_cell h 3).trans rfl,(blk_cell h 4).trans rfl,(blk_cell h 5).trans rfl,(blk_cell h 6).trans rfl,blk_frozen h 0,blk_frozen h 1,blk_frozen h 2,blk_frozen h 3,blk_frozen h 4,blk_frozen h 5,blk_frozen h 6⟩
theorem cells9 (h:W.heap[g]?=some (.cells #[a,b,c,d,e,f,x,y,z] t (0,0))):W.cell? ⟨g,0,none⟩=some a∧W.cell? ⟨g,1,none⟩=some b∧W.cell? ⟨g,2,none⟩=some c∧W.cell? ⟨g,3,none⟩=some d∧W.cell? ⟨g,4,none⟩=some e∧W.cell? ⟨g,5,none⟩=some f∧W.cell? ⟨g,6,none⟩=some x∧W.cell? ⟨g,7,none⟩=some y∧W.cell? ⟨g,8,none⟩=some z∧W.frozen? ⟨g,0,none⟩=false∧W.frozen? ⟨g,1,none⟩=false∧W.frozen? ⟨g,2,none⟩=false∧W.frozen? ⟨g,3,none⟩=false∧W.frozen? ⟨g,4,none⟩=false∧W.frozen? ⟨g,5,none⟩=false∧W.frozen? ⟨g,6,none⟩=false∧W.frozen? ⟨g,7,none⟩=false∧W.frozen? ⟨g,8,none⟩=false :=
  ⟨(blk_cell h 0).trans rfl,(blk_cell h 1).trans rfl,(blk_cell h 2).trans rfl,(blk_cell h 3).trans rfl,(blk_cell h 4).trans rfl,(blk_cell h 5).trans rfl,(blk_cell h 6).trans rfl,(blk_cell h 7).trans rfl,(blk_cell h 8).trans rfl,blk_frozen h 0,blk_frozen h 1,blk_frozen h 2,blk_frozen h 3,blk_frozen h 4,blk_frozen h 5,blk_frozen h 6,blk_frozen h 7,blk_frozen h 8⟩
end
section
variable {P:Program} {ops:Array Oper} {rest:List Oper} {o:Oper} {a:Act} {Q:Exit→Act→World→Prop}
theorem boxed {w W0 W:World} {N:Tmp} (_hN:o.dst=some N) (hgd:o.guard=none) {cs:Array Value} {t:TypeId} (hB:Below w.heap.size w W0) [gr:Nonempty (Gr W0 W)]
    (hrun:(execOp a.eval o).run P W=.ok (.value (.pointer (some ⟨W.heap.size,0,none⟩))) (W.alloc (.cells cs t (0,0))))
    (h:∀ g,∀ w1,g=W.heap.size→Aside0 (Below w.heap.size w w1)→Aside0 (w1.heap[g]?=some (.cells cs t (0,0)))→Aside0 (w.heap.size≤g)→Below W.heap.size W w1→wpList P ops Q rest (a.put o.dst (.pointer (some ⟨g,0,none⟩))) w1):wpList P ops Q (o :: rest) a W:=by
  have hB':Below w.heap.size w W:=bw hB;exact box_event hgd _hN hrun (fun g hg w1 hbox hb=>h g w1 hg ⟨below_step hB' hb⟩ ⟨hbox⟩ ⟨by rw [hg];exact hB'.size⟩ hb)
end
section
variable {α:Type} {d:Kd α} {e base g k t:Nat} {ok:Nat→Prop} {W:World} {v:Value} {xs:List α} {cs:Array Value} {l:List Nat}
end
def bA (n m:Nat):Array Bool:=((List.range n).map fun i=>m.testBit i).toArray
section
variable {α:Type} {d:Kd α} {e base g g' t:Nat} {ok:Nat→Prop} {W W1:World} {v:Value} {xs:List α} {cs:Array Value} {fr:Nat × Nat}
theorem qfO {v0:Value} (hn:g≠g') (h:W.heap[g]?=some (.cells cs t (0,0))) [k:Nonempty (Gr W W1)]:(W1.setCell ⟨g',0,none⟩ v0).heap[g]?=some (.cells cs t (0,0)):=(blk_far (bk h) hn _)
theorem qkH {v0 z0:Value} (h:W.heap[g]?=some (.cells #[z0] t (0,0))) [k:Nonempty (Gr W W1)]:(W1.setCell ⟨g,0,none⟩ v0).heap[g]?=some (.cells #[v0] t (0,0)):=(blk_put (cs':=#[v0]) (bk h) 0 v0 rfl)
theorem far2R {v0 v1:Value} (h:Kd.R d e W base ok v xs) [k:Nonempty (Gr W W1)] (hb:W1.heap[g]?=some (.cells cs t (0,0))) (ht:∀ q,q ∈ e :: d.E→q≠t):Kd.R d e ((W1.setCell ⟨g,0,none⟩ v0).setCell ⟨g,1,none⟩ v1) base ok v xs :=
  Kd.R_mono (Kd.R_far (p:=⟨g,1,none⟩) (Kd.R_far (p:=⟨g,0,none⟩) (Kd.R_types (rw_ h) hb ht) (fun _ hk=>hk.2) _) (fun _ hk=>hk.2) _) (fun _ h_=>h_.1)
theorem far2S {v0 v1:Value} (h:Kd.S d e W base ok v xs) [k:Nonempty (Gr W W1)] (hb:W1.heap[g]?=some (.cells cs t (0,0))) (ht:∀ q,q ∈ e :: d.E→q≠t):Kd.S d e ((W1.setCell ⟨g,0,none⟩ v0).setCell ⟨g,1,none⟩ v1) base ok v xs :=
  Kd.S_mono (Kd.S_far (p:=⟨g,1,none⟩) (Kd.S_far (p:=⟨g,0,none⟩) (Kd.S_types (sw h) hb ht) (fun _ hk=>hk.2) _) (fun _ hk=>hk.2) _) (fun _ h_=>h_.1)
theorem qpR {v0 v1:Value} (hn:g≠g') (h:W.heap[g]?=some (.cells cs t (0,0))) [k:Nonempty (Gr W W1)]:((W1.setCell ⟨g',0,none⟩ v0).setCell ⟨g',1,none⟩ v1).heap[g]?=some (.cells cs t (0,0)):=(blk_far (blk_far (bk h) hn _) hn _)
theorem qpQ {v0 v1 z0 z1:Value} (h:W.heap[g]?=some (.cells #[z0,z1] t (0,0))) [k:Nonempty (Gr W W1)]:((W1.setCell ⟨g,0,none⟩ v0).setCell ⟨g,1,none⟩ v1).heap[g]?=some (.cells #[v0,v1] t (0,0)):=(blk_put (cs':=#[v0,v1]) (blk_put (cs':=#[v0,z1]) (bk h) 0 v0 rfl) 1 v1 rfl)
theorem far7N {v0 v1 v2 v3 v4 v5 v6:Value} (h:Kd.N d e W base ok v xs) (hp:∀ k,ok k→k≠g):Kd.N d e (((((((W.setCell ⟨g,0,none⟩ v0).setCell ⟨g,1,none⟩ v1).setCell ⟨g,2,none⟩ v2).setCell ⟨g,3,none⟩ v3).setCell ⟨g,4,none⟩ v4).setCell ⟨g,5,none⟩ v5).setCell ⟨g,6,none⟩ v6) base ok v xs:=(Kd.N_far (p:=⟨g,6,none⟩) (Kd.N_far (p:=⟨g,5,none⟩) (Kd.N_far (p:=⟨g,4,none⟩) (Kd.N_far (p:=⟨g,3,none⟩) (Kd.N_far (p:=⟨g,2,none⟩) (Kd.N_far (p:=⟨g,1,none⟩) (Kd.N_far (p:=⟨g,0,none⟩) h hp _) hp _) hp _) hp _) hp _) hp _) hp _)
theorem far7V {v0 v1 v2 v3 v4 v5 v6:Value} (h:Kd.V d e W base ok v xs) (hp:∀ k,ok k→k≠g):Kd.V d e (((((((W.setCell ⟨g,0,none⟩ v0).setCell ⟨g,1,none⟩ v1).setCell ⟨g,2,none⟩ v2).setCell ⟨g,3,none⟩ v3).setCell ⟨g,4,none⟩ v4).setCell ⟨g,5,none⟩ v5).setCell ⟨g,6,none⟩ v6) base ok v xs:=(Kd.V_far (p:=⟨g,6,none⟩) (Kd.V_far (p:=⟨g,5,none⟩) (Kd.V_far (p:=⟨g,4,none⟩) (Kd.V_far (p:=⟨g,3,none⟩) (Kd.V_far (p:=⟨g,2,none⟩) (Kd.V_far (p:=⟨g,1,none⟩) (Kd.V_far (p:=⟨g,0,none⟩) h hp _) hp _) hp _) hp _) hp _) hp _) hp _)
theorem JE {v0 v1 v2 v3 v4 v5 v6:Value} (hn:g≠g') (h:W.heap[g]?=some (.cells cs t (0,0))) [k:Nonempty (Gr W W1)]:(((((((W1.setCell ⟨g',0,none⟩ v0).setCell ⟨g',1,none⟩ v1).setCell ⟨g',2,none⟩ v2).setCell ⟨g',3,none⟩ v3).setCell ⟨g',4,none⟩ v4).setCell ⟨g',5,none⟩ v5).setCell ⟨g',6,none⟩ v6).heap[g]?=some (.cells cs t (0,0)):=(blk_far (blk_far (blk_far (blk_far (blk_far (blk_far (blk_far (bk h) hn _) hn _) hn _) hn _) hn _) hn _) hn _)
theorem Zu {v0 v1 v2 v3 v4 v5 v6 z0 z1 z2 z3 z4 z5 z6:Value} (h:W.heap[g]?=some (.cells #[z0,z1,z2,z3,z4,z5,z6] t (0,0))) [k:Nonempty (Gr W W1)]:(((((((W1.setCell ⟨g,0,none⟩ v0).setCell ⟨g,1,none⟩ v1).setCell ⟨g,2,none⟩ v2).setCell ⟨g,3,none⟩ v3).setCell ⟨g,4,none⟩ v4).setCell ⟨g,5,none⟩ v5).setCell ⟨g,6,none⟩ v6).heap[g]?=some (.cells #[v0,v1,v2,v3,v4,v5,v6] t (0,0)):=(blk_put (cs':=#[v0,v1,v2,v3,v4,v5,v6]) (blk_put (cs':=#[v0,v1,v2,v3,v4,v5,z6]) (blk_put (cs':=#[v0,v1,v2,v3,v4,z5,z6]) (blk_put (cs':=#[v0,v1,v2,v3,z4,z5,z6]) (blk_put (cs':=#[v0,v1,v2,z3,z4,z5,z6]) (blk_put (cs':=#[v0,v1,z2,z3,z4,z5,z6]) (blk_put (cs':=#[v0,z1,z2,z3,z4,z5,z6]) (bk h) 0 v0 rfl) 1 v1 rfl) 2 v2 rfl) 3 v3 rfl) 4 v4 rfl) 5 v5 rfl) 6 v6 rfl)
theorem qfN {v0 v1 v2 v3 v4 v5 v6 v7 v8:Value} (hn:g≠g') (h:W.heap[g]?=some (.cells cs t (0,0))) [k:Nonempty (Gr W W1)]:(((((((((W1.setCell ⟨g',0,none⟩ v0).setCell ⟨g',1,none⟩ v1).setCell ⟨g',2,none⟩ v2).setCell ⟨g',3,none⟩ v3).setCell ⟨g',4,none⟩ v4).setCell ⟨g',5,none⟩ v5).setCell ⟨g',6,none⟩ v6).setCell ⟨g',7,none⟩ v7).setCell ⟨g',8,none⟩ v8).heap[g]?=some (.cells cs t (0,0)):=(blk_far (blk_far (blk_far (blk_far (blk_far (blk_far (blk_far (blk_far (blk_far (bk h) hn _) hn _) hn _) hn _) hn _) hn _) hn _) hn _) hn _)
theorem qic {v0 v1 v2 v3 v4 v5 v6 v7 v8 z0 z1 z2 z3 z4 z5 z6 z7 z8:Value} (h:W.heap[g]?=some (.cells #[z0,z1,z2,z3,z4,z5,z6,z7,z8] t (0,0))) [k:Nonempty (Gr W W1)]:(((((((((W1.setCell ⟨g,0,none⟩ v0).setCell ⟨g,1,none⟩ v1).setCell ⟨g,2,none⟩ v2).setCell ⟨g,3,none⟩ v3).setCell ⟨g,4,none⟩ v4).setCell ⟨g,5,none⟩ v5).setCell ⟨g,6,none⟩ v6).setCell ⟨g,7,none⟩ v7).setCell ⟨g,8,none⟩ v8).heap[g]?=some (.cells #[v0,v1,v2,v3,v4,v5,v6,v7,v8] t (0,0)):=(blk_put (cs':=#[v0,v1,v2,v3,v4,v5,v6,v7,v8]) (blk_put (cs':=#[v0,v1,v2,v3,v4,v5,v6,v7,z8]) (blk_put (cs':=#[v0,v1,v2,v3,v4,v5,v6,z7,z8]) (blk_put (cs':=#[v0,v1,v2,v3,v4,v5,z6,z7,z8]) (blk_put (cs':=#[v0,v1,v2,v3,v4,z5,z6,z7,z8]) (blk_put (cs':=#[v0,v1,v2,v3,z4,z5,z6,z7,z8]) (blk_put (cs':=#[v0,v1,v2,z3,z4,z5,z6,z7,z8]) (blk_put (cs':=#[v0,v1,z2,z3,z4,z5,z6,z7,z8]) (blk_put (cs':=#[v0,z1,z2,z3,z4,z5,z6,z7,z8]) (bk h) 0 v0 rfl) 1 v1 rfl) 2 v2 rfl) 3 v3 rfl) 4 v4 rfl) 5 v5 rfl) 6 v6 rfl) 7 v7 rfl) 8 v8 rfl)
end

section
variable {α β:Type} {A B r:Option α}
theorem ibT (h:(if true=true then A else B)=r):A=r:=h
theorem ibF (h:(if false=true then A else B)=r):B=r:=h
theorem bnd {o:Option β} {f:β→Option α} {r:α} (h:o.bind f=some r):∃ x,Aside0 (o=some x)∧f x=some r:=(Option.bind_eq_some_iff.mp h).elim fun x h=>⟨x,⟨h.1⟩,h.2⟩
theorem bnS {x:β} {f:β→Option α} (h:(some x).bind f=r):f x=r:=h
theorem ib {t:Bool} (h:(if t=true then A else B)=r):(t=true∧A=r)∨(t=false∧B=r):=by cases t;exact .inr ⟨rfl,h⟩;exact .inl ⟨rfl,h⟩
theorem ibN {t:Bool} {r:α} (h:(if t=true then A else none)=some r):t=true∧A=some r:=by cases t;cases h;exact ⟨rfl,h⟩
section
variable {p:Prop} [Decidable p]
theorem iq (h:(if p then A else B)=r):(p∧A=r)∨(¬ p∧B=r):=by
  by_cases c:p
  · exact .inl ⟨c,by rwa [if_pos c] at h⟩
  · exact .inr ⟨c,by rwa [if_neg c] at h⟩
theorem iqN {r:α} (h:(if p then A else none)=some r):p∧A=some r:=by
  obtain h | h:=iq h
  · exact h
  · cases h.2
theorem ip (h:(if p then A else B)=r):(decide p=true∧A=r)∨(decide p=false∧B=r):=(iq h).imp (fun h=>⟨decide_eq_true h.1,h.2⟩) (fun h=>⟨decide_eq_false h.1,h.2⟩)
theorem ipN {r:α} (h:(if p then A else none)=some r):decide p=true∧A=some r:=⟨decide_eq_true (iqN h).1,(iqN h).2⟩
theorem ipE {r:α} (h:(if p then A else none)=some r):p=True∧decide p=true∧A=some r:=⟨eq_true (iqN h).1,decide_eq_true (iqN h).1,(iqN h).2⟩
end
section
variable {a b:Int}
theorem ig (h:(if a > b then A else B)=r):(decide (b < a)=true∧A=r)∨(decide (b < a)=false∧B=r):=ip h
theorem ih (h:(if a ≥ b then A else B)=r):(decide (b≤a)=true∧A=r)∨(decide (b≤a)=false∧B=r):=ip h
end
section
variable {τ:Type} [BEq τ] [LawfulBEq τ] {a b:τ} [Decidable (a=b)]
theorem ie (h:(if a=b then A else B)=r):((a == b)=true∧(a != b)=false∧A=r)∨((a == b)=false∧(a != b)=true∧B=r):=(iq h).imp (fun h=>⟨beq_iff_eq.mpr h.1,bne_eq_false_iff_eq.mpr h.1,h.2⟩) (fun h=>⟨beq_eq_false_iff_ne.mpr h.1,bne_iff_ne.mpr h.1,h.2⟩)
theorem ieN {r:α} (h:(if a=b then A else none)=some r):(a == b)=true∧(a != b)=false∧A=some r:=⟨beq_iff_eq.mpr (iqN h).1,bne_eq_false_iff_eq.mpr (iqN h).1,(iqN h).2⟩
end
end
theorem lnT {a b:Nat} (h:((a:Int) == (b:Int))=true):(a == b)=true:=by have:=beq_iff_eq.mp h;exact beq_iff_eq.mpr (by omega)
theorem lnF {a b:Nat} (h:((a:Int) == (b:Int))=false):(a == b)=false:=by have:=beq_eq_false_iff_ne.mp h;exact beq_eq_false_iff_ne.mpr (by omega)
section
variable {α:Type} {d:Kd α} {e base n g t:Nat} {ok:Nat→Prop} {w W W' W2:World} {v:Value} {xs:List α} {A:Option Addr} {o:Obj}
theorem ak {p:Prop} (h:p):Aside0 p:=⟨h⟩
theorem cv (h:Aside0 (d.C w A n xs)) (hb:Aside0 (Below w.heap.size w W)) [Nonempty (Gr W W')]:d.C W' A n xs:=cw h.out hb.out
theorem cd (h:Aside0 (d.C w A n xs)) [g:Nonempty (Gr w W')]:d.C W' A n xs:=g.elim fun g=>Kd.C_below h.out g
theorem nw (h:d.N e W base ok v xs) [g:Nonempty (Gr W W')]:d.N e W' base ok v xs:=g.elim fun g=>Kd.N_below h g
theorem vw (h:d.V e W base ok v xs) [g:Nonempty (Gr W W')]:d.V e W' base ok v xs:=g.elim fun g=>Kd.V_below h g
theorem b1 (h:Aside0 (W.heap[g]?=some o)) [Nonempty (Gr W W')] (hb:Below W'.heap.size W' W2):Aside0 (W2.heap[g]?=some o):=⟨blk_below (bk h.out) hb⟩
theorem b2 (h:Aside0 (Below w.heap.size w W)) [Nonempty (Gr W W')] (hb:Below W'.heap.size W' W2):Aside0 (Below w.heap.size w W2):=⟨below_step (bw h.out) hb⟩
theorem b2s (h:Below w.heap.size w W) (hb:Below W.heap.size W W2):Aside0 (Below w.heap.size w W2):=⟨below_step h hb⟩
theorem b3 (hg:g=W'.heap.size) (h:Aside0 (Below w.heap.size w W)) [Nonempty (Gr W W')]:Aside0 (w.heap.size≤g):=⟨by rw [hg];exact below_size (bw h.out)⟩
theorem b3s (hg:g=W.heap.size) (h:Below w.heap.size w W):Aside0 (w.heap.size≤g):=⟨by rw [hg];exact below_size h⟩
theorem b4 {g1:Nat} (hg:g=W'.heap.size) (h:Aside0 (W.heap[g1]?=some o)) [Nonempty (Gr W W')]:Aside0 (g1≠g):=⟨by rw [hg];exact Nat.ne_of_lt (blk_lt (bk h.out))⟩
theorem b5 {g1:Nat} (hg:g=W'.heap.size) (h:Aside0 (W.heap[g1]?=some o)) [Nonempty (Gr W W')]:Aside0 (g≠g1):=⟨by rw [hg];exact Nat.ne_of_gt (blk_lt (bk h.out))⟩
end
theorem bs {p:Prop} (h:p:=by repeat (first | (with_reducible refine below_set ?_ (Aside0.out (by with_reducible assumption))) | exact bw HB.out)):p:=h
theorem o1 {p:Prop} (h:p:=by first | rfl | (simp [errW_none,errW_some] <;> rfl) | (simp [*,errW_none,errW_some] <;> rfl)):p:=h
theorem o2 {p:Prop} (h:p:=by first | rfl | (simp;done) | (simp [*];done)):p:=h
theorem od {p:Prop} (h:p:=by repeat (first | exact Drawn0.refl _ | apply Drawn0.step)):p:=h
theorem kq {p:Prop} (h:p:=by (repeat' apply And.intro) <;> first | (with_reducible assumption) | exact (blk_cell (Aside0.out (by with_reducible assumption)) _).trans rfl | exact pw_cell_below HB.out (by with_reducible assumption)):p:=h
theorem o3 {p:Prop} (h:p:=by first | omega | exact Nat.le_refl _):p:=h
section
variable {P:Program} {ops:Array Oper} {rest:List Oper} {oi:Oper} {a:Act} {Q:Exit→Act→World→Prop}
theorem glG {w:World} (N:Tmp) (hd:oi.dst=some N) {f:FuncId} {fn:Func} {zs:Array Operand} {ts:Array TypeId} (hop:oi.op=.call { callee:=.value (.func f),args:=zs,argTypes:=ts }) (hf:P.funcs[f]?=some fn) {args:Array Value} {R:Ending→World→Prop} (hc:Calls P f args w R)
    (h:∀ e w',R e w'→∃ v,e=.returned v∧wpList P ops Q rest (a.put (some N) v) w') (hg:oi.guard=none:=by rfl)
    (hname : (fn.name == "runtime.NumGoroutine") = false := by kernel_rfl) (hb : fn.body.isSome = true := by rfl)
    (hargs:zs.map a.eval=args:=by (try simp only [List.map_toArray,List.map_cons,List.map_nil]);first | done | rfl | (simp only [List.length_drop,List.length_take];rfl)):wpList P ops Q (oi :: rest) a w :=
  goesL_ (some N) hd hg hf hname hb args hop hargs (hc.mono h)
theorem glD {w:World} (N:Tmp) (hd:oi.dst=some N) {f:FuncId} {fn:Func} {zs:Array Operand} {ts:Array TypeId} (hop:oi.op=.call { callee:=.value (.func f),args:=zs,argTypes:=ts }) (hf:P.funcs[f]?=some fn) {args:Array Value} {v:Value} (hc:Calls P f args w fun e w'=>e=.returned v∧Drawn0 w w')
    (h:∀ nd,wpList P ops Q rest (a.put (some N) v) (w.drewN nd)) (hg:oi.guard=none:=by rfl)
    (hname : (fn.name == "runtime.NumGoroutine") = false := by kernel_rfl) (hb : fn.body.isSome = true := by rfl)
    (hargs:zs.map a.eval=args:=by (try simp only [List.map_toArray,List.map_cons,List.map_nil]);first | done | rfl | (simp only [List.length_drop,List.length_take];rfl)):wpList P ops Q (oi :: rest) a w :=
  goesL_ (some N) hd hg hf hname hb args hop hargs (hc.mono fun e w' h2=>⟨v,h2.1,by obtain ⟨nd,rfl⟩:=h2.2;exact h nd⟩)
theorem glB {w:World} (N:Tmp) (hd:oi.dst=some N) {f:FuncId} {fn:Func} {zs:Array Operand} {ts:Array TypeId} (hop:oi.op=.call { callee:=.value (.func f),args:=zs,argTypes:=ts }) (hf:P.funcs[f]?=some fn) {args:Array Value} {v:Value} (hc:Calls P f args w fun e w'=>e=.returned v∧Below w.heap.size w w')
    (h:∀ w',Below w.heap.size w w'→wpList P ops Q rest (a.put (some N) v) w') (hg:oi.guard=none:=by rfl)
    (hname : (fn.name == "runtime.NumGoroutine") = false := by kernel_rfl) (hb : fn.body.isSome = true := by rfl)
    (hargs:zs.map a.eval=args:=by (try simp only [List.map_toArray,List.map_cons,List.map_nil]);first | done | rfl | (simp only [List.length_drop,List.length_take];rfl)):wpList P ops Q (oi :: rest) a w :=
  goesL_ (some N) hd hg hf hname hb args hop hargs (hc.mono fun e w' h2=>⟨v,h2.1,h w' h2.2⟩)
end
section
variable {P:Program} {ops:Array Oper} {oi:Oper} {Q:Exit→Act→World→Prop} {md:Region.Mode} {S:World→Prop} {ds:List Nat} {T:Bool × List (List Nat × List Nat)} {n m fuel:Nat} {a a':Act} {w:World}
theorem pu (hT:Aside0 (rtab md ops=T)) (i:Nat) {N:Nat} {v:Value} (h:wpAnyLast P md ops Q S ds fuel (bA n (m+2 ^ i)) a' w) (hi:ops[i]?=some oi:=by rfl) (hN:oi.dst=some N:=by rfl)
    (hc:anyT T (bA n m).toList (bA n (m+2 ^ i)).toList i=true:=by kernel_rfl) (hw:Region.wanted oi (yielded ops a.tmps)=true:=by rfl)
    (hy:∀ w,(execOp a.eval oi).run P w=.ok (.value v) w:=by intro w';go_simp;with_reducible rfl) (ha:a.put (some N) v=a':=by go_simp;rfl)
    (hQ:∀ c a w,Q (.panic c) (a.put oi.dst v) w→Q (.panic c) a w:=by exact fun _ _ _ h=>h):wpAnyLast P md ops Q S ds (fuel+1) (bA n m) a w :=
  pure_ (i:=i) _ hi hN (any_of hT.out hc) hQ (.inl ⟨hw,hy⟩) ha h
theorem sk (hT:Aside0 (rtab md ops=T)) (i:Nat) {N:Nat} (h:wpAnyLast P md ops Q S ds fuel (bA n (m+2 ^ i)) a' w) (hi:ops[i]?=some oi:=by rfl) (hN:oi.dst=some N:=by rfl)
    (hc:anyT T (bA n m).toList (bA n (m+2 ^ i)).toList i=true:=by kernel_rfl) (hw:Region.wanted oi (yielded ops a.tmps)=false:=by rfl) (ha:a.put (some N) undef=a':=by go_simp;rfl)
    (hQ:∀ c a w,Q (.panic c) (a.put oi.dst undef) w→Q (.panic c) a w:=by exact fun _ _ _ h=>h):wpAnyLast P md ops Q S ds (fuel+1) (bA n m) a w :=
  pure_ (i:=i) _ hi hN (any_of hT.out hc) hQ (.inr ⟨hw,rfl⟩) ha h
theorem ta {B:List Nat} (hT:Aside0 (rtab md ops=T)) (hB:Aside0 (waitsOk T.2 B=true)) (hS:S w) (i:Nat) {N:Nat} {v:Value} (h:wpAnyLast P md ops Q S ds fuel (bA n (m+2 ^ i)) a' w) (hi:ops[i]?=some oi:=by rfl) (hN:oi.dst=some N:=by rfl)
    (hc:takeW T B ds (bA n m).toList (bA n (m+2 ^ i)).toList i=true:=by kernel_rfl) (hw:Region.wanted oi (yielded ops a.tmps)=true:=by rfl)
    (hy:∀ w,S w→(execOp a.eval oi).run P w=.ok (.value v) w:=by intro w' hS;(repeat (obtain ⟨_,hS⟩:=hS));go_simp;with_reducible rfl) (ha:a.put (some N) v=a':=by go_simp;rfl)
    (hQ:∀ c a w,Q (.panic c) (a.put oi.dst v) w→Q (.panic c) a w:=by exact fun _ _ _ h=>h):wpAnyLast P md ops Q S ds (fuel+1) (bA n m) a w :=
  take_ (i:=i) _ hi hN (take_ofW hT.out hB.out hc) hQ (.inl ⟨hw,hy⟩) hS ha h
theorem on (hT:Aside0 (rtab md ops=T)) (i:Nat) {N:Option Tmp}
    (h:∀ K:Act→World→Prop,Shut (∀ a' w',S w'→(S w'→wpAnyLast P md ops Q S ds fuel (bA n (m+2 ^ i)) a' w')→K a' w')→if Region.wanted oi (yielded ops a.tmps)=true then Oper.wp P oi a w K Q else K (a.put N undef) w)
    (hi:ops[i]?=some oi:=by rfl) (hN:oi.dst=N:=by rfl) (hc:(readyT T.2 (bA n m).toList == [i] && (bA n m).toList.set i true == (bA n (m+2 ^ i)).toList)=true:=by kernel_rfl) (hd:i ∉ ds:=by decide):wpAnyLast P md ops Q S ds (fuel+1) (bA n m) a w :=
  one_ (i:=i) _ hi hN (one_of hT.out hc) hd h
theorem gsG {K:Act→World→Prop} {f:FuncId} {fn:Func} (hf:P.funcs[f]?=some fn) {zs:Array Operand} {ts:Array TypeId} {args:Array Value} {N:Option Tmp} {R:Ending→World→Prop} (hc:Calls P f args w R)
    (h:∀ e w',R e w'→∃ v,e=.returned v∧K (a.put N v) w') (hop:oi.op=.call { callee:=.value (.func f),args:=zs,argTypes:=ts }:=by rfl) (hN:oi.dst=N:=by rfl) (hw:Region.wanted oi (yielded ops a.tmps)=true:=by rfl)
    (hname : (fn.name == "runtime.NumGoroutine") = false := by kernel_rfl) (hb : fn.body.isSome = true := by rfl)
    (hargs:zs.map a.eval=args:=by (try simp only [List.map_toArray,List.map_cons,List.map_nil]);first | done | rfl | (simp only [List.length_drop,List.length_take];rfl)):if Region.wanted oi (yielded ops a.tmps)=true then Oper.wp P oi a w K Q else K (a.put N undef) w :=
  goes_ hf hname hb args hw hN hop hargs (hc.mono h)
theorem gsB {K:Act→World→Prop} {f:FuncId} {fn:Func} (hf:P.funcs[f]?=some fn) {zs:Array Operand} {ts:Array TypeId} {args:Array Value} {N:Option Tmp} {v:Value} (hc:Calls P f args w fun e w'=>e=.returned v∧Below w.heap.size w w')
    (h:∀ w',Below w.heap.size w w'→K (a.put N v) w') (hop:oi.op=.call { callee:=.value (.func f),args:=zs,argTypes:=ts }:=by rfl) (hN:oi.dst=N:=by rfl) (hw:Region.wanted oi (yielded ops a.tmps)=true:=by rfl)
    (hname : (fn.name == "runtime.NumGoroutine") = false := by kernel_rfl) (hb : fn.body.isSome = true := by rfl)
    (hargs:zs.map a.eval=args:=by (try simp only [List.map_toArray,List.map_cons,List.map_nil]);first | done | rfl | (simp only [List.length_drop,List.length_take];rfl)):if Region.wanted oi (yielded ops a.tmps)=true then Oper.wp P oi a w K Q else K (a.put N undef) w :=
  goes_ hf hname hb args hw hN hop hargs (hc.mono fun e w' h2=>⟨v,h2.1,h w' h2.2⟩)
theorem kp {p:Prop} (h:p:=by (have h_:=hHeld);(repeat (obtain ⟨_,h_⟩:=h_));((repeat' apply And.intro) <;> exact pw_cell_below hb (by with_reducible assumption))):p:=h
end
section
variable {P:Program} {ops:Array Oper} {rest:List Oper} {o:Oper} {a:Act} {Q:Exit→Act→World→Prop}
theorem bxe {W:World} {N:Tmp} (hd:o.dst=some N) {cs:Array Value} {t:TypeId}
    (h:∀ g,g=W.heap.size→∀ w1,w1.heap[g]?=some (.cells cs t (0,0))→Below W.heap.size W w1→wpList P ops Q rest (a.put o.dst (.pointer (some ⟨g,0,none⟩))) w1) (hgd:o.guard=none:=by rfl)
    (hrun:(execOp a.eval o).run P W=.ok (.value (.pointer (some ⟨W.heap.size,0,none⟩))) (W.alloc (.cells cs t (0,0))):=by first | (go_simp;done) | (go_simp;rfl)):wpList P ops Q (o :: rest) a W:=box_event hgd hd hrun h
theorem bxd {w W0 W:World} {N:Tmp} (hd:o.dst=some N) {cs:Array Value} {t:TypeId} (hB:Aside0 (Below w.heap.size w W0)) [gr:Nonempty (Gr W0 W)]
    (h:∀ g,∀ w1,g=W.heap.size→Aside0 (Below w.heap.size w w1)→Aside0 (w1.heap[g]?=some (.cells cs t (0,0)))→Aside0 (w.heap.size≤g)→Below W.heap.size W w1→wpList P ops Q rest (a.put o.dst (.pointer (some ⟨g,0,none⟩))) w1) (hgd:o.guard=none:=by rfl)
    (hrun:(execOp a.eval o).run P W=.ok (.value (.pointer (some ⟨W.heap.size,0,none⟩))) (W.alloc (.cells cs t (0,0))):=by first | (go_simp;done) | (go_simp;rfl)):wpList P ops Q (o :: rest) a W:=boxed hd hgd hB.out hrun h
end
theorem el_int {k:IntKind} {xs:List Int} {w W:World} {A:Option Addr} {n:Nat} (h:Aside0 (Kd.C (Kd.int k) w A n xs)) (hb:Aside0 (Below w.heap.size w W)) (i:Int) (h0:decide (0≤i)=true:=by first | (with_reducible assumption) | assumption) (h1:decide (i < n)=true:=by first | (with_reducible assumption) | assumption):∃ ad,A=some ad∧W.cell? (ad.add i.toNat)=some (.int k (rd xs i))∧(0≤i)=True∧(i < n)=True:=by
  obtain ⟨ad,e,x0⟩:=Kd.at_int h.out i (of_decide_eq_true h0) (of_decide_eq_true h1);exact ⟨ad,e,pw_cell_below hb.out x0,eq_true (of_decide_eq_true h0),eq_true (of_decide_eq_true h1)⟩
theorem el0_int {k:IntKind} {xs:List Int} {w:World} {A:Option Addr} {n:Nat} (h:Aside0 (Kd.C (Kd.int k) w A n xs)) (i:Int) (h0:decide (0≤i)=true:=by first | (with_reducible assumption) | assumption) (h1:decide (i < n)=true:=by first | (with_reducible assumption) | assumption):∃ ad,A=some ad∧w.cell? (ad.add i.toNat)=some (.int k (rd xs i))∧(0≤i)=True∧(i < n)=True:=by
  obtain ⟨ad,e,x0⟩:=Kd.at_int h.out i (of_decide_eq_true h0) (of_decide_eq_true h1);exact ⟨ad,e,x0,eq_true (of_decide_eq_true h0),eq_true (of_decide_eq_true h1)⟩
theorem el20_int {k:IntKind} {xs:List Int} {w:World} {ad:Addr} {n:Nat} (h:Aside0 (Kd.C (Kd.int k) w (some ad) n xs)) (i:Int) (h0:decide (0≤i)=true:=by first | (with_reducible assumption) | assumption) (h1:decide (i < n)=true:=by first | (with_reducible assumption) | assumption):w.cell? (ad.add i.toNat)=some (.int k (rd xs i))∧(0≤i)=True∧(i < n)=True:=by
  obtain ⟨ad',e,x0⟩:=Kd.at_int h.out i (of_decide_eq_true h0) (of_decide_eq_true h1);obtain rfl:=Option.some.inj e;exact ⟨x0,eq_true (of_decide_eq_true h0),eq_true (of_decide_eq_true h1)⟩
theorem el_L10 {xs:List (List Int)} {w W:World} {A:Option Addr} {n:Nat} (h:Aside0 (Kd.C (Kd.slice 5 (Kd.int .u8)) w A n xs)) (hb:Aside0 (Below w.heap.size w W)) (i:Int) (h0:decide (0≤i)=true:=by first | (with_reducible assumption) | assumption) (h1:decide (i < n)=true:=by first | (with_reducible assumption) | assumption):∃ ad A0 c0,A=some ad∧W.cell? (ad.add i.toNat)=some (.slice A0 (qX xs i).length c0)∧Aside0 ((qX xs i).length≤c0)∧Aside0 ((Kd.int .u8).C w A0 (qX xs i).length (qX xs i))∧(0≤i)=True∧(i < n)=True:=by
  obtain ⟨ad,A0,c0,e,x0,y0,y1⟩:=qcQ h.out i (of_decide_eq_true h0) (of_decide_eq_true h1);exact ⟨ad,A0,c0,e,pw_cell_below hb.out x0,⟨y0⟩,⟨y1⟩,eq_true (of_decide_eq_true h0),eq_true (of_decide_eq_true h1)⟩
theorem el0_L10 {xs:List (List Int)} {w:World} {A:Option Addr} {n:Nat} (h:Aside0 (Kd.C (Kd.slice 5 (Kd.int .u8)) w A n xs)) (i:Int) (h0:decide (0≤i)=true:=by first | (with_reducible assumption) | assumption) (h1:decide (i < n)=true:=by first | (with_reducible assumption) | assumption):∃ ad A0 c0,A=some ad∧w.cell? (ad.add i.toNat)=some (.slice A0 (qX xs i).length c0)∧Aside0 ((qX xs i).length≤c0)∧Aside0 ((Kd.int .u8).C w A0 (qX xs i).length (qX xs i))∧(0≤i)=True∧(i < n)=True:=by
  obtain ⟨ad,A0,c0,e,x0,y0,y1⟩:=qcQ h.out i (of_decide_eq_true h0) (of_decide_eq_true h1);exact ⟨ad,A0,c0,e,x0,⟨y0⟩,⟨y1⟩,eq_true (of_decide_eq_true h0),eq_true (of_decide_eq_true h1)⟩
theorem el_T114 {xs:List ZZ} {w W:World} {A:Option Addr} {n:Nat} (h:Aside0 (Kd.C qaI w A n xs)) (hb:Aside0 (Below w.heap.size w W)) (i:Int) (h0:decide (0≤i)=true:=by first | (with_reducible assumption) | assumption) (h1:decide (i < n)=true:=by first | (with_reducible assumption) | assumption):∃ ad A0 c0 A4 c4 A5 c5 A6 c6,A=some ad∧W.cell? (ad.add (i.toNat * 7))=some (.slice A0 (jc xs i).f0.f0.length c0)∧W.cell? ⟨(ad.add (i.toNat * 7)).block,(ad.add (i.toNat * 7)).off+1,none⟩=some (.int .i64 (jc xs i).f1)∧W.cell? ⟨(ad.add (i.toNat * 7)).block,(ad.add (i.toNat * 7)).off+2,none⟩=some (.int .i64 (jc xs i).f2)∧W.cell? ⟨(ad.add (i.toNat * 7)).block,(ad.add (i.toNat * 7)).off+3,none⟩=some (.int .i64 (jc xs i).f3)∧W.cell? ⟨(ad.add (i.toNat * 7)).block,(ad.add (i.toNat * 7)).off+4,none⟩=some (.slice A4 (jc xs i).f4.f0.length c4)∧W.cell? ⟨(ad.add (i.toNat * 7)).block,(ad.add (i.toNat * 7)).off+5,none⟩=some (.slice A5 (jc xs i).f5.length c5)∧W.cell? ⟨(ad.add (i.toNat * 7)).block,(ad.add (i.toNat * 7)).off+6,none⟩=some (.slice A6 (jc xs i).f6.length c6)∧Aside0 ((jc xs i).f0.f0.length≤c0)∧Aside0 ((Kd.slice 5 (Kd.int .u8)).C w A0 (jc xs i).f0.f0.length (jc xs i).f0.f0)∧Aside0 ((jc xs i).f4.f0.length≤c4)∧Aside0 ((Kd.slice 5 (Kd.int .u8)).C w A4 (jc xs i).f4.f0.length (jc xs i).f4.f0)∧Aside0 ((jc xs i).f5.length≤c5)∧Aside0 ((Kd.int .u8).C w A5 (jc xs i).f5.length (jc xs i).f5)∧Aside0 ((jc xs i).f6.length≤c6)∧Aside0 ((Kd.int .i64).C w A6 (jc xs i).f6.length (jc xs i).f6)∧(0≤i)=True∧(i < n)=True:=by
  obtain ⟨ad,A0,c0,A4,c4,A5,c5,A6,c6,e,x0,x1,x2,x3,x4,x5,x6,y0,y1,y2,y3,y4,y5,y6,y7⟩:=qnk h.out i (of_decide_eq_true h0) (of_decide_eq_true h1);exact ⟨ad,A0,c0,A4,c4,A5,c5,A6,c6,e,pw_cell_below hb.out x0,pw_cell_below hb.out x1,pw_cell_below hb.out x2,pw_cell_below hb.out x3,pw_cell_below hb.out x4,pw_cell_below hb.out x5,pw_cell_below hb.out x6,⟨y0⟩,⟨y1⟩,⟨y2⟩,⟨y3⟩,⟨y4⟩,⟨y5⟩,⟨y6⟩,⟨y7⟩,eq_true (of_decide_eq_true h0),eq_true (of_decide_eq_true h1)⟩
theorem el_T116 {xs:List Xd} {w W:World} {A:Option Addr} {n:Nat} (h:Aside0 (Kd.C qd6 w A n xs)) (hb:Aside0 (Below w.heap.size w W)) (i:Int) (h0:decide (0≤i)=true:=by first | (with_reducible assumption) | assumption) (h1:decide (i < n)=true:=by first | (with_reducible assumption) | assumption):∃ ad A0 c0 A4 c4 A5 c5 A6 c6,A=some ad∧W.cell? (ad.add (i.toNat * 9))=some (.slice A0 (qM xs i).f0.f0.f0.length c0)∧W.cell? ⟨(ad.add (i.toNat * 9)).block,(ad.add (i.toNat * 9)).off+1,none⟩=some (.int .i64 (qM xs i).f0.f1)∧W.cell? ⟨(ad.add (i.toNat * 9)).block,(ad.add (i.toNat * 9)).off+2,none⟩=some (.int .i64 (qM xs i).f0.f2)∧W.cell? ⟨(ad.add (i.toNat * 9)).block,(ad.add (i.toNat * 9)).off+3,none⟩=some (.int .i64 (qM xs i).f0.f3)∧W.cell? ⟨(ad.add (i.toNat * 9)).block,(ad.add (i.toNat * 9)).off+4,none⟩=some (.slice A4 (qM xs i).f0.f4.f0.length c4)∧W.cell? ⟨(ad.add (i.toNat * 9)).block,(ad.add (i.toNat * 9)).off+5,none⟩=some (.slice A5 (qM xs i).f0.f5.length c5)∧W.cell? ⟨(ad.add (i.toNat * 9)).block,(ad.add (i.toNat * 9)).off+6,none⟩=some (.slice A6 (qM xs i).f0.f6.length c6)∧W.cell? ⟨(ad.add (i.toNat * 9)).block,(ad.add (i.toNat * 9)).off+7,none⟩=some (.int .i64 (qM xs i).f1)∧W.cell? ⟨(ad.add (i.toNat * 9)).block,(ad.add (i.toNat * 9)).off+8,none⟩=some (.bool (qM xs i).f2)∧Aside0 ((qM xs i).f0.f0.f0.length≤c0)∧Aside0 ((Kd.slice 5 (Kd.int .u8)).C w A0 (qM xs i).f0.f0.f0.length (qM xs i).f0.f0.f0)∧Aside0 ((qM xs i).f0.f4.f0.length≤c4)∧Aside0 ((Kd.slice 5 (Kd.int .u8)).C w A4 (qM xs i).f0.f4.f0.length (qM xs i).f0.f4.f0)∧Aside0 ((qM xs i).f0.f5.length≤c5)∧Aside0 ((Kd.int .u8).C w A5 (qM xs i).f0.f5.length (qM xs i).f0.f5)∧Aside0 ((qM xs i).f0.f6.length≤c6)∧Aside0 ((Kd.int .i64).C w A6 (qM xs i).f0.f6.length (qM xs i).f0.f6)∧(0≤i)=True∧(i < n)=True:=by
  obtain ⟨ad,A0,c0,A4,c4,A5,c5,A6,c6,e,x0,x1,x2,x3,x4,x5,x6,x7,x8,y0,y1,y2,y3,y4,y5,y6,y7⟩:=qnj h.out i (of_decide_eq_true h0) (of_decide_eq_true h1);exact ⟨ad,A0,c0,A4,c4,A5,c5,A6,c6,e,pw_cell_below hb.out x0,pw_cell_below hb.out x1,pw_cell_below hb.out x2,pw_cell_below hb.out x3,pw_cell_below hb.out x4,pw_cell_below hb.out x5,pw_cell_below hb.out x6,pw_cell_below hb.out x7,pw_cell_below hb.out x8,⟨y0⟩,⟨y1⟩,⟨y2⟩,⟨y3⟩,⟨y4⟩,⟨y5⟩,⟨y6⟩,⟨y7⟩,eq_true (of_decide_eq_true h0),eq_true (of_decide_eq_true h1)⟩
theorem el_T105 {xs:List qY} {w W:World} {A:Option Addr} {n:Nat} (h:Aside0 (Kd.C jR w A n xs)) (hb:Aside0 (Below w.heap.size w W)) (i:Int) (h0:decide (0≤i)=true:=by first | (with_reducible assumption) | assumption) (h1:decide (i < n)=true:=by first | (with_reducible assumption) | assumption):∃ ad A0 c0 A4 c4 A5 c5 A6 c6,A=some ad∧W.cell? (ad.add (i.toNat * 7))=some (.slice A0 (qa xs i).f0.f0.length c0)∧W.cell? ⟨(ad.add (i.toNat * 7)).block,(ad.add (i.toNat * 7)).off+1,none⟩=some (.int .i64 (qa xs i).f1)∧W.cell? ⟨(ad.add (i.toNat * 7)).block,(ad.add (i.toNat * 7)).off+2,none⟩=some (.int .i64 (qa xs i).f2)∧W.cell? ⟨(ad.add (i.toNat * 7)).block,(ad.add (i.toNat * 7)).off+3,none⟩=some (.int .i64 (qa xs i).f3)∧W.cell? ⟨(ad.add (i.toNat * 7)).block,(ad.add (i.toNat * 7)).off+4,none⟩=some (.slice A4 (qa xs i).f4.f0.length c4)∧W.cell? ⟨(ad.add (i.toNat * 7)).block,(ad.add (i.toNat * 7)).off+5,none⟩=some (.slice A5 (qa xs i).f5.length c5)∧W.cell? ⟨(ad.add (i.toNat * 7)).block,(ad.add (i.toNat * 7)).off+6,none⟩=some (.slice A6 (qa xs i).f6.length c6)∧Aside0 ((qa xs i).f0.f0.length≤c0)∧Aside0 ((Kd.slice 5 (Kd.int .u8)).C w A0 (qa xs i).f0.f0.length (qa xs i).f0.f0)∧Aside0 ((qa xs i).f4.f0.length≤c4)∧Aside0 ((Kd.slice 5 (Kd.int .u8)).C w A4 (qa xs i).f4.f0.length (qa xs i).f4.f0)∧Aside0 ((qa xs i).f5.length≤c5)∧Aside0 ((Kd.int .u8).C w A5 (qa xs i).f5.length (qa xs i).f5)∧Aside0 ((qa xs i).f6.length≤c6)∧Aside0 ((Kd.int .i64).C w A6 (qa xs i).f6.length (qa xs i).f6)∧(0≤i)=True∧(i < n)=True:=by
  obtain ⟨ad,A0,c0,A4,c4,A5,c5,A6,c6,e,x0,x1,x2,x3,x4,x5,x6,y0,y1,y2,y3,y4,y5,y6,y7⟩:=Zw h.out i (of_decide_eq_true h0) (of_decide_eq_true h1);exact ⟨ad,A0,c0,A4,c4,A5,c5,A6,c6,e,pw_cell_below hb.out x0,pw_cell_below hb.out x1,pw_cell_below hb.out x2,pw_cell_below hb.out x3,pw_cell_below hb.out x4,pw_cell_below hb.out x5,pw_cell_below hb.out x6,⟨y0⟩,⟨y1⟩,⟨y2⟩,⟨y3⟩,⟨y4⟩,⟨y5⟩,⟨y6⟩,⟨y7⟩,eq_true (of_decide_eq_true h0),eq_true (of_decide_eq_true h1)⟩
theorem elw_T105 {xs:List qY} {w W:World} {A:Option Addr} {n:Nat} (h:Aside0 (Kd.C jR w A n xs)) (hb:Aside0 (Below w.heap.size w W)) (i:Int) (h0:decide (0≤i)=true:=by first | (with_reducible assumption) | assumption) (h1:decide (i < n)=true:=by first | (with_reducible assumption) | assumption):∃ ad A0 c0 A4 c4 A5 c5 A6 c6,A=some ad∧w.cell? (ad.add (i.toNat * 7))=some (.slice A0 (qa xs i).f0.f0.length c0)∧w.cell? ⟨(ad.add (i.toNat * 7)).block,(ad.add (i.toNat * 7)).off+1,none⟩=some (.int .i64 (qa xs i).f1)∧w.cell? ⟨(ad.add (i.toNat * 7)).block,(ad.add (i.toNat * 7)).off+2,none⟩=some (.int .i64 (qa xs i).f2)∧w.cell? ⟨(ad.add (i.toNat * 7)).block,(ad.add (i.toNat * 7)).off+3,none⟩=some (.int .i64 (qa xs i).f3)∧w.cell? ⟨(ad.add (i.toNat * 7)).block,(ad.add (i.toNat * 7)).off+4,none⟩=some (.slice A4 (qa xs i).f4.f0.length c4)∧w.cell? ⟨(ad.add (i.toNat * 7)).block,(ad.add (i.toNat * 7)).off+5,none⟩=some (.slice A5 (qa xs i).f5.length c5)∧w.cell? ⟨(ad.add (i.toNat * 7)).block,(ad.add (i.toNat * 7)).off+6,none⟩=some (.slice A6 (qa xs i).f6.length c6)∧W.cell? (ad.add (i.toNat * 7))=some (.slice A0 (qa xs i).f0.f0.length c0)∧W.cell? ⟨(ad.add (i.toNat * 7)).block,(ad.add (i.toNat * 7)).off+1,none⟩=some (.int .i64 (qa xs i).f1)∧W.cell? ⟨(ad.add (i.toNat * 7)).block,(ad.add (i.toNat * 7)).off+2,none⟩=some (.int .i64 (qa xs i).f2)∧W.cell? ⟨(ad.add (i.toNat * 7)).block,(ad.add (i.toNat * 7)).off+3,none⟩=some (.int .i64 (qa xs i).f3)∧W.cell? ⟨(ad.add (i.toNat * 7)).block,(ad.add (i.toNat * 7)).off+4,none⟩=some (.slice A4 (qa xs i).f4.f0.length c4)∧W.cell? ⟨(ad.add (i.toNat * 7)).block,(ad.add (i.toNat * 7)).off+5,none⟩=some (.slice A5 (qa xs i).f5.length c5)∧W.cell? ⟨(ad.add (i.toNat * 7)).block,(ad.add (i.toNat * 7)).off+6,none⟩=some (.slice A6 (qa xs i).f6.length c6)∧Aside0 ((qa xs i).f0.f0.length≤c0)∧Aside0 ((Kd.slice 5 (Kd.int .u8)).C w A0 (qa xs i).f0.f0.length (qa xs i).f0.f0)∧Aside0 ((qa xs i).f4.f0.length≤c4)∧Aside0 ((Kd.slice 5 (Kd.int .u8)).C w A4 (qa xs i).f4.f0.length (qa xs i).f4.f0)∧Aside0 ((qa xs i).f5.length≤c5)∧Aside0 ((Kd.int .u8).C w A5 (qa xs i).f5.length (qa xs i).f5)∧Aside0 ((qa xs i).f6.length≤c6)∧Aside0 ((Kd.int .i64).C w A6 (qa xs i).f6.length (qa xs i).f6)∧(0≤i)=True∧(i < n)=True:=by
  obtain ⟨ad,A0,c0,A4,c4,A5,c5,A6,c6,e,x0,x1,x2,x3,x4,x5,x6,y0,y1,y2,y3,y4,y5,y6,y7⟩:=Zw h.out i (of_decide_eq_true h0) (of_decide_eq_true h1);exact ⟨ad,A0,c0,A4,c4,A5,c5,A6,c6,e,x0,x1,x2,x3,x4,x5,x6,pw_cell_below hb.out x0,pw_cell_below hb.out x1,pw_cell_below hb.out x2,pw_cell_below hb.out x3,pw_cell_below hb.out x4,pw_cell_below hb.out x5,pw_cell_below hb.out x6,⟨y0⟩,⟨y1⟩,⟨y2⟩,⟨y3⟩,⟨y4⟩,⟨y5⟩,⟨y6⟩,⟨y7⟩,eq_true (of_decide_eq_true h0),eq_true (of_decide_eq_true h1)⟩
theorem el0_T105 {xs:List qY} {w:World} {A:Option Addr} {n:Nat} (h:Aside0 (Kd.C jR w A n xs)) (i:Int) (h0:decide (0≤i)=true:=by first | (with_reducible assumption) | assumption) (h1:decide (i < n)=true:=by first | (with_reducible assumption) | assumption):∃ ad A0 c0 A4 c4 A5 c5 A6 c6,A=some ad∧w.cell? (ad.add (i.toNat * 7))=some (.slice A0 (qa xs i).f0.f0.length c0)∧w.cell? ⟨(ad.add (i.toNat * 7)).block,(ad.add (i.toNat * 7)).off+1,none⟩=some (.int .i64 (qa xs i).f1)∧w.cell? ⟨(ad.add (i.toNat * 7)).block,(ad.add (i.toNat * 7)).off+2,none⟩=some (.int .i64 (qa xs i).f2)∧w.cell? ⟨(ad.add (i.toNat * 7)).block,(ad.add (i.toNat * 7)).off+3,none⟩=some (.int .i64 (qa xs i).f3)∧w.cell? ⟨(ad.add (i.toNat * 7)).block,(ad.add (i.toNat * 7)).off+4,none⟩=some (.slice A4 (qa xs i).f4.f0.length c4)∧w.cell? ⟨(ad.add (i.toNat * 7)).block,(ad.add (i.toNat * 7)).off+5,none⟩=some (.slice A5 (qa xs i).f5.length c5)∧w.cell? ⟨(ad.add (i.toNat * 7)).block,(ad.add (i.toNat * 7)).off+6,none⟩=some (.slice A6 (qa xs i).f6.length c6)∧Aside0 ((qa xs i).f0.f0.length≤c0)∧Aside0 ((Kd.slice 5 (Kd.int .u8)).C w A0 (qa xs i).f0.f0.length (qa xs i).f0.f0)∧Aside0 ((qa xs i).f4.f0.length≤c4)∧Aside0 ((Kd.slice 5 (Kd.int .u8)).C w A4 (qa xs i).f4.f0.length (qa xs i).f4.f0)∧Aside0 ((qa xs i).f5.length≤c5)∧Aside0 ((Kd.int .u8).C w A5 (qa xs i).f5.length (qa xs i).f5)∧Aside0 ((qa xs i).f6.length≤c6)∧Aside0 ((Kd.int .i64).C w A6 (qa xs i).f6.length (qa xs i).f6)∧(0≤i)=True∧(i < n)=True:=by
  obtain ⟨ad,A0,c0,A4,c4,A5,c5,A6,c6,e,x0,x1,x2,x3,x4,x5,x6,y0,y1,y2,y3,y4,y5,y6,y7⟩:=Zw h.out i (of_decide_eq_true h0) (of_decide_eq_true h1);exact ⟨ad,A0,c0,A4,c4,A5,c5,A6,c6,e,x0,x1,x2,x3,x4,x5,x6,⟨y0⟩,⟨y1⟩,⟨y2⟩,⟨y3⟩,⟨y4⟩,⟨y5⟩,⟨y6⟩,⟨y7⟩,eq_true (of_decide_eq_true h0),eq_true (of_decide_eq_true h1)⟩
theorem el2w_T105 {xs:List qY} {w W:World} {ad:Addr} {n:Nat} (h:Aside0 (Kd.C jR w (some ad) n xs)) (hb:Aside0 (Below w.heap.size w W)) (i:Int) (h0:decide (0≤i)=true:=by first | (with_reducible assumption) | assumption) (h1:decide (i < n)=true:=by first | (with_reducible assumption) | assumption):∃ A0 c0 A4 c4 A5 c5 A6 c6,w.cell? (ad.add (i.toNat * 7))=some (.slice A0 (qa xs i).f0.f0.length c0)∧w.cell? ⟨(ad.add (i.toNat * 7)).block,(ad.add (i.toNat * 7)).off+1,none⟩=some (.int .i64 (qa xs i).f1)∧w.cell? ⟨(ad.add (i.toNat * 7)).block,(ad.add (i.toNat * 7)).off+2,none⟩=some (.int .i64 (qa xs i).f2)∧w.cell? ⟨(ad.add (i.toNat * 7)).block,(ad.add (i.toNat * 7)).off+3,none⟩=some (.int .i64 (qa xs i).f3)∧w.cell? ⟨(ad.add (i.toNat * 7)).block,(ad.add (i.toNat * 7)).off+4,none⟩=some (.slice A4 (qa xs i).f4.f0.length c4)∧w.cell? ⟨(ad.add (i.toNat * 7)).block,(ad.add (i.toNat * 7)).off+5,none⟩=some (.slice A5 (qa xs i).f5.length c5)∧w.cell? ⟨(ad.add (i.toNat * 7)).block,(ad.add (i.toNat * 7)).off+6,none⟩=some (.slice A6 (qa xs i).f6.length c6)∧W.cell? (ad.add (i.toNat * 7))=some (.slice A0 (qa xs i).f0.f0.length c0)∧W.cell? ⟨(ad.add (i.toNat * 7)).block,(ad.add (i.toNat * 7)).off+1,none⟩=some (.int .i64 (qa xs i).f1)∧W.cell? ⟨(ad.add (i.toNat * 7)).block,(ad.add (i.toNat * 7)).off+2,none⟩=some (.int .i64 (qa xs i).f2)∧W.cell? ⟨(ad.add (i.toNat * 7)).block,(ad.add (i.toNat * 7)).off+3,none⟩=some (.int .i64 (qa xs i).f3)∧W.cell? ⟨(ad.add (i.toNat * 7)).block,(ad.add (i.toNat * 7)).off+4,none⟩=some (.slice A4 (qa xs i).f4.f0.length c4)∧W.cell? ⟨(ad.add (i.toNat * 7)).block,(ad.add (i.toNat * 7)).off+5,none⟩=some (.slice A5 (qa xs i).f5.length c5)∧W.cell? ⟨(ad.add (i.toNat * 7)).block,(ad.add (i.toNat * 7)).off+6,none⟩=some (.slice A6 (qa xs i).f6.length c6)∧Aside0 ((qa xs i).f0.f0.length≤c0)∧Aside0 ((Kd.slice 5 (Kd.int .u8)).C w A0 (qa xs i).f0.f0.length (qa xs i).f0.f0)∧Aside0 ((qa xs i).f4.f0.length≤c4)∧Aside0 ((Kd.slice 5 (Kd.int .u8)).C w A4 (qa xs i).f4.f0.length (qa xs i).f4.f0)∧Aside0 ((qa xs i).f5.length≤c5)∧Aside0 ((Kd.int .u8).C w A5 (qa xs i).f5.length (qa xs i).f5)∧Aside0 ((qa xs i).f6.length≤c6)∧Aside0 ((Kd.int .i64).C w A6 (qa xs i).f6.length (qa xs i).f6)∧(0≤i)=True∧(i < n)=True:=by
  obtain ⟨_,A0,c0,A4,c4,A5,c5,A6,c6,e,x0,x1,x2,x3,x4,x5,x6,y0,y1,y2,y3,y4,y5,y6,y7⟩:=Zw h.out i (of_decide_eq_true h0) (of_decide_eq_true h1);obtain rfl:=Option.some.inj e;exact ⟨A0,c0,A4,c4,A5,c5,A6,c6,x0,x1,x2,x3,x4,x5,x6,pw_cell_below hb.out x0,pw_cell_below hb.out x1,pw_cell_below hb.out x2,pw_cell_below hb.out x3,pw_cell_below hb.out x4,pw_cell_below hb.out x5,pw_cell_below hb.out x6,⟨y0⟩,⟨y1⟩,⟨y2⟩,⟨y3⟩,⟨y4⟩,⟨y5⟩,⟨y6⟩,⟨y7⟩,eq_true (of_decide_eq_true h0),eq_true (of_decide_eq_true h1)⟩
theorem el_T107 {xs:List zm} {w W:World} {A:Option Addr} {n:Nat} (h:Aside0 (Kd.C yY w A n xs)) (hb:Aside0 (Below w.heap.size w W)) (i:Int) (h0:decide (0≤i)=true:=by first | (with_reducible assumption) | assumption) (h1:decide (i < n)=true:=by first | (with_reducible assumption) | assumption):∃ ad A0 c0 A4 c4 A5 c5 A6 c6,A=some ad∧W.cell? (ad.add (i.toNat * 9))=some (.slice A0 (qd xs i).f0.f0.f0.length c0)∧W.cell? ⟨(ad.add (i.toNat * 9)).block,(ad.add (i.toNat * 9)).off+1,none⟩=some (.int .i64 (qd xs i).f0.f1)∧W.cell? ⟨(ad.add (i.toNat * 9)).block,(ad.add (i.toNat * 9)).off+2,none⟩=some (.int .i64 (qd xs i).f0.f2)∧W.cell? ⟨(ad.add (i.toNat * 9)).block,(ad.add (i.toNat * 9)).off+3,none⟩=some (.int .i64 (qd xs i).f0.f3)∧W.cell? ⟨(ad.add (i.toNat * 9)).block,(ad.add (i.toNat * 9)).off+4,none⟩=some (.slice A4 (qd xs i).f0.f4.f0.length c4)∧W.cell? ⟨(ad.add (i.toNat * 9)).block,(ad.add (i.toNat * 9)).off+5,none⟩=some (.slice A5 (qd xs i).f0.f5.length c5)∧W.cell? ⟨(ad.add (i.toNat * 9)).block,(ad.add (i.toNat * 9)).off+6,none⟩=some (.slice A6 (qd xs i).f0.f6.length c6)∧W.cell? ⟨(ad.add (i.toNat * 9)).block,(ad.add (i.toNat * 9)).off+7,none⟩=some (.int .i64 (qd xs i).f1)∧W.cell? ⟨(ad.add (i.toNat * 9)).block,(ad.add (i.toNat * 9)).off+8,none⟩=some (.bool (qd xs i).f2)∧Aside0 ((qd xs i).f0.f0.f0.length≤c0)∧Aside0 ((Kd.slice 5 (Kd.int .u8)).C w A0 (qd xs i).f0.f0.f0.length (qd xs i).f0.f0.f0)∧Aside0 ((qd xs i).f0.f4.f0.length≤c4)∧Aside0 ((Kd.slice 5 (Kd.int .u8)).C w A4 (qd xs i).f0.f4.f0.length (qd xs i).f0.f4.f0)∧Aside0 ((qd xs i).f0.f5.length≤c5)∧Aside0 ((Kd.int .u8).C w A5 (qd xs i).f0.f5.length (qd xs i).f0.f5)∧Aside0 ((qd xs i).f0.f6.length≤c6)∧Aside0 ((Kd.int .i64).C w A6 (qd xs i).f0.f6.length (qd xs i).f0.f6)∧(0≤i)=True∧(i < n)=True:=by
  obtain ⟨ad,A0,c0,A4,c4,A5,c5,A6,c6,e,x0,x1,x2,x3,x4,x5,x6,x7,x8,y0,y1,y2,y3,y4,y5,y6,y7⟩:=qjM h.out i (of_decide_eq_true h0) (of_decide_eq_true h1);exact ⟨ad,A0,c0,A4,c4,A5,c5,A6,c6,e,pw_cell_below hb.out x0,pw_cell_below hb.out x1,pw_cell_below hb.out x2,pw_cell_below hb.out x3,pw_cell_below hb.out x4,pw_cell_below hb.out x5,pw_cell_below hb.out x6,pw_cell_below hb.out x7,pw_cell_below hb.out x8,⟨y0⟩,⟨y1⟩,⟨y2⟩,⟨y3⟩,⟨y4⟩,⟨y5⟩,⟨y6⟩,⟨y7⟩,eq_true (of_decide_eq_true h0),eq_true (of_decide_eq_true h1)⟩
theorem elw_T107 {xs:List zm} {w W:World} {A:Option Addr} {n:Nat} (h:Aside0 (Kd.C yY w A n xs)) (hb:Aside0 (Below w.heap.size w W)) (i:Int) (h0:decide (0≤i)=true:=by first | (with_reducible assumption) | assumption) (h1:decide (i < n)=true:=by first | (with_reducible assumption) | assumption):∃ ad A0 c0 A4 c4 A5 c5 A6 c6,A=some ad∧w.cell? (ad.add (i.toNat * 9))=some (.slice A0 (qd xs i).f0.f0.f0.length c0)∧w.cell? ⟨(ad.add (i.toNat * 9)).block,(ad.add (i.toNat * 9)).off+1,none⟩=some (.int .i64 (qd xs i).f0.f1)∧w.cell? ⟨(ad.add (i.toNat * 9)).block,(ad.add (i.toNat * 9)).off+2,none⟩=some (.int .i64 (qd xs i).f0.f2)∧w.cell? ⟨(ad.add (i.toNat * 9)).block,(ad.add (i.toNat * 9)).off+3,none⟩=some (.int .i64 (qd xs i).f0.f3)∧w.cell? ⟨(ad.add (i.toNat * 9)).block,(ad.add (i.toNat * 9)).off+4,none⟩=some (.slice A4 (qd xs i).f0.f4.f0.length c4)∧w.cell? ⟨(ad.add (i.toNat * 9)).block,(ad.add (i.toNat * 9)).off+5,none⟩=some (.slice A5 (qd xs i).f0.f5.length c5)∧w.cell? ⟨(ad.add (i.toNat * 9)).block,(ad.add (i.toNat * 9)).off+6,none⟩=some (.slice A6 (qd xs i).f0.f6.length c6)∧w.cell? ⟨(ad.add (i.toNat * 9)).block,(ad.add (i.toNat * 9)).off+7,none⟩=some (.int .i64 (qd xs i).f1)∧w.cell? ⟨(ad.add (i.toNat * 9)).block,(ad.add (i.toNat * 9)).off+8,none⟩=some (.bool (qd xs i).f2)∧W.cell? (ad.add (i.toNat * 9))=some (.slice A0 (qd xs i).f0.f0.f0.length c0)∧W.cell? ⟨(ad.add (i.toNat * 9)).block,(ad.add (i.toNat * 9)).off+1,none⟩=some (.int .i64 (qd xs i).f0.f1)∧W.cell? ⟨(ad.add (i.toNat * 9)).block,(ad.add (i.toNat * 9)).off+2,none⟩=some (.int .i64 (qd xs i).f0.f2)∧W.cell? ⟨(ad.add (i.toNat * 9)).block,(ad.add (i.toNat * 9)).off+3,none⟩=some (.int .i64 (qd xs i).f0.f3)∧W.cell? ⟨(ad.add (i.toNat * 9)).block,(ad.add (i.toNat * 9)).off+4,none⟩=some (.slice A4 (qd xs i).f0.f4.f0.length c4)∧W.cell? ⟨(ad.add (i.toNat * 9)).block,(ad.add (i.toNat * 9)).off+5,none⟩=some (.slice A5 (qd xs i).f0.f5.length c5)∧W.cell? ⟨(ad.add (i.toNat * 9)).block,(ad.add (i.toNat * 9)).off+6,none⟩=some (.slice A6 (qd xs i).f0.f6.length c6)∧W.cell? ⟨(ad.add (i.toNat * 9)).block,(ad.add (i.toNat * 9)).off+7,none⟩=some (.int .i64 (qd xs i).f1)∧W.cell? ⟨(ad.add (i.toNat * 9)).block,(ad.add (i.toNat * 9)).off+8,none⟩=some (.bool (qd xs i).f2)∧Aside0 ((qd xs i).f0.f0.f0.length≤c0)∧Aside0 ((Kd.slice 5 (Kd.int .u8)).C w A0 (qd xs i).f0.f0.f0.length (qd xs i).f0.f0.f0)∧Aside0 ((qd xs i).f0.f4.f0.length≤c4)∧Aside0 ((Kd.slice 5 (Kd.int .u8)).C w A4 (qd xs i).f0.f4.f0.length (qd xs i).f0.f4.f0)∧Aside0 ((qd xs i).f0.f5.length≤c5)∧Aside0 ((Kd.int .u8).C w A5 (qd xs i).f0.f5.length (qd xs i).f0.f5)∧Aside0 ((qd xs i).f0.f6.length≤c6)∧Aside0 ((Kd.int .i64).C w A6 (qd xs i).f0.f6.length (qd xs i).f0.f6)∧(0≤i)=True∧(i < n)=True:=by
  obtain ⟨ad,A0,c0,A4,c4,A5,c5,A6,c6,e,x0,x1,x2,x3,x4,x5,x6,x7,x8,y0,y1,y2,y3,y4,y5,y6,y7⟩:=qjM h.out i (of_decide_eq_true h0) (of_decide_eq_true h1);exact ⟨ad,A0,c0,A4,c4,A5,c5,A6,c6,e,x0,x1,x2,x3,x4,x5,x6,x7,x8,pw_cell_below hb.out x0,pw_cell_below hb.out x1,pw_cell_below hb.out x2,pw_cell_below hb.out x3,pw_cell_below hb.out x4,pw_cell_below hb.out x5,pw_cell_below hb.out x6,pw_cell_below hb.out x7,pw_cell_below hb.out x8,⟨y0⟩,⟨y1⟩,⟨y2⟩,⟨y3⟩,⟨y4⟩,⟨y5⟩,⟨y6⟩,⟨y7⟩,eq_true (of_decide_eq_true h0),eq_true (of_decide_eq_true h1)⟩

def QG.f (l0:List Int) (a1:Int):Option (Int):=if (wrap64 (a1 - (l0.length:Int))) < 0 then (some (-1)) else (some (wrap64 (a1 - (l0.length:Int))))
set_option maxHeartbeats 8000000 in
set_option maxRecDepth 100000 in
theorem QG.calls (A0:Option Addr) (c0:Nat) (l0:List Int) (a1:Int) (r:Int) (w:World) (hr0:Kd.C (Kd.int .u8) w A0 l0.length l0) (hc0:l0.length≤c0) (h:QG.f l0 a1=some r) :
  Calls Tryz.prog 37 #[.slice A0 l0.length c0,.int .i64 a1] w fun e w'=>e=.returned (.int .i64 r)∧Drawn0 w w':=by
 have HR0:=ak hr0;have HC0:=ak hc0;clear hr0 hc0;have H:(if (wrap64 (a1 - (l0.length:Int))) < 0 then (some (-1)) else (some (wrap64 (a1 - (l0.length:Int)))))=some r:=h;clear h;replace H:=ip H;obtain ⟨c3b0,H⟩ | ⟨c3b0,H⟩:=H
 ·obtain rfl:=Option.some.inj H;go_enter Tryz.func37,Tryz.ntmps37;go_wp2;go_ret;exact ⟨o2,od⟩
 ·obtain rfl:=Option.some.inj H;go_enter Tryz.func37,Tryz.ntmps37;go_wp2;go_ret;exact ⟨o2,od⟩

def zu.l0:Nat→List (List Int)→Int→Int→Option (Int)
 | 0,_,_,_=>none
 | k+1,x0,x1,x5=>if x5 < (x0.length:Int) then (if 0≤x5 then ((QG.f (qX x0 x5) x1).bind fun qS=>(if qS < 0 then (some (-1)) else (zu.l0 k x0 qS (wrap64 (x5+1))))) else (none)) else (some x1)
def zu.f (k:Nat) (l0:List (List Int)) (a1:Int):Option (Int):=if (wrap64 (a1 - (l0.length:Int))) < 0 then (some (-1)) else (zu.l0 k l0 (wrap64 (a1 - (l0.length:Int))) 0)
set_option maxHeartbeats 8000000 in
set_option maxRecDepth 100000 in
theorem zu.calls (k:Nat) (A0:Option Addr) (c0:Nat) (l0:List (List Int)) (a1:Int) (r:Int) (w:World) (hr0:Kd.C (Kd.slice 5 (Kd.int .u8)) w A0 l0.length l0) (hc0:l0.length≤c0) (h:zu.f k l0 a1=some r) :
  Calls Tryz.prog 135 #[.slice A0 l0.length c0,.int .i64 a1] w fun e w'=>e=.returned (.int .i64 r)∧Drawn0 w w':=by
 have HR0:=ak hr0;have HC0:=ak hc0;clear hr0 hc0;have H:(if (wrap64 (a1 - (l0.length:Int))) < 0 then (some (-1)) else (zu.l0 k l0 (wrap64 (a1 - (l0.length:Int))) 0))=some r:=h;clear h;replace H:=ip H;obtain ⟨c3b0,H⟩ | ⟨c3b0,H⟩:=H
 ·obtain rfl:=Option.some.inj H;go_enter Tryz.func135,Tryz.ntmps135;go_wp2;go_ret;exact ⟨o2,od⟩
 ·have H':=ak H;clear H;go_enter Tryz.func135,Tryz.ntmps135;go_wp2;go_loopg [1,5] k (fun kq v1 v5 w'=>∃ (qaN:Int) (qg:Int),v1=.int .i64 qaN∧v5=.int .i64 qg∧Aside0 (zu.l0 kq l0 qaN qg=some r)∧Aside0 (kq≤k)∧Drawn0 w w')
  case atStart=>exact ⟨(wrap64 (a1 - (l0.length:Int))),(0),o2,o2,H',⟨Nat.le_refl _⟩,od⟩
  case round =>
   clear H';(try clear c3b0)
   obtain ⟨qaN,qg,rfl,rfl,HA,HK1,⟨m1,rfl⟩⟩:=hrel;cases gk with
   | zero=>exact absurd HA.out (by simp [zu.l0])
   | succ k1 =>
    have H:=HA.out;clear HA;simp only [zu.l0] at H;replace H:=ip H;obtain ⟨c4b0,H⟩ | ⟨c4b0,H⟩:=H
    ·replace H:=ipN H;obtain ⟨c5b0,H⟩:=H;replace H:=bnd H;obtain ⟨qS,A6,H⟩:=H;replace H:=ip H;obtain ⟨c7b0,H⟩ | ⟨c7b0,H⟩:=H
     ·obtain rfl:=Option.some.inj H;obtain ⟨qT,Zv,Zt,rfl,zw,yx,zD,Jv,Ju⟩:=el0_L10 HR0 qg;go_wp2_with (((with_reducible refine gate_callee (f:=37) rfl ?_);refine glD 23 rfl rfl Tryz.func37 (QG.calls _ _ (qX l0 qg) qaN qS _ (cd zD) yx.out A6.out) (fun nd=>?_)));go_ret;exact ⟨o2,od⟩
     ·have H':=ak H;clear H;obtain ⟨qT,Zv,Zt,rfl,zw,yx,zD,Jv,Ju⟩:=el0_L10 HR0 qg;go_wp2_with (((with_reducible refine gate_callee (f:=37) rfl ?_);refine glD 23 rfl rfl Tryz.func37 (QG.calls _ _ (qX l0 qg) qaN qS _ (cd zD) yx.out A6.out) (fun nd=>?_)));go_roundg k1;case measure=>have:=HK1.out;omega
      case rel=>exact ⟨(qS),(wrap64 (qg+1)),o2,o2,H',⟨by have:=HK1.out;omega⟩,od⟩
    ·obtain rfl:=Option.some.inj H;go_wp2;go_ret;exact ⟨o2,od⟩

def zq.f (k:Nat) (qe:List (List Int)) (a1:Int):Option (Int):=(zu.f k qe a1).bind fun qS=>(if qS < 0 then (some (-1)) else (some qS))
set_option maxHeartbeats 8000000 in
set_option maxRecDepth 100000 in
theorem zq.calls (k:Nat) (qy:Option Addr) (qx:Nat) (qe:List (List Int)) (a1:Int) (r:Int) (w:World) (qO:Kd.C (Kd.slice 5 (Kd.int .u8)) w qy qe.length qe) (qW:qe.length≤qx) (h:zq.f k qe a1=some r) :
  Calls Tryz.prog 74 #[.agg #[.slice qy qe.length qx],.int .i64 a1] w fun e w'=>e=.returned (.int .i64 r)∧Below w.heap.size w w':=by
 have qiE:=Tryz.underlying59;have qD:=ak qO;have qF:=ak qW;clear qO qW;have HB:=ak (Below.refl w.heap.size w);have H:((zu.f k qe a1).bind fun qS=>(if qS < 0 then (some (-1)) else (some qS)))=some r:=h;clear h;replace H:=bnd H;obtain ⟨qS,A3,H⟩:=H;replace H:=ip H;obtain ⟨c4b0,H⟩ | ⟨c4b0,H⟩:=H
 ·obtain rfl:=Option.some.inj H;go_enter Tryz.func74,Tryz.ntmps74;go_wp2_with (first | ((with_reducible refine gate_dst (N:=2) rfl ?_);refine bxd (N:=2) rfl HB ?_;clear HB;intro qh w5 hg HB qb qC hb;have jj:=qC;clear hb hg;obtain ⟨qeg,qd8⟩:=cells1 qb.out) | ((with_reducible refine gate_callee (f:=135) rfl ?_);refine glD 8 rfl rfl Tryz.func135 (zu.calls k _ _ qe a1 qS _ (cv qD HB) qF.out A3.out) (fun nd=>?_)));go_ret;exact ⟨o1,bs⟩
 ·obtain rfl:=Option.some.inj H;go_enter Tryz.func74,Tryz.ntmps74;go_wp2_with (first | ((with_reducible refine gate_dst (N:=2) rfl ?_);refine bxd (N:=2) rfl HB ?_;clear HB;intro qh w7 hg HB qb qC hb;have jj:=qC;clear hb hg;obtain ⟨qbP,qbO⟩:=cells1 qb.out) | ((with_reducible refine gate_callee (f:=135) rfl ?_);refine glD 8 rfl rfl Tryz.func135 (zu.calls k _ _ qe a1 qS _ (cv qD HB) qF.out A3.out) (fun nd=>?_)));go_ret;exact ⟨o1,bs⟩

def Ya.f (l0:List Int) (a1:Int):Option (Int):=if (wrap64 (a1 - (l0.length:Int))) < 0 then (some (-1)) else (some (wrap64 (a1 - (l0.length:Int))))
set_option maxHeartbeats 8000000 in
set_option maxRecDepth 100000 in
theorem Ya.calls (A0:Option Addr) (c0:Nat) (l0:List Int) (a1:Int) (r:Int) (w:World) (hr0:Kd.C (Kd.int .i64) w A0 l0.length l0) (hc0:l0.length≤c0) (h:Ya.f l0 a1=some r) :
  Calls Tryz.prog 159 #[.slice A0 l0.length c0,.int .i64 a1] w fun e w'=>e=.returned (.int .i64 r)∧Drawn0 w w':=by
 have HR0:=ak hr0;have HC0:=ak hc0;clear hr0 hc0;have H:(if (wrap64 (a1 - (l0.length:Int))) < 0 then (some (-1)) else (some (wrap64 (a1 - (l0.length:Int)))))=some r:=h;clear h;replace H:=ip H;obtain ⟨c3b0,H⟩ | ⟨c3b0,H⟩:=H
 ·obtain rfl:=Option.some.inj H;go_enter Tryz.func159,Tryz.ntmps159;go_wp2;go_ret;exact ⟨o2,od⟩
 ·obtain rfl:=Option.some.inj H;go_enter Tryz.func159,Tryz.ntmps159;go_wp2;go_ret;exact ⟨o2,od⟩

def JJ.f (k:Nat) (qe:List (List Int)) (qw:Int) (qI:Int) (qH:Int) (qv:List (List Int)) (qu:List Int) (qr:List Int) (a1:Int):Option (Int):=(zq.f k qe a1).bind fun qS=>(if qS < 0 then (some (-1)) else ((zq.f k qv qS).bind fun qQ=>(if qQ < 0 then (some (-1)) else ((QG.f qu qQ).bind fun qE=>(if qE < 0 then (some (-1)) else ((Ya.f qr qE).bind fun jJ=>(if jJ < 0 then (some (-1)) else (some jJ))))))))
set_option maxHeartbeats 8000000 in
set_option maxRecDepth 100000 in
theorem JJ.calls (k:Nat) (qy:Option Addr) (qx:Nat) (qe:List (List Int)) (qw:Int) (qI:Int) (qH:Int) (zB:Option Addr) (zA:Nat) (qv:List (List Int)) (zN:Option Addr) (zJ:Nat) (qu:List Int) (zT:Option Addr) (zI:Nat) (qr:List Int) (a1:Int) (r:Int) (w:World) (qO:Kd.C (Kd.slice 5 (Kd.int .u8)) w qy qe.length qe) (qW:qe.length≤qx) (yn:Kd.C (Kd.slice 5 (Kd.int .u8)) w zB qv.length qv) (yt:qv.length≤zA) (ym:Kd.C (Kd.int .u8) w zN qu.length qu) (yr:qu.length≤zJ) (yl:Kd.C (Kd.int .i64) w zT qr.length qr) (yq:qr.length≤zI) (h:JJ.f k qe qw qI qH qv qu qr a1=some r) :
  Calls Tryz.prog 98 #[.agg #[.slice qy qe.length qx,.int .i64 qw,.int .i64 qI,.int .i64 qH,.slice zB qv.length zA,.slice zN qu.length zJ,.slice zT qr.length zI],.int .i64 a1] w fun e w'=>e=.returned (.int .i64 r)∧Below w.heap.size w w':=by
 have qfG:=Tryz.underlying114;have qiE:=Tryz.underlying59;have qD:=ak qO;have qF:=ak qW;clear qO qW;have yd:=ak yn;have yg:=ak yt;clear yn yt;have yM:=ak ym;have yX:=ak yr;clear ym yr;have zr:=ak yl;have Qh:=ak yq;clear yl yq;have HB:=ak (Below.refl w.heap.size w);have H:((zq.f k qe a1).bind fun qS=>(if qS < 0 then (some (-1)) else ((zq.f k qv qS).bind fun qQ=>(if qQ < 0 then (some (-1)) else ((QG.f qu qQ).bind fun qE=>(if qE < 0 then (some (-1)) else ((Ya.f qr qE).bind fun jJ=>(if jJ < 0 then (some (-1)) else (some jJ)))))))))=some r:=h;clear h;replace H:=bnd H;obtain ⟨qS,A3,H⟩:=H;replace H:=ip H;obtain ⟨c4b0,H⟩ | ⟨c4b0,H⟩:=H
 ·obtain rfl:=Option.some.inj H;go_enter Tryz.func98,Tryz.ntmps98;go_wp2_with (first | ((with_reducible refine gate_dst (N:=2) rfl ?_);refine bxd (N:=2) rfl HB ?_;clear HB;intro qh w5 hg HB qb qC hb;have jj:=qC;clear hb hg;obtain ⟨_,_,_,_,_,_,_,_,_,_,_,_,_,_⟩:=cells7 qb.out) | ((with_reducible refine gate_callee (f:=74) rfl ?_);refine glB 8 rfl rfl Tryz.func74 (zq.calls k _ _ qe a1 qS _ (cv qD HB) qF.out A3.out) (fun w7 hb=>?_);replace qb:=b1 qb hb;replace HB:=b2s bs hb;(try clear hb)));go_ret;exact ⟨o1,bs⟩
 ·replace H:=bnd H;obtain ⟨qQ,A8,H⟩:=H;replace H:=ip H;obtain ⟨c9b0,H⟩ | ⟨c9b0,H⟩:=H
  ·obtain rfl:=Option.some.inj H;go_enter Tryz.func98,Tryz.ntmps98;go_wp2_with (first | ((with_reducible refine gate_dst (N:=2) rfl ?_);refine bxd (N:=2) rfl HB ?_;clear HB;intro qh w10 hg HB qb qC hb;have jj:=qC;clear hb hg;obtain ⟨_,_,_,_,_,_,_,_,_,_,_,_,_,_⟩:=cells7 qb.out) | ((with_reducible refine gate_callee (f:=74) rfl ?_);refine glB 8 rfl rfl Tryz.func74 (zq.calls k _ _ qe a1 qS _ (cv qD HB) qF.out A3.out) (fun w12 hb=>?_);replace qb:=b1 qb hb;replace HB:=b2s bs hb;(try clear hb);obtain ⟨_,_,_,_,_,_,_,_,_,_,_,_,_,_⟩:=cells7 qb.out) | ((with_reducible refine gate_callee (f:=74) rfl ?_);refine glB 14 rfl rfl Tryz.func74 (zq.calls k _ _ qv qS qQ _ (cv yd HB) yg.out A8.out) (fun w14 hb=>?_);replace qb:=b1 qb hb;replace HB:=b2s bs hb;(try clear hb)));go_ret;exact ⟨o1,bs⟩
  ·replace H:=bnd H;obtain ⟨qE,A15,H⟩:=H;replace H:=ip H;obtain ⟨c16b0,H⟩ | ⟨c16b0,H⟩:=H
   ·obtain rfl:=Option.some.inj H;go_enter Tryz.func98,Tryz.ntmps98;go_wp2_with (first | ((with_reducible refine gate_dst (N:=2) rfl ?_);refine bxd (N:=2) rfl HB ?_;clear HB;intro qh w17 hg HB qb qC hb;have jj:=qC;clear hb hg;obtain ⟨_,_,_,_,_,_,_,_,_,_,_,_,_,_⟩:=cells7 qb.out) | ((with_reducible refine gate_callee (f:=74) rfl ?_);refine glB 8 rfl rfl Tryz.func74 (zq.calls k _ _ qe a1 qS _ (cv qD HB) qF.out A3.out) (fun w19 hb=>?_);replace qb:=b1 qb hb;replace HB:=b2s bs hb;(try clear hb);obtain ⟨_,_,_,_,_,_,_,_,_,_,_,_,_,_⟩:=cells7 qb.out) | ((with_reducible refine gate_callee (f:=74) rfl ?_);refine glB 14 rfl rfl Tryz.func74 (zq.calls k _ _ qv qS qQ _ (cv yd HB) yg.out A8.out) (fun w21 hb=>?_);replace qb:=b1 qb hb;replace HB:=b2s bs hb;(try clear hb);obtain ⟨_,_,_,_,_,_,_,_,_,_,_,_,_,_⟩:=cells7 qb.out) | ((with_reducible refine gate_callee (f:=37) rfl ?_);refine glD 20 rfl rfl Tryz.func37 (QG.calls _ _ qu qQ qE _ (cv yM HB) yX.out A15.out) (fun nd=>?_)));go_ret;exact ⟨o1,bs⟩
   ·replace H:=bnd H;obtain ⟨jJ,A23,H⟩:=H;replace H:=ip H;obtain ⟨c24b0,H⟩ | ⟨c24b0,H⟩:=H
    ·obtain rfl:=Option.some.inj H;go_enter Tryz.func98,Tryz.ntmps98;go_wp2_with (first | ((with_reducible refine gate_dst (N:=2) rfl ?_);refine bxd (N:=2) rfl HB ?_;clear HB;intro qh w25 hg HB qb qC hb;have jj:=qC;clear hb hg;obtain ⟨_,_,_,_,_,_,_,_,_,_,_,_,_,_⟩:=cells7 qb.out) | ((with_reducible refine gate_callee (f:=74) rfl ?_);refine glB 8 rfl rfl Tryz.func74 (zq.calls k _ _ qe a1 qS _ (cv qD HB) qF.out A3.out) (fun w27 hb=>?_);replace qb:=b1 qb hb;replace HB:=b2s bs hb;(try clear hb);obtain ⟨_,_,_,_,_,_,_,_,_,_,_,_,_,_⟩:=cells7 qb.out) | ((with_reducible refine gate_callee (f:=74) rfl ?_);refine glB 14 rfl rfl Tryz.func74 (zq.calls k _ _ qv qS qQ _ (cv yd HB) yg.out A8.out) (fun w29 hb=>?_);replace qb:=b1 qb hb;replace HB:=b2s bs hb;(try clear hb);obtain ⟨_,_,_,_,_,_,_,_,_,_,_,_,_,_⟩:=cells7 qb.out) | ((with_reducible refine gate_callee (f:=37) rfl ?_);refine glD 20 rfl rfl Tryz.func37 (QG.calls _ _ qu qQ qE _ (cv yM HB) yX.out A15.out) (fun nd=>?_)) | ((with_reducible refine gate_callee (f:=159) rfl ?_);refine glD 26 rfl rfl Tryz.func159 (Ya.calls _ _ qr qE jJ _ ?jV Qh.out A23.out) (fun nd=>?_);(case jV=>repeat (first | exact (Kd.C_below zr.out bs) | (with_reducible refine Kd.C_alloc ?_ _) | (with_reducible refine Kd.C_drewN ?_ _) | (with_reducible refine Kd.C_drew ?_)))));go_ret;exact ⟨o1,bs⟩
    ·obtain rfl:=Option.some.inj H;go_enter Tryz.func98,Tryz.ntmps98;go_wp2_with (first | ((with_reducible refine gate_dst (N:=2) rfl ?_);refine bxd (N:=2) rfl HB ?_;clear HB;intro qh w31 hg HB qb qC hb;have jj:=qC;clear hb hg;obtain ⟨_,_,_,_,_,_,_,_,_,_,_,_,_,_⟩:=cells7 qb.out) | ((with_reducible refine gate_callee (f:=74) rfl ?_);refine glB 8 rfl rfl Tryz.func74 (zq.calls k _ _ qe a1 qS _ (cv qD HB) qF.out A3.out) (fun w33 hb=>?_);replace qb:=b1 qb hb;replace HB:=b2s bs hb;(try clear hb);obtain ⟨_,_,_,_,_,_,_,_,_,_,_,_,_,_⟩:=cells7 qb.out) | ((with_reducible refine gate_callee (f:=74) rfl ?_);refine glB 14 rfl rfl Tryz.func74 (zq.calls k _ _ qv qS qQ _ (cv yd HB) yg.out A8.out) (fun w35 hb=>?_);replace qb:=b1 qb hb;replace HB:=b2s bs hb;(try clear hb);obtain ⟨_,_,_,_,_,_,_,_,_,_,_,_,_,_⟩:=cells7 qb.out) | ((with_reducible refine gate_callee (f:=37) rfl ?_);refine glD 20 rfl rfl Tryz.func37 (QG.calls _ _ qu qQ qE _ (cv yM HB) yX.out A15.out) (fun nd=>?_)) | ((with_reducible refine gate_callee (f:=159) rfl ?_);refine glD 26 rfl rfl Tryz.func159 (Ya.calls _ _ qr qE jJ _ ?jV Qh.out A23.out) (fun nd=>?_);(case jV=>repeat (first | exact (Kd.C_below zr.out bs) | (with_reducible refine Kd.C_alloc ?_ _) | (with_reducible refine Kd.C_drewN ?_ _) | (with_reducible refine Kd.C_drew ?_)))));go_ret;exact ⟨o1,bs⟩

def yB.l0:Nat→List (ZZ)→Int→Int→Option (Int)
 | 0,_,_,_=>none
 | k+1,x0,x1,x5=>if x5 < (x0.length:Int) then (if 0≤x5 then ((JJ.f k ((jc x0 x5).f0.f0) ((jc x0 x5).f1) ((jc x0 x5).f2) ((jc x0 x5).f3) ((jc x0 x5).f4.f0) ((jc x0 x5).f5) ((jc x0 x5).f6) x1).bind fun qS=>(if qS < 0 then (some (-1)) else (yB.l0 k x0 qS (wrap64 (x5+1))))) else (none)) else (some x1)
def yB.f (k:Nat) (l0:List (ZZ)) (a1:Int):Option (Int):=if (wrap64 (a1 - (l0.length:Int))) < 0 then (some (-1)) else (yB.l0 k l0 (wrap64 (a1 - (l0.length:Int))) 0)
set_option maxHeartbeats 8000000 in
set_option maxRecDepth 100000 in
theorem yB.calls (k:Nat) (A0:Option Addr) (c0:Nat) (l0:List (ZZ)) (a1:Int) (r:Int) (w:World) (hr0:Kd.C qaI w A0 l0.length l0) (hc0:l0.length≤c0) (h:yB.f k l0 a1=some r) :
  Calls Tryz.prog 47 #[.slice A0 l0.length c0,.int .i64 a1] w fun e w'=>e=.returned (.int .i64 r)∧Below w.heap.size w w':=by
 have qfG:=Tryz.underlying114;have HR0:=ak hr0;have HC0:=ak hc0;clear hr0 hc0;have HB:=ak (Below.refl w.heap.size w);have H:(if (wrap64 (a1 - (l0.length:Int))) < 0 then (some (-1)) else (yB.l0 k l0 (wrap64 (a1 - (l0.length:Int))) 0))=some r:=h;clear h;replace H:=ip H;obtain ⟨c3b0,H⟩ | ⟨c3b0,H⟩:=H
 ·obtain rfl:=Option.some.inj H;go_enter Tryz.func47,Tryz.ntmps47;go_wp2;go_ret;exact ⟨o1,bw HB.out⟩
 ·have H':=ak H;clear H;go_enter Tryz.func47,Tryz.ntmps47;go_wp2;go_loopg [1,5] k (fun kq v1 v5 w'=>∃ (qaN:Int) (qg:Int),v1=.int .i64 qaN∧v5=.int .i64 qg∧Aside0 (yB.l0 kq l0 qaN qg=some r)∧Aside0 (kq≤k)∧Aside0 (Below w.heap.size w w'))
  case atStart=>exact ⟨(wrap64 (a1 - (l0.length:Int))),(0),o2,o2,H',⟨Nat.le_refl _⟩,⟨bw HB.out⟩⟩
  case round =>
   clear H';(try clear c3b0)
   obtain ⟨qaN,qg,rfl,rfl,HA,HK1,HB⟩:=hrel;cases gk with
   | zero=>exact absurd HA.out (by simp [yB.l0])
   | succ k1 =>
    have H:=HA.out;clear HA;simp only [yB.l0] at H;replace H:=ip H;obtain ⟨c4b0,H⟩ | ⟨c4b0,H⟩:=H
    ·replace H:=ipN H;obtain ⟨c5b0,H⟩:=H;replace H:=bnd H;obtain ⟨qS,A6,H⟩:=H;replace H:=ip H;obtain ⟨c7b0,H⟩ | ⟨c7b0,H⟩:=H
     ·obtain rfl:=Option.some.inj H;obtain ⟨qT,Zv,Zt,YY,YV,YX,YU,YW,YT,rfl,zw,Zb,Za,JZ,JY,JX,JW,yx,zD,Jb,Qu,Ja,Qt,QZ,Qs,Jv,Ju⟩:=el_T114 HR0 HB qg;go_wp2_with (((with_reducible refine gate_callee (f:=98) rfl ?_);refine glB 23 rfl rfl Tryz.func98 (JJ.calls k1 _ _ ((jc l0 qg).f0.f0) ((jc l0 qg).f1) ((jc l0 qg).f2) ((jc l0 qg).f3) _ _ ((jc l0 qg).f4.f0) _ _ ((jc l0 qg).f5) _ _ ((jc l0 qg).f6) qaN qS _ (cv zD HB) yx.out (cv Qu HB) Jb.out (cv Qt HB) Ja.out (cv Qs HB) QZ.out A6.out) (fun w8 hb=>?_);replace HB:=b2 HB hb;(try clear hb)));go_ret;exact ⟨o1,bw HB.out⟩
     ·have H':=ak H;clear H;obtain ⟨qT,Zv,Zt,YY,YV,YX,YU,YW,YT,rfl,zw,Zb,Za,JZ,JY,JX,JW,yx,zD,Jb,Qu,Ja,Qt,QZ,Qs,Jv,Ju⟩:=el_T114 HR0 HB qg;go_wp2_with (((with_reducible refine gate_callee (f:=98) rfl ?_);refine glB 23 rfl rfl Tryz.func98 (JJ.calls k1 _ _ ((jc l0 qg).f0.f0) ((jc l0 qg).f1) ((jc l0 qg).f2) ((jc l0 qg).f3) _ _ ((jc l0 qg).f4.f0) _ _ ((jc l0 qg).f5) _ _ ((jc l0 qg).f6) qaN qS _ (cv zD HB) yx.out (cv Qu HB) Jb.out (cv Qt HB) Ja.out (cv Qs HB) QZ.out A6.out) (fun w9 hb=>?_);replace HB:=b2 HB hb;(try clear hb)));go_roundg k1;case measure=>have:=HK1.out;omega
      case rel=>exact ⟨(qS),(wrap64 (qg+1)),o2,o2,H',⟨by have:=HK1.out;omega⟩,⟨bw HB.out⟩⟩
    ·obtain rfl:=Option.some.inj H;go_wp2;go_ret;exact ⟨o1,bw HB.out⟩

def Zo.f (k:Nat) (qe:List (List Int)) (qc:List (ZZ)) (a1:Int):Option (Int):=(zq.f k qe a1).bind fun qS=>(if qS < 0 then (some (-1)) else ((yB.f k qc qS).bind fun qQ=>(if qQ < 0 then (some (-1)) else (some qQ))))
set_option maxHeartbeats 8000000 in
set_option maxRecDepth 100000 in
theorem Zo.calls (k:Nat) (qy:Option Addr) (qx:Nat) (qe:List (List Int)) (jH:Option Addr) (ji:Nat) (qc:List (ZZ)) (a1:Int) (r:Int) (w:World) (qO:Kd.C (Kd.slice 5 (Kd.int .u8)) w qy qe.length qe) (qW:qe.length≤qx) (Je:Kd.C qaI w jH qc.length qc) (Jf:qc.length≤ji) (h:Zo.f k qe qc a1=some r) :
  Calls Tryz.prog 29 #[.agg #[.slice qy qe.length qx,.slice jH qc.length ji],.int .i64 a1] w fun e w'=>e=.returned (.int .i64 r)∧Below w.heap.size w w':=by
 have qnL:=Tryz.underlying61;have qiE:=Tryz.underlying59;have qD:=ak qO;have qF:=ak qW;clear qO qW;have ye:=ak Je;have yO:=ak Jf;clear Je Jf;have HB:=ak (Below.refl w.heap.size w);have H:((zq.f k qe a1).bind fun qS=>(if qS < 0 then (some (-1)) else ((yB.f k qc qS).bind fun qQ=>(if qQ < 0 then (some (-1)) else (some qQ)))))=some r:=h;clear h;replace H:=bnd H;obtain ⟨qS,A3,H⟩:=H;replace H:=ip H;obtain ⟨c4b0,H⟩ | ⟨c4b0,H⟩:=H
 ·obtain rfl:=Option.some.inj H;go_enter Tryz.func29,Tryz.ntmps29;go_wp2_with (first | ((with_reducible refine gate_dst (N:=2) rfl ?_);refine bxd (N:=2) rfl HB ?_;clear HB;intro qh w5 hg HB qb qC hb;have jj:=qC;clear hb hg;obtain ⟨qeg,qkW,qd8,qkU⟩:=cells2 qb.out) | ((with_reducible refine gate_callee (f:=74) rfl ?_);refine glB 8 rfl rfl Tryz.func74 (zq.calls k _ _ qe a1 qS _ (cv qD HB) qF.out A3.out) (fun w7 hb=>?_);replace qb:=b1 qb hb;replace HB:=b2s bs hb;(try clear hb)));go_ret;exact ⟨o1,bs⟩
 ·replace H:=bnd H;obtain ⟨qQ,A8,H⟩:=H;replace H:=ip H;obtain ⟨c9b0,H⟩ | ⟨c9b0,H⟩:=H
  ·obtain rfl:=Option.some.inj H;go_enter Tryz.func29,Tryz.ntmps29;go_wp2_with (first | ((with_reducible refine gate_dst (N:=2) rfl ?_);refine bxd (N:=2) rfl HB ?_;clear HB;intro qh w10 hg HB qb qC hb;have jj:=qC;clear hb hg;obtain ⟨YQ,qaE,YO,qaD⟩:=cells2 qb.out) | ((with_reducible refine gate_callee (f:=74) rfl ?_);refine glB 8 rfl rfl Tryz.func74 (zq.calls k _ _ qe a1 qS _ (cv qD HB) qF.out A3.out) (fun w12 hb=>?_);replace qb:=b1 qb hb;replace HB:=b2s bs hb;(try clear hb);obtain ⟨qa0,qct,qaZ,qcn⟩:=cells2 qb.out) | ((with_reducible refine gate_callee (f:=47) rfl ?_);refine glB 14 rfl rfl Tryz.func47 (yB.calls k _ _ qc qS qQ _ (cv ye HB) yO.out A8.out) (fun w14 hb=>?_);replace qb:=b1 qb hb;replace HB:=b2s bs hb;(try clear hb)));go_ret;exact ⟨o1,bs⟩
  ·obtain rfl:=Option.some.inj H;go_enter Tryz.func29,Tryz.ntmps29;go_wp2_with (first | ((with_reducible refine gate_dst (N:=2) rfl ?_);refine bxd (N:=2) rfl HB ?_;clear HB;intro qh w15 hg HB qb qC hb;have jj:=qC;clear hb hg;obtain ⟨qcp,qdx,qcj,qdm⟩:=cells2 qb.out) | ((with_reducible refine gate_callee (f:=74) rfl ?_);refine glB 8 rfl rfl Tryz.func74 (zq.calls k _ _ qe a1 qS _ (cv qD HB) qF.out A3.out) (fun w17 hb=>?_);replace qb:=b1 qb hb;replace HB:=b2s bs hb;(try clear hb);obtain ⟨qhv,qhu,qg5,qg4⟩:=cells2 qb.out) | ((with_reducible refine gate_callee (f:=47) rfl ?_);refine glB 14 rfl rfl Tryz.func47 (yB.calls k _ _ qc qS qQ _ (cv ye HB) yO.out A8.out) (fun w19 hb=>?_);replace qb:=b1 qb hb;replace HB:=b2s bs hb;(try clear hb)));go_ret;exact ⟨o1,bs⟩

def Zp.f (k:Nat) (qe:List (List Int)) (qw:Int) (qI:Int) (qH:Int) (qv:List (List Int)) (qu:List Int) (qr:List Int) (zS:Int) (yA:Bool) (a1:Int):Option (Int):=(JJ.f k qe qw qI qH qv qu qr a1).bind fun qS=>(if qS < 0 then (some (-1)) else (some qS))
set_option maxHeartbeats 8000000 in
set_option maxRecDepth 100000 in
theorem Zp.calls (k:Nat) (qy:Option Addr) (qx:Nat) (qe:List (List Int)) (qw:Int) (qI:Int) (qH:Int) (zB:Option Addr) (zA:Nat) (qv:List (List Int)) (zN:Option Addr) (zJ:Nat) (qu:List Int) (zT:Option Addr) (zI:Nat) (qr:List Int) (zS:Int) (yA:Bool) (a1:Int) (r:Int) (w:World) (qO:Kd.C (Kd.slice 5 (Kd.int .u8)) w qy qe.length qe) (qW:qe.length≤qx) (yn:Kd.C (Kd.slice 5 (Kd.int .u8)) w zB qv.length qv) (yt:qv.length≤zA) (ym:Kd.C (Kd.int .u8) w zN qu.length qu) (yr:qu.length≤zJ) (yl:Kd.C (Kd.int .i64) w zT qr.length qr) (yq:qr.length≤zI) (h:Zp.f k qe qw qI qH qv qu qr zS yA a1=some r) :
  Calls Tryz.prog 75 #[.agg #[.slice qy qe.length qx,.int .i64 qw,.int .i64 qI,.int .i64 qH,.slice zB qv.length zA,.slice zN qu.length zJ,.slice zT qr.length zI,.int .i64 zS,.bool yA],.int .i64 a1] w fun e w'=>e=.returned (.int .i64 r)∧Below w.heap.size w w':=by
 have qkk:=Tryz.underlying116;have qfG:=Tryz.underlying114;have qD:=ak qO;have qF:=ak qW;clear qO qW;have yd:=ak yn;have yg:=ak yt;clear yn yt;have yM:=ak ym;have yX:=ak yr;clear ym yr;have zr:=ak yl;have Qh:=ak yq;clear yl yq;have HB:=ak (Below.refl w.heap.size w);have H:((JJ.f k qe qw qI qH qv qu qr a1).bind fun qS=>(if qS < 0 then (some (-1)) else (some qS)))=some r:=h;clear h;replace H:=bnd H;obtain ⟨qS,A3,H⟩:=H;replace H:=ip H;obtain ⟨c4b0,H⟩ | ⟨c4b0,H⟩:=H
 ·obtain rfl:=Option.some.inj H;go_enter Tryz.func75,Tryz.ntmps75;go_wp2_with (first | ((with_reducible refine gate_dst (N:=2) rfl ?_);refine bxd (N:=2) rfl HB ?_;clear HB;intro qh w5 hg HB qb qC hb;have jj:=qC;clear hb hg;obtain ⟨_,_,_,_,_,_,_,_,_,_,_,_,_,_,_,_,_,_⟩:=cells9 qb.out) | ((with_reducible refine gate_callee (f:=98) rfl ?_);refine glB 8 rfl rfl Tryz.func98 (JJ.calls k _ _ qe qw qI qH _ _ qv _ _ qu _ _ qr a1 qS _ (cv qD HB) qF.out (cv yd HB) yg.out (cv yM HB) yX.out (cv zr HB) Qh.out A3.out) (fun w7 hb=>?_);replace qb:=b1 qb hb;replace HB:=b2s bs hb;(try clear hb)));go_ret;exact ⟨o1,bs⟩
 ·obtain rfl:=Option.some.inj H;go_enter Tryz.func75,Tryz.ntmps75;go_wp2_with (first | ((with_reducible refine gate_dst (N:=2) rfl ?_);refine bxd (N:=2) rfl HB ?_;clear HB;intro qh w8 hg HB qb qC hb;have jj:=qC;clear hb hg;obtain ⟨_,_,_,_,_,_,_,_,_,_,_,_,_,_,_,_,_,_⟩:=cells9 qb.out) | ((with_reducible refine gate_callee (f:=98) rfl ?_);refine glB 8 rfl rfl Tryz.func98 (JJ.calls k _ _ qe qw qI qH _ _ qv _ _ qu _ _ qr a1 qS _ (cv qD HB) qF.out (cv yd HB) yg.out (cv yM HB) yX.out (cv zr HB) Qh.out A3.out) (fun w10 hb=>?_);replace qb:=b1 qb hb;replace HB:=b2s bs hb;(try clear hb)));go_ret;exact ⟨o1,bs⟩

def zo.l0:Nat→List (Xd)→Int→Int→Option (Int)
 | 0,_,_,_=>none
 | k+1,x0,x1,x5=>if x5 < (x0.length:Int) then (if 0≤x5 then ((Zp.f k ((qM x0 x5).f0.f0.f0) ((qM x0 x5).f0.f1) ((qM x0 x5).f0.f2) ((qM x0 x5).f0.f3) ((qM x0 x5).f0.f4.f0) ((qM x0 x5).f0.f5) ((qM x0 x5).f0.f6) ((qM x0 x5).f1) ((qM x0 x5).f2) x1).bind fun qS=>(if qS < 0 then (some (-1)) else (zo.l0 k x0 qS (wrap64 (x5+1))))) else (none)) else (some x1)
def zo.f (k:Nat) (l0:List (Xd)) (a1:Int):Option (Int):=if (wrap64 (a1 - (l0.length:Int))) < 0 then (some (-1)) else (zo.l0 k l0 (wrap64 (a1 - (l0.length:Int))) 0)
set_option maxHeartbeats 8000000 in
set_option maxRecDepth 100000 in
theorem zo.calls (k:Nat) (A0:Option Addr) (c0:Nat) (l0:List (Xd)) (a1:Int) (r:Int) (w:World) (hr0:Kd.C qd6 w A0 l0.length l0) (hc0:l0.length≤c0) (h:zo.f k l0 a1=some r) :
  Calls Tryz.prog 30 #[.slice A0 l0.length c0,.int .i64 a1] w fun e w'=>e=.returned (.int .i64 r)∧Below w.heap.size w w':=by
 have qkk:=Tryz.underlying116;have HR0:=ak hr0;have HC0:=ak hc0;clear hr0 hc0;have HB:=ak (Below.refl w.heap.size w);have H:(if (wrap64 (a1 - (l0.length:Int))) < 0 then (some (-1)) else (zo.l0 k l0 (wrap64 (a1 - (l0.length:Int))) 0))=some r:=h;clear h;replace H:=ip H;obtain ⟨c3b0,H⟩ | ⟨c3b0,H⟩:=H
 ·obtain rfl:=Option.some.inj H;go_enter Tryz.func30,Tryz.ntmps30;go_wp2;go_ret;exact ⟨o1,bw HB.out⟩
 ·have H':=ak H;clear H;go_enter Tryz.func30,Tryz.ntmps30;go_wp2;go_loopg [1,5] k (fun kq v1 v5 w'=>∃ (qaN:Int) (qg:Int),v1=.int .i64 qaN∧v5=.int .i64 qg∧Aside0 (zo.l0 kq l0 qaN qg=some r)∧Aside0 (kq≤k)∧Aside0 (Below w.heap.size w w'))
  case atStart=>exact ⟨(wrap64 (a1 - (l0.length:Int))),(0),o2,o2,H',⟨Nat.le_refl _⟩,⟨bw HB.out⟩⟩
  case round =>
   clear H';(try clear c3b0)
   obtain ⟨qaN,qg,rfl,rfl,HA,HK1,HB⟩:=hrel;cases gk with
   | zero=>exact absurd HA.out (by simp [zo.l0])
   | succ k1 =>
    have H:=HA.out;clear HA;simp only [zo.l0] at H;replace H:=ip H;obtain ⟨c4b0,H⟩ | ⟨c4b0,H⟩:=H
    ·replace H:=ipN H;obtain ⟨c5b0,H⟩:=H;replace H:=bnd H;obtain ⟨qS,A6,H⟩:=H;replace H:=ip H;obtain ⟨c7b0,H⟩ | ⟨c7b0,H⟩:=H
     ·obtain rfl:=Option.some.inj H;obtain ⟨qT,Zv,Zt,YY,YV,YX,YU,YW,YT,rfl,zw,Zb,Za,JZ,JY,JX,JW,qbv,qbu,yx,zD,Jb,Qu,Ja,Qt,QZ,Qs,Jv,Ju⟩:=el_T116 HR0 HB qg;go_wp2_with (((with_reducible refine gate_callee (f:=75) rfl ?_);refine glB 23 rfl rfl Tryz.func75 (Zp.calls k1 _ _ ((qM l0 qg).f0.f0.f0) ((qM l0 qg).f0.f1) ((qM l0 qg).f0.f2) ((qM l0 qg).f0.f3) _ _ ((qM l0 qg).f0.f4.f0) _ _ ((qM l0 qg).f0.f5) _ _ ((qM l0 qg).f0.f6) ((qM l0 qg).f1) ((qM l0 qg).f2) qaN qS _ (cv zD HB) yx.out (cv Qu HB) Jb.out (cv Qt HB) Ja.out (cv Qs HB) QZ.out A6.out) (fun w8 hb=>?_);replace HB:=b2 HB hb;(try clear hb)));go_ret;exact ⟨o1,bw HB.out⟩
     ·have H':=ak H;clear H;obtain ⟨qT,Zv,Zt,YY,YV,YX,YU,YW,YT,rfl,zw,Zb,Za,JZ,JY,JX,JW,qbv,qbu,yx,zD,Jb,Qu,Ja,Qt,QZ,Qs,Jv,Ju⟩:=el_T116 HR0 HB qg;go_wp2_with (((with_reducible refine gate_callee (f:=75) rfl ?_);refine glB 23 rfl rfl Tryz.func75 (Zp.calls k1 _ _ ((qM l0 qg).f0.f0.f0) ((qM l0 qg).f0.f1) ((qM l0 qg).f0.f2) ((qM l0 qg).f0.f3) _ _ ((qM l0 qg).f0.f4.f0) _ _ ((qM l0 qg).f0.f5) _ _ ((qM l0 qg).f0.f6) ((qM l0 qg).f1) ((qM l0 qg).f2) qaN qS _ (cv zD HB) yx.out (cv Qu HB) Jb.out (cv Qt HB) Ja.out (cv Qs HB) QZ.out A6.out) (fun w9 hb=>?_);replace HB:=b2 HB hb;(try clear hb)));go_roundg k1;case measure=>have:=HK1.out;omega
      case rel=>exact ⟨(qS),(wrap64 (qg+1)),o2,o2,H',⟨by have:=HK1.out;omega⟩,⟨bw HB.out⟩⟩
    ·obtain rfl:=Option.some.inj H;go_wp2;go_ret;exact ⟨o1,bw HB.out⟩

mutual
def jn.j0:Nat→List Int→Bool→Option (Bool)
 | 0,_,_=>none
 | k+1,x0,x11=>if x11=true then (some false) else (jn.l0 k x0 0)
def jn.l0:Nat→List Int→Int→Option (Bool)
 | 0,_,_=>none
 | k+1,x0,x3=>if x3 < (x0.length:Int) then (if 0≤x3 then (if (rd x0 x3) ≥ 97 then (if ((rd x0 x3)≤122) then (jn.l0 k x0 (wrap64 (x3+1))) else (if (rd x0 x3) ≥ 48 then (if ((rd x0 x3)≤57) then (jn.l0 k x0 (wrap64 (x3+1))) else (if (rd x0 x3)=45 then (jn.l0 k x0 (wrap64 (x3+1))) else (some false))) else (if (rd x0 x3)=45 then (jn.l0 k x0 (wrap64 (x3+1))) else (some false)))) else (if (rd x0 x3) ≥ 48 then (if ((rd x0 x3)≤57) then (jn.l0 k x0 (wrap64 (x3+1))) else (if (rd x0 x3)=45 then (jn.l0 k x0 (wrap64 (x3+1))) else (some false))) else (if (rd x0 x3)=45 then (jn.l0 k x0 (wrap64 (x3+1))) else (some false)))) else (none)) else (some true)
end
def jn.f (k:Nat) (l0:List Int):Option (Bool):=if (l0.length:Int) < 1 then (jn.j0 k l0 true) else (jn.j0 k l0 (decide ((l0.length:Int) > 15)))
set_option maxHeartbeats 8000000 in
set_option maxRecDepth 100000 in
theorem jn.calls (k:Nat) (A0:Option Addr) (c0:Nat) (l0:List Int) (r:Bool) (w:World) (hr0:Kd.C (Kd.int .u8) w A0 l0.length l0) (hc0:l0.length≤c0) (h:jn.f k l0=some r) :
  Calls Tryz.prog 42 #[.slice A0 l0.length c0] w fun e w'=>e=.returned (.bool r)∧Drawn0 w w':=by
 have HR0:=ak hr0;have HC0:=ak hc0;clear hr0 hc0;have H:(if (l0.length:Int) < 1 then (jn.j0 k l0 true) else (jn.j0 k l0 (decide ((l0.length:Int) > 15))))=some r:=h;clear h;have HC2:=ak H;clear H;go_enter Tryz.func42,Tryz.ntmps42;go_upto_region 1 with (fail)
 go_cut [11] (fun v11 wc=>∃ (kq:Nat) (qj4:Bool),v11=.bool qj4∧Aside0 (jn.j0 kq l0 qj4=some r)∧Aside0 (kq≤k)∧Drawn0 w wc)
 case first =>
  have H:=HC2.out;clear HC2;replace H:=ip H;obtain ⟨c3b0,H⟩ | ⟨c3b0,H⟩:=H
  ·have c3b1:decide (l0.length < 1)=true:=decide_eq_true (by have:=of_decide_eq_true c3b0;omega);(first | rw [c3b0] | (simp only [i64_w,i32_w];rw [c3b0]) | skip)
   have H':=ak H;clear H;go_wp2;go_meet
   case rel=>exact ⟨_,(true),o2,H',⟨o3⟩,od⟩
  ·have c3b1:decide (l0.length < 1)=false:=decide_eq_false (by have:=of_decide_eq_false c3b0;omega);(first | rw [c3b0] | (simp only [i64_w,i32_w];rw [c3b0]) | skip)
   have H':=ak H;clear H;go_wp2;go_meet
   case rel=>exact ⟨_,(decide ((l0.length:Int) > 15)),o2,H',⟨o3⟩,od⟩
 case rest =>
  clear HC2;obtain ⟨kq,qj4,rfl,HA,HJ1,⟨mc1,rfl⟩⟩:=hcut;cases kq with
  | zero=>exact absurd HA.out (by simp [jn.j0])
  | succ kj1 =>
   have H:=HA.out;clear HA;simp only [jn.j0] at H;replace H:=ib H;obtain ⟨rfl,H⟩ | ⟨rfl,H⟩:=H
   ·obtain rfl:=Option.some.inj H;go_wp2;go_ret;exact ⟨o2,od⟩
   ·have H':=ak H;clear H;go_wp2;go_loopg [3] kj1 (fun kq v3 w'=>∃ (zz:Int),v3=.int .i64 zz∧Aside0 (jn.l0 kq l0 zz=some r)∧Aside0 (kq≤kj1)∧Drawn0 w w')
    case atStart=>exact ⟨(0),o2,H',⟨Nat.le_refl _⟩,od⟩
    case round =>
     clear H';obtain ⟨zz,rfl,HA,HK2,⟨m2,rfl⟩⟩:=hrel;cases gk with
     | zero=>exact absurd HA.out (by simp [jn.l0])
     | succ k2 =>
      have H:=HA.out;clear HA;simp only [jn.l0] at H;replace H:=ip H;obtain ⟨c5b0,H⟩ | ⟨c5b0,H⟩:=H
      ·replace H:=ipN H;obtain ⟨c6b0,H⟩:=H;replace H:=ih H;obtain ⟨c7b0,H⟩ | ⟨c7b0,H⟩:=H
       ·replace H:=ip H;obtain ⟨c8b0,H⟩ | ⟨c8b0,H⟩:=H
        ·have H':=ak H;clear H;obtain ⟨qT,rfl,zw,Jv,Ju⟩:=el0_int HR0 zz;obtain ⟨yE,Xc,Xb⟩:=el20_int HR0 zz;go_wp2;go_roundg k2;case measure=>have:=HJ1.out;have:=HK2.out;omega
         case rel=>exact ⟨(wrap64 (zz+1)),o2,H',⟨by have:=HJ1.out;have:=HK2.out;omega⟩,od⟩
        ·replace H:=ih H;obtain ⟨c9b0,H⟩ | ⟨c9b0,H⟩:=H
         ·replace H:=ip H;obtain ⟨c10b0,H⟩ | ⟨c10b0,H⟩:=H
          ·have H':=ak H;clear H;obtain ⟨qT,rfl,zw,Jv,Ju⟩:=el0_int HR0 zz;obtain ⟨yE,Xc,Xb⟩:=el20_int HR0 zz;obtain ⟨QD,Zg,Zf⟩:=el20_int HR0 zz;obtain ⟨Xj,qbV,qbT⟩:=el20_int HR0 zz;go_wp2;go_roundg k2;case measure=>have:=HJ1.out;have:=HK2.out;omega
           case rel=>exact ⟨(wrap64 (zz+1)),o2,H',⟨by have:=HJ1.out;have:=HK2.out;omega⟩,od⟩
          ·replace H:=ie H;obtain ⟨c11b0,c11b1,H⟩ | ⟨c11b0,c11b1,H⟩:=H
           ·have H':=ak H;clear H;obtain ⟨qT,rfl,zw,Jv,Ju⟩:=el0_int HR0 zz;obtain ⟨yE,Xc,Xb⟩:=el20_int HR0 zz;obtain ⟨QD,Zg,Zf⟩:=el20_int HR0 zz;obtain ⟨Xj,qbV,qbT⟩:=el20_int HR0 zz;obtain ⟨zk,QB,QA⟩:=el20_int HR0 zz;go_wp2;go_roundg k2;case measure=>have:=HJ1.out;have:=HK2.out;omega
            case rel=>exact ⟨(wrap64 (zz+1)),o2,H',⟨by have:=HJ1.out;have:=HK2.out;omega⟩,od⟩
           ·obtain rfl:=Option.some.inj H;obtain ⟨qT,rfl,zw,Jv,Ju⟩:=el0_int HR0 zz;obtain ⟨yE,Xc,Xb⟩:=el20_int HR0 zz;obtain ⟨QD,Zg,Zf⟩:=el20_int HR0 zz;obtain ⟨Xj,qbV,qbT⟩:=el20_int HR0 zz;obtain ⟨zk,QB,QA⟩:=el20_int HR0 zz;go_wp2;go_ret;exact ⟨o2,od⟩
         ·replace H:=ie H;obtain ⟨c12b0,c12b1,H⟩ | ⟨c12b0,c12b1,H⟩:=H
          ·have H':=ak H;clear H;obtain ⟨qT,rfl,zw,Jv,Ju⟩:=el0_int HR0 zz;obtain ⟨yE,Xc,Xb⟩:=el20_int HR0 zz;obtain ⟨QD,Zg,Zf⟩:=el20_int HR0 zz;obtain ⟨yZ,QV,QU⟩:=el20_int HR0 zz;go_wp2;go_roundg k2;case measure=>have:=HJ1.out;have:=HK2.out;omega
           case rel=>exact ⟨(wrap64 (zz+1)),o2,H',⟨by have:=HJ1.out;have:=HK2.out;omega⟩,od⟩
          ·obtain rfl:=Option.some.inj H;obtain ⟨qT,rfl,zw,Jv,Ju⟩:=el0_int HR0 zz;obtain ⟨yE,Xc,Xb⟩:=el20_int HR0 zz;obtain ⟨QD,Zg,Zf⟩:=el20_int HR0 zz;obtain ⟨yZ,QV,QU⟩:=el20_int HR0 zz;go_wp2;go_ret;exact ⟨o2,od⟩
       ·replace H:=ih H;obtain ⟨c13b0,H⟩ | ⟨c13b0,H⟩:=H
        ·replace H:=ip H;obtain ⟨c14b0,H⟩ | ⟨c14b0,H⟩:=H
         ·have H':=ak H;clear H;obtain ⟨qT,rfl,zw,Jv,Ju⟩:=el0_int HR0 zz;obtain ⟨QI,XQ,XO⟩:=el20_int HR0 zz;obtain ⟨Yp,qcJ,qcI⟩:=el20_int HR0 zz;go_wp2;go_roundg k2;case measure=>have:=HJ1.out;have:=HK2.out;omega
          case rel=>exact ⟨(wrap64 (zz+1)),o2,H',⟨by have:=HJ1.out;have:=HK2.out;omega⟩,od⟩
         ·replace H:=ie H;obtain ⟨c15b0,c15b1,H⟩ | ⟨c15b0,c15b1,H⟩:=H
          ·have H':=ak H;clear H;obtain ⟨qT,rfl,zw,Jv,Ju⟩:=el0_int HR0 zz;obtain ⟨QI,XQ,XO⟩:=el20_int HR0 zz;obtain ⟨Yp,qcJ,qcI⟩:=el20_int HR0 zz;obtain ⟨qaU,qbU,qbS⟩:=el20_int HR0 zz;go_wp2;go_roundg k2;case measure=>have:=HJ1.out;have:=HK2.out;omega
           case rel=>exact ⟨(wrap64 (zz+1)),o2,H',⟨by have:=HJ1.out;have:=HK2.out;omega⟩,od⟩
          ·obtain rfl:=Option.some.inj H;obtain ⟨qT,rfl,zw,Jv,Ju⟩:=el0_int HR0 zz;obtain ⟨QI,XQ,XO⟩:=el20_int HR0 zz;obtain ⟨Yp,qcJ,qcI⟩:=el20_int HR0 zz;obtain ⟨qaU,qbU,qbS⟩:=el20_int HR0 zz;go_wp2;go_ret;exact ⟨o2,od⟩
        ·replace H:=ie H;obtain ⟨c16b0,c16b1,H⟩ | ⟨c16b0,c16b1,H⟩:=H
         ·have H':=ak H;clear H;obtain ⟨qT,rfl,zw,Jv,Ju⟩:=el0_int HR0 zz;obtain ⟨QI,XQ,XO⟩:=el20_int HR0 zz;obtain ⟨qeE,qgv,qgt⟩:=el20_int HR0 zz;go_wp2;go_roundg k2;case measure=>have:=HJ1.out;have:=HK2.out;omega
          case rel=>exact ⟨(wrap64 (zz+1)),o2,H',⟨by have:=HJ1.out;have:=HK2.out;omega⟩,od⟩
         ·obtain rfl:=Option.some.inj H;obtain ⟨qT,rfl,zw,Jv,Ju⟩:=el0_int HR0 zz;obtain ⟨QI,XQ,XO⟩:=el20_int HR0 zz;obtain ⟨qeE,qgv,qgt⟩:=el20_int HR0 zz;go_wp2;go_ret;exact ⟨o2,od⟩
      ·obtain rfl:=Option.some.inj H;go_wp2;go_ret;exact ⟨o2,od⟩

def jk.l0:Nat→Int→List (List Int)→Option (Bool)
 | 0,_,_=>none
 | k+1,x3,qB=>if x3 < (qB.length:Int) then (if 0≤x3 then ((jn.f k (qX qB x3)).bind fun qQ=>(if qQ=true then (jk.l0 k (wrap64 (x3+1)) qB) else (some false))) else (none)) else (some true)
def jk.f (k:Nat) (qe:List (List Int)):Option (Bool):=if (qe.length:Int) > 6 then (some false) else (jk.l0 k 0 qe)
set_option maxHeartbeats 8000000 in
set_option maxRecDepth 100000 in
theorem jk.calls (k:Nat) (qy:Option Addr) (qx:Nat) (qe:List (List Int)) (r:Bool) (w:World) (qO:Kd.C (Kd.slice 5 (Kd.int .u8)) w qy qe.length qe) (qW:qe.length≤qx) (h:jk.f k qe=some r) :
  Calls Tryz.prog 119 #[.agg #[.slice qy qe.length qx]] w fun e w'=>e=.returned (.bool r)∧Below w.heap.size w w':=by
 have ZQ:=Tryz.underlying65;have qD:=ak qO;have qF:=ak qW;clear qO qW;have HB:=ak (Below.refl w.heap.size w);have H:(if (qe.length:Int) > 6 then (some false) else (jk.l0 k 0 qe))=some r:=h;clear h;replace H:=ig H;obtain ⟨c2b0,H⟩ | ⟨c2b0,H⟩:=H
 ·have c2b1:decide (6 < qe.length)=true:=decide_eq_true (by have:=of_decide_eq_true c2b0;omega);obtain rfl:=Option.some.inj H;go_enter Tryz.func119,Tryz.ntmps119;go_wp2_with (((with_reducible refine gate_dst (N:=1) rfl ?_);refine bxd (N:=1) rfl HB ?_;clear HB;intro qh w3 hg HB qb qC hb;have jj:=qC;clear hb hg;obtain ⟨qds,qdh⟩:=cells1 qb.out));go_ret;exact ⟨o1,bs⟩
 ·have c2b1:decide (6 < qe.length)=false:=decide_eq_false (by have:=of_decide_eq_false c2b0;omega);have H':=ak H;clear H;go_enter Tryz.func119,Tryz.ntmps119;go_wp2_with (((with_reducible refine gate_dst (N:=1) rfl ?_);refine bxd (N:=1) rfl HB ?_;clear HB;intro qh w5 hg HB qb qC hb;have jj:=qC;clear hb hg;obtain ⟨qeg,qd8⟩:=cells1 qb.out));go_loopg [3] k (fun kq v3 w'=>∃ (jo:Int),v3=.int .i64 jo∧Aside0 (jk.l0 kq jo qe=some r)∧Aside0 (kq≤k)∧Aside0 (w'.heap[qh]?=some (.cells #[(.slice qy qe.length qx)] 65 (0,0)))∧Aside0 (Below w.heap.size w w'))
  case atStart=>exact ⟨(0),o2,H',⟨Nat.le_refl _⟩,⟨bk qb.out⟩,⟨bs⟩⟩
  case round =>
   clear H';(try clear c2b0)
   (try clear c2b1)
   (try clear qeg)
   (try clear qd8)
   obtain ⟨jo,rfl,HA,HK1,qb,HB⟩:=hrel;cases gk with
   | zero=>exact absurd HA.out (by simp [jk.l0])
   | succ k1 =>
    have H:=HA.out;clear HA;simp only [jk.l0] at H;replace H:=ip H;obtain ⟨c7b0,H⟩ | ⟨c7b0,H⟩:=H
    ·replace H:=ipN H;obtain ⟨c8b0,H⟩:=H;replace H:=bnd H;obtain ⟨qQ,A9,H⟩:=H;replace H:=ib H;obtain ⟨rfl,H⟩ | ⟨rfl,H⟩:=H
     ·have H':=ak H;clear H;obtain ⟨YQ,YO⟩:=cells1 qb.out;obtain ⟨qJ,JP,JO,rfl,yE,yU,zy,Xc,Xb⟩:=el_L10 qD HB jo;go_wp2_with (((with_reducible refine gate_callee (f:=42) rfl ?_);refine glD 20 rfl rfl Tryz.func42 (jn.calls k1 _ _ (qX qe jo) true _ (cv zy HB) yU.out A9.out) (fun nd=>?_)));go_roundg k1;case measure=>have:=HK1.out;omega
      case rel=>exact ⟨(wrap64 (jo+1)),o2,H',⟨by have:=HK1.out;omega⟩,⟨bk qb.out⟩,⟨bs⟩⟩
     ·obtain rfl:=Option.some.inj H;obtain ⟨qbB,qby⟩:=cells1 qb.out;obtain ⟨qJ,JP,JO,rfl,yE,yU,zy,Xc,Xb⟩:=el_L10 qD HB jo;go_wp2_with (((with_reducible refine gate_callee (f:=42) rfl ?_);refine glD 20 rfl rfl Tryz.func42 (jn.calls k1 _ _ (qX qe jo) false _ (cv zy HB) yU.out A9.out) (fun nd=>?_)));go_ret;exact ⟨o1,bs⟩
    ·obtain rfl:=Option.some.inj H;obtain ⟨qa0,qaZ⟩:=cells1 qb.out;go_wp2;go_ret;exact ⟨o1,bs⟩

def Qz.f (a0:Int):Option (Bool):=if a0=1 then (some true) else (if a0=2 then (some true) else (if a0=5 then (some true) else (if a0=6 then (some true) else (if a0=12 then (some true) else (if a0=16 then (some true) else (if a0=49 then (some true) else (some false)))))))
set_option maxHeartbeats 8000000 in
set_option maxRecDepth 100000 in
theorem Qz.calls (a0:Int) (r:Bool) (w:World) (h:Qz.f a0=some r) :
  Calls Tryz.prog 169 #[.int .i64 a0] w fun e w'=>e=.returned (.bool r)∧Drawn0 w w':=by
 have H:(if a0=1 then (some true) else (if a0=2 then (some true) else (if a0=5 then (some true) else (if a0=6 then (some true) else (if a0=12 then (some true) else (if a0=16 then (some true) else (if a0=49 then (some true) else (some false))))))))=some r:=h;clear h;replace H:=ie H;obtain ⟨c2b0,c2b1,H⟩ | ⟨c2b0,c2b1,H⟩:=H
 ·obtain rfl:=Option.some.inj H;go_enter Tryz.func169,Tryz.ntmps169;go_wp2;go_ret;exact ⟨o2,od⟩
 ·replace H:=ie H;obtain ⟨c3b0,c3b1,H⟩ | ⟨c3b0,c3b1,H⟩:=H
  ·obtain rfl:=Option.some.inj H;go_enter Tryz.func169,Tryz.ntmps169;go_wp2;go_ret;exact ⟨o2,od⟩
  ·replace H:=ie H;obtain ⟨c4b0,c4b1,H⟩ | ⟨c4b0,c4b1,H⟩:=H
   ·obtain rfl:=Option.some.inj H;go_enter Tryz.func169,Tryz.ntmps169;go_wp2;go_ret;exact ⟨o2,od⟩
   ·replace H:=ie H;obtain ⟨c5b0,c5b1,H⟩ | ⟨c5b0,c5b1,H⟩:=H
    ·obtain rfl:=Option.some.inj H;go_enter Tryz.func169,Tryz.ntmps169;go_wp2;go_ret;exact ⟨o2,od⟩
    ·replace H:=ie H;obtain ⟨c6b0,c6b1,H⟩ | ⟨c6b0,c6b1,H⟩:=H
     ·obtain rfl:=Option.some.inj H;go_enter Tryz.func169,Tryz.ntmps169;go_wp2;go_ret;exact ⟨o2,od⟩
     ·replace H:=ie H;obtain ⟨c7b0,c7b1,H⟩ | ⟨c7b0,c7b1,H⟩:=H
      ·obtain rfl:=Option.some.inj H;go_enter Tryz.func169,Tryz.ntmps169;go_wp2;go_ret;exact ⟨o2,od⟩
      ·replace H:=ie H;obtain ⟨c8b0,c8b1,H⟩ | ⟨c8b0,c8b1,H⟩:=H
       ·obtain rfl:=Option.some.inj H;go_enter Tryz.func169,Tryz.ntmps169;go_wp2;go_ret;exact ⟨o2,od⟩
       ·obtain rfl:=Option.some.inj H;go_enter Tryz.func169,Tryz.ntmps169;go_wp2;go_ret;exact ⟨o2,od⟩

def Jh.f (a0:Int):Option (Bool):=if a0=2 then (some true) else (if a0=5 then (some true) else (if a0=6 then (some true) else (some (a0 == 12))))
set_option maxHeartbeats 8000000 in
set_option maxRecDepth 100000 in
theorem Jh.calls (a0:Int) (r:Bool) (w:World) (h:Jh.f a0=some r) :
  Calls Tryz.prog 205 #[.int .i64 a0] w fun e w'=>e=.returned (.bool r)∧Drawn0 w w':=by
 have H:(if a0=2 then (some true) else (if a0=5 then (some true) else (if a0=6 then (some true) else (some (a0 == 12)))))=some r:=h;clear h;replace H:=ie H;obtain ⟨c2b0,c2b1,H⟩ | ⟨c2b0,c2b1,H⟩:=H
 ·obtain rfl:=Option.some.inj H;go_enter Tryz.func205,Tryz.ntmps205;go_wp2;go_ret;exact ⟨o2,od⟩
 ·replace H:=ie H;obtain ⟨c3b0,c3b1,H⟩ | ⟨c3b0,c3b1,H⟩:=H
  ·obtain rfl:=Option.some.inj H;go_enter Tryz.func205,Tryz.ntmps205;go_wp2;go_ret;exact ⟨o2,od⟩
  ·replace H:=ie H;obtain ⟨c4b0,c4b1,H⟩ | ⟨c4b0,c4b1,H⟩:=H
   ·obtain rfl:=Option.some.inj H;go_enter Tryz.func205,Tryz.ntmps205;go_wp2;go_ret;exact ⟨o2,od⟩
   ·obtain rfl:=Option.some.inj H;go_enter Tryz.func205,Tryz.ntmps205;go_wp2;go_ret;exact ⟨o2,od⟩

def Yz.f (a0:Int):Option (Bool):=if a0=16 then (some true) else (some (a0 == 49))
set_option maxHeartbeats 8000000 in
set_option maxRecDepth 100000 in
theorem Yz.calls (a0:Int) (r:Bool) (w:World) (h:Yz.f a0=some r) :
  Calls Tryz.prog 209 #[.int .i64 a0] w fun e w'=>e=.returned (.bool r)∧Drawn0 w w':=by
 have H:(if a0=16 then (some true) else (some (a0 == 49)))=some r:=h;clear h;replace H:=ie H;obtain ⟨c2b0,c2b1,H⟩ | ⟨c2b0,c2b1,H⟩:=H
 ·obtain rfl:=Option.some.inj H;go_enter Tryz.func209,Tryz.ntmps209;go_wp2;go_ret;exact ⟨o2,od⟩
 ·obtain rfl:=Option.some.inj H;go_enter Tryz.func209,Tryz.ntmps209;go_wp2;go_ret;exact ⟨o2,od⟩

mutual
def ju.j0:Nat→List (List Int)→Int→Int→Int→List (List Int)→List Int→List Int→Option (Bool)
 | 0,_,_,_,_,_,_,_=>none
 | k+1,qB,ql,yK,yD,yw,yv,za=>(Jh.f ql).bind fun qS=>(if qS=true then ((jk.f k yw).bind fun qQ=>(if qQ=true then (ju.j1 k qB ql yK yD yw yv za) else (some false))) else (if (yw.length:Int) > 0 then (some false) else (ju.j1 k qB ql yK yD yw yv za)))
def ju.j1:Nat→List (List Int)→Int→Int→Int→List (List Int)→List Int→List Int→Option (Bool)
 | 0,_,_,_,_,_,_,_=>none
 | k+1,qB,ql,yK,yD,yw,yv,za=>(Yz.f ql).bind fun qE=>(if qE=true then (if (yv.length:Int) > 40 then (some false) else (ju.j2 k qB ql yK yD yw yv za)) else (if (yv.length:Int) > 0 then (some false) else (ju.j2 k qB ql yK yD yw yv za)))
def ju.j2:Nat→List (List Int)→Int→Int→Int→List (List Int)→List Int→List Int→Option (Bool)
 | 0,_,_,_,_,_,_,_=>none
 | k+1,qB,ql,yK,yD,yw,yv,za=>if ql=6 then (if (za.length:Int)=2 then (if 0 < (za.length:Int) then (if (rd za 0) < 0 then (some false) else (if (rd za 0) ≥ 4294967296 then (some false) else (if 1 < (za.length:Int) then (if (rd za 1) ≥ 0 then (some (decide ((rd za 1)≤100000))) else (some false)) else (none)))) else (none)) else (some false)) else (some ((za.length:Int) == 0))
end
def ju.f (k:Nat) (qe:List (List Int)) (qw:Int) (qI:Int) (qH:Int) (qv:List (List Int)) (qu:List Int) (qr:List Int):Option (Bool):=if qw=1 then (if qH < 0 then (some false) else (if qH ≥ 4294967296 then (some false) else (ju.j0 k qe qw qI qH qv qu qr))) else (if qH=0 then (ju.j0 k qe qw qI qH qv qu qr) else (some false))
set_option maxHeartbeats 8000000 in
set_option maxRecDepth 100000 in
theorem ju.calls (k:Nat) (qy:Option Addr) (qx:Nat) (qe:List (List Int)) (qw:Int) (qI:Int) (qH:Int) (zB:Option Addr) (zA:Nat) (qv:List (List Int)) (zN:Option Addr) (zJ:Nat) (qu:List Int) (zT:Option Addr) (zI:Nat) (qr:List Int) (r:Bool) (w:World) (qO:Kd.C (Kd.slice 5 (Kd.int .u8)) w qy qe.length qe) (qW:qe.length≤qx) (yn:Kd.C (Kd.slice 5 (Kd.int .u8)) w zB qv.length qv) (yt:qv.length≤zA) (ym:Kd.C (Kd.int .u8) w zN qu.length qu) (yr:qu.length≤zJ) (yl:Kd.C (Kd.int .i64) w zT qr.length qr) (yq:qr.length≤zI) (h:ju.f k qe qw qI qH qv qu qr=some r) :
  Calls Tryz.prog 182 #[.agg #[.slice qy qe.length qx,.int .i64 qw,.int .i64 qI,.int .i64 qH,.slice zB qv.length zA,.slice zN qu.length zJ,.slice zT qr.length zI]] w fun e w'=>e=.returned (.bool r)∧Below w.heap.size w w':=by
 have Yq:=Tryz.underlying105;have ZQ:=Tryz.underlying65;have qD:=ak qO;have qF:=ak qW;clear qO qW;have yd:=ak yn;have yg:=ak yt;clear yn yt;have yM:=ak ym;have yX:=ak yr;clear ym yr;have zr:=ak yl;have Qh:=ak yq;clear yl yq;have HB:=ak (Below.refl w.heap.size w);have H:(if qw=1 then (if qH < 0 then (some false) else (if qH ≥ 4294967296 then (some false) else (ju.j0 k qe qw qI qH qv qu qr))) else (if qH=0 then (ju.j0 k qe qw qI qH qv qu qr) else (some false)))=some r:=h;clear h;have HC2:=ak H;clear H;go_enter Tryz.func182,Tryz.ntmps182;go_upto_if 5 with (((with_reducible refine gate_dst (N:=1) rfl ?_);refine bxd (N:=1) rfl HB ?_;clear HB;intro qh w3 hg HB qb qC hb;have jj:=qC;clear hb hg;obtain ⟨qds,qem,qel,qek,qej,qei,qeh,qdh,qee,qed,qec,qeb,qea,qd9⟩:=cells7 qb.out))
 (try simp only [Act.put,List.setIfInBounds_toArray,List.set_cons_zero,List.set_cons_succ])
 go_cut [] (fun wc=>∃ (kq:Nat),Aside0 (ju.j0 kq qe qw qI qH qv qu qr=some r)∧Aside0 (kq≤k)∧Aside0 (wc.heap[qh]?=some (.cells #[(.slice qy qe.length qx),.int .i64 qw,.int .i64 qI,.int .i64 qH,(.slice zB qv.length zA),(.slice zN qu.length zJ),(.slice zT qr.length zI)] 105 (0,0)))∧Aside0 (Below w.heap.size w wc))
 case first =>
  have H:=HC2.out;clear HC2;replace H:=ie H;obtain ⟨c5b0,c5b1,H⟩ | ⟨c5b0,c5b1,H⟩:=H
  ·(first | rw [c5b0] | (simp only [i64_w,i32_w];rw [c5b0]) | skip)
   replace H:=ip H;obtain ⟨c6b0,H⟩ | ⟨c6b0,H⟩:=H
   ·obtain rfl:=Option.some.inj H;obtain ⟨_,_,_,_,_,_,_,_,_,_,_,_,_,_⟩:=cells7 qb.out;go_wp2;go_ret;exact ⟨o1,bs⟩
   ·replace H:=ih H;obtain ⟨c8b0,H⟩ | ⟨c8b0,H⟩:=H
    ·obtain rfl:=Option.some.inj H;obtain ⟨_,_,_,_,_,_,_,_,_,_,_,_,_,_⟩:=cells7 qb.out;go_wp2;go_ret;exact ⟨o1,bs⟩
    ·have H':=ak H;clear H;obtain ⟨_,_,_,_,_,_,_,_,_,_,_,_,_,_⟩:=cells7 qb.out;go_wp2;go_meet
     case rel=>exact ⟨_,H',⟨o3⟩,⟨bk qb.out⟩,⟨bs⟩⟩
  ·(first | rw [c5b0] | (simp only [i64_w,i32_w];rw [c5b0]) | skip)
   replace H:=ie H;obtain ⟨c11b0,c11b1,H⟩ | ⟨c11b0,c11b1,H⟩:=H
   ·have H':=ak H;clear H;obtain ⟨_,_,_,_,_,_,_,_,_,_,_,_,_,_⟩:=cells7 qb.out;go_wp2;go_meet
    case rel=>exact ⟨_,H',⟨o3⟩,⟨bk qb.out⟩,⟨bs⟩⟩
   ·obtain rfl:=Option.some.inj H;obtain ⟨_,_,_,_,_,_,_,_,_,_,_,_,_,_⟩:=cells7 qb.out;go_wp2;go_ret;exact ⟨o1,bs⟩
 case rest =>
  clear HC2;(try clear qds)
  (try clear qem)
  (try clear qel)
  (try clear qek)
  (try clear qej)
  (try clear qei)
  (try clear qeh)
  (try clear qdh)
  (try clear qee)
  (try clear qed)
  (try clear qec)
  (try clear qeb)
  (try clear qea)
  (try clear qd9)
  obtain ⟨kq,HA,HJ1,qb,HB⟩:=hcut;cases kq with
  | zero=>exact absurd HA.out (by simp [ju.j0])
  | succ kj1 =>
   have H:=HA.out;clear HA;simp only [ju.j0] at H;replace H:=bnd H;obtain ⟨qS,A14,H⟩:=H;have qlA:=ak H;clear H;obtain ⟨qcp,qdx,qjL,qjK,qjJ,qjI,qjH,qcj,qdm,qjE,qjD,qjC,qjB,qjA⟩:=cells7 qb.out;go_upto_if 19 with (((with_reducible refine gate_callee (f:=205) rfl ?_);refine glD 19 rfl rfl Tryz.func205 (Jh.calls qw qS _ A14.out) (fun nd=>?_)))
   (try simp only [Act.put,List.setIfInBounds_toArray,List.set_cons_zero,List.set_cons_succ])
   go_cut [] (fun wc=>∃ (kq:Nat),Aside0 (ju.j1 kq qe qw qI qH qv qu qr=some r)∧Aside0 (kq≤kj1)∧Aside0 (wc.heap[qh]?=some (.cells #[(.slice qy qe.length qx),.int .i64 qw,.int .i64 qI,.int .i64 qH,(.slice zB qv.length zA),(.slice zN qu.length zJ),(.slice zT qr.length zI)] 105 (0,0)))∧Aside0 (Below w.heap.size w wc))
   case first =>
    have H:=qlA.out;clear qlA;replace H:=ib H;obtain ⟨rfl,H⟩ | ⟨rfl,H⟩:=H
    ·replace H:=bnd H;obtain ⟨qQ,A18,H⟩:=H;replace H:=ib H;obtain ⟨rfl,H⟩ | ⟨rfl,H⟩:=H
     ·have H':=ak H;clear H;obtain ⟨_,_,_,_,_,_,_,_,_,_,_,_,_,_⟩:=cells7 qb.out;go_wp2_with (((with_reducible refine gate_callee (f:=119) rfl ?_);refine glB 22 rfl rfl Tryz.func119 (jk.calls kj1 _ _ qv true _ (cv yd HB) yg.out A18.out) (fun w21 hb=>?_);replace qb:=b1 qb hb;replace HB:=b2s bs hb;(try clear hb)));go_meet
      case rel=>exact ⟨_,H',⟨by have:=HJ1.out;first | omega | exact Nat.le_refl _⟩,⟨bk qb.out⟩,⟨bs⟩⟩
     ·obtain rfl:=Option.some.inj H;obtain ⟨_,_,_,_,_,_,_,_,_,_,_,_,_,_⟩:=cells7 qb.out;go_wp2_with (((with_reducible refine gate_callee (f:=119) rfl ?_);refine glB 22 rfl rfl Tryz.func119 (jk.calls kj1 _ _ qv false _ (cv yd HB) yg.out A18.out) (fun w23 hb=>?_);replace qb:=b1 qb hb;replace HB:=b2s bs hb;(try clear hb)));go_ret;exact ⟨o1,bs⟩
    ·replace H:=ig H;obtain ⟨c24b0,H⟩ | ⟨c24b0,H⟩:=H
     ·have c24b1:decide (0 < qv.length)=true:=decide_eq_true (by have:=of_decide_eq_true c24b0;omega);(first | rw [c24b0] | (simp only [i64_w,i32_w];rw [c24b0]) | skip)
      obtain rfl:=Option.some.inj H;obtain ⟨_,_,_,_,_,_,_,_,_,_,_,_,_,_⟩:=cells7 qb.out;go_wp2;go_ret;exact ⟨o1,bs⟩
     ·have c24b1:decide (0 < qv.length)=false:=decide_eq_false (by have:=of_decide_eq_false c24b0;omega);(first | rw [c24b0] | (simp only [i64_w,i32_w];rw [c24b0]) | skip)
      have H':=ak H;clear H;obtain ⟨_,_,_,_,_,_,_,_,_,_,_,_,_,_⟩:=cells7 qb.out;go_wp2;go_meet
      case rel=>exact ⟨_,H',⟨by have:=HJ1.out;first | omega | exact Nat.le_refl _⟩,⟨bk qb.out⟩,⟨bs⟩⟩
   case rest =>
    clear qlA;(try clear qcp)
    (try clear qdx)
    (try clear qjL)
    (try clear qjK)
    (try clear qjJ)
    (try clear qjI)
    (try clear qjH)
    (try clear qds)
    (try clear qem)
    (try clear qel)
    (try clear qek)
    (try clear qej)
    (try clear qei)
    (try clear qeh)
    (try clear qcj)
    (try clear qdm)
    (try clear qjE)
    (try clear qjD)
    (try clear qjC)
    (try clear qjB)
    (try clear qjA)
    (try clear qdh)
    (try clear qee)
    (try clear qed)
    (try clear qec)
    (try clear qeb)
    (try clear qea)
    (try clear qd9)
    obtain ⟨kq,HA,qoV,qb,HB⟩:=hcut;cases kq with
    | zero=>exact absurd HA.out (by simp [ju.j1])
    | succ qqx =>
     have H:=HA.out;clear HA;simp only [ju.j1] at H;replace H:=bnd H;obtain ⟨qE,A27,H⟩:=H;have qlv:=ak H;clear H;obtain ⟨qhn,qjF,qm8,qm7,qm6,qm5,qm4,qgX,qjy,qmL,qmK,qmJ,qmI,qmH⟩:=cells7 qb.out;go_upto_if 31 with (((with_reducible refine gate_callee (f:=209) rfl ?_);refine glD 31 rfl rfl Tryz.func209 (Yz.calls qw qE _ A27.out) (fun nd=>?_)))
     (try simp only [Act.put,List.setIfInBounds_toArray,List.set_cons_zero,List.set_cons_succ])
     go_cut [] (fun wc=>∃ (kq:Nat),Aside0 (ju.j2 kq qe qw qI qH qv qu qr=some r)∧Aside0 (kq≤qqx)∧Aside0 (wc.heap[qh]?=some (.cells #[(.slice qy qe.length qx),.int .i64 qw,.int .i64 qI,.int .i64 qH,(.slice zB qv.length zA),(.slice zN qu.length zJ),(.slice zT qr.length zI)] 105 (0,0)))∧Aside0 (Below w.heap.size w wc))
     case first =>
      have H:=qlv.out;clear qlv;replace H:=ib H;obtain ⟨rfl,H⟩ | ⟨rfl,H⟩:=H
      ·replace H:=ig H;obtain ⟨c31b0,H⟩ | ⟨c31b0,H⟩:=H
       ·have c31b1:decide (40 < qu.length)=true:=decide_eq_true (by have:=of_decide_eq_true c31b0;omega);(first | rw [c31b0] | (simp only [i64_w,i32_w];rw [c31b0]) | skip)
        obtain rfl:=Option.some.inj H;obtain ⟨_,_,_,_,_,_,_,_,_,_,_,_,_,_⟩:=cells7 qb.out;go_wp2;go_ret;exact ⟨o1,bs⟩
       ·have c31b1:decide (40 < qu.length)=false:=decide_eq_false (by have:=of_decide_eq_false c31b0;omega);(first | rw [c31b0] | (simp only [i64_w,i32_w];rw [c31b0]) | skip)
        have H':=ak H;clear H;obtain ⟨_,_,_,_,_,_,_,_,_,_,_,_,_,_⟩:=cells7 qb.out;go_wp2;go_meet
        case rel=>exact ⟨_,H',⟨by have:=HJ1.out;have:=qoV.out;first | omega | exact Nat.le_refl _⟩,⟨bk qb.out⟩,⟨bs⟩⟩
      ·replace H:=ig H;obtain ⟨c34b0,H⟩ | ⟨c34b0,H⟩:=H
       ·have c34b1:decide (0 < qu.length)=true:=decide_eq_true (by have:=of_decide_eq_true c34b0;omega);obtain rfl:=Option.some.inj H;obtain ⟨_,_,_,_,_,_,_,_,_,_,_,_,_,_⟩:=cells7 qb.out;go_wp2;go_ret;exact ⟨o1,bs⟩
       ·have c34b1:decide (0 < qu.length)=false:=decide_eq_false (by have:=of_decide_eq_false c34b0;omega);have H':=ak H;clear H;obtain ⟨_,_,_,_,_,_,_,_,_,_,_,_,_,_⟩:=cells7 qb.out;go_wp2;go_meet
        case rel=>exact ⟨_,H',⟨by have:=HJ1.out;have:=qoV.out;first | omega | exact Nat.le_refl _⟩,⟨bk qb.out⟩,⟨bs⟩⟩
     case rest =>
      clear qlv;(try clear qcp)
      (try clear qdx)
      (try clear qjL)
      (try clear qjK)
      (try clear qjJ)
      (try clear qjI)
      (try clear qjH)
      (try clear qhn)
      (try clear qjF)
      (try clear qm8)
      (try clear qm7)
      (try clear qm6)
      (try clear qm5)
      (try clear qm4)
      (try clear qds)
      (try clear qem)
      (try clear qel)
      (try clear qek)
      (try clear qej)
      (try clear qei)
      (try clear qeh)
      (try clear qcj)
      (try clear qdm)
      (try clear qjE)
      (try clear qjD)
      (try clear qjC)
      (try clear qjB)
      (try clear qjA)
      (try clear qgX)
      (try clear qjy)
      (try clear qmL)
      (try clear qmK)
      (try clear qmJ)
      (try clear qmI)
      (try clear qmH)
      (try clear qdh)
      (try clear qee)
      (try clear qed)
      (try clear qec)
      (try clear qeb)
      (try clear qea)
      (try clear qd9)
      obtain ⟨kq,HA,qwr,qb,HB⟩:=hcut;cases kq with
      | zero=>exact absurd HA.out (by simp [ju.j2])
      | succ qv4 =>
       have H:=HA.out;clear HA;simp only [ju.j2] at H;replace H:=ie H;obtain ⟨c37b0,c37b1,H⟩ | ⟨c37b0,c37b1,H⟩:=H
       ·replace H:=ie H;obtain ⟨c38b0,c38b1,H⟩ | ⟨c38b0,c38b1,H⟩:=H
        ·replace H:=ipN H;obtain ⟨c39b0,H⟩:=H;have c39b1:decide (0 < qr.length)=true:=decide_eq_true (by have:=of_decide_eq_true c39b0;omega);replace H:=ip H;obtain ⟨c40b0,H⟩ | ⟨c40b0,H⟩:=H
         ·obtain rfl:=Option.some.inj H;obtain ⟨_,_,_,_,_,_,_,_,_,_,_,_,_,_⟩:=cells7 qb.out;obtain ⟨qbc,rfl,zk,QB,QA⟩:=el0_int zr 0 (h0:=by decide);replace QB:=of_eq_true QB;replace QA:=of_eq_true QA;have qfE:(0 < qr.length)=True:=eq_true (by omega);(try rw [show ((0:Int)).toNat=0 from rfl] at zk)
          (try rw [Addr.add_zero'] at zk)
          replace zk:=pw_cell_below HB.out zk;replace QB:=eq_true QB;replace QA:=eq_true QA;go_wp2;go_ret;exact ⟨o1,bs⟩
         ·replace H:=ih H;obtain ⟨c42b0,H⟩ | ⟨c42b0,H⟩:=H
          ·obtain rfl:=Option.some.inj H;obtain ⟨_,_,_,_,_,_,_,_,_,_,_,_,_,_⟩:=cells7 qb.out;obtain ⟨qbc,rfl,zk,QB,QA⟩:=el0_int zr 0 (h0:=by decide);replace QB:=of_eq_true QB;replace QA:=of_eq_true QA;have qfE:(0 < qr.length)=True:=eq_true (by omega);(try rw [show ((0:Int)).toNat=0 from rfl] at zk)
           (try rw [Addr.add_zero'] at zk)
           replace zk:=pw_cell_below HB.out zk;replace QB:=eq_true QB;replace QA:=eq_true QA;obtain ⟨yZ,QV,QU⟩:=el20_int zr 0 (h0:=by decide);replace QV:=of_eq_true QV;replace QU:=of_eq_true QU;have qlE:(0 < qr.length)=True:=eq_true (by omega);(try rw [show ((0:Int)).toNat=0 from rfl] at yZ)
           (try rw [Addr.add_zero'] at yZ)
           replace yZ:=pw_cell_below HB.out yZ;replace QV:=eq_true QV;replace QU:=eq_true QU;go_wp2;go_ret;exact ⟨o1,bs⟩
          ·replace H:=ipN H;obtain ⟨c44b0,H⟩:=H;have c44b1:decide (1 < qr.length)=true:=decide_eq_true (by have:=of_decide_eq_true c44b0;omega);replace H:=ih H;obtain ⟨c45b0,H⟩ | ⟨c45b0,H⟩:=H
           ·obtain rfl:=Option.some.inj H;obtain ⟨_,_,_,_,_,_,_,_,_,_,_,_,_,_⟩:=cells7 qb.out;obtain ⟨qbc,rfl,zk,QB,QA⟩:=el0_int zr 0 (h0:=by decide);replace QB:=of_eq_true QB;replace QA:=of_eq_true QA;have qfE:(0 < qr.length)=True:=eq_true (by omega);(try rw [show ((0:Int)).toNat=0 from rfl] at zk)
            (try rw [Addr.add_zero'] at zk)
            replace zk:=pw_cell_below HB.out zk;replace QB:=eq_true QB;replace QA:=eq_true QA;obtain ⟨yZ,QV,QU⟩:=el20_int zr 0 (h0:=by decide);replace QV:=of_eq_true QV;replace QU:=of_eq_true QU;have qlE:(0 < qr.length)=True:=eq_true (by omega);(try rw [show ((0:Int)).toNat=0 from rfl] at yZ)
            (try rw [Addr.add_zero'] at yZ)
            replace yZ:=pw_cell_below HB.out yZ;replace QV:=eq_true QV;replace QU:=eq_true QU;obtain ⟨QI,XQ,XO⟩:=el20_int zr 1 (h0:=by decide);replace XQ:=of_eq_true XQ;replace XO:=of_eq_true XO;(try simp only [show (1:Int).toNat=1 from rfl,Nat.reduceMul,Nat.reduceEqDiff,Go.Addr.add,↓reduceIte] at QI)
            have qlD:(1 < qr.length)=True:=eq_true (by omega);(try rw [show ((1:Int)).toNat=1 from rfl] at QI)
            replace QI:=pw_cell_below HB.out QI;replace XQ:=eq_true XQ;replace XO:=eq_true XO;obtain ⟨Yp,qcJ,qcI⟩:=el20_int zr 1 (h0:=by decide);replace qcJ:=of_eq_true qcJ;replace qcI:=of_eq_true qcI;(try simp only [show (1:Int).toNat=1 from rfl,Nat.reduceMul,Nat.reduceEqDiff,Go.Addr.add,↓reduceIte] at Yp)
            have qo2:(1 < qr.length)=True:=eq_true (by omega);(try rw [show ((1:Int)).toNat=1 from rfl] at Yp)
            replace Yp:=pw_cell_below HB.out Yp;replace qcJ:=eq_true qcJ;replace qcI:=eq_true qcI;go_wp2;go_ret;exact ⟨o1,bs⟩
           ·obtain rfl:=Option.some.inj H;obtain ⟨_,_,_,_,_,_,_,_,_,_,_,_,_,_⟩:=cells7 qb.out;obtain ⟨qbc,rfl,zk,QB,QA⟩:=el0_int zr 0 (h0:=by decide);replace QB:=of_eq_true QB;replace QA:=of_eq_true QA;have qfE:(0 < qr.length)=True:=eq_true (by omega);(try rw [show ((0:Int)).toNat=0 from rfl] at zk)
            (try rw [Addr.add_zero'] at zk)
            replace zk:=pw_cell_below HB.out zk;replace QB:=eq_true QB;replace QA:=eq_true QA;obtain ⟨yZ,QV,QU⟩:=el20_int zr 0 (h0:=by decide);replace QV:=of_eq_true QV;replace QU:=of_eq_true QU;have qlE:(0 < qr.length)=True:=eq_true (by omega);(try rw [show ((0:Int)).toNat=0 from rfl] at yZ)
            (try rw [Addr.add_zero'] at yZ)
            replace yZ:=pw_cell_below HB.out yZ;replace QV:=eq_true QV;replace QU:=eq_true QU;obtain ⟨QI,XQ,XO⟩:=el20_int zr 1 (h0:=by decide);replace XQ:=of_eq_true XQ;replace XO:=of_eq_true XO;(try simp only [show (1:Int).toNat=1 from rfl,Nat.reduceMul,Nat.reduceEqDiff,Go.Addr.add,↓reduceIte] at QI)
            have qlD:(1 < qr.length)=True:=eq_true (by omega);(try rw [show ((1:Int)).toNat=1 from rfl] at QI)
            replace QI:=pw_cell_below HB.out QI;replace XQ:=eq_true XQ;replace XO:=eq_true XO;go_wp2;go_ret;exact ⟨o1,bs⟩
        ·obtain rfl:=Option.some.inj H;obtain ⟨_,_,_,_,_,_,_,_,_,_,_,_,_,_⟩:=cells7 qb.out;go_wp2;go_ret;exact ⟨o1,bs⟩
       ·obtain rfl:=Option.some.inj H;obtain ⟨_,_,_,_,_,_,_,_,_,_,_,_,_,_⟩:=cells7 qb.out;go_wp2;go_ret;exact ⟨o1,bs⟩

def QE.f (k:Nat) (qe:List (List Int)) (qw:Int) (qI:Int) (qH:Int) (qv:List (List Int)) (qu:List Int) (qr:List Int):Option (Bool):=(jk.f k qe).bind fun qS=>(if qS=true then ((Qz.f qw).bind fun qQ=>(if qQ=true then (if qI ≥ 0 then (if qI≤100000 then ((ju.f k qe qw qI qH qv qu qr).bind fun qE=>(some qE)) else (some false)) else (some false)) else (some false))) else (some false))
set_option maxHeartbeats 8000000 in
set_option maxRecDepth 100000 in
theorem QE.calls (k:Nat) (qy:Option Addr) (qx:Nat) (qe:List (List Int)) (qw:Int) (qI:Int) (qH:Int) (zB:Option Addr) (zA:Nat) (qv:List (List Int)) (zN:Option Addr) (zJ:Nat) (qu:List Int) (zT:Option Addr) (zI:Nat) (qr:List Int) (r:Bool) (w:World) (qO:Kd.C (Kd.slice 5 (Kd.int .u8)) w qy qe.length qe) (qW:qe.length≤qx) (yn:Kd.C (Kd.slice 5 (Kd.int .u8)) w zB qv.length qv) (yt:qv.length≤zA) (ym:Kd.C (Kd.int .u8) w zN qu.length qu) (yr:qu.length≤zJ) (yl:Kd.C (Kd.int .i64) w zT qr.length qr) (yq:qr.length≤zI) (h:QE.f k qe qw qI qH qv qu qr=some r) :
  Calls Tryz.prog 136 #[.agg #[.slice qy qe.length qx,.int .i64 qw,.int .i64 qI,.int .i64 qH,.slice zB qv.length zA,.slice zN qu.length zJ,.slice zT qr.length zI]] w fun e w'=>e=.returned (.bool r)∧Below w.heap.size w w':=by
 have Yq:=Tryz.underlying105;have ZQ:=Tryz.underlying65;have qD:=ak qO;have qF:=ak qW;clear qO qW;have yd:=ak yn;have yg:=ak yt;clear yn yt;have yM:=ak ym;have yX:=ak yr;clear ym yr;have zr:=ak yl;have Qh:=ak yq;clear yl yq;have HB:=ak (Below.refl w.heap.size w);have H:((jk.f k qe).bind fun qS=>(if qS=true then ((Qz.f qw).bind fun qQ=>(if qQ=true then (if qI ≥ 0 then (if qI≤100000 then ((ju.f k qe qw qI qH qv qu qr).bind fun qE=>(some qE)) else (some false)) else (some false)) else (some false))) else (some false)))=some r:=h;clear h;replace H:=bnd H;obtain ⟨qS,A2,H⟩:=H;replace H:=ib H;obtain ⟨rfl,H⟩ | ⟨rfl,H⟩:=H
 ·replace H:=bnd H;obtain ⟨qQ,A4,H⟩:=H;replace H:=ib H;obtain ⟨rfl,H⟩ | ⟨rfl,H⟩:=H
  ·replace H:=ih H;obtain ⟨c6b0,H⟩ | ⟨c6b0,H⟩:=H
   ·replace H:=ip H;obtain ⟨c7b0,H⟩ | ⟨c7b0,H⟩:=H
    ·replace H:=bnd H;obtain ⟨qE,A8,H⟩:=H;obtain rfl:=Option.some.inj H;go_enter Tryz.func136,Tryz.ntmps136;go_wp2_with (first | ((with_reducible refine gate_dst (N:=1) rfl ?_);refine bxd (N:=1) rfl HB ?_;clear HB;intro qh w9 hg HB qb qC hb;have jj:=qC;clear hb hg;obtain ⟨_,_,_,_,_,_,_,_,_,_,_,_,_,_⟩:=cells7 qb.out) | ((with_reducible refine gate_callee (f:=119) rfl ?_);refine glB 5 rfl rfl Tryz.func119 (jk.calls k _ _ qe true _ (cv qD HB) qF.out A2.out) (fun w11 hb=>?_);replace qb:=b1 qb hb;replace HB:=b2s bs hb;(try clear hb);obtain ⟨_,_,_,_,_,_,_,_,_,_,_,_,_,_⟩:=cells7 qb.out) | (go_at_call 169;(with_reducible refine (Qz.calls qw true _ A4.out).mono ?_);rintro e w' ⟨rfl,⟨nd,rfl⟩⟩) | (go_at_call 182;(with_reducible refine (ju.calls k _ _ qe qw qI qH _ _ qv _ _ qu _ _ qr qE _ ?jV qF.out ?yb yg.out ?Xx yX.out ?qaS Qh.out A8.out).mono ?_);(case jV=>repeat (first | exact (Kd.C_below qD.out bs) | (with_reducible refine Kd.C_alloc ?_ _) | (with_reducible refine Kd.C_drewN ?_ _) | (with_reducible refine Kd.C_drew ?_)));(case yb=>repeat (first | exact (Kd.C_below yd.out bs) | (with_reducible refine Kd.C_alloc ?_ _) | (with_reducible refine Kd.C_drewN ?_ _) | (with_reducible refine Kd.C_drew ?_)));(case Xx=>repeat (first | exact (Kd.C_below yM.out bs) | (with_reducible refine Kd.C_alloc ?_ _) | (with_reducible refine Kd.C_drewN ?_ _) | (with_reducible refine Kd.C_drew ?_)));(case qaS=>repeat (first | exact (Kd.C_below zr.out bs) | (with_reducible refine Kd.C_alloc ?_ _) | (with_reducible refine Kd.C_drewN ?_ _) | (with_reducible refine Kd.C_drew ?_)));rintro e w13 ⟨rfl,hb⟩;replace qb:=b1 qb hb;replace HB:=b2s bs hb;(try clear hb)));go_ret;exact ⟨o1,bs⟩
    ·obtain rfl:=Option.some.inj H;go_enter Tryz.func136,Tryz.ntmps136;go_wp2_with (first | ((with_reducible refine gate_dst (N:=1) rfl ?_);refine bxd (N:=1) rfl HB ?_;clear HB;intro qh w14 hg HB qb qC hb;have jj:=qC;clear hb hg;obtain ⟨_,_,_,_,_,_,_,_,_,_,_,_,_,_⟩:=cells7 qb.out) | ((with_reducible refine gate_callee (f:=119) rfl ?_);refine glB 5 rfl rfl Tryz.func119 (jk.calls k _ _ qe true _ (cv qD HB) qF.out A2.out) (fun w16 hb=>?_);replace qb:=b1 qb hb;replace HB:=b2s bs hb;(try clear hb);obtain ⟨_,_,_,_,_,_,_,_,_,_,_,_,_,_⟩:=cells7 qb.out) | (go_at_call 169;(with_reducible refine (Qz.calls qw true _ A4.out).mono ?_);rintro e w' ⟨rfl,⟨nd,rfl⟩⟩));go_ret;exact ⟨o1,bs⟩
   ·obtain rfl:=Option.some.inj H;go_enter Tryz.func136,Tryz.ntmps136;go_wp2_with (first | ((with_reducible refine gate_dst (N:=1) rfl ?_);refine bxd (N:=1) rfl HB ?_;clear HB;intro qh w18 hg HB qb qC hb;have jj:=qC;clear hb hg;obtain ⟨_,_,_,_,_,_,_,_,_,_,_,_,_,_⟩:=cells7 qb.out) | ((with_reducible refine gate_callee (f:=119) rfl ?_);refine glB 5 rfl rfl Tryz.func119 (jk.calls k _ _ qe true _ (cv qD HB) qF.out A2.out) (fun w20 hb=>?_);replace qb:=b1 qb hb;replace HB:=b2s bs hb;(try clear hb);obtain ⟨_,_,_,_,_,_,_,_,_,_,_,_,_,_⟩:=cells7 qb.out) | (go_at_call 169;(with_reducible refine (Qz.calls qw true _ A4.out).mono ?_);rintro e w' ⟨rfl,⟨nd,rfl⟩⟩));go_ret;exact ⟨o1,bs⟩
  ·obtain rfl:=Option.some.inj H;go_enter Tryz.func136,Tryz.ntmps136;go_wp2_with (first | ((with_reducible refine gate_dst (N:=1) rfl ?_);refine bxd (N:=1) rfl HB ?_;clear HB;intro qh w22 hg HB qb qC hb;have jj:=qC;clear hb hg;obtain ⟨_,_,_,_,_,_,_,_,_,_,_,_,_,_⟩:=cells7 qb.out) | ((with_reducible refine gate_callee (f:=119) rfl ?_);refine glB 5 rfl rfl Tryz.func119 (jk.calls k _ _ qe true _ (cv qD HB) qF.out A2.out) (fun w24 hb=>?_);replace qb:=b1 qb hb;replace HB:=b2s bs hb;(try clear hb);obtain ⟨_,_,_,_,_,_,_,_,_,_,_,_,_,_⟩:=cells7 qb.out) | (go_at_call 169;(with_reducible refine (Qz.calls qw false _ A4.out).mono ?_);rintro e w' ⟨rfl,⟨nd,rfl⟩⟩));go_ret;exact ⟨o1,bs⟩
 ·obtain rfl:=Option.some.inj H;go_enter Tryz.func136,Tryz.ntmps136;go_wp2_with (first | ((with_reducible refine gate_dst (N:=1) rfl ?_);refine bxd (N:=1) rfl HB ?_;clear HB;intro qh w26 hg HB qb qC hb;have jj:=qC;clear hb hg;obtain ⟨_,_,_,_,_,_,_,_,_,_,_,_,_,_⟩:=cells7 qb.out) | ((with_reducible refine gate_callee (f:=119) rfl ?_);refine glB 5 rfl rfl Tryz.func119 (jk.calls k _ _ qe false _ (cv qD HB) qF.out A2.out) (fun w28 hb=>?_);replace qb:=b1 qb hb;replace HB:=b2s bs hb;(try clear hb)));go_ret;exact ⟨o1,bs⟩


def yk.v (a b:List Int):Int:=if Op.bytesLess (strOfNums a).toList (strOfNums b).toList=true then -1 else if ((strOfNums a).toList == (strOfNums b).toList)=true then 0 else 1
def yk.f (l0:List Int) (l1:List Int):Option Int:=some (yk.v l0 l1)
set_option maxHeartbeats 8000000 in
set_option maxRecDepth 100000 in
theorem yk.calls (A0:Option Addr) (c0:Nat) (l0:List Int) (A1:Option Addr) (c1:Nat) (l1:List Int) (r:Int) (w:World) (hr0:Kd.C (Kd.int .u8) w A0 l0.length l0) (hc0:l0.length≤c0) (hr1:Kd.C (Kd.int .u8) w A1 l1.length l1) (hc1:l1.length≤c1) (h:yk.f l0 l1=some r) :
  Calls Tryz.prog 184 #[.slice A0 l0.length c0,.slice A1 l1.length c1] w fun e w'=>e=.returned (.int .i64 r)∧Drawn0 w w':=by
 have h0:=Kd.C_string (P:=Tryz.prog) (A:=A0) (c:=c0) Tryz.underlying27 Tryz.underlying5 Tryz.underlying9 hr0;have h1:=Kd.C_string (P:=Tryz.prog) (A:=A1) (c:=c1) Tryz.underlying27 Tryz.underlying5 Tryz.underlying9 hr1;have hr:yk.v l0 l1=r:=Option.some.inj h;subst hr;clear h hr0 hr1;unfold yk.v;by_cases c1:Op.bytesLess (strOfNums l0).toList (strOfNums l1).toList=true
 ·rw [if_pos c1];go_enter Tryz.func184,Tryz.ntmps184;go_wp2;go_ret;exact ⟨rfl,Drawn0.refl _⟩
 ·rw [if_neg c1];have c1':Op.bytesLess (strOfNums l0).toList (strOfNums l1).toList=false:=by simpa using c1
  clear c1;by_cases c2:((strOfNums l0).toList == (strOfNums l1).toList)=true
  ·rw [if_pos c2];go_enter Tryz.func184,Tryz.ntmps184;go_wp2;go_ret;exact ⟨rfl,Drawn0.refl _⟩
  ·rw [if_neg c2];have c2':((strOfNums l0).toList == (strOfNums l1).toList)=false:=by simpa using c2
   clear c2;go_enter Tryz.func184,Tryz.ntmps184;go_wp2;go_ret;exact ⟨rfl,Drawn0.refl _⟩

mutual
def jd.l0:Nat→Int→List (List Int)→List (List Int)→Option (Int)
 | 0,_,_,_=>none
 | k+1,x5,qB,jQ=>if x5≤(qB.length:Int) then (jd.j1 k x5 (decide (x5≤(jQ.length:Int))) qB jQ) else (jd.j1 k x5 false qB jQ)
def jd.j1:Nat→Int→Bool→List (List Int)→List (List Int)→Option (Int)
 | 0,_,_,_,_=>none
 | k+1,x5,x18,qB,jQ=>if x18=true then (if 0≤(wrap64 ((qB.length:Int) - x5)) then (if (wrap64 ((qB.length:Int) - x5)) < (qB.length:Int) then (if 0≤(wrap64 ((jQ.length:Int) - x5)) then (if (wrap64 ((jQ.length:Int) - x5)) < (jQ.length:Int) then ((yk.f (qX qB (wrap64 ((qB.length:Int) - x5))) (qX jQ (wrap64 ((jQ.length:Int) - x5)))).bind fun jJ=>(if jJ=0 then (jd.l0 k (wrap64 (x5+1)) qB jQ) else (some jJ))) else (none)) else (none)) else (none)) else (none)) else (if (qB.length:Int)=(jQ.length:Int) then (some 0) else (if (qB.length:Int) < (jQ.length:Int) then (some (-1)) else (some 1)))
end
def jd.f (k:Nat) (qe:List (List Int)) (qj:List (List Int)):Option (Int):=jd.l0 k 1 qe qj
set_option maxHeartbeats 8000000 in
set_option maxRecDepth 100000 in
theorem jd.calls (k:Nat) (qy:Option Addr) (qx:Nat) (qe:List (List Int)) (jX:Option Addr) (jU:Nat) (qj:List (List Int)) (r:Int) (w:World) (qO:Kd.C (Kd.slice 5 (Kd.int .u8)) w qy qe.length qe) (qW:qe.length≤qx) (zQ:Kd.C (Kd.slice 5 (Kd.int .u8)) w jX qj.length qj) (yo:qj.length≤jU) (h:jd.f k qe qj=some r) :
  Calls Tryz.prog 140 #[.agg #[.slice qy qe.length qx],.agg #[.slice jX qj.length jU]] w fun e w'=>e=.returned (.int .i64 r)∧Below w.heap.size w w':=by
 have ZQ:=Tryz.underlying65;have qD:=ak qO;have qF:=ak qW;clear qO qW;have ze:=ak zQ;have zt:=ak yo;clear zQ yo;have HB:=ak (Below.refl w.heap.size w);have H:(jd.l0 k 1 qe qj)=some r:=h;clear h;have H':=ak H;clear H;go_enter Tryz.func140,Tryz.ntmps140;go_wp2_with (first | ((with_reducible refine gate_dst (N:=2) rfl ?_);(try (refine gate_guard (by rfl) ?_;dsimp only));refine bxd (N:=2) rfl HB ?_;clear HB;intro qh w3 hg HB qb qC hb;have jj:=qC;clear hb hg) | ((with_reducible refine gate_dst (N:=3) rfl ?_);(try (refine gate_guard (by rfl) ?_;dsimp only));refine bxe (N:=3) rfl ?_;intro qp hg w4 hbox hb;have qf:=ak (hbox);have jh:=b3s hg bs;have yh:=jh;replace HB:=b2s bs hb;have qk:=b4 hg qb;have qn:=b5 hg qb;replace qb:=b1 qb hb;clear hb hbox hg));repeat (go_quiet (first | ((with_reducible refine gate_dst (N:=2) rfl ?_);(try (refine gate_guard (by rfl) ?_;dsimp only));refine bxd (N:=2) rfl HB ?_;clear HB;intro qh w3 hg HB qb qC hb;have jj:=qC;clear hb hg) | ((with_reducible refine gate_dst (N:=3) rfl ?_);(try (refine gate_guard (by rfl) ?_;dsimp only));refine bxe (N:=3) rfl ?_;intro qp hg w4 hbox hb;have qf:=ak (hbox);have jh:=b3s hg bs;have yh:=jh;replace HB:=b2s bs hb;have qk:=b4 hg qb;have qn:=b5 hg qb;replace qb:=b1 qb hb;clear hb hbox hg));try go_wp2_with (first | ((with_reducible refine gate_dst (N:=2) rfl ?_);(try (refine gate_guard (by rfl) ?_;dsimp only));refine bxd (N:=2) rfl HB ?_;clear HB;intro qh w3 hg HB qb qC hb;have jj:=qC;clear hb hg) | ((with_reducible refine gate_dst (N:=3) rfl ?_);(try (refine gate_guard (by rfl) ?_;dsimp only));refine bxe (N:=3) rfl ?_;intro qp hg w4 hbox hb;have qf:=ak (hbox);have jh:=b3s hg bs;have yh:=jh;replace HB:=b2s bs hb;have qk:=b4 hg qb;have qn:=b5 hg qb;replace qb:=b1 qb hb;clear hb hbox hg)))
 go_loopg [5] k (fun kq v5 w'=>∃ (qg:Int),v5=.int .i64 qg∧Aside0 (jd.l0 kq qg qe qj=some r)∧Aside0 (kq≤k)∧Aside0 (w'.heap[qh]?=some (.cells #[(.slice qy qe.length qx)] 65 (0,0)))∧Aside0 (w'.heap[qp]?=some (.cells #[(.slice jX qj.length jU)] 65 (0,0)))∧Aside0 (Below w.heap.size w w'))
 case atStart=>exact ⟨(1),o2,H',⟨Nat.le_refl _⟩,⟨bk qb.out⟩,⟨bk qf.out⟩,⟨bs⟩⟩
 case round =>
  clear H';obtain ⟨qg,rfl,HA,HK1,qb,qf,HB⟩:=hrel;cases gk with
  | zero=>exact absurd HA.out (by simp [jd.l0])
  | succ k1 =>
   have H:=HA.out;clear HA;simp only [jd.l0] at H;have HC5:=ak H;clear H;go_upto_region 2 with (fail)
   repeat (go_quiet (fail);go_upto_region 2 with (fail))
   go_cut [18] (fun v18 wc=>∃ (kq:Nat) (qj1:Bool),v18=.bool qj1∧Aside0 (jd.j1 kq qg qj1 qe qj=some r)∧Aside0 (kq≤k1)∧Aside0 (wc.heap[qh]?=some (.cells #[(.slice qy qe.length qx)] 65 (0,0)))∧Aside0 (wc.heap[qp]?=some (.cells #[(.slice jX qj.length jU)] 65 (0,0)))∧Aside0 (Below w.heap.size w wc))
   case first =>
    have H:=HC5.out;clear HC5;replace H:=ip H;obtain ⟨c6b0,H⟩ | ⟨c6b0,H⟩:=H
    ·(first | rw [c6b0] | (simp only [i64_w,i32_w];rw [c6b0]) | skip)
     have H':=ak H;clear H;have qiM:=qk.out;have qiL:=qn.out;obtain ⟨qbP,qbO⟩:=cells1 qb.out;obtain ⟨qba,qa9⟩:=cells1 qf.out;go_wp2;repeat (go_quiet (fail);try go_wp2)
     go_meet
     case rel=>exact ⟨_,(decide (qg≤(qj.length:Int))),o2,H',⟨by have:=HK1.out;first | omega | exact Nat.le_refl _⟩,⟨bk qb.out⟩,⟨bk qf.out⟩,⟨bs⟩⟩
    ·(first | rw [c6b0] | (simp only [i64_w,i32_w];rw [c6b0]) | skip)
     have H':=ak H;clear H;have qky:=qk.out;have qks:=qn.out;obtain ⟨YQ,YO⟩:=cells1 qb.out;go_wp2;repeat (go_quiet (fail);try go_wp2)
     go_meet
     case rel=>exact ⟨_,(false),o2,H',⟨by have:=HK1.out;first | omega | exact Nat.le_refl _⟩,⟨bk qb.out⟩,⟨bk qf.out⟩,⟨bs⟩⟩
   case rest =>
    clear HC5;obtain ⟨kq,qj1,rfl,HA,HJ4,qb,qf,HB⟩:=hcut;cases kq with
    | zero=>exact absurd HA.out (by simp [jd.j1])
    | succ kj4 =>
     have H:=HA.out;clear HA;simp only [jd.j1] at H;replace H:=ib H;obtain ⟨rfl,H⟩ | ⟨rfl,H⟩:=H
     ·obtain ⟨qdM,qia⟩:∃ j_:Int,(wrap64 ((qe.length:Int) - qg))=j_:=⟨_,rfl⟩;(first | rw [qia] at H | simp only [qia] at H)
      have hji13w:(IntKind.i64.wrap ((qe.length:Int) - qg))=qdM:=(i64_w _).trans qia;replace H:=ipN H;obtain ⟨c14b0,H⟩:=H;replace H:=ipN H;obtain ⟨c15b0,H⟩:=H;obtain ⟨qdL,qh9⟩:∃ j_:Int,(wrap64 ((qj.length:Int) - qg))=j_:=⟨_,rfl⟩;(first | rw [qh9] at H | simp only [qh9] at H)
      have hji16w:(IntKind.i64.wrap ((qj.length:Int) - qg))=qdL:=(i64_w _).trans qh9;replace H:=ipN H;obtain ⟨c17b0,H⟩:=H;replace H:=ipN H;obtain ⟨c18b0,H⟩:=H;replace H:=bnd H;obtain ⟨jJ,A19,H⟩:=H;replace H:=ie H;obtain ⟨c20b0,c20b1,H⟩ | ⟨c20b0,c20b1,H⟩:=H
      ·have H':=ak H;clear H;have qpG:=qk.out;have qpl:=qn.out;obtain ⟨qco,qci⟩:=cells1 qb.out;obtain ⟨qL,zj,zh,rfl,QD,zn,js,Zg,Zf⟩:=el_L10 qD HB (qdM);obtain ⟨qbz,qbw⟩:=cells1 qf.out;obtain ⟨yy,Qe,Qb,rfl,Xj,yf,yc,qbV,qbT⟩:=el_L10 ze HB (qdL);go_wp2_with ((go_at_call 184;(with_reducible refine (yk.calls _ _ (qX qe (qdM)) _ _ (qX qj (qdL)) jJ _ (cv js HB) zn.out (cv yc HB) yf.out A19.out).mono ?_);rintro e w' ⟨rfl,⟨nd,rfl⟩⟩;(try first | exact ⟨rfl,_,World.drewN_drewN _ _ _⟩ | exact ⟨rfl,_,Eq.trans (World.drewN_drewN _ _ _) (congrArg (World.drewN _) (Nat.add_assoc _ _ _))⟩)));repeat (go_quiet ((go_at_call 184;(with_reducible refine (yk.calls _ _ (qX qe (qdM)) _ _ (qX qj (qdL)) jJ _ (cv js HB) zn.out (cv yc HB) yf.out A19.out).mono ?_);rintro e w' ⟨rfl,⟨nd,rfl⟩⟩;(try first | exact ⟨rfl,_,World.drewN_drewN _ _ _⟩ | exact ⟨rfl,_,Eq.trans (World.drewN_drewN _ _ _) (congrArg (World.drewN _) (Nat.add_assoc _ _ _))⟩)));try go_wp2_with ((go_at_call 184;(with_reducible refine (yk.calls _ _ (qX qe (qdM)) _ _ (qX qj (qdL)) jJ _ (cv js HB) zn.out (cv yc HB) yf.out A19.out).mono ?_);rintro e w' ⟨rfl,⟨nd,rfl⟩⟩;(try first | exact ⟨rfl,_,World.drewN_drewN _ _ _⟩ | exact ⟨rfl,_,Eq.trans (World.drewN_drewN _ _ _) (congrArg (World.drewN _) (Nat.add_assoc _ _ _))⟩))))
       go_roundg kj4;case measure=>have:=HK1.out;have:=HJ4.out;omega
       case rel=>exact ⟨(wrap64 (qg+1)),o2,H',⟨by have:=HK1.out;have:=HJ4.out;omega⟩,⟨bk qb.out⟩,⟨bk qf.out⟩,⟨bs⟩⟩
      ·obtain rfl:=Option.some.inj H;have qlZ:=qk.out;have qlR:=qn.out;obtain ⟨qtu,qsI⟩:=cells1 qb.out;obtain ⟨qL,zj,zh,rfl,QD,zn,js,Zg,Zf⟩:=el_L10 qD HB (qdM);obtain ⟨qtt,qsH⟩:=cells1 qf.out;obtain ⟨yy,Qe,Qb,rfl,Xj,yf,yc,qbV,qbT⟩:=el_L10 ze HB (qdL);go_wp2_with ((go_at_call 184;(with_reducible refine (yk.calls _ _ (qX qe (qdM)) _ _ (qX qj (qdL)) jJ _ (cv js HB) zn.out (cv yc HB) yf.out A19.out).mono ?_);rintro e w' ⟨rfl,⟨nd,rfl⟩⟩;(try first | exact ⟨rfl,_,World.drewN_drewN _ _ _⟩ | exact ⟨rfl,_,Eq.trans (World.drewN_drewN _ _ _) (congrArg (World.drewN _) (Nat.add_assoc _ _ _))⟩)));repeat (go_quiet ((go_at_call 184;(with_reducible refine (yk.calls _ _ (qX qe (qdM)) _ _ (qX qj (qdL)) jJ _ (cv js HB) zn.out (cv yc HB) yf.out A19.out).mono ?_);rintro e w' ⟨rfl,⟨nd,rfl⟩⟩;(try first | exact ⟨rfl,_,World.drewN_drewN _ _ _⟩ | exact ⟨rfl,_,Eq.trans (World.drewN_drewN _ _ _) (congrArg (World.drewN _) (Nat.add_assoc _ _ _))⟩)));try go_wp2_with ((go_at_call 184;(with_reducible refine (yk.calls _ _ (qX qe (qdM)) _ _ (qX qj (qdL)) jJ _ (cv js HB) zn.out (cv yc HB) yf.out A19.out).mono ?_);rintro e w' ⟨rfl,⟨nd,rfl⟩⟩;(try first | exact ⟨rfl,_,World.drewN_drewN _ _ _⟩ | exact ⟨rfl,_,Eq.trans (World.drewN_drewN _ _ _) (congrArg (World.drewN _) (Nat.add_assoc _ _ _))⟩))))
       go_ret;exact ⟨by first | rfl | (simp [errW_none,errW_some] <;> rfl) | (simp only [← qia,← qh9];first | rfl | (simp [errW_none,errW_some] <;> rfl)) | (simp [*,errW_none,errW_some] <;> rfl),bs⟩
     ·replace H:=ie H;obtain ⟨c27b0,c27b1,H⟩ | ⟨c27b0,c27b1,H⟩:=H
      ·have c27b2:(qe.length == qj.length)=true:=lnT c27b0;obtain rfl:=Option.some.inj H;have qvy:=qk.out;have quO:=qn.out;obtain ⟨qhn,qgX⟩:=cells1 qb.out;obtain ⟨qdv,qdk⟩:=cells1 qf.out;go_wp2;repeat (go_quiet (fail);try go_wp2)
       go_ret;exact ⟨o1,bs⟩
      ·have c27b2:(qe.length == qj.length)=false:=lnF c27b0;by_cases c31:(qe.length:Int) < (qj.length:Int)
       ·rw [if_pos c31] at H;have c31b0:decide ((qe.length:Int) < (qj.length:Int))=true:=decide_eq_true c31;have c31b1:decide (qe.length < qj.length)=true:=decide_eq_true (Int.ofNat_lt.mp c31);clear c31;obtain rfl:=Option.some.inj H;have qpD:=qk.out;have qpi:=qn.out;obtain ⟨qm1,qmE⟩:=cells1 qb.out;obtain ⟨qtq,qsE⟩:=cells1 qf.out;go_wp2;repeat (go_quiet (fail);try go_wp2)
        go_ret;exact ⟨o1,bs⟩
       ·rw [if_neg c31] at H;have c31b0:decide ((qe.length:Int) < (qj.length:Int))=false:=decide_eq_false c31;have c31b1:decide (qe.length < qj.length)=false:=decide_eq_false (fun h=>c31 (Int.ofNat_lt.mpr h));clear c31;obtain rfl:=Option.some.inj H;have qvw:=qk.out;have quM:=qn.out;obtain ⟨qdt,qdi⟩:=cells1 qb.out;obtain ⟨qto,qsC⟩:=cells1 qf.out;go_wp2;repeat (go_quiet (fail);try go_wp2)
        go_ret;exact ⟨o1,bs⟩

def jF.f (k:Nat) (qe:List (List Int)) (qj:List (List Int)):Option (Bool):=if (wrap64 ((qe.length:Int) - (qj.length:Int))) ≥ 0 then (if 0≤(wrap64 ((qe.length:Int) - (qj.length:Int))) then (if (wrap64 ((qe.length:Int) - (qj.length:Int)))≤(qe.length:Int) then ((jd.f k (qe.drop ((wrap64 ((qe.length:Int) - (qj.length:Int))):Int).toNat) qj).bind fun zX=>(some (zX == 0))) else (none)) else (none)) else (some false)
def jF.T2:Bool × List (List Nat × List Nat):=(true,[([],[]),([0],[0]),([1],[1]),([2],[2]),([3,2],[2,3]),([2],[2]),([4,5,2],[2,4,5]),([6,2],[2,6]),([2],[2]),([7,8,2,2],[2,7,8]),([9,2],[2,9]),([2,10],[2,10]),([11,9,0,1,2,3,4,5,6,7,8,9,10,11],[11])])
def jF.B2:List Nat:=[0,1,3,7,15,7,63,127,7,511,1023,2047,4095]
theorem jF.tab2:rtab .any (opsOf Tryz.f137 2)=jF.T2:=by kernel_rfl
theorem jF.bits2:waitsOk jF.T2.2 jF.B2=true:=by kernel_rfl
set_option maxHeartbeats 8000000 in
set_option maxRecDepth 100000 in
theorem jF.calls (k:Nat) (qy:Option Addr) (qx:Nat) (qe:List (List Int)) (jX:Option Addr) (jU:Nat) (qj:List (List Int)) (r:Bool) (w:World) (qO:Kd.C (Kd.slice 5 (Kd.int .u8)) w qy qe.length qe) (qW:qe.length≤qx) (zQ:Kd.C (Kd.slice 5 (Kd.int .u8)) w jX qj.length qj) (yo:qj.length≤jU) (h:jF.f k qe qj=some r) :
  Calls Tryz.prog 137 #[.agg #[.slice qy qe.length qx],.agg #[.slice jX qj.length jU]] w fun e w'=>e=.returned (.bool r)∧Below w.heap.size w w':=by
 have ZQ:=Tryz.underlying65;have qD:=ak qO;have qF:=ak qW;clear qO qW;have ze:=ak zQ;have zt:=ak yo;clear zQ yo;have HB:=ak (Below.refl w.heap.size w);have H:(if (wrap64 ((qe.length:Int) - (qj.length:Int))) ≥ 0 then (if 0≤(wrap64 ((qe.length:Int) - (qj.length:Int))) then (if (wrap64 ((qe.length:Int) - (qj.length:Int)))≤(qe.length:Int) then ((jd.f k (qe.drop ((wrap64 ((qe.length:Int) - (qj.length:Int))):Int).toNat) qj).bind fun zX=>(some (zX == 0))) else (none)) else (none)) else (some false))=some r:=h;clear h;replace H:=ih H;obtain ⟨c3b0,H⟩ | ⟨c3b0,H⟩:=H
 ·obtain ⟨ji4,qiO⟩:∃ j_:Int,(wrap64 ((qe.length:Int) - (qj.length:Int)))=j_:=⟨_,rfl⟩;(first | rw [qiO] at H | simp only [qiO] at H)
  (try rw [qiO] at c3b0)
  have hji4w:(IntKind.i64.wrap ((qe.length:Int) - (qj.length:Int)))=ji4:=(i64_w _).trans qiO;replace H:=ipE H;obtain ⟨c5b0,c5b1,H⟩:=H;replace H:=ipE H;obtain ⟨c6b0,c6b1,H⟩:=H;obtain ⟨qcA,qeD⟩:∃ y_:List (List Int),y_=(qe.drop ((ji4):Int).toNat):=⟨_,rfl⟩;(try with_reducible replace H:=bnS H)
  (try rw [← qeD] at H)
  have qfR:=ak qeD;clear qeD;replace H:=bnd H;obtain ⟨zX,A7,H⟩:=H;obtain rfl:=Option.some.inj H;go_enter Tryz.func137,Tryz.ntmps137;try go_wp2_with (first | ((with_reducible refine gate_dst (N:=2) rfl ?_);refine bxd (N:=2) rfl HB ?_;clear HB;intro qh w8 hg HB qb qC hb;have jj:=qC;clear hb hg) | ((with_reducible refine gate_dst (N:=3) rfl ?_);refine bxe (N:=3) rfl ?_;intro qp hg w9 hbox hb;have qf:=ak (hbox);have jh:=b3s hg bs;have yh:=jh;replace HB:=b2s bs hb;have qk:=b4 hg qb;have qn:=b5 hg qb;replace qb:=b1 qb hb;clear hb hbox hg;have qky:=qk.out;have qks:=qn.out;obtain ⟨YQ,YO⟩:=cells1 qb.out;obtain ⟨qbB,qby⟩:=cells1 qf.out))
  replace qb:=ak (blk_drew qb.out);replace qf:=ak (blk_drew qf.out);replace HB:=ak (below_drew1 HB.out);have q14:((ji4):Int)≤((qe.length:Int):Int):=of_decide_eq_true (by first | (with_reducible assumption) | assumption);obtain ⟨qv5,ql2,_,qlJ,_⟩:=info_parts qiw;have hroom14:qe.length≤qx:=qF.out;have qoF:Kd.C (Kd.slice 5 (Kd.int .u8)) _ qy qe.length qe:=qD.out;have qqr:(0:Int)≤((ji4):Int):=of_decide_eq_true (by first | (with_reducible assumption) | assumption);have qoz:=cut_from (P:=Tryz.prog) 57 27 .i64 Tryz.underlying57 ql2 1 qlJ qy qe.length qx (ji4) qqr q14;have qiF:=Kd.C_drop (m:=((ji4):Int).toNat) (c:=qx) qoF (by omega) hroom14;obtain ⟨A14,qkB⟩:∃ A1,A1=(if qx=((ji4):Int).toNat then qy else (qy:Option Addr).map (·.add (((ji4):Int).toNat * 1))):=⟨_,rfl⟩;obtain ⟨c14,qld⟩:∃ c1,c1=qx - ((ji4):Int).toNat:=⟨_,rfl⟩;have qka:qcA.length=qe.length - ((ji4):Int).toNat:=(by rw [qfR.out,List.length_drop] <;> omega);rw [show (qe).drop ((ji4):Int).toNat=qcA from qfR.out.symm] at qiF;replace qiF:Kd.C (Kd.slice 5 (Kd.int .u8)) _ A14 qcA.length qcA:=(by rw [qkB];exact qiF);rw [← qka,← qkB,← qld] at qoz;have ql9:=ak qiF;have qqj:=ak (show qcA.length≤c14 from by rw [qka,qld];exact Nat.sub_le_sub_right hroom14 _);clear qiF qoF hroom14 ql2 qlJ qld;have qwn:=ak qka;have qwo:=ak qkB;clear qka qkB;replace q14:=eq_true q14;refine start_ (n:=13) (S:=fun w'=>w'.cell? ⟨qh,0,none⟩=some (.slice qy qe.length qx)∧w'.cell? ⟨qp,0,none⟩=some (.slice jX qj.length jU)) (ds:=[]) (bA 13 0) (by kernel_rfl) rfl rfl kq (fun hHeld=>?_);refine with_tabW jF.tab2 jF.bits2 (fun HT_ HW_=>?_);generalize w9.drew=w13 at qb qf HB ql9 hHeld ⊢;refine pu HT_ 0 ?_;refine pu HT_ 1 ?_;refine pu HT_ 2 ?_;refine pu HT_ 3 ?_;refine pu HT_ 5 ?_;refine ta HT_ HW_ hHeld 4 ?_;refine pu HT_ 6 ?_;refine pu HT_ 7 ?_;refine ta HT_ HW_ hHeld 8 ?_;refine on HT_ 9 (fun K hK=>?_);refine gsB Tryz.func140 (jd.calls k _ _ qcA _ _ qj zX _ (cv ql9 HB) qqj.out (cv ze HB) zt.out A7.out) (fun w15 hb=>?_);replace qb:=b1 qb hb;replace qf:=b1 qf hb;replace HB:=b2s bs hb;refine hK.out _ _ kp (fun hHeld=>?_);(try clear hb)
  clear hK K;refine norm_ (a':=?_) ?_ ?_;rotate_left;go_simp;rfl;refine pu HT_ 10 ?_;refine pu HT_ 11 ?_;refine pu HT_ 12 ?_;refine done_ (done_of HT_.out (by kernel_rfl)) ?_;try go_wp2
  go_ret;exact ⟨by first | rfl | (simp [errW_none,errW_some] <;> rfl) | (simp only [← qiO];first | rfl | (simp [errW_none,errW_some] <;> rfl)) | (simp [*,errW_none,errW_some] <;> rfl),bs⟩
 ·obtain rfl:=Option.some.inj H;go_enter Tryz.func137,Tryz.ntmps137;try go_wp2_with (first | ((with_reducible refine gate_dst (N:=2) rfl ?_);refine bxd (N:=2) rfl HB ?_;clear HB;intro qh w16 hg HB qb qC hb;have jj:=qC;clear hb hg) | ((with_reducible refine gate_dst (N:=3) rfl ?_);refine bxe (N:=3) rfl ?_;intro qp hg w17 hbox hb;have qf:=ak (hbox);have jh:=b3s hg bs;have yh:=jh;replace HB:=b2s bs hb;have qk:=b4 hg qb;have qn:=b5 hg qb;replace qb:=b1 qb hb;clear hb hbox hg;have qkw:=qk.out;have qkq:=qn.out;obtain ⟨qht,qg3⟩:=cells1 qb.out;obtain ⟨qjG,qjz⟩:=cells1 qf.out))
  replace qb:=ak (blk_drew qb.out);replace qf:=ak (blk_drew qf.out);replace HB:=ak (below_drew1 HB.out);refine start_ (n:=13) (S:=fun w'=>True) (ds:=[]) (bA 13 0) (by kernel_rfl) rfl rfl trivial (fun hHeld=>?_);refine with_tabW jF.tab2 jF.bits2 (fun HT_ HW_=>?_);generalize w17.drew=w21 at qb qf HB hHeld ⊢;refine pu HT_ 0 ?_;refine pu HT_ 1 ?_;refine pu HT_ 2 ?_;refine sk HT_ 3 ?_;refine sk HT_ 4 ?_;refine sk HT_ 5 ?_;refine sk HT_ 6 ?_;refine sk HT_ 7 ?_;refine sk HT_ 8 ?_;refine sk HT_ 9 ?_;refine sk HT_ 10 ?_;refine pu HT_ 11 ?_;refine pu HT_ 12 ?_;refine done_ (done_of HT_.out (by kernel_rfl)) ?_;try go_wp2
  go_ret;exact ⟨o1,bs⟩


attribute [local go_sem ↓] Go.wp_at_zero Go.wp_at_succ
def qU.w:List (List Int)→List Int
 | []=>[]
 | x :: l=>((x.length:Int) % 256) :: (x ++ qU.w l)
theorem qU.w_snoc (l:List (List Int)) (x:List Int):qU.w (l ++ [x])=qU.w l ++ [(x.length:Int) % 256] ++ x:=by
 induction l with
 | nil=>simp [qU.w]
 | cons y l ih=>simp [qU.w,ih]
theorem qU.w_take (l:List (List Int)):∀ k,(qU.w (l.take k)).length≤(qU.w l).length:=by
 induction l with
 | nil=>intro k;simp
 | cons y l ih =>
  intro k;cases k with
  | zero=>simp [qU.w]
  | succ k=>have:=ih k;simp only [List.take_succ_cons,qU.w,List.length_cons,List.length_append];omega
def qU.f (l0:List Int) (qj:List (List Int)):Option (List Int):=if l0.length+(qU.w qj).length+1 < 140737488355328 then some (l0 ++ qU.w qj ++ [0]) else none
theorem qU.inner {w:World} {S:Nat→Prop} {A:Option Addr} {l:List (List Int)} (h:∀ W',Kept w W' S→Kd.C (Kd.slice 5 (Kd.int .u8)) W' A l.length l) (i:Nat) (hi:i < l.length) :
  ∃ ad A0 c0,A=some ad∧(∀ W',Kept w W' S→W'.cell? (ad.add i)=some (.slice A0 (qX l (i:Int)).length c0))∧(qX l (i:Int)).length≤c0∧∀ W',Kept w W' S→(Kd.int .u8).C W' A0 (qX l (i:Int)).length (qX l (i:Int)):=by
 obtain ⟨ad,A0,c0,rfl,hx,hl,hc⟩:=qcQ (h w (Kept.refl w S)) (i:Int) (by omega) (by omega);rw [show ((i:Int)).toNat=i from by omega] at hx;have hn:=Kd.foot_neS h (by omega) (show 0 < (Kd.slice 5 (Kd.int .u8)).sz from by decide);have hcell:∀ W',Kept w W' S→W'.cell? (ad.add i)=some (.slice A0 (qX l (i:Int)).length c0):=fun W' hk=>cell_kept hx hk (by rw [add_block];exact hn)
 refine ⟨ad,A0,c0,rfl,hcell,hl,fun W' hk=>?_⟩;obtain ⟨ad2,A2,c2,e,hx2,_,hc2⟩:=qcQ (h W' hk) (i:Int) (by omega) (by omega);injection e with e
 subst e;rw [show ((i:Int)).toNat=i from by omega,hcell W' hk] at hx2;injection hx2 with hx2
 injection hx2 with e1 e2 e3
 subst e1;exact hc2
theorem qU.swap (W:World) (o:Obj):(W.alloc o).drew=(W.drew).alloc o:=rfl
theorem qU.step {c:Prop} [Decidable c] {A B E:Prop} (hc:c) (h:if c then A else B):if c then A else E:=by rw [if_pos hc] at h ⊢;exact h
set_option maxHeartbeats 8000000 in
set_option maxRecDepth 100000 in
theorem qU.calls (P0_:Nat→Prop) (qiu:Value) (l0:List Int) (jX:Option Addr) (jU:Nat) (qj:List (List Int)) (r:List Int) (w0 w:World) (hB:Below w0.heap.size w0 w) (ho0:Kd.R (Kd.int .u8) 5 w w0.heap.size P0_ qiu l0) (zQ:∀ W_,Kept w W_ (fun k_=>P0_ k_)→Kd.C (Kd.slice 5 (Kd.int .u8)) W_ jX qj.length qj) (yo:qj.length≤jU) (h:qU.f l0 qj=some r) :
  Calls Tryz.prog 100 #[qiu,.agg #[.slice jX qj.length jU]] w fun e w'=>∃ v0_:Value,e=.returned (v0_)∧Kd.R (Kd.int .u8) 5 w' w0.heap.size (fun k_=>(P0_ k_∨w.heap.size≤k_)) v0_ r∧Below w0.heap.size w0 w'∧Kept w w' (fun k_=>P0_ k_):=by
 have HO0:=ak (show Kd.R (Kd.int .u8) 5 w w0.heap.size (fun k_=>(P0_ k_∨w.heap.size≤k_)) qiu l0 from Kd.R_mono ho0 (fun k_ hk=>(.inl hk)));have HK:=ak (Kept.refl w (fun k_=>P0_ k_));have HB:=ak hB;have HI:=ak (qU.inner zQ);have hbig:qj.length≤9223372036854775807:=(zQ w (Kept.refl _ _)).2.1
 have HLM:Aside0 (l0.length+(qU.w qj).length+1 < 140737488355328):=by
  unfold qU.f at h;split at h
  ·exact ⟨by assumption⟩
  ·cases h
 have hr:l0 ++ qU.w qj ++ [0]=r:=by
  unfold qU.f at h;rw [if_pos HLM.out] at h;exact Option.some.inj h
 subst hr;clear zQ yo h hB ho0;go_enter Tryz.func100,Tryz.ntmps100;go_wp2_with (((with_reducible refine gate_dst (N:=3) rfl ?_);refine bxe (N:=3) rfl ?_;intro qh hg w2 hbox hb;replace HB:=b2 HB hb;have qb:=ak (hbox);replace HK:=ak (Kept.below (by repeat (first | (with_reducible first | exact HK.out | apply Kept.alloc | apply Kept.drewN | apply Kept.drew) | exact HK.out)) hb);have HO:=ak (Kd.R_below HO0.out hb);clear HO0;clear hb hbox hg));go_loopg [0,5] qj.length (fun gg s0 s5 w'=>∃ kk:Nat,kk≤qj.length∧qj.length - kk≤gg∧s5=.int .i64 kk∧Aside0 (Kd.R (Kd.int .u8) 5 w' w0.heap.size (fun k_=>(P0_ k_∨w.heap.size≤k_)) s0 (l0 ++ qU.w (qj.take kk)))∧Aside0 (w'.heap[qh]?=some (.cells #[(.slice jX qj.length jU)] 65 (0,0)))∧Aside0 (Below w0.heap.size w0 w')∧Aside0 (Kept w w' (fun k_=>P0_ k_)))
 case atStart=>exact ⟨0,Nat.zero_le _,by omega,rfl,⟨by simpa [qU.w] using HO.out⟩,qb,HB,HK⟩
 case round =>
  clear HO qb HB HK;obtain ⟨kk,hkk,hg,rfl,HO,BK,HB,HK⟩:=hrel;have hcz:=ak ((blk_cell BK.out 0).trans rfl:wr.cell? ⟨qh,0,none⟩=some (.slice jX qj.length jU));have hfz:=blk_frozen BK.out 0;by_cases hlt:kk < qj.length
  ·obtain ⟨ad,A2,c2,rfl,hcell,hc2,hC⟩:=HI.out kk hlt
   have hx:Aside0 (l0 ++ qU.w (qj.take (kk+1))=l0 ++ qU.w (qj.take kk) ++ [((qX qj (kk:Int)).length:Int) % 256] ++ qX qj (kk:Int)):=⟨by
    rw [List.take_succ_eq_append_getElem hlt,qU.w_snoc];simp [qX,List.getD_eq_getElem?_getD,hlt]⟩
   have HLL:Aside0 ((l0 ++ qU.w (qj.take kk)).length+1+(qX qj (kk:Int)).length < 140737488355328):=⟨by
    have h1:=congrArg List.length hx.out;have h2:=qU.w_take qj (kk+1);have h3:=HLM.out;simp only [List.length_append,List.length_singleton] at h1 ⊢
    omega⟩
   have HCE:=ak hcell;have HCC:=ak hC;have hcn:=hcell wr HK.out;have hczn:=hcz.out;clear hcell hC hcz HI;generalize qX qj (kk:Int)=x1 at hx HLL HCE HCC hc2 hcn;generalize l0 ++ qU.w (qj.take kk)=acc at HO hx HLL;have hltz:(kk:Int) < (qj.length:Int):=by omega
   have qv7:(0:Int)≤(kk:Int):=by omega
   go_wp2
   go_region_held3 (fun w'=>w'.cell? ⟨qh,0,none⟩=some (.slice (some ad) qj.length jU)∧w'.cell? (ad.add kk)=some (.slice A2 x1.length c2)) (first | exact ⟨(blk_cell BK.out 0).trans rfl,HCE.out _ HK.out⟩ | go_keep)
    (first
     | (rw [qU.swap];refine qU.step (by simp [Region.wanted]) (Kd.R_append_step (Kd.int .u8) (w0:=w0) w0.heap.size (by simp [Region.wanted]) (.tmp 13) (.tmp 21) 27 5 (.int .u8 0) 1 (by rfl) Tryz.underlying27 qaw rfl (by decide) (by omega) _ acc ((x1.length:Int) % 256) [.int .u8 ((x1.length:Int) % 256)] (fun k_=>(P0_ k_∨w.heap.size≤k_)) (fun _=>False) (by rfl) (by rfl) rfl (fun _ hk=>hk.elim) (fun k hk=>.inr (Nat.le_trans HK.out.1 (Nat.le_trans (by simp) hk))) (rw_ HO.out) (bw HB.out) (below_size (bw HB.out)) (by have:=HLL.out;omega) ?_);intro v1 w1 ho hb hg hat;have n0_:=ak (blk_grown (bk BK.out) hg (Kd.R_ne HO.out BK.out (by decide)));have n1_:=ak hb;have n2_:=ak ho;have n3_:=ak (Kept.of_grown (w:=w) (S:=fun k_=>P0_ k_) hg (by repeat (first | (with_reducible first | exact HK.out | apply Kept.alloc | apply Kept.drewN | apply Kept.drew) | exact HK.out)) (fun k hk=>HO.out.1 k hk));clear HB HO HK BK ho hb hg hat;have BK:=n0_;have HB:=n1_;have HO:=n2_;have HK:=n3_;clear n0_ n1_ n2_ n3_)
     | (refine qU.step (by simp [Region.wanted]) (Kd.R_append_rows_step (Kd.int .u8) (w0:=w0) w0.heap.size (by simp [Region.wanted]) (.tmp 22) (.tmp 27) 27 5 (.int .u8 0) 1 (by rfl) Tryz.underlying27 qaw rfl (by decide) (by omega) _ (acc ++ [(x1.length:Int) % 256]) x1 _ _ _ (fun k_=>(P0_ k_∨w.heap.size≤k_)) (fun _=>False) (by rfl) (by rfl) (rw_ HO.out) (HCC.out _ (by repeat (first | (with_reducible first | exact HK.out | apply Kept.alloc | apply Kept.drewN | apply Kept.drew) | exact HK.out))) (fun _ _ h=>h) (fun _ h=>h.elim) (fun k hk=>.inr (Nat.le_trans HK.out.1 (Nat.le_trans (by simp) hk))) (bw HB.out) (below_size (bw HB.out)) (by have:=HLL.out;simp only [List.length_append,List.length_singleton];omega) ?_);intro v1 w1 ho hb hg hat;have n0_:=ak (blk_grown (bk BK.out) hg (Kd.R_ne HO.out BK.out (by decide)));have n1_:=ak hb;have n2_:=ak ho;have n3_:=ak (Kept.of_grown (w:=w) (S:=fun k_=>P0_ k_) hg (by repeat (first | (with_reducible first | exact HK.out | apply Kept.alloc | apply Kept.drewN | apply Kept.drew) | exact HK.out)) (fun k hk=>HO.out.1 k hk));clear HB HO HK BK ho hb hg hat;have BK:=n0_;have HB:=n1_;have HO:=n2_;have HK:=n3_;clear n0_ n1_ n2_ n3_))
   go_wp2;go_roundg (qj.length - (kk+1));case measure=>omega
   case rel=>exact ⟨kk+1,by omega,by omega,by go_num,⟨by rw [hx.out];exact HO.out⟩,BK,HB,HK⟩
  ·have:kk=qj.length:=by omega
   subst this;rw [List.take_of_length_le (Nat.le_refl _)] at HO;have hczn:=hcz.out;clear hcz;have hltz:¬ (qj.length:Int) < (qj.length:Int):=by omega
   go_wp2_with (((with_reducible refine gate_builtin (b:=.append) (xs:=#[.tmp 29,.tmp 30]) rfl ?_);at_builtin;refine Kd.R_append (Kd.int .u8) (w0:=w0) w0.heap.size rfl (.tmp 29) (.tmp 30) 27 5 (.int .u8 0) 1 rfl Tryz.underlying27 qaw rfl (by decide) (by omega) _ (l0 ++ qU.w qj) 0 [.int .u8 0] (fun k_=>(P0_ k_∨w.heap.size≤k_)) (fun _=>False) rfl rfl ?aP (fun _ hk=>hk.elim) ?aF ?aO ?aB ?aS ?aL ?_;(case aP=>exact rfl);(case aB=>exact (bw HB.out));(case aF=>exact (fun k hk=>.inr (Nat.le_trans HK.out.1 (Nat.le_trans (by simp) hk))));(case aO=>exact (rw_ HO.out));(case aS=>exact (below_size (bw HB.out)));(case aL=>have:=HLM.out;simp only [List.length_append];omega);intro qj6 w14 ho hb hg hat;have n1_:=ak hb;have n2_:=ak ho;have n3_:=ak (Kept.of_grown (w:=w) (S:=fun k_=>P0_ k_) hg (by repeat (first | (with_reducible first | exact HK.out | apply Kept.alloc | apply Kept.drewN | apply Kept.drew) | exact HK.out)) (fun k hk=>HO.out.1 k hk));clear HB HO HK ho hb hg hat;have HB:=n1_;have HO:=n2_;have HK:=n3_;clear n1_ n2_ n3_));go_ret;exact ⟨qj6,rfl,by have:=HO.out;simpa only [List.append_assoc] using this,HB.out,HK.out⟩

def Jd.f (l0:List Int) (a1:Int):Option (List Int):=(some (([]:List Int):List Int)).bind fun Yd=>(if Yd.length+l0.length < 140737488355328 then ((some (Yd ++ l0:List Int)).bind fun qaF=>(if a1 < 0 then (some qaF) else (if a1 ≥ 4294967296 then (some qaF) else ((some (([(a1 / 16777216) % 256,(a1 / 65536) % 256,(a1 / 256) % 256,(a1) % 256]:List Int):List Int)).bind fun qa6=>(if qaF.length+qa6.length < 140737488355328 then (some (qaF ++ qa6)) else (none)))))) else (none))
set_option maxHeartbeats 8000000 in
set_option maxRecDepth 100000 in
theorem Jd.calls (A0:Option Addr) (c0:Nat) (l0:List Int) (a1:Int) (r:List Int) (w:World) (hr0:Kd.C (Kd.int .u8) w A0 l0.length l0) (hc0:l0.length≤c0) (h:Jd.f l0 a1=some r) :
  Calls Tryz.prog 115 #[.slice A0 l0.length c0,.int .i64 a1] w fun e w'=>∃ v0_:Value,e=.returned (v0_)∧Kd.R (Kd.int .u8) 5 w' w.heap.size (fun _=>True) v0_ r∧Below w.heap.size w w':=by
 have HR0:=ak hr0;have HC0:=ak hc0;clear hr0 hc0;have HB:=ak (Below.refl w.heap.size w);have H:((some (([]:List Int):List Int)).bind fun Yd=>(if Yd.length+l0.length < 140737488355328 then ((some (Yd ++ l0:List Int)).bind fun qaF=>(if a1 < 0 then (some qaF) else (if a1 ≥ 4294967296 then (some qaF) else ((some (([(a1 / 16777216) % 256,(a1 / 65536) % 256,(a1 / 256) % 256,(a1) % 256]:List Int):List Int)).bind fun qa6=>(if qaF.length+qa6.length < 140737488355328 then (some (qaF ++ qa6)) else (none)))))) else (none)))=some r:=h;clear h;replace H:∃ Yd:List Int,Yd=(([]:List Int))∧(if Yd.length+l0.length < 140737488355328 then ((some (Yd ++ l0:List Int)).bind fun qaF=>(if a1 < 0 then (some qaF) else (if a1 ≥ 4294967296 then (some qaF) else ((some (([(a1 / 16777216) % 256,(a1 / 65536) % 256,(a1 / 256) % 256,(a1) % 256]:List Int):List Int)).bind fun qa6=>(if qaF.length+qa6.length < 140737488355328 then (some (qaF ++ qa6)) else (none)))))) else (none))=some r:=⟨_,rfl,H⟩;obtain ⟨Yd,JK,H⟩:=H;have Ze:=ak JK;clear JK;by_cases c3:Yd.length+l0.length < 140737488355328
 ·rw [if_pos c3] at H;have qlm:=ak c3;clear c3;obtain ⟨qaF,qkj⟩:∃ y_:List Int,y_=(Yd ++ l0):=⟨_,rfl⟩;(try with_reducible replace H:=bnS H)
  (try rw [← qkj] at H)
  have qkL:=ak qkj;clear qkj;replace H:=ip H;obtain ⟨c4b0,H⟩ | ⟨c4b0,H⟩:=H
  ·obtain rfl:=Option.some.inj H;go_enter Tryz.func115,Tryz.ntmps115;go_wp2_with (first | ((with_reducible refine gate_dst (N:=6) rfl ?_);refine Kd.R_lit (Kd.int .u8) _ 5 ?hg (N:=6) ?hd (xs:=([]:List Int)) (inner:=[]) (ok:=fun _=>True) (okp:=fun _=>True) ?hr ?hp (fun _ hk=>hk) trivial (Below.refl _ _) (Nat.le_refl _) (by simp) ?_;(case hd=>rfl);(case hg=>rfl);(case hr=>first | (go_simp;done) | (go_simp;rfl));(case hp=>exact (Reps.none _ _));intro qaG w5 ho6 hb hg_ hnew_;clear hg_ hnew_;(first | rw [← Ze.out] at ho6 | (simp only [Int.reduceToNat] at ho6;rw [← Ze.out] at ho6));have JM:=ak (Kd.R_lower ho6 (below_size (bw HB.out)));replace HB:=b2 HB hb;clear hb ho6) | ((with_reducible refine gate_builtin (b:=.append) (xs:=#[.tmp 6,.tmp 7]) rfl ?_);at_builtin;refine Kd.R_append_rows (Kd.int .u8) (w0:=w) w.heap.size rfl (.tmp 6) (.tmp 7) 27 5 (.int .u8 0) 1 rfl Tryz.underlying27 qaw rfl (by decide) (by omega) qaG Yd l0 _ _ _ (fun _=>True) (fun _=>False) rfl rfl ?aO ?aR (fun _ _ h=>h) (fun _ h=>h.elim) ?aF ?aB ?aS ?aL ?_;(case aR=>exact cw HR0.out HB.out);(case aB=>exact (bw HB.out));(case aF=>exact (fun _ _=>trivial));(case aO=>exact (rw_ JM.out));(case aS=>exact (below_size (bw HB.out)));(case aL=>have:=qlm.out;omega);intro qcV w7 ho hb hg hat;rw [← qkL.out] at ho;replace HB:=ak (hb);have jE:=ak (ho);clear JM;clear ho hb hg hat));go_ret;exact ⟨_,o1,rw_ jE.out,bw HB.out⟩
  ·replace H:=ih H;obtain ⟨c8b0,H⟩ | ⟨c8b0,H⟩:=H
   ·obtain rfl:=Option.some.inj H;go_enter Tryz.func115,Tryz.ntmps115;go_wp2_with (first | ((with_reducible refine gate_dst (N:=6) rfl ?_);refine Kd.R_lit (Kd.int .u8) _ 5 ?hg (N:=6) ?hd (xs:=([]:List Int)) (inner:=[]) (ok:=fun _=>True) (okp:=fun _=>True) ?hr ?hp (fun _ hk=>hk) trivial (Below.refl _ _) (Nat.le_refl _) (by simp) ?_;(case hd=>rfl);(case hg=>rfl);(case hr=>first | (go_simp;done) | (go_simp;rfl));(case hp=>exact (Reps.none _ _));intro qaG w9 qiK hb hg_ hnew_;clear hg_ hnew_;(first | rw [← Ze.out] at qiK | (simp only [Int.reduceToNat] at qiK;rw [← Ze.out] at qiK));have JM:=ak (Kd.R_lower qiK (below_size (bw HB.out)));replace HB:=b2 HB hb;clear hb qiK) | ((with_reducible refine gate_builtin (b:=.append) (xs:=#[.tmp 6,.tmp 7]) rfl ?_);at_builtin;refine Kd.R_append_rows (Kd.int .u8) (w0:=w) w.heap.size rfl (.tmp 6) (.tmp 7) 27 5 (.int .u8 0) 1 rfl Tryz.underlying27 qaw rfl (by decide) (by omega) qaG Yd l0 _ _ _ (fun _=>True) (fun _=>False) rfl rfl ?aO ?aR (fun _ _ h=>h) (fun _ h=>h.elim) ?aF ?aB ?aS ?aL ?_;(case aR=>exact cw HR0.out HB.out);(case aB=>exact (bw HB.out));(case aF=>exact (fun _ _=>trivial));(case aO=>exact (rw_ JM.out));(case aS=>exact (below_size (bw HB.out)));(case aL=>have:=qlm.out;omega);intro qcV w11 ho hb hg hat;rw [← qkL.out] at ho;replace HB:=ak (hb);have jE:=ak (ho);clear JM;clear ho hb hg hat));go_ret;exact ⟨_,o1,rw_ jE.out,bw HB.out⟩
   ·obtain ⟨qa6,qdQ⟩:∃ y_:List Int,y_=(([(a1 / 16777216) % 256,(a1 / 65536) % 256,(a1 / 256) % 256,(a1) % 256]:List Int)):=⟨_,rfl⟩;(try with_reducible replace H:=bnS H)
    (try rw [← qdQ] at H)
    have qif:=ak qdQ;clear qdQ;by_cases c12:qaF.length+qa6.length < 140737488355328
    ·rw [if_pos c12] at H;have qp7:=ak c12;clear c12;obtain ⟨qvQ,qkh⟩:∃ y_:List Int,y_=(qaF ++ qa6):=⟨_,rfl⟩;(try with_reducible replace H:=bnS H)
     (try rw [← qkh] at H)
     have qp0:=ak qkh;clear qkh;obtain rfl:=Option.some.inj H;go_enter Tryz.func115,Tryz.ntmps115;go_wp2_with (first | ((with_reducible refine gate_dst (N:=6) rfl ?_);refine Kd.R_lit (Kd.int .u8) _ 5 ?hg (N:=6) ?hd (xs:=([]:List Int)) (inner:=[]) (ok:=fun _=>True) (okp:=fun _=>True) ?hr ?hp (fun _ hk=>hk) trivial (Below.refl _ _) (Nat.le_refl _) (by simp) ?_;(case hd=>rfl);(case hg=>rfl);(case hr=>first | (go_simp;done) | (go_simp;rfl));(case hp=>exact (Reps.none _ _));intro qaG w13 qiJ hb hg_ hnew_;clear hg_ hnew_;(first | rw [← Ze.out] at qiJ | (simp only [Int.reduceToNat] at qiJ;rw [← Ze.out] at qiJ));have JM:=ak (Kd.R_lower qiJ (below_size (bw HB.out)));replace HB:=b2 HB hb;clear hb qiJ) | ((with_reducible refine gate_builtin (b:=.append) (xs:=#[.tmp 6,.tmp 7]) rfl ?_);at_builtin;refine Kd.R_append_rows (Kd.int .u8) (w0:=w) w.heap.size rfl (.tmp 6) (.tmp 7) 27 5 (.int .u8 0) 1 rfl Tryz.underlying27 qaw rfl (by decide) (by omega) qaG Yd l0 _ _ _ (fun _=>True) (fun _=>False) rfl rfl ?aO ?aR (fun _ _ h=>h) (fun _ h=>h.elim) ?aF ?aB ?aS ?aL ?_;(case aR=>exact cw HR0.out HB.out);(case aB=>exact (bw HB.out));(case aF=>exact (fun _ _=>trivial));(case aO=>exact (rw_ JM.out));(case aS=>exact (below_size (bw HB.out)));(case aL=>have:=qlm.out;omega);intro qcV w15 ho hb hg hat;rw [← qkL.out] at ho;replace HB:=ak (hb);have jE:=ak (ho);clear JM;clear ho hb hg hat) | ((with_reducible refine gate_dst (N:=28) rfl ?_);refine Kd.R_lit (Kd.int .u8) _ 5 ?hg (N:=28) ?hd (xs:=([(a1 / 16777216) % 256,(a1 / 65536) % 256,(a1 / 256) % 256,(a1) % 256]:List Int)) (inner:=[.int .u8 ((a1 / 16777216) % 256),.int .u8 ((a1 / 65536) % 256),.int .u8 ((a1 / 256) % 256),.int .u8 ((a1) % 256)]) (ok:=fun _=>True) (okp:=fun _=>True) ?hr ?hp (fun _ hk=>hk) trivial (Below.refl _ _) (Nat.le_refl _) (by simp) ?_;(case hd=>rfl);(case hg=>rfl);(case hr=>first | (go_simp;done) | (go_simp;rfl));(case hp=>exact (Reps.one (show Kd.M (Kd.int .u8) _ _ _ ((a1 / 16777216) % 256) [.int .u8 ((a1 / 16777216) % 256)] from rfl) (Reps.one (show Kd.M (Kd.int .u8) _ _ _ ((a1 / 65536) % 256) [.int .u8 ((a1 / 65536) % 256)] from rfl) (Reps.one (show Kd.M (Kd.int .u8) _ _ _ ((a1 / 256) % 256) [.int .u8 ((a1 / 256) % 256)] from rfl) (Reps.one (show Kd.M (Kd.int .u8) _ _ _ ((a1) % 256) [.int .u8 ((a1) % 256)] from rfl) (Reps.none _ _))))));intro qj8 w16 qgN hb hg_ hnew_;clear hg_ hnew_;(first | rw [← qif.out] at qgN | (simp only [Int.reduceToNat] at qgN;rw [← qif.out] at qgN));have yz:=ak (Kd.R_lower (Kd.R_new' qgN (Kd.R_lt (rw_ jE.out))) (below_size (bw HB.out)));replace jE:=ak (Kd.R_elder' (rw_ jE.out) (Kd.R_base qgN) hb);replace HB:=b2 HB hb;clear hb qgN;obtain ⟨qlC,qlj,qfq⟩:=Kd.R_slice yz.out;subst qfq) | ((with_reducible refine gate_builtin (b:=.append) (xs:=#[.tmp 16,.tmp 28]) rfl ?_);at_builtin;refine Kd.R_append_rows (Kd.int .u8) (w0:=w) w.heap.size rfl (.tmp 16) (.tmp 28) 27 5 (.int .u8 0) 1 rfl Tryz.underlying27 qaw rfl (by decide) (by omega) qcV qaF qa6 _ _ _ (fun k_=>some k_≠(.slice qlC qa6.length qlj:Value).ownBlock) (fun _=>False) rfl rfl ?aO ?aR (fun _ _ h=>h) (fun _ h=>h.elim) ?aF ?aB ?aS ?aL ?_;(case aR=>repeat (first | exact (Kd.R_reads' yz.out).2.2 | (with_reducible refine Kd.C_alloc ?_ _) | (with_reducible refine Kd.C_drewN ?_ _) | (with_reducible refine Kd.C_drew ?_)));(case aB=>exact (bw HB.out));(case aF=>exact (fun k_ hk=>Kd.fresh' (Kd.R_lt (rw_ yz.out)) k_ hk));(case aO=>exact (rw_ (Kd.R_mono jE.out (fun _ hk=>hk.2))));(case aS=>exact (below_size (bw HB.out)));(case aL=>have:=qp7.out;omega);intro qj7 w18 ho hb hg hat;rw [← qp0.out] at ho;replace yz:=ak (Kd.R_after (ok:=(fun _=>True)) (rw_ yz.out) hg hat);replace HB:=ak (hb);have yN:=ak (ho);clear jE;clear ho hb hg hat));go_ret;exact ⟨_,o1,by (with_reducible repeat (first | apply Kd.R_alloc | apply Kd.R_drewN | apply Kd.R_drew));exact Kd.R_mono yN.out (fun _ hk=>trivial),bw HB.out⟩
    ·rw [if_neg c12] at H;exact absurd H (by simp)
 ·rw [if_neg c3] at H;exact absurd H (by simp)

def Qi.f (qe:List (List Int)) (qw:Int) (qI:Int) (qH:Int) (qv:List (List Int)) (qu:List Int) (qr:List Int):Option (List Int):=if qw=1 then ((Jd.f ([]:List Int) qH).bind fun qS=>(some qS)) else (if qw=6 then ((qU.f ([]:List Int) qv).bind fun jJ=>(if 0 < (qr.length:Int) then ((Jd.f jJ (rd qr 0)).bind fun yC=>(if 1 < (qr.length:Int) then ((Jd.f yC (rd qr 1)).bind fun Qv=>(some Qv)) else (none))) else (none))) else ((Jh.f qw).bind fun qaH=>(if qaH=true then ((qU.f ([]:List Int) qv).bind fun Yx=>(some Yx)) else ((some (([((qu.length:Int)) % 256]:List Int):List Int)).bind fun qbQ=>(if qbQ.length+qu.length < 140737488355328 then (some (qbQ ++ qu)) else (none))))))
def Qi.T4:Bool × List (List Nat × List Nat):=(true,[([],[]),([0],[0]),([1],[1]),([],[]),([3],[3]),([4],[4]),([5],[5]),([2,6,2],[2,6]),([],[]),([8],[8]),([9],[9]),([10],[10]),([7,11,7],[7,11]),([12,12,0,1,2,3,4,5,6,7,8,9,10,11,12],[12])])
def Qi.B4:List Nat:=[0,1,3,0,8,24,56,127,0,256,768,1792,4095,8191]
theorem Qi.tab4:rtab .any (opsOf Tryz.f160 4)=Qi.T4:=by kernel_rfl
theorem Qi.bits4:waitsOk Qi.T4.2 Qi.B4=true:=by kernel_rfl
set_option maxHeartbeats 8000000 in
set_option maxRecDepth 100000 in
theorem Qi.calls (qy:Option Addr) (qx:Nat) (qe:List (List Int)) (qw:Int) (qI:Int) (qH:Int) (zB:Option Addr) (zA:Nat) (qv:List (List Int)) (zN:Option Addr) (zJ:Nat) (qu:List Int) (zT:Option Addr) (zI:Nat) (qr:List Int) (r:List Int) (w:World) (qO:Kd.C (Kd.slice 5 (Kd.int .u8)) w qy qe.length qe) (qW:qe.length≤qx) (yn:Kd.C (Kd.slice 5 (Kd.int .u8)) w zB qv.length qv) (yt:qv.length≤zA) (ym:Kd.C (Kd.int .u8) w zN qu.length qu) (yr:qu.length≤zJ) (yl:Kd.C (Kd.int .i64) w zT qr.length qr) (yq:qr.length≤zI) (h:Qi.f qe qw qI qH qv qu qr=some r) :
  Calls Tryz.prog 160 #[.agg #[.slice qy qe.length qx,.int .i64 qw,.int .i64 qI,.int .i64 qH,.slice zB qv.length zA,.slice zN qu.length zJ,.slice zT qr.length zI]] w fun e w'=>∃ v0_:Value,e=.returned (v0_)∧Kd.R (Kd.int .u8) 5 w' w.heap.size (fun _=>True) v0_ r∧Below w.heap.size w w':=by
 have Yq:=Tryz.underlying105;have ZQ:=Tryz.underlying65;have qD:=ak qO;have qF:=ak qW;clear qO qW;have yd:=ak yn;have yg:=ak yt;clear yn yt;have yM:=ak ym;have yX:=ak yr;clear ym yr;have zr:=ak yl;have Qh:=ak yq;clear yl yq;have HB:=ak (Below.refl w.heap.size w);have H:(if qw=1 then ((Jd.f ([]:List Int) qH).bind fun qS=>(some qS)) else (if qw=6 then ((qU.f ([]:List Int) qv).bind fun jJ=>(if 0 < (qr.length:Int) then ((Jd.f jJ (rd qr 0)).bind fun yC=>(if 1 < (qr.length:Int) then ((Jd.f yC (rd qr 1)).bind fun Qv=>(some Qv)) else (none))) else (none))) else ((Jh.f qw).bind fun qaH=>(if qaH=true then ((qU.f ([]:List Int) qv).bind fun Yx=>(some Yx)) else ((some (([((qu.length:Int)) % 256]:List Int):List Int)).bind fun qbQ=>(if qbQ.length+qu.length < 140737488355328 then (some (qbQ ++ qu)) else (none)))))))=some r:=h;clear h;replace H:=ie H;obtain ⟨c2b0,c2b1,H⟩ | ⟨c2b0,c2b1,H⟩:=H
 ·replace H:=bnd H;obtain ⟨qS,A3,H⟩:=H;obtain rfl:=Option.some.inj H;go_enter Tryz.func160,Tryz.ntmps160;go_wp2_with (first | ((with_reducible refine gate_dst (N:=1) rfl ?_);refine bxd (N:=1) rfl HB ?_;clear HB;intro qh w4 hg HB qb qC hb;have jj:=qC;clear hb hg;obtain ⟨_,_,_,_,_,_,_,_,_,_,_,_,_,_⟩:=cells7 qb.out) | ((with_reducible refine gate_callee (f:=115) rfl ?_);refine goesL_ (some 9) rfl rfl Tryz.func115 (by kernel_rfl) rfl #[.slice none 0 0,.int .i64 qH] rfl (by (try simp only [List.map_toArray,List.map_cons,List.map_nil]);first | done | rfl | (simp only [List.length_drop,List.length_take];rfl)) ?_;(refine (Jd.calls _ _ ([]:List Int) qH qS _ ?jV ?QS A3.out).mono ?_);(case jV=>exact Kd.C_nil _ _);(case QS=>exact Nat.le_refl _);rintro e w6 ⟨qny,rfl,ho0,hb⟩;refine ⟨_,rfl,?_⟩;have qfT:=ak (Kd.R_lower ho0 (below_size bs));replace qb:=b1 qb hb;replace HB:=b2s bs hb;(try clear hb);(try clear ho0)));go_ret;exact ⟨_,o1,rw_ qfT.out,bs⟩
 ·replace H:=ie H;obtain ⟨c7b0,c7b1,H⟩ | ⟨c7b0,c7b1,H⟩:=H
  ·replace H:=bnd H;obtain ⟨jJ,A8,H⟩:=H;replace H:=ipN H;obtain ⟨c9b0,H⟩:=H;have c9b1:decide (0 < qr.length)=true:=decide_eq_true (by have:=of_decide_eq_true c9b0;omega);replace H:=bnd H;obtain ⟨yC,A10,H⟩:=H;replace H:=ipN H;obtain ⟨c11b0,H⟩:=H;have c11b1:decide (1 < qr.length)=true:=decide_eq_true (by have:=of_decide_eq_true c11b0;omega);replace H:=bnd H;obtain ⟨Qv,A12,H⟩:=H;obtain rfl:=Option.some.inj H;go_enter Tryz.func160,Tryz.ntmps160;try go_wp2_with (((with_reducible refine gate_dst (N:=1) rfl ?_);refine bxd (N:=1) rfl HB ?_;clear HB;intro qh w13 hg HB qb qC hb;have jj:=qC;clear hb hg;obtain ⟨_,_,_,_,_,_,_,_,_,_,_,_,_,_⟩:=cells7 qb.out))
   replace qb:=ak (blk_drew qb.out);replace HB:=ak (below_drew1 HB.out);have qcJ:0≤(0:Int):=(by omega);have qcI:0 < (qr.length:Int):=of_decide_eq_true (by first | (with_reducible assumption) | assumption);obtain ⟨qfP,qrc,Yp⟩:=Kd.at_int zr.out 0 qcJ qcI;have qc6:=Yp;(try rw [show ((0:Int)).toNat=0 from rfl] at qc6)
   (try rw [show 0 * 1=0 from rfl] at qc6)
   (try rw [Addr.add_zero'] at qc6)
   cases qrc;have qo2:(0 < qr.length)=True:=eq_true (by omega);(try rw [show ((0:Int)).toNat=0 from rfl] at Yp)
   (try rw [Addr.add_zero'] at Yp)
   replace Yp:=pw_cell_below HB.out Yp;replace qcJ:=eq_true qcJ;replace qcI:=eq_true qcI;have qk9:0≤(1:Int):=(by omega);have qk8:1 < (qr.length:Int):=of_decide_eq_true (by first | (with_reducible assumption) | assumption);obtain ⟨qpS,qra,qcb⟩:=Kd.at_int zr.out 1 qk9 qk8;have qc5:=qcb;(try rw [show ((1:Int)).toNat=1 from rfl] at qc5)
   (try rw [show 1 * 1=1 from rfl] at qc5)
   (try simp only [Nat.reduceMul,Nat.reduceEqDiff,Go.Addr.add,↓reduceIte] at qc5)
   obtain rfl:qfP=qpS:=(by injection qra);(try simp only [show (1:Int).toNat=1 from rfl,Nat.reduceMul,Nat.reduceEqDiff,Go.Addr.add,↓reduceIte] at qcb)
   have qt7:(1 < qr.length)=True:=eq_true (by omega);(try rw [show ((1:Int)).toNat=1 from rfl] at qcb)
   replace qcb:=pw_cell_below HB.out qcb;replace qk9:=eq_true qk9;replace qk8:=eq_true qk8;refine start_ (n:=14) (S:=fun w'=>w'.cell? ⟨qh,0,none⟩=some (.slice qy qe.length qx)∧w'.cell? ⟨qh,1,none⟩=some (.int .i64 qw)∧w'.cell? ⟨qh,2,none⟩=some (.int .i64 qI)∧w'.cell? ⟨qh,3,none⟩=some (.int .i64 qH)∧w'.cell? ⟨qh,4,none⟩=some (.slice zB qv.length zA)∧w'.cell? ⟨qh,5,none⟩=some (.slice zN qu.length zJ)∧w'.cell? ⟨qh,6,none⟩=some (.slice (some qfP) qr.length zI)∧w'.cell? qfP=some (.int .i64 (rd qr 0))∧w'.cell? ⟨qfP.block,qfP.off+1,none⟩=some (.int .i64 (rd qr 1))) (ds:=[]) (bA 14 0) (by kernel_rfl) rfl rfl kq (fun hHeld=>?_);refine with_tabW Qi.tab4 Qi.bits4 (fun HT_ HW_=>?_);generalize w13.drew=w15 at qb HB Yp qcb hHeld ⊢;refine pu HT_ 0 ?_;refine pu HT_ 3 ?_;refine pu HT_ 8 ?_;refine ta HT_ HW_ hHeld 1 ?_;refine ta HT_ HW_ hHeld 4 ?_;refine pu HT_ 5 ?_;refine ta HT_ HW_ hHeld 6 ?_;refine ta HT_ HW_ hHeld 9 ?_;refine pu HT_ 10 ?_;refine ta HT_ HW_ hHeld 11 ?_;refine on HT_ 2 (fun K hK=>?_);refine goes_ Tryz.func100 (by kernel_rfl) rfl #[.slice none 0 0,.agg #[.slice zB qv.length zA]] (by rfl) rfl rfl (by (try simp only [List.map_toArray,List.map_cons,List.map_nil]);first | done | rfl | (simp only [List.length_drop,List.length_take];rfl)) ?_;refine (qU.calls (fun k_=>some k_=(.slice none 0 0:Value).ownBlock) (.slice none 0 0) ([]:List Int) _ _ qv jJ w _ ?jV ?QS ?yb ?Jt A8.out).mono ?_;(case jV=>repeat (first | (with_reducible first | exact HB.out | apply below_alloc | apply pw_below_drewN | apply below_drew1 | refine below_set ?_ qC.out) | exact HB.out))
   (case QS=>exact Kd.R_nil _ _ _ _ _)
   (case yb=>exact Kd.C_kept_came (Kd.heap_slice 5 (Kd.heap_int .u8)) yd.out bs (fun k_ hs_=>(fun e_=>by simp [Value.ownBlock] at e_) hs_))
   (case Jt=>exact yg.out)
   rintro e w16 ⟨qa3,rfl,ho0,hb,hkp⟩;refine ⟨_,rfl,?_⟩;replace qb:=ak (blk_kept (bk qb.out) hkp (fun hs_=>(fun e_=>by simp [Value.ownBlock] at e_) hs_));have yT:=ak (Kd.R_mono (ok':=fun k_=>True) ho0 (fun k_ hk_=>trivial));replace HB:=ak (hb);(try clear hb)
   (try clear hkp)
   (try clear ho0)
   obtain ⟨qrr,qrj,qkC⟩:=Kd.R_slice yT.out;(first | subst qkC | (injection qkC with f1_ f2_ f3_;have f4_:=f1_.symm;have f5_:=f3_.symm;clear f1_ f2_ f3_;subst f4_;subst f5_))
   refine hK.out _ _ ⟨(blk_cell qb.out 0).trans rfl,(blk_cell qb.out 1).trans rfl,(blk_cell qb.out 2).trans rfl,(blk_cell qb.out 3).trans rfl,(blk_cell qb.out 4).trans rfl,(blk_cell qb.out 5).trans rfl,(blk_cell qb.out 6).trans rfl,(pw_cell_below HB.out qc6),(pw_cell_below HB.out qc5)⟩ (fun hHeld=>?_);clear hK K;refine norm_ (a':=?_) ?_ ?_;rotate_left;go_simp;rfl;refine on HT_ 7 (fun K hK=>?_);refine gsG Tryz.func115 (Jd.calls _ _ jJ (rd qr 0) yC _ ?jV ?QS A10.out) ?_;(case jV=>repeat (first | exact (Kd.R_reads' yT.out).2.2 | (with_reducible refine Kd.C_alloc ?_ _) | (with_reducible refine Kd.C_drewN ?_ _) | (with_reducible refine Kd.C_drew ?_)))
   (case QS=>exact (Kd.R_reads' yT.out).2.1)
   rintro e w18 ⟨qnx,rfl,ho0,hb⟩;refine ⟨_,rfl,?_⟩;have qbN:=ak (Kd.R_lower (Kd.R_new' ho0 (Kd.R_lt (rw_ yT.out))) (below_size bs));replace yT:=ak (Kd.R_elder' (rw_ yT.out) (Kd.R_base ho0) hb);replace qb:=b1 qb hb;replace HB:=b2s bs hb;(try clear hb)
   (try clear ho0)
   obtain ⟨qlC,qlj,qfq⟩:=Kd.R_slice qbN.out;(first | subst qfq | (injection qfq with f1_ f2_ f3_;have f4_:=f1_.symm;have f5_:=f3_.symm;clear f1_ f2_ f3_;subst f4_;subst f5_))
   refine hK.out _ _ ⟨(blk_cell qb.out 0).trans rfl,(blk_cell qb.out 1).trans rfl,(blk_cell qb.out 2).trans rfl,(blk_cell qb.out 3).trans rfl,(blk_cell qb.out 4).trans rfl,(blk_cell qb.out 5).trans rfl,(blk_cell qb.out 6).trans rfl,(pw_cell_below HB.out qc6),(pw_cell_below HB.out qc5)⟩ (fun hHeld=>?_);clear hK K;refine norm_ (a':=?_) ?_ ?_;rotate_left;go_simp;rfl;refine on HT_ 12 (fun K hK=>?_);refine gsG Tryz.func115 (Jd.calls _ _ yC (rd qr 1) Qv _ ?jV ?QS A12.out) ?_;(case jV=>repeat (first | exact (Kd.R_reads' qbN.out).2.2 | (with_reducible refine Kd.C_alloc ?_ _) | (with_reducible refine Kd.C_drewN ?_ _) | (with_reducible refine Kd.C_drew ?_)))
   (case QS=>exact (Kd.R_reads' qbN.out).2.1)
   rintro e w20 ⟨qk4,rfl,ho0,hb⟩;refine ⟨_,rfl,?_⟩;have qca:=ak (Kd.R_lower (Kd.R_new' (Kd.R_new' ho0 (Kd.R_lt (rw_ yT.out))) (Kd.R_lt (rw_ qbN.out))) (below_size bs));replace yT:=ak (Kd.R_elder' (rw_ yT.out) (Kd.R_base ho0) hb);replace qbN:=ak (Kd.R_elder' (rw_ qbN.out) (Kd.R_base ho0) hb);replace qb:=b1 qb hb;replace HB:=b2s bs hb;refine hK.out _ _ kp (fun hHeld=>?_);(try clear hb)
   (try clear ho0)
   clear hK K;refine norm_ (a':=?_) ?_ ?_;rotate_left;go_simp;rfl;refine pu HT_ 13 ?_;refine done_ (done_of HT_.out (by kernel_rfl)) ?_;try go_wp2
   go_ret;exact ⟨_,o1,by (with_reducible repeat (first | apply Kd.R_alloc | apply Kd.R_drewN | apply Kd.R_drew));exact Kd.R_mono qca.out (fun _ hk=>trivial),bs⟩
  ·replace H:=bnd H;obtain ⟨qaH,A21,H⟩:=H;replace H:=ib H;obtain ⟨rfl,H⟩ | ⟨rfl,H⟩:=H
   ·replace H:=bnd H;obtain ⟨Yx,A23,H⟩:=H;obtain rfl:=Option.some.inj H;go_enter Tryz.func160,Tryz.ntmps160;go_wp2_with (first | ((with_reducible refine gate_dst (N:=1) rfl ?_);refine bxd (N:=1) rfl HB ?_;clear HB;intro qh w24 hg HB qb qC hb;have jj:=qC;clear hb hg;obtain ⟨_,_,_,_,_,_,_,_,_,_,_,_,_,_⟩:=cells7 qb.out) | ((with_reducible refine gate_callee (f:=205) rfl ?_);refine glD 30 rfl rfl Tryz.func205 (Jh.calls qw true _ A21.out) (fun nd=>?_)) | ((with_reducible refine gate_callee (f:=100) rfl ?_);refine goesL_ (some 33) rfl rfl Tryz.func100 (by kernel_rfl) rfl #[.slice none 0 0,.agg #[.slice zB qv.length zA]] rfl (by (try simp only [List.map_toArray,List.map_cons,List.map_nil]);first | done | rfl | (simp only [List.length_drop,List.length_take];rfl)) ?_;(refine (qU.calls (fun k_=>some k_=(.slice none 0 0:Value).ownBlock) (.slice none 0 0) ([]:List Int) _ _ qv Yx w _ ?jV ?QS ?yb ?Jt A23.out).mono ?_);(case jV=>repeat (first | (with_reducible first | exact HB.out | apply below_alloc | apply pw_below_drewN | apply below_drew1 | refine below_set ?_ qC.out) | exact HB.out));(case QS=>exact Kd.R_nil _ _ _ _ _);(case yb=>exact Kd.C_kept_came (Kd.heap_slice 5 (Kd.heap_int .u8)) yd.out bs (fun k_ hs_=>(fun e_=>by simp [Value.ownBlock] at e_) hs_));(case Jt=>exact yg.out);rintro e w26 ⟨qdI,rfl,ho0,hb,hkp⟩;refine ⟨_,rfl,?_⟩;replace qb:=ak (blk_kept (bk qb.out) hkp (fun hs_=>(fun e_=>by simp [Value.ownBlock] at e_) hs_));have Qy:=ak (Kd.R_mono (ok':=fun k_=>True) ho0 (fun k_ hk_=>trivial));replace HB:=ak (hb);(try clear hb);(try clear hkp);(try clear ho0)));go_ret;exact ⟨_,o1,rw_ Qy.out,bs⟩
   ·obtain ⟨qbQ,qdO⟩:∃ y_:List Int,y_=(([((qu.length:Int)) % 256]:List Int)):=⟨_,rfl⟩;(try with_reducible replace H:=bnS H)
    (try rw [← qdO] at H)
    have qie:=ak qdO;clear qdO;by_cases c27:qbQ.length+qu.length < 140737488355328
    ·rw [if_pos c27] at H;have qkM:=ak c27;clear c27;obtain ⟨qvO,qkb⟩:∃ y_:List Int,y_=(qbQ ++ qu):=⟨_,rfl⟩;(try with_reducible replace H:=bnS H)
     (try rw [← qkb] at H)
     have qpV:=ak qkb;clear qkb;obtain rfl:=Option.some.inj H;go_enter Tryz.func160,Tryz.ntmps160;go_wp2_with (first | ((with_reducible refine gate_dst (N:=1) rfl ?_);refine bxd (N:=1) rfl HB ?_;clear HB;intro qh w28 hg HB qb qC hb;have jj:=qC;clear hb hg;obtain ⟨_,_,_,_,_,_,_,_,_,_,_,_,_,_⟩:=cells7 qb.out) | ((with_reducible refine gate_callee (f:=205) rfl ?_);refine glD 30 rfl rfl Tryz.func205 (Jh.calls qw false _ A21.out) (fun nd=>?_)) | ((with_reducible refine gate_dst (N:=38) rfl ?_);refine Kd.R_lit (Kd.int .u8) _ 5 ?hg (N:=38) ?hd (xs:=([((qu.length:Int)) % 256]:List Int)) (inner:=[.int .u8 (((qu.length:Int)) % 256)]) (ok:=fun _=>True) (okp:=fun _=>True) ?hr ?hp (fun _ hk=>hk) trivial (Below.refl _ _) (Nat.le_refl _) (by simp) ?_;(case hd=>rfl);(case hg=>rfl);(case hr=>first | (go_simp;done) | (go_simp;rfl));(case hp=>exact (Reps.one (show Kd.M (Kd.int .u8) _ _ _ (((qu.length:Int)) % 256) [.int .u8 (((qu.length:Int)) % 256)] from rfl) (Reps.none _ _)));intro qqq w30 qiG hb hg_ hnew_;clear hg_ hnew_;(first | rw [← qie.out] at qiG | (simp only [Int.reduceToNat] at qiG;rw [← qie.out] at qiG));have qkN:=ak (Kd.R_lower qiG (below_size bs));replace qb:=b1 qb hb;replace HB:=b2s bs hb;clear hb qiG;obtain ⟨_,_,_,_,_,_,_,_,_,_,_,_,_,_⟩:=cells7 qb.out) | ((with_reducible refine gate_builtin (b:=.append) (xs:=#[.tmp 38,.tmp 40]) rfl ?_);at_builtin;refine Kd.R_append_rows (Kd.int .u8) (w0:=w) w.heap.size rfl (.tmp 38) (.tmp 40) 27 5 (.int .u8 0) 1 rfl Tryz.underlying27 qaw rfl (by decide) (by omega) qqq qbQ qu _ _ _ (fun _=>True) (fun _=>False) rfl rfl ?aO ?aR (fun _ _ h=>h) (fun _ h=>h.elim) ?aF ?aB ?aS ?aL ?_;(case aR=>exact cw yM.out HB.out);(case aB=>exact bs);(case aF=>exact (fun _ _=>trivial));(case aO=>exact (rw_ qkN.out));(case aS=>exact (below_size bs));(case aL=>have:=qkM.out;omega);intro qnv w33 ho hb hg hat;rw [← qpV.out] at ho;replace qb:=ak (blk_grown (bk qb.out) hg (Kd.R_ne qkN.out qb.out (by decide)));replace HB:=ak (hb);have qqg:=ak (ho);clear qkN;clear ho hb hg hat));go_ret;exact ⟨_,o1,rw_ qqg.out,bs⟩
    ·rw [if_neg c27] at H;exact absurd H (by simp)

def Xu.f (a0:Int) (a1:Int):Option (Int):=if a0 < a1 then (some (-1)) else (if a0 > a1 then (some 1) else (some 0))
set_option maxHeartbeats 8000000 in
set_option maxRecDepth 100000 in
theorem Xu.calls (a0:Int) (a1:Int) (r:Int) (w:World) (h:Xu.f a0 a1=some r) :
  Calls Tryz.prog 183 #[.int .i64 a0,.int .i64 a1] w fun e w'=>e=.returned (.int .i64 r)∧Drawn0 w w':=by
 have H:(if a0 < a1 then (some (-1)) else (if a0 > a1 then (some 1) else (some 0)))=some r:=h;clear h;replace H:=ip H;obtain ⟨c3b0,H⟩ | ⟨c3b0,H⟩:=H
 ·obtain rfl:=Option.some.inj H;go_enter Tryz.func183,Tryz.ntmps183;go_wp2;go_ret;exact ⟨o2,od⟩
 ·replace H:=ig H;obtain ⟨c4b0,H⟩ | ⟨c4b0,H⟩:=H
  ·obtain rfl:=Option.some.inj H;go_enter Tryz.func183,Tryz.ntmps183;go_wp2;go_ret;exact ⟨o2,od⟩
  ·obtain rfl:=Option.some.inj H;go_enter Tryz.func183,Tryz.ntmps183;go_wp2;go_ret;exact ⟨o2,od⟩

def zO.j0:Nat→Int→List (List Int)→Int→Int→Int→List (List Int)→List Int→List Int→List (List Int)→Int→Int→Int→List (List Int)→List Int→List Int→Option (Int)
 | 0,_,_,_,_,_,_,_,_,_,_,_,_,_,_,_=>none
 | k+1,x5,qB,ql,yK,yD,yw,yv,za,jQ,YM,YL,Xi,Xh,Xg,Xf=>if x5=0 then ((Qi.f qB ql yK yD yw yv za).bind fun jJ=>((Qi.f jQ YM YL Xi Xh Xg Xf).bind fun jt=>((yk.f jJ jt).bind fun Qj=>(some Qj)))) else (some x5)
def zO.f (k:Nat) (qe:List (List Int)) (qw:Int) (qI:Int) (qH:Int) (qv:List (List Int)) (qu:List Int) (qr:List Int) (qj:List (List Int)) (jM:Int) (zd:Int) (zi:Int) (jA:List (List Int)) (jB:List Int) (jC:List Int):Option (Int):=(jd.f k qe qj).bind fun qQ=>(if qQ=0 then ((Xu.f qw jM).bind fun qE=>(zO.j0 k qE qe qw qI qH qv qu qr qj jM zd zi jA jB jC)) else (zO.j0 k qQ qe qw qI qH qv qu qr qj jM zd zi jA jB jC))
set_option maxHeartbeats 8000000 in
set_option maxRecDepth 100000 in
theorem zO.calls (k:Nat) (qy:Option Addr) (qx:Nat) (qe:List (List Int)) (qw:Int) (qI:Int) (qH:Int) (zB:Option Addr) (zA:Nat) (qv:List (List Int)) (zN:Option Addr) (zJ:Nat) (qu:List Int) (zT:Option Addr) (zI:Nat) (qr:List Int) (jX:Option Addr) (jU:Nat) (qj:List (List Int)) (jM:Int) (zd:Int) (zi:Int) (Zn:Option Addr) (Zk:Nat) (jA:List (List Int)) (Zm:Option Addr) (Zj:Nat) (jB:List Int) (Zl:Option Addr) (Zi:Nat) (jC:List Int) (r:Int) (w:World) (qO:Kd.C (Kd.slice 5 (Kd.int .u8)) w qy qe.length qe) (qW:qe.length≤qx) (yn:Kd.C (Kd.slice 5 (Kd.int .u8)) w zB qv.length qv) (yt:qv.length≤zA) (ym:Kd.C (Kd.int .u8) w zN qu.length qu) (yr:qu.length≤zJ) (yl:Kd.C (Kd.int .i64) w zT qr.length qr) (yq:qr.length≤zI) (zQ:Kd.C (Kd.slice 5 (Kd.int .u8)) w jX qj.length qj) (yo:qj.length≤jU) (Yt:Kd.C (Kd.slice 5 (Kd.int .u8)) w Zn jA.length jA) (Yw:jA.length≤Zk) (Ys:Kd.C (Kd.int .u8) w Zm jB.length jB) (Yv:jB.length≤Zj) (Yr:Kd.C (Kd.int .i64) w Zl jC.length jC) (Yu:jC.length≤Zi) (h:zO.f k qe qw qI qH qv qu qr qj jM zd zi jA jB jC=some r) :
  Calls Tryz.prog 138 #[.agg #[.slice qy qe.length qx,.int .i64 qw,.int .i64 qI,.int .i64 qH,.slice zB qv.length zA,.slice zN qu.length zJ,.slice zT qr.length zI],.agg #[.slice jX qj.length jU,.int .i64 jM,.int .i64 zd,.int .i64 zi,.slice Zn jA.length Zk,.slice Zm jB.length Zj,.slice Zl jC.length Zi]] w fun e w'=>e=.returned (.int .i64 r)∧Below w.heap.size w w':=by
 have Yq:=Tryz.underlying105;have ZQ:=Tryz.underlying65;have qD:=ak qO;have qF:=ak qW;clear qO qW;have yd:=ak yn;have yg:=ak yt;clear yn yt;have yM:=ak ym;have yX:=ak yr;clear ym yr;have zr:=ak yl;have Qh:=ak yq;clear yl yq;have ze:=ak zQ;have zt:=ak yo;clear zQ yo;have YC:=ak Yt;have YE:=ak Yw;clear Yt Yw;have YZ:=ak Ys;have Xa:=ak Yv;clear Ys Yv;have XA:=ak Yr;have XC:=ak Yu;clear Yr Yu;have HB:=ak (Below.refl w.heap.size w);have H:((jd.f k qe qj).bind fun qQ=>(if qQ=0 then ((Xu.f qw jM).bind fun qE=>(zO.j0 k qE qe qw qI qH qv qu qr qj jM zd zi jA jB jC)) else (zO.j0 k qQ qe qw qI qH qv qu qr qj jM zd zi jA jB jC)))=some r:=h;clear h;replace H:=bnd H;obtain ⟨qQ,A3,H⟩:=H;have HC4:=ak H;clear H;go_enter Tryz.func138,Tryz.ntmps138;go_upto_if 12 with (first | ((with_reducible refine gate_dst (N:=2) rfl ?_);refine bxd (N:=2) rfl HB ?_;clear HB;intro qh w5 hg HB qb qC hb;have jj:=qC;clear hb hg) | ((with_reducible refine gate_dst (N:=3) rfl ?_);refine bxe (N:=3) rfl ?_;intro qp hg w6 hbox hb;have qf:=ak (hbox);have jh:=b3s hg bs;have yh:=jh;replace HB:=b2s bs hb;have qk:=b4 hg qb;have qn:=b5 hg qb;replace qb:=b1 qb hb;clear hb hbox hg;have qiM:=qk.out;have qiL:=qn.out;obtain ⟨qbP,qiY,qoq,qop,qoo,qon,qom,qbO,qiP,qn0,qnZ,qnY,qnX,qnW⟩:=cells7 qb.out;obtain ⟨qba,qcL,qol,qok,qoj,qoi,qoh,qa9,qcK,qnV,qnU,qnT,qnS,qnR⟩:=cells7 qf.out) | ((with_reducible refine gate_callee (f:=140) rfl ?_);refine glB 10 rfl rfl Tryz.func140 (jd.calls k _ _ qe _ _ qj qQ _ (cv qD HB) qF.out (cv ze HB) zt.out A3.out) (fun w10 hb=>?_);replace qb:=b1 qb hb;replace qf:=b1 qf hb;replace HB:=b2s bs hb;(try clear hb)))
 (try simp only [Act.put,List.setIfInBounds_toArray,List.set_cons_zero,List.set_cons_succ])
 go_cut [5] (fun v5 wc=>∃ (kq:Nat) (qk3:Int),v5=.int .i64 qk3∧Aside0 (zO.j0 kq qk3 qe qw qI qH qv qu qr qj jM zd zi jA jB jC=some r)∧Aside0 (kq≤k)∧Aside0 (wc.heap[qh]?=some (.cells #[(.slice qy qe.length qx),.int .i64 qw,.int .i64 qI,.int .i64 qH,(.slice zB qv.length zA),(.slice zN qu.length zJ),(.slice zT qr.length zI)] 105 (0,0)))∧Aside0 (wc.heap[qp]?=some (.cells #[(.slice jX qj.length jU),.int .i64 jM,.int .i64 zd,.int .i64 zi,(.slice Zn jA.length Zk),(.slice Zm jB.length Zj),(.slice Zl jC.length Zi)] 105 (0,0)))∧Aside0 (Below w.heap.size w wc))
 case first =>
  have H:=HC4.out;clear HC4;replace H:=ie H;obtain ⟨c11b0,c11b1,H⟩ | ⟨c11b0,c11b1,H⟩:=H
  ·(first | rw [c11b0] | (simp only [i64_w,i32_w];rw [c11b0]) | skip)
   replace H:=bnd H;obtain ⟨qE,A12,H⟩:=H;have H':=ak H;clear H;have qvD:=qk.out;have quT:=qn.out;obtain ⟨_,_,_,_,_,_,_,_,_,_,_,_,_,_⟩:=cells7 qb.out;obtain ⟨_,_,_,_,_,_,_,_,_,_,_,_,_,_⟩:=cells7 qf.out;go_wp2_with (((with_reducible refine gate_callee (f:=183) rfl ?_);refine glD 17 rfl rfl Tryz.func183 (Xu.calls qw jM qE _ A12.out) (fun nd=>?_)));go_meet
   case rel=>exact ⟨_,(qE),o2,H',⟨o3⟩,⟨bk qb.out⟩,⟨bk qf.out⟩,⟨bs⟩⟩
  ·(first | rw [c11b0] | (simp only [i64_w,i32_w];rw [c11b0]) | skip)
   have H':=ak H;clear H;go_wp2;go_meet
   case rel=>exact ⟨_,(qQ),o2,H',⟨o3⟩,⟨bk qb.out⟩,⟨bk qf.out⟩,⟨bs⟩⟩
 case rest =>
  clear HC4;(try clear qbP)
  (try clear qiY)
  (try clear qoq)
  (try clear qop)
  (try clear qoo)
  (try clear qon)
  (try clear qom)
  (try clear qba)
  (try clear qcL)
  (try clear qol)
  (try clear qok)
  (try clear qoj)
  (try clear qoi)
  (try clear qoh)
  (try clear qbO)
  (try clear qiP)
  (try clear qn0)
  (try clear qnZ)
  (try clear qnY)
  (try clear qnX)
  (try clear qnW)
  (try clear qa9)
  (try clear qcK)
  (try clear qnV)
  (try clear qnU)
  (try clear qnT)
  (try clear qnS)
  (try clear qnR)
  obtain ⟨kq,qk3,rfl,HA,HJ3,qb,qf,HB⟩:=hcut;cases kq with
  | zero=>exact absurd HA.out (by simp [zO.j0])
  | succ kj3 =>
   have H:=HA.out;clear HA;simp only [zO.j0] at H;replace H:=ie H;obtain ⟨c16b0,c16b1,H⟩ | ⟨c16b0,c16b1,H⟩:=H
   ·replace H:=bnd H;obtain ⟨jJ,A17,H⟩:=H;replace H:=bnd H;obtain ⟨jt,A18,H⟩:=H;replace H:=bnd H;obtain ⟨Qj,A19,H⟩:=H;obtain rfl:=Option.some.inj H;try go_wp2
    replace qb:=ak (blk_drew qb.out);replace qf:=ak (blk_drew qf.out);replace HB:=ak (below_drew1 HB.out);refine start_ (n:=6) (S:=fun w'=>w'.cell? ⟨qh,0,none⟩=some (.slice qy qe.length qx)∧w'.cell? ⟨qh,1,none⟩=some (.int .i64 qw)∧w'.cell? ⟨qh,2,none⟩=some (.int .i64 qI)∧w'.cell? ⟨qh,3,none⟩=some (.int .i64 qH)∧w'.cell? ⟨qh,4,none⟩=some (.slice zB qv.length zA)∧w'.cell? ⟨qh,5,none⟩=some (.slice zN qu.length zJ)∧w'.cell? ⟨qh,6,none⟩=some (.slice zT qr.length zI)∧w'.cell? ⟨qp,0,none⟩=some (.slice jX qj.length jU)∧w'.cell? ⟨qp,1,none⟩=some (.int .i64 jM)∧w'.cell? ⟨qp,2,none⟩=some (.int .i64 zd)∧w'.cell? ⟨qp,3,none⟩=some (.int .i64 zi)∧w'.cell? ⟨qp,4,none⟩=some (.slice Zn jA.length Zk)∧w'.cell? ⟨qp,5,none⟩=some (.slice Zm jB.length Zj)∧w'.cell? ⟨qp,6,none⟩=some (.slice Zl jC.length Zi)) (ds:=[]) (bA 6 0) (by kernel_rfl) rfl rfl ⟨(blk_cell qb.out 0).trans rfl,(blk_cell qb.out 1).trans rfl,(blk_cell qb.out 2).trans rfl,(blk_cell qb.out 3).trans rfl,(blk_cell qb.out 4).trans rfl,(blk_cell qb.out 5).trans rfl,(blk_cell qb.out 6).trans rfl,(blk_cell qf.out 0).trans rfl,(blk_cell qf.out 1).trans rfl,(blk_cell qf.out 2).trans rfl,(blk_cell qf.out 3).trans rfl,(blk_cell qf.out 4).trans rfl,(blk_cell qf.out 5).trans rfl,(blk_cell qf.out 6).trans rfl⟩ (fun hHeld=>?_);generalize wc.drew=w20 at qb qf HB hHeld ⊢;refine take_ (i:=0) (N:=some 20) (v:=?_) (a':=?_) (bA 6 1) rfl rfl (by kernel_rfl) (fun _ _ _ h=>h) (Or.inl ⟨by rfl,?_⟩) hHeld ?_ ?_;rotate_left;rintro w' ⟨s0,s1,s2,s3,s4,s5,s6,s7,s8,s9,s10,s11,s12,s13⟩;go_simp;with_reducible rfl;rotate_left;go_simp;rfl
    refine take_ (i:=2) (N:=some 22) (v:=?_) (a':=?_) (bA 6 5) rfl rfl (by kernel_rfl) (fun _ _ _ h=>h) (Or.inl ⟨by rfl,?_⟩) hHeld ?_ ?_;rotate_left;rintro w' ⟨s0,s1,s2,s3,s4,s5,s6,s7,s8,s9,s10,s11,s12,s13⟩;go_simp;with_reducible rfl;rotate_left;go_simp;rfl
    refine one_ (i:=1) (N:=some 21) (bA 6 7) rfl rfl (by kernel_rfl) (by decide) (fun K hK=>?_);refine gsG Tryz.func160 (Qi.calls _ _ qe qw qI qH _ _ qv _ _ qu _ _ qr jJ _ (cv qD HB) qF.out (cv yd HB) yg.out (cv yM HB) yX.out (cv zr HB) Qh.out A17.out) ?_;rintro e w21 ⟨qa3,rfl,ho0,hb⟩;refine ⟨_,rfl,?_⟩;have yT:=ak (Kd.R_lower ho0 (below_size bs));replace qb:=b1 qb hb;replace qf:=b1 qf hb;replace HB:=b2s bs hb;refine hK.out _ _ kp (fun hHeld=>?_);(try clear hb)
    (try clear ho0)
    clear hK K;refine norm_ (a':=?_) ?_ ?_;rotate_left;go_simp;rfl;refine one_ (i:=3) (N:=some 23) (bA 6 15) rfl rfl (by kernel_rfl) (by decide) (fun K hK=>?_);refine gsG Tryz.func160 (Qi.calls _ _ qj jM zd zi _ _ jA _ _ jB _ _ jC jt _ (cv ze HB) zt.out (cv YC HB) YE.out (cv YZ HB) Xa.out (cv XA HB) XC.out A18.out) ?_;rintro e w22 ⟨qit,rfl,ho0,hb⟩;refine ⟨_,rfl,?_⟩;have XB:=ak (Kd.R_lower (Kd.R_new' ho0 (Kd.R_lt (rw_ yT.out))) (below_size bs));replace yT:=ak (Kd.R_elder' (rw_ yT.out) (Kd.R_base ho0) hb);replace qb:=b1 qb hb;replace qf:=b1 qf hb;replace HB:=b2s bs hb;(try clear hb)
    (try clear ho0)
    obtain ⟨qwD,qwl,qoQ⟩:=Kd.R_slice yT.out;(first | subst qoQ | (injection qoQ with f1_ f2_ f3_;have f4_:=f1_.symm;have f5_:=f3_.symm;clear f1_ f2_ f3_;subst f4_;subst f5_))
    obtain ⟨qwC,qwk,qoP⟩:=Kd.R_slice XB.out;(first | subst qoP | (injection qoP with f1_ f2_ f3_;have f4_:=f1_.symm;have f5_:=f3_.symm;clear f1_ f2_ f3_;subst f4_;subst f5_))
    refine hK.out _ _ ⟨(blk_cell qb.out 0).trans rfl,(blk_cell qb.out 1).trans rfl,(blk_cell qb.out 2).trans rfl,(blk_cell qb.out 3).trans rfl,(blk_cell qb.out 4).trans rfl,(blk_cell qb.out 5).trans rfl,(blk_cell qb.out 6).trans rfl,(blk_cell qf.out 0).trans rfl,(blk_cell qf.out 1).trans rfl,(blk_cell qf.out 2).trans rfl,(blk_cell qf.out 3).trans rfl,(blk_cell qf.out 4).trans rfl,(blk_cell qf.out 5).trans rfl,(blk_cell qf.out 6).trans rfl⟩ (fun hHeld=>?_);clear hK K;refine norm_ (a':=?_) ?_ ?_;rotate_left;go_simp;rfl;refine one_ (i:=4) (N:=some 24) (bA 6 31) rfl rfl (by kernel_rfl) (by decide) (fun K hK=>?_);refine gsG Tryz.func184 (yk.calls _ _ jJ _ _ jt Qj _ ?jV ?QS ?yb ?Jt A19.out) ?_;(case jV=>repeat (first | exact (Kd.R_reads' yT.out).2.2 | (with_reducible refine Kd.C_alloc ?_ _) | (with_reducible refine Kd.C_drewN ?_ _) | (with_reducible refine Kd.C_drew ?_)))
    (case QS=>exact (Kd.R_reads' yT.out).2.1)
    (case yb=>repeat (first | exact (Kd.R_reads' XB.out).2.2 | (with_reducible refine Kd.C_alloc ?_ _) | (with_reducible refine Kd.C_drewN ?_ _) | (with_reducible refine Kd.C_drew ?_)))
    (case Jt=>exact (Kd.R_reads' XB.out).2.1)
    rintro e w' ⟨rfl,⟨nd,rfl⟩⟩;refine ⟨_,rfl,?_⟩;refine hK.out _ _ ⟨(blk_cell qb.out 0).trans rfl,(blk_cell qb.out 1).trans rfl,(blk_cell qb.out 2).trans rfl,(blk_cell qb.out 3).trans rfl,(blk_cell qb.out 4).trans rfl,(blk_cell qb.out 5).trans rfl,(blk_cell qb.out 6).trans rfl,(blk_cell qf.out 0).trans rfl,(blk_cell qf.out 1).trans rfl,(blk_cell qf.out 2).trans rfl,(blk_cell qf.out 3).trans rfl,(blk_cell qf.out 4).trans rfl,(blk_cell qf.out 5).trans rfl,(blk_cell qf.out 6).trans rfl⟩ (fun hHeld=>?_);clear hK K;refine norm_ (a':=?_) ?_ ?_;rotate_left;go_simp;rfl;refine pure_ (i:=5) (N:=some 5) (v:=?_) (a':=?_) (bA 6 63) rfl rfl (by kernel_rfl) (fun _ _ _ h=>h) (Or.inl ⟨by rfl,?_⟩) ?_ ?_;rotate_left;intro w';go_simp;with_reducible rfl;rotate_left;go_simp;rfl
    refine done_ (by kernel_rfl) ?_;try go_wp2
    go_ret;exact ⟨o1,bs⟩
   ·obtain rfl:=Option.some.inj H;go_wp2;go_ret;exact ⟨o1,bs⟩

mutual
def ja.l0:Nat→List (qY)→Int→Int→Option (Bool)
 | 0,_,_,_=>none
 | k+1,x0,x1,x5=>if x5 < (x0.length:Int) then (if x5=x1 then (ja.j1 k x0 x1 x5 false) else (if 0≤x5 then (if 0≤x1 then (if x1 < (x0.length:Int) then ((jd.f k ((qa x0 x5).f0.f0) ((qa x0 x1).f0.f0)).bind fun qE=>(ja.j1 k x0 x1 x5 (qE == 0))) else (none)) else (none)) else (none))) else (some true)
def ja.j1:Nat→List (qY)→Int→Int→Bool→Option (Bool)
 | 0,_,_,_,_=>none
 | k+1,x0,x1,x5,x34=>if x34=true then (some false) else (ja.l0 k x0 x1 (wrap64 (x5+1)))
end
def ja.f (k:Nat) (l0:List (qY)) (a1:Int):Option (Bool):=if 0≤a1 then (if a1 < (l0.length:Int) then (if ((qa l0 a1).f1)=5 then (ja.l0 k l0 a1 0) else (some true)) else (none)) else (none)
def ja.T6:Bool × List (List Nat × List Nat):=(true,[([],[]),([],[]),([0,1],[0,1]),([2],[2]),([3],[3]),([3],[3]),([4,5,3],[3,4,5]),([6,3],[3,6]),([7,3],[3,7]),([3],[3]),([3],[3]),([9,10,3],[3,9,10]),([11,3],[3,11]),([12,3],[3,12]),([8,13,3,3],[3,8,13]),([14,3],[3,14]),([3,15],[3,15])])
def ja.B6:List Nat:=[0,0,3,7,15,15,63,127,255,15,15,1551,3599,7695,16383,32767,65535]
theorem ja.tab6:rtab .any (opsOf Tryz.f139 6)=ja.T6:=by kernel_rfl
theorem ja.bits6:waitsOk ja.T6.2 ja.B6=true:=by kernel_rfl
set_option maxHeartbeats 8000000 in
set_option maxRecDepth 100000 in
theorem ja.calls (k:Nat) (A0:Option Addr) (c0:Nat) (l0:List (qY)) (a1:Int) (r:Bool) (w:World) (hr0:Kd.C jR w A0 l0.length l0) (hc0:l0.length≤c0) (h:ja.f k l0 a1=some r) :
  Calls Tryz.prog 139 #[.slice A0 l0.length c0,.int .i64 a1] w fun e w'=>e=.returned (.bool r)∧Below w.heap.size w w':=by
 have ZQ:=Tryz.underlying65;have HR0:=ak hr0;have HC0:=ak hc0;clear hr0 hc0;have HB:=ak (Below.refl w.heap.size w);have H:(if 0≤a1 then (if a1 < (l0.length:Int) then (if ((qa l0 a1).f1)=5 then (ja.l0 k l0 a1 0) else (some true)) else (none)) else (none))=some r:=h;clear h;replace H:=ipN H;obtain ⟨c3b0,H⟩:=H;replace H:=ipN H;obtain ⟨c4b0,H⟩:=H;replace H:=ie H;obtain ⟨c5b0,c5b1,H⟩ | ⟨c5b0,c5b1,H⟩:=H
 ·have H':=ak H;clear H;obtain ⟨qT,Zv,Zt,YY,YV,YX,YU,YW,YT,rfl,zw,Zb,Za,JZ,JY,JX,JW,yx,zD,Jb,Qu,Ja,Qt,QZ,Qs,Jv,Ju⟩:=el0_T105 HR0 a1;go_enter Tryz.func139,Tryz.ntmps139;go_wp2;go_loopg [5] k (fun kq v5 w'=>∃ (qg:Int),v5=.int .i64 qg∧Aside0 (ja.l0 kq l0 a1 qg=some r)∧Aside0 (kq≤k)∧Aside0 (Below w.heap.size w w'))
  case atStart=>exact ⟨(0),o2,H',⟨Nat.le_refl _⟩,⟨bw HB.out⟩⟩
  case round =>
   clear H';(try clear c3b0)
   (try clear c4b0)
   (try clear c5b0)
   (try clear c5b1)
   (try clear zw)
   (try clear Zb)
   (try clear Za)
   (try clear JZ)
   (try clear JY)
   (try clear JX)
   (try clear JW)
   (try clear Jv)
   (try clear Ju)
   obtain ⟨qg,rfl,HA,HK1,HB⟩:=hrel;cases gk with
   | zero=>exact absurd HA.out (by simp [ja.l0])
   | succ k1 =>
    have H:=HA.out;clear HA;simp only [ja.l0] at H;replace H:=ip H;obtain ⟨c6b0,H⟩ | ⟨c6b0,H⟩:=H
    ·have HC7:=ak H;clear H;go_upto_region 6 with (fail)
     go_cut [34] (fun v34 wc=>∃ (kq:Nat) (qjX:Bool),v34=.bool qjX∧Aside0 (ja.j1 kq l0 a1 qg qjX=some r)∧Aside0 (kq≤k1)∧Aside0 (Below w.heap.size w wc))
     case first =>
      have H:=HC7.out;clear HC7;replace H:=ie H;obtain ⟨c8b0,c8b1,H⟩ | ⟨c8b0,c8b1,H⟩:=H
      ·(first | rw [c8b0] | (simp only [i64_w,i32_w];rw [c8b0]) | skip)
       have H':=ak H;clear H;try go_wp2
       replace HB:=ak (below_drew1 HB.out);refine start_ (n:=17) (S:=fun w'=>True) (ds:=[]) (bA 17 0) (by kernel_rfl) rfl rfl trivial (fun hHeld=>?_);refine with_tabW ja.tab6 ja.bits6 (fun HT_ HW_=>?_);generalize wr.drew=w9 at HB hHeld ⊢;refine pu HT_ 0 ?_;refine pu HT_ 1 ?_;refine pu HT_ 2 ?_;refine pu HT_ 3 ?_;refine sk HT_ 4 ?_;refine sk HT_ 5 ?_;refine sk HT_ 6 ?_;refine sk HT_ 7 ?_;refine sk HT_ 8 ?_;refine sk HT_ 9 ?_;refine sk HT_ 10 ?_;refine sk HT_ 11 ?_;refine sk HT_ 12 ?_;refine sk HT_ 13 ?_;refine sk HT_ 14 ?_;refine sk HT_ 15 ?_;refine pu HT_ 16 ?_;refine done_ (done_of HT_.out (by kernel_rfl)) ?_;try go_wp2
       go_meet
       case rel=>exact ⟨_,(false),o2,H',⟨by have:=HK1.out;first | omega | exact Nat.le_refl _⟩,⟨bw HB.out⟩⟩
      ·(first | rw [c8b0] | (simp only [i64_w,i32_w];rw [c8b0]) | skip)
       replace H:=ipN H;obtain ⟨c10b0,H⟩:=H;replace H:=ipN H;obtain ⟨c11b0,H⟩:=H;replace H:=ipN H;obtain ⟨c12b0,H⟩:=H;replace H:=bnd H;obtain ⟨qE,A13,H⟩:=H;have H':=ak H;clear H;try go_wp2
       replace HB:=ak (below_drew1 HB.out);obtain ⟨JP,JO,Yo,Yi,Yn,Yh,Ym,Yg,Xq,Xp,Xo,Xn,Xm,Xl,Xk,yE,JV,JU,JT,JS,JR,JQ,yU,zy,Zz,Qr,Zy,Qq,Zx,Qp,Xc,Xb⟩:=el2w_T105 HR0 HB qg;obtain ⟨zj,zh,zM,zH,zL,zG,zK,zF,qr3,qr2,qr1,qr0,qrZ,qrY,qrX,QD,qaC,qaB,qaA,ZP,ZO,ZN,zn,js,Xt,yS,Xs,yR,Xr,yQ,Zg,Zf⟩:=el2w_T105 HR0 HB a1;refine start_ (n:=17) (S:=fun w'=>w'.cell? (qT.add ((qg).toNat * 7))=some (.slice JP ((qa l0 qg).f0.f0).length JO)∧w'.cell? ⟨(qT.add ((qg).toNat * 7)).block,(qT.add ((qg).toNat * 7)).off+1,none⟩=some (.int .i64 ((qa l0 qg).f1))∧w'.cell? ⟨(qT.add ((qg).toNat * 7)).block,(qT.add ((qg).toNat * 7)).off+2,none⟩=some (.int .i64 ((qa l0 qg).f2))∧w'.cell? ⟨(qT.add ((qg).toNat * 7)).block,(qT.add ((qg).toNat * 7)).off+3,none⟩=some (.int .i64 ((qa l0 qg).f3))∧w'.cell? ⟨(qT.add ((qg).toNat * 7)).block,(qT.add ((qg).toNat * 7)).off+4,none⟩=some (.slice Yo ((qa l0 qg).f4.f0).length Yi)∧w'.cell? ⟨(qT.add ((qg).toNat * 7)).block,(qT.add ((qg).toNat * 7)).off+5,none⟩=some (.slice Yn ((qa l0 qg).f5).length Yh)∧w'.cell? ⟨(qT.add ((qg).toNat * 7)).block,(qT.add ((qg).toNat * 7)).off+6,none⟩=some (.slice Ym ((qa l0 qg).f6).length Yg)∧w'.cell? (qT.add ((a1).toNat * 7))=some (.slice zj ((qa l0 a1).f0.f0).length zh)∧w'.cell? ⟨(qT.add ((a1).toNat * 7)).block,(qT.add ((a1).toNat * 7)).off+1,none⟩=some (.int .i64 ((qa l0 a1).f1))∧w'.cell? ⟨(qT.add ((a1).toNat * 7)).block,(qT.add ((a1).toNat * 7)).off+2,none⟩=some (.int .i64 ((qa l0 a1).f2))∧w'.cell? ⟨(qT.add ((a1).toNat * 7)).block,(qT.add ((a1).toNat * 7)).off+3,none⟩=some (.int .i64 ((qa l0 a1).f3))∧w'.cell? ⟨(qT.add ((a1).toNat * 7)).block,(qT.add ((a1).toNat * 7)).off+4,none⟩=some (.slice zM ((qa l0 a1).f4.f0).length zH)∧w'.cell? ⟨(qT.add ((a1).toNat * 7)).block,(qT.add ((a1).toNat * 7)).off+5,none⟩=some (.slice zL ((qa l0 a1).f5).length zG)∧w'.cell? ⟨(qT.add ((a1).toNat * 7)).block,(qT.add ((a1).toNat * 7)).off+6,none⟩=some (.slice zK ((qa l0 a1).f6).length zF)) (ds:=[]) (bA 17 0) (by kernel_rfl) rfl rfl kq (fun hHeld=>?_);refine with_tabW ja.tab6 ja.bits6 (fun HT_ HW_=>?_);generalize wr.drew=w14 at HB zy Qr Qq Qp js yS yR yQ yE JV JU JT JS JR JQ QD qaC qaB qaA ZP ZO ZN hHeld ⊢;refine pu HT_ 0 ?_;refine pu HT_ 1 ?_;refine pu HT_ 2 ?_;refine pu HT_ 3 ?_;refine pu HT_ 4 ?_;refine pu HT_ 5 ?_;refine pu HT_ 6 ?_;refine pu HT_ 7 ?_;refine pu HT_ 9 ?_;refine pu HT_ 10 ?_;refine pu HT_ 11 ?_;refine pu HT_ 12 ?_;refine ta HT_ HW_ hHeld 8 ?_;refine ta HT_ HW_ hHeld 13 ?_;refine on HT_ 14 (fun K hK=>?_);refine gsB Tryz.func140 (jd.calls k1 _ _ ((qa l0 qg).f0.f0) _ _ ((qa l0 a1).f0.f0) qE _ (cv zy HB) yU.out (cv js HB) zn.out A13.out) (fun w15 hb=>?_);replace HB:=b2 HB hb;refine hK.out _ _ kp (fun hHeld=>?_);(try clear hb)
       clear hK K;refine norm_ (a':=?_) ?_ ?_;rotate_left;go_simp;rfl;refine pu HT_ 15 ?_;refine pu HT_ 16 ?_;refine done_ (done_of HT_.out (by kernel_rfl)) ?_;try go_wp2
       go_meet
       case rel=>exact ⟨_,((qE == 0)),o2,H',⟨by have:=HK1.out;first | omega | exact Nat.le_refl _⟩,⟨bw HB.out⟩⟩
     case rest =>
      clear HC7;(try clear c3b0)
      (try clear c4b0)
      (try clear c5b0)
      (try clear c5b1)
      (try clear c6b0)
      (try clear zw)
      (try clear Zb)
      (try clear Za)
      (try clear JZ)
      (try clear JY)
      (try clear JX)
      (try clear JW)
      (try clear Jv)
      (try clear Ju)
      obtain ⟨kq,qjX,rfl,HA,HJ6,HB⟩:=hcut;cases kq with
      | zero=>exact absurd HA.out (by simp [ja.j1])
      | succ kj6 =>
       have H:=HA.out;clear HA;simp only [ja.j1] at H;replace H:=ib H;obtain ⟨rfl,H⟩ | ⟨rfl,H⟩:=H
       ·obtain rfl:=Option.some.inj H;go_wp2;go_ret;exact ⟨o1,bw HB.out⟩
       ·have H':=ak H;clear H;go_wp2;go_roundg kj6;case measure=>have:=HK1.out;have:=HJ6.out;omega
        case rel=>exact ⟨(wrap64 (qg+1)),o2,H',⟨by have:=HK1.out;have:=HJ6.out;omega⟩,⟨bw HB.out⟩⟩
    ·obtain rfl:=Option.some.inj H;go_wp2;go_ret;exact ⟨o1,bw HB.out⟩
 ·obtain rfl:=Option.some.inj H;obtain ⟨qT,Zv,Zt,YY,YV,YX,YU,YW,YT,rfl,zw,Zb,Za,JZ,JY,JX,JW,yx,zD,Jb,Qu,Ja,Qt,QZ,Qs,Jv,Ju⟩:=el0_T105 HR0 a1;go_enter Tryz.func139,Tryz.ntmps139;go_wp2;go_ret;exact ⟨o1,bw HB.out⟩

end Go.Proofs.YtfddbkaoghdfgaaGreat.Q
