/- Printed by a program of this session (wip/myprint.py), which drives the kit's printer: functions and what their calls do. -/
import Derived.Test.YtfddbkaoghdfgaaGreatProg
import Derived.Below
import Derived.Deep.Draws
import Derived.Deep.AppendLies
import Derived.Maps.AppendAt
import Derived.OwnWalk
import Derived.Laws.BytesArg
import Derived.Laws.MakeOwn
import Derived.Laws.OwnMore
import Derived.Deep.OwnRows
import Derived.Tactics
import Derived.Lib.ConvBytes
import Derived.Laws.Slices
import Derived.WalkKit
import Derived.KernelRfl
import Derived.RowKit3
import Derived.Deep.LoopGhost
import Derived.Deep.QuietTactic
import Derived.BigQuiet
import Derived.WideLaws
import Derived.Deep.DeepCutAuto
import Derived.Deep.CutBlock
import Derived.Deep.RegionHeld3
import Derived.Laws.Rows
import Derived.Lib.AppendStr
import Derived.ArgAppend
import Derived.Laws.IdiomCopy
import Derived.OrdersHeld
import Derived.Laws.BitsLemmas
import Derived.RowKit
import Derived.WalkSpells
import Derived.WalkLawsBesides
import Derived.Shelf.Abstract
import Derived.Test.YtfddbkaoghdfgaaGreatVFnExactTxnBytes
import Derived.Maps.Own
import Derived.Maps.Views
namespace Go.Proofs.YtfddbkaoghdfgaaGreat.Q
open Go.RowKit Go Go.Proofs.YtfddbkaoghdfgaaGreatW.PrintWords Go.Proofs.YtfddbkaoghdfgaaGreatW.PrintLast Go.Proofs.YtfddbkaoghdfgaaGreatW.PrintMore

set_option linter.unusedVariables false
set_option linter.unusedSimpArgs false

theorem qoz:(Tryz.prog.info? 3).map (fun i=>(i.zero,i.size,i.bytes))=some (some (.int .i64 0),1,8):=by kernel_rfl
theorem Jz:(Tryz.prog.info? 5).map (fun i=>(i.zero,i.size,i.bytes))=some (some (.int .u8 0),1,1):=by kernel_rfl
theorem qno:(Tryz.prog.info? 27).map (fun i=>(i.zero,i.size,i.bytes))=some (some (.slice none 0 0),1,24):=by kernel_rfl
theorem qnn:(Tryz.prog.info? 96).map (fun i=>(i.zero,i.size,i.bytes))=some (some (.agg #[(.slice none 0 0),(.int .i64 0)]),2,32):=by kernel_rfl
theorem qd9:(Tryz.prog.info? 105).map (fun i=>(i.zero,i.size,i.bytes))=some (some (.agg #[(.slice none 0 0),(.int .i64 0),(.int .i64 0),(.int .i64 0),(.slice none 0 0),(.slice none 0 0),(.slice none 0 0)]),7,120):=by kernel_rfl
theorem qla:(Tryz.prog.info? 107).map (fun i=>(i.zero,i.size,i.bytes))=some (some (.agg #[(.slice none 0 0),(.int .i64 0),(.int .i64 0),(.int .i64 0),(.slice none 0 0),(.slice none 0 0),(.slice none 0 0),(.int .i64 0),(.bool false)]),9,136):=by kernel_rfl
-- the values' own types
def zi (xs:List (List Int)) (i:Int):(List Int):=xs.getD i.toNat ([]:List Int)
theorem qcq {w:World} {A:Option Addr} {n:Nat} {xs:List (List Int)} (h:Kd.C (Kd.slice 5 (Kd.int .u8)) w A n xs) (i:Int) (h0:0≤i) (h1:i < n):∃ ad A0 c0,A=some ad∧w.cell? (ad.add i.toNat)=some (.slice A0 (zi xs i).length c0)∧(zi xs i).length≤c0∧(Kd.int .u8).C w A0 (zi xs i).length (zi xs i):=by
  obtain ⟨ad,c,e,_,hK,hc0⟩:=Kd.C_get h ([]:List Int) i h0 h1;have hc:∀ j u,c[j]?=some u→w.cell? (ad.add (i.toNat * 1+j))=some u:=hc0;obtain ⟨A0,c0,rfl,l0,g0⟩:=hK;exact ⟨ad,A0,c0,e,by have hq:=hc 0 _ rfl;rwa [Nat.mul_one,Nat.add_zero] at hq,l0,g0⟩

structure S59 where
  f0:(List (List Int))
def z59:S59:=⟨([]:List (List Int))⟩
def k59:Kd S59:=Kd.iso (Kd.slice 27 (Kd.slice 5 (Kd.int .u8))) (fun x:S59=>x.f0)
theorem k59_open {w:World} {x:S59} {cs:List Value} (h:k59.K w x cs):∃ A0 c0,cs=[.slice A0 x.f0.length c0]∧x.f0.length≤c0∧(Kd.slice 5 (Kd.int .u8)).C w A0 x.f0.length x.f0:=by
  obtain ⟨A0,c0,rfl,l0,g0⟩:=h;exact ⟨A0,c0,rfl,l0,g0⟩
structure JV where
  f0:S59
  f1:Int
def qm6:JV:=⟨z59,(0:Int)⟩
def Xl:Kd JV:=Kd.iso (Kd.pair k59 (Kd.int .i64)) (fun x:JV=>(x.f0,x.f1))
theorem k134_open {w:World} {x:JV} {cs:List Value} (h:Xl.K w x cs):∃ A0 c0,cs=[.slice A0 x.f0.f0.length c0,.int .i64 x.f1]∧x.f0.f0.length≤c0∧(Kd.slice 5 (Kd.int .u8)).C w A0 x.f0.f0.length x.f0.f0:=by
  obtain ⟨_,_,rfl,s0,rfl⟩:=h;obtain ⟨A0,c0,rfl,l0,g0⟩:=k59_open s0;exact ⟨A0,c0,rfl,l0,g0⟩
def Jw (xs:List JV) (i:Int):JV:=xs.getD i.toNat qm6
theorem qml {w:World} {A:Option Addr} {n:Nat} {xs:List JV} (h:Kd.C Xl w A n xs) (i:Int) (h0:0≤i) (h1:i < n):∃ ad A0 c0,A=some ad∧w.cell? (ad.add (i.toNat * 2))=some (.slice A0 (Jw xs i).f0.f0.length c0)∧w.cell? ⟨(ad.add (i.toNat * 2)).block,(ad.add (i.toNat * 2)).off+1,none⟩=some (.int .i64 (Jw xs i).f1)∧(Jw xs i).f0.f0.length≤c0∧(Kd.slice 5 (Kd.int .u8)).C w A0 (Jw xs i).f0.f0.length (Jw xs i).f0.f0:=by
  obtain ⟨ad,c,e,_,hK,hc0⟩:=Kd.C_get h qm6 i h0 h1;have hc:∀ j u,c[j]?=some u→w.cell? (ad.add (i.toNat * 2+j))=some u:=hc0;obtain ⟨A0,c0,rfl,l0,g0⟩:=k134_open hK;exact ⟨ad,A0,c0,e,hc 0 _ rfl,by rw [← add_field _ _ 1 (by omega)];exact hc 1 _ rfl,l0,g0⟩

structure yo where
  f0:S59
  f1:Int
  f2:Int
  f3:Int
  f4:S59
  f5:(List Int)
  f6:(List Int)
def qj5:yo:=⟨z59,(0:Int),(0:Int),(0:Int),z59,([]:List Int),([]:List Int)⟩
def yK:Kd yo:=Kd.iso (Kd.pair k59 (Kd.pair (Kd.int .i64) (Kd.pair (Kd.int .i64) (Kd.pair (Kd.int .i64) (Kd.pair k59 (Kd.pair (Kd.slice 5 (Kd.int .u8)) (Kd.slice 3 (Kd.int .i64)))))))) (fun x:yo=>(x.f0,x.f1,x.f2,x.f3,x.f4,x.f5,x.f6))
theorem k114_open {w:World} {x:yo} {cs:List Value} (h:yK.K w x cs):∃ A0 c0 A4 c4 A5 c5 A6 c6,cs=[.slice A0 x.f0.f0.length c0,.int .i64 x.f1,.int .i64 x.f2,.int .i64 x.f3,.slice A4 x.f4.f0.length c4,.slice A5 x.f5.length c5,.slice A6 x.f6.length c6]∧x.f0.f0.length≤c0∧(Kd.slice 5 (Kd.int .u8)).C w A0 x.f0.f0.length x.f0.f0∧x.f4.f0.length≤c4∧(Kd.slice 5 (Kd.int .u8)).C w A4 x.f4.f0.length x.f4.f0∧x.f5.length≤c5∧(Kd.int .u8).C w A5 x.f5.length x.f5∧x.f6.length≤c6∧(Kd.int .i64).C w A6 x.f6.length x.f6:=by
  obtain ⟨_,_,rfl,s0,⟨_,_,rfl,rfl,⟨_,_,rfl,rfl,⟨_,_,rfl,rfl,⟨_,_,rfl,s4,⟨_,_,rfl,⟨A5,c5,rfl,l5,g5⟩,⟨A6,c6,rfl,l6,g6⟩⟩⟩⟩⟩⟩⟩:=h;obtain ⟨A0,c0,rfl,l0,g0⟩:=k59_open s0;obtain ⟨A4,c4,rfl,l4,g4⟩:=k59_open s4;exact ⟨A0,c0,A4,c4,A5,c5,A6,c6,rfl,l0,g0,l4,g4,l5,g5,l6,g6⟩
def jr (xs:List yo) (i:Int):yo:=xs.getD i.toNat qj5
theorem qmn {w:World} {A:Option Addr} {n:Nat} {xs:List yo} (h:Kd.C yK w A n xs) (i:Int) (h0:0≤i) (h1:i < n):∃ ad A0 c0 A4 c4 A5 c5 A6 c6,A=some ad∧w.cell? (ad.add (i.toNat * 7))=some (.slice A0 (jr xs i).f0.f0.length c0)∧w.cell? ⟨(ad.add (i.toNat * 7)).block,(ad.add (i.toNat * 7)).off+1,none⟩=some (.int .i64 (jr xs i).f1)∧w.cell? ⟨(ad.add (i.toNat * 7)).block,(ad.add (i.toNat * 7)).off+2,none⟩=some (.int .i64 (jr xs i).f2)∧w.cell? ⟨(ad.add (i.toNat * 7)).block,(ad.add (i.toNat * 7)).off+3,none⟩=some (.int .i64 (jr xs i).f3)∧w.cell? ⟨(ad.add (i.toNat * 7)).block,(ad.add (i.toNat * 7)).off+4,none⟩=some (.slice A4 (jr xs i).f4.f0.length c4)∧w.cell? ⟨(ad.add (i.toNat * 7)).block,(ad.add (i.toNat * 7)).off+5,none⟩=some (.slice A5 (jr xs i).f5.length c5)∧w.cell? ⟨(ad.add (i.toNat * 7)).block,(ad.add (i.toNat * 7)).off+6,none⟩=some (.slice A6 (jr xs i).f6.length c6)∧(jr xs i).f0.f0.length≤c0∧(Kd.slice 5 (Kd.int .u8)).C w A0 (jr xs i).f0.f0.length (jr xs i).f0.f0∧(jr xs i).f4.f0.length≤c4∧(Kd.slice 5 (Kd.int .u8)).C w A4 (jr xs i).f4.f0.length (jr xs i).f4.f0∧(jr xs i).f5.length≤c5∧(Kd.int .u8).C w A5 (jr xs i).f5.length (jr xs i).f5∧(jr xs i).f6.length≤c6∧(Kd.int .i64).C w A6 (jr xs i).f6.length (jr xs i).f6:=by
  obtain ⟨ad,c,e,_,hK,hc0⟩:=Kd.C_get h qj5 i h0 h1;have hc:∀ j u,c[j]?=some u→w.cell? (ad.add (i.toNat * 7+j))=some u:=hc0;obtain ⟨A0,c0,A4,c4,A5,c5,A6,c6,rfl,l0,g0,l4,g4,l5,g5,l6,g6⟩:=k114_open hK;exact ⟨ad,A0,c0,A4,c4,A5,c5,A6,c6,e,hc 0 _ rfl,by rw [← add_field _ _ 1 (by omega)];exact hc 1 _ rfl,by rw [← add_field _ _ 2 (by omega)];exact hc 2 _ rfl,by rw [← add_field _ _ 3 (by omega)];exact hc 3 _ rfl,by rw [← add_field _ _ 4 (by omega)];exact hc 4 _ rfl,by rw [← add_field _ _ 5 (by omega)];exact hc 5 _ rfl,by rw [← add_field _ _ 6 (by omega)];exact hc 6 _ rfl,l0,g0,l4,g4,l5,g5,l6,g6⟩

structure QB where
  f0:yo
  f1:Int
  f2:Bool
def qm7:QB:=⟨qj5,(0:Int),false⟩
def QR:Kd QB:=Kd.iso (Kd.pair yK (Kd.pair (Kd.int .i64) Kd.bool)) (fun x:QB=>(x.f0,x.f1,x.f2))
theorem k116_open {w:World} {x:QB} {cs:List Value} (h:QR.K w x cs):∃ A0 c0 A4 c4 A5 c5 A6 c6,cs=[.slice A0 x.f0.f0.f0.length c0,.int .i64 x.f0.f1,.int .i64 x.f0.f2,.int .i64 x.f0.f3,.slice A4 x.f0.f4.f0.length c4,.slice A5 x.f0.f5.length c5,.slice A6 x.f0.f6.length c6,.int .i64 x.f1,.bool x.f2]∧x.f0.f0.f0.length≤c0∧(Kd.slice 5 (Kd.int .u8)).C w A0 x.f0.f0.f0.length x.f0.f0.f0∧x.f0.f4.f0.length≤c4∧(Kd.slice 5 (Kd.int .u8)).C w A4 x.f0.f4.f0.length x.f0.f4.f0∧x.f0.f5.length≤c5∧(Kd.int .u8).C w A5 x.f0.f5.length x.f0.f5∧x.f0.f6.length≤c6∧(Kd.int .i64).C w A6 x.f0.f6.length x.f0.f6:=by
  obtain ⟨_,_,rfl,s0,⟨_,_,rfl,rfl,rfl⟩⟩:=h;obtain ⟨A0,c0,A4,c4,A5,c5,A6,c6,rfl,l0,g0,l4,g4,l5,g5,l6,g6⟩:=k114_open s0;exact ⟨A0,c0,A4,c4,A5,c5,A6,c6,rfl,l0,g0,l4,g4,l5,g5,l6,g6⟩
def qX (xs:List QB) (i:Int):QB:=xs.getD i.toNat qm7
theorem qmm {w:World} {A:Option Addr} {n:Nat} {xs:List QB} (h:Kd.C QR w A n xs) (i:Int) (h0:0≤i) (h1:i < n):∃ ad A0 c0 A4 c4 A5 c5 A6 c6,A=some ad∧w.cell? (ad.add (i.toNat * 9))=some (.slice A0 (qX xs i).f0.f0.f0.length c0)∧w.cell? ⟨(ad.add (i.toNat * 9)).block,(ad.add (i.toNat * 9)).off+1,none⟩=some (.int .i64 (qX xs i).f0.f1)∧w.cell? ⟨(ad.add (i.toNat * 9)).block,(ad.add (i.toNat * 9)).off+2,none⟩=some (.int .i64 (qX xs i).f0.f2)∧w.cell? ⟨(ad.add (i.toNat * 9)).block,(ad.add (i.toNat * 9)).off+3,none⟩=some (.int .i64 (qX xs i).f0.f3)∧w.cell? ⟨(ad.add (i.toNat * 9)).block,(ad.add (i.toNat * 9)).off+4,none⟩=some (.slice A4 (qX xs i).f0.f4.f0.length c4)∧w.cell? ⟨(ad.add (i.toNat * 9)).block,(ad.add (i.toNat * 9)).off+5,none⟩=some (.slice A5 (qX xs i).f0.f5.length c5)∧w.cell? ⟨(ad.add (i.toNat * 9)).block,(ad.add (i.toNat * 9)).off+6,none⟩=some (.slice A6 (qX xs i).f0.f6.length c6)∧w.cell? ⟨(ad.add (i.toNat * 9)).block,(ad.add (i.toNat * 9)).off+7,none⟩=some (.int .i64 (qX xs i).f1)∧w.cell? ⟨(ad.add (i.toNat * 9)).block,(ad.add (i.toNat * 9)).off+8,none⟩=some (.bool (qX xs i).f2)∧(qX xs i).f0.f0.f0.length≤c0∧(Kd.slice 5 (Kd.int .u8)).C w A0 (qX xs i).f0.f0.f0.length (qX xs i).f0.f0.f0∧(qX xs i).f0.f4.f0.length≤c4∧(Kd.slice 5 (Kd.int .u8)).C w A4 (qX xs i).f0.f4.f0.length (qX xs i).f0.f4.f0∧(qX xs i).f0.f5.length≤c5∧(Kd.int .u8).C w A5 (qX xs i).f0.f5.length (qX xs i).f0.f5∧(qX xs i).f0.f6.length≤c6∧(Kd.int .i64).C w A6 (qX xs i).f0.f6.length (qX xs i).f0.f6:=by
  obtain ⟨ad,c,e,_,hK,hc0⟩:=Kd.C_get h qm7 i h0 h1;have hc:∀ j u,c[j]?=some u→w.cell? (ad.add (i.toNat * 9+j))=some u:=hc0;obtain ⟨A0,c0,A4,c4,A5,c5,A6,c6,rfl,l0,g0,l4,g4,l5,g5,l6,g6⟩:=k116_open hK;exact ⟨ad,A0,c0,A4,c4,A5,c5,A6,c6,e,hc 0 _ rfl,by rw [← add_field _ _ 1 (by omega)];exact hc 1 _ rfl,by rw [← add_field _ _ 2 (by omega)];exact hc 2 _ rfl,by rw [← add_field _ _ 3 (by omega)];exact hc 3 _ rfl,by rw [← add_field _ _ 4 (by omega)];exact hc 4 _ rfl,by rw [← add_field _ _ 5 (by omega)];exact hc 5 _ rfl,by rw [← add_field _ _ 6 (by omega)];exact hc 6 _ rfl,by rw [← add_field _ _ 7 (by omega)];exact hc 7 _ rfl,by rw [← add_field _ _ 8 (by omega)];exact hc 8 _ rfl,l0,g0,l4,g4,l5,g5,l6,g6⟩

structure S26 where
  f0:Int
  f1:Bool
  f2:Int
  f3:Bool
  f4:Int
  f5:(List JV)
  f6:(List yo)
  f7:(List yo)
  f8:(List yo)
  f9:(List QB)
  f10:(List QB)
def k26:Kd S26:=Kd.iso (Kd.pair (Kd.int .i64) (Kd.pair Kd.bool (Kd.pair (Kd.int .i64) (Kd.pair Kd.bool (Kd.pair (Kd.int .i64) (Kd.pair (Kd.slice 134 Xl) (Kd.pair (Kd.slice 114 yK) (Kd.pair (Kd.slice 114 yK) (Kd.pair (Kd.slice 114 yK) (Kd.pair (Kd.slice 116 QR) (Kd.slice 116 QR))))))))))) (fun x:S26=>(x.f0,x.f1,x.f2,x.f3,x.f4,x.f5,x.f6,x.f7,x.f8,x.f9,x.f10))
theorem k26_open {w:World} {x:S26} {cs:List Value} (h:k26.K w x cs):∃ A5 c5 A6 c6 A7 c7 A8 c8 A9 c9 A10 c10,cs=[.int .i64 x.f0,.bool x.f1,.int .i64 x.f2,.bool x.f3,.int .i64 x.f4,.slice A5 x.f5.length c5,.slice A6 x.f6.length c6,.slice A7 x.f7.length c7,.slice A8 x.f8.length c8,.slice A9 x.f9.length c9,.slice A10 x.f10.length c10]∧x.f5.length≤c5∧Xl.C w A5 x.f5.length x.f5∧x.f6.length≤c6∧yK.C w A6 x.f6.length x.f6∧x.f7.length≤c7∧yK.C w A7 x.f7.length x.f7∧x.f8.length≤c8∧yK.C w A8 x.f8.length x.f8∧x.f9.length≤c9∧QR.C w A9 x.f9.length x.f9∧x.f10.length≤c10∧QR.C w A10 x.f10.length x.f10:=by
  obtain ⟨_,_,rfl,rfl,⟨_,_,rfl,rfl,⟨_,_,rfl,rfl,⟨_,_,rfl,rfl,⟨_,_,rfl,rfl,⟨_,_,rfl,⟨A5,c5,rfl,l5,g5⟩,⟨_,_,rfl,⟨A6,c6,rfl,l6,g6⟩,⟨_,_,rfl,⟨A7,c7,rfl,l7,g7⟩,⟨_,_,rfl,⟨A8,c8,rfl,l8,g8⟩,⟨_,_,rfl,⟨A9,c9,rfl,l9,g9⟩,⟨A10,c10,rfl,l10,g10⟩⟩⟩⟩⟩⟩⟩⟩⟩⟩⟩:=h;exact ⟨A5,c5,A6,c6,A7,c7,A8,c8,A9,c9,A10,c10,rfl,l5,g5,l6,g6,l7,g7,l8,g8,l9,g9,l10,g10⟩
structure S29 where
  f0:Int
  f1:S26
  f2:Int
  f3:(List Int)
  f4:(List Int)
  f5:Int
def k29:Kd S29:=Kd.iso (Kd.pair (Kd.int .i64) (Kd.pair k26 (Kd.pair (Kd.int .i64) (Kd.pair (Kd.slice 5 (Kd.int .u8)) (Kd.pair (Kd.slice 5 (Kd.int .u8)) (Kd.int .i64)))))) (fun x:S29=>(x.f0,x.f1,x.f2,x.f3,x.f4,x.f5))
theorem k29_open {w:World} {x:S29} {cs:List Value} (h:k29.K w x cs):∃ A6 c6 A7 c7 A8 c8 A9 c9 A10 c10 A11 c11 A13 c13 A14 c14,cs=[.int .i64 x.f0,.int .i64 x.f1.f0,.bool x.f1.f1,.int .i64 x.f1.f2,.bool x.f1.f3,.int .i64 x.f1.f4,.slice A6 x.f1.f5.length c6,.slice A7 x.f1.f6.length c7,.slice A8 x.f1.f7.length c8,.slice A9 x.f1.f8.length c9,.slice A10 x.f1.f9.length c10,.slice A11 x.f1.f10.length c11,.int .i64 x.f2,.slice A13 x.f3.length c13,.slice A14 x.f4.length c14,.int .i64 x.f5]∧x.f1.f5.length≤c6∧Xl.C w A6 x.f1.f5.length x.f1.f5∧x.f1.f6.length≤c7∧yK.C w A7 x.f1.f6.length x.f1.f6∧x.f1.f7.length≤c8∧yK.C w A8 x.f1.f7.length x.f1.f7∧x.f1.f8.length≤c9∧yK.C w A9 x.f1.f8.length x.f1.f8∧x.f1.f9.length≤c10∧QR.C w A10 x.f1.f9.length x.f1.f9∧x.f1.f10.length≤c11∧QR.C w A11 x.f1.f10.length x.f1.f10∧x.f3.length≤c13∧(Kd.int .u8).C w A13 x.f3.length x.f3∧x.f4.length≤c14∧(Kd.int .u8).C w A14 x.f4.length x.f4:=by
  obtain ⟨_,_,rfl,rfl,⟨_,_,rfl,s1,⟨_,_,rfl,rfl,⟨_,_,rfl,⟨A13,c13,rfl,l13,g13⟩,⟨_,_,rfl,⟨A14,c14,rfl,l14,g14⟩,rfl⟩⟩⟩⟩⟩:=h;obtain ⟨A6,c6,A7,c7,A8,c8,A9,c9,A10,c10,A11,c11,rfl,l6,g6,l7,g7,l8,g8,l9,g9,l10,g10,l11,g11⟩:=k26_open s1;exact ⟨A6,c6,A7,c7,A8,c8,A9,c9,A10,c10,A11,c11,A13,c13,A14,c14,rfl,l6,g6,l7,g7,l8,g8,l9,g9,l10,g10,l11,g11,l13,g13,l14,g14⟩
structure S65 where
  f0:(List (List Int))
def z65:S65:=⟨([]:List (List Int))⟩
def k65:Kd S65:=Kd.iso (Kd.slice 27 (Kd.slice 5 (Kd.int .u8))) (fun x:S65=>x.f0)
theorem k65_heap:Kd.Heap k65:=Kd.heap_iso _ (Kd.heap_slice 27 (Kd.heap_slice 5 (Kd.heap_int .u8)))
theorem k65_open {w:World} {x:S65} {cs:List Value} (h:k65.K w x cs):∃ A0 c0,cs=[.slice A0 x.f0.length c0]∧x.f0.length≤c0∧(Kd.slice 5 (Kd.int .u8)).C w A0 x.f0.length x.f0:=by
  obtain ⟨A0,c0,rfl,l0,g0⟩:=h;exact ⟨A0,c0,rfl,l0,g0⟩
theorem k65_openM {w:World} {base:Nat} {ok:Nat→Prop} {x:S65} {cs:List Value} (h:k65.M w base ok x cs):∃ v0,cs=[v0]∧(Kd.slice 5 (Kd.int .u8)).R 27 w base ok v0 x.f0:=by
  obtain ⟨v0,rfl,g0⟩:=h;exact ⟨v0,rfl,g0⟩
theorem k65_mkM (w:World) (base:Nat) (ok:Nat→Prop) (x:S65) {v0:Value} (g0:(Kd.slice 5 (Kd.int .u8)).R 27 w base ok v0 x.f0):k65.M w base ok x [v0]:=⟨v0,rfl,g0⟩
structure S96 where
  f0:S65
  f1:Int
def z96:S96:=⟨z65,(0:Int)⟩
def k96:Kd S96:=Kd.iso (Kd.pair k65 (Kd.int .i64)) (fun x:S96=>(x.f0,x.f1))
theorem k96_open {w:World} {x:S96} {cs:List Value} (h:k96.K w x cs):∃ A0 c0,cs=[.slice A0 x.f0.f0.length c0,.int .i64 x.f1]∧x.f0.f0.length≤c0∧(Kd.slice 5 (Kd.int .u8)).C w A0 x.f0.f0.length x.f0.f0:=by
  obtain ⟨_,_,rfl,s0,rfl⟩:=h;obtain ⟨A0,c0,rfl,l0,g0⟩:=k65_open s0;exact ⟨A0,c0,rfl,l0,g0⟩
theorem k96_openM {w:World} {base:Nat} {ok:Nat→Prop} {x:S96} {cs:List Value} (h:k96.M w base ok x cs):∃ v0,cs=[v0,.int .i64 x.f1]∧(Kd.slice 5 (Kd.int .u8)).R 27 w base ok v0 x.f0.f0:=by
  obtain ⟨_,_,rfl,s0,rfl⟩:=h;obtain ⟨v0,rfl,g0⟩:=k65_openM s0;exact ⟨v0,rfl,g0⟩
theorem k96_mkM (w:World) (base:Nat) (ok:Nat→Prop) (x:S96) {v0:Value} (g0:(Kd.slice 5 (Kd.int .u8)).R 27 w base ok v0 x.f0.f0):k96.M w base ok x [v0,.int .i64 x.f1]:=⟨[v0],[.int .i64 x.f1],rfl,(k65_mkM w base ok x.f0 g0),rfl⟩
def js (xs:List S96) (i:Int):S96:=xs.getD i.toNat z96
theorem Zx {w:World} {A:Option Addr} {n:Nat} {xs:List S96} (h:Kd.C k96 w A n xs) (i:Int) (h0:0≤i) (h1:i < n):∃ ad A0 c0,A=some ad∧w.cell? (ad.add (i.toNat * 2))=some (.slice A0 (js xs i).f0.f0.length c0)∧w.cell? ⟨(ad.add (i.toNat * 2)).block,(ad.add (i.toNat * 2)).off+1,none⟩=some (.int .i64 (js xs i).f1)∧(js xs i).f0.f0.length≤c0∧(Kd.slice 5 (Kd.int .u8)).C w A0 (js xs i).f0.f0.length (js xs i).f0.f0:=by
  obtain ⟨ad,c,e,_,hK,hc0⟩:=Kd.C_get h z96 i h0 h1;have hc:∀ j u,c[j]?=some u→w.cell? (ad.add (i.toNat * 2+j))=some u:=hc0;obtain ⟨A0,c0,rfl,l0,g0⟩:=k96_open hK;exact ⟨ad,A0,c0,e,hc 0 _ rfl,by rw [← add_field _ _ 1 (by omega)];exact hc 1 _ rfl,l0,g0⟩

structure qx where
  f0:S65
  f1:Int
  f2:Int
  f3:Int
  f4:S65
  f5:(List Int)
  f6:(List Int)
def qaa:qx:=⟨z65,(0:Int),(0:Int),(0:Int),z65,([]:List Int),([]:List Int)⟩
def ji:Kd qx:=Kd.iso (Kd.pair k65 (Kd.pair (Kd.int .i64) (Kd.pair (Kd.int .i64) (Kd.pair (Kd.int .i64) (Kd.pair k65 (Kd.pair (Kd.slice 5 (Kd.int .u8)) (Kd.slice 3 (Kd.int .i64)))))))) (fun x:qx=>(x.f0,x.f1,x.f2,x.f3,x.f4,x.f5,x.f6))
theorem k105_heap:Kd.Heap ji:=Kd.heap_iso _ (Kd.heap_pair k65_heap (Kd.heap_pair (Kd.heap_int .i64) (Kd.heap_pair (Kd.heap_int .i64) (Kd.heap_pair (Kd.heap_int .i64) (Kd.heap_pair k65_heap (Kd.heap_pair (Kd.heap_slice 5 (Kd.heap_int .u8)) (Kd.heap_slice 3 (Kd.heap_int .i64))))))))
theorem k105_open {w:World} {x:qx} {cs:List Value} (h:ji.K w x cs):∃ A0 c0 A4 c4 A5 c5 A6 c6,cs=[.slice A0 x.f0.f0.length c0,.int .i64 x.f1,.int .i64 x.f2,.int .i64 x.f3,.slice A4 x.f4.f0.length c4,.slice A5 x.f5.length c5,.slice A6 x.f6.length c6]∧x.f0.f0.length≤c0∧(Kd.slice 5 (Kd.int .u8)).C w A0 x.f0.f0.length x.f0.f0∧x.f4.f0.length≤c4∧(Kd.slice 5 (Kd.int .u8)).C w A4 x.f4.f0.length x.f4.f0∧x.f5.length≤c5∧(Kd.int .u8).C w A5 x.f5.length x.f5∧x.f6.length≤c6∧(Kd.int .i64).C w A6 x.f6.length x.f6:=by
  obtain ⟨_,_,rfl,s0,⟨_,_,rfl,rfl,⟨_,_,rfl,rfl,⟨_,_,rfl,rfl,⟨_,_,rfl,s4,⟨_,_,rfl,⟨A5,c5,rfl,l5,g5⟩,⟨A6,c6,rfl,l6,g6⟩⟩⟩⟩⟩⟩⟩:=h;obtain ⟨A0,c0,rfl,l0,g0⟩:=k65_open s0;obtain ⟨A4,c4,rfl,l4,g4⟩:=k65_open s4;exact ⟨A0,c0,A4,c4,A5,c5,A6,c6,rfl,l0,g0,l4,g4,l5,g5,l6,g6⟩
theorem k105_openM {w:World} {base:Nat} {ok:Nat→Prop} {x:qx} {cs:List Value} (h:ji.M w base ok x cs):∃ v0 v4 v5 v6,cs=[v0,.int .i64 x.f1,.int .i64 x.f2,.int .i64 x.f3,v4,v5,v6]∧(Kd.slice 5 (Kd.int .u8)).R 27 w base ok v0 x.f0.f0∧(Kd.slice 5 (Kd.int .u8)).R 27 w base ok v4 x.f4.f0∧(Kd.int .u8).R 5 w base ok v5 x.f5∧(Kd.int .i64).R 3 w base ok v6 x.f6:=by
  obtain ⟨_,_,rfl,s0,⟨_,_,rfl,rfl,⟨_,_,rfl,rfl,⟨_,_,rfl,rfl,⟨_,_,rfl,s4,⟨_,_,rfl,⟨v5,rfl,g5⟩,⟨v6,rfl,g6⟩⟩⟩⟩⟩⟩⟩:=h;obtain ⟨v0,rfl,g0⟩:=k65_openM s0;obtain ⟨v4,rfl,g4⟩:=k65_openM s4;exact ⟨v0,v4,v5,v6,rfl,g0,g4,g5,g6⟩
theorem k105_mkM (w:World) (base:Nat) (ok:Nat→Prop) (x:qx) {v0:Value} (g0:(Kd.slice 5 (Kd.int .u8)).R 27 w base ok v0 x.f0.f0) {v4:Value} (g4:(Kd.slice 5 (Kd.int .u8)).R 27 w base ok v4 x.f4.f0) {v5:Value} (g5:(Kd.int .u8).R 5 w base ok v5 x.f5) {v6:Value} (g6:(Kd.int .i64).R 3 w base ok v6 x.f6):ji.M w base ok x [v0,.int .i64 x.f1,.int .i64 x.f2,.int .i64 x.f3,v4,v5,v6]:=⟨[v0],[.int .i64 x.f1,.int .i64 x.f2,.int .i64 x.f3,v4,v5,v6],rfl,(k65_mkM w base ok x.f0 g0),⟨[.int .i64 x.f1],[.int .i64 x.f2,.int .i64 x.f3,v4,v5,v6],rfl,rfl,⟨[.int .i64 x.f2],[.int .i64 x.f3,v4,v5,v6],rfl,rfl,⟨[.int .i64 x.f3],[v4,v5,v6],rfl,rfl,⟨[v4],[v5,v6],rfl,(k65_mkM w base ok x.f4 g4),⟨[v5],[v6],rfl,⟨v5,rfl,g5⟩,⟨v6,rfl,g6⟩⟩⟩⟩⟩⟩⟩
theorem k105_openF {W:World} {ok:Nat→Prop} {x:qx} {cs:List Value} (h:Kd.FK ji W ok x cs):∃ A0 c0 A4 c4 A5 c5 A6 c6,cs=[.slice A0 x.f0.f0.length c0,.int .i64 x.f1,.int .i64 x.f2,.int .i64 x.f3,.slice A4 x.f4.f0.length c4,.slice A5 x.f5.length c5,.slice A6 x.f6.length c6]∧x.f0.f0.length≤c0∧Kd.F (Kd.slice 5 (Kd.int .u8)) W ok A0 x.f0.f0.length x.f0.f0∧x.f4.f0.length≤c4∧Kd.F (Kd.slice 5 (Kd.int .u8)) W ok A4 x.f4.f0.length x.f4.f0∧x.f5.length≤c5∧Kd.F (Kd.int .u8) W ok A5 x.f5.length x.f5∧x.f6.length≤c6∧Kd.F (Kd.int .i64) W ok A6 x.f6.length x.f6:=by
  obtain ⟨A0,c0,A4,c4,A5,c5,A6,c6,rfl,l0,_,l4,_,l5,_,l6,_⟩:=k105_open (Kd.FK_now h);exact ⟨A0,c0,A4,c4,A5,c5,A6,c6,rfl,l0,(fun W' hW=>by obtain ⟨A0_,c0_,A4_,c4_,A5_,c5_,A6_,c6_,he,l0_,g0_,l4_,g4_,l5_,g5_,l6_,g6_⟩:=k105_open (h W' hW);injection (Option.some.inj (show some (Value.slice A0 x.f0.f0.length c0)=some (Value.slice A0_ x.f0.f0.length c0_) from congrArg (fun l=>l[0]?) he)) with ha_ _ _;rw [ha_];exact g0_),l4,(fun W' hW=>by obtain ⟨A0_,c0_,A4_,c4_,A5_,c5_,A6_,c6_,he,l0_,g0_,l4_,g4_,l5_,g5_,l6_,g6_⟩:=k105_open (h W' hW);injection (Option.some.inj (show some (Value.slice A4 x.f4.f0.length c4)=some (Value.slice A4_ x.f4.f0.length c4_) from congrArg (fun l=>l[4]?) he)) with ha_ _ _;rw [ha_];exact g4_),l5,(fun W' hW=>by obtain ⟨A0_,c0_,A4_,c4_,A5_,c5_,A6_,c6_,he,l0_,g0_,l4_,g4_,l5_,g5_,l6_,g6_⟩:=k105_open (h W' hW);injection (Option.some.inj (show some (Value.slice A5 x.f5.length c5)=some (Value.slice A5_ x.f5.length c5_) from congrArg (fun l=>l[5]?) he)) with ha_ _ _;rw [ha_];exact g5_),l6,(fun W' hW=>by obtain ⟨A0_,c0_,A4_,c4_,A5_,c5_,A6_,c6_,he,l0_,g0_,l4_,g4_,l5_,g5_,l6_,g6_⟩:=k105_open (h W' hW);injection (Option.some.inj (show some (Value.slice A6 x.f6.length c6)=some (Value.slice A6_ x.f6.length c6_) from congrArg (fun l=>l[6]?) he)) with ha_ _ _;rw [ha_];exact g6_)⟩
def qv (xs:List qx) (i:Int):qx:=xs.getD i.toNat qaa
theorem qf9 {w:World} {A:Option Addr} {n:Nat} {xs:List qx} (h:Kd.C ji w A n xs) (i:Int) (h0:0≤i) (h1:i < n):∃ ad A0 c0 A4 c4 A5 c5 A6 c6,A=some ad∧w.cell? (ad.add (i.toNat * 7))=some (.slice A0 (qv xs i).f0.f0.length c0)∧w.cell? ⟨(ad.add (i.toNat * 7)).block,(ad.add (i.toNat * 7)).off+1,none⟩=some (.int .i64 (qv xs i).f1)∧w.cell? ⟨(ad.add (i.toNat * 7)).block,(ad.add (i.toNat * 7)).off+2,none⟩=some (.int .i64 (qv xs i).f2)∧w.cell? ⟨(ad.add (i.toNat * 7)).block,(ad.add (i.toNat * 7)).off+3,none⟩=some (.int .i64 (qv xs i).f3)∧w.cell? ⟨(ad.add (i.toNat * 7)).block,(ad.add (i.toNat * 7)).off+4,none⟩=some (.slice A4 (qv xs i).f4.f0.length c4)∧w.cell? ⟨(ad.add (i.toNat * 7)).block,(ad.add (i.toNat * 7)).off+5,none⟩=some (.slice A5 (qv xs i).f5.length c5)∧w.cell? ⟨(ad.add (i.toNat * 7)).block,(ad.add (i.toNat * 7)).off+6,none⟩=some (.slice A6 (qv xs i).f6.length c6)∧(qv xs i).f0.f0.length≤c0∧(Kd.slice 5 (Kd.int .u8)).C w A0 (qv xs i).f0.f0.length (qv xs i).f0.f0∧(qv xs i).f4.f0.length≤c4∧(Kd.slice 5 (Kd.int .u8)).C w A4 (qv xs i).f4.f0.length (qv xs i).f4.f0∧(qv xs i).f5.length≤c5∧(Kd.int .u8).C w A5 (qv xs i).f5.length (qv xs i).f5∧(qv xs i).f6.length≤c6∧(Kd.int .i64).C w A6 (qv xs i).f6.length (qv xs i).f6:=by
  obtain ⟨ad,c,e,_,hK,hc0⟩:=Kd.C_get h qaa i h0 h1;have hc:∀ j u,c[j]?=some u→w.cell? (ad.add (i.toNat * 7+j))=some u:=hc0;obtain ⟨A0,c0,A4,c4,A5,c5,A6,c6,rfl,l0,g0,l4,g4,l5,g5,l6,g6⟩:=k105_open hK;exact ⟨ad,A0,c0,A4,c4,A5,c5,A6,c6,e,hc 0 _ rfl,by rw [← add_field _ _ 1 (by omega)];exact hc 1 _ rfl,by rw [← add_field _ _ 2 (by omega)];exact hc 2 _ rfl,by rw [← add_field _ _ 3 (by omega)];exact hc 3 _ rfl,by rw [← add_field _ _ 4 (by omega)];exact hc 4 _ rfl,by rw [← add_field _ _ 5 (by omega)];exact hc 5 _ rfl,by rw [← add_field _ _ 6 (by omega)];exact hc 6 _ rfl,l0,g0,l4,g4,l5,g5,l6,g6⟩

def qgG (xs:List (List qx)) (i:Int):(List qx):=xs.getD i.toNat ([]:List qx)
structure qI where
  f0:qx
  f1:Int
  f2:Bool
def qaB:qI:=⟨qaa,(0:Int),false⟩
def zv:Kd qI:=Kd.iso (Kd.pair ji (Kd.pair (Kd.int .i64) Kd.bool)) (fun x:qI=>(x.f0,x.f1,x.f2))
theorem k107_open {w:World} {x:qI} {cs:List Value} (h:zv.K w x cs):∃ A0 c0 A4 c4 A5 c5 A6 c6,cs=[.slice A0 x.f0.f0.f0.length c0,.int .i64 x.f0.f1,.int .i64 x.f0.f2,.int .i64 x.f0.f3,.slice A4 x.f0.f4.f0.length c4,.slice A5 x.f0.f5.length c5,.slice A6 x.f0.f6.length c6,.int .i64 x.f1,.bool x.f2]∧x.f0.f0.f0.length≤c0∧(Kd.slice 5 (Kd.int .u8)).C w A0 x.f0.f0.f0.length x.f0.f0.f0∧x.f0.f4.f0.length≤c4∧(Kd.slice 5 (Kd.int .u8)).C w A4 x.f0.f4.f0.length x.f0.f4.f0∧x.f0.f5.length≤c5∧(Kd.int .u8).C w A5 x.f0.f5.length x.f0.f5∧x.f0.f6.length≤c6∧(Kd.int .i64).C w A6 x.f0.f6.length x.f0.f6:=by
  obtain ⟨_,_,rfl,s0,⟨_,_,rfl,rfl,rfl⟩⟩:=h;obtain ⟨A0,c0,A4,c4,A5,c5,A6,c6,rfl,l0,g0,l4,g4,l5,g5,l6,g6⟩:=k105_open s0;exact ⟨A0,c0,A4,c4,A5,c5,A6,c6,rfl,l0,g0,l4,g4,l5,g5,l6,g6⟩
theorem k107_openM {w:World} {base:Nat} {ok:Nat→Prop} {x:qI} {cs:List Value} (h:zv.M w base ok x cs):∃ v0 v4 v5 v6,cs=[v0,.int .i64 x.f0.f1,.int .i64 x.f0.f2,.int .i64 x.f0.f3,v4,v5,v6,.int .i64 x.f1,.bool x.f2]∧(Kd.slice 5 (Kd.int .u8)).R 27 w base ok v0 x.f0.f0.f0∧(Kd.slice 5 (Kd.int .u8)).R 27 w base ok v4 x.f0.f4.f0∧(Kd.int .u8).R 5 w base ok v5 x.f0.f5∧(Kd.int .i64).R 3 w base ok v6 x.f0.f6:=by
  obtain ⟨_,_,rfl,s0,⟨_,_,rfl,rfl,rfl⟩⟩:=h;obtain ⟨v0,v4,v5,v6,rfl,g0,g4,g5,g6⟩:=k105_openM s0;exact ⟨v0,v4,v5,v6,rfl,g0,g4,g5,g6⟩
theorem k107_mkM (w:World) (base:Nat) (ok:Nat→Prop) (x:qI) {v0:Value} (g0:(Kd.slice 5 (Kd.int .u8)).R 27 w base ok v0 x.f0.f0.f0) {v4:Value} (g4:(Kd.slice 5 (Kd.int .u8)).R 27 w base ok v4 x.f0.f4.f0) {v5:Value} (g5:(Kd.int .u8).R 5 w base ok v5 x.f0.f5) {v6:Value} (g6:(Kd.int .i64).R 3 w base ok v6 x.f0.f6):zv.M w base ok x [v0,.int .i64 x.f0.f1,.int .i64 x.f0.f2,.int .i64 x.f0.f3,v4,v5,v6,.int .i64 x.f1,.bool x.f2]:=⟨[v0,.int .i64 x.f0.f1,.int .i64 x.f0.f2,.int .i64 x.f0.f3,v4,v5,v6],[.int .i64 x.f1,.bool x.f2],rfl,(k105_mkM w base ok x.f0 g0 g4 g5 g6),⟨[.int .i64 x.f1],[.bool x.f2],rfl,rfl,rfl⟩⟩
def qj (xs:List qI) (i:Int):qI:=xs.getD i.toNat qaB
theorem qiD {w:World} {A:Option Addr} {n:Nat} {xs:List qI} (h:Kd.C zv w A n xs) (i:Int) (h0:0≤i) (h1:i < n):∃ ad A0 c0 A4 c4 A5 c5 A6 c6,A=some ad∧w.cell? (ad.add (i.toNat * 9))=some (.slice A0 (qj xs i).f0.f0.f0.length c0)∧w.cell? ⟨(ad.add (i.toNat * 9)).block,(ad.add (i.toNat * 9)).off+1,none⟩=some (.int .i64 (qj xs i).f0.f1)∧w.cell? ⟨(ad.add (i.toNat * 9)).block,(ad.add (i.toNat * 9)).off+2,none⟩=some (.int .i64 (qj xs i).f0.f2)∧w.cell? ⟨(ad.add (i.toNat * 9)).block,(ad.add (i.toNat * 9)).off+3,none⟩=some (.int .i64 (qj xs i).f0.f3)∧w.cell? ⟨(ad.add (i.toNat * 9)).block,(ad.add (i.toNat * 9)).off+4,none⟩=some (.slice A4 (qj xs i).f0.f4.f0.length c4)∧w.cell? ⟨(ad.add (i.toNat * 9)).block,(ad.add (i.toNat * 9)).off+5,none⟩=some (.slice A5 (qj xs i).f0.f5.length c5)∧w.cell? ⟨(ad.add (i.toNat * 9)).block,(ad.add (i.toNat * 9)).off+6,none⟩=some (.slice A6 (qj xs i).f0.f6.length c6)∧w.cell? ⟨(ad.add (i.toNat * 9)).block,(ad.add (i.toNat * 9)).off+7,none⟩=some (.int .i64 (qj xs i).f1)∧w.cell? ⟨(ad.add (i.toNat * 9)).block,(ad.add (i.toNat * 9)).off+8,none⟩=some (.bool (qj xs i).f2)∧(qj xs i).f0.f0.f0.length≤c0∧(Kd.slice 5 (Kd.int .u8)).C w A0 (qj xs i).f0.f0.f0.length (qj xs i).f0.f0.f0∧(qj xs i).f0.f4.f0.length≤c4∧(Kd.slice 5 (Kd.int .u8)).C w A4 (qj xs i).f0.f4.f0.length (qj xs i).f0.f4.f0∧(qj xs i).f0.f5.length≤c5∧(Kd.int .u8).C w A5 (qj xs i).f0.f5.length (qj xs i).f0.f5∧(qj xs i).f0.f6.length≤c6∧(Kd.int .i64).C w A6 (qj xs i).f0.f6.length (qj xs i).f0.f6:=by
  obtain ⟨ad,c,e,_,hK,hc0⟩:=Kd.C_get h qaB i h0 h1;have hc:∀ j u,c[j]?=some u→w.cell? (ad.add (i.toNat * 9+j))=some u:=hc0;obtain ⟨A0,c0,A4,c4,A5,c5,A6,c6,rfl,l0,g0,l4,g4,l5,g5,l6,g6⟩:=k107_open hK;exact ⟨ad,A0,c0,A4,c4,A5,c5,A6,c6,e,hc 0 _ rfl,by rw [← add_field _ _ 1 (by omega)];exact hc 1 _ rfl,by rw [← add_field _ _ 2 (by omega)];exact hc 2 _ rfl,by rw [← add_field _ _ 3 (by omega)];exact hc 3 _ rfl,by rw [← add_field _ _ 4 (by omega)];exact hc 4 _ rfl,by rw [← add_field _ _ 5 (by omega)];exact hc 5 _ rfl,by rw [← add_field _ _ 6 (by omega)];exact hc 6 _ rfl,by rw [← add_field _ _ 7 (by omega)];exact hc 7 _ rfl,by rw [← add_field _ _ 8 (by omega)];exact hc 8 _ rfl,l0,g0,l4,g4,l5,g5,l6,g6⟩

def qgF (xs:List (List qI)) (i:Int):(List qI):=xs.getD i.toNat ([]:List qI)
def Gr (A W:World):Prop:=Below A.heap.size A W
instance Gr.refl_ (A:World):Nonempty (Gr A A):=⟨Below.refl _ _⟩
instance Gr.alloc_ (A W:World) (o:Obj) [h:Nonempty (Gr A W)]:Nonempty (Gr A (W.alloc o)):=h.elim fun h=>⟨below_alloc h o⟩
instance Gr.drew_ (A W:World) [h:Nonempty (Gr A W)]:Nonempty (Gr A W.drew):=h.elim fun h=>⟨below_drew h⟩
instance Gr.drewN_ (A W:World) (n:Nat) [h:Nonempty (Gr A W)]:Nonempty (Gr A (W.drewN n)):=h.elim fun h=>⟨pw_below_drewN h n⟩
section
variable {α:Type} {d:Kd α} {e base n:Nat} {ok:Nat→Prop} {w W W':World} {v:Value} {xs:List α} {A:Option Addr}
theorem bw (h:Below w.heap.size w W) [g:Nonempty (Gr W W')]:Below w.heap.size w W':=g.elim fun g=>below_step h g
theorem bk {g:Nat} {o:Obj} (h:W.heap[g]?=some o) [k:Nonempty (Gr W W')]:W'.heap[g]?=some o:=k.elim fun k=>blk_below h k
theorem cw (h:d.C w A n xs) (hb:Below w.heap.size w W) [g:Nonempty (Gr W W')]:d.C W' A n xs:=Kd.C_below h (bw hb)
theorem rw_ (h:d.R e W base ok v xs) [g:Nonempty (Gr W W')]:d.R e W' base ok v xs:=g.elim fun g=>Kd.R_below h g
theorem sw (h:d.S e W base ok v xs) [g:Nonempty (Gr W W')]:d.S e W' base ok v xs:=g.elim fun g=>Kd.S_below h g
end
section
variable {W:World} {g t:Nat} {a b c d e f x y z:Value}
theorem cells1 (h:W.heap[g]?=some (.cells #[a] t (0,0))):W.cell? ⟨g,0,none⟩=some a∧W.frozen? ⟨g,0,none⟩=false:=⟨(blk_cell h 0).trans rfl,blk_frozen h 0⟩
theorem cells2 (h:W.heap[g]?=some (.cells #[a,b] t (0,0))):W.cell? ⟨g,0,none⟩=some a∧W.cell? ⟨g,1,none⟩=some b∧W.frozen? ⟨g,0,none⟩=false∧W.frozen? ⟨g,1,none⟩=false :=
  ⟨(blk_cell h 0).trans rfl,(blk_cell h 1).trans rfl,blk_frozen h 0,blk_frozen h 1⟩
theorem cells7 (h:W.heap[g]?=some (.cells #[a,b,c,d,e,f,x] t (0,0))):W.cell? ⟨g,0,none⟩=some a∧W.cell? ⟨g,1,none⟩=some b∧W.cell? ⟨g,2,none⟩=some c∧W.cell? ⟨g,3,none⟩=some d∧W.cell? ⟨g,4,none⟩=some e∧W.cell? ⟨g,5,none⟩=some f∧W.cell? ⟨g,6,none⟩=some x∧W.frozen? ⟨g,0,none⟩=false∧W.frozen? ⟨g,1,none⟩=false∧W.frozen? ⟨g,2,none⟩=false∧W.frozen? ⟨g,3,none⟩=false∧W.frozen? ⟨g,4,none⟩=false∧W.frozen? ⟨g,5,none⟩=false∧W.frozen? ⟨g,6,none⟩=false :=
  ⟨(blk_cell h 0).trans rfl,(blk_cell h 1).trans rfl,(blk_cell h 2).trans rfl,(blk_cell h 3).trans rfl,(blk_cell h 4).trans rfl,(blk_cell h 5).trans rfl,(blk_cell h 6).trans rfl,blk_frozen h 0,blk_frozen h 1,blk_frozen h 2,blk_frozen h 3,blk_frozen h 4,blk_frozen h 5,blk_frozen h 6⟩
theorem cells9 (h:W.heap[g]?=some (.cells #[a,b,c,d,e,f,x,y,z] t (0,0))):W.cell? ⟨g,0,none⟩=some a∧W.cell? ⟨g,1,none⟩=some b∧W.cell? ⟨g,2,none⟩=some c∧W.cell? ⟨g,3,none⟩=some d∧W.cell? ⟨g,4,none⟩=some e∧W.cell? ⟨g,5,none⟩=some f∧W.cell? ⟨g,6,none⟩=some x∧W.cell? ⟨g,7,none⟩=some y∧W.cell? ⟨g,8,none⟩=some z∧W.frozen? ⟨g,0,none⟩=false∧W.frozen? ⟨g,1,none⟩=false∧W.frozen? ⟨g,2,none⟩=false∧W.frozen? ⟨g,3,none⟩=false∧W.frozen? ⟨g,4,none⟩=false∧W.frozen? ⟨g,5,none⟩=false∧W.frozen? ⟨g,6,none⟩=false∧W.frozen? ⟨g,7,none⟩=false∧W.frozen? ⟨g,8,none⟩=false :=
  ⟨(blk_cell h 0).trans rfl,(blk_cell h 1).trans rfl,(blk_cell h 2).trans rfl,(blk_cell h 3).trans rfl,(blk_cell h 4).trans rfl,(blk_cell h 5).trans rfl,(blk_cell h 6).trans rfl,(blk_cell h 7).trans rfl,(blk_cell h 8).trans rfl,blk_frozen h 0,blk_frozen h 1,blk_frozen h 2,blk_frozen h 3,blk_frozen h 4,blk_frozen h 5,blk_frozen h 6,blk_frozen h 7,blk_frozen h 8⟩
end
section
variable {P:Program} {ops:Array Oper} {rest:List Oper} {o:Oper} {a:Act} {Q:Exit→Act→World→Prop}
theorem boxed {w W0 W:World} {N:Tmp} (_hN:o.dst=some N) (hgd:o.guard=none) {cs:Array Value} {t:TypeId} (hB:Below w.heap.size w W0) [gr:Nonempty (Gr W0 W)]
    (hrun:(execOp a.eval o).run P W=.ok (.value (.pointer (some ⟨W.heap.size,0,none⟩))) (W.alloc (.cells cs t (0,0))))
    (h:∀ g,∀ w1,g=W.heap.size→Aside0 (Below w.heap.size w w1)→Aside0 (w1.heap[g]?=some (.cells cs t (0,0)))→Aside0 (w.heap.size≤g)→Below W.heap.size W w1→wpList P ops Q rest (a.put o.dst (.pointer (some ⟨g,0,none⟩))) w1):wpList P ops Q (o :: rest) a W:=by
  have hB':Below w.heap.size w W:=bw hB;exact box_event hgd _hN hrun (fun g hg w1 hbox hb=>h g w1 hg ⟨below_step hB' hb⟩ ⟨hbox⟩ ⟨by rw [hg];exact hB'.size⟩ hb)
end
section
variable {α:Type} {d:Kd α} {e base g k t:Nat} {ok:Nat→Prop} {W:World} {v:Value} {xs:List α} {cs:Array Value} {l:List Nat}
end
def bA (n m:Nat):Array Bool:=((List.range n).map fun i=>m.testBit i).toArray
section
variable {α:Type} {d:Kd α} {e base g g' t:Nat} {ok:Nat→Prop} {W W1:World} {v:Value} {xs:List α} {cs:Array Value} {fr:Nat × Nat}
theorem qkY {v0:Value} (hn:g≠g') (h:W.heap[g]?=some (.cells cs t (0,0))) [k:Nonempty (Gr W W1)]:(W1.setCell ⟨g',0,none⟩ v0).heap[g]?=some (.cells cs t (0,0)):=(blk_far (bk h) hn _)
theorem far7R {v0 v1 v2 v3 v4 v5 v6:Value} (h:Kd.R d e W base ok v xs) [k:Nonempty (Gr W W1)] (hb:W1.heap[g]?=some (.cells cs t (0,0))) (ht:∀ q,q ∈ e :: d.E→q≠t):Kd.R d e (((((((W1.setCell ⟨g,0,none⟩ v0).setCell ⟨g,1,none⟩ v1).setCell ⟨g,2,none⟩ v2).setCell ⟨g,3,none⟩ v3).setCell ⟨g,4,none⟩ v4).setCell ⟨g,5,none⟩ v5).setCell ⟨g,6,none⟩ v6) base ok v xs :=
  Kd.R_mono (Kd.R_far (p:=⟨g,6,none⟩) (Kd.R_far (p:=⟨g,5,none⟩) (Kd.R_far (p:=⟨g,4,none⟩) (Kd.R_far (p:=⟨g,3,none⟩) (Kd.R_far (p:=⟨g,2,none⟩) (Kd.R_far (p:=⟨g,1,none⟩) (Kd.R_far (p:=⟨g,0,none⟩) (Kd.R_types (rw_ h) hb ht) (fun _ hk=>hk.2) _) (fun _ hk=>hk.2) _) (fun _ hk=>hk.2) _) (fun _ hk=>hk.2) _) (fun _ hk=>hk.2) _) (fun _ hk=>hk.2) _) (fun _ hk=>hk.2) _) (fun _ h_=>h_.1)
theorem qaN {v0 v1 v2 v3 v4 v5 v6:Value} (hn:g≠g') (h:W.heap[g]?=some (.cells cs t (0,0))) [k:Nonempty (Gr W W1)]:(((((((W1.setCell ⟨g',0,none⟩ v0).setCell ⟨g',1,none⟩ v1).setCell ⟨g',2,none⟩ v2).setCell ⟨g',3,none⟩ v3).setCell ⟨g',4,none⟩ v4).setCell ⟨g',5,none⟩ v5).setCell ⟨g',6,none⟩ v6).heap[g]?=some (.cells cs t (0,0)):=(blk_far (blk_far (blk_far (blk_far (blk_far (blk_far (blk_far (bk h) hn _) hn _) hn _) hn _) hn _) hn _) hn _)
theorem qbf {v0 v1 v2 v3 v4 v5 v6 z0 z1 z2 z3 z4 z5 z6:Value} (h:W.heap[g]?=some (.cells #[z0,z1,z2,z3,z4,z5,z6] t (0,0))) [k:Nonempty (Gr W W1)]:(((((((W1.setCell ⟨g,0,none⟩ v0).setCell ⟨g,1,none⟩ v1).setCell ⟨g,2,none⟩ v2).setCell ⟨g,3,none⟩ v3).setCell ⟨g,4,none⟩ v4).setCell ⟨g,5,none⟩ v5).setCell ⟨g,6,none⟩ v6).heap[g]?=some (.cells #[v0,v1,v2,v3,v4,v5,v6] t (0,0)):=(blk_put (cs':=#[v0,v1,v2,v3,v4,v5,v6]) (blk_put (cs':=#[v0,v1,v2,v3,v4,v5,z6]) (blk_put (cs':=#[v0,v1,v2,v3,v4,z5,z6]) (blk_put (cs':=#[v0,v1,v2,v3,z4,z5,z6]) (blk_put (cs':=#[v0,v1,v2,z3,z4,z5,z6]) (blk_put (cs':=#[v0,v1,z2,z3,z4,z5,z6]) (blk_put (cs':=#[v0,z1,z2,z3,z4,z5,z6]) (bk h) 0 v0 rfl) 1 v1 rfl) 2 v2 rfl) 3 v3 rfl) 4 v4 rfl) 5 v5 rfl) 6 v6 rfl)
theorem far9R {v0 v1 v2 v3 v4 v5 v6 v7 v8:Value} (h:Kd.R d e W base ok v xs) [k:Nonempty (Gr W W1)] (hb:W1.heap[g]?=some (.cells cs t (0,0))) (ht:∀ q,q ∈ e :: d.E→q≠t):Kd.R d e (((((((((W1.setCell ⟨g,0,none⟩ v0).setCell ⟨g,1,none⟩ v1).setCell ⟨g,2,none⟩ v2).setCell ⟨g,3,none⟩ v3).setCell ⟨g,4,none⟩ v4).setCell ⟨g,5,none⟩ v5).setCell ⟨g,6,none⟩ v6).setCell ⟨g,7,none⟩ v7).setCell ⟨g,8,none⟩ v8) base ok v xs :=
  Kd.R_mono (Kd.R_far (p:=⟨g,8,none⟩) (Kd.R_far (p:=⟨g,7,none⟩) (Kd.R_far (p:=⟨g,6,none⟩) (Kd.R_far (p:=⟨g,5,none⟩) (Kd.R_far (p:=⟨g,4,none⟩) (Kd.R_far (p:=⟨g,3,none⟩) (Kd.R_far (p:=⟨g,2,none⟩) (Kd.R_far (p:=⟨g,1,none⟩) (Kd.R_far (p:=⟨g,0,none⟩) (Kd.R_types (rw_ h) hb ht) (fun _ hk=>hk.2) _) (fun _ hk=>hk.2) _) (fun _ hk=>hk.2) _) (fun _ hk=>hk.2) _) (fun _ hk=>hk.2) _) (fun _ hk=>hk.2) _) (fun _ hk=>hk.2) _) (fun _ hk=>hk.2) _) (fun _ hk=>hk.2) _) (fun _ h_=>h_.1)
theorem qkX {v0 v1 v2 v3 v4 v5 v6 v7 v8:Value} (hn:g≠g') (h:W.heap[g]?=some (.cells cs t (0,0))) [k:Nonempty (Gr W W1)]:(((((((((W1.setCell ⟨g',0,none⟩ v0).setCell ⟨g',1,none⟩ v1).setCell ⟨g',2,none⟩ v2).setCell ⟨g',3,none⟩ v3).setCell ⟨g',4,none⟩ v4).setCell ⟨g',5,none⟩ v5).setCell ⟨g',6,none⟩ v6).setCell ⟨g',7,none⟩ v7).setCell ⟨g',8,none⟩ v8).heap[g]?=some (.cells cs t (0,0)):=(blk_far (blk_far (blk_far (blk_far (blk_far (blk_far (blk_far (blk_far (blk_far (bk h) hn _) hn _) hn _) hn _) hn _) hn _) hn _) hn _) hn _)
theorem qoR {v0 v1 v2 v3 v4 v5 v6 v7 v8 z0 z1 z2 z3 z4 z5 z6 z7 z8:Value} (h:W.heap[g]?=some (.cells #[z0,z1,z2,z3,z4,z5,z6,z7,z8] t (0,0))) [k:Nonempty (Gr W W1)]:(((((((((W1.setCell ⟨g,0,none⟩ v0).setCell ⟨g,1,none⟩ v1).setCell ⟨g,2,none⟩ v2).setCell ⟨g,3,none⟩ v3).setCell ⟨g,4,none⟩ v4).setCell ⟨g,5,none⟩ v5).setCell ⟨g,6,none⟩ v6).setCell ⟨g,7,none⟩ v7).setCell ⟨g,8,none⟩ v8).heap[g]?=some (.cells #[v0,v1,v2,v3,v4,v5,v6,v7,v8] t (0,0)):=(blk_put (cs':=#[v0,v1,v2,v3,v4,v5,v6,v7,v8]) (blk_put (cs':=#[v0,v1,v2,v3,v4,v5,v6,v7,z8]) (blk_put (cs':=#[v0,v1,v2,v3,v4,v5,v6,z7,z8]) (blk_put (cs':=#[v0,v1,v2,v3,v4,v5,z6,z7,z8]) (blk_put (cs':=#[v0,v1,v2,v3,v4,z5,z6,z7,z8]) (blk_put (cs':=#[v0,v1,v2,v3,z4,z5,z6,z7,z8]) (blk_put (cs':=#[v0,v1,v2,z3,z4,z5,z6,z7,z8]) (blk_put (cs':=#[v0,v1,z2,z3,z4,z5,z6,z7,z8]) (blk_put (cs':=#[v0,z1,z2,z3,z4,z5,z6,z7,z8]) (bk h) 0 v0 rfl) 1 v1 rfl) 2 v2 rfl) 3 v3 rfl) 4 v4 rfl) 5 v5 rfl) 6 v6 rfl) 7 v7 rfl) 8 v8 rfl)
end

section
variable {α β:Type} {A B r:Option α}
theorem bnd {o:Option β} {f:β→Option α} {r:α} (h:o.bind f=some r):∃ x,Aside0 (o=some x)∧f x=some r:=(Option.bind_eq_some_iff.mp h).elim fun x h=>⟨x,⟨h.1⟩,h.2⟩
theorem bnS {x:β} {f:β→Option α} (h:(some x).bind f=r):f x=r:=h
theorem ib {t:Bool} (h:(if t=true then A else B)=r):(t=true∧A=r)∨(t=false∧B=r):=by cases t;exact .inr ⟨rfl,h⟩;exact .inl ⟨rfl,h⟩
section
variable {p:Prop} [Decidable p]
theorem iq (h:(if p then A else B)=r):(p∧A=r)∨(¬ p∧B=r):=by
  by_cases c:p
  · exact .inl ⟨c,by rwa [if_pos c] at h⟩
  · exact .inr ⟨c,by rwa [if_neg c] at h⟩
theorem iqN {r:α} (h:(if p then A else none)=some r):p∧A=some r:=by
  obtain h | h:=iq h
  · exact h
  · cases h.2
theorem ip (h:(if p then A else B)=r):(decide p=true∧A=r)∨(decide p=false∧B=r):=(iq h).imp (fun h=>⟨decide_eq_true h.1,h.2⟩) (fun h=>⟨decide_eq_false h.1,h.2⟩)
theorem ipN {r:α} (h:(if p then A else none)=some r):decide p=true∧A=some r:=⟨decide_eq_true (iqN h).1,(iqN h).2⟩
theorem ipE {r:α} (h:(if p then A else none)=some r):p=True∧decide p=true∧A=some r:=⟨eq_true (iqN h).1,decide_eq_true (iqN h).1,(iqN h).2⟩
end
section
variable {a b:Int}
theorem ig (h:(if a > b then A else B)=r):(decide (b < a)=true∧A=r)∨(decide (b < a)=false∧B=r):=ip h
theorem ih (h:(if a ≥ b then A else B)=r):(decide (b≤a)=true∧A=r)∨(decide (b≤a)=false∧B=r):=ip h
end
section
variable {τ:Type} [BEq τ] [LawfulBEq τ] {a b:τ} [Decidable (a=b)]
theorem ie (h:(if a=b then A else B)=r):((a == b)=true∧(a != b)=false∧A=r)∨((a == b)=false∧(a != b)=true∧B=r):=(iq h).imp (fun h=>⟨beq_iff_eq.mpr h.1,bne_eq_false_iff_eq.mpr h.1,h.2⟩) (fun h=>⟨beq_eq_false_iff_ne.mpr h.1,bne_iff_ne.mpr h.1,h.2⟩)
end
end
theorem lnT {a b:Nat} (h:((a:Int) == (b:Int))=true):(a == b)=true:=by have:=beq_iff_eq.mp h;exact beq_iff_eq.mpr (by omega)
theorem lnF {a b:Nat} (h:((a:Int) == (b:Int))=false):(a == b)=false:=by have:=beq_eq_false_iff_ne.mp h;exact beq_eq_false_iff_ne.mpr (by omega)
section
variable {α:Type} {d:Kd α} {e base n g t:Nat} {ok:Nat→Prop} {w W W' W2:World} {v:Value} {xs:List α} {A:Option Addr} {o:Obj}
theorem ak {p:Prop} (h:p):Aside0 p:=⟨h⟩
theorem cv (h:Aside0 (d.C w A n xs)) (hb:Aside0 (Below w.heap.size w W)) [Nonempty (Gr W W')]:d.C W' A n xs:=cw h.out hb.out
theorem cd (h:Aside0 (d.C w A n xs)) [g:Nonempty (Gr w W')]:d.C W' A n xs:=g.elim fun g=>Kd.C_below h.out g
theorem nw (h:d.N e W base ok v xs) [g:Nonempty (Gr W W')]:d.N e W' base ok v xs:=g.elim fun g=>Kd.N_below h g
theorem vw (h:d.V e W base ok v xs) [g:Nonempty (Gr W W')]:d.V e W' base ok v xs:=g.elim fun g=>Kd.V_below h g
theorem b1 (h:Aside0 (W.heap[g]?=some o)) [Nonempty (Gr W W')] (hb:Below W'.heap.size W' W2):Aside0 (W2.heap[g]?=some o):=⟨blk_below (bk h.out) hb⟩
theorem b2 (h:Aside0 (Below w.heap.size w W)) [Nonempty (Gr W W')] (hb:Below W'.heap.size W' W2):Aside0 (Below w.heap.size w W2):=⟨below_step (bw h.out) hb⟩
theorem b2s (h:Below w.heap.size w W) (hb:Below W.heap.size W W2):Aside0 (Below w.heap.size w W2):=⟨below_step h hb⟩
theorem b3 (hg:g=W'.heap.size) (h:Aside0 (Below w.heap.size w W)) [Nonempty (Gr W W')]:Aside0 (w.heap.size≤g):=⟨by rw [hg];exact below_size (bw h.out)⟩
theorem b3s (hg:g=W.heap.size) (h:Below w.heap.size w W):Aside0 (w.heap.size≤g):=⟨by rw [hg];exact below_size h⟩
theorem b4 {g1:Nat} (hg:g=W'.heap.size) (h:Aside0 (W.heap[g1]?=some o)) [Nonempty (Gr W W')]:Aside0 (g1≠g):=⟨by rw [hg];exact Nat.ne_of_lt (blk_lt (bk h.out))⟩
theorem b5 {g1:Nat} (hg:g=W'.heap.size) (h:Aside0 (W.heap[g1]?=some o)) [Nonempty (Gr W W')]:Aside0 (g≠g1):=⟨by rw [hg];exact Nat.ne_of_gt (blk_lt (bk h.out))⟩
end
theorem bs {p:Prop} (h:p:=by repeat (first | (with_reducible refine below_set ?_ (Aside0.out (by with_reducible assumption))) | exact bw HB.out)):p:=h
theorem o1 {p:Prop} (h:p:=by first | rfl | (simp [errW_none,errW_some] <;> rfl) | (simp [*,errW_none,errW_some] <;> rfl)):p:=h
theorem o2 {p:Prop} (h:p:=by first | rfl | (simp;done) | (simp [*];done)):p:=h
theorem od {p:Prop} (h:p:=by repeat (first | exact Drawn0.refl _ | apply Drawn0.step)):p:=h
theorem kq {p:Prop} (h:p:=by (repeat' apply And.intro) <;> first | (with_reducible assumption) | exact (blk_cell (Aside0.out (by with_reducible assumption)) _).trans rfl | exact pw_cell_below HB.out (by with_reducible assumption)):p:=h
theorem o3 {p:Prop} (h:p:=by first | omega | exact Nat.le_refl _):p:=h
section
variable {P:Program} {ops:Array Oper} {rest:List Oper} {oi:Oper} {a:Act} {Q:Exit→Act→World→Prop}
theorem glG {w:World} (N:Tmp) (hd:oi.dst=some N) {f:FuncId} {fn:Func} {zs:Array Operand} {ts:Array TypeId} (hop:oi.op=.call { callee:=.value (.func f),args:=zs,argTypes:=ts }) (hf:P.funcs[f]?=some fn) {args:Array Value} {R:Ending→World→Prop} (hc:Calls P f args w R)
    (h:∀ e w',R e w'→∃ v,e=.returned v∧wpList P ops Q rest (a.put (some N) v) w') (hg:oi.guard=none:=by rfl)
    (hname : (fn.name == "runtime.NumGoroutine") = false := by kernel_rfl) (hb : fn.body.isSome = true := by rfl)
    (hargs:zs.map a.eval=args:=by (try simp only [List.map_toArray,List.map_cons,List.map_nil]);first | done | rfl | (simp only [List.length_drop,List.length_take];rfl)):wpList P ops Q (oi :: rest) a w :=
  goesL_ (some N) hd hg hf hname hb args hop hargs (hc.mono h)
theorem glD {w:World} (N:Tmp) (hd:oi.dst=some N) {f:FuncId} {fn:Func} {zs:Array Operand} {ts:Array TypeId} (hop:oi.op=.call { callee:=.value (.func f),args:=zs,argTypes:=ts }) (hf:P.funcs[f]?=some fn) {args:Array Value} {v:Value} (hc:Calls P f args w fun e w'=>e=.returned v∧Drawn0 w w')
    (h:∀ nd,wpList P ops Q rest (a.put (some N) v) (w.drewN nd)) (hg:oi.guard=none:=by rfl)
    (hname : (fn.name == "runtime.NumGoroutine") = false := by kernel_rfl) (hb : fn.body.isSome = true := by rfl)
    (hargs:zs.map a.eval=args:=by (try simp only [List.map_toArray,List.map_cons,List.map_nil]);first | done | rfl | (simp only [List.length_drop,List.length_take];rfl)):wpList P ops Q (oi :: rest) a w :=
  goesL_ (some N) hd hg hf hname hb args hop hargs (hc.mono fun e w' h2=>⟨v,h2.1,by obtain ⟨nd,rfl⟩:=h2.2;exact h nd⟩)
theorem glB {w:World} (N:Tmp) (hd:oi.dst=some N) {f:FuncId} {fn:Func} {zs:Array Operand} {ts:Array TypeId} (hop:oi.op=.call { callee:=.value (.func f),args:=zs,argTypes:=ts }) (hf:P.funcs[f]?=some fn) {args:Array Value} {v:Value} (hc:Calls P f args w fun e w'=>e=.returned v∧Below w.heap.size w w')
    (h:∀ w',Below w.heap.size w w'→wpList P ops Q rest (a.put (some N) v) w') (hg:oi.guard=none:=by rfl)
    (hname : (fn.name == "runtime.NumGoroutine") = false := by kernel_rfl) (hb : fn.body.isSome = true := by rfl)
    (hargs:zs.map a.eval=args:=by (try simp only [List.map_toArray,List.map_cons,List.map_nil]);first | done | rfl | (simp only [List.length_drop,List.length_take];rfl)):wpList P ops Q (oi :: rest) a w :=
  goesL_ (some N) hd hg hf hname hb args hop hargs (hc.mono fun e w' h2=>⟨v,h2.1,h w' h2.2⟩)
end
section
variable {P:Program} {ops:Array Oper} {oi:Oper} {Q:Exit→Act→World→Prop} {md:Region.Mode} {S:World→Prop} {ds:List Nat} {T:Bool × List (List Nat × List Nat)} {n m fuel:Nat} {a a':Act} {w:World}
theorem pu (hT:Aside0 (rtab md ops=T)) (i:Nat) {N:Nat} {v:Value} (h:wpAnyLast P md ops Q S ds fuel (bA n (m+2 ^ i)) a' w) (hi:ops[i]?=some oi:=by rfl) (hN:oi.dst=some N:=by rfl)
    (hc:anyT T (bA n m).toList (bA n (m+2 ^ i)).toList i=true:=by kernel_rfl) (hw:Region.wanted oi (yielded ops a.tmps)=true:=by rfl)
    (hy:∀ w,(execOp a.eval oi).run P w=.ok (.value v) w:=by intro w';go_simp;with_reducible rfl) (ha:a.put (some N) v=a':=by go_simp;rfl)
    (hQ:∀ c a w,Q (.panic c) (a.put oi.dst v) w→Q (.panic c) a w:=by exact fun _ _ _ h=>h):wpAnyLast P md ops Q S ds (fuel+1) (bA n m) a w :=
  pure_ (i:=i) _ hi hN (any_of hT.out hc) hQ (.inl ⟨hw,hy⟩) ha h
theorem ta {B:List Nat} (hT:Aside0 (rtab md ops=T)) (hB:Aside0 (waitsOk T.2 B=true)) (hS:S w) (i:Nat) {N:Nat} {v:Value} (h:wpAnyLast P md ops Q S ds fuel (bA n (m+2 ^ i)) a' w) (hi:ops[i]?=some oi:=by rfl) (hN:oi.dst=some N:=by rfl)
    (hc:takeW T B ds (bA n m).toList (bA n (m+2 ^ i)).toList i=true:=by kernel_rfl) (hw:Region.wanted oi (yielded ops a.tmps)=true:=by rfl)
    (hy:∀ w,S w→(execOp a.eval oi).run P w=.ok (.value v) w:=by intro w' hS;(repeat (obtain ⟨_,hS⟩:=hS));go_simp;with_reducible rfl) (ha:a.put (some N) v=a':=by go_simp;rfl)
    (hQ:∀ c a w,Q (.panic c) (a.put oi.dst v) w→Q (.panic c) a w:=by exact fun _ _ _ h=>h):wpAnyLast P md ops Q S ds (fuel+1) (bA n m) a w :=
  take_ (i:=i) _ hi hN (take_ofW hT.out hB.out hc) hQ (.inl ⟨hw,hy⟩) hS ha h
theorem on (hT:Aside0 (rtab md ops=T)) (i:Nat) {N:Option Tmp}
    (h:∀ K:Act→World→Prop,Shut (∀ a' w',S w'→(S w'→wpAnyLast P md ops Q S ds fuel (bA n (m+2 ^ i)) a' w')→K a' w')→if Region.wanted oi (yielded ops a.tmps)=true then Oper.wp P oi a w K Q else K (a.put N undef) w)
    (hi:ops[i]?=some oi:=by rfl) (hN:oi.dst=N:=by rfl) (hc:(readyT T.2 (bA n m).toList == [i] && (bA n m).toList.set i true == (bA n (m+2 ^ i)).toList)=true:=by kernel_rfl) (hd:i ∉ ds:=by decide):wpAnyLast P md ops Q S ds (fuel+1) (bA n m) a w :=
  one_ (i:=i) _ hi hN (one_of hT.out hc) hd h
theorem gsG {K:Act→World→Prop} {f:FuncId} {fn:Func} (hf:P.funcs[f]?=some fn) {zs:Array Operand} {ts:Array TypeId} {args:Array Value} {N:Option Tmp} {R:Ending→World→Prop} (hc:Calls P f args w R)
    (h:∀ e w',R e w'→∃ v,e=.returned v∧K (a.put N v) w') (hop:oi.op=.call { callee:=.value (.func f),args:=zs,argTypes:=ts }:=by rfl) (hN:oi.dst=N:=by rfl) (hw:Region.wanted oi (yielded ops a.tmps)=true:=by rfl)
    (hname : (fn.name == "runtime.NumGoroutine") = false := by kernel_rfl) (hb : fn.body.isSome = true := by rfl)
    (hargs:zs.map a.eval=args:=by (try simp only [List.map_toArray,List.map_cons,List.map_nil]);first | done | rfl | (simp only [List.length_drop,List.length_take];rfl)):if Region.wanted oi (yielded ops a.tmps)=true then Oper.wp P oi a w K Q else K (a.put N undef) w :=
  goes_ hf hname hb args hw hN hop hargs (hc.mono h)
theorem gsB {K:Act→World→Prop} {f:FuncId} {fn:Func} (hf:P.funcs[f]?=some fn) {zs:Array Operand} {ts:Array TypeId} {args:Array Value} {N:Option Tmp} {v:Value} (hc:Calls P f args w fun e w'=>e=.returned v∧Below w.heap.size w w')
    (h:∀ w',Below w.heap.size w w'→K (a.put N v) w') (hop:oi.op=.call { callee:=.value (.func f),args:=zs,argTypes:=ts }:=by rfl) (hN:oi.dst=N:=by rfl) (hw:Region.wanted oi (yielded ops a.tmps)=true:=by rfl)
    (hname : (fn.name == "runtime.NumGoroutine") = false := by kernel_rfl) (hb : fn.body.isSome = true := by rfl)
    (hargs:zs.map a.eval=args:=by (try simp only [List.map_toArray,List.map_cons,List.map_nil]);first | done | rfl | (simp only [List.length_drop,List.length_take];rfl)):if Region.wanted oi (yielded ops a.tmps)=true then Oper.wp P oi a w K Q else K (a.put N undef) w :=
  goes_ hf hname hb args hw hN hop hargs (hc.mono fun e w' h2=>⟨v,h2.1,h w' h2.2⟩)
theorem kp {p:Prop} (h:p:=by (have h_:=hHeld);(repeat (obtain ⟨_,h_⟩:=h_));((repeat' apply And.intro) <;> exact pw_cell_below hb (by with_reducible assumption))):p:=h
end
section
variable {P:Program} {ops:Array Oper} {rest:List Oper} {o:Oper} {a:Act} {Q:Exit→Act→World→Prop}
theorem bxe {W:World} {N:Tmp} (hd:o.dst=some N) {cs:Array Value} {t:TypeId}
    (h:∀ g,g=W.heap.size→∀ w1,w1.heap[g]?=some (.cells cs t (0,0))→Below W.heap.size W w1→wpList P ops Q rest (a.put o.dst (.pointer (some ⟨g,0,none⟩))) w1) (hgd:o.guard=none:=by rfl)
    (hrun:(execOp a.eval o).run P W=.ok (.value (.pointer (some ⟨W.heap.size,0,none⟩))) (W.alloc (.cells cs t (0,0))):=by first | (go_simp;done) | (go_simp;rfl)):wpList P ops Q (o :: rest) a W:=box_event hgd hd hrun h
theorem bxd {w W0 W:World} {N:Tmp} (hd:o.dst=some N) {cs:Array Value} {t:TypeId} (hB:Aside0 (Below w.heap.size w W0)) [gr:Nonempty (Gr W0 W)]
    (h:∀ g,∀ w1,g=W.heap.size→Aside0 (Below w.heap.size w w1)→Aside0 (w1.heap[g]?=some (.cells cs t (0,0)))→Aside0 (w.heap.size≤g)→Below W.heap.size W w1→wpList P ops Q rest (a.put o.dst (.pointer (some ⟨g,0,none⟩))) w1) (hgd:o.guard=none:=by rfl)
    (hrun:(execOp a.eval o).run P W=.ok (.value (.pointer (some ⟨W.heap.size,0,none⟩))) (W.alloc (.cells cs t (0,0))):=by first | (go_simp;done) | (go_simp;rfl)):wpList P ops Q (o :: rest) a W:=boxed hd hgd hB.out hrun h
end
theorem el_int {k:IntKind} {xs:List Int} {w W:World} {A:Option Addr} {n:Nat} (h:Aside0 (Kd.C (Kd.int k) w A n xs)) (hb:Aside0 (Below w.heap.size w W)) (i:Int) (h0:decide (0≤i)=true:=by first | (with_reducible assumption) | assumption) (h1:decide (i < n)=true:=by first | (with_reducible assumption) | assumption):∃ ad,A=some ad∧W.cell? (ad.add i.toNat)=some (.int k (rd xs i))∧(0≤i)=True∧(i < n)=True:=by
  obtain ⟨ad,e,x0⟩:=Kd.at_int h.out i (of_decide_eq_true h0) (of_decide_eq_true h1);exact ⟨ad,e,pw_cell_below hb.out x0,eq_true (of_decide_eq_true h0),eq_true (of_decide_eq_true h1)⟩
theorem el0_int {k:IntKind} {xs:List Int} {w:World} {A:Option Addr} {n:Nat} (h:Aside0 (Kd.C (Kd.int k) w A n xs)) (i:Int) (h0:decide (0≤i)=true:=by first | (with_reducible assumption) | assumption) (h1:decide (i < n)=true:=by first | (with_reducible assumption) | assumption):∃ ad,A=some ad∧w.cell? (ad.add i.toNat)=some (.int k (rd xs i))∧(0≤i)=True∧(i < n)=True:=by
  obtain ⟨ad,e,x0⟩:=Kd.at_int h.out i (of_decide_eq_true h0) (of_decide_eq_true h1);exact ⟨ad,e,x0,eq_true (of_decide_eq_true h0),eq_true (of_decide_eq_true h1)⟩
theorem el20_int {k:IntKind} {xs:List Int} {w:World} {ad:Addr} {n:Nat} (h:Aside0 (Kd.C (Kd.int k) w (some ad) n xs)) (i:Int) (h0:decide (0≤i)=true:=by first | (with_reducible assumption) | assumption) (h1:decide (i < n)=true:=by first | (with_reducible assumption) | assumption):w.cell? (ad.add i.toNat)=some (.int k (rd xs i))∧(0≤i)=True∧(i < n)=True:=by
  obtain ⟨ad',e,x0⟩:=Kd.at_int h.out i (of_decide_eq_true h0) (of_decide_eq_true h1);obtain rfl:=Option.some.inj e;exact ⟨x0,eq_true (of_decide_eq_true h0),eq_true (of_decide_eq_true h1)⟩
theorem el_L10 {xs:List (List Int)} {w W:World} {A:Option Addr} {n:Nat} (h:Aside0 (Kd.C (Kd.slice 5 (Kd.int .u8)) w A n xs)) (hb:Aside0 (Below w.heap.size w W)) (i:Int) (h0:decide (0≤i)=true:=by first | (with_reducible assumption) | assumption) (h1:decide (i < n)=true:=by first | (with_reducible assumption) | assumption):∃ ad A0 c0,A=some ad∧W.cell? (ad.add i.toNat)=some (.slice A0 (zi xs i).length c0)∧Aside0 ((zi xs i).length≤c0)∧Aside0 ((Kd.int .u8).C w A0 (zi xs i).length (zi xs i))∧(0≤i)=True∧(i < n)=True:=by
  obtain ⟨ad,A0,c0,e,x0,y0,y1⟩:=qcq h.out i (of_decide_eq_true h0) (of_decide_eq_true h1);exact ⟨ad,A0,c0,e,pw_cell_below hb.out x0,⟨y0⟩,⟨y1⟩,eq_true (of_decide_eq_true h0),eq_true (of_decide_eq_true h1)⟩
theorem el0_L10 {xs:List (List Int)} {w:World} {A:Option Addr} {n:Nat} (h:Aside0 (Kd.C (Kd.slice 5 (Kd.int .u8)) w A n xs)) (i:Int) (h0:decide (0≤i)=true:=by first | (with_reducible assumption) | assumption) (h1:decide (i < n)=true:=by first | (with_reducible assumption) | assumption):∃ ad A0 c0,A=some ad∧w.cell? (ad.add i.toNat)=some (.slice A0 (zi xs i).length c0)∧Aside0 ((zi xs i).length≤c0)∧Aside0 ((Kd.int .u8).C w A0 (zi xs i).length (zi xs i))∧(0≤i)=True∧(i < n)=True:=by
  obtain ⟨ad,A0,c0,e,x0,y0,y1⟩:=qcq h.out i (of_decide_eq_true h0) (of_decide_eq_true h1);exact ⟨ad,A0,c0,e,x0,⟨y0⟩,⟨y1⟩,eq_true (of_decide_eq_true h0),eq_true (of_decide_eq_true h1)⟩
theorem el_T134 {xs:List JV} {w W:World} {A:Option Addr} {n:Nat} (h:Aside0 (Kd.C Xl w A n xs)) (hb:Aside0 (Below w.heap.size w W)) (i:Int) (h0:decide (0≤i)=true:=by first | (with_reducible assumption) | assumption) (h1:decide (i < n)=true:=by first | (with_reducible assumption) | assumption):∃ ad A0 c0,A=some ad∧W.cell? (ad.add (i.toNat * 2))=some (.slice A0 (Jw xs i).f0.f0.length c0)∧W.cell? ⟨(ad.add (i.toNat * 2)).block,(ad.add (i.toNat * 2)).off+1,none⟩=some (.int .i64 (Jw xs i).f1)∧Aside0 ((Jw xs i).f0.f0.length≤c0)∧Aside0 ((Kd.slice 5 (Kd.int .u8)).C w A0 (Jw xs i).f0.f0.length (Jw xs i).f0.f0)∧(0≤i)=True∧(i < n)=True:=by
  obtain ⟨ad,A0,c0,e,x0,x1,y0,y1⟩:=qml h.out i (of_decide_eq_true h0) (of_decide_eq_true h1);exact ⟨ad,A0,c0,e,pw_cell_below hb.out x0,pw_cell_below hb.out x1,⟨y0⟩,⟨y1⟩,eq_true (of_decide_eq_true h0),eq_true (of_decide_eq_true h1)⟩
theorem el_T114 {xs:List yo} {w W:World} {A:Option Addr} {n:Nat} (h:Aside0 (Kd.C yK w A n xs)) (hb:Aside0 (Below w.heap.size w W)) (i:Int) (h0:decide (0≤i)=true:=by first | (with_reducible assumption) | assumption) (h1:decide (i < n)=true:=by first | (with_reducible assumption) | assumption):∃ ad A0 c0 A4 c4 A5 c5 A6 c6,A=some ad∧W.cell? (ad.add (i.toNat * 7))=some (.slice A0 (jr xs i).f0.f0.length c0)∧W.cell? ⟨(ad.add (i.toNat * 7)).block,(ad.add (i.toNat * 7)).off+1,none⟩=some (.int .i64 (jr xs i).f1)∧W.cell? ⟨(ad.add (i.toNat * 7)).block,(ad.add (i.toNat * 7)).off+2,none⟩=some (.int .i64 (jr xs i).f2)∧W.cell? ⟨(ad.add (i.toNat * 7)).block,(ad.add (i.toNat * 7)).off+3,none⟩=some (.int .i64 (jr xs i).f3)∧W.cell? ⟨(ad.add (i.toNat * 7)).block,(ad.add (i.toNat * 7)).off+4,none⟩=some (.slice A4 (jr xs i).f4.f0.length c4)∧W.cell? ⟨(ad.add (i.toNat * 7)).block,(ad.add (i.toNat * 7)).off+5,none⟩=some (.slice A5 (jr xs i).f5.length c5)∧W.cell? ⟨(ad.add (i.toNat * 7)).block,(ad.add (i.toNat * 7)).off+6,none⟩=some (.slice A6 (jr xs i).f6.length c6)∧Aside0 ((jr xs i).f0.f0.length≤c0)∧Aside0 ((Kd.slice 5 (Kd.int .u8)).C w A0 (jr xs i).f0.f0.length (jr xs i).f0.f0)∧Aside0 ((jr xs i).f4.f0.length≤c4)∧Aside0 ((Kd.slice 5 (Kd.int .u8)).C w A4 (jr xs i).f4.f0.length (jr xs i).f4.f0)∧Aside0 ((jr xs i).f5.length≤c5)∧Aside0 ((Kd.int .u8).C w A5 (jr xs i).f5.length (jr xs i).f5)∧Aside0 ((jr xs i).f6.length≤c6)∧Aside0 ((Kd.int .i64).C w A6 (jr xs i).f6.length (jr xs i).f6)∧(0≤i)=True∧(i < n)=True:=by
  obtain ⟨ad,A0,c0,A4,c4,A5,c5,A6,c6,e,x0,x1,x2,x3,x4,x5,x6,y0,y1,y2,y3,y4,y5,y6,y7⟩:=qmn h.out i (of_decide_eq_true h0) (of_decide_eq_true h1);exact ⟨ad,A0,c0,A4,c4,A5,c5,A6,c6,e,pw_cell_below hb.out x0,pw_cell_below hb.out x1,pw_cell_below hb.out x2,pw_cell_below hb.out x3,pw_cell_below hb.out x4,pw_cell_below hb.out x5,pw_cell_below hb.out x6,⟨y0⟩,⟨y1⟩,⟨y2⟩,⟨y3⟩,⟨y4⟩,⟨y5⟩,⟨y6⟩,⟨y7⟩,eq_true (of_decide_eq_true h0),eq_true (of_decide_eq_true h1)⟩
theorem el_T116 {xs:List QB} {w W:World} {A:Option Addr} {n:Nat} (h:Aside0 (Kd.C QR w A n xs)) (hb:Aside0 (Below w.heap.size w W)) (i:Int) (h0:decide (0≤i)=true:=by first | (with_reducible assumption) | assumption) (h1:decide (i < n)=true:=by first | (with_reducible assumption) | assumption):∃ ad A0 c0 A4 c4 A5 c5 A6 c6,A=some ad∧W.cell? (ad.add (i.toNat * 9))=some (.slice A0 (qX xs i).f0.f0.f0.length c0)∧W.cell? ⟨(ad.add (i.toNat * 9)).block,(ad.add (i.toNat * 9)).off+1,none⟩=some (.int .i64 (qX xs i).f0.f1)∧W.cell? ⟨(ad.add (i.toNat * 9)).block,(ad.add (i.toNat * 9)).off+2,none⟩=some (.int .i64 (qX xs i).f0.f2)∧W.cell? ⟨(ad.add (i.toNat * 9)).block,(ad.add (i.toNat * 9)).off+3,none⟩=some (.int .i64 (qX xs i).f0.f3)∧W.cell? ⟨(ad.add (i.toNat * 9)).block,(ad.add (i.toNat * 9)).off+4,none⟩=some (.slice A4 (qX xs i).f0.f4.f0.length c4)∧W.cell? ⟨(ad.add (i.toNat * 9)).block,(ad.add (i.toNat * 9)).off+5,none⟩=some (.slice A5 (qX xs i).f0.f5.length c5)∧W.cell? ⟨(ad.add (i.toNat * 9)).block,(ad.add (i.toNat * 9)).off+6,none⟩=some (.slice A6 (qX xs i).f0.f6.length c6)∧W.cell? ⟨(ad.add (i.toNat * 9)).block,(ad.add (i.toNat * 9)).off+7,none⟩=some (.int .i64 (qX xs i).f1)∧W.cell? ⟨(ad.add (i.toNat * 9)).block,(ad.add (i.toNat * 9)).off+8,none⟩=some (.bool (qX xs i).f2)∧Aside0 ((qX xs i).f0.f0.f0.length≤c0)∧Aside0 ((Kd.slice 5 (Kd.int .u8)).C w A0 (qX xs i).f0.f0.f0.length (qX xs i).f0.f0.f0)∧Aside0 ((qX xs i).f0.f4.f0.length≤c4)∧Aside0 ((Kd.slice 5 (Kd.int .u8)).C w A4 (qX xs i).f0.f4.f0.length (qX xs i).f0.f4.f0)∧Aside0 ((qX xs i).f0.f5.length≤c5)∧Aside0 ((Kd.int .u8).C w A5 (qX xs i).f0.f5.length (qX xs i).f0.f5)∧Aside0 ((qX xs i).f0.f6.length≤c6)∧Aside0 ((Kd.int .i64).C w A6 (qX xs i).f0.f6.length (qX xs i).f0.f6)∧(0≤i)=True∧(i < n)=True:=by
  obtain ⟨ad,A0,c0,A4,c4,A5,c5,A6,c6,e,x0,x1,x2,x3,x4,x5,x6,x7,x8,y0,y1,y2,y3,y4,y5,y6,y7⟩:=qmm h.out i (of_decide_eq_true h0) (of_decide_eq_true h1);exact ⟨ad,A0,c0,A4,c4,A5,c5,A6,c6,e,pw_cell_below hb.out x0,pw_cell_below hb.out x1,pw_cell_below hb.out x2,pw_cell_below hb.out x3,pw_cell_below hb.out x4,pw_cell_below hb.out x5,pw_cell_below hb.out x6,pw_cell_below hb.out x7,pw_cell_below hb.out x8,⟨y0⟩,⟨y1⟩,⟨y2⟩,⟨y3⟩,⟨y4⟩,⟨y5⟩,⟨y6⟩,⟨y7⟩,eq_true (of_decide_eq_true h0),eq_true (of_decide_eq_true h1)⟩
theorem elw_T96 {xs:List S96} {w W:World} {A:Option Addr} {n:Nat} (h:Aside0 (Kd.C k96 w A n xs)) (hb:Aside0 (Below w.heap.size w W)) (i:Int) (h0:decide (0≤i)=true:=by first | (with_reducible assumption) | assumption) (h1:decide (i < n)=true:=by first | (with_reducible assumption) | assumption):∃ ad A0 c0,A=some ad∧w.cell? (ad.add (i.toNat * 2))=some (.slice A0 (js xs i).f0.f0.length c0)∧w.cell? ⟨(ad.add (i.toNat * 2)).block,(ad.add (i.toNat * 2)).off+1,none⟩=some (.int .i64 (js xs i).f1)∧W.cell? (ad.add (i.toNat * 2))=some (.slice A0 (js xs i).f0.f0.length c0)∧W.cell? ⟨(ad.add (i.toNat * 2)).block,(ad.add (i.toNat * 2)).off+1,none⟩=some (.int .i64 (js xs i).f1)∧Aside0 ((js xs i).f0.f0.length≤c0)∧Aside0 ((Kd.slice 5 (Kd.int .u8)).C w A0 (js xs i).f0.f0.length (js xs i).f0.f0)∧(0≤i)=True∧(i < n)=True:=by
  obtain ⟨ad,A0,c0,e,x0,x1,y0,y1⟩:=Zx h.out i (of_decide_eq_true h0) (of_decide_eq_true h1);exact ⟨ad,A0,c0,e,x0,x1,pw_cell_below hb.out x0,pw_cell_below hb.out x1,⟨y0⟩,⟨y1⟩,eq_true (of_decide_eq_true h0),eq_true (of_decide_eq_true h1)⟩
theorem el_T105 {xs:List qx} {w W:World} {A:Option Addr} {n:Nat} (h:Aside0 (Kd.C ji w A n xs)) (hb:Aside0 (Below w.heap.size w W)) (i:Int) (h0:decide (0≤i)=true:=by first | (with_reducible assumption) | assumption) (h1:decide (i < n)=true:=by first | (with_reducible assumption) | assumption):∃ ad A0 c0 A4 c4 A5 c5 A6 c6,A=some ad∧W.cell? (ad.add (i.toNat * 7))=some (.slice A0 (qv xs i).f0.f0.length c0)∧W.cell? ⟨(ad.add (i.toNat * 7)).block,(ad.add (i.toNat * 7)).off+1,none⟩=some (.int .i64 (qv xs i).f1)∧W.cell? ⟨(ad.add (i.toNat * 7)).block,(ad.add (i.toNat * 7)).off+2,none⟩=some (.int .i64 (qv xs i).f2)∧W.cell? ⟨(ad.add (i.toNat * 7)).block,(ad.add (i.toNat * 7)).off+3,none⟩=some (.int .i64 (qv xs i).f3)∧W.cell? ⟨(ad.add (i.toNat * 7)).block,(ad.add (i.toNat * 7)).off+4,none⟩=some (.slice A4 (qv xs i).f4.f0.length c4)∧W.cell? ⟨(ad.add (i.toNat * 7)).block,(ad.add (i.toNat * 7)).off+5,none⟩=some (.slice A5 (qv xs i).f5.length c5)∧W.cell? ⟨(ad.add (i.toNat * 7)).block,(ad.add (i.toNat * 7)).off+6,none⟩=some (.slice A6 (qv xs i).f6.length c6)∧Aside0 ((qv xs i).f0.f0.length≤c0)∧Aside0 ((Kd.slice 5 (Kd.int .u8)).C w A0 (qv xs i).f0.f0.length (qv xs i).f0.f0)∧Aside0 ((qv xs i).f4.f0.length≤c4)∧Aside0 ((Kd.slice 5 (Kd.int .u8)).C w A4 (qv xs i).f4.f0.length (qv xs i).f4.f0)∧Aside0 ((qv xs i).f5.length≤c5)∧Aside0 ((Kd.int .u8).C w A5 (qv xs i).f5.length (qv xs i).f5)∧Aside0 ((qv xs i).f6.length≤c6)∧Aside0 ((Kd.int .i64).C w A6 (qv xs i).f6.length (qv xs i).f6)∧(0≤i)=True∧(i < n)=True:=by
  obtain ⟨ad,A0,c0,A4,c4,A5,c5,A6,c6,e,x0,x1,x2,x3,x4,x5,x6,y0,y1,y2,y3,y4,y5,y6,y7⟩:=qf9 h.out i (of_decide_eq_true h0) (of_decide_eq_true h1);exact ⟨ad,A0,c0,A4,c4,A5,c5,A6,c6,e,pw_cell_below hb.out x0,pw_cell_below hb.out x1,pw_cell_below hb.out x2,pw_cell_below hb.out x3,pw_cell_below hb.out x4,pw_cell_below hb.out x5,pw_cell_below hb.out x6,⟨y0⟩,⟨y1⟩,⟨y2⟩,⟨y3⟩,⟨y4⟩,⟨y5⟩,⟨y6⟩,⟨y7⟩,eq_true (of_decide_eq_true h0),eq_true (of_decide_eq_true h1)⟩
theorem elw_T105 {xs:List qx} {w W:World} {A:Option Addr} {n:Nat} (h:Aside0 (Kd.C ji w A n xs)) (hb:Aside0 (Below w.heap.size w W)) (i:Int) (h0:decide (0≤i)=true:=by first | (with_reducible assumption) | assumption) (h1:decide (i < n)=true:=by first | (with_reducible assumption) | assumption):∃ ad A0 c0 A4 c4 A5 c5 A6 c6,A=some ad∧w.cell? (ad.add (i.toNat * 7))=some (.slice A0 (qv xs i).f0.f0.length c0)∧w.cell? ⟨(ad.add (i.toNat * 7)).block,(ad.add (i.toNat * 7)).off+1,none⟩=some (.int .i64 (qv xs i).f1)∧w.cell? ⟨(ad.add (i.toNat * 7)).block,(ad.add (i.toNat * 7)).off+2,none⟩=some (.int .i64 (qv xs i).f2)∧w.cell? ⟨(ad.add (i.toNat * 7)).block,(ad.add (i.toNat * 7)).off+3,none⟩=some (.int .i64 (qv xs i).f3)∧w.cell? ⟨(ad.add (i.toNat * 7)).block,(ad.add (i.toNat * 7)).off+4,none⟩=some (.slice A4 (qv xs i).f4.f0.length c4)∧w.cell? ⟨(ad.add (i.toNat * 7)).block,(ad.add (i.toNat * 7)).off+5,none⟩=some (.slice A5 (qv xs i).f5.length c5)∧w.cell? ⟨(ad.add (i.toNat * 7)).block,(ad.add (i.toNat * 7)).off+6,none⟩=some (.slice A6 (qv xs i).f6.length c6)∧W.cell? (ad.add (i.toNat * 7))=some (.slice A0 (qv xs i).f0.f0.length c0)∧W.cell? ⟨(ad.add (i.toNat * 7)).block,(ad.add (i.toNat * 7)).off+1,none⟩=some (.int .i64 (qv xs i).f1)∧W.cell? ⟨(ad.add (i.toNat * 7)).block,(ad.add (i.toNat * 7)).off+2,none⟩=some (.int .i64 (qv xs i).f2)∧W.cell? ⟨(ad.add (i.toNat * 7)).block,(ad.add (i.toNat * 7)).off+3,none⟩=some (.int .i64 (qv xs i).f3)∧W.cell? ⟨(ad.add (i.toNat * 7)).block,(ad.add (i.toNat * 7)).off+4,none⟩=some (.slice A4 (qv xs i).f4.f0.length c4)∧W.cell? ⟨(ad.add (i.toNat * 7)).block,(ad.add (i.toNat * 7)).off+5,none⟩=some (.slice A5 (qv xs i).f5.length c5)∧W.cell? ⟨(ad.add (i.toNat * 7)).block,(ad.add (i.toNat * 7)).off+6,none⟩=some (.slice A6 (qv xs i).f6.length c6)∧Aside0 ((qv xs i).f0.f0.length≤c0)∧Aside0 ((Kd.slice 5 (Kd.int .u8)).C w A0 (qv xs i).f0.f0.length (qv xs i).f0.f0)∧Aside0 ((qv xs i).f4.f0.length≤c4)∧Aside0 ((Kd.slice 5 (Kd.int .u8)).C w A4 (qv xs i).f4.f0.length (qv xs i).f4.f0)∧Aside0 ((qv xs i).f5.length≤c5)∧Aside0 ((Kd.int .u8).C w A5 (qv xs i).f5.length (qv xs i).f5)∧Aside0 ((qv xs i).f6.length≤c6)∧Aside0 ((Kd.int .i64).C w A6 (qv xs i).f6.length (qv xs i).f6)∧(0≤i)=True∧(i < n)=True:=by
  obtain ⟨ad,A0,c0,A4,c4,A5,c5,A6,c6,e,x0,x1,x2,x3,x4,x5,x6,y0,y1,y2,y3,y4,y5,y6,y7⟩:=qf9 h.out i (of_decide_eq_true h0) (of_decide_eq_true h1);exact ⟨ad,A0,c0,A4,c4,A5,c5,A6,c6,e,x0,x1,x2,x3,x4,x5,x6,pw_cell_below hb.out x0,pw_cell_below hb.out x1,pw_cell_below hb.out x2,pw_cell_below hb.out x3,pw_cell_below hb.out x4,pw_cell_below hb.out x5,pw_cell_below hb.out x6,⟨y0⟩,⟨y1⟩,⟨y2⟩,⟨y3⟩,⟨y4⟩,⟨y5⟩,⟨y6⟩,⟨y7⟩,eq_true (of_decide_eq_true h0),eq_true (of_decide_eq_true h1)⟩
theorem el_T107 {xs:List qI} {w W:World} {A:Option Addr} {n:Nat} (h:Aside0 (Kd.C zv w A n xs)) (hb:Aside0 (Below w.heap.size w W)) (i:Int) (h0:decide (0≤i)=true:=by first | (with_reducible assumption) | assumption) (h1:decide (i < n)=true:=by first | (with_reducible assumption) | assumption):∃ ad A0 c0 A4 c4 A5 c5 A6 c6,A=some ad∧W.cell? (ad.add (i.toNat * 9))=some (.slice A0 (qj xs i).f0.f0.f0.length c0)∧W.cell? ⟨(ad.add (i.toNat * 9)).block,(ad.add (i.toNat * 9)).off+1,none⟩=some (.int .i64 (qj xs i).f0.f1)∧W.cell? ⟨(ad.add (i.toNat * 9)).block,(ad.add (i.toNat * 9)).off+2,none⟩=some (.int .i64 (qj xs i).f0.f2)∧W.cell? ⟨(ad.add (i.toNat * 9)).block,(ad.add (i.toNat * 9)).off+3,none⟩=some (.int .i64 (qj xs i).f0.f3)∧W.cell? ⟨(ad.add (i.toNat * 9)).block,(ad.add (i.toNat * 9)).off+4,none⟩=some (.slice A4 (qj xs i).f0.f4.f0.length c4)∧W.cell? ⟨(ad.add (i.toNat * 9)).block,(ad.add (i.toNat * 9)).off+5,none⟩=some (.slice A5 (qj xs i).f0.f5.length c5)∧W.cell? ⟨(ad.add (i.toNat * 9)).block,(ad.add (i.toNat * 9)).off+6,none⟩=some (.slice A6 (qj xs i).f0.f6.length c6)∧W.cell? ⟨(ad.add (i.toNat * 9)).block,(ad.add (i.toNat * 9)).off+7,none⟩=some (.int .i64 (qj xs i).f1)∧W.cell? ⟨(ad.add (i.toNat * 9)).block,(ad.add (i.toNat * 9)).off+8,none⟩=some (.bool (qj xs i).f2)∧Aside0 ((qj xs i).f0.f0.f0.length≤c0)∧Aside0 ((Kd.slice 5 (Kd.int .u8)).C w A0 (qj xs i).f0.f0.f0.length (qj xs i).f0.f0.f0)∧Aside0 ((qj xs i).f0.f4.f0.length≤c4)∧Aside0 ((Kd.slice 5 (Kd.int .u8)).C w A4 (qj xs i).f0.f4.f0.length (qj xs i).f0.f4.f0)∧Aside0 ((qj xs i).f0.f5.length≤c5)∧Aside0 ((Kd.int .u8).C w A5 (qj xs i).f0.f5.length (qj xs i).f0.f5)∧Aside0 ((qj xs i).f0.f6.length≤c6)∧Aside0 ((Kd.int .i64).C w A6 (qj xs i).f0.f6.length (qj xs i).f0.f6)∧(0≤i)=True∧(i < n)=True:=by
  obtain ⟨ad,A0,c0,A4,c4,A5,c5,A6,c6,e,x0,x1,x2,x3,x4,x5,x6,x7,x8,y0,y1,y2,y3,y4,y5,y6,y7⟩:=qiD h.out i (of_decide_eq_true h0) (of_decide_eq_true h1);exact ⟨ad,A0,c0,A4,c4,A5,c5,A6,c6,e,pw_cell_below hb.out x0,pw_cell_below hb.out x1,pw_cell_below hb.out x2,pw_cell_below hb.out x3,pw_cell_below hb.out x4,pw_cell_below hb.out x5,pw_cell_below hb.out x6,pw_cell_below hb.out x7,pw_cell_below hb.out x8,⟨y0⟩,⟨y1⟩,⟨y2⟩,⟨y3⟩,⟨y4⟩,⟨y5⟩,⟨y6⟩,⟨y7⟩,eq_true (of_decide_eq_true h0),eq_true (of_decide_eq_true h1)⟩
theorem elw_T107 {xs:List qI} {w W:World} {A:Option Addr} {n:Nat} (h:Aside0 (Kd.C zv w A n xs)) (hb:Aside0 (Below w.heap.size w W)) (i:Int) (h0:decide (0≤i)=true:=by first | (with_reducible assumption) | assumption) (h1:decide (i < n)=true:=by first | (with_reducible assumption) | assumption):∃ ad A0 c0 A4 c4 A5 c5 A6 c6,A=some ad∧w.cell? (ad.add (i.toNat * 9))=some (.slice A0 (qj xs i).f0.f0.f0.length c0)∧w.cell? ⟨(ad.add (i.toNat * 9)).block,(ad.add (i.toNat * 9)).off+1,none⟩=some (.int .i64 (qj xs i).f0.f1)∧w.cell? ⟨(ad.add (i.toNat * 9)).block,(ad.add (i.toNat * 9)).off+2,none⟩=some (.int .i64 (qj xs i).f0.f2)∧w.cell? ⟨(ad.add (i.toNat * 9)).block,(ad.add (i.toNat * 9)).off+3,none⟩=some (.int .i64 (qj xs i).f0.f3)∧w.cell? ⟨(ad.add (i.toNat * 9)).block,(ad.add (i.toNat * 9)).off+4,none⟩=some (.slice A4 (qj xs i).f0.f4.f0.length c4)∧w.cell? ⟨(ad.add (i.toNat * 9)).block,(ad.add (i.toNat * 9)).off+5,none⟩=some (.slice A5 (qj xs i).f0.f5.length c5)∧w.cell? ⟨(ad.add (i.toNat * 9)).block,(ad.add (i.toNat * 9)).off+6,none⟩=some (.slice A6 (qj xs i).f0.f6.length c6)∧w.cell? ⟨(ad.add (i.toNat * 9)).block,(ad.add (i.toNat * 9)).off+7,none⟩=some (.int .i64 (qj xs i).f1)∧w.cell? ⟨(ad.add (i.toNat * 9)).block,(ad.add (i.toNat * 9)).off+8,none⟩=some (.bool (qj xs i).f2)∧W.cell? (ad.add (i.toNat * 9))=some (.slice A0 (qj xs i).f0.f0.f0.length c0)∧W.cell? ⟨(ad.add (i.toNat * 9)).block,(ad.add (i.toNat * 9)).off+1,none⟩=some (.int .i64 (qj xs i).f0.f1)∧W.cell? ⟨(ad.add (i.toNat * 9)).block,(ad.add (i.toNat * 9)).off+2,none⟩=some (.int .i64 (qj xs i).f0.f2)∧W.cell? ⟨(ad.add (i.toNat * 9)).block,(ad.add (i.toNat * 9)).off+3,none⟩=some (.int .i64 (qj xs i).f0.f3)∧W.cell? ⟨(ad.add (i.toNat * 9)).block,(ad.add (i.toNat * 9)).off+4,none⟩=some (.slice A4 (qj xs i).f0.f4.f0.length c4)∧W.cell? ⟨(ad.add (i.toNat * 9)).block,(ad.add (i.toNat * 9)).off+5,none⟩=some (.slice A5 (qj xs i).f0.f5.length c5)∧W.cell? ⟨(ad.add (i.toNat * 9)).block,(ad.add (i.toNat * 9)).off+6,none⟩=some (.slice A6 (qj xs i).f0.f6.length c6)∧W.cell? ⟨(ad.add (i.toNat * 9)).block,(ad.add (i.toNat * 9)).off+7,none⟩=some (.int .i64 (qj xs i).f1)∧W.cell? ⟨(ad.add (i.toNat * 9)).block,(ad.add (i.toNat * 9)).off+8,none⟩=some (.bool (qj xs i).f2)∧Aside0 ((qj xs i).f0.f0.f0.length≤c0)∧Aside0 ((Kd.slice 5 (Kd.int .u8)).C w A0 (qj xs i).f0.f0.f0.length (qj xs i).f0.f0.f0)∧Aside0 ((qj xs i).f0.f4.f0.length≤c4)∧Aside0 ((Kd.slice 5 (Kd.int .u8)).C w A4 (qj xs i).f0.f4.f0.length (qj xs i).f0.f4.f0)∧Aside0 ((qj xs i).f0.f5.length≤c5)∧Aside0 ((Kd.int .u8).C w A5 (qj xs i).f0.f5.length (qj xs i).f0.f5)∧Aside0 ((qj xs i).f0.f6.length≤c6)∧Aside0 ((Kd.int .i64).C w A6 (qj xs i).f0.f6.length (qj xs i).f0.f6)∧(0≤i)=True∧(i < n)=True:=by
  obtain ⟨ad,A0,c0,A4,c4,A5,c5,A6,c6,e,x0,x1,x2,x3,x4,x5,x6,x7,x8,y0,y1,y2,y3,y4,y5,y6,y7⟩:=qiD h.out i (of_decide_eq_true h0) (of_decide_eq_true h1);exact ⟨ad,A0,c0,A4,c4,A5,c5,A6,c6,e,x0,x1,x2,x3,x4,x5,x6,x7,x8,pw_cell_below hb.out x0,pw_cell_below hb.out x1,pw_cell_below hb.out x2,pw_cell_below hb.out x3,pw_cell_below hb.out x4,pw_cell_below hb.out x5,pw_cell_below hb.out x6,pw_cell_below hb.out x7,pw_cell_below hb.out x8,⟨y0⟩,⟨y1⟩,⟨y2⟩,⟨y3⟩,⟨y4⟩,⟨y5⟩,⟨y6⟩,⟨y7⟩,eq_true (of_decide_eq_true h0),eq_true (of_decide_eq_true h1)⟩

def jt.l0:Nat→List Int→List Int→Int→Option (Bool)
 | 0,_,_,_=>none
 | k+1,x0,x1,x5=>if x5 < (x0.length:Int) then (if 0≤x5 then (if x5 < (x1.length:Int) then (if (rd x0 x5)=(rd x1 x5) then (jt.l0 k x0 x1 (wrap64 (x5+1))) else (some false)) else (none)) else (none)) else (some true)
def jt.f (k:Nat) (l0:List Int) (l1:List Int):Option (Bool):=if (l0.length:Int)=(l1.length:Int) then (jt.l0 k l0 l1 0) else (some false)
set_option maxHeartbeats 8000000 in
set_option maxRecDepth 100000 in
theorem jt.calls (k:Nat) (A0:Option Addr) (c0:Nat) (l0:List Int) (A1:Option Addr) (c1:Nat) (l1:List Int) (r:Bool) (w:World) (hr0:Kd.C (Kd.int .u8) w A0 l0.length l0) (hc0:l0.length≤c0) (hr1:Kd.C (Kd.int .u8) w A1 l1.length l1) (hc1:l1.length≤c1) (h:jt.f k l0 l1=some r) :
  Calls Tryz.prog 17 #[.slice A0 l0.length c0,.slice A1 l1.length c1] w fun e w'=>e=.returned (.bool r)∧Drawn0 w w':=by
 have HR0:=ak hr0;have HC0:=ak hc0;clear hr0 hc0;have HR1:=ak hr1;have HC1:=ak hc1;clear hr1 hc1;have H:(if (l0.length:Int)=(l1.length:Int) then (jt.l0 k l0 l1 0) else (some false))=some r:=h;clear h;replace H:=ie H;obtain ⟨c3b0,c3b1,H⟩ | ⟨c3b0,c3b1,H⟩:=H
 ·have c3b2:(l0.length == l1.length)=true:=lnT c3b0;have H':=ak H;clear H;go_enter Tryz.func17,Tryz.ntmps17;go_wp2;repeat (go_quiet (fail);try go_wp2)
  go_loopg [5] k (fun kq v5 w'=>∃ (qm:Int),v5=.int .i64 qm∧Aside0 (jt.l0 kq l0 l1 qm=some r)∧Aside0 (kq≤k)∧Drawn0 w w')
  case atStart=>exact ⟨(0),o2,H',⟨Nat.le_refl _⟩,od⟩
  case round =>
   clear H';(try clear c1)
   (try clear c3b0)
   (try clear c3b1)
   (try clear c3b2)
   obtain ⟨qm,rfl,HA,HK1,⟨m1,rfl⟩⟩:=hrel;cases gk with
   | zero=>exact absurd HA.out (by simp [jt.l0])
   | succ k1 =>
    have H:=HA.out;clear HA;simp only [jt.l0] at H;replace H:=ip H;obtain ⟨c4b0,H⟩ | ⟨c4b0,H⟩:=H
    ·replace H:=ipN H;obtain ⟨c5b0,H⟩:=H;replace H:=ipN H;obtain ⟨c6b0,H⟩:=H;replace H:=ie H;obtain ⟨c7b0,c7b1,H⟩ | ⟨c7b0,c7b1,H⟩:=H
     ·have H':=ak H;clear H;obtain ⟨jv,rfl,yd,JQ,JP⟩:=el0_int HR0 qm;obtain ⟨zf,rfl,yv,ZX,ZW⟩:=el0_int HR1 qm;go_wp2;repeat (go_quiet (fail);try go_wp2)
      go_roundg k1;case measure=>have:=HK1.out;omega
      case rel=>exact ⟨(wrap64 (qm+1)),o2,H',⟨by have:=HK1.out;omega⟩,od⟩
     ·obtain rfl:=Option.some.inj H;obtain ⟨jv,rfl,yd,JQ,JP⟩:=el0_int HR0 qm;obtain ⟨zf,rfl,yv,ZX,ZW⟩:=el0_int HR1 qm;go_wp2;repeat (go_quiet (fail);try go_wp2)
      go_ret;exact ⟨o2,od⟩
    ·obtain rfl:=Option.some.inj H;go_wp2;repeat (go_quiet (fail);try go_wp2)
     go_ret;exact ⟨o2,od⟩
 ·have c3b2:(l0.length == l1.length)=false:=lnF c3b0;obtain rfl:=Option.some.inj H;go_enter Tryz.func17,Tryz.ntmps17;go_wp2;repeat (go_quiet (fail);try go_wp2)
  go_ret;exact ⟨o2,od⟩

def zG.l0:Nat→List Int→List Int→Int→Option (List Int)
 | 0,_,_,_=>none
 | k+1,x0,x3,x4=>if x4 < (x0.length:Int) then (if 0≤x4 then (if x4 < (x3.length:Int) then (zG.l0 k x0 (x3.set (x4:Int).toNat (rd x0 x4)) (wrap64 (x4+1))) else (none)) else (none)) else (some x3)
def zG.f (k:Nat) (l0:List Int):Option (List Int):=if 0≤(l0.length:Int) then (if ((l0.length:Int):Int).toNat≤281474976710656 then (zG.l0 k l0 (List.replicate ((l0.length:Int):Int).toNat 0) 0) else (none)) else (none)
set_option maxHeartbeats 8000000 in
set_option maxRecDepth 100000 in
theorem zG.calls (k:Nat) (A0:Option Addr) (c0:Nat) (l0:List Int) (r:List Int) (w:World) (hr0:Kd.C (Kd.int .u8) w A0 l0.length l0) (hc0:l0.length≤c0) (h:zG.f k l0=some r) :
  Calls Tryz.prog 26 #[.slice A0 l0.length c0] w fun e w'=>∃ v0_:Value,e=.returned (v0_)∧Kd.R (Kd.int .u8) 5 w' w.heap.size (fun _=>True) v0_ r∧Below w.heap.size w w':=by
 have HR0:=ak hr0;have HC0:=ak hc0;clear hr0 hc0;have HB:=ak (Below.refl w.heap.size w);have H:(if 0≤(l0.length:Int) then (if ((l0.length:Int):Int).toNat≤281474976710656 then (zG.l0 k l0 (List.replicate ((l0.length:Int):Int).toNat 0) 0) else (none)) else (none))=some r:=h;clear h;replace H:=ipE H;obtain ⟨c2b0,c2b1,H⟩:=H;replace H:=ipE H;obtain ⟨c3b0,c3b1,H⟩:=H;obtain ⟨yt,Qc⟩:∃ y_:List Int,y_=(List.replicate ((l0.length:Int):Int).toNat 0):=⟨_,rfl⟩;(try with_reducible replace H:=bnS H)
 (try rw [← Qc] at H)
 have Qu:=ak Qc;clear Qc;have H':=ak H;clear H;go_enter Tryz.func26,Tryz.ntmps26;go_wp2_with (((with_reducible refine gate_dst (N:=7) rfl ?_);refine Kd.R_make (Kd.int .u8) _ 5 rfl (N:=7) rfl 27 _ _ rfl (l0.length:Int) rfl rfl Tryz.underlying27 (.int .u8 0) 1 Jz rfl (by decide) (by omega) 0 (ok:=fun _=>True) (okp:=fun _=>True) rfl (fun _ hk=>hk) trivial (of_decide_eq_true (by first | (with_reducible assumption) | assumption)) (Nat.le_trans (Nat.mul_le_mul_right _ (of_decide_eq_true (by first | (with_reducible assumption) | assumption):(l0.length:Int).toNat≤281474976710656)) (by omega)) (Below.refl _ _) (Nat.le_refl _) ?_;intro Zy w4 ho5 hb hg_ hnew_;clear hg_ hnew_;(first | rw [← Qu.out] at ho5 | (simp only [Int.reduceToNat] at ho5;rw [← Qu.out] at ho5));have Qh:=ak (Kd.R_lower ho5 (below_size (bw HB.out)));replace HB:=b2 HB hb;clear hb ho5));go_loopg [4] k (fun kq v4 w'=>∃ (qY:List Int) (qR:Int),v4=.int .i64 qR∧Aside0 (zG.l0 kq l0 qY qR=some r)∧Aside0 (kq≤k)∧Aside0 (Kd.R (Kd.int .u8) 5 w' w.heap.size (fun _=>True) Zy qY)∧Aside0 (Below w.heap.size w w'))
 case atStart=>exact ⟨(yt),(0),o2,H',⟨Nat.le_refl _⟩,⟨rw_ Qh.out⟩,⟨bw HB.out⟩⟩
 case round =>
  clear H';(try clear c2b0)
  (try clear c2b1)
  (try clear c3b0)
  (try clear c3b1)
  obtain ⟨qY,qR,rfl,HA,HK1,HO_3,HB⟩:=hrel;cases gk with
  | zero=>exact absurd HA.out (by simp [zG.l0])
  | succ k1 =>
   have H:=HA.out;clear HA;simp only [zG.l0] at H;replace H:=ip H;obtain ⟨c6b0,H⟩ | ⟨c6b0,H⟩:=H
   ·replace H:=ipN H;obtain ⟨c7b0,H⟩:=H;replace H:=ipN H;obtain ⟨c8b0,H⟩:=H;obtain ⟨ZC,qba⟩:∃ y_:List Int,y_=(qY.set (qR:Int).toNat (rd l0 qR)):=⟨_,rfl⟩;(try with_reducible replace H:=bnS H)
    (try rw [← qba] at H)
    have qeh:=ak qba;clear qba;have H':=ak H;clear H;obtain ⟨qbK,rfl,QQ,XF,XE⟩:=el_int HR0 HB qR;have p9:0≤(qR:Int):=of_decide_eq_true (by first | (with_reducible assumption) | assumption);have q9:(qR:Int) < ((qY.length:Int):Int):=of_decide_eq_true (by first | (with_reducible assumption) | assumption);obtain ⟨go9,co9,eo9,gb9,gl9,cl9,HG9⟩:=Kd.R_form HO_3.out (by omega);(first | cases eo9 | (injection eo9 with ea_ en_ ec_;(first | subst ea_ | (injection ea_ with ea_;subst ea_));subst ec_;clear en_))
    have GB9:=ak gb9;have GG9:=ak HG9;clear gb9 gl9 HG9;obtain ⟨qoA,qoM⟩:=Kd.R_celln 0 HO_3.out (qR:Int) p9 q9;replace p9:=eq_true p9;replace q9:=eq_true q9;have qeD:=Kd.R_putg HO_3.out (qR:Int) (rd l0 qR);go_wp2_with (((with_reducible refine gate_store (t:=5) (p:=20) rfl ?_);refine store_event (t:=5) (p:=20) (v:=?vo_w11) (w1:=(wr.setCell ⟨go9,(qR:Int).toNat,none⟩ (.int .u8 (rd l0 qR)))) ?hg ?ho ?hn ?hr ?_;(case ho=>rfl);(case hg=>rfl);(case hn=>rfl);(case hr=>first | (go_simp;done) | (go_simp;rfl));intro w11 hw;have hg:wr.grownBy w11 (some go9):=(by rw [hw];exact qeD.2);have hp_:Kd.R (Kd.int .u8) 5 w11 w.heap.size (fun _=>True) (.slice (some ⟨go9,0,none⟩) qY.length co9) ZC:=(by rw [hw,qeh.out];exact qeD.1);clear qeD;replace HO_3:=ak (hp_);replace HB:=ak ((by rw [hw];exact below_set (HB.out) GB9.out:Below w.heap.size w w11));clear hg hw hp_));go_roundg k1;case measure=>have:=HK1.out;omega
    case rel=>exact ⟨(ZC),(wrap64 (qR+1)),o2,H',⟨by have:=HK1.out;omega⟩,⟨rw_ HO_3.out⟩,⟨bw HB.out⟩⟩
   ·obtain rfl:=Option.some.inj H;go_wp2;go_ret;exact ⟨_,o1,rw_ HO_3.out,bw HB.out⟩

def yn.f (l0:List Int) (a1:Int):Option (Int):=if (wrap64 (a1 - (l0.length:Int))) < 0 then (some (-1)) else (some (wrap64 (a1 - (l0.length:Int))))
set_option maxHeartbeats 8000000 in
set_option maxRecDepth 100000 in
theorem yn.calls (A0:Option Addr) (c0:Nat) (l0:List Int) (a1:Int) (r:Int) (w:World) (hr0:Kd.C (Kd.int .u8) w A0 l0.length l0) (hc0:l0.length≤c0) (h:yn.f l0 a1=some r) :
  Calls Tryz.prog 37 #[.slice A0 l0.length c0,.int .i64 a1] w fun e w'=>e=.returned (.int .i64 r)∧Drawn0 w w':=by
 have HR0:=ak hr0;have HC0:=ak hc0;clear hr0 hc0;have H:(if (wrap64 (a1 - (l0.length:Int))) < 0 then (some (-1)) else (some (wrap64 (a1 - (l0.length:Int)))))=some r:=h;clear h;replace H:=ip H;obtain ⟨c3b0,H⟩ | ⟨c3b0,H⟩:=H
 ·obtain rfl:=Option.some.inj H;go_enter Tryz.func37,Tryz.ntmps37;go_wp2;go_ret;exact ⟨o2,od⟩
 ·obtain rfl:=Option.some.inj H;go_enter Tryz.func37,Tryz.ntmps37;go_wp2;go_ret;exact ⟨o2,od⟩

def yq.l0:Nat→List (List Int)→Int→Int→Option (Int)
 | 0,_,_,_=>none
 | k+1,x0,x1,x5=>if x5 < (x0.length:Int) then (if 0≤x5 then ((yn.f (zi x0 x5) x1).bind fun qA=>(if qA < 0 then (some (-1)) else (yq.l0 k x0 qA (wrap64 (x5+1))))) else (none)) else (some x1)
def yq.f (k:Nat) (l0:List (List Int)) (a1:Int):Option (Int):=if (wrap64 (a1 - (l0.length:Int))) < 0 then (some (-1)) else (yq.l0 k l0 (wrap64 (a1 - (l0.length:Int))) 0)
set_option maxHeartbeats 8000000 in
set_option maxRecDepth 100000 in
theorem yq.calls (k:Nat) (A0:Option Addr) (c0:Nat) (l0:List (List Int)) (a1:Int) (r:Int) (w:World) (hr0:Kd.C (Kd.slice 5 (Kd.int .u8)) w A0 l0.length l0) (hc0:l0.length≤c0) (h:yq.f k l0 a1=some r) :
  Calls Tryz.prog 135 #[.slice A0 l0.length c0,.int .i64 a1] w fun e w'=>e=.returned (.int .i64 r)∧Drawn0 w w':=by
 have HR0:=ak hr0;have HC0:=ak hc0;clear hr0 hc0;have H:(if (wrap64 (a1 - (l0.length:Int))) < 0 then (some (-1)) else (yq.l0 k l0 (wrap64 (a1 - (l0.length:Int))) 0))=some r:=h;clear h;replace H:=ip H;obtain ⟨c3b0,H⟩ | ⟨c3b0,H⟩:=H
 ·obtain rfl:=Option.some.inj H;go_enter Tryz.func135,Tryz.ntmps135;go_wp2;go_ret;exact ⟨o2,od⟩
 ·have H':=ak H;clear H;go_enter Tryz.func135,Tryz.ntmps135;go_wp2;go_loopg [1,5] k (fun kq v1 v5 w'=>∃ (JO:Int) (qm:Int),v1=.int .i64 JO∧v5=.int .i64 qm∧Aside0 (yq.l0 kq l0 JO qm=some r)∧Aside0 (kq≤k)∧Drawn0 w w')
  case atStart=>exact ⟨(wrap64 (a1 - (l0.length:Int))),(0),o2,o2,H',⟨Nat.le_refl _⟩,od⟩
  case round =>
   clear H';(try clear c3b0)
   obtain ⟨JO,qm,rfl,rfl,HA,HK1,⟨m1,rfl⟩⟩:=hrel;cases gk with
   | zero=>exact absurd HA.out (by simp [yq.l0])
   | succ k1 =>
    have H:=HA.out;clear HA;simp only [yq.l0] at H;replace H:=ip H;obtain ⟨c4b0,H⟩ | ⟨c4b0,H⟩:=H
    ·replace H:=ipN H;obtain ⟨c5b0,H⟩:=H;replace H:=bnd H;obtain ⟨qA,A6,H⟩:=H;replace H:=ip H;obtain ⟨c7b0,H⟩ | ⟨c7b0,H⟩:=H
     ·obtain rfl:=Option.some.inj H;obtain ⟨jv,JG,JF,rfl,yd,yb,zI,JQ,JP⟩:=el0_L10 HR0 qm;go_wp2_with (((with_reducible refine gate_callee (f:=37) rfl ?_);refine glD 23 rfl rfl Tryz.func37 (yn.calls _ _ (zi l0 qm) JO qA _ (cd zI) yb.out A6.out) (fun nd=>?_)));go_ret;exact ⟨o2,od⟩
     ·have H':=ak H;clear H;obtain ⟨jv,JG,JF,rfl,yd,yb,zI,JQ,JP⟩:=el0_L10 HR0 qm;go_wp2_with (((with_reducible refine gate_callee (f:=37) rfl ?_);refine glD 23 rfl rfl Tryz.func37 (yn.calls _ _ (zi l0 qm) JO qA _ (cd zI) yb.out A6.out) (fun nd=>?_)));go_roundg k1;case measure=>have:=HK1.out;omega
      case rel=>exact ⟨(qA),(wrap64 (qm+1)),o2,o2,H',⟨by have:=HK1.out;omega⟩,od⟩
    ·obtain rfl:=Option.some.inj H;go_wp2;go_ret;exact ⟨o2,od⟩

def yz.l0:Nat→List (List Int)→List (List Int)→Int→Option ((List (List Int)))
 | 0,_,_,_=>none
 | k+1,x0,x3,x4=>if x4 < (x0.length:Int) then (if 0≤x4 then ((zG.f k (zi x0 x4)).bind fun qG=>(if x4 < (x3.length:Int) then (yz.l0 k x0 (x3.set (x4:Int).toNat qG) (wrap64 (x4+1))) else (none))) else (none)) else (some x3)
def yz.f (k:Nat) (l0:List (List Int)):Option ((List (List Int))):=if 0≤(l0.length:Int) then (if ((l0.length:Int):Int).toNat≤11728124029610 then (yz.l0 k l0 (List.replicate ((l0.length:Int):Int).toNat []) 0) else (none)) else (none)
set_option maxHeartbeats 8000000 in
set_option maxRecDepth 100000 in
theorem yz.calls (k:Nat) (A0:Option Addr) (c0:Nat) (l0:List (List Int)) (r:List (List Int)) (w:World) (hr0:Kd.C (Kd.slice 5 (Kd.int .u8)) w A0 l0.length l0) (hc0:l0.length≤c0) (h:yz.f k l0=some r) :
  Calls Tryz.prog 144 #[.slice A0 l0.length c0] w fun e w'=>∃ v0_:Value,e=.returned (v0_)∧Kd.S (Kd.slice 5 (Kd.int .u8)) 27 w' w.heap.size (fun _=>True) v0_ r∧Below w.heap.size w w':=by
 have HR0:=ak hr0;have HC0:=ak hc0;clear hr0 hc0;have HB:=ak (Below.refl w.heap.size w);have H:(if 0≤(l0.length:Int) then (if ((l0.length:Int):Int).toNat≤11728124029610 then (yz.l0 k l0 (List.replicate ((l0.length:Int):Int).toNat []) 0) else (none)) else (none))=some r:=h;clear h;replace H:=ipE H;obtain ⟨c2b0,c2b1,H⟩:=H;replace H:=ipE H;obtain ⟨c3b0,c3b1,H⟩:=H;obtain ⟨yt,Qc⟩:∃ y_:List (List Int),y_=(List.replicate ((l0.length:Int):Int).toNat []):=⟨_,rfl⟩;(try with_reducible replace H:=bnS H)
 (try rw [← Qc] at H)
 have Qu:=ak Qc;clear Qc;have H':=ak H;clear H;go_enter Tryz.func144,Tryz.ntmps144;go_wp2_with (((with_reducible refine gate_dst (N:=7) rfl ?_);refine Kd.S_make (Kd.slice 5 (Kd.int .u8)) _ 27 rfl (N:=7) rfl 57 _ _ rfl (l0.length:Int) rfl rfl Tryz.underlying57 (.slice none 0 0) 24 qno rfl (by decide) (by omega) [] (ok:=fun _=>True) (okp:=fun _=>True) ⟨_,rfl,Kd.R_nil _ _ _ _ _⟩ (fun _ hk=>hk) trivial (of_decide_eq_true (by first | (with_reducible assumption) | assumption)) (Nat.le_trans (Nat.mul_le_mul_right _ (of_decide_eq_true (by first | (with_reducible assumption) | assumption):(l0.length:Int).toNat≤11728124029610)) (by omega)) (Below.refl _ _) (Nat.le_refl _) ?_;intro Zy w4 ho5 hb hg_ hnew_;clear hg_ hnew_;(first | rw [← Qu.out] at ho5 | (simp only [Int.reduceToNat] at ho5;rw [← Qu.out] at ho5));have Qh:=ak (Kd.S_lower ho5 (below_size (bw HB.out)));replace HB:=b2 HB hb;clear hb ho5));go_loopg [4] k (fun kq v4 w'=>∃ (qY:List (List Int)) (qR:Int),v4=.int .i64 qR∧Aside0 (yz.l0 kq l0 qY qR=some r)∧Aside0 (kq≤k)∧Aside0 (Kd.S (Kd.slice 5 (Kd.int .u8)) 27 w' w.heap.size (fun _=>True) Zy qY)∧Aside0 (Below w.heap.size w w'))
 case atStart=>exact ⟨(yt),(0),o2,H',⟨Nat.le_refl _⟩,⟨sw Qh.out⟩,⟨bw HB.out⟩⟩
 case round =>
  clear H';(try clear c2b0)
  (try clear c2b1)
  (try clear c3b0)
  (try clear c3b1)
  obtain ⟨qY,qR,rfl,HA,HK1,HO_3,HB⟩:=hrel;cases gk with
  | zero=>exact absurd HA.out (by simp [yz.l0])
  | succ k1 =>
   have H:=HA.out;clear HA;simp only [yz.l0] at H;replace H:=ip H;obtain ⟨c6b0,H⟩ | ⟨c6b0,H⟩:=H
   ·replace H:=ipN H;obtain ⟨c7b0,H⟩:=H;replace H:=bnd H;obtain ⟨qG,A8,H⟩:=H;replace H:=ipN H;obtain ⟨c9b0,H⟩:=H;obtain ⟨qiK,qa8⟩:∃ y_:List (List Int),y_=(qY.set (qR:Int).toNat qG):=⟨_,rfl⟩;(try with_reducible replace H:=bnS H)
    (try rw [← qa8] at H)
    have qeW:=ak qa8;clear qa8;have H':=ak H;clear H;obtain ⟨qbK,qdm,qdh,rfl,QQ,Xq,Xp,XF,XE⟩:=el_L10 HR0 HB qR;go_wp2_with (first | ((with_reducible refine gate_callee (f:=26) rfl ?_);refine glG 20 rfl rfl Tryz.func26 (zG.calls k1 _ _ (zi l0 qR) qG _ (cv Xp HB) Xq.out A8.out) ?_;rintro e w11 ⟨ZU,rfl,ho0,hb⟩;refine ⟨_,rfl,?_⟩;replace HO_3:=ak (Kd.S_elder' (sw HO_3.out) (Kd.R_base ho0) hb);have qV:=ak (Kd.R_lower ho0 (below_size (bw HB.out)));replace HB:=b2 HB hb;(try clear hb);(try clear ho0);have p10:0≤(qR:Int):=of_decide_eq_true (by first | (with_reducible assumption) | assumption);have q10:(qR:Int) < ((qY.length:Int):Int):=of_decide_eq_true (by first | (with_reducible assumption) | assumption);obtain ⟨yf,Jv,XB,qcj,qeA,qkx,qct⟩:=Kd.S_form HO_3.out (by omega);(first | cases XB | (injection XB with ea_ en_ ec_;(first | subst ea_ | (injection ea_ with ea_;subst ea_));subst ec_;clear en_));have Xn:=ak qcj;have qkJ:=ak qct;clear qcj qeA qct;obtain ⟨_,qkz,qdA,qci,Zh,Zg,_,_⟩:=Kd.S_elem HO_3.out [] (qR:Int) p10 q10;obtain ⟨qcH,rfl,qhg⟩:=qci;have qeI:=Zh 0 _ rfl;have qeP:=Zg 0;(try simp only [show ((Kd.slice 5 (Kd.int .u8))).sz=1 from rfl,Nat.mul_one,Nat.add_zero] at qeI);(try simp only [show ((Kd.slice 5 (Kd.int .u8))).sz=1 from rfl,Nat.mul_one,Nat.add_zero] at qeP);(try clear qdA);(try clear Zh);(try clear Zg);(try clear qci);replace p10:=eq_true p10;replace q10:=eq_true q10;have n_:=ak (Kd.S_mono (ok':=(fun k_=>some k_≠(ZU:Value).ownBlock)) HO_3.out (fun k_ hk=>hk.2));clear HO_3;have HO_3:=n_;clear n_;have qcG:=ak (show Kd.S (Kd.slice 5 (Kd.int .u8)) 27 w11 w.heap.size (fun k_=>((fun _=>True)) k_∧¬ ((fun k_=>some k_=(ZU:Value).ownBlock)) k_) (.slice (some ⟨yf,0,none⟩) qY.length Jv) qY from (sw (Kd.S_mono HO_3.out (fun k_ hk=>⟨trivial,fun e_=>hk e_⟩))));obtain ⟨qs1,qky,qbJ,qch,JN,Zf,qnw,qnK⟩:=Kd.S_elem qcG.out [] (qR:Int) (of_decide_eq_true (by first | (with_reducible assumption) | assumption)) (by have h_:(qR:Int) < ((qY.length:Int):Int):=of_decide_eq_true (by first | (with_reducible assumption) | assumption);first | exact h_ | (have e_:=(Kd.S_reads' HO_3.out).1;omega) | simpa using h_);obtain ⟨qgA,rfl,qhf⟩:=qch;have qaH:=Kd.S_seg qnK (of_decide_eq_true (by first | (with_reducible assumption) | assumption)) (by have h_:(qR:Int) < ((qY.length:Int):Int):=of_decide_eq_true (by first | (with_reducible assumption) | assumption);first | exact h_ | (have e_:=(Kd.S_reads' HO_3.out).1;omega) | simpa using h_) (seg:=[ZU]) (j:=0) (show 1≤1 from by decide) (x':=qG) (Kd.M_row (Kd.R_mono (Kd.R_tight rfl (Kd.R_mono (ok':=fun k_=>((fun _=>True)) k_∧k_≠yf) (Kd.R_apart' (qV.out) (Kd.S_typed HO_3.out) (by decide)) (fun k_ hk=>⟨trivial,fun e_=>(hk.2) (by rw [e_];rfl)⟩))) (fun _ h_=>Or.inr (h_)))) (fun _ hk=>hk) (fun k_ hk_=>((Kd.R_mono (ok':=fun k_=>((fun _=>True)) k_∧k_≠yf) (Kd.R_apart' (qV.out) (Kd.S_typed HO_3.out) (by decide)) (fun k_ hk=>⟨trivial,fun e_=>(hk.2) (by rw [e_];rfl)⟩))).1 k_ hk_.symm);have qb0:=JN 0 _ rfl;(try simp only [show ((Kd.slice 5 (Kd.int .u8))).sz=1 from rfl,Nat.mul_one,Nat.add_zero] at qb0);have qb9:=Zf 0;(try simp only [show ((Kd.slice 5 (Kd.int .u8))).sz=1 from rfl,Nat.mul_one,Nat.add_zero] at qb9);(try clear qbJ);(try clear JN);(try clear Zf);(try clear qch);(try clear qnw);(try clear qnK);(try simp only [show ((Kd.slice 5 (Kd.int .u8))).sz=1 from rfl,Nat.mul_one,Nat.add_zero] at qaH)) | ((with_reducible refine gate_store (t:=27) (p:=21) rfl ?_);refine store_event (t:=27) (p:=21) (v:=?vo_w13) (w1:=(w11.setCell ⟨yf,(qR:Int).toNat,none⟩ (ZU))) ?hg ?ho ?hn ?hr ?_;(case ho=>rfl);(case hg=>rfl);(case hn=>rfl);(case hr=>first | (go_simp;done) | (go_simp;rfl) | ((first | (obtain ⟨A_,c_,e_⟩:=Kd.R_slice qV.out;rw [e_]) | (obtain ⟨A_,c_,e_⟩:=Kd.S_slice qV.out;rw [e_]));first | (go_simp;done) | (go_simp;rfl)));intro w13 hw;have hg:w11.grownBy w13 (some yf):=(by rw [hw];exact qaH.2);have hp_:Kd.S (Kd.slice 5 (Kd.int .u8)) 27 w13 w.heap.size (fun _=>True) (.slice (some ⟨yf,0,none⟩) qY.length Jv) qiK:=(by rw [hw,qeW.out];exact qaH.1);clear qaH;replace HO_3:=ak (hp_);replace HB:=ak ((by rw [hw];exact below_set (HB.out) Xn.out:Below w.heap.size w w13));clear qV;clear hg hw hp_));go_roundg k1;case measure=>have:=HK1.out;omega
    case rel=>exact ⟨(qiK),(wrap64 (qR+1)),o2,H',⟨by have:=HK1.out;omega⟩,⟨sw HO_3.out⟩,⟨bw HB.out⟩⟩
   ·obtain rfl:=Option.some.inj H;go_wp2;go_ret;exact ⟨_,o1,sw HO_3.out,bw HB.out⟩

def yr.l0:Nat→List (List Int)→List (List Int)→Int→Option (Bool)
 | 0,_,_,_=>none
 | k+1,x0,x1,x5=>if x5 < (x0.length:Int) then (if 0≤x5 then (if x5 < (x1.length:Int) then ((jt.f k (zi x0 x5) (zi x1 x5)).bind fun qW=>(if qW=true then (yr.l0 k x0 x1 (wrap64 (x5+1))) else (some false))) else (none)) else (none)) else (some true)
def yr.f (k:Nat) (l0:List (List Int)) (l1:List (List Int)):Option (Bool):=if (l0.length:Int)=(l1.length:Int) then (yr.l0 k l0 l1 0) else (some false)
set_option maxHeartbeats 8000000 in
set_option maxRecDepth 100000 in
theorem yr.calls (k:Nat) (A0:Option Addr) (c0:Nat) (l0:List (List Int)) (A1:Option Addr) (c1:Nat) (l1:List (List Int)) (r:Bool) (w:World) (hr0:Kd.C (Kd.slice 5 (Kd.int .u8)) w A0 l0.length l0) (hc0:l0.length≤c0) (hr1:Kd.C (Kd.slice 5 (Kd.int .u8)) w A1 l1.length l1) (hc1:l1.length≤c1) (h:yr.f k l0 l1=some r) :
  Calls Tryz.prog 156 #[.slice A0 l0.length c0,.slice A1 l1.length c1] w fun e w'=>e=.returned (.bool r)∧Drawn0 w w':=by
 have HR0:=ak hr0;have HC0:=ak hc0;clear hr0 hc0;have HR1:=ak hr1;have HC1:=ak hc1;clear hr1 hc1;have H:(if (l0.length:Int)=(l1.length:Int) then (yr.l0 k l0 l1 0) else (some false))=some r:=h;clear h;replace H:=ie H;obtain ⟨c3b0,c3b1,H⟩ | ⟨c3b0,c3b1,H⟩:=H
 ·have c3b2:(l0.length == l1.length)=true:=lnT c3b0;have H':=ak H;clear H;go_enter Tryz.func156,Tryz.ntmps156;go_wp2;repeat (go_quiet (fail);try go_wp2)
  go_loopg [5] k (fun kq v5 w'=>∃ (qm:Int),v5=.int .i64 qm∧Aside0 (yr.l0 kq l0 l1 qm=some r)∧Aside0 (kq≤k)∧Drawn0 w w')
  case atStart=>exact ⟨(0),o2,H',⟨Nat.le_refl _⟩,od⟩
  case round =>
   clear H';(try clear c1)
   (try clear c3b0)
   (try clear c3b1)
   (try clear c3b2)
   obtain ⟨qm,rfl,HA,HK1,⟨m1,rfl⟩⟩:=hrel;cases gk with
   | zero=>exact absurd HA.out (by simp [yr.l0])
   | succ k1 =>
    have H:=HA.out;clear HA;simp only [yr.l0] at H;replace H:=ip H;obtain ⟨c4b0,H⟩ | ⟨c4b0,H⟩:=H
    ·replace H:=ipN H;obtain ⟨c5b0,H⟩:=H;replace H:=ipN H;obtain ⟨c6b0,H⟩:=H;replace H:=bnd H;obtain ⟨qW,A7,H⟩:=H;replace H:=ib H;obtain ⟨rfl,H⟩ | ⟨rfl,H⟩:=H
     ·have H':=ak H;clear H;obtain ⟨jv,JG,JF,rfl,yd,yb,zI,JQ,JP⟩:=el0_L10 HR0 qm;obtain ⟨zf,Yr,Yn,rfl,yv,QK,yU,ZX,ZW⟩:=el0_L10 HR1 qm;go_wp2_with ((go_at_call 17;(with_reducible refine (jt.calls k1 _ _ (zi l0 qm) _ _ (zi l1 qm) true _ (cd zI) yb.out (cd yU) QK.out A7.out).mono ?_);rintro e w' ⟨rfl,⟨nd,rfl⟩⟩;(try first | exact ⟨rfl,_,World.drewN_drewN _ _ _⟩ | exact ⟨rfl,_,Eq.trans (World.drewN_drewN _ _ _) (congrArg (World.drewN _) (Nat.add_assoc _ _ _))⟩)));repeat (go_quiet ((go_at_call 17;(with_reducible refine (jt.calls k1 _ _ (zi l0 qm) _ _ (zi l1 qm) true _ (cd zI) yb.out (cd yU) QK.out A7.out).mono ?_);rintro e w' ⟨rfl,⟨nd,rfl⟩⟩;(try first | exact ⟨rfl,_,World.drewN_drewN _ _ _⟩ | exact ⟨rfl,_,Eq.trans (World.drewN_drewN _ _ _) (congrArg (World.drewN _) (Nat.add_assoc _ _ _))⟩)));try go_wp2_with ((go_at_call 17;(with_reducible refine (jt.calls k1 _ _ (zi l0 qm) _ _ (zi l1 qm) true _ (cd zI) yb.out (cd yU) QK.out A7.out).mono ?_);rintro e w' ⟨rfl,⟨nd,rfl⟩⟩;(try first | exact ⟨rfl,_,World.drewN_drewN _ _ _⟩ | exact ⟨rfl,_,Eq.trans (World.drewN_drewN _ _ _) (congrArg (World.drewN _) (Nat.add_assoc _ _ _))⟩))))
      go_roundg k1;case measure=>have:=HK1.out;omega
      case rel=>exact ⟨(wrap64 (qm+1)),o2,H',⟨by have:=HK1.out;omega⟩,od⟩
     ·obtain rfl:=Option.some.inj H;obtain ⟨jv,JG,JF,rfl,yd,yb,zI,JQ,JP⟩:=el0_L10 HR0 qm;obtain ⟨zf,Yr,Yn,rfl,yv,QK,yU,ZX,ZW⟩:=el0_L10 HR1 qm;go_wp2_with ((go_at_call 17;(with_reducible refine (jt.calls k1 _ _ (zi l0 qm) _ _ (zi l1 qm) false _ (cd zI) yb.out (cd yU) QK.out A7.out).mono ?_);rintro e w' ⟨rfl,⟨nd,rfl⟩⟩;(try first | exact ⟨rfl,_,World.drewN_drewN _ _ _⟩ | exact ⟨rfl,_,Eq.trans (World.drewN_drewN _ _ _) (congrArg (World.drewN _) (Nat.add_assoc _ _ _))⟩)));repeat (go_quiet ((go_at_call 17;(with_reducible refine (jt.calls k1 _ _ (zi l0 qm) _ _ (zi l1 qm) false _ (cd zI) yb.out (cd yU) QK.out A7.out).mono ?_);rintro e w' ⟨rfl,⟨nd,rfl⟩⟩;(try first | exact ⟨rfl,_,World.drewN_drewN _ _ _⟩ | exact ⟨rfl,_,Eq.trans (World.drewN_drewN _ _ _) (congrArg (World.drewN _) (Nat.add_assoc _ _ _))⟩)));try go_wp2_with ((go_at_call 17;(with_reducible refine (jt.calls k1 _ _ (zi l0 qm) _ _ (zi l1 qm) false _ (cd zI) yb.out (cd yU) QK.out A7.out).mono ?_);rintro e w' ⟨rfl,⟨nd,rfl⟩⟩;(try first | exact ⟨rfl,_,World.drewN_drewN _ _ _⟩ | exact ⟨rfl,_,Eq.trans (World.drewN_drewN _ _ _) (congrArg (World.drewN _) (Nat.add_assoc _ _ _))⟩))))
      go_ret;exact ⟨o2,od⟩
    ·obtain rfl:=Option.some.inj H;go_wp2;repeat (go_quiet (fail);try go_wp2)
     go_ret;exact ⟨o2,od⟩
 ·have c3b2:(l0.length == l1.length)=false:=lnF c3b0;obtain rfl:=Option.some.inj H;go_enter Tryz.func156,Tryz.ntmps156;go_wp2;repeat (go_quiet (fail);try go_wp2)
  go_ret;exact ⟨o2,od⟩

def yx.f (k:Nat) (qt:List (List Int)) (a1:Int):Option (Int):=(yq.f k qt a1).bind fun qA=>(if qA < 0 then (some (-1)) else (some qA))
set_option maxHeartbeats 8000000 in
set_option maxRecDepth 100000 in
theorem yx.calls (k:Nat) (zt:Option Addr) (zr:Nat) (qt:List (List Int)) (a1:Int) (r:Int) (w:World) (zw:Kd.C (Kd.slice 5 (Kd.int .u8)) w zt qt.length qt) (zE:qt.length≤zr) (h:yx.f k qt a1=some r) :
  Calls Tryz.prog 74 #[.agg #[.slice zt qt.length zr],.int .i64 a1] w fun e w'=>e=.returned (.int .i64 r)∧Below w.heap.size w w':=by
 have qgQ:=Tryz.underlying59;have jT:=ak zw;have jX:=ak zE;clear zw zE;have HB:=ak (Below.refl w.heap.size w);have H:((yq.f k qt a1).bind fun qA=>(if qA < 0 then (some (-1)) else (some qA)))=some r:=h;clear h;replace H:=bnd H;obtain ⟨qA,A3,H⟩:=H;replace H:=ip H;obtain ⟨c4b0,H⟩ | ⟨c4b0,H⟩:=H
 ·obtain rfl:=Option.some.inj H;go_enter Tryz.func74,Tryz.ntmps74;go_wp2_with (first | ((with_reducible refine gate_dst (N:=2) rfl ?_);refine bxd (N:=2) rfl HB ?_;clear HB;intro qc w5 hg HB qa qq hb;have qC:=qq;clear hb hg;obtain ⟨qhc,qg4⟩:=cells1 qa.out) | ((with_reducible refine gate_callee (f:=135) rfl ?_);refine glD 8 rfl rfl Tryz.func135 (yq.calls k _ _ qt a1 qA _ (cv jT HB) jX.out A3.out) (fun nd=>?_)));go_ret;exact ⟨o1,bs⟩
 ·obtain rfl:=Option.some.inj H;go_enter Tryz.func74,Tryz.ntmps74;go_wp2_with (first | ((with_reducible refine gate_dst (N:=2) rfl ?_);refine bxd (N:=2) rfl HB ?_;clear HB;intro qc w7 hg HB qa qq hb;have qC:=qq;clear hb hg;obtain ⟨qhb,qg3⟩:=cells1 qa.out) | ((with_reducible refine gate_callee (f:=135) rfl ?_);refine glD 8 rfl rfl Tryz.func135 (yq.calls k _ _ qt a1 qA _ (cv jT HB) jX.out A3.out) (fun nd=>?_)));go_ret;exact ⟨o1,bs⟩

def Jg.f (k:Nat) (qt:List (List Int)):Option ((List (List Int))):=(yz.f k qt).bind fun qE=>(some qE)
set_option maxHeartbeats 8000000 in
set_option maxRecDepth 100000 in
theorem Jg.calls (k:Nat) (zt:Option Addr) (zr:Nat) (qt:List (List Int)) (r:List (List Int)) (w:World) (zw:Kd.C (Kd.slice 5 (Kd.int .u8)) w zt qt.length qt) (zE:qt.length≤zr) (h:Jg.f k qt=some r) :
  Calls Tryz.prog 79 #[.agg #[.slice zt qt.length zr]] w fun e w'=>∃ v0_:Value,e=.returned (.agg #[v0_])∧Kd.S (Kd.slice 5 (Kd.int .u8)) 27 w' w.heap.size (fun _=>True) v0_ r∧Below w.heap.size w w':=by
 have qgQ:=Tryz.underlying59;have YO:=Tryz.underlying65;have jT:=ak zw;have jX:=ak zE;clear zw zE;have HB:=ak (Below.refl w.heap.size w);have H:((yz.f k qt).bind fun qE=>(some qE))=some r:=h;clear h;replace H:=bnd H;obtain ⟨qE,A2,H⟩:=H;obtain rfl:=Option.some.inj H;go_enter Tryz.func79,Tryz.ntmps79;go_wp2_with (first | ((with_reducible refine gate_dst (N:=1) rfl ?_);refine bxd (N:=1) rfl HB ?_;clear HB;intro qc w3 hg HB qa qq hb;have qC:=qq;clear hb hg) | ((with_reducible refine gate_dst (N:=2) rfl ?_);refine bxe (N:=2) rfl ?_;intro qp hg w4 hbox hb;have qi:=ak (hbox);have jB:=b3s hg bs;have yD:=jB;replace HB:=b2s bs hb;have qz:=b4 hg qa;have qB:=b5 hg qa;replace qa:=b1 qa hb;clear hb hbox hg) | ((with_reducible refine gate_dst (N:=3) rfl ?_);refine bxe (N:=3) rfl ?_;intro qD hg w5 hbox hb;have jd:=ak (hbox);have qbm:=b3s hg bs;have qe3:=qbm;replace HB:=b2s bs hb;have zz:=b4 hg qa;have Yp:=b5 hg qa;replace qa:=b1 qa hb;have ju:=b4 hg qi;have Yo:=b5 hg qi;replace qi:=b1 qi hb;clear hb hbox hg;have qkm:=qz.out;have qkk:=qB.out;have qju:=zz.out;have qjt:=Yp.out;obtain ⟨qhb,qg3⟩:=cells1 qa.out) | ((with_reducible refine gate_callee (f:=144) rfl ?_);refine glG 6 rfl rfl Tryz.func144 (yz.calls k _ _ qt qE _ (cv jT HB) jX.out A2.out) ?_;rintro e w9 ⟨qaR,rfl,ho0,hb⟩;refine ⟨_,rfl,?_⟩;have zY:=ak (Kd.S_lower ho0 (below_size bs));replace qa:=b1 qa hb;replace qi:=b1 qi hb;replace jd:=b1 jd hb;replace HB:=b2s bs hb;(try clear hb);(try clear ho0);obtain ⟨ZT,Jv,XB⟩:=Kd.S_slice zY.out;subst XB;have qgp:=Yo.out;have qgo:=ju.out;obtain ⟨qfT,qfH⟩:=cells1 jd.out;obtain ⟨qbB,qbA⟩:=cells1 qi.out));refine bodyPost_ret (results_cell_row rfl _ _ qp 65 #[.slice ZT qE.length Jv] (0,0) _ rfl (by (with_reducible repeat (first | refine blk_drewN ?_ _ | refine blk_drew ?_ | refine blk_alloc ?_ _));refine blk_put (cs:=#[.slice none 0 0]) ?_ 0 _ rfl;(with_reducible repeat (first | refine blk_drewN ?_ _ | refine blk_drew ?_ | refine blk_alloc ?_ _));refine blk_far ?_ ju.out _;(with_reducible repeat (first | refine blk_drewN ?_ _ | refine blk_drew ?_ | refine blk_alloc ?_ _));exact qi.out) Tryz.underlying65 rfl (by kernel_rfl)) rfl ?_;exact ⟨_,o1,by (with_reducible repeat (first | apply Kd.S_alloc | apply Kd.S_drewN | apply Kd.S_drew));exact Kd.S_mono (Kd.S_far (p:=⟨qp,0,none⟩) (Kd.S_far (p:=⟨qD,0,none⟩) (Kd.S_types (Kd.S_types zY.out jd.out (by decide)) qi.out (by decide)) (fun _ hk=>hk.1.2) (.slice ZT qE.length Jv)) (fun _ hk=>hk.2) (.slice ZT qE.length Jv)) (fun _ hk=>trivial),bs⟩

def zZ.f (k:Nat) (qt:List (List Int)) (jW:List (List Int)):Option (Bool):=(yr.f k qt jW).bind fun qW=>(if qW=true then (some true) else (some false))
set_option maxHeartbeats 8000000 in
set_option maxRecDepth 100000 in
theorem zZ.calls (k:Nat) (zt:Option Addr) (zr:Nat) (qt:List (List Int)) (YJ:Option Addr) (YA:Nat) (jW:List (List Int)) (r:Bool) (w:World) (zw:Kd.C (Kd.slice 5 (Kd.int .u8)) w zt qt.length qt) (zE:qt.length≤zr) (Yi:Kd.C (Kd.slice 5 (Kd.int .u8)) w YJ jW.length jW) (YI:jW.length≤YA) (h:zZ.f k qt jW=some r) :
  Calls Tryz.prog 91 #[.agg #[.slice zt qt.length zr],.agg #[.slice YJ jW.length YA]] w fun e w'=>e=.returned (.bool r)∧Below w.heap.size w w':=by
 have YO:=Tryz.underlying65;have jT:=ak zw;have jX:=ak zE;clear zw zE;have Zi:=ak Yi;have Zj:=ak YI;clear Yi YI;have HB:=ak (Below.refl w.heap.size w);have H:((yr.f k qt jW).bind fun qW=>(if qW=true then (some true) else (some false)))=some r:=h;clear h;replace H:=bnd H;obtain ⟨qW,A3,H⟩:=H;replace H:=ib H;obtain ⟨rfl,H⟩ | ⟨rfl,H⟩:=H
 ·obtain rfl:=Option.some.inj H;go_enter Tryz.func91,Tryz.ntmps91;go_wp2_with (first | ((with_reducible refine gate_dst (N:=2) rfl ?_);refine bxd (N:=2) rfl HB ?_;clear HB;intro qc w5 hg HB qa qq hb;have qC:=qq;clear hb hg) | ((with_reducible refine gate_dst (N:=3) rfl ?_);refine bxe (N:=3) rfl ?_;intro qp hg w6 hbox hb;have qi:=ak (hbox);have jB:=b3s hg bs;have yD:=jB;replace HB:=b2s bs hb;have qz:=b4 hg qa;have qB:=b5 hg qa;replace qa:=b1 qa hb;clear hb hbox hg;have qju:=qz.out;have qjt:=qB.out;obtain ⟨qhb,qg3⟩:=cells1 qa.out;obtain ⟨qjV,qjT⟩:=cells1 qi.out) | ((with_reducible refine gate_callee (f:=156) rfl ?_);refine glD 9 rfl rfl Tryz.func156 (yr.calls k _ _ qt _ _ jW true _ (cv jT HB) jX.out (cv Zi HB) Zj.out A3.out) (fun nd=>?_)));go_ret;exact ⟨o1,bs⟩
 ·obtain rfl:=Option.some.inj H;go_enter Tryz.func91,Tryz.ntmps91;go_wp2_with (first | ((with_reducible refine gate_dst (N:=2) rfl ?_);refine bxd (N:=2) rfl HB ?_;clear HB;intro qc w10 hg HB qa qq hb;have qC:=qq;clear hb hg) | ((with_reducible refine gate_dst (N:=3) rfl ?_);refine bxe (N:=3) rfl ?_;intro qp hg w11 hbox hb;have qi:=ak (hbox);have jB:=b3s hg bs;have yD:=jB;replace HB:=b2s bs hb;have qz:=b4 hg qa;have qB:=b5 hg qa;replace qa:=b1 qa hb;clear hb hbox hg;have qkT:=qz.out;have qkS:=qB.out;obtain ⟨qbB,qbA⟩:=cells1 qa.out;obtain ⟨qme,qlL⟩:=cells1 qi.out) | ((with_reducible refine gate_callee (f:=156) rfl ?_);refine glD 9 rfl rfl Tryz.func156 (yr.calls k _ _ qt _ _ jW false _ (cv jT HB) jX.out (cv Zi HB) Zj.out A3.out) (fun nd=>?_)));go_ret;exact ⟨o1,bs⟩

mutual
def jH.j0:Nat→List Int→Bool→Option (Bool)
 | 0,_,_=>none
 | k+1,x0,x11=>if x11=true then (some false) else (jH.l0 k x0 0)
def jH.l0:Nat→List Int→Int→Option (Bool)
 | 0,_,_=>none
 | k+1,x0,x3=>if x3 < (x0.length:Int) then (if 0≤x3 then (if (rd x0 x3) ≥ 97 then (if ((rd x0 x3)≤122) then (jH.l0 k x0 (wrap64 (x3+1))) else (if (rd x0 x3) ≥ 48 then (if ((rd x0 x3)≤57) then (jH.l0 k x0 (wrap64 (x3+1))) else (if (rd x0 x3)=45 then (jH.l0 k x0 (wrap64 (x3+1))) else (some false))) else (if (rd x0 x3)=45 then (jH.l0 k x0 (wrap64 (x3+1))) else (some false)))) else (if (rd x0 x3) ≥ 48 then (if ((rd x0 x3)≤57) then (jH.l0 k x0 (wrap64 (x3+1))) else (if (rd x0 x3)=45 then (jH.l0 k x0 (wrap64 (x3+1))) else (some false))) else (if (rd x0 x3)=45 then (jH.l0 k x0 (wrap64 (x3+1))) else (some false)))) else (none)) else (some true)
end
def jH.f (k:Nat) (l0:List Int):Option (Bool):=if (l0.length:Int) < 1 then (jH.j0 k l0 true) else (jH.j0 k l0 (decide ((l0.length:Int) > 15)))
set_option maxHeartbeats 8000000 in
set_option maxRecDepth 100000 in
theorem jH.calls (k:Nat) (A0:Option Addr) (c0:Nat) (l0:List Int) (r:Bool) (w:World) (hr0:Kd.C (Kd.int .u8) w A0 l0.length l0) (hc0:l0.length≤c0) (h:jH.f k l0=some r) :
  Calls Tryz.prog 42 #[.slice A0 l0.length c0] w fun e w'=>e=.returned (.bool r)∧Drawn0 w w':=by
 have HR0:=ak hr0;have HC0:=ak hc0;clear hr0 hc0;have H:(if (l0.length:Int) < 1 then (jH.j0 k l0 true) else (jH.j0 k l0 (decide ((l0.length:Int) > 15))))=some r:=h;clear h;have HC2:=ak H;clear H;go_enter Tryz.func42,Tryz.ntmps42;go_upto_region 1 with (fail)
 go_cut [11] (fun v11 wc=>∃ (kq:Nat) (qiT:Bool),v11=.bool qiT∧Aside0 (jH.j0 kq l0 qiT=some r)∧Aside0 (kq≤k)∧Drawn0 w wc)
 case first =>
  have H:=HC2.out;clear HC2;replace H:=ip H;obtain ⟨c3b0,H⟩ | ⟨c3b0,H⟩:=H
  ·have c3b1:decide (l0.length < 1)=true:=decide_eq_true (by have:=of_decide_eq_true c3b0;omega);(first | rw [c3b0] | (simp only [i64_w,i32_w];rw [c3b0]) | skip)
   have H':=ak H;clear H;go_wp2;go_meet
   case rel=>exact ⟨_,(true),o2,H',⟨o3⟩,od⟩
  ·have c3b1:decide (l0.length < 1)=false:=decide_eq_false (by have:=of_decide_eq_false c3b0;omega);(first | rw [c3b0] | (simp only [i64_w,i32_w];rw [c3b0]) | skip)
   have H':=ak H;clear H;go_wp2;go_meet
   case rel=>exact ⟨_,(decide ((l0.length:Int) > 15)),o2,H',⟨o3⟩,od⟩
 case rest =>
  clear HC2;obtain ⟨kq,qiT,rfl,HA,HJ1,⟨mc1,rfl⟩⟩:=hcut;cases kq with
  | zero=>exact absurd HA.out (by simp [jH.j0])
  | succ kj1 =>
   have H:=HA.out;clear HA;simp only [jH.j0] at H;replace H:=ib H;obtain ⟨rfl,H⟩ | ⟨rfl,H⟩:=H
   ·obtain rfl:=Option.some.inj H;go_wp2;go_ret;exact ⟨o2,od⟩
   ·have H':=ak H;clear H;go_wp2;go_loopg [3] kj1 (fun kq v3 w'=>∃ (QA:Int),v3=.int .i64 QA∧Aside0 (jH.l0 kq l0 QA=some r)∧Aside0 (kq≤kj1)∧Drawn0 w w')
    case atStart=>exact ⟨(0),o2,H',⟨Nat.le_refl _⟩,od⟩
    case round =>
     clear H';obtain ⟨QA,rfl,HA,HK2,⟨m2,rfl⟩⟩:=hrel;cases gk with
     | zero=>exact absurd HA.out (by simp [jH.l0])
     | succ k2 =>
      have H:=HA.out;clear HA;simp only [jH.l0] at H;replace H:=ip H;obtain ⟨c5b0,H⟩ | ⟨c5b0,H⟩:=H
      ·replace H:=ipN H;obtain ⟨c6b0,H⟩:=H;replace H:=ih H;obtain ⟨c7b0,H⟩ | ⟨c7b0,H⟩:=H
       ·replace H:=ip H;obtain ⟨c8b0,H⟩ | ⟨c8b0,H⟩:=H
        ·have H':=ak H;clear H;obtain ⟨jv,rfl,yd,JQ,JP⟩:=el0_int HR0 QA;obtain ⟨yv,ZX,ZW⟩:=el20_int HR0 QA;go_wp2;go_roundg k2;case measure=>have:=HJ1.out;have:=HK2.out;omega
         case rel=>exact ⟨(wrap64 (QA+1)),o2,H',⟨by have:=HJ1.out;have:=HK2.out;omega⟩,od⟩
        ·replace H:=ih H;obtain ⟨c9b0,H⟩ | ⟨c9b0,H⟩:=H
         ·replace H:=ip H;obtain ⟨c10b0,H⟩ | ⟨c10b0,H⟩:=H
          ·have H':=ak H;clear H;obtain ⟨jv,rfl,yd,JQ,JP⟩:=el0_int HR0 QA;obtain ⟨yv,ZX,ZW⟩:=el20_int HR0 QA;obtain ⟨qea,qjd,qjb⟩:=el20_int HR0 QA;obtain ⟨QQ,XF,XE⟩:=el20_int HR0 QA;go_wp2;go_roundg k2;case measure=>have:=HJ1.out;have:=HK2.out;omega
           case rel=>exact ⟨(wrap64 (QA+1)),o2,H',⟨by have:=HJ1.out;have:=HK2.out;omega⟩,od⟩
          ·replace H:=ie H;obtain ⟨c11b0,c11b1,H⟩ | ⟨c11b0,c11b1,H⟩:=H
           ·have H':=ak H;clear H;obtain ⟨jv,rfl,yd,JQ,JP⟩:=el0_int HR0 QA;obtain ⟨yv,ZX,ZW⟩:=el20_int HR0 QA;obtain ⟨qea,qjd,qjb⟩:=el20_int HR0 QA;obtain ⟨QQ,XF,XE⟩:=el20_int HR0 QA;obtain ⟨Qb,Zl,Zk⟩:=el20_int HR0 QA;go_wp2;go_roundg k2;case measure=>have:=HJ1.out;have:=HK2.out;omega
            case rel=>exact ⟨(wrap64 (QA+1)),o2,H',⟨by have:=HJ1.out;have:=HK2.out;omega⟩,od⟩
           ·obtain rfl:=Option.some.inj H;obtain ⟨jv,rfl,yd,JQ,JP⟩:=el0_int HR0 QA;obtain ⟨yv,ZX,ZW⟩:=el20_int HR0 QA;obtain ⟨qea,qjd,qjb⟩:=el20_int HR0 QA;obtain ⟨QQ,XF,XE⟩:=el20_int HR0 QA;obtain ⟨Qb,Zl,Zk⟩:=el20_int HR0 QA;go_wp2;go_ret;exact ⟨o2,od⟩
         ·replace H:=ie H;obtain ⟨c12b0,c12b1,H⟩ | ⟨c12b0,c12b1,H⟩:=H
          ·have H':=ak H;clear H;obtain ⟨jv,rfl,yd,JQ,JP⟩:=el0_int HR0 QA;obtain ⟨yv,ZX,ZW⟩:=el20_int HR0 QA;obtain ⟨qea,qjd,qjb⟩:=el20_int HR0 QA;obtain ⟨yN,ZR,ZQ⟩:=el20_int HR0 QA;go_wp2;go_roundg k2;case measure=>have:=HJ1.out;have:=HK2.out;omega
           case rel=>exact ⟨(wrap64 (QA+1)),o2,H',⟨by have:=HJ1.out;have:=HK2.out;omega⟩,od⟩
          ·obtain rfl:=Option.some.inj H;obtain ⟨jv,rfl,yd,JQ,JP⟩:=el0_int HR0 QA;obtain ⟨yv,ZX,ZW⟩:=el20_int HR0 QA;obtain ⟨qea,qjd,qjb⟩:=el20_int HR0 QA;obtain ⟨yN,ZR,ZQ⟩:=el20_int HR0 QA;go_wp2;go_ret;exact ⟨o2,od⟩
       ·replace H:=ih H;obtain ⟨c13b0,H⟩ | ⟨c13b0,H⟩:=H
        ·replace H:=ip H;obtain ⟨c14b0,H⟩ | ⟨c14b0,H⟩:=H
         ·have H':=ak H;clear H;obtain ⟨jv,rfl,yd,JQ,JP⟩:=el0_int HR0 QA;obtain ⟨JY,qad,qac⟩:=el20_int HR0 QA;obtain ⟨JI,XS,XQ⟩:=el20_int HR0 QA;go_wp2;go_roundg k2;case measure=>have:=HJ1.out;have:=HK2.out;omega
          case rel=>exact ⟨(wrap64 (QA+1)),o2,H',⟨by have:=HJ1.out;have:=HK2.out;omega⟩,od⟩
         ·replace H:=ie H;obtain ⟨c15b0,c15b1,H⟩ | ⟨c15b0,c15b1,H⟩:=H
          ·have H':=ak H;clear H;obtain ⟨jv,rfl,yd,JQ,JP⟩:=el0_int HR0 QA;obtain ⟨JY,qad,qac⟩:=el20_int HR0 QA;obtain ⟨JI,XS,XQ⟩:=el20_int HR0 QA;obtain ⟨qhO,qnl,qnk⟩:=el20_int HR0 QA;go_wp2;go_roundg k2;case measure=>have:=HJ1.out;have:=HK2.out;omega
           case rel=>exact ⟨(wrap64 (QA+1)),o2,H',⟨by have:=HJ1.out;have:=HK2.out;omega⟩,od⟩
          ·obtain rfl:=Option.some.inj H;obtain ⟨jv,rfl,yd,JQ,JP⟩:=el0_int HR0 QA;obtain ⟨JY,qad,qac⟩:=el20_int HR0 QA;obtain ⟨JI,XS,XQ⟩:=el20_int HR0 QA;obtain ⟨qhO,qnl,qnk⟩:=el20_int HR0 QA;go_wp2;go_ret;exact ⟨o2,od⟩
        ·replace H:=ie H;obtain ⟨c16b0,c16b1,H⟩ | ⟨c16b0,c16b1,H⟩:=H
         ·have H':=ak H;clear H;obtain ⟨jv,rfl,yd,JQ,JP⟩:=el0_int HR0 QA;obtain ⟨JY,qad,qac⟩:=el20_int HR0 QA;obtain ⟨qlf,qpB,qpA⟩:=el20_int HR0 QA;go_wp2;go_roundg k2;case measure=>have:=HJ1.out;have:=HK2.out;omega
          case rel=>exact ⟨(wrap64 (QA+1)),o2,H',⟨by have:=HJ1.out;have:=HK2.out;omega⟩,od⟩
         ·obtain rfl:=Option.some.inj H;obtain ⟨jv,rfl,yd,JQ,JP⟩:=el0_int HR0 QA;obtain ⟨JY,qad,qac⟩:=el20_int HR0 QA;obtain ⟨qlf,qpB,qpA⟩:=el20_int HR0 QA;go_wp2;go_ret;exact ⟨o2,od⟩
      ·obtain rfl:=Option.some.inj H;go_wp2;go_ret;exact ⟨o2,od⟩

def jG.l0:Nat→Int→List (List Int)→Option (Bool)
 | 0,_,_=>none
 | k+1,x3,jy=>if x3 < (jy.length:Int) then (if 0≤x3 then ((jH.f k (zi jy x3)).bind fun qW=>(if qW=true then (jG.l0 k (wrap64 (x3+1)) jy) else (some false))) else (none)) else (some true)
def jG.f (k:Nat) (qt:List (List Int)):Option (Bool):=if (qt.length:Int) > 6 then (some false) else (jG.l0 k 0 qt)
set_option maxHeartbeats 8000000 in
set_option maxRecDepth 100000 in
theorem jG.calls (k:Nat) (zt:Option Addr) (zr:Nat) (qt:List (List Int)) (r:Bool) (w:World) (zw:Kd.C (Kd.slice 5 (Kd.int .u8)) w zt qt.length qt) (zE:qt.length≤zr) (h:jG.f k qt=some r) :
  Calls Tryz.prog 119 #[.agg #[.slice zt qt.length zr]] w fun e w'=>e=.returned (.bool r)∧Below w.heap.size w w':=by
 have YO:=Tryz.underlying65;have jT:=ak zw;have jX:=ak zE;clear zw zE;have HB:=ak (Below.refl w.heap.size w);have H:(if (qt.length:Int) > 6 then (some false) else (jG.l0 k 0 qt))=some r:=h;clear h;replace H:=ig H;obtain ⟨c2b0,H⟩ | ⟨c2b0,H⟩:=H
 ·have c2b1:decide (6 < qt.length)=true:=decide_eq_true (by have:=of_decide_eq_true c2b0;omega);obtain rfl:=Option.some.inj H;go_enter Tryz.func119,Tryz.ntmps119;go_wp2_with (((with_reducible refine gate_dst (N:=1) rfl ?_);refine bxd (N:=1) rfl HB ?_;clear HB;intro qc w3 hg HB qa qq hb;have qC:=qq;clear hb hg;obtain ⟨YC,YB⟩:=cells1 qa.out));go_ret;exact ⟨o1,bs⟩
 ·have c2b1:decide (6 < qt.length)=false:=decide_eq_false (by have:=of_decide_eq_false c2b0;omega);have H':=ak H;clear H;go_enter Tryz.func119,Tryz.ntmps119;go_wp2_with (((with_reducible refine gate_dst (N:=1) rfl ?_);refine bxd (N:=1) rfl HB ?_;clear HB;intro qc w5 hg HB qa qq hb;have qC:=qq;clear hb hg;obtain ⟨qhc,qg4⟩:=cells1 qa.out));go_loopg [3] k (fun kq v3 w'=>∃ (qY:Int),v3=.int .i64 qY∧Aside0 (jG.l0 kq qY qt=some r)∧Aside0 (kq≤k)∧Aside0 (w'.heap[qc]?=some (.cells #[(.slice zt qt.length zr)] 65 (0,0)))∧Aside0 (Below w.heap.size w w'))
  case atStart=>exact ⟨(0),o2,H',⟨Nat.le_refl _⟩,⟨bk qa.out⟩,⟨bs⟩⟩
  case round =>
   clear H';(try clear c2b0)
   (try clear c2b1)
   (try clear qhc)
   (try clear qg4)
   obtain ⟨qY,rfl,HA,HK1,qa,HB⟩:=hrel;cases gk with
   | zero=>exact absurd HA.out (by simp [jG.l0])
   | succ k1 =>
    have H:=HA.out;clear HA;simp only [jG.l0] at H;replace H:=ip H;obtain ⟨c7b0,H⟩ | ⟨c7b0,H⟩:=H
    ·replace H:=ipN H;obtain ⟨c8b0,H⟩:=H;replace H:=bnd H;obtain ⟨qW,A9,H⟩:=H;replace H:=ib H;obtain ⟨rfl,H⟩ | ⟨rfl,H⟩:=H
     ·have H':=ak H;clear H;obtain ⟨qbW,qbV⟩:=cells1 qa.out;obtain ⟨zf,Yr,Yn,rfl,yv,QK,yU,ZX,ZW⟩:=el_L10 jT HB qY;go_wp2_with (((with_reducible refine gate_callee (f:=42) rfl ?_);refine glD 20 rfl rfl Tryz.func42 (jH.calls k1 _ _ (zi qt qY) true _ (cv yU HB) QK.out A9.out) (fun nd=>?_)));go_roundg k1;case measure=>have:=HK1.out;omega
      case rel=>exact ⟨(wrap64 (qY+1)),o2,H',⟨by have:=HK1.out;omega⟩,⟨bk qa.out⟩,⟨bs⟩⟩
     ·obtain rfl:=Option.some.inj H;obtain ⟨qfT,qfH⟩:=cells1 qa.out;obtain ⟨zf,Yr,Yn,rfl,yv,QK,yU,ZX,ZW⟩:=el_L10 jT HB qY;go_wp2_with (((with_reducible refine gate_callee (f:=42) rfl ?_);refine glD 20 rfl rfl Tryz.func42 (jH.calls k1 _ _ (zi qt qY) false _ (cv yU HB) QK.out A9.out) (fun nd=>?_)));go_ret;exact ⟨o1,bs⟩
    ·obtain rfl:=Option.some.inj H;obtain ⟨qbB,qbA⟩:=cells1 qa.out;go_wp2;go_ret;exact ⟨o1,bs⟩


set_option maxHeartbeats 2000000 in
theorem Xs.calls (g:Nat) (lb:Array Value) (eg:∀ args w,(callFunc g args).run Tryz.prog w=.ok (.enter g args) w) (p:Int→Bool) (A0:Option Addr) (c0:Nat) (l0:List Int) (w:World) (hr0:Kd.C (Kd.int .u8) w A0 l0.length l0)
  (hp:∀ (W:World) (x:Int),Below w.heap.size w W→Calls Tryz.prog g (#[.int .u8 x] ++ lb) W fun e w'=>e=.returned (.bool (p x))∧Below w.heap.size w w') :
  Calls Tryz.prog 217 #[.slice A0 l0.length c0,.func (.func g) #[] lb] w fun e w'=>(∃ r:Int,e=.returned (.int .i64 r)∧decide (0≤r)=l0.any p)∧Below w.heap.size w w':=by
 have HR0:=ak hr0;have hbig:l0.length≤9223372036854775807:=hr0.2.1;have HP:=ak hp;clear hr0 hp;go_enter Tryz.func217,Tryz.ntmps217;go_wp2;go_loopg [5,8] l0.length (fun gg _ s8 wr=>∃ kk:Nat,kk≤l0.length∧l0.length - kk≤gg∧s8=.int .i64 kk∧Aside0 (Below w.heap.size w wr)∧Aside0 ((l0.take kk).any p=false))
 case atStart=>exact ⟨0,Nat.zero_le _,by omega,rfl,⟨Below.refl _ w⟩,⟨by simp⟩⟩
 case round =>
  obtain ⟨kk,hkk,hg,rfl,BW,AF⟩:=hrel;by_cases hlt:kk < l0.length
  ·obtain ⟨ad,rfl,hcell⟩:=Kd.at_int HR0.out (kk:Int) (by omega) (by omega);replace hcell:=pw_cell_below BW.out hcell;have hcall:=HP.out wr (rd l0 (kk:Int)) BW.out
   have hx:Aside0 (l0.take (kk+1)=l0.take kk ++ [rd l0 (kk:Int)]):=⟨by
    rw [List.take_succ_eq_append_getElem hlt];simp [rd,List.getD_eq_getElem?_getD,hlt]⟩
   generalize rd l0 (kk:Int)=y at hcell hcall hx;have hltz:(kk:Int) < (l0.length:Int):=by omega
   rw [show ((kk:Int)).toNat=kk from by omega] at hcell;cases hq:p y with
   | true =>
    rw [hq] at hcall;go_wp2_with (go_at_fn g;refine hcall.mono ?_;rintro e w' ⟨rfl,hb'⟩);go_ret;refine ⟨⟨_,rfl,?_⟩,hb'⟩
    have:l0.any p=true:=by
     rw [← List.take_append_drop (kk+1) l0,hx.out];simp [hq]
    rw [this];simp
   | false =>
    rw [hq] at hcall;go_wp2_with (go_at_fn g;refine hcall.mono ?_;rintro e w' ⟨rfl,hb'⟩);go_roundg (l0.length - (kk+1));case measure=>omega
    case rel=>exact ⟨kk+1,by omega,by omega,by go_num,⟨hb'⟩,⟨by rw [hx.out,List.any_append,AF.out];simp [hq]⟩⟩
  ·have hltz:¬ (kk:Int) < (l0.length:Int):=by omega
   go_wp2;go_ret;refine ⟨⟨_,rfl,?_⟩,BW.out⟩;have:=AF.out;rw [List.take_of_length_le (by omega)] at this;rw [this];rfl


set_option maxHeartbeats 2000000 in
theorem YL.calls (g:Nat) (lb:Array Value) (eg:∀ args w,(callFunc g args).run Tryz.prog w=.ok (.enter g args) w) (p:Int→Bool) (A0:Option Addr) (c0:Nat) (l0:List Int) (w:World) (hr0:Kd.C (Kd.int .u8) w A0 l0.length l0)
  (hp:∀ (W:World) (x:Int),Below w.heap.size w W→Calls Tryz.prog g (#[.int .u8 x] ++ lb) W fun e w'=>e=.returned (.bool (p x))∧Below w.heap.size w w') :
  Calls Tryz.prog 203 #[.slice A0 l0.length c0,.func (.func g) #[] lb] w fun e w'=>e=.returned (.bool (l0.any p))∧Below w.heap.size w w':=by
 have hc:=Xs.calls g lb eg p A0 c0 l0 w hr0 hp;generalize l0.any p=q at hc ⊢;clear hp hr0;go_enter Tryz.func203,Tryz.ntmps203;go_wp2_with (go_at_call 217;refine hc.mono ?_;rintro e w' ⟨⟨r,rfl,rfl⟩,hb'⟩);go_ret;exact ⟨rfl,hb'⟩


set_option maxHeartbeats 2000000 in
theorem qbo.calls (g:Nat) (lb:Array Value) (eg:∀ args w,(callFunc g args).run Tryz.prog w=.ok (.enter g args) w) (q:Bool) (x:Int) (B:Nat) (w w0:World) (hv:w.cell? ⟨B,0,none⟩=some (.func (.func g) #[] lb))
  (hp:Calls Tryz.prog g (#[.int .u8 x] ++ lb) w fun e w'=>e=.returned (.bool q)∧Below w0.heap.size w0 w') :
  Calls Tryz.prog 204 #[.int .u8 x,.pointer (some ⟨B,0,none⟩)] w fun e w'=>e=.returned (.bool (!q))∧Below w0.heap.size w0 w':=by
 go_enter Tryz.func204,Tryz.ntmps204;go_wp2_with (go_at_fn g;refine hp.mono ?_;rintro e w' ⟨rfl,hb'⟩);go_ret;exact ⟨rfl,hb'⟩


set_option maxHeartbeats 2000000 in
theorem qbR.calls (g:Nat) (lb:Array Value) (eg:∀ args w,(callFunc g args).run Tryz.prog w=.ok (.enter g args) w) (p:Int→Bool) (A0:Option Addr) (c0:Nat) (l0:List Int) (w:World) (hr0:Kd.C (Kd.int .u8) w A0 l0.length l0)
  (hp:∀ (W:World) (x:Int),Below w.heap.size w W→Calls Tryz.prog g (#[.int .u8 x] ++ lb) W fun e w'=>e=.returned (.bool (p x))∧Below W.heap.size W w') :
  Calls Tryz.prog 157 #[.slice A0 l0.length c0,.func (.func g) #[] lb] w fun e w'=>e=.returned (.bool (l0.all p))∧Below w.heap.size w w':=by
 have eg2:∀ args w,(callFunc 204 args).run Tryz.prog w=.ok (.enter 204 args) w:=enters_of Tryz.func204 (by kernel_rfl) rfl;have hb0:Below w.heap.size w (w.alloc (.cells #[.func (.func g) #[] lb] 182)):=below_alloc (Below.refl _ _) _
 have hc:=YL.calls 204 #[.pointer (some ⟨w.heap.size,0,none⟩)] eg2 (fun x=>!p x) A0 c0 l0 (w.alloc (.cells #[.func (.func g) #[] lb] 182)) (Kd.C_below hr0 hb0) (fun W x hW =>
  qbo.calls g lb eg (p x) x w.heap.size W _ ((hW.cell (p:=⟨w.heap.size,0,none⟩) (by simp)).trans (by simp)) ((hp W x (hb0.trans (hW.mono (by simp)))).mono fun e w' ⟨he,hb⟩=>⟨he,hW.trans (hb.mono hW.size)⟩))
 have e1:(l0.any fun x=>!p x) = !(l0.all p):=by rw [List.all_eq_not_any_not];simp
 rw [e1] at hc;generalize l0.all p=q at hc ⊢;clear hp hr0 e1;go_enter Tryz.func157,Tryz.ntmps157;go_wp2_with (go_at_call 203;refine hc.mono ?_;rintro e w' ⟨rfl,hb'⟩);go_ret;exact ⟨by simp,hb0.trans (hb'.mono (by simp))⟩

def YN.f (a0:Int):Option (Bool):=if a0 ≥ 97 then (if a0≤122 then (some true) else (if a0 ≥ 48 then (if a0≤57 then (some true) else (some (a0 == 45))) else (some (a0 == 45)))) else (if a0 ≥ 48 then (if a0≤57 then (some true) else (some (a0 == 45))) else (some (a0 == 45)))
set_option maxHeartbeats 8000000 in
set_option maxRecDepth 100000 in
theorem YN.calls (a0:Int) (r:Bool) (w:World) (h:YN.f a0=some r) :
  Calls Tryz.prog 158 #[.int .u8 a0] w fun e w'=>e=.returned (.bool r)∧Drawn0 w w':=by
 have H:(if a0 ≥ 97 then (if a0≤122 then (some true) else (if a0 ≥ 48 then (if a0≤57 then (some true) else (some (a0 == 45))) else (some (a0 == 45)))) else (if a0 ≥ 48 then (if a0≤57 then (some true) else (some (a0 == 45))) else (some (a0 == 45))))=some r:=h;clear h;replace H:=ih H;obtain ⟨c2b0,H⟩ | ⟨c2b0,H⟩:=H
 ·replace H:=ip H;obtain ⟨c3b0,H⟩ | ⟨c3b0,H⟩:=H
  ·obtain rfl:=Option.some.inj H;go_enter Tryz.func158,Tryz.ntmps158;go_wp2;go_ret;exact ⟨o2,od⟩
  ·replace H:=ih H;obtain ⟨c4b0,H⟩ | ⟨c4b0,H⟩:=H
   ·replace H:=ip H;obtain ⟨c5b0,H⟩ | ⟨c5b0,H⟩:=H
    ·obtain rfl:=Option.some.inj H;go_enter Tryz.func158,Tryz.ntmps158;go_wp2;go_ret;exact ⟨o2,od⟩
    ·obtain rfl:=Option.some.inj H;go_enter Tryz.func158,Tryz.ntmps158;go_wp2;go_ret;exact ⟨o2,od⟩
   ·obtain rfl:=Option.some.inj H;go_enter Tryz.func158,Tryz.ntmps158;go_wp2;go_ret;exact ⟨o2,od⟩
 ·replace H:=ih H;obtain ⟨c6b0,H⟩ | ⟨c6b0,H⟩:=H
  ·replace H:=ip H;obtain ⟨c7b0,H⟩ | ⟨c7b0,H⟩:=H
   ·obtain rfl:=Option.some.inj H;go_enter Tryz.func158,Tryz.ntmps158;go_wp2;go_ret;exact ⟨o2,od⟩
   ·obtain rfl:=Option.some.inj H;go_enter Tryz.func158,Tryz.ntmps158;go_wp2;go_ret;exact ⟨o2,od⟩
  ·obtain rfl:=Option.some.inj H;go_enter Tryz.func158,Tryz.ntmps158;go_wp2;go_ret;exact ⟨o2,od⟩


def jY.byte (x:Int):Bool:=(decide (97≤x) && decide (x≤122)) || (decide (48≤x) && decide (x≤57)) || x == 45
theorem jY.byte_f (x:Int):YN.f x=some (jY.byte x):=by
 unfold YN.f jY.byte;by_cases h1:97≤x <;> by_cases h2:x≤122 <;> by_cases h3:48≤x <;> by_cases h4:x≤57 <;> by_cases h5:x=45 <;> simp [*] <;> omega
def jY.v (l0:List Int):Bool:=decide (1≤l0.length) && decide (l0.length≤15) && l0.all jY.byte
def jY.f (l0:List Int):Option Bool:=some (jY.v l0)
set_option maxHeartbeats 8000000 in
set_option maxRecDepth 100000 in
theorem jY.calls (A0:Option Addr) (c0:Nat) (l0:List Int) (r:Bool) (w:World) (hr0:Kd.C (Kd.int .u8) w A0 l0.length l0) (hc0:l0.length≤c0) (h:jY.f l0=some r) :
  Calls Tryz.prog 96 #[.slice A0 l0.length c0] w fun e w'=>e=.returned (.bool r)∧Below w.heap.size w w':=by
 have eg:∀ args w,(callFunc 158 args).run Tryz.prog w=.ok (.enter 158 args) w:=enters_of Tryz.func158 (by kernel_rfl) rfl;have ha:=qbR.calls 158 #[] eg jY.byte A0 c0 l0 w hr0 (fun W x hW=>(YN.calls x _ W (jY.byte_f x)).mono fun e w' ⟨he,hd⟩=>⟨he,hd.below⟩);have hbig:l0.length≤9223372036854775807:=hr0.2.1;have hrv:r=jY.v l0:=(Option.some.inj h).symm;subst hrv;unfold jY.v;clear h hr0;generalize l0.all jY.byte=q at ha ⊢;by_cases h1:1≤l0.length
 ·by_cases h2:l0.length≤15
  ·rw [decide_eq_true h1,decide_eq_true h2];simp only [Bool.true_and];go_enter Tryz.func96,Tryz.ntmps96;go_wp2_with (first | (go_at_call 157;refine ha.mono ?_;rintro e w' ⟨rfl,hb'⟩) | (go_at_call 44;go_in));go_ret;exact ⟨rfl,hb'⟩
  ·rw [decide_eq_true h1,decide_eq_false h2];simp only [Bool.and_false,Bool.false_and];go_enter Tryz.func96,Tryz.ntmps96;go_wp2;go_ret;exact ⟨rfl,Below.refl _ _⟩
 ·rw [decide_eq_false h1];simp only [Bool.false_and];go_enter Tryz.func96,Tryz.ntmps96;go_wp2;go_ret;exact ⟨rfl,Below.refl _ _⟩


set_option maxHeartbeats 2000000 in
theorem Xr.calls (g:Nat) (lb:Array Value) (eg:∀ args w,(callFunc g args).run Tryz.prog w=.ok (.enter g args) w) (p:List Int→Bool) (A0:Option Addr) (c0:Nat) (l0:List (List Int)) (w:World) (hr0:Kd.C (Kd.slice 5 (Kd.int .u8)) w A0 l0.length l0)
  (hp:∀ (W:World) (A:Option Addr) (c:Nat) (x:List Int),Below w.heap.size w W→Kd.C (Kd.int .u8) W A x.length x→x.length≤c→Calls Tryz.prog g (#[.slice A x.length c] ++ lb) W fun e w'=>e=.returned (.bool (p x))∧Below w.heap.size w w') :
  Calls Tryz.prog 218 #[.slice A0 l0.length c0,.func (.func g) #[] lb] w fun e w'=>(∃ r:Int,e=.returned (.int .i64 r)∧decide (0≤r)=l0.any p)∧Below w.heap.size w w':=by
 have HR0:=ak hr0;have hbig:l0.length≤9223372036854775807:=hr0.2.1;have HP:=ak hp;clear hr0 hp;go_enter Tryz.func218,Tryz.ntmps218;go_wp2;go_loopg [5,8] l0.length (fun gg _ s8 wr=>∃ kk:Nat,kk≤l0.length∧l0.length - kk≤gg∧s8=.int .i64 kk∧Aside0 (Below w.heap.size w wr)∧Aside0 ((l0.take kk).any p=false))
 case atStart=>exact ⟨0,Nat.zero_le _,by omega,rfl,⟨Below.refl _ w⟩,⟨by simp⟩⟩
 case round =>
  obtain ⟨kk,hkk,hg,rfl,BW,AF⟩:=hrel;by_cases hlt:kk < l0.length
  ·obtain ⟨ad,A1,c1,rfl,hcell,hc1,hC1⟩:=qcq HR0.out (kk:Int) (by omega) (by omega);replace hcell:=pw_cell_below BW.out hcell;have hcall:=HP.out wr A1 c1 (zi l0 (kk:Int)) BW.out (Kd.C_below hC1 BW.out) hc1
   have hx:Aside0 (l0.take (kk+1)=l0.take kk ++ [zi l0 (kk:Int)]):=⟨by
    rw [List.take_succ_eq_append_getElem hlt];simp [zi,List.getD_eq_getElem?_getD,hlt]⟩
   clear hC1 hc1;generalize zi l0 (kk:Int)=y at hcell hcall hx;have hltz:(kk:Int) < (l0.length:Int):=by omega
   rw [show ((kk:Int)).toNat=kk from by omega] at hcell;cases hq:p y with
   | true =>
    rw [hq] at hcall;go_wp2_with (go_at_fn g;refine hcall.mono ?_;rintro e w' ⟨rfl,hb'⟩);go_ret;refine ⟨⟨_,rfl,?_⟩,hb'⟩
    have:l0.any p=true:=by
     rw [← List.take_append_drop (kk+1) l0,hx.out];simp [hq]
    rw [this];simp
   | false =>
    rw [hq] at hcall;go_wp2_with (go_at_fn g;refine hcall.mono ?_;rintro e w' ⟨rfl,hb'⟩);go_roundg (l0.length - (kk+1));case measure=>omega
    case rel=>exact ⟨kk+1,by omega,by omega,by go_num,⟨hb'⟩,⟨by rw [hx.out,List.any_append,AF.out];simp [hq]⟩⟩
  ·have hltz:¬ (kk:Int) < (l0.length:Int):=by omega
   go_wp2;go_ret;refine ⟨⟨_,rfl,?_⟩,BW.out⟩;have:=AF.out;rw [List.take_of_length_le (by omega)] at this;rw [this];rfl


set_option maxHeartbeats 2000000 in
theorem YK.calls (g:Nat) (lb:Array Value) (eg:∀ args w,(callFunc g args).run Tryz.prog w=.ok (.enter g args) w) (p:List Int→Bool) (A0:Option Addr) (c0:Nat) (l0:List (List Int)) (w:World) (hr0:Kd.C (Kd.slice 5 (Kd.int .u8)) w A0 l0.length l0)
  (hp:∀ (W:World) (A:Option Addr) (c:Nat) (x:List Int),Below w.heap.size w W→Kd.C (Kd.int .u8) W A x.length x→x.length≤c→Calls Tryz.prog g (#[.slice A x.length c] ++ lb) W fun e w'=>e=.returned (.bool (p x))∧Below w.heap.size w w') :
  Calls Tryz.prog 206 #[.slice A0 l0.length c0,.func (.func g) #[] lb] w fun e w'=>e=.returned (.bool (l0.any p))∧Below w.heap.size w w':=by
 have hc:=Xr.calls g lb eg p A0 c0 l0 w hr0 hp;generalize l0.any p=q at hc ⊢;clear hp hr0;go_enter Tryz.func206,Tryz.ntmps206;go_wp2_with (go_at_call 218;refine hc.mono ?_;rintro e w' ⟨⟨r,rfl,rfl⟩,hb'⟩);go_ret;exact ⟨rfl,hb'⟩


set_option maxHeartbeats 2000000 in
theorem qbn.calls (g:Nat) (lb:Array Value) (eg:∀ args w,(callFunc g args).run Tryz.prog w=.ok (.enter g args) w) (q:Bool) (A:Option Addr) (n c:Nat) (B:Nat) (w w0:World) (hv:w.cell? ⟨B,0,none⟩=some (.func (.func g) #[] lb))
  (hp:Calls Tryz.prog g (#[.slice A n c] ++ lb) w fun e w'=>e=.returned (.bool q)∧Below w0.heap.size w0 w') :
  Calls Tryz.prog 207 #[.slice A n c,.pointer (some ⟨B,0,none⟩)] w fun e w'=>e=.returned (.bool (!q))∧Below w0.heap.size w0 w':=by
 go_enter Tryz.func207,Tryz.ntmps207;go_wp2_with (go_at_fn g;refine hp.mono ?_;rintro e w' ⟨rfl,hb'⟩);go_ret;exact ⟨rfl,hb'⟩


set_option maxHeartbeats 2000000 in
theorem qbQ.calls (g:Nat) (lb:Array Value) (eg:∀ args w,(callFunc g args).run Tryz.prog w=.ok (.enter g args) w) (p:List Int→Bool) (A0:Option Addr) (c0:Nat) (l0:List (List Int)) (w:World) (hr0:Kd.C (Kd.slice 5 (Kd.int .u8)) w A0 l0.length l0)
  (hp:∀ (W:World) (A:Option Addr) (c:Nat) (x:List Int),Below w.heap.size w W→Kd.C (Kd.int .u8) W A x.length x→x.length≤c→Calls Tryz.prog g (#[.slice A x.length c] ++ lb) W fun e w'=>e=.returned (.bool (p x))∧Below W.heap.size W w') :
  Calls Tryz.prog 171 #[.slice A0 l0.length c0,.func (.func g) #[] lb] w fun e w'=>e=.returned (.bool (l0.all p))∧Below w.heap.size w w':=by
 have eg2:∀ args w,(callFunc 207 args).run Tryz.prog w=.ok (.enter 207 args) w:=enters_of Tryz.func207 (by kernel_rfl) rfl;have hb0:Below w.heap.size w (w.alloc (.cells #[.func (.func g) #[] lb] 56)):=below_alloc (Below.refl _ _) _
 have hc:=YK.calls 207 #[.pointer (some ⟨w.heap.size,0,none⟩)] eg2 (fun x=>!p x) A0 c0 l0 (w.alloc (.cells #[.func (.func g) #[] lb] 56)) (Kd.C_below hr0 hb0) (fun W A c x hW hC hc =>
  qbn.calls g lb eg (p x) A x.length c w.heap.size W _ ((hW.cell (p:=⟨w.heap.size,0,none⟩) (by simp)).trans (by simp)) ((hp W A c x (hb0.trans (hW.mono (by simp))) hC hc).mono fun e w' ⟨he,hb⟩=>⟨he,hW.trans (hb.mono hW.size)⟩))
 have e1:(l0.any fun x=>!p x) = !(l0.all p):=by rw [List.all_eq_not_any_not];simp
 rw [e1] at hc;generalize l0.all p=q at hc ⊢;clear hp hr0 e1;go_enter Tryz.func171,Tryz.ntmps171;go_wp2_with (go_at_call 206;refine hc.mono ?_;rintro e w' ⟨rfl,hb'⟩);go_ret;exact ⟨by simp,hb0.trans (hb'.mono (by simp))⟩


def qS.v (l:List (List Int)):Bool:=decide (l.length≤6) && l.all jY.v
def qS.f (l:List (List Int)):Option Bool:=some (qS.v l)
set_option maxHeartbeats 8000000 in
set_option maxRecDepth 100000 in
theorem qS.calls (zt:Option Addr) (zr:Nat) (qt:List (List Int)) (r:Bool) (w:World) (zw:Kd.C (Kd.slice 5 (Kd.int .u8)) w zt qt.length qt) (zE:qt.length≤zr) (h:qS.f qt=some r) :
  Calls Tryz.prog 126 #[.agg #[.slice zt qt.length zr]] w fun e w'=>e=.returned (.bool r)∧Below w.heap.size w w':=by
 have hu:=Tryz.underlying65;have eg:∀ args w,(callFunc 96 args).run Tryz.prog w=.ok (.enter 96 args) w:=enters_of Tryz.func96 (by kernel_rfl) rfl;have hb0:Below w.heap.size w (w.alloc (.cells #[.slice zt qt.length zr] 65)):=below_alloc (Below.refl _ _) _;have ha:=fun (W:World) (hW:Below w.heap.size w W)=>qbQ.calls 96 #[] eg jY.v zt zr qt W (Kd.C_below zw hW) (fun W2 A c x hW2 hC hc=>(jY.calls A c x _ W2 hC hc rfl))
 have hbig:qt.length≤9223372036854775807:=zw.2.1;have hrv:r=qS.v qt:=(Option.some.inj h).symm;subst hrv;unfold qS.v;clear h zw;have HA:=ak ha;clear ha;generalize qt.all jY.v=q at HA ⊢;by_cases h2:qt.length≤6
 ·rw [decide_eq_true h2];simp only [Bool.true_and];go_enter Tryz.func126,Tryz.ntmps126;go_wp2_with (go_at_call 171;refine (HA.out _ hb0).mono ?_;rintro e w' ⟨rfl,hb'⟩);go_ret;exact ⟨rfl,hb0.trans (hb'.mono (by simp))⟩
 ·rw [decide_eq_false h2];simp only [Bool.false_and];go_enter Tryz.func126,Tryz.ntmps126;go_wp2;go_ret;exact ⟨rfl,hb0⟩

def Qz.l0:Nat→List Int→List Int→Int→Option (List Int)
 | 0,_,_,_=>none
 | k+1,x0,x3,x4=>if x4 < (x0.length:Int) then (if 0≤x4 then (if x4 < (x3.length:Int) then (Qz.l0 k x0 (x3.set (x4:Int).toNat (rd x0 x4)) (wrap64 (x4+1))) else (none)) else (none)) else (some x3)
def Qz.f (k:Nat) (l0:List Int):Option (List Int):=if 0≤(l0.length:Int) then (if ((l0.length:Int):Int).toNat≤35184372088832 then (Qz.l0 k l0 (List.replicate ((l0.length:Int):Int).toNat 0) 0) else (none)) else (none)
set_option maxHeartbeats 8000000 in
set_option maxRecDepth 100000 in
theorem Qz.calls (k:Nat) (A0:Option Addr) (c0:Nat) (l0:List Int) (r:List Int) (w:World) (hr0:Kd.C (Kd.int .i64) w A0 l0.length l0) (hc0:l0.length≤c0) (h:Qz.f k l0=some r) :
  Calls Tryz.prog 161 #[.slice A0 l0.length c0] w fun e w'=>∃ v0_:Value,e=.returned (v0_)∧Kd.R (Kd.int .i64) 3 w' w.heap.size (fun _=>True) v0_ r∧Below w.heap.size w w':=by
 have HR0:=ak hr0;have HC0:=ak hc0;clear hr0 hc0;have HB:=ak (Below.refl w.heap.size w);have H:(if 0≤(l0.length:Int) then (if ((l0.length:Int):Int).toNat≤35184372088832 then (Qz.l0 k l0 (List.replicate ((l0.length:Int):Int).toNat 0) 0) else (none)) else (none))=some r:=h;clear h;replace H:=ipE H;obtain ⟨c2b0,c2b1,H⟩:=H;replace H:=ipE H;obtain ⟨c3b0,c3b1,H⟩:=H;obtain ⟨yt,Qc⟩:∃ y_:List Int,y_=(List.replicate ((l0.length:Int):Int).toNat 0):=⟨_,rfl⟩;(try with_reducible replace H:=bnS H)
 (try rw [← Qc] at H)
 have Qu:=ak Qc;clear Qc;have H':=ak H;clear H;go_enter Tryz.func161,Tryz.ntmps161;go_wp2_with (((with_reducible refine gate_dst (N:=7) rfl ?_);refine Kd.R_make (Kd.int .i64) _ 3 rfl (N:=7) rfl 103 _ _ rfl (l0.length:Int) rfl rfl Tryz.underlying103 (.int .i64 0) 8 qoz rfl (by decide) (by omega) 0 (ok:=fun _=>True) (okp:=fun _=>True) rfl (fun _ hk=>hk) trivial (of_decide_eq_true (by first | (with_reducible assumption) | assumption)) (Nat.le_trans (Nat.mul_le_mul_right _ (of_decide_eq_true (by first | (with_reducible assumption) | assumption):(l0.length:Int).toNat≤35184372088832)) (by omega)) (Below.refl _ _) (Nat.le_refl _) ?_;intro Zy w4 ho5 hb hg_ hnew_;clear hg_ hnew_;(first | rw [← Qu.out] at ho5 | (simp only [Int.reduceToNat] at ho5;rw [← Qu.out] at ho5));have Qh:=ak (Kd.R_lower ho5 (below_size (bw HB.out)));replace HB:=b2 HB hb;clear hb ho5));go_loopg [4] k (fun kq v4 w'=>∃ (qY:List Int) (qR:Int),v4=.int .i64 qR∧Aside0 (Qz.l0 kq l0 qY qR=some r)∧Aside0 (kq≤k)∧Aside0 (Kd.R (Kd.int .i64) 3 w' w.heap.size (fun _=>True) Zy qY)∧Aside0 (Below w.heap.size w w'))
 case atStart=>exact ⟨(yt),(0),o2,H',⟨Nat.le_refl _⟩,⟨rw_ Qh.out⟩,⟨bw HB.out⟩⟩
 case round =>
  clear H';(try clear c2b0)
  (try clear c2b1)
  (try clear c3b0)
  (try clear c3b1)
  obtain ⟨qY,qR,rfl,HA,HK1,HO_3,HB⟩:=hrel;cases gk with
  | zero=>exact absurd HA.out (by simp [Qz.l0])
  | succ k1 =>
   have H:=HA.out;clear HA;simp only [Qz.l0] at H;replace H:=ip H;obtain ⟨c6b0,H⟩ | ⟨c6b0,H⟩:=H
   ·replace H:=ipN H;obtain ⟨c7b0,H⟩:=H;replace H:=ipN H;obtain ⟨c8b0,H⟩:=H;obtain ⟨ZC,qba⟩:∃ y_:List Int,y_=(qY.set (qR:Int).toNat (rd l0 qR)):=⟨_,rfl⟩;(try with_reducible replace H:=bnS H)
    (try rw [← qba] at H)
    have qeh:=ak qba;clear qba;have H':=ak H;clear H;obtain ⟨qbK,rfl,QQ,XF,XE⟩:=el_int HR0 HB qR;have p9:0≤(qR:Int):=of_decide_eq_true (by first | (with_reducible assumption) | assumption);have q9:(qR:Int) < ((qY.length:Int):Int):=of_decide_eq_true (by first | (with_reducible assumption) | assumption);obtain ⟨go9,co9,eo9,gb9,gl9,cl9,HG9⟩:=Kd.R_form HO_3.out (by omega);(first | cases eo9 | (injection eo9 with ea_ en_ ec_;(first | subst ea_ | (injection ea_ with ea_;subst ea_));subst ec_;clear en_))
    have GB9:=ak gb9;have GG9:=ak HG9;clear gb9 gl9 HG9;obtain ⟨qoA,qoM⟩:=Kd.R_celln 0 HO_3.out (qR:Int) p9 q9;replace p9:=eq_true p9;replace q9:=eq_true q9;have qeD:=Kd.R_putg HO_3.out (qR:Int) (rd l0 qR);go_wp2_with (((with_reducible refine gate_store (t:=3) (p:=20) rfl ?_);refine store_event (t:=3) (p:=20) (v:=?vo_w11) (w1:=(wr.setCell ⟨go9,(qR:Int).toNat,none⟩ (.int .i64 (rd l0 qR)))) ?hg ?ho ?hn ?hr ?_;(case ho=>rfl);(case hg=>rfl);(case hn=>rfl);(case hr=>first | (go_simp;done) | (go_simp;rfl));intro w11 hw;have hg:wr.grownBy w11 (some go9):=(by rw [hw];exact qeD.2);have hp_:Kd.R (Kd.int .i64) 3 w11 w.heap.size (fun _=>True) (.slice (some ⟨go9,0,none⟩) qY.length co9) ZC:=(by rw [hw,qeh.out];exact qeD.1);clear qeD;replace HO_3:=ak (hp_);replace HB:=ak ((by rw [hw];exact below_set (HB.out) GB9.out:Below w.heap.size w w11));clear hg hw hp_));go_roundg k1;case measure=>have:=HK1.out;omega
    case rel=>exact ⟨(ZC),(wrap64 (qR+1)),o2,H',⟨by have:=HK1.out;omega⟩,⟨rw_ HO_3.out⟩,⟨bw HB.out⟩⟩
   ·obtain rfl:=Option.some.inj H;go_wp2;go_ret;exact ⟨_,o1,rw_ HO_3.out,bw HB.out⟩

def Yk.f (k:Nat) (qt:List (List Int)) (qd:Int) (qf:Int) (qg:Int) (qH:List (List Int)) (qe:List Int) (qb:List Int):Option ((List (List Int)) × Int × Int × Int × (List (List Int)) × List Int × List Int):=(Jg.f k qt).bind fun qE=>((Jg.f k qH).bind fun jl=>((zG.f k qe).bind fun zu=>((Qz.f k qb).bind fun yO=>(some (qE,qd,qf,qg,jl,zu,yO)))))
set_option maxHeartbeats 8000000 in
set_option maxRecDepth 100000 in
theorem Yk.calls (k:Nat) (zt:Option Addr) (zr:Nat) (qt:List (List Int)) (qd:Int) (qf:Int) (qg:Int) (yC:Option Addr) (yA:Nat) (qH:List (List Int)) (jS:Option Addr) (jq:Nat) (qe:List Int) (qN:Option Addr) (qM:Nat) (qb:List Int) (r1:List (List Int)) (r2:Int) (r3:Int) (r4:Int) (r5:List (List Int)) (r6:List Int) (r7:List Int) (w:World) (zw:Kd.C (Kd.slice 5 (Kd.int .u8)) w zt qt.length qt) (zE:qt.length≤zr) (Qf:Kd.C (Kd.slice 5 (Kd.int .u8)) w yC qH.length qH) (Qg:qH.length≤yA) (zl:Kd.C (Kd.int .u8) w jS qe.length qe) (zm:qe.length≤jq) (jo:Kd.C (Kd.int .i64) w qN qb.length qb) (jp:qb.length≤qM) (h:Yk.f k qt qd qf qg qH qe qb=some (r1,r2,r3,r4,r5,r6,r7)) :
  Calls Tryz.prog 104 #[.agg #[.slice zt qt.length zr,.int .i64 qd,.int .i64 qf,.int .i64 qg,.slice yC qH.length yA,.slice jS qe.length jq,.slice qN qb.length qM]] w fun e w'=>∃ v0_ v4_ v5_ v6_:Value,e=.returned (.agg #[v0_,.int .i64 r2,.int .i64 r3,.int .i64 r4,v4_,v5_,v6_])∧Kd.S (Kd.slice 5 (Kd.int .u8)) 27 w' w.heap.size (fun k_=>some k_≠(v4_:Value).ownBlock∧some k_≠(v5_:Value).ownBlock) v0_ r1∧Kd.S (Kd.slice 5 (Kd.int .u8)) 27 w' w.heap.size (fun k_=>some k_≠(v0_:Value).ownBlock∧some k_≠(v5_:Value).ownBlock) v4_ r5∧Kd.R (Kd.int .u8) 5 w' w.heap.size (fun _=>True) v5_ r6∧Kd.R (Kd.int .i64) 3 w' w.heap.size (fun _=>True) v6_ r7∧Below w.heap.size w w':=by
 have qeJ:=Tryz.underlying114;have YH:=Tryz.underlying105;have qgQ:=Tryz.underlying59;have YO:=Tryz.underlying65;have jT:=ak zw;have jX:=ak zE;clear zw zE;have yV:=ak Qf;have yW:=ak Qg;clear Qf Qg;have jP:=ak zl;have zB:=ak zm;clear zl zm;have qK:=ak jo;have qQ:=ak jp;clear jo jp;have HB:=ak (Below.refl w.heap.size w);have H:((Jg.f k qt).bind fun qE=>((Jg.f k qH).bind fun jl=>((zG.f k qe).bind fun zu=>((Qz.f k qb).bind fun yO=>(some (qE,qd,qf,qg,jl,zu,yO))))))=some (r1,r2,r3,r4,r5,r6,r7):=h;clear h;replace H:=bnd H;obtain ⟨qE,A2,H⟩:=H;replace H:=bnd H;obtain ⟨jl,A3,H⟩:=H;replace H:=bnd H;obtain ⟨zu,A4,H⟩:=H;replace H:=bnd H;obtain ⟨yO,A5,H⟩:=H;simp only [Option.some.injEq,Prod.mk.injEq] at H;obtain ⟨rfl,rfl,rfl,rfl,rfl,rfl,rfl⟩:=H;go_enter Tryz.func104,Tryz.ntmps104;go_wp2_with (first | ((with_reducible refine gate_dst (N:=1) rfl ?_);refine bxd (N:=1) rfl HB ?_;clear HB;intro qc w6 hg HB qa qq hb;have qC:=qq;clear hb hg) | ((with_reducible refine gate_dst (N:=2) rfl ?_);refine bxe (N:=2) rfl ?_;intro qp hg w7 hbox hb;have qi:=ak (hbox);have jB:=b3s hg bs;have yD:=jB;replace HB:=b2s bs hb;have qz:=b4 hg qa;have qB:=b5 hg qa;replace qa:=b1 qa hb;clear hb hbox hg) | ((with_reducible refine gate_dst (N:=3) rfl ?_);refine bxe (N:=3) rfl ?_;intro qD hg w8 hbox hb;have jd:=ak (hbox);have qbm:=b3s hg bs;have qe3:=qbm;replace HB:=b2s bs hb;have zz:=b4 hg qa;have Yp:=b5 hg qa;replace qa:=b1 qa hb;have ju:=b4 hg qi;have Yo:=b5 hg qi;replace qi:=b1 qi hb;clear hb hbox hg;have qkl:=qz.out;have qkj:=qB.out;have que:=zz.out;have qtD:=Yp.out;obtain ⟨_,_,_,_,_,_,_,_,_,_,_,_,_,_⟩:=cells7 qa.out) | ((with_reducible refine gate_callee (f:=79) rfl ?_);refine glG 6 rfl rfl Tryz.func79 (Jg.calls k _ _ qt qE _ (cv jT HB) jX.out A2.out) ?_;rintro e w12 ⟨qaR,rfl,ho0,hb⟩;refine ⟨_,rfl,?_⟩;have zY:=ak (Kd.S_lower ho0 (below_size bs));replace qa:=b1 qa hb;replace qi:=b1 qi hb;replace jd:=b1 jd hb;replace HB:=b2s bs hb;(try clear hb);(try clear ho0);obtain ⟨JL,JK,qf6⟩:=Kd.S_slice zY.out;subst qf6;have qeO:=Yo.out;have qeN:=ju.out;obtain ⟨_,_,_,_,_,_,_,_,_,_,_,_,_,_⟩:=cells7 jd.out;obtain ⟨_,_,_,_,_,_,_,_,_,_,_,_,_,_⟩:=cells7 qa.out) | ((with_reducible refine gate_callee (f:=79) rfl ?_);refine glG 19 rfl rfl Tryz.func79 (Jg.calls k _ _ qH jl _ (Kd.C_below yV.out bs) yW.out A3.out) ?_;rintro e w17 ⟨qi2,rfl,ho0,hb⟩;refine ⟨_,rfl,?_⟩;have Jk:=ak (Kd.S_lower (Kd.S_new' ho0 (Kd.S_lt (by (with_reducible repeat (first | apply Kd.S_alloc | apply Kd.S_drewN | apply Kd.S_drew));exact (Kd.S_mono (Kd.S_far (p:=⟨qD,3,none⟩) (Kd.S_far (p:=⟨qD,2,none⟩) (Kd.S_far (p:=⟨qD,1,none⟩) (Kd.S_far (p:=⟨qD,0,none⟩) (Kd.S_types zY.out jd.out (by decide)) (fun _ hk=>hk.2) (.slice JL qE.length JK)) (fun _ hk=>hk.2) (.int .i64 qd)) (fun _ hk=>hk.2) (.int .i64 qf)) (fun _ hk=>hk.2) (.int .i64 qg)) (fun _ h_=>h_.1))))) (below_size bs));replace zY:=ak (Kd.S_elder' (by (with_reducible repeat (first | apply Kd.S_alloc | apply Kd.S_drewN | apply Kd.S_drew));exact (Kd.S_mono (Kd.S_far (p:=⟨qD,3,none⟩) (Kd.S_far (p:=⟨qD,2,none⟩) (Kd.S_far (p:=⟨qD,1,none⟩) (Kd.S_far (p:=⟨qD,0,none⟩) (Kd.S_types zY.out jd.out (by decide)) (fun _ hk=>hk.2) (.slice JL qE.length JK)) (fun _ hk=>hk.2) (.int .i64 qd)) (fun _ hk=>hk.2) (.int .i64 qf)) (fun _ hk=>hk.2) (.int .i64 qg)) (fun _ h_=>h_.1))) (Kd.S_base ho0) hb);replace qa:=ak (blk_below (g:=qc) (o:=.cells #[.slice zt qt.length zr,.int .i64 qd,.int .i64 qf,.int .i64 qg,.slice yC qH.length yA,.slice jS qe.length jq,.slice qN qb.length qM] 114 (0,0)) (by (with_reducible repeat (first | refine blk_drewN ?_ _ | refine blk_drew ?_ | refine blk_alloc ?_ _));refine blk_far ?_ zz.out _;(with_reducible repeat (first | refine blk_drewN ?_ _ | refine blk_drew ?_ | refine blk_alloc ?_ _));refine blk_far ?_ zz.out _;(with_reducible repeat (first | refine blk_drewN ?_ _ | refine blk_drew ?_ | refine blk_alloc ?_ _));refine blk_far ?_ zz.out _;(with_reducible repeat (first | refine blk_drewN ?_ _ | refine blk_drew ?_ | refine blk_alloc ?_ _));refine blk_far ?_ zz.out _;(with_reducible repeat (first | refine blk_drewN ?_ _ | refine blk_drew ?_ | refine blk_alloc ?_ _));exact qa.out) hb);replace qi:=ak (blk_below (g:=qp) (o:=.cells #[.slice none 0 0,.int .i64 0,.int .i64 0,.int .i64 0,.slice none 0 0,.slice none 0 0,.slice none 0 0] 105 (0,0)) (by (with_reducible repeat (first | refine blk_drewN ?_ _ | refine blk_drew ?_ | refine blk_alloc ?_ _));refine blk_far ?_ ju.out _;(with_reducible repeat (first | refine blk_drewN ?_ _ | refine blk_drew ?_ | refine blk_alloc ?_ _));refine blk_far ?_ ju.out _;(with_reducible repeat (first | refine blk_drewN ?_ _ | refine blk_drew ?_ | refine blk_alloc ?_ _));refine blk_far ?_ ju.out _;(with_reducible repeat (first | refine blk_drewN ?_ _ | refine blk_drew ?_ | refine blk_alloc ?_ _));refine blk_far ?_ ju.out _;(with_reducible repeat (first | refine blk_drewN ?_ _ | refine blk_drew ?_ | refine blk_alloc ?_ _));exact qi.out) hb);replace jd:=ak (blk_below (g:=qD) (o:=.cells #[.slice JL qE.length JK,.int .i64 qd,.int .i64 qf,.int .i64 qg,.slice none 0 0,.slice none 0 0,.slice none 0 0] 105 (0,0)) (by (with_reducible repeat (first | refine blk_drewN ?_ _ | refine blk_drew ?_ | refine blk_alloc ?_ _));refine blk_put (cs:=#[.slice JL qE.length JK,.int .i64 qd,.int .i64 qf,.int .i64 0,.slice none 0 0,.slice none 0 0,.slice none 0 0]) ?_ 3 _ rfl;(with_reducible repeat (first | refine blk_drewN ?_ _ | refine blk_drew ?_ | refine blk_alloc ?_ _));refine blk_put (cs:=#[.slice JL qE.length JK,.int .i64 qd,.int .i64 0,.int .i64 0,.slice none 0 0,.slice none 0 0,.slice none 0 0]) ?_ 2 _ rfl;(with_reducible repeat (first | refine blk_drewN ?_ _ | refine blk_drew ?_ | refine blk_alloc ?_ _));refine blk_put (cs:=#[.slice JL qE.length JK,.int .i64 0,.int .i64 0,.int .i64 0,.slice none 0 0,.slice none 0 0,.slice none 0 0]) ?_ 1 _ rfl;(with_reducible repeat (first | refine blk_drewN ?_ _ | refine blk_drew ?_ | refine blk_alloc ?_ _));refine blk_put (cs:=#[.slice none 0 0,.int .i64 0,.int .i64 0,.int .i64 0,.slice none 0 0,.slice none 0 0,.slice none 0 0]) ?_ 0 _ rfl;(with_reducible repeat (first | refine blk_drewN ?_ _ | refine blk_drew ?_ | refine blk_alloc ?_ _));exact jd.out) hb);replace HB:=b2s bs hb;(try clear hb);(try clear ho0);obtain ⟨Jr,Jn,qf3⟩:=Kd.S_slice Jk.out;subst qf3;obtain ⟨_,_,_,_,_,_,_,_,_,_,_,_,_,_⟩:=cells7 jd.out;obtain ⟨_,_,_,_,_,_,_,_,_,_,_,_,_,_⟩:=cells7 qa.out) | ((with_reducible refine gate_callee (f:=26) rfl ?_);refine glG 23 rfl rfl Tryz.func26 (zG.calls k _ _ qe zu _ (Kd.C_below jP.out bs) zB.out A4.out) ?_;rintro e w21 ⟨qgE,rfl,ho0,hb⟩;refine ⟨_,rfl,?_⟩;replace zY:=ak (Kd.S_elder' (by (with_reducible repeat (first | apply Kd.S_alloc | apply Kd.S_drewN | apply Kd.S_drew));exact (Kd.S_mono (Kd.S_far (p:=⟨qD,4,none⟩) (Kd.S_types zY.out jd.out (by decide)) (fun _ hk=>hk.2) (.slice Jr jl.length Jn)) (fun _ h_=>h_.1))) (Kd.R_base ho0) hb);replace Jk:=ak (Kd.S_elder' (by (with_reducible repeat (first | apply Kd.S_alloc | apply Kd.S_drewN | apply Kd.S_drew));exact (Kd.S_mono (Kd.S_far (p:=⟨qD,4,none⟩) (Kd.S_types Jk.out jd.out (by decide)) (fun _ hk=>hk.2) (.slice Jr jl.length Jn)) (fun _ h_=>h_.1))) (Kd.R_base ho0) hb);have Za:=ak (Kd.R_lower ho0 (below_size bs));replace qa:=ak (blk_below (g:=qc) (o:=.cells #[.slice zt qt.length zr,.int .i64 qd,.int .i64 qf,.int .i64 qg,.slice yC qH.length yA,.slice jS qe.length jq,.slice qN qb.length qM] 114 (0,0)) (by (with_reducible repeat (first | refine blk_drewN ?_ _ | refine blk_drew ?_ | refine blk_alloc ?_ _));refine blk_far ?_ zz.out _;(with_reducible repeat (first | refine blk_drewN ?_ _ | refine blk_drew ?_ | refine blk_alloc ?_ _));exact qa.out) hb);replace qi:=ak (blk_below (g:=qp) (o:=.cells #[.slice none 0 0,.int .i64 0,.int .i64 0,.int .i64 0,.slice none 0 0,.slice none 0 0,.slice none 0 0] 105 (0,0)) (by (with_reducible repeat (first | refine blk_drewN ?_ _ | refine blk_drew ?_ | refine blk_alloc ?_ _));refine blk_far ?_ ju.out _;(with_reducible repeat (first | refine blk_drewN ?_ _ | refine blk_drew ?_ | refine blk_alloc ?_ _));exact qi.out) hb);replace jd:=ak (blk_below (g:=qD) (o:=.cells #[.slice JL qE.length JK,.int .i64 qd,.int .i64 qf,.int .i64 qg,.slice Jr jl.length Jn,.slice none 0 0,.slice none 0 0] 105 (0,0)) (by (with_reducible repeat (first | refine blk_drewN ?_ _ | refine blk_drew ?_ | refine blk_alloc ?_ _));refine blk_put (cs:=#[.slice JL qE.length JK,.int .i64 qd,.int .i64 qf,.int .i64 qg,.slice none 0 0,.slice none 0 0,.slice none 0 0]) ?_ 4 _ rfl;(with_reducible repeat (first | refine blk_drewN ?_ _ | refine blk_drew ?_ | refine blk_alloc ?_ _));exact jd.out) hb);replace HB:=b2s bs hb;(try clear hb);(try clear ho0);obtain ⟨qaV,qaT,qhm⟩:=Kd.R_slice Za.out;subst qhm;obtain ⟨_,_,_,_,_,_,_,_,_,_,_,_,_,_⟩:=cells7 jd.out;obtain ⟨_,_,_,_,_,_,_,_,_,_,_,_,_,_⟩:=cells7 qa.out) | ((with_reducible refine gate_callee (f:=161) rfl ?_);refine glG 27 rfl rfl Tryz.func161 (Qz.calls k _ _ qb yO _ (Kd.C_below qK.out bs) qQ.out A5.out) ?_;rintro e w25 ⟨qe9,rfl,ho0,hb⟩;refine ⟨_,rfl,?_⟩;replace zY:=ak (Kd.S_below (by (with_reducible repeat (first | apply Kd.S_alloc | apply Kd.S_drewN | apply Kd.S_drew));exact (Kd.S_mono (Kd.S_far (p:=⟨qD,5,none⟩) (Kd.S_types zY.out jd.out (by decide)) (fun _ hk=>hk.2) (.slice qaV zu.length qaT)) (fun _ h_=>h_.1))) hb);replace Jk:=ak (Kd.S_below (by (with_reducible repeat (first | apply Kd.S_alloc | apply Kd.S_drewN | apply Kd.S_drew));exact (Kd.S_mono (Kd.S_far (p:=⟨qD,5,none⟩) (Kd.S_types Jk.out jd.out (by decide)) (fun _ hk=>hk.2) (.slice qaV zu.length qaT)) (fun _ h_=>h_.1))) hb);replace Za:=ak (Kd.R_below (by (with_reducible repeat (first | apply Kd.R_alloc | apply Kd.R_drewN | apply Kd.R_drew));exact (Kd.R_mono (Kd.R_far (p:=⟨qD,5,none⟩) (Kd.R_types Za.out jd.out (by decide)) (fun _ hk=>hk.2) (.slice qaV zu.length qaT)) (fun _ h_=>h_.1))) hb);have Xk:=ak (Kd.R_lower ho0 (below_size bs));replace qa:=ak (blk_below (g:=qc) (o:=.cells #[.slice zt qt.length zr,.int .i64 qd,.int .i64 qf,.int .i64 qg,.slice yC qH.length yA,.slice jS qe.length jq,.slice qN qb.length qM] 114 (0,0)) (by (with_reducible repeat (first | refine blk_drewN ?_ _ | refine blk_drew ?_ | refine blk_alloc ?_ _));refine blk_far ?_ zz.out _;(with_reducible repeat (first | refine blk_drewN ?_ _ | refine blk_drew ?_ | refine blk_alloc ?_ _));exact qa.out) hb);replace qi:=ak (blk_below (g:=qp) (o:=.cells #[.slice none 0 0,.int .i64 0,.int .i64 0,.int .i64 0,.slice none 0 0,.slice none 0 0,.slice none 0 0] 105 (0,0)) (by (with_reducible repeat (first | refine blk_drewN ?_ _ | refine blk_drew ?_ | refine blk_alloc ?_ _));refine blk_far ?_ ju.out _;(with_reducible repeat (first | refine blk_drewN ?_ _ | refine blk_drew ?_ | refine blk_alloc ?_ _));exact qi.out) hb);replace jd:=ak (blk_below (g:=qD) (o:=.cells #[.slice JL qE.length JK,.int .i64 qd,.int .i64 qf,.int .i64 qg,.slice Jr jl.length Jn,.slice qaV zu.length qaT,.slice none 0 0] 105 (0,0)) (by (with_reducible repeat (first | refine blk_drewN ?_ _ | refine blk_drew ?_ | refine blk_alloc ?_ _));refine blk_put (cs:=#[.slice JL qE.length JK,.int .i64 qd,.int .i64 qf,.int .i64 qg,.slice Jr jl.length Jn,.slice none 0 0,.slice none 0 0]) ?_ 5 _ rfl;(with_reducible repeat (first | refine blk_drewN ?_ _ | refine blk_drew ?_ | refine blk_alloc ?_ _));exact jd.out) hb);replace HB:=b2s bs hb;(try clear hb);(try clear ho0);obtain ⟨Xo,Xm,qdB⟩:=Kd.R_slice Xk.out;subst qdB;obtain ⟨_,_,_,_,_,_,_,_,_,_,_,_,_,_⟩:=cells7 jd.out;obtain ⟨_,_,_,_,_,_,_,_,_,_,_,_,_,_⟩:=cells7 qi.out));refine bodyPost_ret (results_cell_row rfl _ _ qp 105 #[.slice JL qE.length JK,.int .i64 qd,.int .i64 qf,.int .i64 qg,.slice Jr jl.length Jn,.slice qaV zu.length qaT,.slice Xo yO.length Xm] (0,0) _ rfl (by (with_reducible repeat (first | refine blk_drewN ?_ _ | refine blk_drew ?_ | refine blk_alloc ?_ _));refine blk_put (cs:=#[.slice JL qE.length JK,.int .i64 qd,.int .i64 qf,.int .i64 qg,.slice Jr jl.length Jn,.slice qaV zu.length qaT,.slice none 0 0]) ?_ 6 _ rfl;(with_reducible repeat (first | refine blk_drewN ?_ _ | refine blk_drew ?_ | refine blk_alloc ?_ _));refine blk_put (cs:=#[.slice JL qE.length JK,.int .i64 qd,.int .i64 qf,.int .i64 qg,.slice Jr jl.length Jn,.slice none 0 0,.slice none 0 0]) ?_ 5 _ rfl;(with_reducible repeat (first | refine blk_drewN ?_ _ | refine blk_drew ?_ | refine blk_alloc ?_ _));refine blk_put (cs:=#[.slice JL qE.length JK,.int .i64 qd,.int .i64 qf,.int .i64 qg,.slice none 0 0,.slice none 0 0,.slice none 0 0]) ?_ 4 _ rfl;(with_reducible repeat (first | refine blk_drewN ?_ _ | refine blk_drew ?_ | refine blk_alloc ?_ _));refine blk_put (cs:=#[.slice JL qE.length JK,.int .i64 qd,.int .i64 qf,.int .i64 0,.slice none 0 0,.slice none 0 0,.slice none 0 0]) ?_ 3 _ rfl;(with_reducible repeat (first | refine blk_drewN ?_ _ | refine blk_drew ?_ | refine blk_alloc ?_ _));refine blk_put (cs:=#[.slice JL qE.length JK,.int .i64 qd,.int .i64 0,.int .i64 0,.slice none 0 0,.slice none 0 0,.slice none 0 0]) ?_ 2 _ rfl;(with_reducible repeat (first | refine blk_drewN ?_ _ | refine blk_drew ?_ | refine blk_alloc ?_ _));refine blk_put (cs:=#[.slice JL qE.length JK,.int .i64 0,.int .i64 0,.int .i64 0,.slice none 0 0,.slice none 0 0,.slice none 0 0]) ?_ 1 _ rfl;(with_reducible repeat (first | refine blk_drewN ?_ _ | refine blk_drew ?_ | refine blk_alloc ?_ _));refine blk_put (cs:=#[.slice none 0 0,.int .i64 0,.int .i64 0,.int .i64 0,.slice none 0 0,.slice none 0 0,.slice none 0 0]) ?_ 0 _ rfl;(with_reducible repeat (first | refine blk_drewN ?_ _ | refine blk_drew ?_ | refine blk_alloc ?_ _));refine blk_far ?_ ju.out _;(with_reducible repeat (first | refine blk_drewN ?_ _ | refine blk_drew ?_ | refine blk_alloc ?_ _));exact qi.out) Tryz.underlying105 rfl (by kernel_rfl)) rfl ?_;exact ⟨_,_,_,_,o1,by (with_reducible repeat (first | apply Kd.S_alloc | apply Kd.S_drewN | apply Kd.S_drew));exact Kd.S_mono (Kd.S_far (p:=⟨qp,6,none⟩) (Kd.S_far (p:=⟨qp,5,none⟩) (Kd.S_far (p:=⟨qp,4,none⟩) (Kd.S_far (p:=⟨qp,3,none⟩) (Kd.S_far (p:=⟨qp,2,none⟩) (Kd.S_far (p:=⟨qp,1,none⟩) (Kd.S_far (p:=⟨qp,0,none⟩) (Kd.S_far (p:=⟨qD,6,none⟩) (Kd.S_types (Kd.S_types zY.out jd.out (by decide)) qi.out (by decide)) (fun _ hk=>hk.1.2) (.slice Xo yO.length Xm)) (fun _ hk=>hk.2) (.slice JL qE.length JK)) (fun _ hk=>hk.2) (.int .i64 qd)) (fun _ hk=>hk.2) (.int .i64 qf)) (fun _ hk=>hk.2) (.int .i64 qg)) (fun _ hk=>hk.2) (.slice Jr jl.length Jn)) (fun _ hk=>hk.2) (.slice qaV zu.length qaT)) (fun _ hk=>hk.2) (.slice Xo yO.length Xm)) (fun _ hk=>⟨hk.1.1.1.2,hk.1.1.2⟩),by (with_reducible repeat (first | apply Kd.S_alloc | apply Kd.S_drewN | apply Kd.S_drew));exact Kd.S_mono (Kd.S_far (p:=⟨qp,6,none⟩) (Kd.S_far (p:=⟨qp,5,none⟩) (Kd.S_far (p:=⟨qp,4,none⟩) (Kd.S_far (p:=⟨qp,3,none⟩) (Kd.S_far (p:=⟨qp,2,none⟩) (Kd.S_far (p:=⟨qp,1,none⟩) (Kd.S_far (p:=⟨qp,0,none⟩) (Kd.S_far (p:=⟨qD,6,none⟩) (Kd.S_types (Kd.S_types Jk.out jd.out (by decide)) qi.out (by decide)) (fun _ hk=>hk.1.2) (.slice Xo yO.length Xm)) (fun _ hk=>hk.2) (.slice JL qE.length JK)) (fun _ hk=>hk.2) (.int .i64 qd)) (fun _ hk=>hk.2) (.int .i64 qf)) (fun _ hk=>hk.2) (.int .i64 qg)) (fun _ hk=>hk.2) (.slice Jr jl.length Jn)) (fun _ hk=>hk.2) (.slice qaV zu.length qaT)) (fun _ hk=>hk.2) (.slice Xo yO.length Xm)) (fun _ hk=>⟨hk.1.1.1.2,hk.1.1.2⟩),by (with_reducible repeat (first | apply Kd.R_alloc | apply Kd.R_drewN | apply Kd.R_drew));exact Kd.R_mono (Kd.R_far (p:=⟨qp,6,none⟩) (Kd.R_far (p:=⟨qp,5,none⟩) (Kd.R_far (p:=⟨qp,4,none⟩) (Kd.R_far (p:=⟨qp,3,none⟩) (Kd.R_far (p:=⟨qp,2,none⟩) (Kd.R_far (p:=⟨qp,1,none⟩) (Kd.R_far (p:=⟨qp,0,none⟩) (Kd.R_far (p:=⟨qD,6,none⟩) (Kd.R_types (Kd.R_types Za.out jd.out (by decide)) qi.out (by decide)) (fun _ hk=>hk.1.2) (.slice Xo yO.length Xm)) (fun _ hk=>hk.2) (.slice JL qE.length JK)) (fun _ hk=>hk.2) (.int .i64 qd)) (fun _ hk=>hk.2) (.int .i64 qf)) (fun _ hk=>hk.2) (.int .i64 qg)) (fun _ hk=>hk.2) (.slice Jr jl.length Jn)) (fun _ hk=>hk.2) (.slice qaV zu.length qaT)) (fun _ hk=>hk.2) (.slice Xo yO.length Xm)) (fun _ hk=>trivial),by (with_reducible repeat (first | apply Kd.R_alloc | apply Kd.R_drewN | apply Kd.R_drew));exact Kd.R_mono (Kd.R_far (p:=⟨qp,6,none⟩) (Kd.R_far (p:=⟨qp,5,none⟩) (Kd.R_far (p:=⟨qp,4,none⟩) (Kd.R_far (p:=⟨qp,3,none⟩) (Kd.R_far (p:=⟨qp,2,none⟩) (Kd.R_far (p:=⟨qp,1,none⟩) (Kd.R_far (p:=⟨qp,0,none⟩) (Kd.R_far (p:=⟨qD,6,none⟩) (Kd.R_types (Kd.R_types Xk.out jd.out (by decide)) qi.out (by decide)) (fun _ hk=>hk.1.2) (.slice Xo yO.length Xm)) (fun _ hk=>hk.2) (.slice JL qE.length JK)) (fun _ hk=>hk.2) (.int .i64 qd)) (fun _ hk=>hk.2) (.int .i64 qf)) (fun _ hk=>hk.2) (.int .i64 qg)) (fun _ hk=>hk.2) (.slice Jr jl.length Jn)) (fun _ hk=>hk.2) (.slice qaV zu.length qaT)) (fun _ hk=>hk.2) (.slice Xo yO.length Xm)) (fun _ hk=>trivial),bs⟩

def Ql.l0:Nat→List Int→List Int→Int→Option (Bool)
 | 0,_,_,_=>none
 | k+1,x0,x1,x5=>if x5 < (x0.length:Int) then (if 0≤x5 then (if x5 < (x1.length:Int) then (if (rd x0 x5)=(rd x1 x5) then (Ql.l0 k x0 x1 (wrap64 (x5+1))) else (some false)) else (none)) else (none)) else (some true)
def Ql.f (k:Nat) (l0:List Int) (l1:List Int):Option (Bool):=if (l0.length:Int)=(l1.length:Int) then (Ql.l0 k l0 l1 0) else (some false)
set_option maxHeartbeats 8000000 in
set_option maxRecDepth 100000 in
theorem Ql.calls (k:Nat) (A0:Option Addr) (c0:Nat) (l0:List Int) (A1:Option Addr) (c1:Nat) (l1:List Int) (r:Bool) (w:World) (hr0:Kd.C (Kd.int .i64) w A0 l0.length l0) (hc0:l0.length≤c0) (hr1:Kd.C (Kd.int .i64) w A1 l1.length l1) (hc1:l1.length≤c1) (h:Ql.f k l0 l1=some r) :
  Calls Tryz.prog 167 #[.slice A0 l0.length c0,.slice A1 l1.length c1] w fun e w'=>e=.returned (.bool r)∧Drawn0 w w':=by
 have HR0:=ak hr0;have HC0:=ak hc0;clear hr0 hc0;have HR1:=ak hr1;have HC1:=ak hc1;clear hr1 hc1;have H:(if (l0.length:Int)=(l1.length:Int) then (Ql.l0 k l0 l1 0) else (some false))=some r:=h;clear h;replace H:=ie H;obtain ⟨c3b0,c3b1,H⟩ | ⟨c3b0,c3b1,H⟩:=H
 ·have c3b2:(l0.length == l1.length)=true:=lnT c3b0;have H':=ak H;clear H;go_enter Tryz.func167,Tryz.ntmps167;go_wp2;repeat (go_quiet (fail);try go_wp2)
  go_loopg [5] k (fun kq v5 w'=>∃ (qm:Int),v5=.int .i64 qm∧Aside0 (Ql.l0 kq l0 l1 qm=some r)∧Aside0 (kq≤k)∧Drawn0 w w')
  case atStart=>exact ⟨(0),o2,H',⟨Nat.le_refl _⟩,od⟩
  case round =>
   clear H';(try clear c1)
   (try clear c3b0)
   (try clear c3b1)
   (try clear c3b2)
   obtain ⟨qm,rfl,HA,HK1,⟨m1,rfl⟩⟩:=hrel;cases gk with
   | zero=>exact absurd HA.out (by simp [Ql.l0])
   | succ k1 =>
    have H:=HA.out;clear HA;simp only [Ql.l0] at H;replace H:=ip H;obtain ⟨c4b0,H⟩ | ⟨c4b0,H⟩:=H
    ·replace H:=ipN H;obtain ⟨c5b0,H⟩:=H;replace H:=ipN H;obtain ⟨c6b0,H⟩:=H;replace H:=ie H;obtain ⟨c7b0,c7b1,H⟩ | ⟨c7b0,c7b1,H⟩:=H
     ·have H':=ak H;clear H;obtain ⟨jv,rfl,yd,JQ,JP⟩:=el0_int HR0 qm;obtain ⟨zf,rfl,yv,ZX,ZW⟩:=el0_int HR1 qm;go_wp2;repeat (go_quiet (fail);try go_wp2)
      go_roundg k1;case measure=>have:=HK1.out;omega
      case rel=>exact ⟨(wrap64 (qm+1)),o2,H',⟨by have:=HK1.out;omega⟩,od⟩
     ·obtain rfl:=Option.some.inj H;obtain ⟨jv,rfl,yd,JQ,JP⟩:=el0_int HR0 qm;obtain ⟨zf,rfl,yv,ZX,ZW⟩:=el0_int HR1 qm;go_wp2;repeat (go_quiet (fail);try go_wp2)
      go_ret;exact ⟨o2,od⟩
    ·obtain rfl:=Option.some.inj H;go_wp2;repeat (go_quiet (fail);try go_wp2)
     go_ret;exact ⟨o2,od⟩
 ·have c3b2:(l0.length == l1.length)=false:=lnF c3b0;obtain rfl:=Option.some.inj H;go_enter Tryz.func167,Tryz.ntmps167;go_wp2;repeat (go_quiet (fail);try go_wp2)
  go_ret;exact ⟨o2,od⟩

def JU.f (k:Nat) (qt:List (List Int)) (qd:Int) (qf:Int) (qg:Int) (qH:List (List Int)) (qe:List Int) (qb:List Int) (jW:List (List Int)) (yl:Int) (Qq:Int) (yY:Int) (QO:List (List Int)) (yH:List Int) (yc:List Int):Option (Bool):=(zZ.f k qt jW).bind fun qW=>(if qW=true then (if qd=yl then (if qf=Qq then (if qg=yY then ((zZ.f k qH QO).bind fun qE=>(if qE=true then ((jt.f k qe yH).bind fun qG=>(if qG=true then ((Ql.f k qb yc).bind fun zQ=>(if zQ=true then (some true) else (some false))) else (some false))) else (some false))) else (some false)) else (some false)) else (some false)) else (some false))
set_option maxHeartbeats 8000000 in
set_option maxRecDepth 100000 in
theorem JU.calls (k:Nat) (zt:Option Addr) (zr:Nat) (qt:List (List Int)) (qd:Int) (qf:Int) (qg:Int) (yC:Option Addr) (yA:Nat) (qH:List (List Int)) (jS:Option Addr) (jq:Nat) (qe:List Int) (qN:Option Addr) (qM:Nat) (qb:List Int) (YJ:Option Addr) (YA:Nat) (jW:List (List Int)) (yl:Int) (Qq:Int) (yY:Int) (qbH:Option Addr) (qbD:Nat) (QO:List (List Int)) (qaK:Option Addr) (qaF:Nat) (yH:List Int) (XX:Option Addr) (XU:Nat) (yc:List Int) (r:Bool) (w:World) (zw:Kd.C (Kd.slice 5 (Kd.int .u8)) w zt qt.length qt) (zE:qt.length≤zr) (Qf:Kd.C (Kd.slice 5 (Kd.int .u8)) w yC qH.length qH) (Qg:qH.length≤yA) (zl:Kd.C (Kd.int .u8) w jS qe.length qe) (zm:qe.length≤jq) (jo:Kd.C (Kd.int .i64) w qN qb.length qb) (jp:qb.length≤qM) (Yi:Kd.C (Kd.slice 5 (Kd.int .u8)) w YJ jW.length jW) (YI:jW.length≤YA) (qbb:Kd.C (Kd.slice 5 (Kd.int .u8)) w qbH QO.length QO) (qbe:QO.length≤qbD) (qak:Kd.C (Kd.int .u8) w qaK yH.length yH) (qal:yH.length≤qaF) (Xx:Kd.C (Kd.int .i64) w XX yc.length yc) (Xy:yc.length≤XU) (h:JU.f k qt qd qf qg qH qe qb jW yl Qq yY QO yH yc=some r) :
  Calls Tryz.prog 112 #[.agg #[.slice zt qt.length zr,.int .i64 qd,.int .i64 qf,.int .i64 qg,.slice yC qH.length yA,.slice jS qe.length jq,.slice qN qb.length qM],.agg #[.slice YJ jW.length YA,.int .i64 yl,.int .i64 Qq,.int .i64 yY,.slice qbH QO.length qbD,.slice qaK yH.length qaF,.slice XX yc.length XU]] w fun e w'=>e=.returned (.bool r)∧Below w.heap.size w w':=by
 have YH:=Tryz.underlying105;have YO:=Tryz.underlying65;have jT:=ak zw;have jX:=ak zE;clear zw zE;have yV:=ak Qf;have yW:=ak Qg;clear Qf Qg;have jP:=ak zl;have zB:=ak zm;clear zl zm;have qK:=ak jo;have qQ:=ak jp;clear jo jp;have Zi:=ak Yi;have Zj:=ak YI;clear Yi YI;have qaz:=ak qbb;have qaA:=ak qbe;clear qbb qbe;have Yv:=ak qak;have Yw:=ak qal;clear qak qal;have Zr:=ak Xx;have Zs:=ak Xy;clear Xx Xy;have HB:=ak (Below.refl w.heap.size w);have H:((zZ.f k qt jW).bind fun qW=>(if qW=true then (if qd=yl then (if qf=Qq then (if qg=yY then ((zZ.f k qH QO).bind fun qE=>(if qE=true then ((jt.f k qe yH).bind fun qG=>(if qG=true then ((Ql.f k qb yc).bind fun zQ=>(if zQ=true then (some true) else (some false))) else (some false))) else (some false))) else (some false)) else (some false)) else (some false)) else (some false)))=some r:=h;clear h;replace H:=bnd H;obtain ⟨qW,A3,H⟩:=H;replace H:=ib H;obtain ⟨rfl,H⟩ | ⟨rfl,H⟩:=H
 ·replace H:=ie H;obtain ⟨c5b0,c5b1,H⟩ | ⟨c5b0,c5b1,H⟩:=H
  ·replace H:=ie H;obtain ⟨c6b0,c6b1,H⟩ | ⟨c6b0,c6b1,H⟩:=H
   ·replace H:=ie H;obtain ⟨c7b0,c7b1,H⟩ | ⟨c7b0,c7b1,H⟩:=H
    ·replace H:=bnd H;obtain ⟨qE,A8,H⟩:=H;replace H:=ib H;obtain ⟨rfl,H⟩ | ⟨rfl,H⟩:=H
     ·replace H:=bnd H;obtain ⟨qG,A10,H⟩:=H;replace H:=ib H;obtain ⟨rfl,H⟩ | ⟨rfl,H⟩:=H
      ·replace H:=bnd H;obtain ⟨zQ,A12,H⟩:=H;replace H:=ib H;obtain ⟨rfl,H⟩ | ⟨rfl,H⟩:=H
       ·obtain rfl:=Option.some.inj H;go_enter Tryz.func112,Tryz.ntmps112;go_wp2_with (first | ((with_reducible refine gate_dst (N:=2) rfl ?_);refine bxd (N:=2) rfl HB ?_;clear HB;intro qc w14 hg HB qa qq hb;have qC:=qq;clear hb hg) | ((with_reducible refine gate_dst (N:=3) rfl ?_);refine bxe (N:=3) rfl ?_;intro qp hg w15 hbox hb;have qi:=ak (hbox);have jB:=b3s hg bs;have yD:=jB;replace HB:=b2s bs hb;have qz:=b4 hg qa;have qB:=b5 hg qa;replace qa:=b1 qa hb;clear hb hbox hg;have qoL:=qz.out;have qoH:=qB.out;obtain ⟨_,_,_,_,_,_,_,_,_,_,_,_,_,_⟩:=cells7 qa.out;obtain ⟨_,_,_,_,_,_,_,_,_,_,_,_,_,_⟩:=cells7 qi.out) | ((with_reducible refine gate_callee (f:=91) rfl ?_);refine glB 9 rfl rfl Tryz.func91 (zZ.calls k _ _ qt _ _ jW true _ (cv jT HB) jX.out (cv Zi HB) Zj.out A3.out) (fun w19 hb=>?_);replace qa:=b1 qa hb;replace qi:=b1 qi hb;replace HB:=b2s bs hb;(try clear hb);obtain ⟨_,_,_,_,_,_,_,_,_,_,_,_,_,_⟩:=cells7 qa.out;obtain ⟨_,_,_,_,_,_,_,_,_,_,_,_,_,_⟩:=cells7 qi.out) | ((with_reducible refine gate_callee (f:=91) rfl ?_);refine glB 30 rfl rfl Tryz.func91 (zZ.calls k _ _ qH _ _ QO true _ (cv yV HB) yW.out (cv qaz HB) qaA.out A8.out) (fun w22 hb=>?_);replace qa:=b1 qa hb;replace qi:=b1 qi hb;replace HB:=b2s bs hb;(try clear hb);obtain ⟨_,_,_,_,_,_,_,_,_,_,_,_,_,_⟩:=cells7 qa.out;obtain ⟨_,_,_,_,_,_,_,_,_,_,_,_,_,_⟩:=cells7 qi.out) | ((with_reducible refine gate_callee (f:=17) rfl ?_);refine glD 36 rfl rfl Tryz.func17 (jt.calls k _ _ qe _ _ yH true _ (cv jP HB) zB.out (cv Yv HB) Yw.out A10.out) (fun nd=>?_)) | ((with_reducible refine gate_callee (f:=167) rfl ?_);refine glD 42 rfl rfl Tryz.func167 (Ql.calls k _ _ qb _ _ yc true _ ?qO qQ.out ?yJ Zs.out A12.out) (fun nd=>?_);(case qO=>repeat (first | exact (Kd.C_below qK.out bs) | (with_reducible refine Kd.C_alloc ?_ _) | (with_reducible refine Kd.C_drewN ?_ _) | (with_reducible refine Kd.C_drew ?_)));(case yJ=>repeat (first | exact (Kd.C_below Zr.out bs) | (with_reducible refine Kd.C_alloc ?_ _) | (with_reducible refine Kd.C_drewN ?_ _) | (with_reducible refine Kd.C_drew ?_)))));go_ret;exact ⟨o1,bs⟩
       ·obtain rfl:=Option.some.inj H;go_enter Tryz.func112,Tryz.ntmps112;go_wp2_with (first | ((with_reducible refine gate_dst (N:=2) rfl ?_);refine bxd (N:=2) rfl HB ?_;clear HB;intro qc w25 hg HB qa qq hb;have qC:=qq;clear hb hg) | ((with_reducible refine gate_dst (N:=3) rfl ?_);refine bxe (N:=3) rfl ?_;intro qp hg w26 hbox hb;have qi:=ak (hbox);have jB:=b3s hg bs;have yD:=jB;replace HB:=b2s bs hb;have qz:=b4 hg qa;have qB:=b5 hg qa;replace qa:=b1 qa hb;clear hb hbox hg;have qoK:=qz.out;have qoG:=qB.out;obtain ⟨_,_,_,_,_,_,_,_,_,_,_,_,_,_⟩:=cells7 qa.out;obtain ⟨_,_,_,_,_,_,_,_,_,_,_,_,_,_⟩:=cells7 qi.out) | ((with_reducible refine gate_callee (f:=91) rfl ?_);refine glB 9 rfl rfl Tryz.func91 (zZ.calls k _ _ qt _ _ jW true _ (cv jT HB) jX.out (cv Zi HB) Zj.out A3.out) (fun w30 hb=>?_);replace qa:=b1 qa hb;replace qi:=b1 qi hb;replace HB:=b2s bs hb;(try clear hb);obtain ⟨_,_,_,_,_,_,_,_,_,_,_,_,_,_⟩:=cells7 qa.out;obtain ⟨_,_,_,_,_,_,_,_,_,_,_,_,_,_⟩:=cells7 qi.out) | ((with_reducible refine gate_callee (f:=91) rfl ?_);refine glB 30 rfl rfl Tryz.func91 (zZ.calls k _ _ qH _ _ QO true _ (cv yV HB) yW.out (cv qaz HB) qaA.out A8.out) (fun w33 hb=>?_);replace qa:=b1 qa hb;replace qi:=b1 qi hb;replace HB:=b2s bs hb;(try clear hb);obtain ⟨_,_,_,_,_,_,_,_,_,_,_,_,_,_⟩:=cells7 qa.out;obtain ⟨_,_,_,_,_,_,_,_,_,_,_,_,_,_⟩:=cells7 qi.out) | ((with_reducible refine gate_callee (f:=17) rfl ?_);refine glD 36 rfl rfl Tryz.func17 (jt.calls k _ _ qe _ _ yH true _ (cv jP HB) zB.out (cv Yv HB) Yw.out A10.out) (fun nd=>?_)) | ((with_reducible refine gate_callee (f:=167) rfl ?_);refine glD 42 rfl rfl Tryz.func167 (Ql.calls k _ _ qb _ _ yc false _ ?qO qQ.out ?yJ Zs.out A12.out) (fun nd=>?_);(case qO=>repeat (first | exact (Kd.C_below qK.out bs) | (with_reducible refine Kd.C_alloc ?_ _) | (with_reducible refine Kd.C_drewN ?_ _) | (with_reducible refine Kd.C_drew ?_)));(case yJ=>repeat (first | exact (Kd.C_below Zr.out bs) | (with_reducible refine Kd.C_alloc ?_ _) | (with_reducible refine Kd.C_drewN ?_ _) | (with_reducible refine Kd.C_drew ?_)))));go_ret;exact ⟨o1,bs⟩
      ·obtain rfl:=Option.some.inj H;go_enter Tryz.func112,Tryz.ntmps112;go_wp2_with (first | ((with_reducible refine gate_dst (N:=2) rfl ?_);refine bxd (N:=2) rfl HB ?_;clear HB;intro qc w36 hg HB qa qq hb;have qC:=qq;clear hb hg) | ((with_reducible refine gate_dst (N:=3) rfl ?_);refine bxe (N:=3) rfl ?_;intro qp hg w37 hbox hb;have qi:=ak (hbox);have jB:=b3s hg bs;have yD:=jB;replace HB:=b2s bs hb;have qz:=b4 hg qa;have qB:=b5 hg qa;replace qa:=b1 qa hb;clear hb hbox hg;have qoJ:=qz.out;have qoF:=qB.out;obtain ⟨_,_,_,_,_,_,_,_,_,_,_,_,_,_⟩:=cells7 qa.out;obtain ⟨_,_,_,_,_,_,_,_,_,_,_,_,_,_⟩:=cells7 qi.out) | ((with_reducible refine gate_callee (f:=91) rfl ?_);refine glB 9 rfl rfl Tryz.func91 (zZ.calls k _ _ qt _ _ jW true _ (cv jT HB) jX.out (cv Zi HB) Zj.out A3.out) (fun w41 hb=>?_);replace qa:=b1 qa hb;replace qi:=b1 qi hb;replace HB:=b2s bs hb;(try clear hb);obtain ⟨_,_,_,_,_,_,_,_,_,_,_,_,_,_⟩:=cells7 qa.out;obtain ⟨_,_,_,_,_,_,_,_,_,_,_,_,_,_⟩:=cells7 qi.out) | ((with_reducible refine gate_callee (f:=91) rfl ?_);refine glB 30 rfl rfl Tryz.func91 (zZ.calls k _ _ qH _ _ QO true _ (cv yV HB) yW.out (cv qaz HB) qaA.out A8.out) (fun w44 hb=>?_);replace qa:=b1 qa hb;replace qi:=b1 qi hb;replace HB:=b2s bs hb;(try clear hb);obtain ⟨_,_,_,_,_,_,_,_,_,_,_,_,_,_⟩:=cells7 qa.out;obtain ⟨_,_,_,_,_,_,_,_,_,_,_,_,_,_⟩:=cells7 qi.out) | ((with_reducible refine gate_callee (f:=17) rfl ?_);refine glD 36 rfl rfl Tryz.func17 (jt.calls k _ _ qe _ _ yH false _ (cv jP HB) zB.out (cv Yv HB) Yw.out A10.out) (fun nd=>?_)));go_ret;exact ⟨o1,bs⟩
     ·obtain rfl:=Option.some.inj H;go_enter Tryz.func112,Tryz.ntmps112;go_wp2_with (first | ((with_reducible refine gate_dst (N:=2) rfl ?_);refine bxd (N:=2) rfl HB ?_;clear HB;intro qc w47 hg HB qa qq hb;have qC:=qq;clear hb hg) | ((with_reducible refine gate_dst (N:=3) rfl ?_);refine bxe (N:=3) rfl ?_;intro qp hg w48 hbox hb;have qi:=ak (hbox);have jB:=b3s hg bs;have yD:=jB;replace HB:=b2s bs hb;have qz:=b4 hg qa;have qB:=b5 hg qa;replace qa:=b1 qa hb;clear hb hbox hg;have qtX:=qz.out;have qtm:=qB.out;obtain ⟨_,_,_,_,_,_,_,_,_,_,_,_,_,_⟩:=cells7 qa.out;obtain ⟨_,_,_,_,_,_,_,_,_,_,_,_,_,_⟩:=cells7 qi.out) | ((with_reducible refine gate_callee (f:=91) rfl ?_);refine glB 9 rfl rfl Tryz.func91 (zZ.calls k _ _ qt _ _ jW true _ (cv jT HB) jX.out (cv Zi HB) Zj.out A3.out) (fun w52 hb=>?_);replace qa:=b1 qa hb;replace qi:=b1 qi hb;replace HB:=b2s bs hb;(try clear hb);obtain ⟨_,_,_,_,_,_,_,_,_,_,_,_,_,_⟩:=cells7 qa.out;obtain ⟨_,_,_,_,_,_,_,_,_,_,_,_,_,_⟩:=cells7 qi.out) | ((with_reducible refine gate_callee (f:=91) rfl ?_);refine glB 30 rfl rfl Tryz.func91 (zZ.calls k _ _ qH _ _ QO false _ (cv yV HB) yW.out (cv qaz HB) qaA.out A8.out) (fun w55 hb=>?_);replace qa:=b1 qa hb;replace qi:=b1 qi hb;replace HB:=b2s bs hb;(try clear hb)));go_ret;exact ⟨o1,bs⟩
    ·obtain rfl:=Option.some.inj H;go_enter Tryz.func112,Tryz.ntmps112;go_wp2_with (first | ((with_reducible refine gate_dst (N:=2) rfl ?_);refine bxd (N:=2) rfl HB ?_;clear HB;intro qc w56 hg HB qa qq hb;have qC:=qq;clear hb hg) | ((with_reducible refine gate_dst (N:=3) rfl ?_);refine bxe (N:=3) rfl ?_;intro qp hg w57 hbox hb;have qi:=ak (hbox);have jB:=b3s hg bs;have yD:=jB;replace HB:=b2s bs hb;have qz:=b4 hg qa;have qB:=b5 hg qa;replace qa:=b1 qa hb;clear hb hbox hg;have qtR:=qz.out;have qtg:=qB.out;obtain ⟨_,_,_,_,_,_,_,_,_,_,_,_,_,_⟩:=cells7 qa.out;obtain ⟨_,_,_,_,_,_,_,_,_,_,_,_,_,_⟩:=cells7 qi.out) | ((with_reducible refine gate_callee (f:=91) rfl ?_);refine glB 9 rfl rfl Tryz.func91 (zZ.calls k _ _ qt _ _ jW true _ (cv jT HB) jX.out (cv Zi HB) Zj.out A3.out) (fun w61 hb=>?_);replace qa:=b1 qa hb;replace qi:=b1 qi hb;replace HB:=b2s bs hb;(try clear hb);obtain ⟨_,_,_,_,_,_,_,_,_,_,_,_,_,_⟩:=cells7 qa.out;obtain ⟨_,_,_,_,_,_,_,_,_,_,_,_,_,_⟩:=cells7 qi.out));go_ret;exact ⟨o1,bs⟩
   ·obtain rfl:=Option.some.inj H;go_enter Tryz.func112,Tryz.ntmps112;go_wp2_with (first | ((with_reducible refine gate_dst (N:=2) rfl ?_);refine bxd (N:=2) rfl HB ?_;clear HB;intro qc w64 hg HB qa qq hb;have qC:=qq;clear hb hg) | ((with_reducible refine gate_dst (N:=3) rfl ?_);refine bxe (N:=3) rfl ?_;intro qp hg w65 hbox hb;have qi:=ak (hbox);have jB:=b3s hg bs;have yD:=jB;replace HB:=b2s bs hb;have qz:=b4 hg qa;have qB:=b5 hg qa;replace qa:=b1 qa hb;clear hb hbox hg;have qtM:=qz.out;have qtb:=qB.out;obtain ⟨_,_,_,_,_,_,_,_,_,_,_,_,_,_⟩:=cells7 qa.out;obtain ⟨_,_,_,_,_,_,_,_,_,_,_,_,_,_⟩:=cells7 qi.out) | ((with_reducible refine gate_callee (f:=91) rfl ?_);refine glB 9 rfl rfl Tryz.func91 (zZ.calls k _ _ qt _ _ jW true _ (cv jT HB) jX.out (cv Zi HB) Zj.out A3.out) (fun w69 hb=>?_);replace qa:=b1 qa hb;replace qi:=b1 qi hb;replace HB:=b2s bs hb;(try clear hb);obtain ⟨_,_,_,_,_,_,_,_,_,_,_,_,_,_⟩:=cells7 qa.out;obtain ⟨_,_,_,_,_,_,_,_,_,_,_,_,_,_⟩:=cells7 qi.out));go_ret;exact ⟨o1,bs⟩
  ·obtain rfl:=Option.some.inj H;go_enter Tryz.func112,Tryz.ntmps112;go_wp2_with (first | ((with_reducible refine gate_dst (N:=2) rfl ?_);refine bxd (N:=2) rfl HB ?_;clear HB;intro qc w72 hg HB qa qq hb;have qC:=qq;clear hb hg) | ((with_reducible refine gate_dst (N:=3) rfl ?_);refine bxe (N:=3) rfl ?_;intro qp hg w73 hbox hb;have qi:=ak (hbox);have jB:=b3s hg bs;have yD:=jB;replace HB:=b2s bs hb;have qz:=b4 hg qa;have qB:=b5 hg qa;replace qa:=b1 qa hb;clear hb hbox hg;have qoI:=qz.out;have qoE:=qB.out;obtain ⟨_,_,_,_,_,_,_,_,_,_,_,_,_,_⟩:=cells7 qa.out;obtain ⟨_,_,_,_,_,_,_,_,_,_,_,_,_,_⟩:=cells7 qi.out) | ((with_reducible refine gate_callee (f:=91) rfl ?_);refine glB 9 rfl rfl Tryz.func91 (zZ.calls k _ _ qt _ _ jW true _ (cv jT HB) jX.out (cv Zi HB) Zj.out A3.out) (fun w77 hb=>?_);replace qa:=b1 qa hb;replace qi:=b1 qi hb;replace HB:=b2s bs hb;(try clear hb);obtain ⟨_,_,_,_,_,_,_,_,_,_,_,_,_,_⟩:=cells7 qa.out;obtain ⟨_,_,_,_,_,_,_,_,_,_,_,_,_,_⟩:=cells7 qi.out));go_ret;exact ⟨o1,bs⟩
 ·obtain rfl:=Option.some.inj H;go_enter Tryz.func112,Tryz.ntmps112;go_wp2_with (first | ((with_reducible refine gate_dst (N:=2) rfl ?_);refine bxd (N:=2) rfl HB ?_;clear HB;intro qc w80 hg HB qa qq hb;have qC:=qq;clear hb hg) | ((with_reducible refine gate_dst (N:=3) rfl ?_);refine bxe (N:=3) rfl ?_;intro qp hg w81 hbox hb;have qi:=ak (hbox);have jB:=b3s hg bs;have yD:=jB;replace HB:=b2s bs hb;have qz:=b4 hg qa;have qB:=b5 hg qa;replace qa:=b1 qa hb;clear hb hbox hg;have qtH:=qz.out;have qs6:=qB.out;obtain ⟨_,_,_,_,_,_,_,_,_,_,_,_,_,_⟩:=cells7 qa.out;obtain ⟨_,_,_,_,_,_,_,_,_,_,_,_,_,_⟩:=cells7 qi.out) | ((with_reducible refine gate_callee (f:=91) rfl ?_);refine glB 9 rfl rfl Tryz.func91 (zZ.calls k _ _ qt _ _ jW false _ (cv jT HB) jX.out (cv Zi HB) Zj.out A3.out) (fun w85 hb=>?_);replace qa:=b1 qa hb;replace qi:=b1 qi hb;replace HB:=b2s bs hb;(try clear hb)));go_ret;exact ⟨o1,bs⟩

def jV.f (a0:Int) (a1:Int) (a2:Int):Option (Bool):=if a1≤a0 then (some (decide (a0≤a2))) else (some false)
set_option maxHeartbeats 8000000 in
set_option maxRecDepth 100000 in
theorem jV.calls (a0:Int) (a1:Int) (a2:Int) (r:Bool) (w:World) (h:jV.f a0 a1 a2=some r) :
  Calls Tryz.prog 44 #[.int .i64 a0,.int .i64 a1,.int .i64 a2] w fun e w'=>e=.returned (.bool r)∧Drawn0 w w':=by
 have H:(if a1≤a0 then (some (decide (a0≤a2))) else (some false))=some r:=h;clear h;replace H:=ip H;obtain ⟨c4b0,H⟩ | ⟨c4b0,H⟩:=H
 ·obtain rfl:=Option.some.inj H;go_enter Tryz.func44,Tryz.ntmps44;go_wp2;go_ret;exact ⟨o2,od⟩
 ·obtain rfl:=Option.some.inj H;go_enter Tryz.func44,Tryz.ntmps44;go_wp2;go_ret;exact ⟨o2,od⟩


def zK.v (t:Int):ByteArray:=if t=1 then ⟨#[65]⟩ else if t=2 then ⟨#[78,83]⟩ else if t=5 then ⟨#[67,78,65,77,69]⟩ else if t=6 then ⟨#[83,79,65]⟩ else if t=12 then ⟨#[80,84,82]⟩ else if t=16 then ⟨#[84,88,84]⟩ else if t=49 then ⟨#[68,72,67,73,68]⟩ else ⟨#[]⟩
def zK.f (t:Int):Option ByteArray:=if -9223372036854775808≤t∧t≤9223372036854775807 then some (zK.v t) else none
theorem zK.inv {e:TypeId} (he:Tryz.prog.underlying e=some .string) {v:Value} {z:DataW Unit × List MemPlace} (h:plainElem Tryz.prog e v=some z):∃ s:ByteArray,v=.string s∧z=(.lit (.string s.data.toList),[])∧s.size≤maxLen:=by
 unfold plainElem at h;rw [he] at h;cases v <;> simp at h
 exact ⟨_,rfl,h.2.symm,h.1⟩
theorem zK.ne {a b:Int} (h:¬ a=b):(Lit.int .i64 a)≠Lit.int .i64 b:=fun e=>h (by injection e)
set_option maxHeartbeats 8000000 in
set_option maxRecDepth 100000 in
theorem zK.calls (a0:Int) (r:ByteArray) (w:World) (h:zK.f a0=some r) :
  Calls Tryz.prog 208 #[.int .i64 a0] w fun e w'=>e=.returned (.string r)∧Below w.heap.size w w':=by
 have hw:(Lit.int .i64 a0).wf=true:=by
  unfold zK.f at h;split at h
  ·exact WalkArith.wf_i64 (by assumption)
  ·cases h
 have hr:zK.v a0=r:=by
  unfold zK.f at h;split at h
  ·exact Option.some.inj h
  ·cases h
 clear h;have law:Go.Maps.Keyed Tryz.prog 3:=Go.Maps.int_keyed Tryz.underlying3;have um:=Tryz.underlying214;have us:=Tryz.underlying9;have key:∀ n:Int,(Lit.int .i64 n).wf=true→keyOf Tryz.prog 3 (.int .i64 n)=some (.int .i64 n):=fun n hn=>Go.Maps.keyOf_int_mk Tryz.underlying3 hn
 have el:∀ s:ByteArray,s.size≤maxLen→plainElem (H:=Unit) Tryz.prog 9 (.string s)=some (.lit (.string s.data.toList),[]):=fun s hs=>plainElem_string us hs
 have o0:=World.ownsMap_made (H:=Unit) w Tryz.prog 3 (plainElem Tryz.prog 9);obtain ⟨w1,r1,o1,g1⟩:=o0.update law um (by unfold maxLen;omega) (key 1 (by decide)) (el ⟨#[65]⟩ (by decide));obtain ⟨w2,r2,o2,g2⟩:=o1.update law um (by unfold maxLen;omega) (key 2 (by decide)) (el ⟨#[78,83]⟩ (by decide));obtain ⟨w3,r3,o3,g3⟩:=o2.update law um (by unfold maxLen;omega) (key 5 (by decide)) (el ⟨#[67,78,65,77,69]⟩ (by decide));obtain ⟨w4,r4,o4,g4⟩:=o3.update law um (by unfold maxLen;omega) (key 6 (by decide)) (el ⟨#[83,79,65]⟩ (by decide));obtain ⟨w5,r5,o5,g5⟩:=o4.update law um (by unfold maxLen;omega) (key 12 (by decide)) (el ⟨#[80,84,82]⟩ (by decide));obtain ⟨w6,r6,o6,g6⟩:=o5.update law um (by unfold maxLen;omega) (key 16 (by decide)) (el ⟨#[84,88,84]⟩ (by decide));obtain ⟨w7,r7,o7,g7⟩:=o6.update law um (by unfold maxLen;omega) (key 49 (by decide)) (el ⟨#[68,72,67,73,68]⟩ (by decide));obtain ⟨v,ps,rl,hv⟩:=o7.lookup law um (z:=.string ⟨#[]⟩) (by kernel_rfl) (el ⟨#[]⟩ (by decide)) (key a0 hw);obtain ⟨s,rfl,hs,_⟩:=zK.inv us hv
 have hB:Below w.heap.size w w7:=by
  have b0:=below_alloc (Below.refl w.heap.size w) (.map #[] 0);refine Below.grown (Below.grown (Below.grown (Below.grown (Below.grown (Below.grown (Below.grown b0 g1 ?_ ?_) g2 ?_ ?_) g3 ?_ ?_) g4 ?_ ?_) g5 ?_ ?_) g6 ?_ ?_) g7 ?_ ?_
  all_goals first
   | (intro j hj;cases hj;exact Nat.le_refl _)
   | (have:=b0.size;have:=g1.size;have:=g2.size;have:=g3.size;have:=g4.size;have:=g5.size;have:=g6.size;omega)
 have e:s=zK.v a0:=by
  simp only [Prod.mk.injEq] at hs;have hat:=hs.1
  have fin:∀ {l:ByteArray},(DataW.lit (.string l.data.toList):DataW Unit)=.lit (.string s.data.toList)→s=l:=fun {l} he=>by
   simp at he
   cases s;cases l;simp at he;rw [he]
  have im:∀ {D:DataW Unit} {k d},Go.Maps.IsMap D→Go.Maps.IsMap (D.put k d):=fun {D k d} ⟨es,he⟩=>by subst he;exact ⟨_,rfl⟩
  have i0:Go.Maps.IsMap (DataW.map []:DataW Unit):=⟨_,rfl⟩;unfold zK.v;by_cases h7:a0=49
  ·subst h7;rw [Go.Maps.atKey_put_same (im (im (im (im (im (im i0)))))) (by trivial)] at hat;exact fin hat
  rw [Go.Maps.atKey_put_other (zK.ne h7)] at hat;by_cases h6:a0=16
  ·subst h6;rw [Go.Maps.atKey_put_same (im (im (im (im (im i0))))) (by trivial)] at hat;exact fin hat
  rw [Go.Maps.atKey_put_other (zK.ne h6)] at hat;by_cases h5:a0=12
  ·subst h5;rw [Go.Maps.atKey_put_same (im (im (im (im i0)))) (by trivial)] at hat;exact fin hat
  rw [Go.Maps.atKey_put_other (zK.ne h5)] at hat;by_cases h4:a0=6
  ·subst h4;rw [Go.Maps.atKey_put_same (im (im (im i0))) (by trivial)] at hat;exact fin hat
  rw [Go.Maps.atKey_put_other (zK.ne h4)] at hat;by_cases h3:a0=5
  ·subst h3;rw [Go.Maps.atKey_put_same (im (im i0)) (by trivial)] at hat;exact fin hat
  rw [Go.Maps.atKey_put_other (zK.ne h3)] at hat;by_cases h2:a0=2
  ·subst h2;rw [Go.Maps.atKey_put_same (im i0) (by trivial)] at hat;exact fin hat
  rw [Go.Maps.atKey_put_other (zK.ne h2)] at hat;by_cases h1:a0=1
  ·subst h1;rw [Go.Maps.atKey_put_same i0 (by trivial)] at hat;exact fin hat
  rw [Go.Maps.atKey_put_other (zK.ne h1)] at hat;rw [if_neg h1,if_neg h2,if_neg h3,if_neg h4,if_neg h5,if_neg h6,if_neg h7];exact fin hat
 have HB:=ak hB;subst e;clear o0 o1 o2 o3 o4 o5 o6 o7 g1 g2 g3 g4 g5 g6 g7 hB hs hv key el law hw;subst hr;generalize zK.v a0=s at rl ⊢;have hmm:=@run_makeMap Tryz.prog;go_enter Tryz.func208,Tryz.ntmps208;go_wp2;go_ret;exact ⟨rfl,HB.out⟩


def JH.f (a0:Int):Option Bool:=(zK.f a0).bind fun t=>some (!t.toList.isEmpty)
set_option maxHeartbeats 8000000 in
set_option maxRecDepth 100000 in
theorem JH.calls (a0:Int) (r:Bool) (w:World) (h:JH.f a0=some r) :
  Calls Tryz.prog 178 #[.int .i64 a0] w fun e w'=>e=.returned (.bool r)∧Below w.heap.size w w':=by
 obtain ⟨s,hs,hr⟩:=Option.bind_eq_some_iff.mp h;have hr:=Option.some.inj hr;subst hr;have HC:=ak hs;clear h hs;go_enter Tryz.func178,Tryz.ntmps178;go_wp2_with (go_at_call 208;refine (zK.calls a0 s _ HC.out).mono ?_;rintro e w' ⟨rfl,hb⟩);go_ret;exact ⟨by first | rfl | simp,hb⟩

def ZH.f (a0:Int):Option (Bool):=if a0=2 then (some true) else (if a0=5 then (some true) else (if a0=6 then (some true) else (some (a0 == 12))))
set_option maxHeartbeats 8000000 in
set_option maxRecDepth 100000 in
theorem ZH.calls (a0:Int) (r:Bool) (w:World) (h:ZH.f a0=some r) :
  Calls Tryz.prog 179 #[.int .i64 a0] w fun e w'=>e=.returned (.bool r)∧Drawn0 w w':=by
 have H:(if a0=2 then (some true) else (if a0=5 then (some true) else (if a0=6 then (some true) else (some (a0 == 12)))))=some r:=h;clear h;replace H:=ie H;obtain ⟨c2b0,c2b1,H⟩ | ⟨c2b0,c2b1,H⟩:=H
 ·obtain rfl:=Option.some.inj H;go_enter Tryz.func179,Tryz.ntmps179;go_wp2;go_ret;exact ⟨o2,od⟩
 ·replace H:=ie H;obtain ⟨c3b0,c3b1,H⟩ | ⟨c3b0,c3b1,H⟩:=H
  ·obtain rfl:=Option.some.inj H;go_enter Tryz.func179,Tryz.ntmps179;go_wp2;go_ret;exact ⟨o2,od⟩
  ·replace H:=ie H;obtain ⟨c4b0,c4b1,H⟩ | ⟨c4b0,c4b1,H⟩:=H
   ·obtain rfl:=Option.some.inj H;go_enter Tryz.func179,Tryz.ntmps179;go_wp2;go_ret;exact ⟨o2,od⟩
   ·obtain rfl:=Option.some.inj H;go_enter Tryz.func179,Tryz.ntmps179;go_wp2;go_ret;exact ⟨o2,od⟩

def ZA.f (a0:Int):Option (Bool):=(jV.f a0 0 4294967295).bind fun Qd=>(some Qd)
set_option maxHeartbeats 8000000 in
set_option maxRecDepth 100000 in
theorem ZA.calls (a0:Int) (r:Bool) (w:World) (h:ZA.f a0=some r) :
  Calls Tryz.prog 180 #[.int .i64 a0] w fun e w'=>e=.returned (.bool r)∧Drawn0 w w':=by
 have H:((jV.f a0 0 4294967295).bind fun Qd=>(some Qd))=some r:=h;clear h;replace H:=bnd H;obtain ⟨Qd,A2,H⟩:=H;obtain rfl:=Option.some.inj H;go_enter Tryz.func180,Tryz.ntmps180;go_wp2_with (((with_reducible refine gate_callee (f:=44) rfl ?_);refine glD 4 rfl rfl Tryz.func44 (jV.calls a0 0 4294967295 Qd _ A2.out) (fun nd=>?_)));go_ret;exact ⟨o2,od⟩

def Jl.f (a0:Int):Option (Bool):=if a0=16 then (some true) else (some (a0 == 49))
set_option maxHeartbeats 8000000 in
set_option maxRecDepth 100000 in
theorem Jl.calls (a0:Int) (r:Bool) (w:World) (h:Jl.f a0=some r) :
  Calls Tryz.prog 181 #[.int .i64 a0] w fun e w'=>e=.returned (.bool r)∧Drawn0 w w':=by
 have H:(if a0=16 then (some true) else (some (a0 == 49)))=some r:=h;clear h;replace H:=ie H;obtain ⟨c2b0,c2b1,H⟩ | ⟨c2b0,c2b1,H⟩:=H
 ·obtain rfl:=Option.some.inj H;go_enter Tryz.func181,Tryz.ntmps181;go_wp2;go_ret;exact ⟨o2,od⟩
 ·obtain rfl:=Option.some.inj H;go_enter Tryz.func181,Tryz.ntmps181;go_wp2;go_ret;exact ⟨o2,od⟩

mutual
def jw.j0:Nat→Bool→List (List Int)→Int→Int→Int→List (List Int)→List Int→List Int→Option (Bool)
 | 0,_,_,_,_,_,_,_,_=>none
 | k+1,x22,jy,jx,jI,jK,jJ,jk,ja=>if x22=true then (some false) else (if jx=6 then (if (ja.length:Int)=2 then (if 0 < (ja.length:Int) then ((ZA.f (rd ja 0)).bind fun zQ=>(if zQ=true then (if 1 < (ja.length:Int) then ((jV.f (rd ja 1) 0 100000).bind fun jh=>(jw.j1 k jh jy jx jI jK jJ jk ja)) else (none)) else (jw.j1 k false jy jx jI jK jJ jk ja))) else (none)) else (jw.j1 k false jy jx jI jK jJ jk ja)) else (jw.j1 k ((ja.length:Int) == 0) jy jx jI jK jJ jk ja))
def jw.j1:Nat→Bool→List (List Int)→Int→Int→Int→List (List Int)→List Int→List Int→Option (Bool)
 | 0,_,_,_,_,_,_,_,_=>none
 | k+1,x3,jy,jx,jI,jK,jJ,jk,ja=>if jK=0 then (jw.j2 k x3 true jy jx jI jK jJ jk ja) else (if jx=1 then ((ZA.f jK).bind fun zd=>(jw.j2 k x3 zd jy jx jI jK jJ jk ja)) else (jw.j2 k x3 false jy jx jI jK jJ jk ja))
def jw.j2:Nat→Bool→Bool→List (List Int)→Int→Int→Int→List (List Int)→List Int→List Int→Option (Bool)
 | 0,_,_,_,_,_,_,_,_,_=>none
 | k+1,x3,x4,jy,jx,jI,jK,jJ,jk,ja=>if (jJ.length:Int)=0 then (jw.j3 k x3 x4 true jy jx jI jK jJ jk ja) else ((ZH.f jx).bind fun zu=>(if zu=true then ((qS.f jJ).bind fun zJ=>(jw.j3 k x3 x4 zJ jy jx jI jK jJ jk ja)) else (jw.j3 k x3 x4 false jy jx jI jK jJ jk ja)))
def jw.j3:Nat→Bool→Bool→Bool→List (List Int)→Int→Int→Int→List (List Int)→List Int→List Int→Option (Bool)
 | 0,_,_,_,_,_,_,_,_,_,_=>none
 | k+1,x3,x4,x5,jy,jx,jI,jK,jJ,jk,ja=>if (jk.length:Int)=0 then (if x3=true then (if x4=true then (if x5=true then (some true) else (some false)) else (some false)) else (some false)) else ((Jl.f jx).bind fun QV=>(if QV=true then (if x3=true then (if x4=true then (if x5=true then (some (decide ((jk.length:Int)≤40))) else (some false)) else (some false)) else (some false)) else (if x3=true then (if x4=true then (if x5=true then (some false) else (some false)) else (some false)) else (some false))))
end
def jw.f (k:Nat) (qt:List (List Int)) (qd:Int) (qf:Int) (qg:Int) (qH:List (List Int)) (qe:List Int) (qb:List Int):Option (Bool):=(qS.f qt).bind fun qA=>(if qA=true then ((JH.f qd).bind fun qW=>(if qW=true then ((jV.f qf 0 100000).bind fun qE=>(jw.j0 k (!qE) qt qd qf qg qH qe qb)) else (jw.j0 k true qt qd qf qg qH qe qb))) else (jw.j0 k true qt qd qf qg qH qe qb))
set_option maxHeartbeats 8000000 in
set_option maxRecDepth 100000 in
theorem jw.calls (k:Nat) (zt:Option Addr) (zr:Nat) (qt:List (List Int)) (qd:Int) (qf:Int) (qg:Int) (yC:Option Addr) (yA:Nat) (qH:List (List Int)) (jS:Option Addr) (jq:Nat) (qe:List Int) (qN:Option Addr) (qM:Nat) (qb:List Int) (r:Bool) (w:World) (zw:Kd.C (Kd.slice 5 (Kd.int .u8)) w zt qt.length qt) (zE:qt.length≤zr) (Qf:Kd.C (Kd.slice 5 (Kd.int .u8)) w yC qH.length qH) (Qg:qH.length≤yA) (zl:Kd.C (Kd.int .u8) w jS qe.length qe) (zm:qe.length≤jq) (jo:Kd.C (Kd.int .i64) w qN qb.length qb) (jp:qb.length≤qM) (h:jw.f k qt qd qf qg qH qe qb=some r) :
  Calls Tryz.prog 132 #[.agg #[.slice zt qt.length zr,.int .i64 qd,.int .i64 qf,.int .i64 qg,.slice yC qH.length yA,.slice jS qe.length jq,.slice qN qb.length qM]] w fun e w'=>e=.returned (.bool r)∧Below w.heap.size w w':=by
 have YH:=Tryz.underlying105;have YO:=Tryz.underlying65;have jT:=ak zw;have jX:=ak zE;clear zw zE;have yV:=ak Qf;have yW:=ak Qg;clear Qf Qg;have jP:=ak zl;have zB:=ak zm;clear zl zm;have qK:=ak jo;have qQ:=ak jp;clear jo jp;have HB:=ak (Below.refl w.heap.size w);have H:((qS.f qt).bind fun qA=>(if qA=true then ((JH.f qd).bind fun qW=>(if qW=true then ((jV.f qf 0 100000).bind fun qE=>(jw.j0 k (!qE) qt qd qf qg qH qe qb)) else (jw.j0 k true qt qd qf qg qH qe qb))) else (jw.j0 k true qt qd qf qg qH qe qb)))=some r:=h;clear h;have HC2:=ak H;clear H;go_enter Tryz.func132,Tryz.ntmps132;go_upto_region 1 with (((with_reducible refine gate_dst (N:=1) rfl ?_);(try (refine gate_guard (by rfl) ?_;dsimp only));refine bxd (N:=1) rfl HB ?_;clear HB;intro qc w3 hg HB qa qq hb;have qC:=qq;clear hb hg))
 (try simp only [Act.put,List.setIfInBounds_toArray,List.set_cons_zero,List.set_cons_succ])
 go_cut [22] (fun v22 wc=>∃ (kq:Nat) (qiQ:Bool),v22=.bool qiQ∧Aside0 (jw.j0 kq qiQ qt qd qf qg qH qe qb=some r)∧Aside0 (kq≤k)∧Aside0 (wc.heap[qc]?=some (.cells #[(.slice zt qt.length zr),.int .i64 qd,.int .i64 qf,.int .i64 qg,(.slice yC qH.length yA),(.slice jS qe.length jq),(.slice qN qb.length qM)] 105 (0,0)))∧Aside0 (Below w.heap.size w wc))
 case first =>
  have H:=HC2.out;clear HC2;replace H:=bnd H;obtain ⟨qA,A4,H⟩:=H;replace H:=ib H;obtain ⟨rfl,H⟩ | ⟨rfl,H⟩:=H
  ·replace H:=bnd H;obtain ⟨qW,A6,H⟩:=H;replace H:=ib H;obtain ⟨rfl,H⟩ | ⟨rfl,H⟩:=H
   ·replace H:=bnd H;obtain ⟨qE,A8,H⟩:=H;have H':=ak H;clear H;obtain ⟨_,_,_,_,_,_,_,_,_,_,_,_,_,_⟩:=cells7 qa.out;go_wp2_with (first | ((with_reducible refine gate_callee (f:=126) rfl ?_);refine glB 9 rfl rfl Tryz.func126 (qS.calls _ _ qt true _ (cv jT HB) jX.out A4.out) (fun w10 hb=>?_);replace qa:=b1 qa hb;replace HB:=b2s bs hb;(try clear hb);obtain ⟨_,_,_,_,_,_,_,_,_,_,_,_,_,_⟩:=cells7 qa.out) | (go_at_call 178;(with_reducible refine (JH.calls qd true _ A6.out).mono ?_);rintro e w12 ⟨rfl,hb⟩;replace qa:=b1 qa hb;replace HB:=b2s bs hb;(try clear hb);obtain ⟨_,_,_,_,_,_,_,_,_,_,_,_,_,_⟩:=cells7 qa.out) | (go_at_call 44;(with_reducible refine (jV.calls qf 0 100000 qE _ A8.out).mono ?_);rintro e w' ⟨rfl,⟨nd,rfl⟩⟩));go_meet
    case rel=>exact ⟨_,(!qE),o2,H',⟨o3⟩,⟨bk qa.out⟩,⟨bs⟩⟩
   ·have H':=ak H;clear H;obtain ⟨_,_,_,_,_,_,_,_,_,_,_,_,_,_⟩:=cells7 qa.out;go_wp2_with (first | ((with_reducible refine gate_callee (f:=126) rfl ?_);refine glB 9 rfl rfl Tryz.func126 (qS.calls _ _ qt true _ (cv jT HB) jX.out A4.out) (fun w15 hb=>?_);replace qa:=b1 qa hb;replace HB:=b2s bs hb;(try clear hb);obtain ⟨_,_,_,_,_,_,_,_,_,_,_,_,_,_⟩:=cells7 qa.out) | (go_at_call 178;(with_reducible refine (JH.calls qd false _ A6.out).mono ?_);rintro e w17 ⟨rfl,hb⟩;replace qa:=b1 qa hb;replace HB:=b2s bs hb;(try clear hb)));go_meet
    case rel=>exact ⟨_,(true),o2,H',⟨o3⟩,⟨bk qa.out⟩,⟨bs⟩⟩
  ·have H':=ak H;clear H;obtain ⟨_,_,_,_,_,_,_,_,_,_,_,_,_,_⟩:=cells7 qa.out;go_wp2_with (((with_reducible refine gate_callee (f:=126) rfl ?_);refine glB 9 rfl rfl Tryz.func126 (qS.calls _ _ qt false _ (cv jT HB) jX.out A4.out) (fun w19 hb=>?_);replace qa:=b1 qa hb;replace HB:=b2s bs hb;(try clear hb)));go_meet
   case rel=>exact ⟨_,(true),o2,H',⟨o3⟩,⟨bk qa.out⟩,⟨bs⟩⟩
 case rest =>
  clear HC2;obtain ⟨kq,qiQ,rfl,HA,HJ1,qa,HB⟩:=hcut;cases kq with
  | zero=>exact absurd HA.out (by simp [jw.j0])
  | succ kj1 =>
   have H:=HA.out;clear HA;simp only [jw.j0] at H;replace H:=ib H;obtain ⟨rfl,H⟩ | ⟨rfl,H⟩:=H
   ·obtain rfl:=Option.some.inj H;go_wp2;go_ret;exact ⟨o1,bs⟩
   ·have qkH:=ak H;clear H;obtain ⟨qfR,qfQ,qfP,qfO,qfN,qfM,qfL,qfF,qfE,qfD,qfC,qfB,qfA,qfz⟩:=cells7 qa.out;go_upto_if 29 with (fail)
    go_cut [3] (fun v3 wc=>∃ (kq:Nat) (qeE:Bool),v3=.bool qeE∧Aside0 (jw.j1 kq qeE qt qd qf qg qH qe qb=some r)∧Aside0 (kq≤kj1)∧Aside0 (wc.heap[qc]?=some (.cells #[(.slice zt qt.length zr),.int .i64 qd,.int .i64 qf,.int .i64 qg,(.slice yC qH.length yA),(.slice jS qe.length jq),(.slice qN qb.length qM)] 105 (0,0)))∧Aside0 (Below w.heap.size w wc))
    case first =>
     have H:=qkH.out;clear qkH;replace H:=ie H;obtain ⟨c23b0,c23b1,H⟩ | ⟨c23b0,c23b1,H⟩:=H
     ·(first | rw [c23b0] | (simp only [i64_w,i32_w];rw [c23b0]) | skip)
      replace H:=ie H;obtain ⟨c24b0,c24b1,H⟩ | ⟨c24b0,c24b1,H⟩:=H
      ·replace H:=ipN H;obtain ⟨c25b0,H⟩:=H;have c25b1:decide (0 < qb.length)=true:=decide_eq_true (by have:=of_decide_eq_true c25b0;omega);replace H:=bnd H;obtain ⟨zQ,A26,H⟩:=H;replace H:=ib H;obtain ⟨rfl,H⟩ | ⟨rfl,H⟩:=H
       ·replace H:=ipN H;obtain ⟨c28b0,H⟩:=H;have c28b1:decide (1 < qb.length)=true:=decide_eq_true (by have:=of_decide_eq_true c28b0;omega);replace H:=bnd H;obtain ⟨jh,A29,H⟩:=H;have H':=ak H;clear H;obtain ⟨_,_,_,_,_,_,_,_,_,_,_,_,_,_⟩:=cells7 qa.out;obtain ⟨qdG,rfl,Qb,Zl,Zk⟩:=el0_int qK 0 (h0:=by decide);replace Zl:=of_eq_true Zl;replace Zk:=of_eq_true Zk;have qeG:(0 < qb.length)=True:=eq_true (by omega);(try rw [show ((0:Int)).toNat=0 from rfl] at Qb)
        (try rw [Addr.add_zero'] at Qb)
        replace Qb:=pw_cell_below HB.out Qb;replace Zl:=eq_true Zl;replace Zk:=eq_true Zk;go_wp2_with (first | (go_at_call 180;(with_reducible refine (ZA.calls (rd qb 0) true _ A26.out).mono ?_);rintro e w' ⟨rfl,⟨nd,rfl⟩⟩;have qad:0≤(1:Int):=(by omega);have qac:1 < (qb.length:Int):=of_decide_eq_true (by first | (with_reducible assumption) | assumption);obtain ⟨qoW,qp1,JY⟩:=Kd.at_int qK.out 1 qad qac;obtain rfl:qdG=qoW:=(by injection qp1);(try simp only [show (1:Int).toNat=1 from rfl,Nat.reduceMul,Nat.reduceEqDiff,Go.Addr.add,↓reduceIte] at JY);have qkN:(1 < qb.length)=True:=eq_true (by omega);(try rw [show ((1:Int)).toNat=1 from rfl] at JY);replace JY:=pw_cell_below HB.out JY;replace qad:=eq_true qad;replace qac:=eq_true qac) | (go_at_call 44;(with_reducible refine (jV.calls (rd qb 1) 0 100000 jh _ A29.out).mono ?_);rintro e w' ⟨rfl,⟨nd,rfl⟩⟩));go_meet
        case rel=>exact ⟨_,(jh),o2,H',⟨by have:=HJ1.out;first | omega | exact Nat.le_refl _⟩,⟨bk qa.out⟩,⟨bs⟩⟩
       ·have H':=ak H;clear H;obtain ⟨_,_,_,_,_,_,_,_,_,_,_,_,_,_⟩:=cells7 qa.out;obtain ⟨qdG,rfl,Qb,Zl,Zk⟩:=el0_int qK 0 (h0:=by decide);replace Zl:=of_eq_true Zl;replace Zk:=of_eq_true Zk;have qeG:(0 < qb.length)=True:=eq_true (by omega);(try rw [show ((0:Int)).toNat=0 from rfl] at Qb)
        (try rw [Addr.add_zero'] at Qb)
        replace Qb:=pw_cell_below HB.out Qb;replace Zl:=eq_true Zl;replace Zk:=eq_true Zk;go_wp2_with ((go_at_call 180;(with_reducible refine (ZA.calls (rd qb 0) false _ A26.out).mono ?_);rintro e w' ⟨rfl,⟨nd,rfl⟩⟩));go_meet
        case rel=>exact ⟨_,(false),o2,H',⟨by have:=HJ1.out;first | omega | exact Nat.le_refl _⟩,⟨bk qa.out⟩,⟨bs⟩⟩
      ·have H':=ak H;clear H;obtain ⟨_,_,_,_,_,_,_,_,_,_,_,_,_,_⟩:=cells7 qa.out;go_wp2;go_meet
       case rel=>exact ⟨_,(false),o2,H',⟨by have:=HJ1.out;first | omega | exact Nat.le_refl _⟩,⟨bk qa.out⟩,⟨bs⟩⟩
     ·(first | rw [c23b0] | (simp only [i64_w,i32_w];rw [c23b0]) | skip)
      have H':=ak H;clear H;go_wp2;go_meet
      case rel=>exact ⟨_,(((qb.length:Int) == 0)),o2,H',⟨by have:=HJ1.out;first | omega | exact Nat.le_refl _⟩,⟨bk qa.out⟩,⟨bs⟩⟩
    case rest =>
     clear qkH;(try clear qfR)
     (try clear qfQ)
     (try clear qfP)
     (try clear qfO)
     (try clear qfN)
     (try clear qfM)
     (try clear qfL)
     (try clear qfF)
     (try clear qfE)
     (try clear qfD)
     (try clear qfC)
     (try clear qfB)
     (try clear qfA)
     (try clear qfz)
     obtain ⟨kq,qeE,rfl,HA,qgd,qa,HB⟩:=hcut;cases kq with
     | zero=>exact absurd HA.out (by simp [jw.j1])
     | succ qpD =>
      have H:=HA.out;clear HA;simp only [jw.j1] at H;have qkE:=ak H;clear H;go_upto_region 6 with (fail)
      go_cut [4] (fun v4 wc=>∃ (kq:Nat) (qgl:Bool),v4=.bool qgl∧Aside0 (jw.j2 kq qeE qgl qt qd qf qg qH qe qb=some r)∧Aside0 (kq≤qpD)∧Aside0 (wc.heap[qc]?=some (.cells #[(.slice zt qt.length zr),.int .i64 qd,.int .i64 qf,.int .i64 qg,(.slice yC qH.length yA),(.slice jS qe.length jq),(.slice qN qb.length qM)] 105 (0,0)))∧Aside0 (Below w.heap.size w wc))
      case first =>
       have H:=qkE.out;clear qkE;replace H:=ie H;obtain ⟨c34b0,c34b1,H⟩ | ⟨c34b0,c34b1,H⟩:=H
       ·(first | rw [c34b0] | (simp only [i64_w,i32_w];rw [c34b0]) | skip)
        have H':=ak H;clear H;obtain ⟨_,_,_,_,_,_,_,_,_,_,_,_,_,_⟩:=cells7 qa.out;go_wp2;go_meet
        case rel=>exact ⟨_,(true),o2,H',⟨by have:=HJ1.out;have:=qgd.out;first | omega | exact Nat.le_refl _⟩,⟨bk qa.out⟩,⟨bs⟩⟩
       ·(first | rw [c34b0] | (simp only [i64_w,i32_w];rw [c34b0]) | skip)
        replace H:=ie H;obtain ⟨c36b0,c36b1,H⟩ | ⟨c36b0,c36b1,H⟩:=H
        ·replace H:=bnd H;obtain ⟨zd,A37,H⟩:=H;have H':=ak H;clear H;obtain ⟨_,_,_,_,_,_,_,_,_,_,_,_,_,_⟩:=cells7 qa.out;go_wp2_with ((go_at_call 180;(with_reducible refine (ZA.calls qg zd _ A37.out).mono ?_);rintro e w' ⟨rfl,⟨nd,rfl⟩⟩));go_meet
         case rel=>exact ⟨_,(zd),o2,H',⟨by have:=HJ1.out;have:=qgd.out;first | omega | exact Nat.le_refl _⟩,⟨bk qa.out⟩,⟨bs⟩⟩
        ·have H':=ak H;clear H;obtain ⟨_,_,_,_,_,_,_,_,_,_,_,_,_,_⟩:=cells7 qa.out;go_wp2;go_meet
         case rel=>exact ⟨_,(false),o2,H',⟨by have:=HJ1.out;have:=qgd.out;first | omega | exact Nat.le_refl _⟩,⟨bk qa.out⟩,⟨bs⟩⟩
      case rest =>
       clear qkE;(try clear qfR)
       (try clear qfQ)
       (try clear qfP)
       (try clear qfO)
       (try clear qfN)
       (try clear qfM)
       (try clear qfL)
       (try clear qfF)
       (try clear qfE)
       (try clear qfD)
       (try clear qfC)
       (try clear qfB)
       (try clear qfA)
       (try clear qfz)
       obtain ⟨kq,qgl,rfl,HA,qkA,qa,HB⟩:=hcut;cases kq with
       | zero=>exact absurd HA.out (by simp [jw.j2])
       | succ qpC =>
        have H:=HA.out;clear HA;simp only [jw.j2] at H;have qkD:=ak H;clear H;go_upto_region 7 with (fail)
        go_cut [5] (fun v5 wc=>∃ (kq:Nat) (qiM:Bool),v5=.bool qiM∧Aside0 (jw.j3 kq qeE qgl qiM qt qd qf qg qH qe qb=some r)∧Aside0 (kq≤qpC)∧Aside0 (wc.heap[qc]?=some (.cells #[(.slice zt qt.length zr),.int .i64 qd,.int .i64 qf,.int .i64 qg,(.slice yC qH.length yA),(.slice jS qe.length jq),(.slice qN qb.length qM)] 105 (0,0)))∧Aside0 (Below w.heap.size w wc))
        case first =>
         have H:=qkD.out;clear qkD;replace H:=ie H;obtain ⟨c41b0,c41b1,H⟩ | ⟨c41b0,c41b1,H⟩:=H
         ·(first | rw [c41b0] | (simp only [i64_w,i32_w];rw [c41b0]) | skip)
          have H':=ak H;clear H;obtain ⟨_,_,_,_,_,_,_,_,_,_,_,_,_,_⟩:=cells7 qa.out;go_wp2;go_meet
          case rel=>exact ⟨_,(true),o2,H',⟨by have:=HJ1.out;have:=qgd.out;have:=qkA.out;first | omega | exact Nat.le_refl _⟩,⟨bk qa.out⟩,⟨bs⟩⟩
         ·have c41b2:¬ (qH=[]):=fun h_=>bne_iff_ne.mp c41b1 (by rw [h_];rfl)
          (first | rw [c41b0] | (simp only [i64_w,i32_w];rw [c41b0]) | skip)
          replace H:=bnd H;obtain ⟨zu,A43,H⟩:=H;replace H:=ib H;obtain ⟨rfl,H⟩ | ⟨rfl,H⟩:=H
          ·replace H:=bnd H;obtain ⟨zJ,A45,H⟩:=H;have H':=ak H;clear H;obtain ⟨_,_,_,_,_,_,_,_,_,_,_,_,_,_⟩:=cells7 qa.out;go_wp2_with (first | (go_at_call 179;(with_reducible refine (ZH.calls qd true _ A43.out).mono ?_);rintro e w' ⟨rfl,⟨nd,rfl⟩⟩) | (go_at_call 126;(with_reducible refine (qS.calls _ _ qH zJ _ ?qO yW.out A45.out).mono ?_);(case qO=>repeat (first | exact (Kd.C_below yV.out bs) | (with_reducible refine Kd.C_alloc ?_ _) | (with_reducible refine Kd.C_drewN ?_ _) | (with_reducible refine Kd.C_drew ?_)));rintro e w47 ⟨rfl,hb⟩;replace qa:=b1 qa hb;replace HB:=b2s bs hb;(try clear hb)));go_meet
           case rel=>exact ⟨_,(zJ),o2,H',⟨by have:=HJ1.out;have:=qgd.out;have:=qkA.out;first | omega | exact Nat.le_refl _⟩,⟨bk qa.out⟩,⟨bs⟩⟩
          ·have H':=ak H;clear H;obtain ⟨_,_,_,_,_,_,_,_,_,_,_,_,_,_⟩:=cells7 qa.out;go_wp2_with ((go_at_call 179;(with_reducible refine (ZH.calls qd false _ A43.out).mono ?_);rintro e w' ⟨rfl,⟨nd,rfl⟩⟩));go_meet
           case rel=>exact ⟨_,(false),o2,H',⟨by have:=HJ1.out;have:=qgd.out;have:=qkA.out;first | omega | exact Nat.le_refl _⟩,⟨bk qa.out⟩,⟨bs⟩⟩
        case rest =>
         clear qkD;(try clear qfR)
         (try clear qfQ)
         (try clear qfP)
         (try clear qfO)
         (try clear qfN)
         (try clear qfM)
         (try clear qfL)
         (try clear qfF)
         (try clear qfE)
         (try clear qfD)
         (try clear qfC)
         (try clear qfB)
         (try clear qfA)
         (try clear qfz)
         obtain ⟨kq,qiM,rfl,HA,qvd,qa,HB⟩:=hcut;cases kq with
         | zero=>exact absurd HA.out (by simp [jw.j3])
         | succ qu5 =>
          have H:=HA.out;clear HA;simp only [jw.j3] at H;replace H:=ie H;obtain ⟨c49b0,c49b1,H⟩ | ⟨c49b0,c49b1,H⟩:=H
          ·replace H:=ib H;obtain ⟨rfl,H⟩ | ⟨rfl,H⟩:=H
           ·replace H:=ib H;obtain ⟨rfl,H⟩ | ⟨rfl,H⟩:=H
            ·replace H:=ib H;obtain ⟨rfl,H⟩ | ⟨rfl,H⟩:=H
             ·obtain rfl:=Option.some.inj H;obtain ⟨_,_,_,_,_,_,_,_,_,_,_,_,_,_⟩:=cells7 qa.out;go_wp2;go_ret;exact ⟨o1,bs⟩
             ·obtain rfl:=Option.some.inj H;obtain ⟨_,_,_,_,_,_,_,_,_,_,_,_,_,_⟩:=cells7 qa.out;go_wp2;go_ret;exact ⟨o1,bs⟩
            ·obtain rfl:=Option.some.inj H;obtain ⟨_,_,_,_,_,_,_,_,_,_,_,_,_,_⟩:=cells7 qa.out;go_wp2;go_ret;exact ⟨o1,bs⟩
           ·obtain rfl:=Option.some.inj H;obtain ⟨_,_,_,_,_,_,_,_,_,_,_,_,_,_⟩:=cells7 qa.out;go_wp2;go_ret;exact ⟨o1,bs⟩
          ·have c49b2:¬ (qe=[]):=fun h_=>bne_iff_ne.mp c49b1 (by rw [h_];rfl)
           replace H:=bnd H;obtain ⟨QV,A57,H⟩:=H;replace H:=ib H;obtain ⟨rfl,H⟩ | ⟨rfl,H⟩:=H
           ·replace H:=ib H;obtain ⟨rfl,H⟩ | ⟨rfl,H⟩:=H
            ·replace H:=ib H;obtain ⟨rfl,H⟩ | ⟨rfl,H⟩:=H
             ·replace H:=ib H;obtain ⟨rfl,H⟩ | ⟨rfl,H⟩:=H
              ·obtain rfl:=Option.some.inj H;obtain ⟨_,_,_,_,_,_,_,_,_,_,_,_,_,_⟩:=cells7 qa.out;go_wp2_with ((go_at_call 181;(with_reducible refine (Jl.calls qd true _ A57.out).mono ?_);rintro e w' ⟨rfl,⟨nd,rfl⟩⟩));go_ret;exact ⟨o1,bs⟩
              ·obtain rfl:=Option.some.inj H;obtain ⟨_,_,_,_,_,_,_,_,_,_,_,_,_,_⟩:=cells7 qa.out;go_wp2_with ((go_at_call 181;(with_reducible refine (Jl.calls qd true _ A57.out).mono ?_);rintro e w' ⟨rfl,⟨nd,rfl⟩⟩));go_ret;exact ⟨o1,bs⟩
             ·obtain rfl:=Option.some.inj H;obtain ⟨_,_,_,_,_,_,_,_,_,_,_,_,_,_⟩:=cells7 qa.out;go_wp2_with ((go_at_call 181;(with_reducible refine (Jl.calls qd true _ A57.out).mono ?_);rintro e w' ⟨rfl,⟨nd,rfl⟩⟩));go_ret;exact ⟨o1,bs⟩
            ·obtain rfl:=Option.some.inj H;obtain ⟨_,_,_,_,_,_,_,_,_,_,_,_,_,_⟩:=cells7 qa.out;go_wp2_with ((go_at_call 181;(with_reducible refine (Jl.calls qd true _ A57.out).mono ?_);rintro e w' ⟨rfl,⟨nd,rfl⟩⟩));go_ret;exact ⟨o1,bs⟩
           ·replace H:=ib H;obtain ⟨rfl,H⟩ | ⟨rfl,H⟩:=H
            ·replace H:=ib H;obtain ⟨rfl,H⟩ | ⟨rfl,H⟩:=H
             ·replace H:=ib H;obtain ⟨rfl,H⟩ | ⟨rfl,H⟩:=H
              ·obtain rfl:=Option.some.inj H;obtain ⟨_,_,_,_,_,_,_,_,_,_,_,_,_,_⟩:=cells7 qa.out;go_wp2_with ((go_at_call 181;(with_reducible refine (Jl.calls qd false _ A57.out).mono ?_);rintro e w' ⟨rfl,⟨nd,rfl⟩⟩));go_ret;exact ⟨o1,bs⟩
              ·obtain rfl:=Option.some.inj H;obtain ⟨_,_,_,_,_,_,_,_,_,_,_,_,_,_⟩:=cells7 qa.out;go_wp2_with ((go_at_call 181;(with_reducible refine (Jl.calls qd false _ A57.out).mono ?_);rintro e w' ⟨rfl,⟨nd,rfl⟩⟩));go_ret;exact ⟨o1,bs⟩
             ·obtain rfl:=Option.some.inj H;obtain ⟨_,_,_,_,_,_,_,_,_,_,_,_,_,_⟩:=cells7 qa.out;go_wp2_with ((go_at_call 181;(with_reducible refine (Jl.calls qd false _ A57.out).mono ?_);rintro e w' ⟨rfl,⟨nd,rfl⟩⟩));go_ret;exact ⟨o1,bs⟩
            ·obtain rfl:=Option.some.inj H;obtain ⟨_,_,_,_,_,_,_,_,_,_,_,_,_,_⟩:=cells7 qa.out;go_wp2_with ((go_at_call 181;(with_reducible refine (Jl.calls qd false _ A57.out).mono ?_);rintro e w' ⟨rfl,⟨nd,rfl⟩⟩));go_ret;exact ⟨o1,bs⟩

def Jf.f (a0:Int):Option (Bool):=if a0=1 then (some true) else (if a0=2 then (some true) else (if a0=5 then (some true) else (if a0=6 then (some true) else (if a0=12 then (some true) else (if a0=16 then (some true) else (if a0=49 then (some true) else (some false)))))))
set_option maxHeartbeats 8000000 in
set_option maxRecDepth 100000 in
theorem Jf.calls (a0:Int) (r:Bool) (w:World) (h:Jf.f a0=some r) :
  Calls Tryz.prog 169 #[.int .i64 a0] w fun e w'=>e=.returned (.bool r)∧Drawn0 w w':=by
 have H:(if a0=1 then (some true) else (if a0=2 then (some true) else (if a0=5 then (some true) else (if a0=6 then (some true) else (if a0=12 then (some true) else (if a0=16 then (some true) else (if a0=49 then (some true) else (some false))))))))=some r:=h;clear h;replace H:=ie H;obtain ⟨c2b0,c2b1,H⟩ | ⟨c2b0,c2b1,H⟩:=H
 ·obtain rfl:=Option.some.inj H;go_enter Tryz.func169,Tryz.ntmps169;go_wp2;go_ret;exact ⟨o2,od⟩
 ·replace H:=ie H;obtain ⟨c3b0,c3b1,H⟩ | ⟨c3b0,c3b1,H⟩:=H
  ·obtain rfl:=Option.some.inj H;go_enter Tryz.func169,Tryz.ntmps169;go_wp2;go_ret;exact ⟨o2,od⟩
  ·replace H:=ie H;obtain ⟨c4b0,c4b1,H⟩ | ⟨c4b0,c4b1,H⟩:=H
   ·obtain rfl:=Option.some.inj H;go_enter Tryz.func169,Tryz.ntmps169;go_wp2;go_ret;exact ⟨o2,od⟩
   ·replace H:=ie H;obtain ⟨c5b0,c5b1,H⟩ | ⟨c5b0,c5b1,H⟩:=H
    ·obtain rfl:=Option.some.inj H;go_enter Tryz.func169,Tryz.ntmps169;go_wp2;go_ret;exact ⟨o2,od⟩
    ·replace H:=ie H;obtain ⟨c6b0,c6b1,H⟩ | ⟨c6b0,c6b1,H⟩:=H
     ·obtain rfl:=Option.some.inj H;go_enter Tryz.func169,Tryz.ntmps169;go_wp2;go_ret;exact ⟨o2,od⟩
     ·replace H:=ie H;obtain ⟨c7b0,c7b1,H⟩ | ⟨c7b0,c7b1,H⟩:=H
      ·obtain rfl:=Option.some.inj H;go_enter Tryz.func169,Tryz.ntmps169;go_wp2;go_ret;exact ⟨o2,od⟩
      ·replace H:=ie H;obtain ⟨c8b0,c8b1,H⟩ | ⟨c8b0,c8b1,H⟩:=H
       ·obtain rfl:=Option.some.inj H;go_enter Tryz.func169,Tryz.ntmps169;go_wp2;go_ret;exact ⟨o2,od⟩
       ·obtain rfl:=Option.some.inj H;go_enter Tryz.func169,Tryz.ntmps169;go_wp2;go_ret;exact ⟨o2,od⟩

def JS.f (a0:Int):Option (Bool):=if a0=2 then (some true) else (if a0=5 then (some true) else (if a0=6 then (some true) else (some (a0 == 12))))
set_option maxHeartbeats 8000000 in
set_option maxRecDepth 100000 in
theorem JS.calls (a0:Int) (r:Bool) (w:World) (h:JS.f a0=some r) :
  Calls Tryz.prog 205 #[.int .i64 a0] w fun e w'=>e=.returned (.bool r)∧Drawn0 w w':=by
 have H:(if a0=2 then (some true) else (if a0=5 then (some true) else (if a0=6 then (some true) else (some (a0 == 12)))))=some r:=h;clear h;replace H:=ie H;obtain ⟨c2b0,c2b1,H⟩ | ⟨c2b0,c2b1,H⟩:=H
 ·obtain rfl:=Option.some.inj H;go_enter Tryz.func205,Tryz.ntmps205;go_wp2;go_ret;exact ⟨o2,od⟩
 ·replace H:=ie H;obtain ⟨c3b0,c3b1,H⟩ | ⟨c3b0,c3b1,H⟩:=H
  ·obtain rfl:=Option.some.inj H;go_enter Tryz.func205,Tryz.ntmps205;go_wp2;go_ret;exact ⟨o2,od⟩
  ·replace H:=ie H;obtain ⟨c4b0,c4b1,H⟩ | ⟨c4b0,c4b1,H⟩:=H
   ·obtain rfl:=Option.some.inj H;go_enter Tryz.func205,Tryz.ntmps205;go_wp2;go_ret;exact ⟨o2,od⟩
   ·obtain rfl:=Option.some.inj H;go_enter Tryz.func205,Tryz.ntmps205;go_wp2;go_ret;exact ⟨o2,od⟩

def Yz.f (a0:Int):Option (Bool):=if a0=16 then (some true) else (some (a0 == 49))
set_option maxHeartbeats 8000000 in
set_option maxRecDepth 100000 in
theorem Yz.calls (a0:Int) (r:Bool) (w:World) (h:Yz.f a0=some r) :
  Calls Tryz.prog 209 #[.int .i64 a0] w fun e w'=>e=.returned (.bool r)∧Drawn0 w w':=by
 have H:(if a0=16 then (some true) else (some (a0 == 49)))=some r:=h;clear h;replace H:=ie H;obtain ⟨c2b0,c2b1,H⟩ | ⟨c2b0,c2b1,H⟩:=H
 ·obtain rfl:=Option.some.inj H;go_enter Tryz.func209,Tryz.ntmps209;go_wp2;go_ret;exact ⟨o2,od⟩
 ·obtain rfl:=Option.some.inj H;go_enter Tryz.func209,Tryz.ntmps209;go_wp2;go_ret;exact ⟨o2,od⟩

mutual
def ze.j0:Nat→List (List Int)→Int→Int→Int→List (List Int)→List Int→List Int→Option (Bool)
 | 0,_,_,_,_,_,_,_=>none
 | k+1,jy,jx,jI,jK,jJ,jk,ja=>(JS.f jx).bind fun qA=>(if qA=true then ((jG.f k jJ).bind fun qW=>(if qW=true then (ze.j1 k jy jx jI jK jJ jk ja) else (some false))) else (if (jJ.length:Int) > 0 then (some false) else (ze.j1 k jy jx jI jK jJ jk ja)))
def ze.j1:Nat→List (List Int)→Int→Int→Int→List (List Int)→List Int→List Int→Option (Bool)
 | 0,_,_,_,_,_,_,_=>none
 | k+1,jy,jx,jI,jK,jJ,jk,ja=>(Yz.f jx).bind fun qE=>(if qE=true then (if (jk.length:Int) > 40 then (some false) else (ze.j2 k jy jx jI jK jJ jk ja)) else (if (jk.length:Int) > 0 then (some false) else (ze.j2 k jy jx jI jK jJ jk ja)))
def ze.j2:Nat→List (List Int)→Int→Int→Int→List (List Int)→List Int→List Int→Option (Bool)
 | 0,_,_,_,_,_,_,_=>none
 | k+1,jy,jx,jI,jK,jJ,jk,ja=>if jx=6 then (if (ja.length:Int)=2 then (if 0 < (ja.length:Int) then (if (rd ja 0) < 0 then (some false) else (if (rd ja 0) ≥ 4294967296 then (some false) else (if 1 < (ja.length:Int) then (if (rd ja 1) ≥ 0 then (some (decide ((rd ja 1)≤100000))) else (some false)) else (none)))) else (none)) else (some false)) else (some ((ja.length:Int) == 0))
end
def ze.f (k:Nat) (qt:List (List Int)) (qd:Int) (qf:Int) (qg:Int) (qH:List (List Int)) (qe:List Int) (qb:List Int):Option (Bool):=if qd=1 then (if qg < 0 then (some false) else (if qg ≥ 4294967296 then (some false) else (ze.j0 k qt qd qf qg qH qe qb))) else (if qg=0 then (ze.j0 k qt qd qf qg qH qe qb) else (some false))
set_option maxHeartbeats 8000000 in
set_option maxRecDepth 100000 in
theorem ze.calls (k:Nat) (zt:Option Addr) (zr:Nat) (qt:List (List Int)) (qd:Int) (qf:Int) (qg:Int) (yC:Option Addr) (yA:Nat) (qH:List (List Int)) (jS:Option Addr) (jq:Nat) (qe:List Int) (qN:Option Addr) (qM:Nat) (qb:List Int) (r:Bool) (w:World) (zw:Kd.C (Kd.slice 5 (Kd.int .u8)) w zt qt.length qt) (zE:qt.length≤zr) (Qf:Kd.C (Kd.slice 5 (Kd.int .u8)) w yC qH.length qH) (Qg:qH.length≤yA) (zl:Kd.C (Kd.int .u8) w jS qe.length qe) (zm:qe.length≤jq) (jo:Kd.C (Kd.int .i64) w qN qb.length qb) (jp:qb.length≤qM) (h:ze.f k qt qd qf qg qH qe qb=some r) :
  Calls Tryz.prog 182 #[.agg #[.slice zt qt.length zr,.int .i64 qd,.int .i64 qf,.int .i64 qg,.slice yC qH.length yA,.slice jS qe.length jq,.slice qN qb.length qM]] w fun e w'=>e=.returned (.bool r)∧Below w.heap.size w w':=by
 have YH:=Tryz.underlying105;have YO:=Tryz.underlying65;have jT:=ak zw;have jX:=ak zE;clear zw zE;have yV:=ak Qf;have yW:=ak Qg;clear Qf Qg;have jP:=ak zl;have zB:=ak zm;clear zl zm;have qK:=ak jo;have qQ:=ak jp;clear jo jp;have HB:=ak (Below.refl w.heap.size w);have H:(if qd=1 then (if qg < 0 then (some false) else (if qg ≥ 4294967296 then (some false) else (ze.j0 k qt qd qf qg qH qe qb))) else (if qg=0 then (ze.j0 k qt qd qf qg qH qe qb) else (some false)))=some r:=h;clear h;have HC2:=ak H;clear H;go_enter Tryz.func182,Tryz.ntmps182;go_upto_if 5 with (((with_reducible refine gate_dst (N:=1) rfl ?_);refine bxd (N:=1) rfl HB ?_;clear HB;intro qc w3 hg HB qa qq hb;have qC:=qq;clear hb hg;obtain ⟨YC,Xa,YZ,YY,YX,YW,YV,YB,YU,YT,YS,YR,YQ,YP⟩:=cells7 qa.out))
 (try simp only [Act.put,List.setIfInBounds_toArray,List.set_cons_zero,List.set_cons_succ])
 go_cut [] (fun wc=>∃ (kq:Nat),Aside0 (ze.j0 kq qt qd qf qg qH qe qb=some r)∧Aside0 (kq≤k)∧Aside0 (wc.heap[qc]?=some (.cells #[(.slice zt qt.length zr),.int .i64 qd,.int .i64 qf,.int .i64 qg,(.slice yC qH.length yA),(.slice jS qe.length jq),(.slice qN qb.length qM)] 105 (0,0)))∧Aside0 (Below w.heap.size w wc))
 case first =>
  have H:=HC2.out;clear HC2;replace H:=ie H;obtain ⟨c5b0,c5b1,H⟩ | ⟨c5b0,c5b1,H⟩:=H
  ·(first | rw [c5b0] | (simp only [i64_w,i32_w];rw [c5b0]) | skip)
   replace H:=ip H;obtain ⟨c6b0,H⟩ | ⟨c6b0,H⟩:=H
   ·obtain rfl:=Option.some.inj H;obtain ⟨_,_,_,_,_,_,_,_,_,_,_,_,_,_⟩:=cells7 qa.out;go_wp2;go_ret;exact ⟨o1,bs⟩
   ·replace H:=ih H;obtain ⟨c8b0,H⟩ | ⟨c8b0,H⟩:=H
    ·obtain rfl:=Option.some.inj H;obtain ⟨_,_,_,_,_,_,_,_,_,_,_,_,_,_⟩:=cells7 qa.out;go_wp2;go_ret;exact ⟨o1,bs⟩
    ·have H':=ak H;clear H;obtain ⟨_,_,_,_,_,_,_,_,_,_,_,_,_,_⟩:=cells7 qa.out;go_wp2;go_meet
     case rel=>exact ⟨_,H',⟨o3⟩,⟨bk qa.out⟩,⟨bs⟩⟩
  ·(first | rw [c5b0] | (simp only [i64_w,i32_w];rw [c5b0]) | skip)
   replace H:=ie H;obtain ⟨c11b0,c11b1,H⟩ | ⟨c11b0,c11b1,H⟩:=H
   ·have H':=ak H;clear H;obtain ⟨_,_,_,_,_,_,_,_,_,_,_,_,_,_⟩:=cells7 qa.out;go_wp2;go_meet
    case rel=>exact ⟨_,H',⟨o3⟩,⟨bk qa.out⟩,⟨bs⟩⟩
   ·obtain rfl:=Option.some.inj H;obtain ⟨_,_,_,_,_,_,_,_,_,_,_,_,_,_⟩:=cells7 qa.out;go_wp2;go_ret;exact ⟨o1,bs⟩
 case rest =>
  clear HC2;(try clear YC)
  (try clear Xa)
  (try clear YZ)
  (try clear YY)
  (try clear YX)
  (try clear YW)
  (try clear YV)
  (try clear YB)
  (try clear YU)
  (try clear YT)
  (try clear YS)
  (try clear YR)
  (try clear YQ)
  (try clear YP)
  obtain ⟨kq,HA,HJ1,qa,HB⟩:=hcut;cases kq with
  | zero=>exact absurd HA.out (by simp [ze.j0])
  | succ kj1 =>
   have H:=HA.out;clear HA;simp only [ze.j0] at H;replace H:=bnd H;obtain ⟨qA,A14,H⟩:=H;have qkI:=ak H;clear H;obtain ⟨qiC,qiB,qiA,qiz,qiy,qix,qiw,qil,qik,qij,qii,qih,qig,qif⟩:=cells7 qa.out;go_upto_if 19 with (((with_reducible refine gate_callee (f:=205) rfl ?_);refine glD 19 rfl rfl Tryz.func205 (JS.calls qd qA _ A14.out) (fun nd=>?_)))
   (try simp only [Act.put,List.setIfInBounds_toArray,List.set_cons_zero,List.set_cons_succ])
   go_cut [] (fun wc=>∃ (kq:Nat),Aside0 (ze.j1 kq qt qd qf qg qH qe qb=some r)∧Aside0 (kq≤kj1)∧Aside0 (wc.heap[qc]?=some (.cells #[(.slice zt qt.length zr),.int .i64 qd,.int .i64 qf,.int .i64 qg,(.slice yC qH.length yA),(.slice jS qe.length jq),(.slice qN qb.length qM)] 105 (0,0)))∧Aside0 (Below w.heap.size w wc))
   case first =>
    have H:=qkI.out;clear qkI;replace H:=ib H;obtain ⟨rfl,H⟩ | ⟨rfl,H⟩:=H
    ·replace H:=bnd H;obtain ⟨qW,A18,H⟩:=H;replace H:=ib H;obtain ⟨rfl,H⟩ | ⟨rfl,H⟩:=H
     ·have H':=ak H;clear H;obtain ⟨_,_,_,_,_,_,_,_,_,_,_,_,_,_⟩:=cells7 qa.out;go_wp2_with (((with_reducible refine gate_callee (f:=119) rfl ?_);refine glB 22 rfl rfl Tryz.func119 (jG.calls kj1 _ _ qH true _ (cv yV HB) yW.out A18.out) (fun w21 hb=>?_);replace qa:=b1 qa hb;replace HB:=b2s bs hb;(try clear hb)));go_meet
      case rel=>exact ⟨_,H',⟨by have:=HJ1.out;first | omega | exact Nat.le_refl _⟩,⟨bk qa.out⟩,⟨bs⟩⟩
     ·obtain rfl:=Option.some.inj H;obtain ⟨_,_,_,_,_,_,_,_,_,_,_,_,_,_⟩:=cells7 qa.out;go_wp2_with (((with_reducible refine gate_callee (f:=119) rfl ?_);refine glB 22 rfl rfl Tryz.func119 (jG.calls kj1 _ _ qH false _ (cv yV HB) yW.out A18.out) (fun w23 hb=>?_);replace qa:=b1 qa hb;replace HB:=b2s bs hb;(try clear hb)));go_ret;exact ⟨o1,bs⟩
    ·replace H:=ig H;obtain ⟨c24b0,H⟩ | ⟨c24b0,H⟩:=H
     ·have c24b1:decide (0 < qH.length)=true:=decide_eq_true (by have:=of_decide_eq_true c24b0;omega);(first | rw [c24b0] | (simp only [i64_w,i32_w];rw [c24b0]) | skip)
      obtain rfl:=Option.some.inj H;obtain ⟨_,_,_,_,_,_,_,_,_,_,_,_,_,_⟩:=cells7 qa.out;go_wp2;go_ret;exact ⟨o1,bs⟩
     ·have c24b1:decide (0 < qH.length)=false:=decide_eq_false (by have:=of_decide_eq_false c24b0;omega);(first | rw [c24b0] | (simp only [i64_w,i32_w];rw [c24b0]) | skip)
      have H':=ak H;clear H;obtain ⟨_,_,_,_,_,_,_,_,_,_,_,_,_,_⟩:=cells7 qa.out;go_wp2;go_meet
      case rel=>exact ⟨_,H',⟨by have:=HJ1.out;first | omega | exact Nat.le_refl _⟩,⟨bk qa.out⟩,⟨bs⟩⟩
   case rest =>
    clear qkI;(try clear qiC)
    (try clear qiB)
    (try clear qiA)
    (try clear qiz)
    (try clear qiy)
    (try clear qix)
    (try clear qiw)
    (try clear YC)
    (try clear Xa)
    (try clear YZ)
    (try clear YY)
    (try clear YX)
    (try clear YW)
    (try clear YV)
    (try clear qil)
    (try clear qik)
    (try clear qij)
    (try clear qii)
    (try clear qih)
    (try clear qig)
    (try clear qif)
    (try clear YB)
    (try clear YU)
    (try clear YT)
    (try clear YS)
    (try clear YR)
    (try clear YQ)
    (try clear YP)
    obtain ⟨kq,HA,qoi,qa,HB⟩:=hcut;cases kq with
    | zero=>exact absurd HA.out (by simp [ze.j1])
    | succ qpE =>
     have H:=HA.out;clear HA;simp only [ze.j1] at H;replace H:=bnd H;obtain ⟨qE,A27,H⟩:=H;have qkF:=ak H;clear H;obtain ⟨qmd,qmc,qmb,qma,ql9,ql8,ql7,qlK,qlJ,qlI,qlH,qlG,qlF,qlE⟩:=cells7 qa.out;go_upto_if 31 with (((with_reducible refine gate_callee (f:=209) rfl ?_);refine glD 31 rfl rfl Tryz.func209 (Yz.calls qd qE _ A27.out) (fun nd=>?_)))
     (try simp only [Act.put,List.setIfInBounds_toArray,List.set_cons_zero,List.set_cons_succ])
     go_cut [] (fun wc=>∃ (kq:Nat),Aside0 (ze.j2 kq qt qd qf qg qH qe qb=some r)∧Aside0 (kq≤qpE)∧Aside0 (wc.heap[qc]?=some (.cells #[(.slice zt qt.length zr),.int .i64 qd,.int .i64 qf,.int .i64 qg,(.slice yC qH.length yA),(.slice jS qe.length jq),(.slice qN qb.length qM)] 105 (0,0)))∧Aside0 (Below w.heap.size w wc))
     case first =>
      have H:=qkF.out;clear qkF;replace H:=ib H;obtain ⟨rfl,H⟩ | ⟨rfl,H⟩:=H
      ·replace H:=ig H;obtain ⟨c31b0,H⟩ | ⟨c31b0,H⟩:=H
       ·have c31b1:decide (40 < qe.length)=true:=decide_eq_true (by have:=of_decide_eq_true c31b0;omega);(first | rw [c31b0] | (simp only [i64_w,i32_w];rw [c31b0]) | skip)
        obtain rfl:=Option.some.inj H;obtain ⟨_,_,_,_,_,_,_,_,_,_,_,_,_,_⟩:=cells7 qa.out;go_wp2;go_ret;exact ⟨o1,bs⟩
       ·have c31b1:decide (40 < qe.length)=false:=decide_eq_false (by have:=of_decide_eq_false c31b0;omega);(first | rw [c31b0] | (simp only [i64_w,i32_w];rw [c31b0]) | skip)
        have H':=ak H;clear H;obtain ⟨_,_,_,_,_,_,_,_,_,_,_,_,_,_⟩:=cells7 qa.out;go_wp2;go_meet
        case rel=>exact ⟨_,H',⟨by have:=HJ1.out;have:=qoi.out;first | omega | exact Nat.le_refl _⟩,⟨bk qa.out⟩,⟨bs⟩⟩
      ·replace H:=ig H;obtain ⟨c34b0,H⟩ | ⟨c34b0,H⟩:=H
       ·have c34b1:decide (0 < qe.length)=true:=decide_eq_true (by have:=of_decide_eq_true c34b0;omega);obtain rfl:=Option.some.inj H;obtain ⟨_,_,_,_,_,_,_,_,_,_,_,_,_,_⟩:=cells7 qa.out;go_wp2;go_ret;exact ⟨o1,bs⟩
       ·have c34b1:decide (0 < qe.length)=false:=decide_eq_false (by have:=of_decide_eq_false c34b0;omega);have H':=ak H;clear H;obtain ⟨_,_,_,_,_,_,_,_,_,_,_,_,_,_⟩:=cells7 qa.out;go_wp2;go_meet
        case rel=>exact ⟨_,H',⟨by have:=HJ1.out;have:=qoi.out;first | omega | exact Nat.le_refl _⟩,⟨bk qa.out⟩,⟨bs⟩⟩
     case rest =>
      clear qkF;(try clear qiC)
      (try clear qiB)
      (try clear qiA)
      (try clear qiz)
      (try clear qiy)
      (try clear qix)
      (try clear qiw)
      (try clear qmd)
      (try clear qmc)
      (try clear qmb)
      (try clear qma)
      (try clear ql9)
      (try clear ql8)
      (try clear ql7)
      (try clear YC)
      (try clear Xa)
      (try clear YZ)
      (try clear YY)
      (try clear YX)
      (try clear YW)
      (try clear YV)
      (try clear qil)
      (try clear qik)
      (try clear qij)
      (try clear qii)
      (try clear qih)
      (try clear qig)
      (try clear qif)
      (try clear qlK)
      (try clear qlJ)
      (try clear qlI)
      (try clear qlH)
      (try clear qlG)
      (try clear qlF)
      (try clear qlE)
      (try clear YB)
      (try clear YU)
      (try clear YT)
      (try clear YS)
      (try clear YR)
      (try clear YQ)
      (try clear YP)
      obtain ⟨kq,HA,qve,qa,HB⟩:=hcut;cases kq with
      | zero=>exact absurd HA.out (by simp [ze.j2])
      | succ qu6 =>
       have H:=HA.out;clear HA;simp only [ze.j2] at H;replace H:=ie H;obtain ⟨c37b0,c37b1,H⟩ | ⟨c37b0,c37b1,H⟩:=H
       ·replace H:=ie H;obtain ⟨c38b0,c38b1,H⟩ | ⟨c38b0,c38b1,H⟩:=H
        ·replace H:=ipN H;obtain ⟨c39b0,H⟩:=H;have c39b1:decide (0 < qb.length)=true:=decide_eq_true (by have:=of_decide_eq_true c39b0;omega);replace H:=ip H;obtain ⟨c40b0,H⟩ | ⟨c40b0,H⟩:=H
         ·obtain rfl:=Option.some.inj H;obtain ⟨_,_,_,_,_,_,_,_,_,_,_,_,_,_⟩:=cells7 qa.out;obtain ⟨qdG,rfl,Qb,Zl,Zk⟩:=el0_int qK 0 (h0:=by decide);replace Zl:=of_eq_true Zl;replace Zk:=of_eq_true Zk;have qeG:(0 < qb.length)=True:=eq_true (by omega);(try rw [show ((0:Int)).toNat=0 from rfl] at Qb)
          (try rw [Addr.add_zero'] at Qb)
          replace Qb:=pw_cell_below HB.out Qb;replace Zl:=eq_true Zl;replace Zk:=eq_true Zk;go_wp2;go_ret;exact ⟨o1,bs⟩
         ·replace H:=ih H;obtain ⟨c42b0,H⟩ | ⟨c42b0,H⟩:=H
          ·obtain rfl:=Option.some.inj H;obtain ⟨_,_,_,_,_,_,_,_,_,_,_,_,_,_⟩:=cells7 qa.out;obtain ⟨qdG,rfl,Qb,Zl,Zk⟩:=el0_int qK 0 (h0:=by decide);replace Zl:=of_eq_true Zl;replace Zk:=of_eq_true Zk;have qeG:(0 < qb.length)=True:=eq_true (by omega);(try rw [show ((0:Int)).toNat=0 from rfl] at Qb)
           (try rw [Addr.add_zero'] at Qb)
           replace Qb:=pw_cell_below HB.out Qb;replace Zl:=eq_true Zl;replace Zk:=eq_true Zk;obtain ⟨yN,ZR,ZQ⟩:=el20_int qK 0 (h0:=by decide);replace ZR:=of_eq_true ZR;replace ZQ:=of_eq_true ZQ;have qeF:(0 < qb.length)=True:=eq_true (by omega);(try rw [show ((0:Int)).toNat=0 from rfl] at yN)
           (try rw [Addr.add_zero'] at yN)
           replace yN:=pw_cell_below HB.out yN;replace ZR:=eq_true ZR;replace ZQ:=eq_true ZQ;go_wp2;go_ret;exact ⟨o1,bs⟩
          ·replace H:=ipN H;obtain ⟨c44b0,H⟩:=H;have c44b1:decide (1 < qb.length)=true:=decide_eq_true (by have:=of_decide_eq_true c44b0;omega);replace H:=ih H;obtain ⟨c45b0,H⟩ | ⟨c45b0,H⟩:=H
           ·obtain rfl:=Option.some.inj H;obtain ⟨_,_,_,_,_,_,_,_,_,_,_,_,_,_⟩:=cells7 qa.out;obtain ⟨qdG,rfl,Qb,Zl,Zk⟩:=el0_int qK 0 (h0:=by decide);replace Zl:=of_eq_true Zl;replace Zk:=of_eq_true Zk;have qeG:(0 < qb.length)=True:=eq_true (by omega);(try rw [show ((0:Int)).toNat=0 from rfl] at Qb)
            (try rw [Addr.add_zero'] at Qb)
            replace Qb:=pw_cell_below HB.out Qb;replace Zl:=eq_true Zl;replace Zk:=eq_true Zk;obtain ⟨yN,ZR,ZQ⟩:=el20_int qK 0 (h0:=by decide);replace ZR:=of_eq_true ZR;replace ZQ:=of_eq_true ZQ;have qeF:(0 < qb.length)=True:=eq_true (by omega);(try rw [show ((0:Int)).toNat=0 from rfl] at yN)
            (try rw [Addr.add_zero'] at yN)
            replace yN:=pw_cell_below HB.out yN;replace ZR:=eq_true ZR;replace ZQ:=eq_true ZQ;obtain ⟨JY,qad,qac⟩:=el20_int qK 1 (h0:=by decide);replace qad:=of_eq_true qad;replace qac:=of_eq_true qac;(try simp only [show (1:Int).toNat=1 from rfl,Nat.reduceMul,Nat.reduceEqDiff,Go.Addr.add,↓reduceIte] at JY)
            have qkN:(1 < qb.length)=True:=eq_true (by omega);(try rw [show ((1:Int)).toNat=1 from rfl] at JY)
            replace JY:=pw_cell_below HB.out JY;replace qad:=eq_true qad;replace qac:=eq_true qac;obtain ⟨JI,XS,XQ⟩:=el20_int qK 1 (h0:=by decide);replace XS:=of_eq_true XS;replace XQ:=of_eq_true XQ;(try simp only [show (1:Int).toNat=1 from rfl,Nat.reduceMul,Nat.reduceEqDiff,Go.Addr.add,↓reduceIte] at JI)
            have qkM:(1 < qb.length)=True:=eq_true (by omega);(try rw [show ((1:Int)).toNat=1 from rfl] at JI)
            replace JI:=pw_cell_below HB.out JI;replace XS:=eq_true XS;replace XQ:=eq_true XQ;go_wp2;go_ret;exact ⟨o1,bs⟩
           ·obtain rfl:=Option.some.inj H;obtain ⟨_,_,_,_,_,_,_,_,_,_,_,_,_,_⟩:=cells7 qa.out;obtain ⟨qdG,rfl,Qb,Zl,Zk⟩:=el0_int qK 0 (h0:=by decide);replace Zl:=of_eq_true Zl;replace Zk:=of_eq_true Zk;have qeG:(0 < qb.length)=True:=eq_true (by omega);(try rw [show ((0:Int)).toNat=0 from rfl] at Qb)
            (try rw [Addr.add_zero'] at Qb)
            replace Qb:=pw_cell_below HB.out Qb;replace Zl:=eq_true Zl;replace Zk:=eq_true Zk;obtain ⟨yN,ZR,ZQ⟩:=el20_int qK 0 (h0:=by decide);replace ZR:=of_eq_true ZR;replace ZQ:=of_eq_true ZQ;have qeF:(0 < qb.length)=True:=eq_true (by omega);(try rw [show ((0:Int)).toNat=0 from rfl] at yN)
            (try rw [Addr.add_zero'] at yN)
            replace yN:=pw_cell_below HB.out yN;replace ZR:=eq_true ZR;replace ZQ:=eq_true ZQ;obtain ⟨JY,qad,qac⟩:=el20_int qK 1 (h0:=by decide);replace qad:=of_eq_true qad;replace qac:=of_eq_true qac;(try simp only [show (1:Int).toNat=1 from rfl,Nat.reduceMul,Nat.reduceEqDiff,Go.Addr.add,↓reduceIte] at JY)
            have qkN:(1 < qb.length)=True:=eq_true (by omega);(try rw [show ((1:Int)).toNat=1 from rfl] at JY)
            replace JY:=pw_cell_below HB.out JY;replace qad:=eq_true qad;replace qac:=eq_true qac;go_wp2;go_ret;exact ⟨o1,bs⟩
        ·obtain rfl:=Option.some.inj H;obtain ⟨_,_,_,_,_,_,_,_,_,_,_,_,_,_⟩:=cells7 qa.out;go_wp2;go_ret;exact ⟨o1,bs⟩
       ·obtain rfl:=Option.some.inj H;obtain ⟨_,_,_,_,_,_,_,_,_,_,_,_,_,_⟩:=cells7 qa.out;go_wp2;go_ret;exact ⟨o1,bs⟩

end Go.Proofs.YtfddbkaoghdfgaaGreat.Q
