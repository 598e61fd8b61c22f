/- Printed by a program of this session (wip/myprint.py), which drives the kit's printer: functions and what their calls do. -/
import Derived.Test.YtfddbkaoghdfgaaGreatProg
import Derived.Below
import Derived.Deep.Draws
import Derived.Deep.AppendLies
import Derived.Maps.AppendAt
import Derived.OwnWalk
import Derived.Laws.BytesArg
import Derived.Laws.MakeOwn
import Derived.Laws.OwnMore
import Derived.Deep.OwnRows
import Derived.Tactics
import Derived.Lib.ConvBytes
import Derived.Laws.Slices
import Derived.WalkKit
import Derived.KernelRfl
import Derived.RowKit3
import Derived.Deep.LoopGhost
import Derived.Deep.QuietTactic
import Derived.BigQuiet
import Derived.WideLaws
import Derived.Deep.DeepCutAuto
import Derived.Deep.CutBlock
import Derived.Deep.RegionHeld3
import Derived.Laws.Rows
import Derived.Lib.AppendStr
import Derived.ArgAppend
import Derived.Laws.IdiomCopy
import Derived.OrdersHeld
import Derived.Laws.BitsLemmas
import Derived.RowKit
import Derived.WalkSpells
import Derived.WalkLawsBesides
import Derived.Shelf.Abstract
import Derived.Test.YtfddbkaoghdfgaaGreatVFnExactMsgBytes
import Derived.Maps.Own
import Derived.Maps.Views
namespace Go.Proofs.YtfddbkaoghdfgaaGreat.Q
open Go.RowKit Go Go.Proofs.YtfddbkaoghdfgaaGreatW.PrintWords Go.Proofs.YtfddbkaoghdfgaaGreatW.PrintLast Go.Proofs.YtfddbkaoghdfgaaGreatW.PrintMore

set_option linter.unusedVariables false
set_option linter.unusedSimpArgs false

theorem qlR:(Tryz.prog.info? 3).map (fun i=>(i.zero,i.size,i.bytes))=some (some (.int .i64 0),1,8):=by kernel_rfl
theorem Ji:(Tryz.prog.info? 5).map (fun i=>(i.zero,i.size,i.bytes))=some (some (.int .u8 0),1,1):=by kernel_rfl
theorem qkL:(Tryz.prog.info? 27).map (fun i=>(i.zero,i.size,i.bytes))=some (some (.slice none 0 0),1,24):=by kernel_rfl
theorem qkK:(Tryz.prog.info? 96).map (fun i=>(i.zero,i.size,i.bytes))=some (some (.agg #[(.slice none 0 0),(.int .i64 0)]),2,32):=by kernel_rfl
theorem qcB:(Tryz.prog.info? 105).map (fun i=>(i.zero,i.size,i.bytes))=some (some (.agg #[(.slice none 0 0),(.int .i64 0),(.int .i64 0),(.int .i64 0),(.slice none 0 0),(.slice none 0 0),(.slice none 0 0)]),7,120):=by kernel_rfl
theorem qiK:(Tryz.prog.info? 107).map (fun i=>(i.zero,i.size,i.bytes))=some (some (.agg #[(.slice none 0 0),(.int .i64 0),(.int .i64 0),(.int .i64 0),(.slice none 0 0),(.slice none 0 0),(.slice none 0 0),(.int .i64 0),(.bool false)]),9,136):=by kernel_rfl
-- the values' own types
/-! #### struct type 7 -/
/-! #### struct type 8 -/
/-! #### struct type 13 -/
/-! #### struct type 14 -/
def jA (xs:List (List Int)) (i:Int):(List Int):=xs.getD i.toNat ([]:List Int)
theorem qa1 {w:World} {A:Option Addr} {n:Nat} {xs:List (List Int)} (h:Kd.C (Kd.slice 5 (Kd.int .u8)) w A n xs) (i:Int) (h0:0≤i) (h1:i < n):∃ ad A0 c0,A=some ad∧w.cell? (ad.add i.toNat)=some (.slice A0 (jA xs i).length c0)∧(jA xs i).length≤c0∧(Kd.int .u8).C w A0 (jA xs i).length (jA xs i):=by
  obtain ⟨ad,c,e,_,hK,hc0⟩:=Kd.C_get h ([]:List Int) i h0 h1;have hc:∀ j u,c[j]?=some u→w.cell? (ad.add (i.toNat * 1+j))=some u:=hc0;obtain ⟨A0,c0,rfl,l0,g0⟩:=hK;exact ⟨ad,A0,c0,e,by have hq:=hc 0 _ rfl; rwa [Nat.mul_one,Nat.add_zero] at hq,l0,g0⟩

/-! #### struct type 59 -/
structure S59 where
  f0:(List (List Int))
def z59:S59:=⟨([]:List (List Int))⟩
def k59:Kd S59:=Kd.iso (Kd.slice 27 (Kd.slice 5 (Kd.int .u8))) (fun x:S59=>x.f0)
theorem k59_open {w:World} {x:S59} {cs:List Value} (h:k59.K w x cs):∃ A0 c0,cs=[.slice A0 x.f0.length c0]∧x.f0.length≤c0∧(Kd.slice 5 (Kd.int .u8)).C w A0 x.f0.length x.f0:=by
  obtain ⟨A0,c0,rfl,l0,g0⟩:=h;exact ⟨A0,c0,rfl,l0,g0⟩
/-! #### struct type 134 -/
structure Jk where
  f0:S59
  f1:Int
def qku:Jk:=⟨z59,(0:Int)⟩
def Yo:Kd Jk:=Kd.iso (Kd.pair k59 (Kd.int .i64)) (fun x:Jk=>(x.f0,x.f1))
theorem k134_open {w:World} {x:Jk} {cs:List Value} (h:Yo.K w x cs):∃ A0 c0,cs=[.slice A0 x.f0.f0.length c0,.int .i64 x.f1]∧x.f0.f0.length≤c0∧(Kd.slice 5 (Kd.int .u8)).C w A0 x.f0.f0.length x.f0.f0:=by
  obtain ⟨_,_,rfl,s0,rfl⟩:=h;obtain ⟨A0,c0,rfl,l0,g0⟩:=k59_open s0;exact ⟨A0,c0,rfl,l0,g0⟩
def Qu (xs:List Jk) (i:Int):Jk:=xs.getD i.toNat qku
theorem qjL {w:World} {A:Option Addr} {n:Nat} {xs:List Jk} (h:Kd.C Yo w A n xs) (i:Int) (h0:0≤i) (h1:i < n):∃ ad A0 c0,A=some ad∧w.cell? (ad.add (i.toNat * 2))=some (.slice A0 (Qu xs i).f0.f0.length c0)∧w.cell? ⟨(ad.add (i.toNat * 2)).block,(ad.add (i.toNat * 2)).off+1,none⟩=some (.int .i64 (Qu xs i).f1)∧(Qu xs i).f0.f0.length≤c0∧(Kd.slice 5 (Kd.int .u8)).C w A0 (Qu xs i).f0.f0.length (Qu xs i).f0.f0:=by
  obtain ⟨ad,c,e,_,hK,hc0⟩:=Kd.C_get h qku i h0 h1;have hc:∀ j u,c[j]?=some u→w.cell? (ad.add (i.toNat * 2+j))=some u:=hc0;obtain ⟨A0,c0,rfl,l0,g0⟩:=k134_open hK;exact ⟨ad,A0,c0,e,hc 0 _ rfl,by rw [← add_field _ _ 1 (by omega)]; exact hc 1 _ rfl,l0,g0⟩

/-! #### struct type 114 -/
structure yj where
  f0:S59
  f1:Int
  f2:Int
  f3:Int
  f4:S59
  f5:(List Int)
  f6:(List Int)
def qhM:yj:=⟨z59,(0:Int),(0:Int),(0:Int),z59,([]:List Int),([]:List Int)⟩
def yr:Kd yj:=Kd.iso (Kd.pair k59 (Kd.pair (Kd.int .i64) (Kd.pair (Kd.int .i64) (Kd.pair (Kd.int .i64) (Kd.pair k59 (Kd.pair (Kd.slice 5 (Kd.int .u8)) (Kd.slice 3 (Kd.int .i64)))))))) (fun x:yj=>(x.f0,x.f1,x.f2,x.f3,x.f4,x.f5,x.f6))
theorem k114_open {w:World} {x:yj} {cs:List Value} (h:yr.K w x cs):∃ A0 c0 A4 c4 A5 c5 A6 c6,cs=[.slice A0 x.f0.f0.length c0,.int .i64 x.f1,.int .i64 x.f2,.int .i64 x.f3,.slice A4 x.f4.f0.length c4,.slice A5 x.f5.length c5,.slice A6 x.f6.length c6]∧x.f0.f0.length≤c0∧(Kd.slice 5 (Kd.int .u8)).C w A0 x.f0.f0.length x.f0.f0∧x.f4.f0.length≤c4∧(Kd.slice 5 (Kd.int .u8)).C w A4 x.f4.f0.length x.f4.f0∧x.f5.length≤c5∧(Kd.int .u8).C w A5 x.f5.length x.f5∧x.f6.length≤c6∧(Kd.int .i64).C w A6 x.f6.length x.f6:=by
  obtain ⟨_,_,rfl,s0,⟨_,_,rfl,rfl,⟨_,_,rfl,rfl,⟨_,_,rfl,rfl,⟨_,_,rfl,s4,⟨_,_,rfl,⟨A5,c5,rfl,l5,g5⟩,⟨A6,c6,rfl,l6,g6⟩⟩⟩⟩⟩⟩⟩:=h;obtain ⟨A0,c0,rfl,l0,g0⟩:=k59_open s0;obtain ⟨A4,c4,rfl,l4,g4⟩:=k59_open s4;exact ⟨A0,c0,A4,c4,A5,c5,A6,c6,rfl,l0,g0,l4,g4,l5,g5,l6,g6⟩
def qV (xs:List yj) (i:Int):yj:=xs.getD i.toNat qhM
theorem qjN {w:World} {A:Option Addr} {n:Nat} {xs:List yj} (h:Kd.C yr w A n xs) (i:Int) (h0:0≤i) (h1:i < n):∃ ad A0 c0 A4 c4 A5 c5 A6 c6,A=some ad∧w.cell? (ad.add (i.toNat * 7))=some (.slice A0 (qV xs i).f0.f0.length c0)∧w.cell? ⟨(ad.add (i.toNat * 7)).block,(ad.add (i.toNat * 7)).off+1,none⟩=some (.int .i64 (qV xs i).f1)∧w.cell? ⟨(ad.add (i.toNat * 7)).block,(ad.add (i.toNat * 7)).off+2,none⟩=some (.int .i64 (qV xs i).f2)∧w.cell? ⟨(ad.add (i.toNat * 7)).block,(ad.add (i.toNat * 7)).off+3,none⟩=some (.int .i64 (qV xs i).f3)∧w.cell? ⟨(ad.add (i.toNat * 7)).block,(ad.add (i.toNat * 7)).off+4,none⟩=some (.slice A4 (qV xs i).f4.f0.length c4)∧w.cell? ⟨(ad.add (i.toNat * 7)).block,(ad.add (i.toNat * 7)).off+5,none⟩=some (.slice A5 (qV xs i).f5.length c5)∧w.cell? ⟨(ad.add (i.toNat * 7)).block,(ad.add (i.toNat * 7)).off+6,none⟩=some (.slice A6 (qV xs i).f6.length c6)∧(qV xs i).f0.f0.length≤c0∧(Kd.slice 5 (Kd.int .u8)).C w A0 (qV xs i).f0.f0.length (qV xs i).f0.f0∧(qV xs i).f4.f0.length≤c4∧(Kd.slice 5 (Kd.int .u8)).C w A4 (qV xs i).f4.f0.length (qV xs i).f4.f0∧(qV xs i).f5.length≤c5∧(Kd.int .u8).C w A5 (qV xs i).f5.length (qV xs i).f5∧(qV xs i).f6.length≤c6∧(Kd.int .i64).C w A6 (qV xs i).f6.length (qV xs i).f6:=by
  obtain ⟨ad,c,e,_,hK,hc0⟩:=Kd.C_get h qhM i h0 h1;have hc:∀ j u,c[j]?=some u→w.cell? (ad.add (i.toNat * 7+j))=some u:=hc0;obtain ⟨A0,c0,A4,c4,A5,c5,A6,c6,rfl,l0,g0,l4,g4,l5,g5,l6,g6⟩:=k114_open hK;exact ⟨ad,A0,c0,A4,c4,A5,c5,A6,c6,e,hc 0 _ rfl,by rw [← add_field _ _ 1 (by omega)]; exact hc 1 _ rfl,by rw [← add_field _ _ 2 (by omega)]; exact hc 2 _ rfl,by rw [← add_field _ _ 3 (by omega)]; exact hc 3 _ rfl,by rw [← add_field _ _ 4 (by omega)]; exact hc 4 _ rfl,by rw [← add_field _ _ 5 (by omega)]; exact hc 5 _ rfl,by rw [← add_field _ _ 6 (by omega)]; exact hc 6 _ rfl,l0,g0,l4,g4,l5,g5,l6,g6⟩

/-! #### struct type 116 -/
structure Qc where
  f0:yj
  f1:Int
  f2:Bool
def qkv:Qc:=⟨qhM,(0:Int),false⟩
def Qr:Kd Qc:=Kd.iso (Kd.pair yr (Kd.pair (Kd.int .i64) Kd.bool)) (fun x:Qc=>(x.f0,x.f1,x.f2))
theorem k116_open {w:World} {x:Qc} {cs:List Value} (h:Qr.K w x cs):∃ A0 c0 A4 c4 A5 c5 A6 c6,cs=[.slice A0 x.f0.f0.f0.length c0,.int .i64 x.f0.f1,.int .i64 x.f0.f2,.int .i64 x.f0.f3,.slice A4 x.f0.f4.f0.length c4,.slice A5 x.f0.f5.length c5,.slice A6 x.f0.f6.length c6,.int .i64 x.f1,.bool x.f2]∧x.f0.f0.f0.length≤c0∧(Kd.slice 5 (Kd.int .u8)).C w A0 x.f0.f0.f0.length x.f0.f0.f0∧x.f0.f4.f0.length≤c4∧(Kd.slice 5 (Kd.int .u8)).C w A4 x.f0.f4.f0.length x.f0.f4.f0∧x.f0.f5.length≤c5∧(Kd.int .u8).C w A5 x.f0.f5.length x.f0.f5∧x.f0.f6.length≤c6∧(Kd.int .i64).C w A6 x.f0.f6.length x.f0.f6:=by
  obtain ⟨_,_,rfl,s0,⟨_,_,rfl,rfl,rfl⟩⟩:=h;obtain ⟨A0,c0,A4,c4,A5,c5,A6,c6,rfl,l0,g0,l4,g4,l5,g5,l6,g6⟩:=k114_open s0;exact ⟨A0,c0,A4,c4,A5,c5,A6,c6,rfl,l0,g0,l4,g4,l5,g5,l6,g6⟩
def qJ (xs:List Qc) (i:Int):Qc:=xs.getD i.toNat qkv
theorem qjM {w:World} {A:Option Addr} {n:Nat} {xs:List Qc} (h:Kd.C Qr w A n xs) (i:Int) (h0:0≤i) (h1:i < n):∃ ad A0 c0 A4 c4 A5 c5 A6 c6,A=some ad∧w.cell? (ad.add (i.toNat * 9))=some (.slice A0 (qJ xs i).f0.f0.f0.length c0)∧w.cell? ⟨(ad.add (i.toNat * 9)).block,(ad.add (i.toNat * 9)).off+1,none⟩=some (.int .i64 (qJ xs i).f0.f1)∧w.cell? ⟨(ad.add (i.toNat * 9)).block,(ad.add (i.toNat * 9)).off+2,none⟩=some (.int .i64 (qJ xs i).f0.f2)∧w.cell? ⟨(ad.add (i.toNat * 9)).block,(ad.add (i.toNat * 9)).off+3,none⟩=some (.int .i64 (qJ xs i).f0.f3)∧w.cell? ⟨(ad.add (i.toNat * 9)).block,(ad.add (i.toNat * 9)).off+4,none⟩=some (.slice A4 (qJ xs i).f0.f4.f0.length c4)∧w.cell? ⟨(ad.add (i.toNat * 9)).block,(ad.add (i.toNat * 9)).off+5,none⟩=some (.slice A5 (qJ xs i).f0.f5.length c5)∧w.cell? ⟨(ad.add (i.toNat * 9)).block,(ad.add (i.toNat * 9)).off+6,none⟩=some (.slice A6 (qJ xs i).f0.f6.length c6)∧w.cell? ⟨(ad.add (i.toNat * 9)).block,(ad.add (i.toNat * 9)).off+7,none⟩=some (.int .i64 (qJ xs i).f1)∧w.cell? ⟨(ad.add (i.toNat * 9)).block,(ad.add (i.toNat * 9)).off+8,none⟩=some (.bool (qJ xs i).f2)∧(qJ xs i).f0.f0.f0.length≤c0∧(Kd.slice 5 (Kd.int .u8)).C w A0 (qJ xs i).f0.f0.f0.length (qJ xs i).f0.f0.f0∧(qJ xs i).f0.f4.f0.length≤c4∧(Kd.slice 5 (Kd.int .u8)).C w A4 (qJ xs i).f0.f4.f0.length (qJ xs i).f0.f4.f0∧(qJ xs i).f0.f5.length≤c5∧(Kd.int .u8).C w A5 (qJ xs i).f0.f5.length (qJ xs i).f0.f5∧(qJ xs i).f0.f6.length≤c6∧(Kd.int .i64).C w A6 (qJ xs i).f0.f6.length (qJ xs i).f0.f6:=by
  obtain ⟨ad,c,e,_,hK,hc0⟩:=Kd.C_get h qkv i h0 h1;have hc:∀ j u,c[j]?=some u→w.cell? (ad.add (i.toNat * 9+j))=some u:=hc0;obtain ⟨A0,c0,A4,c4,A5,c5,A6,c6,rfl,l0,g0,l4,g4,l5,g5,l6,g6⟩:=k116_open hK;exact ⟨ad,A0,c0,A4,c4,A5,c5,A6,c6,e,hc 0 _ rfl,by rw [← add_field _ _ 1 (by omega)]; exact hc 1 _ rfl,by rw [← add_field _ _ 2 (by omega)]; exact hc 2 _ rfl,by rw [← add_field _ _ 3 (by omega)]; exact hc 3 _ rfl,by rw [← add_field _ _ 4 (by omega)]; exact hc 4 _ rfl,by rw [← add_field _ _ 5 (by omega)]; exact hc 5 _ rfl,by rw [← add_field _ _ 6 (by omega)]; exact hc 6 _ rfl,by rw [← add_field _ _ 7 (by omega)]; exact hc 7 _ rfl,by rw [← add_field _ _ 8 (by omega)]; exact hc 8 _ rfl,l0,g0,l4,g4,l5,g5,l6,g6⟩

/-! #### struct type 25 -/
/-! #### struct type 26 -/
structure S26 where
  f0:Int
  f1:Bool
  f2:Int
  f3:Bool
  f4:Int
  f5:(List Jk)
  f6:(List yj)
  f7:(List yj)
  f8:(List yj)
  f9:(List Qc)
  f10:(List Qc)
def k26:Kd S26:=Kd.iso (Kd.pair (Kd.int .i64) (Kd.pair Kd.bool (Kd.pair (Kd.int .i64) (Kd.pair Kd.bool (Kd.pair (Kd.int .i64) (Kd.pair (Kd.slice 134 Yo) (Kd.pair (Kd.slice 114 yr) (Kd.pair (Kd.slice 114 yr) (Kd.pair (Kd.slice 114 yr) (Kd.pair (Kd.slice 116 Qr) (Kd.slice 116 Qr))))))))))) (fun x:S26=>(x.f0,x.f1,x.f2,x.f3,x.f4,x.f5,x.f6,x.f7,x.f8,x.f9,x.f10))
theorem k26_open {w:World} {x:S26} {cs:List Value} (h:k26.K w x cs):∃ A5 c5 A6 c6 A7 c7 A8 c8 A9 c9 A10 c10,cs=[.int .i64 x.f0,.bool x.f1,.int .i64 x.f2,.bool x.f3,.int .i64 x.f4,.slice A5 x.f5.length c5,.slice A6 x.f6.length c6,.slice A7 x.f7.length c7,.slice A8 x.f8.length c8,.slice A9 x.f9.length c9,.slice A10 x.f10.length c10]∧x.f5.length≤c5∧Yo.C w A5 x.f5.length x.f5∧x.f6.length≤c6∧yr.C w A6 x.f6.length x.f6∧x.f7.length≤c7∧yr.C w A7 x.f7.length x.f7∧x.f8.length≤c8∧yr.C w A8 x.f8.length x.f8∧x.f9.length≤c9∧Qr.C w A9 x.f9.length x.f9∧x.f10.length≤c10∧Qr.C w A10 x.f10.length x.f10:=by
  obtain ⟨_,_,rfl,rfl,⟨_,_,rfl,rfl,⟨_,_,rfl,rfl,⟨_,_,rfl,rfl,⟨_,_,rfl,rfl,⟨_,_,rfl,⟨A5,c5,rfl,l5,g5⟩,⟨_,_,rfl,⟨A6,c6,rfl,l6,g6⟩,⟨_,_,rfl,⟨A7,c7,rfl,l7,g7⟩,⟨_,_,rfl,⟨A8,c8,rfl,l8,g8⟩,⟨_,_,rfl,⟨A9,c9,rfl,l9,g9⟩,⟨A10,c10,rfl,l10,g10⟩⟩⟩⟩⟩⟩⟩⟩⟩⟩⟩:=h;exact ⟨A5,c5,A6,c6,A7,c7,A8,c8,A9,c9,A10,c10,rfl,l5,g5,l6,g6,l7,g7,l8,g8,l9,g9,l10,g10⟩
/-! #### struct type 28 -/
/-! #### struct type 29 -/
/-! #### struct type 65 -/
structure S65 where
  f0:(List (List Int))
def z65:S65:=⟨([]:List (List Int))⟩
def k65:Kd S65:=Kd.iso (Kd.slice 27 (Kd.slice 5 (Kd.int .u8))) (fun x:S65=>x.f0)
theorem k65_heap:Kd.Heap k65:=Kd.heap_iso _ (Kd.heap_slice 27 (Kd.heap_slice 5 (Kd.heap_int .u8)))
theorem k65_open {w:World} {x:S65} {cs:List Value} (h:k65.K w x cs):∃ A0 c0,cs=[.slice A0 x.f0.length c0]∧x.f0.length≤c0∧(Kd.slice 5 (Kd.int .u8)).C w A0 x.f0.length x.f0:=by
  obtain ⟨A0,c0,rfl,l0,g0⟩:=h;exact ⟨A0,c0,rfl,l0,g0⟩
theorem k65_openM {w:World} {base:Nat} {ok:Nat→Prop} {x:S65} {cs:List Value} (h:k65.M w base ok x cs):∃ v0,cs=[v0]∧(Kd.slice 5 (Kd.int .u8)).R 27 w base ok v0 x.f0:=by
  obtain ⟨v0,rfl,g0⟩:=h;exact ⟨v0,rfl,g0⟩
theorem k65_mkM (w:World) (base:Nat) (ok:Nat→Prop) (x:S65) {v0:Value} (g0:(Kd.slice 5 (Kd.int .u8)).R 27 w base ok v0 x.f0):k65.M w base ok x [v0]:=⟨v0,rfl,g0⟩
/-! #### struct type 96 -/
structure S96 where
  f0:S65
  f1:Int
def z96:S96:=⟨z65,(0:Int)⟩
def k96:Kd S96:=Kd.iso (Kd.pair k65 (Kd.int .i64)) (fun x:S96=>(x.f0,x.f1))
theorem k96_open {w:World} {x:S96} {cs:List Value} (h:k96.K w x cs):∃ A0 c0,cs=[.slice A0 x.f0.f0.length c0,.int .i64 x.f1]∧x.f0.f0.length≤c0∧(Kd.slice 5 (Kd.int .u8)).C w A0 x.f0.f0.length x.f0.f0:=by
  obtain ⟨_,_,rfl,s0,rfl⟩:=h;obtain ⟨A0,c0,rfl,l0,g0⟩:=k65_open s0;exact ⟨A0,c0,rfl,l0,g0⟩
theorem k96_openM {w:World} {base:Nat} {ok:Nat→Prop} {x:S96} {cs:List Value} (h:k96.M w base ok x cs):∃ v0,cs=[v0,.int .i64 x.f1]∧(Kd.slice 5 (Kd.int .u8)).R 27 w base ok v0 x.f0.f0:=by
  obtain ⟨_,_,rfl,s0,rfl⟩:=h;obtain ⟨v0,rfl,g0⟩:=k65_openM s0;exact ⟨v0,rfl,g0⟩
theorem k96_mkM (w:World) (base:Nat) (ok:Nat→Prop) (x:S96) {v0:Value} (g0:(Kd.slice 5 (Kd.int .u8)).R 27 w base ok v0 x.f0.f0):k96.M w base ok x [v0,.int .i64 x.f1]:=⟨[v0],[.int .i64 x.f1],rfl,(k65_mkM w base ok x.f0 g0),rfl⟩
def qW (xs:List S96) (i:Int):S96:=xs.getD i.toNat z96
theorem Jn {w:World} {A:Option Addr} {n:Nat} {xs:List S96} (h:Kd.C k96 w A n xs) (i:Int) (h0:0≤i) (h1:i < n):∃ ad A0 c0,A=some ad∧w.cell? (ad.add (i.toNat * 2))=some (.slice A0 (qW xs i).f0.f0.length c0)∧w.cell? ⟨(ad.add (i.toNat * 2)).block,(ad.add (i.toNat * 2)).off+1,none⟩=some (.int .i64 (qW xs i).f1)∧(qW xs i).f0.f0.length≤c0∧(Kd.slice 5 (Kd.int .u8)).C w A0 (qW xs i).f0.f0.length (qW xs i).f0.f0:=by
  obtain ⟨ad,c,e,_,hK,hc0⟩:=Kd.C_get h z96 i h0 h1;have hc:∀ j u,c[j]?=some u→w.cell? (ad.add (i.toNat * 2+j))=some u:=hc0;obtain ⟨A0,c0,rfl,l0,g0⟩:=k96_open hK;exact ⟨ad,A0,c0,e,hc 0 _ rfl,by rw [← add_field _ _ 1 (by omega)]; exact hc 1 _ rfl,l0,g0⟩

/-! #### struct type 105 -/
structure qw where
  f0:S65
  f1:Int
  f2:Int
  f3:Int
  f4:S65
  f5:(List Int)
  f6:(List Int)
def Yx:qw:=⟨z65,(0:Int),(0:Int),(0:Int),z65,([]:List Int),([]:List Int)⟩
def js:Kd qw:=Kd.iso (Kd.pair k65 (Kd.pair (Kd.int .i64) (Kd.pair (Kd.int .i64) (Kd.pair (Kd.int .i64) (Kd.pair k65 (Kd.pair (Kd.slice 5 (Kd.int .u8)) (Kd.slice 3 (Kd.int .i64)))))))) (fun x:qw=>(x.f0,x.f1,x.f2,x.f3,x.f4,x.f5,x.f6))
theorem k105_heap:Kd.Heap js:=Kd.heap_iso _ (Kd.heap_pair k65_heap (Kd.heap_pair (Kd.heap_int .i64) (Kd.heap_pair (Kd.heap_int .i64) (Kd.heap_pair (Kd.heap_int .i64) (Kd.heap_pair k65_heap (Kd.heap_pair (Kd.heap_slice 5 (Kd.heap_int .u8)) (Kd.heap_slice 3 (Kd.heap_int .i64))))))))
theorem k105_open {w:World} {x:qw} {cs:List Value} (h:js.K w x cs):∃ A0 c0 A4 c4 A5 c5 A6 c6,cs=[.slice A0 x.f0.f0.length c0,.int .i64 x.f1,.int .i64 x.f2,.int .i64 x.f3,.slice A4 x.f4.f0.length c4,.slice A5 x.f5.length c5,.slice A6 x.f6.length c6]∧x.f0.f0.length≤c0∧(Kd.slice 5 (Kd.int .u8)).C w A0 x.f0.f0.length x.f0.f0∧x.f4.f0.length≤c4∧(Kd.slice 5 (Kd.int .u8)).C w A4 x.f4.f0.length x.f4.f0∧x.f5.length≤c5∧(Kd.int .u8).C w A5 x.f5.length x.f5∧x.f6.length≤c6∧(Kd.int .i64).C w A6 x.f6.length x.f6:=by
  obtain ⟨_,_,rfl,s0,⟨_,_,rfl,rfl,⟨_,_,rfl,rfl,⟨_,_,rfl,rfl,⟨_,_,rfl,s4,⟨_,_,rfl,⟨A5,c5,rfl,l5,g5⟩,⟨A6,c6,rfl,l6,g6⟩⟩⟩⟩⟩⟩⟩:=h;obtain ⟨A0,c0,rfl,l0,g0⟩:=k65_open s0;obtain ⟨A4,c4,rfl,l4,g4⟩:=k65_open s4;exact ⟨A0,c0,A4,c4,A5,c5,A6,c6,rfl,l0,g0,l4,g4,l5,g5,l6,g6⟩
theorem k105_openM {w:World} {base:Nat} {ok:Nat→Prop} {x:qw} {cs:List Value} (h:js.M w base ok x cs):∃ v0 v4 v5 v6,cs=[v0,.int .i64 x.f1,.int .i64 x.f2,.int .i64 x.f3,v4,v5,v6]∧(Kd.slice 5 (Kd.int .u8)).R 27 w base ok v0 x.f0.f0∧(Kd.slice 5 (Kd.int .u8)).R 27 w base ok v4 x.f4.f0∧(Kd.int .u8).R 5 w base ok v5 x.f5∧(Kd.int .i64).R 3 w base ok v6 x.f6:=by
  obtain ⟨_,_,rfl,s0,⟨_,_,rfl,rfl,⟨_,_,rfl,rfl,⟨_,_,rfl,rfl,⟨_,_,rfl,s4,⟨_,_,rfl,⟨v5,rfl,g5⟩,⟨v6,rfl,g6⟩⟩⟩⟩⟩⟩⟩:=h;obtain ⟨v0,rfl,g0⟩:=k65_openM s0;obtain ⟨v4,rfl,g4⟩:=k65_openM s4;exact ⟨v0,v4,v5,v6,rfl,g0,g4,g5,g6⟩
theorem k105_mkM (w:World) (base:Nat) (ok:Nat→Prop) (x:qw) {v0:Value} (g0:(Kd.slice 5 (Kd.int .u8)).R 27 w base ok v0 x.f0.f0) {v4:Value} (g4:(Kd.slice 5 (Kd.int .u8)).R 27 w base ok v4 x.f4.f0) {v5:Value} (g5:(Kd.int .u8).R 5 w base ok v5 x.f5) {v6:Value} (g6:(Kd.int .i64).R 3 w base ok v6 x.f6):js.M w base ok x [v0,.int .i64 x.f1,.int .i64 x.f2,.int .i64 x.f3,v4,v5,v6]:=⟨[v0],[.int .i64 x.f1,.int .i64 x.f2,.int .i64 x.f3,v4,v5,v6],rfl,(k65_mkM w base ok x.f0 g0),⟨[.int .i64 x.f1],[.int .i64 x.f2,.int .i64 x.f3,v4,v5,v6],rfl,rfl,⟨[.int .i64 x.f2],[.int .i64 x.f3,v4,v5,v6],rfl,rfl,⟨[.int .i64 x.f3],[v4,v5,v6],rfl,rfl,⟨[v4],[v5,v6],rfl,(k65_mkM w base ok x.f4 g4),⟨[v5],[v6],rfl,⟨v5,rfl,g5⟩,⟨v6,rfl,g6⟩⟩⟩⟩⟩⟩⟩
theorem k105_openF {W:World} {ok:Nat→Prop} {x:qw} {cs:List Value} (h:Kd.FK js W ok x cs):∃ A0 c0 A4 c4 A5 c5 A6 c6,cs=[.slice A0 x.f0.f0.length c0,.int .i64 x.f1,.int .i64 x.f2,.int .i64 x.f3,.slice A4 x.f4.f0.length c4,.slice A5 x.f5.length c5,.slice A6 x.f6.length c6]∧x.f0.f0.length≤c0∧Kd.F (Kd.slice 5 (Kd.int .u8)) W ok A0 x.f0.f0.length x.f0.f0∧x.f4.f0.length≤c4∧Kd.F (Kd.slice 5 (Kd.int .u8)) W ok A4 x.f4.f0.length x.f4.f0∧x.f5.length≤c5∧Kd.F (Kd.int .u8) W ok A5 x.f5.length x.f5∧x.f6.length≤c6∧Kd.F (Kd.int .i64) W ok A6 x.f6.length x.f6:=by
  obtain ⟨A0,c0,A4,c4,A5,c5,A6,c6,rfl,l0,_,l4,_,l5,_,l6,_⟩:=k105_open (Kd.FK_now h);exact ⟨A0,c0,A4,c4,A5,c5,A6,c6,rfl,l0,(fun W' hW=>by obtain ⟨A0_,c0_,A4_,c4_,A5_,c5_,A6_,c6_,he,l0_,g0_,l4_,g4_,l5_,g5_,l6_,g6_⟩:=k105_open (h W' hW); injection (Option.some.inj (show some (Value.slice A0 x.f0.f0.length c0)=some (Value.slice A0_ x.f0.f0.length c0_) from congrArg (fun l=>l[0]?) he)) with ha_ _ _; rw [ha_]; exact g0_),l4,(fun W' hW=>by obtain ⟨A0_,c0_,A4_,c4_,A5_,c5_,A6_,c6_,he,l0_,g0_,l4_,g4_,l5_,g5_,l6_,g6_⟩:=k105_open (h W' hW); injection (Option.some.inj (show some (Value.slice A4 x.f4.f0.length c4)=some (Value.slice A4_ x.f4.f0.length c4_) from congrArg (fun l=>l[4]?) he)) with ha_ _ _; rw [ha_]; exact g4_),l5,(fun W' hW=>by obtain ⟨A0_,c0_,A4_,c4_,A5_,c5_,A6_,c6_,he,l0_,g0_,l4_,g4_,l5_,g5_,l6_,g6_⟩:=k105_open (h W' hW); injection (Option.some.inj (show some (Value.slice A5 x.f5.length c5)=some (Value.slice A5_ x.f5.length c5_) from congrArg (fun l=>l[5]?) he)) with ha_ _ _; rw [ha_]; exact g5_),l6,(fun W' hW=>by obtain ⟨A0_,c0_,A4_,c4_,A5_,c5_,A6_,c6_,he,l0_,g0_,l4_,g4_,l5_,g5_,l6_,g6_⟩:=k105_open (h W' hW); injection (Option.some.inj (show some (Value.slice A6 x.f6.length c6)=some (Value.slice A6_ x.f6.length c6_) from congrArg (fun l=>l[6]?) he)) with ha_ _ _; rw [ha_]; exact g6_)⟩
def qm (xs:List qw) (i:Int):qw:=xs.getD i.toNat Yx
theorem qd9 {w:World} {A:Option Addr} {n:Nat} {xs:List qw} (h:Kd.C js w A n xs) (i:Int) (h0:0≤i) (h1:i < n):∃ ad A0 c0 A4 c4 A5 c5 A6 c6,A=some ad∧w.cell? (ad.add (i.toNat * 7))=some (.slice A0 (qm xs i).f0.f0.length c0)∧w.cell? ⟨(ad.add (i.toNat * 7)).block,(ad.add (i.toNat * 7)).off+1,none⟩=some (.int .i64 (qm xs i).f1)∧w.cell? ⟨(ad.add (i.toNat * 7)).block,(ad.add (i.toNat * 7)).off+2,none⟩=some (.int .i64 (qm xs i).f2)∧w.cell? ⟨(ad.add (i.toNat * 7)).block,(ad.add (i.toNat * 7)).off+3,none⟩=some (.int .i64 (qm xs i).f3)∧w.cell? ⟨(ad.add (i.toNat * 7)).block,(ad.add (i.toNat * 7)).off+4,none⟩=some (.slice A4 (qm xs i).f4.f0.length c4)∧w.cell? ⟨(ad.add (i.toNat * 7)).block,(ad.add (i.toNat * 7)).off+5,none⟩=some (.slice A5 (qm xs i).f5.length c5)∧w.cell? ⟨(ad.add (i.toNat * 7)).block,(ad.add (i.toNat * 7)).off+6,none⟩=some (.slice A6 (qm xs i).f6.length c6)∧(qm xs i).f0.f0.length≤c0∧(Kd.slice 5 (Kd.int .u8)).C w A0 (qm xs i).f0.f0.length (qm xs i).f0.f0∧(qm xs i).f4.f0.length≤c4∧(Kd.slice 5 (Kd.int .u8)).C w A4 (qm xs i).f4.f0.length (qm xs i).f4.f0∧(qm xs i).f5.length≤c5∧(Kd.int .u8).C w A5 (qm xs i).f5.length (qm xs i).f5∧(qm xs i).f6.length≤c6∧(Kd.int .i64).C w A6 (qm xs i).f6.length (qm xs i).f6:=by
  obtain ⟨ad,c,e,_,hK,hc0⟩:=Kd.C_get h Yx i h0 h1;have hc:∀ j u,c[j]?=some u→w.cell? (ad.add (i.toNat * 7+j))=some u:=hc0;obtain ⟨A0,c0,A4,c4,A5,c5,A6,c6,rfl,l0,g0,l4,g4,l5,g5,l6,g6⟩:=k105_open hK;exact ⟨ad,A0,c0,A4,c4,A5,c5,A6,c6,e,hc 0 _ rfl,by rw [← add_field _ _ 1 (by omega)]; exact hc 1 _ rfl,by rw [← add_field _ _ 2 (by omega)]; exact hc 2 _ rfl,by rw [← add_field _ _ 3 (by omega)]; exact hc 3 _ rfl,by rw [← add_field _ _ 4 (by omega)]; exact hc 4 _ rfl,by rw [← add_field _ _ 5 (by omega)]; exact hc 5 _ rfl,by rw [← add_field _ _ 6 (by omega)]; exact hc 6 _ rfl,l0,g0,l4,g4,l5,g5,l6,g6⟩

def qeJ (xs:List (List qw)) (i:Int):(List qw):=xs.getD i.toNat ([]:List qw)
/-! #### struct type 107 -/
structure qH where
  f0:qw
  f1:Int
  f2:Bool
def YN:qH:=⟨Yx,(0:Int),false⟩
def zr:Kd qH:=Kd.iso (Kd.pair js (Kd.pair (Kd.int .i64) Kd.bool)) (fun x:qH=>(x.f0,x.f1,x.f2))
theorem k107_open {w:World} {x:qH} {cs:List Value} (h:zr.K w x cs):∃ A0 c0 A4 c4 A5 c5 A6 c6,cs=[.slice A0 x.f0.f0.f0.length c0,.int .i64 x.f0.f1,.int .i64 x.f0.f2,.int .i64 x.f0.f3,.slice A4 x.f0.f4.f0.length c4,.slice A5 x.f0.f5.length c5,.slice A6 x.f0.f6.length c6,.int .i64 x.f1,.bool x.f2]∧x.f0.f0.f0.length≤c0∧(Kd.slice 5 (Kd.int .u8)).C w A0 x.f0.f0.f0.length x.f0.f0.f0∧x.f0.f4.f0.length≤c4∧(Kd.slice 5 (Kd.int .u8)).C w A4 x.f0.f4.f0.length x.f0.f4.f0∧x.f0.f5.length≤c5∧(Kd.int .u8).C w A5 x.f0.f5.length x.f0.f5∧x.f0.f6.length≤c6∧(Kd.int .i64).C w A6 x.f0.f6.length x.f0.f6:=by
  obtain ⟨_,_,rfl,s0,⟨_,_,rfl,rfl,rfl⟩⟩:=h;obtain ⟨A0,c0,A4,c4,A5,c5,A6,c6,rfl,l0,g0,l4,g4,l5,g5,l6,g6⟩:=k105_open s0;exact ⟨A0,c0,A4,c4,A5,c5,A6,c6,rfl,l0,g0,l4,g4,l5,g5,l6,g6⟩
theorem k107_openM {w:World} {base:Nat} {ok:Nat→Prop} {x:qH} {cs:List Value} (h:zr.M w base ok x cs):∃ v0 v4 v5 v6,cs=[v0,.int .i64 x.f0.f1,.int .i64 x.f0.f2,.int .i64 x.f0.f3,v4,v5,v6,.int .i64 x.f1,.bool x.f2]∧(Kd.slice 5 (Kd.int .u8)).R 27 w base ok v0 x.f0.f0.f0∧(Kd.slice 5 (Kd.int .u8)).R 27 w base ok v4 x.f0.f4.f0∧(Kd.int .u8).R 5 w base ok v5 x.f0.f5∧(Kd.int .i64).R 3 w base ok v6 x.f0.f6:=by
  obtain ⟨_,_,rfl,s0,⟨_,_,rfl,rfl,rfl⟩⟩:=h;obtain ⟨v0,v4,v5,v6,rfl,g0,g4,g5,g6⟩:=k105_openM s0;exact ⟨v0,v4,v5,v6,rfl,g0,g4,g5,g6⟩
theorem k107_mkM (w:World) (base:Nat) (ok:Nat→Prop) (x:qH) {v0:Value} (g0:(Kd.slice 5 (Kd.int .u8)).R 27 w base ok v0 x.f0.f0.f0) {v4:Value} (g4:(Kd.slice 5 (Kd.int .u8)).R 27 w base ok v4 x.f0.f4.f0) {v5:Value} (g5:(Kd.int .u8).R 5 w base ok v5 x.f0.f5) {v6:Value} (g6:(Kd.int .i64).R 3 w base ok v6 x.f0.f6):zr.M w base ok x [v0,.int .i64 x.f0.f1,.int .i64 x.f0.f2,.int .i64 x.f0.f3,v4,v5,v6,.int .i64 x.f1,.bool x.f2]:=⟨[v0,.int .i64 x.f0.f1,.int .i64 x.f0.f2,.int .i64 x.f0.f3,v4,v5,v6],[.int .i64 x.f1,.bool x.f2],rfl,(k105_mkM w base ok x.f0 g0 g4 g5 g6),⟨[.int .i64 x.f1],[.bool x.f2],rfl,rfl,rfl⟩⟩
def qg (xs:List qH) (i:Int):qH:=xs.getD i.toNat YN
theorem qgj {w:World} {A:Option Addr} {n:Nat} {xs:List qH} (h:Kd.C zr w A n xs) (i:Int) (h0:0≤i) (h1:i < n):∃ ad A0 c0 A4 c4 A5 c5 A6 c6,A=some ad∧w.cell? (ad.add (i.toNat * 9))=some (.slice A0 (qg xs i).f0.f0.f0.length c0)∧w.cell? ⟨(ad.add (i.toNat * 9)).block,(ad.add (i.toNat * 9)).off+1,none⟩=some (.int .i64 (qg xs i).f0.f1)∧w.cell? ⟨(ad.add (i.toNat * 9)).block,(ad.add (i.toNat * 9)).off+2,none⟩=some (.int .i64 (qg xs i).f0.f2)∧w.cell? ⟨(ad.add (i.toNat * 9)).block,(ad.add (i.toNat * 9)).off+3,none⟩=some (.int .i64 (qg xs i).f0.f3)∧w.cell? ⟨(ad.add (i.toNat * 9)).block,(ad.add (i.toNat * 9)).off+4,none⟩=some (.slice A4 (qg xs i).f0.f4.f0.length c4)∧w.cell? ⟨(ad.add (i.toNat * 9)).block,(ad.add (i.toNat * 9)).off+5,none⟩=some (.slice A5 (qg xs i).f0.f5.length c5)∧w.cell? ⟨(ad.add (i.toNat * 9)).block,(ad.add (i.toNat * 9)).off+6,none⟩=some (.slice A6 (qg xs i).f0.f6.length c6)∧w.cell? ⟨(ad.add (i.toNat * 9)).block,(ad.add (i.toNat * 9)).off+7,none⟩=some (.int .i64 (qg xs i).f1)∧w.cell? ⟨(ad.add (i.toNat * 9)).block,(ad.add (i.toNat * 9)).off+8,none⟩=some (.bool (qg xs i).f2)∧(qg xs i).f0.f0.f0.length≤c0∧(Kd.slice 5 (Kd.int .u8)).C w A0 (qg xs i).f0.f0.f0.length (qg xs i).f0.f0.f0∧(qg xs i).f0.f4.f0.length≤c4∧(Kd.slice 5 (Kd.int .u8)).C w A4 (qg xs i).f0.f4.f0.length (qg xs i).f0.f4.f0∧(qg xs i).f0.f5.length≤c5∧(Kd.int .u8).C w A5 (qg xs i).f0.f5.length (qg xs i).f0.f5∧(qg xs i).f0.f6.length≤c6∧(Kd.int .i64).C w A6 (qg xs i).f0.f6.length (qg xs i).f0.f6:=by
  obtain ⟨ad,c,e,_,hK,hc0⟩:=Kd.C_get h YN i h0 h1;have hc:∀ j u,c[j]?=some u→w.cell? (ad.add (i.toNat * 9+j))=some u:=hc0;obtain ⟨A0,c0,A4,c4,A5,c5,A6,c6,rfl,l0,g0,l4,g4,l5,g5,l6,g6⟩:=k107_open hK;exact ⟨ad,A0,c0,A4,c4,A5,c5,A6,c6,e,hc 0 _ rfl,by rw [← add_field _ _ 1 (by omega)]; exact hc 1 _ rfl,by rw [← add_field _ _ 2 (by omega)]; exact hc 2 _ rfl,by rw [← add_field _ _ 3 (by omega)]; exact hc 3 _ rfl,by rw [← add_field _ _ 4 (by omega)]; exact hc 4 _ rfl,by rw [← add_field _ _ 5 (by omega)]; exact hc 5 _ rfl,by rw [← add_field _ _ 6 (by omega)]; exact hc 6 _ rfl,by rw [← add_field _ _ 7 (by omega)]; exact hc 7 _ rfl,by rw [← add_field _ _ 8 (by omega)]; exact hc 8 _ rfl,l0,g0,l4,g4,l5,g5,l6,g6⟩

def qeI (xs:List (List qH)) (i:Int):(List qH):=xs.getD i.toNat ([]:List qH)
/-! #### struct type 35 -/
/-! #### struct type 36 -/
/-! #### struct type 37 -/
/-! #### struct type 38 -/
/-! #### struct type 58 -/
/-! #### struct type 60 -/
/-! #### struct type 61 -/
/-! #### struct type 66 -/
/-! #### struct type 67 -/
/-! #### struct type 95 -/
/-! #### struct type 104 -/
/-! #### struct type 106 -/
/-! #### struct type 113 -/
/-! #### struct type 115 -/
/-! #### struct type 133 -/
/-! #### struct type 157 -/
/-! #### struct type 158 -/
/-- One world is another one with blocks made and draws taken. -/
def Gr (A W:World):Prop:=Below A.heap.size A W
instance Gr.refl_ (A:World):Nonempty (Gr A A):=⟨Below.refl _ _⟩
instance Gr.alloc_ (A W:World) (o:Obj) [h:Nonempty (Gr A W)]:Nonempty (Gr A (W.alloc o)):=h.elim fun h=>⟨below_alloc h o⟩
instance Gr.drew_ (A W:World) [h:Nonempty (Gr A W)]:Nonempty (Gr A W.drew):=h.elim fun h=>⟨below_drew h⟩
instance Gr.drewN_ (A W:World) (n:Nat) [h:Nonempty (Gr A W)]:Nonempty (Gr A (W.drewN n)):=h.elim fun h=>⟨pw_below_drewN h n⟩
section
variable {α:Type} {d:Kd α} {e base n:Nat} {ok:Nat→Prop} {w W W':World} {v:Value} {xs:List α} {A:Option Addr}
theorem bw (h:Below w.heap.size w W) [g:Nonempty (Gr W W')]:Below w.heap.size w W':=g.elim fun g=>below_step h g
theorem bk {g:Nat} {o:Obj} (h:W.heap[g]?=some o) [k:Nonempty (Gr W W')]:W'.heap[g]?=some o:=k.elim fun k=>blk_below h k
theorem cw (h:d.C w A n xs) (hb:Below w.heap.size w W) [g:Nonempty (Gr W W')]:d.C W' A n xs:=Kd.C_below h (bw hb)
theorem rw_ (h:d.R e W base ok v xs) [g:Nonempty (Gr W W')]:d.R e W' base ok v xs:=g.elim fun g=>Kd.R_below h g
theorem sw (h:d.S e W base ok v xs) [g:Nonempty (Gr W W')]:d.S e W' base ok v xs:=g.elim fun g=>Kd.S_below h g
end
section
variable {W:World} {g t:Nat} {a b c d e f x y z:Value}
theorem cells1 (h:W.heap[g]?=some (.cells #[a] t (0,0))):W.cell? ⟨g,0,none⟩=some a∧W.frozen? ⟨g,0,none⟩=false:=⟨(blk_cell h 0).trans rfl,blk_frozen h 0⟩
theorem cells2 (h:W.heap[g]?=some (.cells #[a,b] t (0,0))):W.cell? ⟨g,0,none⟩=some a∧W.cell? ⟨g,1,none⟩=some b∧W.frozen? ⟨g,0,none⟩=false∧W.frozen? ⟨g,1,none⟩=false :=
  ⟨(blk_cell h 0).trans rfl,(blk_cell h 1).trans rfl,blk_frozen h 0,blk_frozen h 1⟩
theorem cells7 (h:W.heap[g]?=some (.cells #[a,b,c,d,e,f,x] t (0,0))):W.cell? ⟨g,0,none⟩=some a∧W.cell? ⟨g,1,none⟩=some b∧W.cell? ⟨g,2,none⟩=some c∧W.cell? ⟨g,3,none⟩=some d∧W.cell? ⟨g,4,none⟩=some e∧W.cell? ⟨g,5,none⟩=some f∧W.cell? ⟨g,6,none⟩=some x∧W.frozen? ⟨g,0,none⟩=false∧W.frozen? ⟨g,1,none⟩=false∧W.frozen? ⟨g,2,none⟩=false∧W.frozen? ⟨g,3,none⟩=false∧W.frozen? ⟨g,4,none⟩=false∧W.frozen? ⟨g,5,none⟩=false∧W.frozen? ⟨g,6,none⟩=false :=
  ⟨(blk_cell h 0).trans rfl,(blk_cell h 1).trans rfl,(blk_cell h 2).trans rfl,(blk_cell h 3).trans rfl,(blk_cell h 4).trans rfl,(blk_cell h 5).trans rfl,(blk_cell h 6).trans rfl,blk_frozen h 0,blk_frozen h 1,blk_frozen h 2,blk_frozen h 3,blk_frozen h 4,blk_frozen h 5,blk_frozen h 6⟩
theorem cells9 (h:W.heap[g]?=some (.cells #[a,b,c,d,e,f,x,y,z] t (0,0))):W.cell? ⟨g,0,none⟩=some a∧W.cell? ⟨g,1,none⟩=some b∧W.cell? ⟨g,2,none⟩=some c∧W.cell? ⟨g,3,none⟩=some d∧W.cell? ⟨g,4,none⟩=some e∧W.cell? ⟨g,5,none⟩=some f∧W.cell? ⟨g,6,none⟩=some x∧W.cell? ⟨g,7,none⟩=some y∧W.cell? ⟨g,8,none⟩=some z∧W.frozen? ⟨g,0,none⟩=false∧W.frozen? ⟨g,1,none⟩=false∧W.frozen? ⟨g,2,none⟩=false∧W.frozen? ⟨g,3,none⟩=false∧W.frozen? ⟨g,4,none⟩=false∧W.frozen? ⟨g,5,none⟩=false∧W.frozen? ⟨g,6,none⟩=false∧W.frozen? ⟨g,7,none⟩=false∧W.frozen? ⟨g,8,none⟩=false :=
  ⟨(blk_cell h 0).trans rfl,(blk_cell h 1).trans rfl,(blk_cell h 2).trans rfl,(blk_cell h 3).trans rfl,(blk_cell h 4).trans rfl,(blk_cell h 5).trans rfl,(blk_cell h 6).trans rfl,(blk_cell h 7).trans rfl,(blk_cell h 8).trans rfl,blk_frozen h 0,blk_frozen h 1,blk_frozen h 2,blk_frozen h 3,blk_frozen h 4,blk_frozen h 5,blk_frozen h 6,blk_frozen h 7,blk_frozen h 8⟩
end
section
variable {P:Program} {ops:Array Oper} {rest:List Oper} {o:Oper} {a:Act} {Q:Exit→Act→World→Prop}
/-- A struct's variable is made. -/
theorem boxed {w W0 W:World} {N:Tmp} (_hN:o.dst=some N) (hgd:o.guard=none) {cs:Array Value} {t:TypeId} (hB:Below w.heap.size w W0) [gr:Nonempty (Gr W0 W)]
    (hrun:(execOp a.eval o).run P W=.ok (.value (.pointer (some ⟨W.heap.size,0,none⟩))) (W.alloc (.cells cs t (0,0))))
    (h:∀ g,∀ w1,g=W.heap.size→Aside0 (Below w.heap.size w w1)→Aside0 (w1.heap[g]?=some (.cells cs t (0,0)))→Aside0 (w.heap.size≤g)→Below W.heap.size W w1→wpList P ops Q rest (a.put o.dst (.pointer (some ⟨g,0,none⟩))) w1):wpList P ops Q (o :: rest) a W:=by
  have hB':Below w.heap.size w W:=bw hB;exact box_event hgd _hN hrun (fun g hg w1 hbox hb=>h g w1 hg ⟨below_step hB' hb⟩ ⟨hbox⟩ ⟨by rw [hg]; exact hB'.size⟩ hb)
end
section
variable {α:Type} {d:Kd α} {e base g k t:Nat} {ok:Nat→Prop} {W:World} {v:Value} {xs:List α} {cs:Array Value} {l:List Nat}
end
/-- Which operations of a region are done: n places, told by a number's bits. -/
def bA (n m:Nat):Array Bool:=((List.range n).map fun i=>m.testBit i).toArray
section
variable {α:Type} {d:Kd α} {e base g g' t:Nat} {ok:Nat→Prop} {W W1:World} {v:Value} {xs:List α} {cs:Array Value} {fr:Nat × Nat}
theorem far7R {v0 v1 v2 v3 v4 v5 v6:Value} (h:Kd.R d e W base ok v xs) [k:Nonempty (Gr W W1)] (hb:W1.heap[g]?=some (.cells cs t (0,0))) (ht:∀ q,q ∈ e :: d.E→q≠t):Kd.R d e (((((((W1.setCell ⟨g,0,none⟩ v0).setCell ⟨g,1,none⟩ v1).setCell ⟨g,2,none⟩ v2).setCell ⟨g,3,none⟩ v3).setCell ⟨g,4,none⟩ v4).setCell ⟨g,5,none⟩ v5).setCell ⟨g,6,none⟩ v6) base ok v xs :=
  Kd.R_mono (Kd.R_far (p:=⟨g,6,none⟩) (Kd.R_far (p:=⟨g,5,none⟩) (Kd.R_far (p:=⟨g,4,none⟩) (Kd.R_far (p:=⟨g,3,none⟩) (Kd.R_far (p:=⟨g,2,none⟩) (Kd.R_far (p:=⟨g,1,none⟩) (Kd.R_far (p:=⟨g,0,none⟩) (Kd.R_types (rw_ h) hb ht) (fun _ hk=>hk.2) _) (fun _ hk=>hk.2) _) (fun _ hk=>hk.2) _) (fun _ hk=>hk.2) _) (fun _ hk=>hk.2) _) (fun _ hk=>hk.2) _) (fun _ hk=>hk.2) _) (fun _ h_=>h_.1)
theorem Xa {v0 v1 v2 v3 v4 v5 v6:Value} (hn:g≠g') (h:W.heap[g]?=some (.cells cs t (0,0))) [k:Nonempty (Gr W W1)]:(((((((W1.setCell ⟨g',0,none⟩ v0).setCell ⟨g',1,none⟩ v1).setCell ⟨g',2,none⟩ v2).setCell ⟨g',3,none⟩ v3).setCell ⟨g',4,none⟩ v4).setCell ⟨g',5,none⟩ v5).setCell ⟨g',6,none⟩ v6).heap[g]?=some (.cells cs t (0,0)):=(blk_far (blk_far (blk_far (blk_far (blk_far (blk_far (blk_far (bk h) hn _) hn _) hn _) hn _) hn _) hn _) hn _)
theorem Xz {v0 v1 v2 v3 v4 v5 v6 z0 z1 z2 z3 z4 z5 z6:Value} (h:W.heap[g]?=some (.cells #[z0,z1,z2,z3,z4,z5,z6] t (0,0))) [k:Nonempty (Gr W W1)]:(((((((W1.setCell ⟨g,0,none⟩ v0).setCell ⟨g,1,none⟩ v1).setCell ⟨g,2,none⟩ v2).setCell ⟨g,3,none⟩ v3).setCell ⟨g,4,none⟩ v4).setCell ⟨g,5,none⟩ v5).setCell ⟨g,6,none⟩ v6).heap[g]?=some (.cells #[v0,v1,v2,v3,v4,v5,v6] t (0,0)):=(blk_put (cs':=#[v0,v1,v2,v3,v4,v5,v6]) (blk_put (cs':=#[v0,v1,v2,v3,v4,v5,z6]) (blk_put (cs':=#[v0,v1,v2,v3,v4,z5,z6]) (blk_put (cs':=#[v0,v1,v2,v3,z4,z5,z6]) (blk_put (cs':=#[v0,v1,v2,z3,z4,z5,z6]) (blk_put (cs':=#[v0,v1,z2,z3,z4,z5,z6]) (blk_put (cs':=#[v0,z1,z2,z3,z4,z5,z6]) (bk h) 0 v0 rfl) 1 v1 rfl) 2 v2 rfl) 3 v3 rfl) 4 v4 rfl) 5 v5 rfl) 6 v6 rfl)
theorem far9R {v0 v1 v2 v3 v4 v5 v6 v7 v8:Value} (h:Kd.R d e W base ok v xs) [k:Nonempty (Gr W W1)] (hb:W1.heap[g]?=some (.cells cs t (0,0))) (ht:∀ q,q ∈ e :: d.E→q≠t):Kd.R d e (((((((((W1.setCell ⟨g,0,none⟩ v0).setCell ⟨g,1,none⟩ v1).setCell ⟨g,2,none⟩ v2).setCell ⟨g,3,none⟩ v3).setCell ⟨g,4,none⟩ v4).setCell ⟨g,5,none⟩ v5).setCell ⟨g,6,none⟩ v6).setCell ⟨g,7,none⟩ v7).setCell ⟨g,8,none⟩ v8) base ok v xs :=
  Kd.R_mono (Kd.R_far (p:=⟨g,8,none⟩) (Kd.R_far (p:=⟨g,7,none⟩) (Kd.R_far (p:=⟨g,6,none⟩) (Kd.R_far (p:=⟨g,5,none⟩) (Kd.R_far (p:=⟨g,4,none⟩) (Kd.R_far (p:=⟨g,3,none⟩) (Kd.R_far (p:=⟨g,2,none⟩) (Kd.R_far (p:=⟨g,1,none⟩) (Kd.R_far (p:=⟨g,0,none⟩) (Kd.R_types (rw_ h) hb ht) (fun _ hk=>hk.2) _) (fun _ hk=>hk.2) _) (fun _ hk=>hk.2) _) (fun _ hk=>hk.2) _) (fun _ hk=>hk.2) _) (fun _ hk=>hk.2) _) (fun _ hk=>hk.2) _) (fun _ hk=>hk.2) _) (fun _ hk=>hk.2) _) (fun _ h_=>h_.1)
theorem qiE {v0 v1 v2 v3 v4 v5 v6 v7 v8:Value} (hn:g≠g') (h:W.heap[g]?=some (.cells cs t (0,0))) [k:Nonempty (Gr W W1)]:(((((((((W1.setCell ⟨g',0,none⟩ v0).setCell ⟨g',1,none⟩ v1).setCell ⟨g',2,none⟩ v2).setCell ⟨g',3,none⟩ v3).setCell ⟨g',4,none⟩ v4).setCell ⟨g',5,none⟩ v5).setCell ⟨g',6,none⟩ v6).setCell ⟨g',7,none⟩ v7).setCell ⟨g',8,none⟩ v8).heap[g]?=some (.cells cs t (0,0)):=(blk_far (blk_far (blk_far (blk_far (blk_far (blk_far (blk_far (blk_far (blk_far (bk h) hn _) hn _) hn _) hn _) hn _) hn _) hn _) hn _) hn _)
theorem ql4 {v0 v1 v2 v3 v4 v5 v6 v7 v8 z0 z1 z2 z3 z4 z5 z6 z7 z8:Value} (h:W.heap[g]?=some (.cells #[z0,z1,z2,z3,z4,z5,z6,z7,z8] t (0,0))) [k:Nonempty (Gr W W1)]:(((((((((W1.setCell ⟨g,0,none⟩ v0).setCell ⟨g,1,none⟩ v1).setCell ⟨g,2,none⟩ v2).setCell ⟨g,3,none⟩ v3).setCell ⟨g,4,none⟩ v4).setCell ⟨g,5,none⟩ v5).setCell ⟨g,6,none⟩ v6).setCell ⟨g,7,none⟩ v7).setCell ⟨g,8,none⟩ v8).heap[g]?=some (.cells #[v0,v1,v2,v3,v4,v5,v6,v7,v8] t (0,0)):=(blk_put (cs':=#[v0,v1,v2,v3,v4,v5,v6,v7,v8]) (blk_put (cs':=#[v0,v1,v2,v3,v4,v5,v6,v7,z8]) (blk_put (cs':=#[v0,v1,v2,v3,v4,v5,v6,z7,z8]) (blk_put (cs':=#[v0,v1,v2,v3,v4,v5,z6,z7,z8]) (blk_put (cs':=#[v0,v1,v2,v3,v4,z5,z6,z7,z8]) (blk_put (cs':=#[v0,v1,v2,v3,z4,z5,z6,z7,z8]) (blk_put (cs':=#[v0,v1,v2,z3,z4,z5,z6,z7,z8]) (blk_put (cs':=#[v0,v1,z2,z3,z4,z5,z6,z7,z8]) (blk_put (cs':=#[v0,z1,z2,z3,z4,z5,z6,z7,z8]) (bk h) 0 v0 rfl) 1 v1 rfl) 2 v2 rfl) 3 v3 rfl) 4 v4 rfl) 5 v5 rfl) 6 v6 rfl) 7 v7 rfl) 8 v8 rfl)
end

section
variable {α β:Type} {A B r:Option α}
theorem bnd {o:Option β} {f:β→Option α} {r:α} (h:o.bind f=some r):∃ x,Aside0 (o=some x)∧f x=some r:=(Option.bind_eq_some_iff.mp h).elim fun x h=>⟨x,⟨h.1⟩,h.2⟩
theorem bnS {x:β} {f:β→Option α} (h:(some x).bind f=r):f x=r:=h
theorem ib {t:Bool} (h:(if t=true then A else B)=r):(t=true∧A=r)∨(t=false∧B=r):=by cases t; exact .inr ⟨rfl,h⟩; exact .inl ⟨rfl,h⟩
section
variable {p:Prop} [Decidable p]
theorem iq (h:(if p then A else B)=r):(p∧A=r)∨(¬ p∧B=r):=by
  by_cases c:p
  · exact .inl ⟨c,by rwa [if_pos c] at h⟩
  · exact .inr ⟨c,by rwa [if_neg c] at h⟩
theorem iqN {r:α} (h:(if p then A else none)=some r):p∧A=some r:=by
  obtain h | h:=iq h
  · exact h
  · cases h.2
theorem ip (h:(if p then A else B)=r):(decide p=true∧A=r)∨(decide p=false∧B=r):=(iq h).imp (fun h=>⟨decide_eq_true h.1,h.2⟩) (fun h=>⟨decide_eq_false h.1,h.2⟩)
theorem ipN {r:α} (h:(if p then A else none)=some r):decide p=true∧A=some r:=⟨decide_eq_true (iqN h).1,(iqN h).2⟩
theorem ipE {r:α} (h:(if p then A else none)=some r):p=True∧decide p=true∧A=some r:=⟨eq_true (iqN h).1,decide_eq_true (iqN h).1,(iqN h).2⟩
end
section
variable {a b:Int}
theorem ig (h:(if a > b then A else B)=r):(decide (b < a)=true∧A=r)∨(decide (b < a)=false∧B=r):=ip h
theorem ih (h:(if a ≥ b then A else B)=r):(decide (b≤a)=true∧A=r)∨(decide (b≤a)=false∧B=r):=ip h
end
section
variable {τ:Type} [BEq τ] [LawfulBEq τ] {a b:τ} [Decidable (a=b)]
theorem ie (h:(if a=b then A else B)=r):((a == b)=true∧(a != b)=false∧A=r)∨((a == b)=false∧(a != b)=true∧B=r):=(iq h).imp (fun h=>⟨beq_iff_eq.mpr h.1,bne_eq_false_iff_eq.mpr h.1,h.2⟩) (fun h=>⟨beq_eq_false_iff_ne.mpr h.1,bne_iff_ne.mpr h.1,h.2⟩)
end
end
theorem lnT {a b:Nat} (h:((a:Int) == (b:Int))=true):(a == b)=true:=by have:=beq_iff_eq.mp h; exact beq_iff_eq.mpr (by omega)
theorem lnF {a b:Nat} (h:((a:Int) == (b:Int))=false):(a == b)=false:=by have:=beq_eq_false_iff_ne.mp h; exact beq_eq_false_iff_ne.mpr (by omega)
section
variable {α:Type} {d:Kd α} {e base n g t:Nat} {ok:Nat→Prop} {w W W' W2:World} {v:Value} {xs:List α} {A:Option Addr} {o:Obj}
theorem ak {p:Prop} (h:p):Aside0 p:=⟨h⟩
theorem cv (h:Aside0 (d.C w A n xs)) (hb:Aside0 (Below w.heap.size w W)) [Nonempty (Gr W W')]:d.C W' A n xs:=cw h.out hb.out
theorem cd (h:Aside0 (d.C w A n xs)) [g:Nonempty (Gr w W')]:d.C W' A n xs:=g.elim fun g=>Kd.C_below h.out g
theorem nw (h:d.N e W base ok v xs) [g:Nonempty (Gr W W')]:d.N e W' base ok v xs:=g.elim fun g=>Kd.N_below h g
theorem vw (h:d.V e W base ok v xs) [g:Nonempty (Gr W W')]:d.V e W' base ok v xs:=g.elim fun g=>Kd.V_below h g
theorem b1 (h:Aside0 (W.heap[g]?=some o)) [Nonempty (Gr W W')] (hb:Below W'.heap.size W' W2):Aside0 (W2.heap[g]?=some o):=⟨blk_below (bk h.out) hb⟩
theorem b2 (h:Aside0 (Below w.heap.size w W)) [Nonempty (Gr W W')] (hb:Below W'.heap.size W' W2):Aside0 (Below w.heap.size w W2):=⟨below_step (bw h.out) hb⟩
theorem b2s (h:Below w.heap.size w W) (hb:Below W.heap.size W W2):Aside0 (Below w.heap.size w W2):=⟨below_step h hb⟩
theorem b3 (hg:g=W'.heap.size) (h:Aside0 (Below w.heap.size w W)) [Nonempty (Gr W W')]:Aside0 (w.heap.size≤g):=⟨by rw [hg]; exact below_size (bw h.out)⟩
theorem b3s (hg:g=W.heap.size) (h:Below w.heap.size w W):Aside0 (w.heap.size≤g):=⟨by rw [hg]; exact below_size h⟩
theorem b4 {g1:Nat} (hg:g=W'.heap.size) (h:Aside0 (W.heap[g1]?=some o)) [Nonempty (Gr W W')]:Aside0 (g1≠g):=⟨by rw [hg]; exact Nat.ne_of_lt (blk_lt (bk h.out))⟩
theorem b5 {g1:Nat} (hg:g=W'.heap.size) (h:Aside0 (W.heap[g1]?=some o)) [Nonempty (Gr W W')]:Aside0 (g≠g1):=⟨by rw [hg]; exact Nat.ne_of_gt (blk_lt (bk h.out))⟩
end
/-- What was is still as it was: through stores into blocks that were made since. -/
theorem bs {p:Prop} (h:p:=by repeat (first | (with_reducible refine below_set ?_ (Aside0.out (by with_reducible assumption))) | exact bw HB.out)):p:=h
theorem o1 {p:Prop} (h:p:=by first | rfl | (simp [errW_none,errW_some] <;> rfl) | (simp [*,errW_none,errW_some] <;> rfl)):p:=h
theorem o2 {p:Prop} (h:p:=by first | rfl | (simp; done) | (simp [*]; done)):p:=h
theorem od {p:Prop} (h:p:=by repeat (first | exact Drawn0.refl _ | apply Drawn0.step)):p:=h
theorem kq {p:Prop} (h:p:=by (repeat' apply And.intro) <;> first | (with_reducible assumption) | exact (blk_cell (Aside0.out (by with_reducible assumption)) _).trans rfl | exact pw_cell_below HB.out (by with_reducible assumption)):p:=h
theorem o3 {p:Prop} (h:p:=by first | omega | exact Nat.le_refl _):p:=h
section
variable {P:Program} {ops:Array Oper} {rest:List Oper} {oi:Oper} {a:Act} {Q:Exit→Act→World→Prop}
/-- A call. -/
theorem glG {w:World} (N:Tmp) (hd:oi.dst=some N) {f:FuncId} {fn:Func} {zs:Array Operand} {ts:Array TypeId} (hop:oi.op=.call { callee:=.value (.func f),args:=zs,argTypes:=ts }) (hf:P.funcs[f]?=some fn) {args:Array Value} {R:Ending→World→Prop} (hc:Calls P f args w R)
    (h:∀ e w',R e w'→∃ v,e=.returned v∧wpList P ops Q rest (a.put (some N) v) w') (hg:oi.guard=none:=by rfl)
    (hname : (fn.name == "runtime.NumGoroutine") = false := by kernel_rfl) (hb : fn.body.isSome = true := by rfl)
    (hargs:zs.map a.eval=args:=by (try simp only [List.map_toArray,List.map_cons,List.map_nil]); first | done | rfl | (simp only [List.length_drop,List.length_take]; rfl)):wpList P ops Q (oi :: rest) a w :=
  goesL_ (some N) hd hg hf hname hb args hop hargs (hc.mono h)
theorem glD {w:World} (N:Tmp) (hd:oi.dst=some N) {f:FuncId} {fn:Func} {zs:Array Operand} {ts:Array TypeId} (hop:oi.op=.call { callee:=.value (.func f),args:=zs,argTypes:=ts }) (hf:P.funcs[f]?=some fn) {args:Array Value} {v:Value} (hc:Calls P f args w fun e w'=>e=.returned v∧Drawn0 w w')
    (h:∀ nd,wpList P ops Q rest (a.put (some N) v) (w.drewN nd)) (hg:oi.guard=none:=by rfl)
    (hname : (fn.name == "runtime.NumGoroutine") = false := by kernel_rfl) (hb : fn.body.isSome = true := by rfl)
    (hargs:zs.map a.eval=args:=by (try simp only [List.map_toArray,List.map_cons,List.map_nil]); first | done | rfl | (simp only [List.length_drop,List.length_take]; rfl)):wpList P ops Q (oi :: rest) a w :=
  goesL_ (some N) hd hg hf hname hb args hop hargs (hc.mono fun e w' h2=>⟨v,h2.1,by obtain ⟨nd,rfl⟩:=h2.2; exact h nd⟩)
theorem glB {w:World} (N:Tmp) (hd:oi.dst=some N) {f:FuncId} {fn:Func} {zs:Array Operand} {ts:Array TypeId} (hop:oi.op=.call { callee:=.value (.func f),args:=zs,argTypes:=ts }) (hf:P.funcs[f]?=some fn) {args:Array Value} {v:Value} (hc:Calls P f args w fun e w'=>e=.returned v∧Below w.heap.size w w')
    (h:∀ w',Below w.heap.size w w'→wpList P ops Q rest (a.put (some N) v) w') (hg:oi.guard=none:=by rfl)
    (hname : (fn.name == "runtime.NumGoroutine") = false := by kernel_rfl) (hb : fn.body.isSome = true := by rfl)
    (hargs:zs.map a.eval=args:=by (try simp only [List.map_toArray,List.map_cons,List.map_nil]); first | done | rfl | (simp only [List.length_drop,List.length_take]; rfl)):wpList P ops Q (oi :: rest) a w :=
  goesL_ (some N) hd hg hf hname hb args hop hargs (hc.mono fun e w' h2=>⟨v,h2.1,h w' h2.2⟩)
end
section
variable {P:Program} {ops:Array Oper} {oi:Oper} {Q:Exit→Act→World→Prop} {md:Region.Mode} {S:World→Prop} {ds:List Nat} {T:Bool × List (List Nat × List Nat)} {n m fuel:Nat} {a a':Act} {w:World}
/-- Steps of a region: one that yields a value; one that is not wanted; a load; a call. -/
theorem pu (hT:Aside0 (rtab md ops=T)) (i:Nat) {N:Nat} {v:Value} (h:wpAnyLast P md ops Q S ds fuel (bA n (m+2 ^ i)) a' w) (hi:ops[i]?=some oi:=by rfl) (hN:oi.dst=some N:=by rfl)
    (hc:anyT T (bA n m).toList (bA n (m+2 ^ i)).toList i=true:=by kernel_rfl) (hw:Region.wanted oi (yielded ops a.tmps)=true:=by rfl)
    (hy:∀ w,(execOp a.eval oi).run P w=.ok (.value v) w:=by intro w'; go_simp; with_reducible rfl) (ha:a.put (some N) v=a':=by go_simp; rfl)
    (hQ:∀ c a w,Q (.panic c) (a.put oi.dst v) w→Q (.panic c) a w:=by exact fun _ _ _ h=>h):wpAnyLast P md ops Q S ds (fuel+1) (bA n m) a w :=
  pure_ (i:=i) _ hi hN (any_of hT.out hc) hQ (.inl ⟨hw,hy⟩) ha h
theorem ta {B:List Nat} (hT:Aside0 (rtab md ops=T)) (hB:Aside0 (waitsOk T.2 B=true)) (hS:S w) (i:Nat) {N:Nat} {v:Value} (h:wpAnyLast P md ops Q S ds fuel (bA n (m+2 ^ i)) a' w) (hi:ops[i]?=some oi:=by rfl) (hN:oi.dst=some N:=by rfl)
    (hc:takeW T B ds (bA n m).toList (bA n (m+2 ^ i)).toList i=true:=by kernel_rfl) (hw:Region.wanted oi (yielded ops a.tmps)=true:=by rfl)
    (hy:∀ w,S w→(execOp a.eval oi).run P w=.ok (.value v) w:=by intro w' hS; (repeat (obtain ⟨_,hS⟩:=hS)); go_simp; with_reducible rfl) (ha:a.put (some N) v=a':=by go_simp; rfl)
    (hQ:∀ c a w,Q (.panic c) (a.put oi.dst v) w→Q (.panic c) a w:=by exact fun _ _ _ h=>h):wpAnyLast P md ops Q S ds (fuel+1) (bA n m) a w :=
  take_ (i:=i) _ hi hN (take_ofW hT.out hB.out hc) hQ (.inl ⟨hw,hy⟩) hS ha h
theorem on (hT:Aside0 (rtab md ops=T)) (i:Nat) {N:Option Tmp}
    (h:∀ K:Act→World→Prop,Shut (∀ a' w',S w'→(S w'→wpAnyLast P md ops Q S ds fuel (bA n (m+2 ^ i)) a' w')→K a' w')→if Region.wanted oi (yielded ops a.tmps)=true then Oper.wp P oi a w K Q else K (a.put N undef) w)
    (hi:ops[i]?=some oi:=by rfl) (hN:oi.dst=N:=by rfl) (hc:(readyT T.2 (bA n m).toList == [i] && (bA n m).toList.set i true == (bA n (m+2 ^ i)).toList)=true:=by kernel_rfl) (hd:i ∉ ds:=by decide):wpAnyLast P md ops Q S ds (fuel+1) (bA n m) a w :=
  one_ (i:=i) _ hi hN (one_of hT.out hc) hd h
theorem gsG {K:Act→World→Prop} {f:FuncId} {fn:Func} (hf:P.funcs[f]?=some fn) {zs:Array Operand} {ts:Array TypeId} {args:Array Value} {N:Option Tmp} {R:Ending→World→Prop} (hc:Calls P f args w R)
    (h:∀ e w',R e w'→∃ v,e=.returned v∧K (a.put N v) w') (hop:oi.op=.call { callee:=.value (.func f),args:=zs,argTypes:=ts }:=by rfl) (hN:oi.dst=N:=by rfl) (hw:Region.wanted oi (yielded ops a.tmps)=true:=by rfl)
    (hname : (fn.name == "runtime.NumGoroutine") = false := by kernel_rfl) (hb : fn.body.isSome = true := by rfl)
    (hargs:zs.map a.eval=args:=by (try simp only [List.map_toArray,List.map_cons,List.map_nil]); first | done | rfl | (simp only [List.length_drop,List.length_take]; rfl)):if Region.wanted oi (yielded ops a.tmps)=true then Oper.wp P oi a w K Q else K (a.put N undef) w :=
  goes_ hf hname hb args hw hN hop hargs (hc.mono h)
theorem gsB {K:Act→World→Prop} {f:FuncId} {fn:Func} (hf:P.funcs[f]?=some fn) {zs:Array Operand} {ts:Array TypeId} {args:Array Value} {N:Option Tmp} {v:Value} (hc:Calls P f args w fun e w'=>e=.returned v∧Below w.heap.size w w')
    (h:∀ w',Below w.heap.size w w'→K (a.put N v) w') (hop:oi.op=.call { callee:=.value (.func f),args:=zs,argTypes:=ts }:=by rfl) (hN:oi.dst=N:=by rfl) (hw:Region.wanted oi (yielded ops a.tmps)=true:=by rfl)
    (hname : (fn.name == "runtime.NumGoroutine") = false := by kernel_rfl) (hb : fn.body.isSome = true := by rfl)
    (hargs:zs.map a.eval=args:=by (try simp only [List.map_toArray,List.map_cons,List.map_nil]); first | done | rfl | (simp only [List.length_drop,List.length_take]; rfl)):if Region.wanted oi (yielded ops a.tmps)=true then Oper.wp P oi a w K Q else K (a.put N undef) w :=
  goes_ hf hname hb args hw hN hop hargs (hc.mono fun e w' h2=>⟨v,h2.1,h w' h2.2⟩)
theorem kp {p:Prop} (h:p:=by (have h_:=hHeld); (repeat (obtain ⟨_,h_⟩:=h_)); ((repeat' apply And.intro) <;> exact pw_cell_below hb (by with_reducible assumption))):p:=h
end
section
variable {P:Program} {ops:Array Oper} {rest:List Oper} {o:Oper} {a:Act} {Q:Exit→Act→World→Prop}
/-- A struct's variable is made. -/
theorem bxe {W:World} {N:Tmp} (hd:o.dst=some N) {cs:Array Value} {t:TypeId}
    (h:∀ g,g=W.heap.size→∀ w1,w1.heap[g]?=some (.cells cs t (0,0))→Below W.heap.size W w1→wpList P ops Q rest (a.put o.dst (.pointer (some ⟨g,0,none⟩))) w1) (hgd:o.guard=none:=by rfl)
    (hrun:(execOp a.eval o).run P W=.ok (.value (.pointer (some ⟨W.heap.size,0,none⟩))) (W.alloc (.cells cs t (0,0))):=by first | (go_simp; done) | (go_simp; rfl)):wpList P ops Q (o :: rest) a W:=box_event hgd hd hrun h
theorem bxd {w W0 W:World} {N:Tmp} (hd:o.dst=some N) {cs:Array Value} {t:TypeId} (hB:Aside0 (Below w.heap.size w W0)) [gr:Nonempty (Gr W0 W)]
    (h:∀ g,∀ w1,g=W.heap.size→Aside0 (Below w.heap.size w w1)→Aside0 (w1.heap[g]?=some (.cells cs t (0,0)))→Aside0 (w.heap.size≤g)→Below W.heap.size W w1→wpList P ops Q rest (a.put o.dst (.pointer (some ⟨g,0,none⟩))) w1) (hgd:o.guard=none:=by rfl)
    (hrun:(execOp a.eval o).run P W=.ok (.value (.pointer (some ⟨W.heap.size,0,none⟩))) (W.alloc (.cells cs t (0,0))):=by first | (go_simp; done) | (go_simp; rfl)):wpList P ops Q (o :: rest) a W:=boxed hd hgd hB.out hrun h
end
theorem el_int {k:IntKind} {xs:List Int} {w W:World} {A:Option Addr} {n:Nat} (h:Aside0 (Kd.C (Kd.int k) w A n xs)) (hb:Aside0 (Below w.heap.size w W)) (i:Int) (h0:decide (0≤i)=true:=by first | (with_reducible assumption) | assumption) (h1:decide (i < n)=true:=by first | (with_reducible assumption) | assumption):∃ ad,A=some ad∧W.cell? (ad.add i.toNat)=some (.int k (rd xs i))∧(0≤i)=True∧(i < n)=True:=by
  obtain ⟨ad,e,x0⟩:=Kd.at_int h.out i (of_decide_eq_true h0) (of_decide_eq_true h1);exact ⟨ad,e,pw_cell_below hb.out x0,eq_true (of_decide_eq_true h0),eq_true (of_decide_eq_true h1)⟩
theorem el0_int {k:IntKind} {xs:List Int} {w:World} {A:Option Addr} {n:Nat} (h:Aside0 (Kd.C (Kd.int k) w A n xs)) (i:Int) (h0:decide (0≤i)=true:=by first | (with_reducible assumption) | assumption) (h1:decide (i < n)=true:=by first | (with_reducible assumption) | assumption):∃ ad,A=some ad∧w.cell? (ad.add i.toNat)=some (.int k (rd xs i))∧(0≤i)=True∧(i < n)=True:=by
  obtain ⟨ad,e,x0⟩:=Kd.at_int h.out i (of_decide_eq_true h0) (of_decide_eq_true h1);exact ⟨ad,e,x0,eq_true (of_decide_eq_true h0),eq_true (of_decide_eq_true h1)⟩
theorem el20_int {k:IntKind} {xs:List Int} {w:World} {ad:Addr} {n:Nat} (h:Aside0 (Kd.C (Kd.int k) w (some ad) n xs)) (i:Int) (h0:decide (0≤i)=true:=by first | (with_reducible assumption) | assumption) (h1:decide (i < n)=true:=by first | (with_reducible assumption) | assumption):w.cell? (ad.add i.toNat)=some (.int k (rd xs i))∧(0≤i)=True∧(i < n)=True:=by
  obtain ⟨ad',e,x0⟩:=Kd.at_int h.out i (of_decide_eq_true h0) (of_decide_eq_true h1);obtain rfl:=Option.some.inj e;exact ⟨x0,eq_true (of_decide_eq_true h0),eq_true (of_decide_eq_true h1)⟩
theorem el_L10 {xs:List (List Int)} {w W:World} {A:Option Addr} {n:Nat} (h:Aside0 (Kd.C (Kd.slice 5 (Kd.int .u8)) w A n xs)) (hb:Aside0 (Below w.heap.size w W)) (i:Int) (h0:decide (0≤i)=true:=by first | (with_reducible assumption) | assumption) (h1:decide (i < n)=true:=by first | (with_reducible assumption) | assumption):∃ ad A0 c0,A=some ad∧W.cell? (ad.add i.toNat)=some (.slice A0 (jA xs i).length c0)∧Aside0 ((jA xs i).length≤c0)∧Aside0 ((Kd.int .u8).C w A0 (jA xs i).length (jA xs i))∧(0≤i)=True∧(i < n)=True:=by
  obtain ⟨ad,A0,c0,e,x0,y0,y1⟩:=qa1 h.out i (of_decide_eq_true h0) (of_decide_eq_true h1);exact ⟨ad,A0,c0,e,pw_cell_below hb.out x0,⟨y0⟩,⟨y1⟩,eq_true (of_decide_eq_true h0),eq_true (of_decide_eq_true h1)⟩
theorem el0_L10 {xs:List (List Int)} {w:World} {A:Option Addr} {n:Nat} (h:Aside0 (Kd.C (Kd.slice 5 (Kd.int .u8)) w A n xs)) (i:Int) (h0:decide (0≤i)=true:=by first | (with_reducible assumption) | assumption) (h1:decide (i < n)=true:=by first | (with_reducible assumption) | assumption):∃ ad A0 c0,A=some ad∧w.cell? (ad.add i.toNat)=some (.slice A0 (jA xs i).length c0)∧Aside0 ((jA xs i).length≤c0)∧Aside0 ((Kd.int .u8).C w A0 (jA xs i).length (jA xs i))∧(0≤i)=True∧(i < n)=True:=by
  obtain ⟨ad,A0,c0,e,x0,y0,y1⟩:=qa1 h.out i (of_decide_eq_true h0) (of_decide_eq_true h1);exact ⟨ad,A0,c0,e,x0,⟨y0⟩,⟨y1⟩,eq_true (of_decide_eq_true h0),eq_true (of_decide_eq_true h1)⟩
theorem el_T134 {xs:List Jk} {w W:World} {A:Option Addr} {n:Nat} (h:Aside0 (Kd.C Yo w A n xs)) (hb:Aside0 (Below w.heap.size w W)) (i:Int) (h0:decide (0≤i)=true:=by first | (with_reducible assumption) | assumption) (h1:decide (i < n)=true:=by first | (with_reducible assumption) | assumption):∃ ad A0 c0,A=some ad∧W.cell? (ad.add (i.toNat * 2))=some (.slice A0 (Qu xs i).f0.f0.length c0)∧W.cell? ⟨(ad.add (i.toNat * 2)).block,(ad.add (i.toNat * 2)).off+1,none⟩=some (.int .i64 (Qu xs i).f1)∧Aside0 ((Qu xs i).f0.f0.length≤c0)∧Aside0 ((Kd.slice 5 (Kd.int .u8)).C w A0 (Qu xs i).f0.f0.length (Qu xs i).f0.f0)∧(0≤i)=True∧(i < n)=True:=by
  obtain ⟨ad,A0,c0,e,x0,x1,y0,y1⟩:=qjL h.out i (of_decide_eq_true h0) (of_decide_eq_true h1);exact ⟨ad,A0,c0,e,pw_cell_below hb.out x0,pw_cell_below hb.out x1,⟨y0⟩,⟨y1⟩,eq_true (of_decide_eq_true h0),eq_true (of_decide_eq_true h1)⟩
theorem el_T114 {xs:List yj} {w W:World} {A:Option Addr} {n:Nat} (h:Aside0 (Kd.C yr w A n xs)) (hb:Aside0 (Below w.heap.size w W)) (i:Int) (h0:decide (0≤i)=true:=by first | (with_reducible assumption) | assumption) (h1:decide (i < n)=true:=by first | (with_reducible assumption) | assumption):∃ ad A0 c0 A4 c4 A5 c5 A6 c6,A=some ad∧W.cell? (ad.add (i.toNat * 7))=some (.slice A0 (qV xs i).f0.f0.length c0)∧W.cell? ⟨(ad.add (i.toNat * 7)).block,(ad.add (i.toNat * 7)).off+1,none⟩=some (.int .i64 (qV xs i).f1)∧W.cell? ⟨(ad.add (i.toNat * 7)).block,(ad.add (i.toNat * 7)).off+2,none⟩=some (.int .i64 (qV xs i).f2)∧W.cell? ⟨(ad.add (i.toNat * 7)).block,(ad.add (i.toNat * 7)).off+3,none⟩=some (.int .i64 (qV xs i).f3)∧W.cell? ⟨(ad.add (i.toNat * 7)).block,(ad.add (i.toNat * 7)).off+4,none⟩=some (.slice A4 (qV xs i).f4.f0.length c4)∧W.cell? ⟨(ad.add (i.toNat * 7)).block,(ad.add (i.toNat * 7)).off+5,none⟩=some (.slice A5 (qV xs i).f5.length c5)∧W.cell? ⟨(ad.add (i.toNat * 7)).block,(ad.add (i.toNat * 7)).off+6,none⟩=some (.slice A6 (qV xs i).f6.length c6)∧Aside0 ((qV xs i).f0.f0.length≤c0)∧Aside0 ((Kd.slice 5 (Kd.int .u8)).C w A0 (qV xs i).f0.f0.length (qV xs i).f0.f0)∧Aside0 ((qV xs i).f4.f0.length≤c4)∧Aside0 ((Kd.slice 5 (Kd.int .u8)).C w A4 (qV xs i).f4.f0.length (qV xs i).f4.f0)∧Aside0 ((qV xs i).f5.length≤c5)∧Aside0 ((Kd.int .u8).C w A5 (qV xs i).f5.length (qV xs i).f5)∧Aside0 ((qV xs i).f6.length≤c6)∧Aside0 ((Kd.int .i64).C w A6 (qV xs i).f6.length (qV xs i).f6)∧(0≤i)=True∧(i < n)=True:=by
  obtain ⟨ad,A0,c0,A4,c4,A5,c5,A6,c6,e,x0,x1,x2,x3,x4,x5,x6,y0,y1,y2,y3,y4,y5,y6,y7⟩:=qjN h.out i (of_decide_eq_true h0) (of_decide_eq_true h1);exact ⟨ad,A0,c0,A4,c4,A5,c5,A6,c6,e,pw_cell_below hb.out x0,pw_cell_below hb.out x1,pw_cell_below hb.out x2,pw_cell_below hb.out x3,pw_cell_below hb.out x4,pw_cell_below hb.out x5,pw_cell_below hb.out x6,⟨y0⟩,⟨y1⟩,⟨y2⟩,⟨y3⟩,⟨y4⟩,⟨y5⟩,⟨y6⟩,⟨y7⟩,eq_true (of_decide_eq_true h0),eq_true (of_decide_eq_true h1)⟩
theorem el_T116 {xs:List Qc} {w W:World} {A:Option Addr} {n:Nat} (h:Aside0 (Kd.C Qr w A n xs)) (hb:Aside0 (Below w.heap.size w W)) (i:Int) (h0:decide (0≤i)=true:=by first | (with_reducible assumption) | assumption) (h1:decide (i < n)=true:=by first | (with_reducible assumption) | assumption):∃ ad A0 c0 A4 c4 A5 c5 A6 c6,A=some ad∧W.cell? (ad.add (i.toNat * 9))=some (.slice A0 (qJ xs i).f0.f0.f0.length c0)∧W.cell? ⟨(ad.add (i.toNat * 9)).block,(ad.add (i.toNat * 9)).off+1,none⟩=some (.int .i64 (qJ xs i).f0.f1)∧W.cell? ⟨(ad.add (i.toNat * 9)).block,(ad.add (i.toNat * 9)).off+2,none⟩=some (.int .i64 (qJ xs i).f0.f2)∧W.cell? ⟨(ad.add (i.toNat * 9)).block,(ad.add (i.toNat * 9)).off+3,none⟩=some (.int .i64 (qJ xs i).f0.f3)∧W.cell? ⟨(ad.add (i.toNat * 9)).block,(ad.add (i.toNat * 9)).off+4,none⟩=some (.slice A4 (qJ xs i).f0.f4.f0.length c4)∧W.cell? ⟨(ad.add (i.toNat * 9)).block,(ad.add (i.toNat * 9)).off+5,none⟩=some (.slice A5 (qJ xs i).f0.f5.length c5)∧W.cell? ⟨(ad.add (i.toNat * 9)).block,(ad.add (i.toNat * 9)).off+6,none⟩=some (.slice A6 (qJ xs i).f0.f6.length c6)∧W.cell? ⟨(ad.add (i.toNat * 9)).block,(ad.add (i.toNat * 9)).off+7,none⟩=some (.int .i64 (qJ xs i).f1)∧W.cell? ⟨(ad.add (i.toNat * 9)).block,(ad.add (i.toNat * 9)).off+8,none⟩=some (.bool (qJ xs i).f2)∧Aside0 ((qJ xs i).f0.f0.f0.length≤c0)∧Aside0 ((Kd.slice 5 (Kd.int .u8)).C w A0 (qJ xs i).f0.f0.f0.length (qJ xs i).f0.f0.f0)∧Aside0 ((qJ xs i).f0.f4.f0.length≤c4)∧Aside0 ((Kd.slice 5 (Kd.int .u8)).C w A4 (qJ xs i).f0.f4.f0.length (qJ xs i).f0.f4.f0)∧Aside0 ((qJ xs i).f0.f5.length≤c5)∧Aside0 ((Kd.int .u8).C w A5 (qJ xs i).f0.f5.length (qJ xs i).f0.f5)∧Aside0 ((qJ xs i).f0.f6.length≤c6)∧Aside0 ((Kd.int .i64).C w A6 (qJ xs i).f0.f6.length (qJ xs i).f0.f6)∧(0≤i)=True∧(i < n)=True:=by
  obtain ⟨ad,A0,c0,A4,c4,A5,c5,A6,c6,e,x0,x1,x2,x3,x4,x5,x6,x7,x8,y0,y1,y2,y3,y4,y5,y6,y7⟩:=qjM h.out i (of_decide_eq_true h0) (of_decide_eq_true h1);exact ⟨ad,A0,c0,A4,c4,A5,c5,A6,c6,e,pw_cell_below hb.out x0,pw_cell_below hb.out x1,pw_cell_below hb.out x2,pw_cell_below hb.out x3,pw_cell_below hb.out x4,pw_cell_below hb.out x5,pw_cell_below hb.out x6,pw_cell_below hb.out x7,pw_cell_below hb.out x8,⟨y0⟩,⟨y1⟩,⟨y2⟩,⟨y3⟩,⟨y4⟩,⟨y5⟩,⟨y6⟩,⟨y7⟩,eq_true (of_decide_eq_true h0),eq_true (of_decide_eq_true h1)⟩
theorem elw_T96 {xs:List S96} {w W:World} {A:Option Addr} {n:Nat} (h:Aside0 (Kd.C k96 w A n xs)) (hb:Aside0 (Below w.heap.size w W)) (i:Int) (h0:decide (0≤i)=true:=by first | (with_reducible assumption) | assumption) (h1:decide (i < n)=true:=by first | (with_reducible assumption) | assumption):∃ ad A0 c0,A=some ad∧w.cell? (ad.add (i.toNat * 2))=some (.slice A0 (qW xs i).f0.f0.length c0)∧w.cell? ⟨(ad.add (i.toNat * 2)).block,(ad.add (i.toNat * 2)).off+1,none⟩=some (.int .i64 (qW xs i).f1)∧W.cell? (ad.add (i.toNat * 2))=some (.slice A0 (qW xs i).f0.f0.length c0)∧W.cell? ⟨(ad.add (i.toNat * 2)).block,(ad.add (i.toNat * 2)).off+1,none⟩=some (.int .i64 (qW xs i).f1)∧Aside0 ((qW xs i).f0.f0.length≤c0)∧Aside0 ((Kd.slice 5 (Kd.int .u8)).C w A0 (qW xs i).f0.f0.length (qW xs i).f0.f0)∧(0≤i)=True∧(i < n)=True:=by
  obtain ⟨ad,A0,c0,e,x0,x1,y0,y1⟩:=Jn h.out i (of_decide_eq_true h0) (of_decide_eq_true h1);exact ⟨ad,A0,c0,e,x0,x1,pw_cell_below hb.out x0,pw_cell_below hb.out x1,⟨y0⟩,⟨y1⟩,eq_true (of_decide_eq_true h0),eq_true (of_decide_eq_true h1)⟩
theorem el_T105 {xs:List qw} {w W:World} {A:Option Addr} {n:Nat} (h:Aside0 (Kd.C js w A n xs)) (hb:Aside0 (Below w.heap.size w W)) (i:Int) (h0:decide (0≤i)=true:=by first | (with_reducible assumption) | assumption) (h1:decide (i < n)=true:=by first | (with_reducible assumption) | assumption):∃ ad A0 c0 A4 c4 A5 c5 A6 c6,A=some ad∧W.cell? (ad.add (i.toNat * 7))=some (.slice A0 (qm xs i).f0.f0.length c0)∧W.cell? ⟨(ad.add (i.toNat * 7)).block,(ad.add (i.toNat * 7)).off+1,none⟩=some (.int .i64 (qm xs i).f1)∧W.cell? ⟨(ad.add (i.toNat * 7)).block,(ad.add (i.toNat * 7)).off+2,none⟩=some (.int .i64 (qm xs i).f2)∧W.cell? ⟨(ad.add (i.toNat * 7)).block,(ad.add (i.toNat * 7)).off+3,none⟩=some (.int .i64 (qm xs i).f3)∧W.cell? ⟨(ad.add (i.toNat * 7)).block,(ad.add (i.toNat * 7)).off+4,none⟩=some (.slice A4 (qm xs i).f4.f0.length c4)∧W.cell? ⟨(ad.add (i.toNat * 7)).block,(ad.add (i.toNat * 7)).off+5,none⟩=some (.slice A5 (qm xs i).f5.length c5)∧W.cell? ⟨(ad.add (i.toNat * 7)).block,(ad.add (i.toNat * 7)).off+6,none⟩=some (.slice A6 (qm xs i).f6.length c6)∧Aside0 ((qm xs i).f0.f0.length≤c0)∧Aside0 ((Kd.slice 5 (Kd.int .u8)).C w A0 (qm xs i).f0.f0.length (qm xs i).f0.f0)∧Aside0 ((qm xs i).f4.f0.length≤c4)∧Aside0 ((Kd.slice 5 (Kd.int .u8)).C w A4 (qm xs i).f4.f0.length (qm xs i).f4.f0)∧Aside0 ((qm xs i).f5.length≤c5)∧Aside0 ((Kd.int .u8).C w A5 (qm xs i).f5.length (qm xs i).f5)∧Aside0 ((qm xs i).f6.length≤c6)∧Aside0 ((Kd.int .i64).C w A6 (qm xs i).f6.length (qm xs i).f6)∧(0≤i)=True∧(i < n)=True:=by
  obtain ⟨ad,A0,c0,A4,c4,A5,c5,A6,c6,e,x0,x1,x2,x3,x4,x5,x6,y0,y1,y2,y3,y4,y5,y6,y7⟩:=qd9 h.out i (of_decide_eq_true h0) (of_decide_eq_true h1);exact ⟨ad,A0,c0,A4,c4,A5,c5,A6,c6,e,pw_cell_below hb.out x0,pw_cell_below hb.out x1,pw_cell_below hb.out x2,pw_cell_below hb.out x3,pw_cell_below hb.out x4,pw_cell_below hb.out x5,pw_cell_below hb.out x6,⟨y0⟩,⟨y1⟩,⟨y2⟩,⟨y3⟩,⟨y4⟩,⟨y5⟩,⟨y6⟩,⟨y7⟩,eq_true (of_decide_eq_true h0),eq_true (of_decide_eq_true h1)⟩
theorem elw_T105 {xs:List qw} {w W:World} {A:Option Addr} {n:Nat} (h:Aside0 (Kd.C js w A n xs)) (hb:Aside0 (Below w.heap.size w W)) (i:Int) (h0:decide (0≤i)=true:=by first | (with_reducible assumption) | assumption) (h1:decide (i < n)=true:=by first | (with_reducible assumption) | assumption):∃ ad A0 c0 A4 c4 A5 c5 A6 c6,A=some ad∧w.cell? (ad.add (i.toNat * 7))=some (.slice A0 (qm xs i).f0.f0.length c0)∧w.cell? ⟨(ad.add (i.toNat * 7)).block,(ad.add (i.toNat * 7)).off+1,none⟩=some (.int .i64 (qm xs i).f1)∧w.cell? ⟨(ad.add (i.toNat * 7)).block,(ad.add (i.toNat * 7)).off+2,none⟩=some (.int .i64 (qm xs i).f2)∧w.cell? ⟨(ad.add (i.toNat * 7)).block,(ad.add (i.toNat * 7)).off+3,none⟩=some (.int .i64 (qm xs i).f3)∧w.cell? ⟨(ad.add (i.toNat * 7)).block,(ad.add (i.toNat * 7)).off+4,none⟩=some (.slice A4 (qm xs i).f4.f0.length c4)∧w.cell? ⟨(ad.add (i.toNat * 7)).block,(ad.add (i.toNat * 7)).off+5,none⟩=some (.slice A5 (qm xs i).f5.length c5)∧w.cell? ⟨(ad.add (i.toNat * 7)).block,(ad.add (i.toNat * 7)).off+6,none⟩=some (.slice A6 (qm xs i).f6.length c6)∧W.cell? (ad.add (i.toNat * 7))=some (.slice A0 (qm xs i).f0.f0.length c0)∧W.cell? ⟨(ad.add (i.toNat * 7)).block,(ad.add (i.toNat * 7)).off+1,none⟩=some (.int .i64 (qm xs i).f1)∧W.cell? ⟨(ad.add (i.toNat * 7)).block,(ad.add (i.toNat * 7)).off+2,none⟩=some (.int .i64 (qm xs i).f2)∧W.cell? ⟨(ad.add (i.toNat * 7)).block,(ad.add (i.toNat * 7)).off+3,none⟩=some (.int .i64 (qm xs i).f3)∧W.cell? ⟨(ad.add (i.toNat * 7)).block,(ad.add (i.toNat * 7)).off+4,none⟩=some (.slice A4 (qm xs i).f4.f0.length c4)∧W.cell? ⟨(ad.add (i.toNat * 7)).block,(ad.add (i.toNat * 7)).off+5,none⟩=some (.slice A5 (qm xs i).f5.length c5)∧W.cell? ⟨(ad.add (i.toNat * 7)).block,(ad.add (i.toNat * 7)).off+6,none⟩=some (.slice A6 (qm xs i).f6.length c6)∧Aside0 ((qm xs i).f0.f0.length≤c0)∧Aside0 ((Kd.slice 5 (Kd.int .u8)).C w A0 (qm xs i).f0.f0.length (qm xs i).f0.f0)∧Aside0 ((qm xs i).f4.f0.length≤c4)∧Aside0 ((Kd.slice 5 (Kd.int .u8)).C w A4 (qm xs i).f4.f0.length (qm xs i).f4.f0)∧Aside0 ((qm xs i).f5.length≤c5)∧Aside0 ((Kd.int .u8).C w A5 (qm xs i).f5.length (qm xs i).f5)∧Aside0 ((qm xs i).f6.length≤c6)∧Aside0 ((Kd.int .i64).C w A6 (qm xs i).f6.length (qm xs i).f6)∧(0≤i)=True∧(i < n)=True:=by
  obtain ⟨ad,A0,c0,A4,c4,A5,c5,A6,c6,e,x0,x1,x2,x3,x4,x5,x6,y0,y1,y2,y3,y4,y5,y6,y7⟩:=qd9 h.out i (of_decide_eq_true h0) (of_decide_eq_true h1);exact ⟨ad,A0,c0,A4,c4,A5,c5,A6,c6,e,x0,x1,x2,x3,x4,x5,x6,pw_cell_below hb.out x0,pw_cell_below hb.out x1,pw_cell_below hb.out x2,pw_cell_below hb.out x3,pw_cell_below hb.out x4,pw_cell_below hb.out x5,pw_cell_below hb.out x6,⟨y0⟩,⟨y1⟩,⟨y2⟩,⟨y3⟩,⟨y4⟩,⟨y5⟩,⟨y6⟩,⟨y7⟩,eq_true (of_decide_eq_true h0),eq_true (of_decide_eq_true h1)⟩
theorem el_T107 {xs:List qH} {w W:World} {A:Option Addr} {n:Nat} (h:Aside0 (Kd.C zr w A n xs)) (hb:Aside0 (Below w.heap.size w W)) (i:Int) (h0:decide (0≤i)=true:=by first | (with_reducible assumption) | assumption) (h1:decide (i < n)=true:=by first | (with_reducible assumption) | assumption):∃ ad A0 c0 A4 c4 A5 c5 A6 c6,A=some ad∧W.cell? (ad.add (i.toNat * 9))=some (.slice A0 (qg xs i).f0.f0.f0.length c0)∧W.cell? ⟨(ad.add (i.toNat * 9)).block,(ad.add (i.toNat * 9)).off+1,none⟩=some (.int .i64 (qg xs i).f0.f1)∧W.cell? ⟨(ad.add (i.toNat * 9)).block,(ad.add (i.toNat * 9)).off+2,none⟩=some (.int .i64 (qg xs i).f0.f2)∧W.cell? ⟨(ad.add (i.toNat * 9)).block,(ad.add (i.toNat * 9)).off+3,none⟩=some (.int .i64 (qg xs i).f0.f3)∧W.cell? ⟨(ad.add (i.toNat * 9)).block,(ad.add (i.toNat * 9)).off+4,none⟩=some (.slice A4 (qg xs i).f0.f4.f0.length c4)∧W.cell? ⟨(ad.add (i.toNat * 9)).block,(ad.add (i.toNat * 9)).off+5,none⟩=some (.slice A5 (qg xs i).f0.f5.length c5)∧W.cell? ⟨(ad.add (i.toNat * 9)).block,(ad.add (i.toNat * 9)).off+6,none⟩=some (.slice A6 (qg xs i).f0.f6.length c6)∧W.cell? ⟨(ad.add (i.toNat * 9)).block,(ad.add (i.toNat * 9)).off+7,none⟩=some (.int .i64 (qg xs i).f1)∧W.cell? ⟨(ad.add (i.toNat * 9)).block,(ad.add (i.toNat * 9)).off+8,none⟩=some (.bool (qg xs i).f2)∧Aside0 ((qg xs i).f0.f0.f0.length≤c0)∧Aside0 ((Kd.slice 5 (Kd.int .u8)).C w A0 (qg xs i).f0.f0.f0.length (qg xs i).f0.f0.f0)∧Aside0 ((qg xs i).f0.f4.f0.length≤c4)∧Aside0 ((Kd.slice 5 (Kd.int .u8)).C w A4 (qg xs i).f0.f4.f0.length (qg xs i).f0.f4.f0)∧Aside0 ((qg xs i).f0.f5.length≤c5)∧Aside0 ((Kd.int .u8).C w A5 (qg xs i).f0.f5.length (qg xs i).f0.f5)∧Aside0 ((qg xs i).f0.f6.length≤c6)∧Aside0 ((Kd.int .i64).C w A6 (qg xs i).f0.f6.length (qg xs i).f0.f6)∧(0≤i)=True∧(i < n)=True:=by
  obtain ⟨ad,A0,c0,A4,c4,A5,c5,A6,c6,e,x0,x1,x2,x3,x4,x5,x6,x7,x8,y0,y1,y2,y3,y4,y5,y6,y7⟩:=qgj h.out i (of_decide_eq_true h0) (of_decide_eq_true h1);exact ⟨ad,A0,c0,A4,c4,A5,c5,A6,c6,e,pw_cell_below hb.out x0,pw_cell_below hb.out x1,pw_cell_below hb.out x2,pw_cell_below hb.out x3,pw_cell_below hb.out x4,pw_cell_below hb.out x5,pw_cell_below hb.out x6,pw_cell_below hb.out x7,pw_cell_below hb.out x8,⟨y0⟩,⟨y1⟩,⟨y2⟩,⟨y3⟩,⟨y4⟩,⟨y5⟩,⟨y6⟩,⟨y7⟩,eq_true (of_decide_eq_true h0),eq_true (of_decide_eq_true h1)⟩
theorem elw_T107 {xs:List qH} {w W:World} {A:Option Addr} {n:Nat} (h:Aside0 (Kd.C zr w A n xs)) (hb:Aside0 (Below w.heap.size w W)) (i:Int) (h0:decide (0≤i)=true:=by first | (with_reducible assumption) | assumption) (h1:decide (i < n)=true:=by first | (with_reducible assumption) | assumption):∃ ad A0 c0 A4 c4 A5 c5 A6 c6,A=some ad∧w.cell? (ad.add (i.toNat * 9))=some (.slice A0 (qg xs i).f0.f0.f0.length c0)∧w.cell? ⟨(ad.add (i.toNat * 9)).block,(ad.add (i.toNat * 9)).off+1,none⟩=some (.int .i64 (qg xs i).f0.f1)∧w.cell? ⟨(ad.add (i.toNat * 9)).block,(ad.add (i.toNat * 9)).off+2,none⟩=some (.int .i64 (qg xs i).f0.f2)∧w.cell? ⟨(ad.add (i.toNat * 9)).block,(ad.add (i.toNat * 9)).off+3,none⟩=some (.int .i64 (qg xs i).f0.f3)∧w.cell? ⟨(ad.add (i.toNat * 9)).block,(ad.add (i.toNat * 9)).off+4,none⟩=some (.slice A4 (qg xs i).f0.f4.f0.length c4)∧w.cell? ⟨(ad.add (i.toNat * 9)).block,(ad.add (i.toNat * 9)).off+5,none⟩=some (.slice A5 (qg xs i).f0.f5.length c5)∧w.cell? ⟨(ad.add (i.toNat * 9)).block,(ad.add (i.toNat * 9)).off+6,none⟩=some (.slice A6 (qg xs i).f0.f6.length c6)∧w.cell? ⟨(ad.add (i.toNat * 9)).block,(ad.add (i.toNat * 9)).off+7,none⟩=some (.int .i64 (qg xs i).f1)∧w.cell? ⟨(ad.add (i.toNat * 9)).block,(ad.add (i.toNat * 9)).off+8,none⟩=some (.bool (qg xs i).f2)∧W.cell? (ad.add (i.toNat * 9))=some (.slice A0 (qg xs i).f0.f0.f0.length c0)∧W.cell? ⟨(ad.add (i.toNat * 9)).block,(ad.add (i.toNat * 9)).off+1,none⟩=some (.int .i64 (qg xs i).f0.f1)∧W.cell? ⟨(ad.add (i.toNat * 9)).block,(ad.add (i.toNat * 9)).off+2,none⟩=some (.int .i64 (qg xs i).f0.f2)∧W.cell? ⟨(ad.add (i.toNat * 9)).block,(ad.add (i.toNat * 9)).off+3,none⟩=some (.int .i64 (qg xs i).f0.f3)∧W.cell? ⟨(ad.add (i.toNat * 9)).block,(ad.add (i.toNat * 9)).off+4,none⟩=some (.slice A4 (qg xs i).f0.f4.f0.length c4)∧W.cell? ⟨(ad.add (i.toNat * 9)).block,(ad.add (i.toNat * 9)).off+5,none⟩=some (.slice A5 (qg xs i).f0.f5.length c5)∧W.cell? ⟨(ad.add (i.toNat * 9)).block,(ad.add (i.toNat * 9)).off+6,none⟩=some (.slice A6 (qg xs i).f0.f6.length c6)∧W.cell? ⟨(ad.add (i.toNat * 9)).block,(ad.add (i.toNat * 9)).off+7,none⟩=some (.int .i64 (qg xs i).f1)∧W.cell? ⟨(ad.add (i.toNat * 9)).block,(ad.add (i.toNat * 9)).off+8,none⟩=some (.bool (qg xs i).f2)∧Aside0 ((qg xs i).f0.f0.f0.length≤c0)∧Aside0 ((Kd.slice 5 (Kd.int .u8)).C w A0 (qg xs i).f0.f0.f0.length (qg xs i).f0.f0.f0)∧Aside0 ((qg xs i).f0.f4.f0.length≤c4)∧Aside0 ((Kd.slice 5 (Kd.int .u8)).C w A4 (qg xs i).f0.f4.f0.length (qg xs i).f0.f4.f0)∧Aside0 ((qg xs i).f0.f5.length≤c5)∧Aside0 ((Kd.int .u8).C w A5 (qg xs i).f0.f5.length (qg xs i).f0.f5)∧Aside0 ((qg xs i).f0.f6.length≤c6)∧Aside0 ((Kd.int .i64).C w A6 (qg xs i).f0.f6.length (qg xs i).f0.f6)∧(0≤i)=True∧(i < n)=True:=by
  obtain ⟨ad,A0,c0,A4,c4,A5,c5,A6,c6,e,x0,x1,x2,x3,x4,x5,x6,x7,x8,y0,y1,y2,y3,y4,y5,y6,y7⟩:=qgj h.out i (of_decide_eq_true h0) (of_decide_eq_true h1);exact ⟨ad,A0,c0,A4,c4,A5,c5,A6,c6,e,x0,x1,x2,x3,x4,x5,x6,x7,x8,pw_cell_below hb.out x0,pw_cell_below hb.out x1,pw_cell_below hb.out x2,pw_cell_below hb.out x3,pw_cell_below hb.out x4,pw_cell_below hb.out x5,pw_cell_below hb.out x6,pw_cell_below hb.out x7,pw_cell_below hb.out x8,⟨y0⟩,⟨y1⟩,⟨y2⟩,⟨y3⟩,⟨y4⟩,⟨y5⟩,⟨y6⟩,⟨y7⟩,eq_true (of_decide_eq_true h0),eq_true (of_decide_eq_true h1)⟩

/-! ### jG: function 17 -/
def jG.l0:Nat→List Int→List Int→Int→Option (Bool)
 | 0,_,_,_=>none
 | k+1,x0,x1,x5=>if x5 < (x0.length:Int) then (if 0≤x5 then (if x5 < (x1.length:Int) then (if (rd x0 x5)=(rd x1 x5) then (jG.l0 k x0 x1 (wrap64 (x5+1))) else (some false)) else (none)) else (none)) else (some true)
def jG.f (k:Nat) (l0:List Int) (l1:List Int):Option (Bool):=if (l0.length:Int)=(l1.length:Int) then (jG.l0 k l0 l1 0) else (some false)
set_option maxHeartbeats 8000000 in
set_option maxRecDepth 100000 in
theorem jG.calls (k:Nat) (A0:Option Addr) (c0:Nat) (l0:List Int) (A1:Option Addr) (c1:Nat) (l1:List Int) (r:Bool) (w:World) (hr0:Kd.C (Kd.int .u8) w A0 l0.length l0) (hc0:l0.length≤c0) (hr1:Kd.C (Kd.int .u8) w A1 l1.length l1) (hc1:l1.length≤c1) (h:jG.f k l0 l1=some r) :
  Calls Tryz.prog 17 #[.slice A0 l0.length c0,.slice A1 l1.length c1] w fun e w'=>e=.returned (.bool r)∧Drawn0 w w':=by
 have HR0:=ak hr0;have HC0:=ak hc0;clear hr0 hc0;have HR1:=ak hr1;have HC1:=ak hc1;clear hr1 hc1;have H:(if (l0.length:Int)=(l1.length:Int) then (jG.l0 k l0 l1 0) else (some false))=some r:=h;clear h;replace H:=ie H;obtain ⟨c3b0,c3b1,H⟩ | ⟨c3b0,c3b1,H⟩:=H
 ·have c3b2:(l0.length == l1.length)=true:=lnT c3b0;have H':=ak H;clear H;go_enter Tryz.func17,Tryz.ntmps17;go_wp2;repeat (go_quiet (fail); try go_wp2)
  go_loopg [5] k (fun kq v5 w'=>∃ (qh:Int),v5=.int .i64 qh∧Aside0 (jG.l0 kq l0 l1 qh=some r)∧Aside0 (kq≤k)∧Drawn0 w w')
  case atStart=>exact ⟨(0),o2,H',⟨Nat.le_refl _⟩,od⟩
  case round =>
   clear H';(try clear c1)
   (try clear c3b0)
   (try clear c3b1)
   (try clear c3b2)
   obtain ⟨qh,rfl,HA,HK1,⟨m1,rfl⟩⟩:=hrel;cases gk with
   | zero=>exact absurd HA.out (by simp [jG.l0])
   | succ k1 =>
    have H:=HA.out;clear HA;simp only [jG.l0] at H;replace H:=ip H;obtain ⟨c4b0,H⟩ | ⟨c4b0,H⟩:=H
    ·replace H:=ipN H;obtain ⟨c5b0,H⟩:=H;replace H:=ipN H;obtain ⟨c6b0,H⟩:=H;replace H:=ie H;obtain ⟨c7b0,c7b1,H⟩ | ⟨c7b0,c7b1,H⟩:=H
     ·have H':=ak H;clear H;obtain ⟨qY,rfl,zq,QO,QN⟩:=el0_int HR0 qh;obtain ⟨jx,rfl,zD,JD,JC⟩:=el0_int HR1 qh;go_wp2;repeat (go_quiet (fail); try go_wp2)
      go_roundg k1;case measure=>have:=HK1.out; omega
      case rel=>exact ⟨(wrap64 (qh+1)),o2,H',⟨by have:=HK1.out; omega⟩,od⟩
     ·obtain rfl:=Option.some.inj H;obtain ⟨qY,rfl,zq,QO,QN⟩:=el0_int HR0 qh;obtain ⟨jx,rfl,zD,JD,JC⟩:=el0_int HR1 qh;go_wp2;repeat (go_quiet (fail); try go_wp2)
      go_ret;exact ⟨o2,od⟩
    ·obtain rfl:=Option.some.inj H;go_wp2;repeat (go_quiet (fail); try go_wp2)
     go_ret;exact ⟨o2,od⟩
 ·have c3b2:(l0.length == l1.length)=false:=lnF c3b0;obtain rfl:=Option.some.inj H;go_enter Tryz.func17,Tryz.ntmps17;go_wp2;repeat (go_quiet (fail); try go_wp2)
  go_ret;exact ⟨o2,od⟩

/-! ### zG: function 26 -/
def zG.l0:Nat→List Int→List Int→Int→Option (List Int)
 | 0,_,_,_=>none
 | k+1,x0,x3,x4=>if x4 < (x0.length:Int) then (if 0≤x4 then (if x4 < (x3.length:Int) then (zG.l0 k x0 (x3.set (x4:Int).toNat (rd x0 x4)) (wrap64 (x4+1))) else (none)) else (none)) else (some x3)
def zG.f (k:Nat) (l0:List Int):Option (List Int):=if 0≤(l0.length:Int) then (if ((l0.length:Int):Int).toNat≤281474976710656 then (zG.l0 k l0 (List.replicate ((l0.length:Int):Int).toNat 0) 0) else (none)) else (none)
set_option maxHeartbeats 8000000 in
set_option maxRecDepth 100000 in
theorem zG.calls (k:Nat) (A0:Option Addr) (c0:Nat) (l0:List Int) (r:List Int) (w:World) (hr0:Kd.C (Kd.int .u8) w A0 l0.length l0) (hc0:l0.length≤c0) (h:zG.f k l0=some r) :
  Calls Tryz.prog 26 #[.slice A0 l0.length c0] w fun e w'=>∃ v0_:Value,e=.returned (v0_)∧Kd.R (Kd.int .u8) 5 w' w.heap.size (fun _=>True) v0_ r∧Below w.heap.size w w':=by
 have HR0:=ak hr0;have HC0:=ak hc0;clear hr0 hc0;have HB:=ak (Below.refl w.heap.size w);have H:(if 0≤(l0.length:Int) then (if ((l0.length:Int):Int).toNat≤281474976710656 then (zG.l0 k l0 (List.replicate ((l0.length:Int):Int).toNat 0) 0) else (none)) else (none))=some r:=h;clear h;replace H:=ipE H;obtain ⟨c2b0,c2b1,H⟩:=H;replace H:=ipE H;obtain ⟨c3b0,c3b1,H⟩:=H;obtain ⟨yH,yL⟩:∃ y_:List Int,y_=(List.replicate ((l0.length:Int):Int).toNat 0):=⟨_,rfl⟩;(try with_reducible replace H:=bnS H)
 (try rw [← yL] at H)
 have yS:=ak yL;clear yL;have H':=ak H;clear H;go_enter Tryz.func26,Tryz.ntmps26;go_wp2_with (((with_reducible refine gate_dst (N:=7) rfl ?_);refine Kd.R_make (Kd.int .u8) _ 5 rfl (N:=7) rfl 27 _ _ rfl (l0.length:Int) rfl rfl Tryz.underlying27 (.int .u8 0) 1 Ji rfl (by decide) (by omega) 0 (ok:=fun _=>True) (okp:=fun _=>True) rfl (fun _ hk=>hk) trivial (of_decide_eq_true (by first | (with_reducible assumption) | assumption)) (Nat.le_trans (Nat.mul_le_mul_right _ (of_decide_eq_true (by first | (with_reducible assumption) | assumption):(l0.length:Int).toNat≤281474976710656)) (by omega)) (Below.refl _ _) (Nat.le_refl _) ?_;intro JM w4 ho5 hb hg_ hnew_;clear hg_ hnew_;(first | rw [← yS.out] at ho5 | (simp only [Int.reduceToNat] at ho5; rw [← yS.out] at ho5));have yN:=ak (Kd.R_lower ho5 (below_size (bw HB.out)));replace HB:=b2 HB hb;clear hb ho5));go_loopg [4] k (fun kq v4 w'=>∃ (qK:List Int) (qD:Int),v4=.int .i64 qD∧Aside0 (zG.l0 kq l0 qK qD=some r)∧Aside0 (kq≤k)∧Aside0 (Kd.R (Kd.int .u8) 5 w' w.heap.size (fun _=>True) JM qK)∧Aside0 (Below w.heap.size w w'))
 case atStart=>exact ⟨(yH),(0),o2,H',⟨Nat.le_refl _⟩,⟨rw_ yN.out⟩,⟨bw HB.out⟩⟩
 case round =>
  clear H';(try clear c2b0)
  (try clear c2b1)
  (try clear c3b0)
  (try clear c3b1)
  obtain ⟨qK,qD,rfl,HA,HK1,HO_3,HB⟩:=hrel;cases gk with
  | zero=>exact absurd HA.out (by simp [zG.l0])
  | succ k1 =>
   have H:=HA.out;clear HA;simp only [zG.l0] at H;replace H:=ip H;obtain ⟨c6b0,H⟩ | ⟨c6b0,H⟩:=H
   ·replace H:=ipN H;obtain ⟨c7b0,H⟩:=H;replace H:=ipN H;obtain ⟨c8b0,H⟩:=H;obtain ⟨Jr,Xr⟩:∃ y_:List Int,y_=(qK.set (qD:Int).toNat (rd l0 qD)):=⟨_,rfl⟩;(try with_reducible replace H:=bnS H)
    (try rw [← Xr] at H)
    have qcI:=ak Xr;clear Xr;have H':=ak H;clear H;obtain ⟨qah,rfl,yP,ZP,ZO⟩:=el_int HR0 HB qD;have p9:0≤(qD:Int):=of_decide_eq_true (by first | (with_reducible assumption) | assumption);have q9:(qD:Int) < ((qK.length:Int):Int):=of_decide_eq_true (by first | (with_reducible assumption) | assumption);obtain ⟨go9,co9,eo9,gb9,gl9,cl9,HG9⟩:=Kd.R_form HO_3.out (by omega);(first | cases eo9 | (injection eo9 with ea_ en_ ec_; (first | subst ea_ | (injection ea_ with ea_; subst ea_)); subst ec_; clear en_))
    have GB9:=ak gb9;have GG9:=ak HG9;clear gb9 gl9 HG9;obtain ⟨qlS,ql2⟩:=Kd.R_celln 0 HO_3.out (qD:Int) p9 q9;replace p9:=eq_true p9;replace q9:=eq_true q9;have qc0:=Kd.R_putg HO_3.out (qD:Int) (rd l0 qD);go_wp2_with (((with_reducible refine gate_store (t:=5) (p:=20) rfl ?_);refine store_event (t:=5) (p:=20) (v:=?vo_w11) (w1:=(wr.setCell ⟨go9,(qD:Int).toNat,none⟩ (.int .u8 (rd l0 qD)))) ?hg ?ho ?hn ?hr ?_;(case ho=>rfl);(case hg=>rfl);(case hn=>rfl);(case hr=>first | (go_simp; done) | (go_simp; rfl));intro w11 hw;have hg:wr.grownBy w11 (some go9):=(by rw [hw]; exact qc0.2);have hp_:Kd.R (Kd.int .u8) 5 w11 w.heap.size (fun _=>True) (.slice (some ⟨go9,0,none⟩) qK.length co9) Jr:=(by rw [hw,qcI.out]; exact qc0.1);clear qc0;replace HO_3:=ak (hp_);replace HB:=ak ((by rw [hw]; exact below_set (HB.out) GB9.out:Below w.heap.size w w11));clear hg hw hp_));go_roundg k1;case measure=>have:=HK1.out; omega
    case rel=>exact ⟨(Jr),(wrap64 (qD+1)),o2,H',⟨by have:=HK1.out; omega⟩,⟨rw_ HO_3.out⟩,⟨bw HB.out⟩⟩
   ·obtain rfl:=Option.some.inj H;go_wp2;go_ret;exact ⟨_,o1,rw_ HO_3.out,bw HB.out⟩

/-! ### Qh: function 37 -/
def Qh.f (l0:List Int) (a1:Int):Option (Int):=if (wrap64 (a1 - (l0.length:Int))) < 0 then (some (-1)) else (some (wrap64 (a1 - (l0.length:Int))))
set_option maxHeartbeats 8000000 in
set_option maxRecDepth 100000 in
theorem Qh.calls (A0:Option Addr) (c0:Nat) (l0:List Int) (a1:Int) (r:Int) (w:World) (hr0:Kd.C (Kd.int .u8) w A0 l0.length l0) (hc0:l0.length≤c0) (h:Qh.f l0 a1=some r) :
  Calls Tryz.prog 37 #[.slice A0 l0.length c0,.int .i64 a1] w fun e w'=>e=.returned (.int .i64 r)∧Drawn0 w w':=by
 have HR0:=ak hr0;have HC0:=ak hc0;clear hr0 hc0;have H:(if (wrap64 (a1 - (l0.length:Int))) < 0 then (some (-1)) else (some (wrap64 (a1 - (l0.length:Int)))))=some r:=h;clear h;replace H:=ip H;obtain ⟨c3b0,H⟩ | ⟨c3b0,H⟩:=H
 ·obtain rfl:=Option.some.inj H;go_enter Tryz.func37,Tryz.ntmps37;go_wp2;go_ret;exact ⟨o2,od⟩
 ·obtain rfl:=Option.some.inj H;go_enter Tryz.func37,Tryz.ntmps37;go_wp2;go_ret;exact ⟨o2,od⟩

/-! ### zA: function 135 -/
def zA.l0:Nat→List (List Int)→Int→Int→Option (Int)
 | 0,_,_,_=>none
 | k+1,x0,x1,x5=>if x5 < (x0.length:Int) then (if 0≤x5 then ((Qh.f (jA x0 x5) x1).bind fun qx=>(if qx < 0 then (some (-1)) else (zA.l0 k x0 qx (wrap64 (x5+1))))) else (none)) else (some x1)
def zA.f (k:Nat) (l0:List (List Int)) (a1:Int):Option (Int):=if (wrap64 (a1 - (l0.length:Int))) < 0 then (some (-1)) else (zA.l0 k l0 (wrap64 (a1 - (l0.length:Int))) 0)
set_option maxHeartbeats 8000000 in
set_option maxRecDepth 100000 in
theorem zA.calls (k:Nat) (A0:Option Addr) (c0:Nat) (l0:List (List Int)) (a1:Int) (r:Int) (w:World) (hr0:Kd.C (Kd.slice 5 (Kd.int .u8)) w A0 l0.length l0) (hc0:l0.length≤c0) (h:zA.f k l0 a1=some r) :
  Calls Tryz.prog 135 #[.slice A0 l0.length c0,.int .i64 a1] w fun e w'=>e=.returned (.int .i64 r)∧Drawn0 w w':=by
 have HR0:=ak hr0;have HC0:=ak hc0;clear hr0 hc0;have H:(if (wrap64 (a1 - (l0.length:Int))) < 0 then (some (-1)) else (zA.l0 k l0 (wrap64 (a1 - (l0.length:Int))) 0))=some r:=h;clear h;replace H:=ip H;obtain ⟨c3b0,H⟩ | ⟨c3b0,H⟩:=H
 ·obtain rfl:=Option.some.inj H;go_enter Tryz.func135,Tryz.ntmps135;go_wp2;go_ret;exact ⟨o2,od⟩
 ·have H':=ak H;clear H;go_enter Tryz.func135,Tryz.ntmps135;go_wp2;go_loopg [1,5] k (fun kq v1 v5 w'=>∃ (QM:Int) (qh:Int),v1=.int .i64 QM∧v5=.int .i64 qh∧Aside0 (zA.l0 kq l0 QM qh=some r)∧Aside0 (kq≤k)∧Drawn0 w w')
  case atStart=>exact ⟨(wrap64 (a1 - (l0.length:Int))),(0),o2,o2,H',⟨Nat.le_refl _⟩,od⟩
  case round =>
   clear H';(try clear c3b0)
   obtain ⟨QM,qh,rfl,rfl,HA,HK1,⟨m1,rfl⟩⟩:=hrel;cases gk with
   | zero=>exact absurd HA.out (by simp [zA.l0])
   | succ k1 =>
    have H:=HA.out;clear HA;simp only [zA.l0] at H;replace H:=ip H;obtain ⟨c4b0,H⟩ | ⟨c4b0,H⟩:=H
    ·replace H:=ipN H;obtain ⟨c5b0,H⟩:=H;replace H:=bnd H;obtain ⟨qx,A6,H⟩:=H;replace H:=ip H;obtain ⟨c7b0,H⟩ | ⟨c7b0,H⟩:=H
     ·obtain rfl:=Option.some.inj H;obtain ⟨qY,Qx,Qw,rfl,zq,zn,jY,QO,QN⟩:=el0_L10 HR0 qh;go_wp2_with (((with_reducible refine gate_callee (f:=37) rfl ?_);refine glD 23 rfl rfl Tryz.func37 (Qh.calls _ _ (jA l0 qh) QM qx _ (cd jY) zn.out A6.out) (fun nd=>?_)));go_ret;exact ⟨o2,od⟩
     ·have H':=ak H;clear H;obtain ⟨qY,Qx,Qw,rfl,zq,zn,jY,QO,QN⟩:=el0_L10 HR0 qh;go_wp2_with (((with_reducible refine gate_callee (f:=37) rfl ?_);refine glD 23 rfl rfl Tryz.func37 (Qh.calls _ _ (jA l0 qh) QM qx _ (cd jY) zn.out A6.out) (fun nd=>?_)));go_roundg k1;case measure=>have:=HK1.out; omega
      case rel=>exact ⟨(qx),(wrap64 (qh+1)),o2,o2,H',⟨by have:=HK1.out; omega⟩,od⟩
    ·obtain rfl:=Option.some.inj H;go_wp2;go_ret;exact ⟨o2,od⟩

/-! ### zJ: function 144 -/
def zJ.l0:Nat→List (List Int)→List (List Int)→Int→Option ((List (List Int)))
 | 0,_,_,_=>none
 | k+1,x0,x3,x4=>if x4 < (x0.length:Int) then (if 0≤x4 then ((zG.f k (jA x0 x4)).bind fun qQ=>(if x4 < (x3.length:Int) then (zJ.l0 k x0 (x3.set (x4:Int).toNat qQ) (wrap64 (x4+1))) else (none))) else (none)) else (some x3)
def zJ.f (k:Nat) (l0:List (List Int)):Option ((List (List Int))):=if 0≤(l0.length:Int) then (if ((l0.length:Int):Int).toNat≤11728124029610 then (zJ.l0 k l0 (List.replicate ((l0.length:Int):Int).toNat []) 0) else (none)) else (none)
set_option maxHeartbeats 8000000 in
set_option maxRecDepth 100000 in
theorem zJ.calls (k:Nat) (A0:Option Addr) (c0:Nat) (l0:List (List Int)) (r:List (List Int)) (w:World) (hr0:Kd.C (Kd.slice 5 (Kd.int .u8)) w A0 l0.length l0) (hc0:l0.length≤c0) (h:zJ.f k l0=some r) :
  Calls Tryz.prog 144 #[.slice A0 l0.length c0] w fun e w'=>∃ v0_:Value,e=.returned (v0_)∧Kd.S (Kd.slice 5 (Kd.int .u8)) 27 w' w.heap.size (fun _=>True) v0_ r∧Below w.heap.size w w':=by
 have HR0:=ak hr0;have HC0:=ak hc0;clear hr0 hc0;have HB:=ak (Below.refl w.heap.size w);have H:(if 0≤(l0.length:Int) then (if ((l0.length:Int):Int).toNat≤11728124029610 then (zJ.l0 k l0 (List.replicate ((l0.length:Int):Int).toNat []) 0) else (none)) else (none))=some r:=h;clear h;replace H:=ipE H;obtain ⟨c2b0,c2b1,H⟩:=H;replace H:=ipE H;obtain ⟨c3b0,c3b1,H⟩:=H;obtain ⟨yH,yL⟩:∃ y_:List (List Int),y_=(List.replicate ((l0.length:Int):Int).toNat []):=⟨_,rfl⟩;(try with_reducible replace H:=bnS H)
 (try rw [← yL] at H)
 have yS:=ak yL;clear yL;have H':=ak H;clear H;go_enter Tryz.func144,Tryz.ntmps144;go_wp2_with (((with_reducible refine gate_dst (N:=7) rfl ?_);refine Kd.S_make (Kd.slice 5 (Kd.int .u8)) _ 27 rfl (N:=7) rfl 57 _ _ rfl (l0.length:Int) rfl rfl Tryz.underlying57 (.slice none 0 0) 24 qkL rfl (by decide) (by omega) [] (ok:=fun _=>True) (okp:=fun _=>True) ⟨_,rfl,Kd.R_nil _ _ _ _ _⟩ (fun _ hk=>hk) trivial (of_decide_eq_true (by first | (with_reducible assumption) | assumption)) (Nat.le_trans (Nat.mul_le_mul_right _ (of_decide_eq_true (by first | (with_reducible assumption) | assumption):(l0.length:Int).toNat≤11728124029610)) (by omega)) (Below.refl _ _) (Nat.le_refl _) ?_;intro JM w4 ho5 hb hg_ hnew_;clear hg_ hnew_;(first | rw [← yS.out] at ho5 | (simp only [Int.reduceToNat] at ho5; rw [← yS.out] at ho5));have yN:=ak (Kd.S_lower ho5 (below_size (bw HB.out)));replace HB:=b2 HB hb;clear hb ho5));go_loopg [4] k (fun kq v4 w'=>∃ (qK:List (List Int)) (qD:Int),v4=.int .i64 qD∧Aside0 (zJ.l0 kq l0 qK qD=some r)∧Aside0 (kq≤k)∧Aside0 (Kd.S (Kd.slice 5 (Kd.int .u8)) 27 w' w.heap.size (fun _=>True) JM qK)∧Aside0 (Below w.heap.size w w'))
 case atStart=>exact ⟨(yH),(0),o2,H',⟨Nat.le_refl _⟩,⟨sw yN.out⟩,⟨bw HB.out⟩⟩
 case round =>
  clear H';(try clear c2b0)
  (try clear c2b1)
  (try clear c3b0)
  (try clear c3b1)
  obtain ⟨qK,qD,rfl,HA,HK1,HO_3,HB⟩:=hrel;cases gk with
  | zero=>exact absurd HA.out (by simp [zJ.l0])
  | succ k1 =>
   have H:=HA.out;clear HA;simp only [zJ.l0] at H;replace H:=ip H;obtain ⟨c6b0,H⟩ | ⟨c6b0,H⟩:=H
   ·replace H:=ipN H;obtain ⟨c7b0,H⟩:=H;replace H:=bnd H;obtain ⟨qQ,A8,H⟩:=H;replace H:=ipN H;obtain ⟨c9b0,H⟩:=H;obtain ⟨qkz,qg2⟩:∃ y_:List (List Int),y_=(qK.set (qD:Int).toNat qQ):=⟨_,rfl⟩;(try with_reducible replace H:=bnS H)
    (try rw [← qg2] at H)
    have qmh:=ak qg2;clear qg2;have H':=ak H;clear H;obtain ⟨qah,qbV,qbS,rfl,yP,ZC,ZB,ZP,ZO⟩:=el_L10 HR0 HB qD;go_wp2_with (first | ((with_reducible refine gate_callee (f:=26) rfl ?_);refine glG 20 rfl rfl Tryz.func26 (zG.calls k1 _ _ (jA l0 qD) qQ _ (cv ZB HB) ZC.out A8.out) ?_;rintro e w11 ⟨JZ,rfl,ho0,hb⟩;refine ⟨_,rfl,?_⟩;replace HO_3:=ak (Kd.S_elder' (sw HO_3.out) (Kd.R_base ho0) hb);have qO:=ak (Kd.R_lower ho0 (below_size (bw HB.out)));replace HB:=b2 HB hb;(try clear hb);(try clear ho0);have p10:0≤(qD:Int):=of_decide_eq_true (by first | (with_reducible assumption) | assumption);have q10:(qD:Int) < ((qK.length:Int):Int):=of_decide_eq_true (by first | (with_reducible assumption) | assumption);obtain ⟨zt,Qs,ZM,qaU,qcX,qib,qa2⟩:=Kd.S_form HO_3.out (by omega);(first | cases ZM | (injection ZM with ea_ en_ ec_; (first | subst ea_ | (injection ea_ with ea_; subst ea_)); subst ec_; clear en_));have ZA:=ak qaU;have qin:=ak qa2;clear qaU qcX qa2;obtain ⟨_,qid,qb9,qaT,Jb,Ja,_,_⟩:=Kd.S_elem HO_3.out [] (qD:Int) p10 q10;obtain ⟨qbi,rfl,qfb⟩:=qaT;have qc5:=Jb 0 _ rfl;have qc7:=Ja 0;(try simp only [show ((Kd.slice 5 (Kd.int .u8))).sz=1 from rfl,Nat.mul_one,Nat.add_zero] at qc5);(try simp only [show ((Kd.slice 5 (Kd.int .u8))).sz=1 from rfl,Nat.mul_one,Nat.add_zero] at qc7);(try clear qb9);(try clear Jb);(try clear Ja);(try clear qaT);replace p10:=eq_true p10;replace q10:=eq_true q10;have n_:=ak (Kd.S_mono (ok':=(fun k_=>some k_≠(JZ:Value).ownBlock)) HO_3.out (fun k_ hk=>hk.2));clear HO_3;have HO_3:=n_;clear n_;have qbh:=ak (show Kd.S (Kd.slice 5 (Kd.int .u8)) 27 w11 w.heap.size (fun k_=>((fun _=>True)) k_∧¬ ((fun k_=>some k_=(JZ:Value).ownBlock)) k_) (.slice (some ⟨zt,0,none⟩) qK.length Qs) qK from (sw (Kd.S_mono HO_3.out (fun k_ hk=>⟨trivial,fun e_=>hk e_⟩))));obtain ⟨qp9,qic,qag,qaS,QH,QZ,qkT,qk9⟩:=Kd.S_elem qbh.out [] (qD:Int) (of_decide_eq_true (by first | (with_reducible assumption) | assumption)) (by have h_:(qD:Int) < ((qK.length:Int):Int):=of_decide_eq_true (by first | (with_reducible assumption) | assumption); first | exact h_ | (have e_:=(Kd.S_reads' HO_3.out).1; omega) | simpa using h_);obtain ⟨qeC,rfl,qfa⟩:=qaS;have YU:=Kd.S_seg qk9 (of_decide_eq_true (by first | (with_reducible assumption) | assumption)) (by have h_:(qD:Int) < ((qK.length:Int):Int):=of_decide_eq_true (by first | (with_reducible assumption) | assumption); first | exact h_ | (have e_:=(Kd.S_reads' HO_3.out).1; omega) | simpa using h_) (seg:=[JZ]) (j:=0) (show 1≤1 from by decide) (x':=qQ) (Kd.M_row (Kd.R_mono (Kd.R_tight rfl (Kd.R_mono (ok':=fun k_=>((fun _=>True)) k_∧k_≠zt) (Kd.R_apart' (qO.out) (Kd.S_typed HO_3.out) (by decide)) (fun k_ hk=>⟨trivial,fun e_=>(hk.2) (by rw [e_]; rfl)⟩))) (fun _ h_=>Or.inr (h_)))) (fun _ hk=>hk) (fun k_ hk_=>((Kd.R_mono (ok':=fun k_=>((fun _=>True)) k_∧k_≠zt) (Kd.R_apart' (qO.out) (Kd.S_typed HO_3.out) (by decide)) (fun k_ hk=>⟨trivial,fun e_=>(hk.2) (by rw [e_]; rfl)⟩))).1 k_ hk_.symm);have qaz:=QH 0 _ rfl;(try simp only [show ((Kd.slice 5 (Kd.int .u8))).sz=1 from rfl,Nat.mul_one,Nat.add_zero] at qaz);have qaJ:=QZ 0;(try simp only [show ((Kd.slice 5 (Kd.int .u8))).sz=1 from rfl,Nat.mul_one,Nat.add_zero] at qaJ);(try clear qag);(try clear QH);(try clear QZ);(try clear qaS);(try clear qkT);(try clear qk9);(try simp only [show ((Kd.slice 5 (Kd.int .u8))).sz=1 from rfl,Nat.mul_one,Nat.add_zero] at YU)) | ((with_reducible refine gate_store (t:=27) (p:=21) rfl ?_);refine store_event (t:=27) (p:=21) (v:=?vo_w13) (w1:=(w11.setCell ⟨zt,(qD:Int).toNat,none⟩ (JZ))) ?hg ?ho ?hn ?hr ?_;(case ho=>rfl);(case hg=>rfl);(case hn=>rfl);(case hr=>first | (go_simp; done) | (go_simp; rfl) | ((first | (obtain ⟨A_,c_,e_⟩:=Kd.R_slice qO.out; rw [e_]) | (obtain ⟨A_,c_,e_⟩:=Kd.S_slice qO.out; rw [e_])); first | (go_simp; done) | (go_simp; rfl)));intro w13 hw;have hg:w11.grownBy w13 (some zt):=(by rw [hw]; exact YU.2);have hp_:Kd.S (Kd.slice 5 (Kd.int .u8)) 27 w13 w.heap.size (fun _=>True) (.slice (some ⟨zt,0,none⟩) qK.length Qs) qkz:=(by rw [hw,qmh.out]; exact YU.1);clear YU;replace HO_3:=ak (hp_);replace HB:=ak ((by rw [hw]; exact below_set (HB.out) ZA.out:Below w.heap.size w w13));clear qO;clear hg hw hp_));go_roundg k1;case measure=>have:=HK1.out; omega
    case rel=>exact ⟨(qkz),(wrap64 (qD+1)),o2,H',⟨by have:=HK1.out; omega⟩,⟨sw HO_3.out⟩,⟨bw HB.out⟩⟩
   ·obtain rfl:=Option.some.inj H;go_wp2;go_ret;exact ⟨_,o1,sw HO_3.out,bw HB.out⟩

/-! ### zB: function 156 -/
def zB.l0:Nat→List (List Int)→List (List Int)→Int→Option (Bool)
 | 0,_,_,_=>none
 | k+1,x0,x1,x5=>if x5 < (x0.length:Int) then (if 0≤x5 then (if x5 < (x1.length:Int) then ((jG.f k (jA x0 x5) (jA x1 x5)).bind fun qX=>(if qX=true then (zB.l0 k x0 x1 (wrap64 (x5+1))) else (some false))) else (none)) else (none)) else (some true)
def zB.f (k:Nat) (l0:List (List Int)) (l1:List (List Int)):Option (Bool):=if (l0.length:Int)=(l1.length:Int) then (zB.l0 k l0 l1 0) else (some false)
set_option maxHeartbeats 8000000 in
set_option maxRecDepth 100000 in
theorem zB.calls (k:Nat) (A0:Option Addr) (c0:Nat) (l0:List (List Int)) (A1:Option Addr) (c1:Nat) (l1:List (List Int)) (r:Bool) (w:World) (hr0:Kd.C (Kd.slice 5 (Kd.int .u8)) w A0 l0.length l0) (hc0:l0.length≤c0) (hr1:Kd.C (Kd.slice 5 (Kd.int .u8)) w A1 l1.length l1) (hc1:l1.length≤c1) (h:zB.f k l0 l1=some r) :
  Calls Tryz.prog 156 #[.slice A0 l0.length c0,.slice A1 l1.length c1] w fun e w'=>e=.returned (.bool r)∧Drawn0 w w':=by
 have HR0:=ak hr0;have HC0:=ak hc0;clear hr0 hc0;have HR1:=ak hr1;have HC1:=ak hc1;clear hr1 hc1;have H:(if (l0.length:Int)=(l1.length:Int) then (zB.l0 k l0 l1 0) else (some false))=some r:=h;clear h;replace H:=ie H;obtain ⟨c3b0,c3b1,H⟩ | ⟨c3b0,c3b1,H⟩:=H
 ·have c3b2:(l0.length == l1.length)=true:=lnT c3b0;have H':=ak H;clear H;go_enter Tryz.func156,Tryz.ntmps156;go_wp2;repeat (go_quiet (fail); try go_wp2)
  go_loopg [5] k (fun kq v5 w'=>∃ (qh:Int),v5=.int .i64 qh∧Aside0 (zB.l0 kq l0 l1 qh=some r)∧Aside0 (kq≤k)∧Drawn0 w w')
  case atStart=>exact ⟨(0),o2,H',⟨Nat.le_refl _⟩,od⟩
  case round =>
   clear H';(try clear c1)
   (try clear c3b0)
   (try clear c3b1)
   (try clear c3b2)
   obtain ⟨qh,rfl,HA,HK1,⟨m1,rfl⟩⟩:=hrel;cases gk with
   | zero=>exact absurd HA.out (by simp [zB.l0])
   | succ k1 =>
    have H:=HA.out;clear HA;simp only [zB.l0] at H;replace H:=ip H;obtain ⟨c4b0,H⟩ | ⟨c4b0,H⟩:=H
    ·replace H:=ipN H;obtain ⟨c5b0,H⟩:=H;replace H:=ipN H;obtain ⟨c6b0,H⟩:=H;replace H:=bnd H;obtain ⟨qX,A7,H⟩:=H;replace H:=ib H;obtain ⟨rfl,H⟩ | ⟨rfl,H⟩:=H
     ·have H':=ak H;clear H;obtain ⟨qY,Qx,Qw,rfl,zq,zn,jY,QO,QN⟩:=el0_L10 HR0 qh;obtain ⟨jx,JT,JR,rfl,zD,yF,ya,JD,JC⟩:=el0_L10 HR1 qh;go_wp2_with ((go_at_call 17;(with_reducible refine (jG.calls k1 _ _ (jA l0 qh) _ _ (jA l1 qh) true _ (cd jY) zn.out (cd ya) yF.out A7.out).mono ?_);rintro e w' ⟨rfl,⟨nd,rfl⟩⟩;(try first | exact ⟨rfl,_,World.drewN_drewN _ _ _⟩ | exact ⟨rfl,_,Eq.trans (World.drewN_drewN _ _ _) (congrArg (World.drewN _) (Nat.add_assoc _ _ _))⟩)));repeat (go_quiet ((go_at_call 17;(with_reducible refine (jG.calls k1 _ _ (jA l0 qh) _ _ (jA l1 qh) true _ (cd jY) zn.out (cd ya) yF.out A7.out).mono ?_);rintro e w' ⟨rfl,⟨nd,rfl⟩⟩;(try first | exact ⟨rfl,_,World.drewN_drewN _ _ _⟩ | exact ⟨rfl,_,Eq.trans (World.drewN_drewN _ _ _) (congrArg (World.drewN _) (Nat.add_assoc _ _ _))⟩))); try go_wp2_with ((go_at_call 17;(with_reducible refine (jG.calls k1 _ _ (jA l0 qh) _ _ (jA l1 qh) true _ (cd jY) zn.out (cd ya) yF.out A7.out).mono ?_);rintro e w' ⟨rfl,⟨nd,rfl⟩⟩;(try first | exact ⟨rfl,_,World.drewN_drewN _ _ _⟩ | exact ⟨rfl,_,Eq.trans (World.drewN_drewN _ _ _) (congrArg (World.drewN _) (Nat.add_assoc _ _ _))⟩))))
      go_roundg k1;case measure=>have:=HK1.out; omega
      case rel=>exact ⟨(wrap64 (qh+1)),o2,H',⟨by have:=HK1.out; omega⟩,od⟩
     ·obtain rfl:=Option.some.inj H;obtain ⟨qY,Qx,Qw,rfl,zq,zn,jY,QO,QN⟩:=el0_L10 HR0 qh;obtain ⟨jx,JT,JR,rfl,zD,yF,ya,JD,JC⟩:=el0_L10 HR1 qh;go_wp2_with ((go_at_call 17;(with_reducible refine (jG.calls k1 _ _ (jA l0 qh) _ _ (jA l1 qh) false _ (cd jY) zn.out (cd ya) yF.out A7.out).mono ?_);rintro e w' ⟨rfl,⟨nd,rfl⟩⟩;(try first | exact ⟨rfl,_,World.drewN_drewN _ _ _⟩ | exact ⟨rfl,_,Eq.trans (World.drewN_drewN _ _ _) (congrArg (World.drewN _) (Nat.add_assoc _ _ _))⟩)));repeat (go_quiet ((go_at_call 17;(with_reducible refine (jG.calls k1 _ _ (jA l0 qh) _ _ (jA l1 qh) false _ (cd jY) zn.out (cd ya) yF.out A7.out).mono ?_);rintro e w' ⟨rfl,⟨nd,rfl⟩⟩;(try first | exact ⟨rfl,_,World.drewN_drewN _ _ _⟩ | exact ⟨rfl,_,Eq.trans (World.drewN_drewN _ _ _) (congrArg (World.drewN _) (Nat.add_assoc _ _ _))⟩))); try go_wp2_with ((go_at_call 17;(with_reducible refine (jG.calls k1 _ _ (jA l0 qh) _ _ (jA l1 qh) false _ (cd jY) zn.out (cd ya) yF.out A7.out).mono ?_);rintro e w' ⟨rfl,⟨nd,rfl⟩⟩;(try first | exact ⟨rfl,_,World.drewN_drewN _ _ _⟩ | exact ⟨rfl,_,Eq.trans (World.drewN_drewN _ _ _) (congrArg (World.drewN _) (Nat.add_assoc _ _ _))⟩))))
      go_ret;exact ⟨o2,od⟩
    ·obtain rfl:=Option.some.inj H;go_wp2;repeat (go_quiet (fail); try go_wp2)
     go_ret;exact ⟨o2,od⟩
 ·have c3b2:(l0.length == l1.length)=false:=lnF c3b0;obtain rfl:=Option.some.inj H;go_enter Tryz.func156,Tryz.ntmps156;go_wp2;repeat (go_quiet (fail); try go_wp2)
  go_ret;exact ⟨o2,od⟩

/-! ### zH: function 74 -/
def zH.f (k:Nat) (ql:List (List Int)) (a1:Int):Option (Int):=(zA.f k ql a1).bind fun qx=>(if qx < 0 then (some (-1)) else (some qx))
set_option maxHeartbeats 8000000 in
set_option maxRecDepth 100000 in
theorem zH.calls (k:Nat) (jI:Option Addr) (jH:Nat) (ql:List (List Int)) (a1:Int) (r:Int) (w:World) (jM:Kd.C (Kd.slice 5 (Kd.int .u8)) w jI ql.length ql) (jT:ql.length≤jH) (h:zH.f k ql a1=some r) :
  Calls Tryz.prog 74 #[.agg #[.slice jI ql.length jH],.int .i64 a1] w fun e w'=>e=.returned (.int .i64 r)∧Below w.heap.size w w':=by
 have qeT:=Tryz.underlying59;have jk:=ak jM;have jo:=ak jT;clear jM jT;have HB:=ak (Below.refl w.heap.size w);have H:((zA.f k ql a1).bind fun qx=>(if qx < 0 then (some (-1)) else (some qx)))=some r:=h;clear h;replace H:=bnd H;obtain ⟨qx,A3,H⟩:=H;replace H:=ip H;obtain ⟨c4b0,H⟩ | ⟨c4b0,H⟩:=H
 ·obtain rfl:=Option.some.inj H;go_enter Tryz.func74,Tryz.ntmps74;go_wp2_with (first | ((with_reducible refine gate_dst (N:=2) rfl ?_);refine bxd (N:=2) rfl HB ?_;clear HB;intro qe w5 hg HB qa qy hb;have qI:=qy;clear hb hg;obtain ⟨qe7,qeZ⟩:=cells1 qa.out) | ((with_reducible refine gate_callee (f:=135) rfl ?_);refine glD 8 rfl rfl Tryz.func135 (zA.calls k _ _ ql a1 qx _ (cv jk HB) jo.out A3.out) (fun nd=>?_)));go_ret;exact ⟨o1,bs⟩
 ·obtain rfl:=Option.some.inj H;go_enter Tryz.func74,Tryz.ntmps74;go_wp2_with (first | ((with_reducible refine gate_dst (N:=2) rfl ?_);refine bxd (N:=2) rfl HB ?_;clear HB;intro qe w7 hg HB qa qy hb;have qI:=qy;clear hb hg;obtain ⟨qe6,qeY⟩:=cells1 qa.out) | ((with_reducible refine gate_callee (f:=135) rfl ?_);refine glD 8 rfl rfl Tryz.func135 (zA.calls k _ _ ql a1 qx _ (cv jk HB) jo.out A3.out) (fun nd=>?_)));go_ret;exact ⟨o1,bs⟩

/-! ### Qb: function 79 -/
def Qb.f (k:Nat) (ql:List (List Int)):Option ((List (List Int))):=(zJ.f k ql).bind fun qG=>(some qG)
set_option maxHeartbeats 8000000 in
set_option maxRecDepth 100000 in
theorem Qb.calls (k:Nat) (jI:Option Addr) (jH:Nat) (ql:List (List Int)) (r:List (List Int)) (w:World) (jM:Kd.C (Kd.slice 5 (Kd.int .u8)) w jI ql.length ql) (jT:ql.length≤jH) (h:Qb.f k ql=some r) :
  Calls Tryz.prog 79 #[.agg #[.slice jI ql.length jH]] w fun e w'=>∃ v0_:Value,e=.returned (.agg #[v0_])∧Kd.S (Kd.slice 5 (Kd.int .u8)) 27 w' w.heap.size (fun _=>True) v0_ r∧Below w.heap.size w w':=by
 have qeT:=Tryz.underlying59;have Zn:=Tryz.underlying65;have jk:=ak jM;have jo:=ak jT;clear jM jT;have HB:=ak (Below.refl w.heap.size w);have H:((zJ.f k ql).bind fun qG=>(some qG))=some r:=h;clear h;replace H:=bnd H;obtain ⟨qG,A2,H⟩:=H;obtain rfl:=Option.some.inj H;go_enter Tryz.func79,Tryz.ntmps79;go_wp2_with (first | ((with_reducible refine gate_dst (N:=1) rfl ?_);refine bxd (N:=1) rfl HB ?_;clear HB;intro qe w3 hg HB qa qy hb;have qI:=qy;clear hb hg) | ((with_reducible refine gate_dst (N:=2) rfl ?_);refine bxe (N:=2) rfl ?_;intro qv hg w4 hbox hb;have qf:=ak (hbox);have ju:=b3s hg bs;have yq:=ju;replace HB:=b2s bs hb;have qt:=b4 hg qa;have qz:=b5 hg qa;replace qa:=b1 qa hb;clear hb hbox hg) | ((with_reducible refine gate_dst (N:=3) rfl ?_);refine bxe (N:=3) rfl ?_;intro jj hg w5 hbox hb;have jt:=ak (hbox);have qap:=b3s hg bs;have qex:=qap;replace HB:=b2s bs hb;have yd:=b4 hg qa;have ZK:=b5 hg qa;replace qa:=b1 qa hb;have jX:=b4 hg qf;have ZJ:=b5 hg qf;replace qf:=b1 qf hb;clear hb hbox hg;have qh0:=qt.out;have qhZ:=qz.out;have qg9:=yd.out;have qg7:=ZK.out;obtain ⟨qe6,qeY⟩:=cells1 qa.out) | ((with_reducible refine gate_callee (f:=144) rfl ?_);refine glG 6 rfl rfl Tryz.func144 (zJ.calls k _ _ ql qG _ (cv jk HB) jo.out A2.out) ?_;rintro e w9 ⟨XF,rfl,ho0,hb⟩;refine ⟨_,rfl,?_⟩;have zx:=ak (Kd.S_lower ho0 (below_size bs));replace qa:=b1 qa hb;replace qf:=b1 qf hb;replace jt:=b1 jt hb;replace HB:=b2s bs hb;(try clear hb);(try clear ho0);obtain ⟨JB,Qs,ZM⟩:=Kd.S_slice zx.out;subst ZM;have qha:=ZJ.out;have qg8:=jX.out;obtain ⟨qdY,qdM⟩:=cells1 jt.out;obtain ⟨XT,XR⟩:=cells1 qf.out));refine bodyPost_ret (results_cell_row rfl _ _ qv 65 #[.slice JB qG.length Qs] (0,0) _ rfl (by (with_reducible repeat (first | refine blk_drewN ?_ _ | refine blk_drew ?_ | refine blk_alloc ?_ _)); refine blk_put (cs:=#[.slice none 0 0]) ?_ 0 _ rfl; (with_reducible repeat (first | refine blk_drewN ?_ _ | refine blk_drew ?_ | refine blk_alloc ?_ _)); refine blk_far ?_ jX.out _; (with_reducible repeat (first | refine blk_drewN ?_ _ | refine blk_drew ?_ | refine blk_alloc ?_ _)); exact qf.out) Tryz.underlying65 rfl (by kernel_rfl)) rfl ?_;exact ⟨_,o1,by (with_reducible repeat (first | apply Kd.S_alloc | apply Kd.S_drewN | apply Kd.S_drew)); exact Kd.S_mono (Kd.S_far (p:=⟨qv,0,none⟩) (Kd.S_far (p:=⟨jj,0,none⟩) (Kd.S_types (Kd.S_types zx.out jt.out (by decide)) qf.out (by decide)) (fun _ hk=>hk.1.2) (.slice JB qG.length Qs)) (fun _ hk=>hk.2) (.slice JB qG.length Qs)) (fun _ hk=>trivial),bs⟩

/-! ### zl: function 91 -/
def zl.f (k:Nat) (ql:List (List Int)) (jn:List (List Int)):Option (Bool):=(zB.f k ql jn).bind fun qX=>(if qX=true then (some true) else (some false))
set_option maxHeartbeats 8000000 in
set_option maxRecDepth 100000 in
theorem zl.calls (k:Nat) (jI:Option Addr) (jH:Nat) (ql:List (List Int)) (Zi:Option Addr) (Zb:Nat) (jn:List (List Int)) (r:Bool) (w:World) (jM:Kd.C (Kd.slice 5 (Kd.int .u8)) w jI ql.length ql) (jT:ql.length≤jH) (JL:Kd.C (Kd.slice 5 (Kd.int .u8)) w Zi jn.length jn) (Zh:jn.length≤Zb) (h:zl.f k ql jn=some r) :
  Calls Tryz.prog 91 #[.agg #[.slice jI ql.length jH],.agg #[.slice Zi jn.length Zb]] w fun e w'=>e=.returned (.bool r)∧Below w.heap.size w w':=by
 have Zn:=Tryz.underlying65;have jk:=ak jM;have jo:=ak jT;clear jM jT;have Jc:=ak JL;have Jd:=ak Zh;clear JL Zh;have HB:=ak (Below.refl w.heap.size w);have H:((zB.f k ql jn).bind fun qX=>(if qX=true then (some true) else (some false)))=some r:=h;clear h;replace H:=bnd H;obtain ⟨qX,A3,H⟩:=H;replace H:=ib H;obtain ⟨rfl,H⟩ | ⟨rfl,H⟩:=H
 ·obtain rfl:=Option.some.inj H;go_enter Tryz.func91,Tryz.ntmps91;go_wp2_with (first | ((with_reducible refine gate_dst (N:=2) rfl ?_);refine bxd (N:=2) rfl HB ?_;clear HB;intro qe w5 hg HB qa qy hb;have qI:=qy;clear hb hg) | ((with_reducible refine gate_dst (N:=3) rfl ?_);refine bxe (N:=3) rfl ?_;intro qv hg w6 hbox hb;have qf:=ak (hbox);have ju:=b3s hg bs;have yq:=ju;replace HB:=b2s bs hb;have qt:=b4 hg qa;have qz:=b5 hg qa;replace qa:=b1 qa hb;clear hb hbox hg;have qg9:=qt.out;have qg7:=qz.out;obtain ⟨qe6,qeY⟩:=cells1 qa.out;obtain ⟨qhC,qhA⟩:=cells1 qf.out) | ((with_reducible refine gate_callee (f:=156) rfl ?_);refine glD 9 rfl rfl Tryz.func156 (zB.calls k _ _ ql _ _ jn true _ (cv jk HB) jo.out (cv Jc HB) Jd.out A3.out) (fun nd=>?_)));go_ret;exact ⟨o1,bs⟩
 ·obtain rfl:=Option.some.inj H;go_enter Tryz.func91,Tryz.ntmps91;go_wp2_with (first | ((with_reducible refine gate_dst (N:=2) rfl ?_);refine bxd (N:=2) rfl HB ?_;clear HB;intro qe w10 hg HB qa qy hb;have qI:=qy;clear hb hg) | ((with_reducible refine gate_dst (N:=3) rfl ?_);refine bxe (N:=3) rfl ?_;intro qv hg w11 hbox hb;have qf:=ak (hbox);have ju:=b3s hg bs;have yq:=ju;replace HB:=b2s bs hb;have qt:=b4 hg qa;have qz:=b5 hg qa;replace qa:=b1 qa hb;clear hb hbox hg;have qiz:=qt.out;have qiy:=qz.out;obtain ⟨XT,XR⟩:=cells1 qa.out;obtain ⟨qjE,qjg⟩:=cells1 qf.out) | ((with_reducible refine gate_callee (f:=156) rfl ?_);refine glD 9 rfl rfl Tryz.func156 (zB.calls k _ _ ql _ _ jn false _ (cv jk HB) jo.out (cv Jc HB) Jd.out A3.out) (fun nd=>?_)));go_ret;exact ⟨o1,bs⟩

/-! ### jq: function 42 -/
mutual
def jq.j0:Nat→List Int→Bool→Option (Bool)
 | 0,_,_=>none
 | k+1,x0,x11=>if x11=true then (some false) else (jq.l0 k x0 0)
def jq.l0:Nat→List Int→Int→Option (Bool)
 | 0,_,_=>none
 | k+1,x0,x3=>if x3 < (x0.length:Int) then (if 0≤x3 then (if (rd x0 x3) ≥ 97 then (if ((rd x0 x3)≤122) then (jq.l0 k x0 (wrap64 (x3+1))) else (if (rd x0 x3) ≥ 48 then (if ((rd x0 x3)≤57) then (jq.l0 k x0 (wrap64 (x3+1))) else (if (rd x0 x3)=45 then (jq.l0 k x0 (wrap64 (x3+1))) else (some false))) else (if (rd x0 x3)=45 then (jq.l0 k x0 (wrap64 (x3+1))) else (some false)))) else (if (rd x0 x3) ≥ 48 then (if ((rd x0 x3)≤57) then (jq.l0 k x0 (wrap64 (x3+1))) else (if (rd x0 x3)=45 then (jq.l0 k x0 (wrap64 (x3+1))) else (some false))) else (if (rd x0 x3)=45 then (jq.l0 k x0 (wrap64 (x3+1))) else (some false)))) else (none)) else (some true)
end
def jq.f (k:Nat) (l0:List Int):Option (Bool):=if (l0.length:Int) < 1 then (jq.j0 k l0 true) else (jq.j0 k l0 (decide ((l0.length:Int) > 15)))
set_option maxHeartbeats 8000000 in
set_option maxRecDepth 100000 in
theorem jq.calls (k:Nat) (A0:Option Addr) (c0:Nat) (l0:List Int) (r:Bool) (w:World) (hr0:Kd.C (Kd.int .u8) w A0 l0.length l0) (hc0:l0.length≤c0) (h:jq.f k l0=some r) :
  Calls Tryz.prog 42 #[.slice A0 l0.length c0] w fun e w'=>e=.returned (.bool r)∧Drawn0 w w':=by
 have HR0:=ak hr0;have HC0:=ak hc0;clear hr0 hc0;have H:(if (l0.length:Int) < 1 then (jq.j0 k l0 true) else (jq.j0 k l0 (decide ((l0.length:Int) > 15))))=some r:=h;clear h;have HC2:=ak H;clear H;go_enter Tryz.func42,Tryz.ntmps42;go_upto_region 1 with (fail)
 go_cut [11] (fun v11 wc=>∃ (kq:Nat) (qgx:Bool),v11=.bool qgx∧Aside0 (jq.j0 kq l0 qgx=some r)∧Aside0 (kq≤k)∧Drawn0 w wc)
 case first =>
  have H:=HC2.out;clear HC2;replace H:=ip H;obtain ⟨c3b0,H⟩ | ⟨c3b0,H⟩:=H
  ·have c3b1:decide (l0.length < 1)=true:=decide_eq_true (by have:=of_decide_eq_true c3b0; omega);(first | rw [c3b0] | (simp only [i64_w,i32_w]; rw [c3b0]) | skip)
   have H':=ak H;clear H;go_wp2;go_meet
   case rel=>exact ⟨_,(true),o2,H',⟨o3⟩,od⟩
  ·have c3b1:decide (l0.length < 1)=false:=decide_eq_false (by have:=of_decide_eq_false c3b0; omega);(first | rw [c3b0] | (simp only [i64_w,i32_w]; rw [c3b0]) | skip)
   have H':=ak H;clear H;go_wp2;go_meet
   case rel=>exact ⟨_,(decide ((l0.length:Int) > 15)),o2,H',⟨o3⟩,od⟩
 case rest =>
  clear HC2;obtain ⟨kq,qgx,rfl,HA,HJ1,⟨mc1,rfl⟩⟩:=hcut;cases kq with
  | zero=>exact absurd HA.out (by simp [jq.j0])
  | succ kj1 =>
   have H:=HA.out;clear HA;simp only [jq.j0] at H;replace H:=ib H;obtain ⟨rfl,H⟩ | ⟨rfl,H⟩:=H
   ·obtain rfl:=Option.some.inj H;go_wp2;go_ret;exact ⟨o2,od⟩
   ·have H':=ak H;clear H;go_wp2;go_loopg [3] kj1 (fun kq v3 w'=>∃ (yy:Int),v3=.int .i64 yy∧Aside0 (jq.l0 kq l0 yy=some r)∧Aside0 (kq≤kj1)∧Drawn0 w w')
    case atStart=>exact ⟨(0),o2,H',⟨Nat.le_refl _⟩,od⟩
    case round =>
     clear H';obtain ⟨yy,rfl,HA,HK2,⟨m2,rfl⟩⟩:=hrel;cases gk with
     | zero=>exact absurd HA.out (by simp [jq.l0])
     | succ k2 =>
      have H:=HA.out;clear HA;simp only [jq.l0] at H;replace H:=ip H;obtain ⟨c5b0,H⟩ | ⟨c5b0,H⟩:=H
      ·replace H:=ipN H;obtain ⟨c6b0,H⟩:=H;replace H:=ih H;obtain ⟨c7b0,H⟩ | ⟨c7b0,H⟩:=H
       ·replace H:=ip H;obtain ⟨c8b0,H⟩ | ⟨c8b0,H⟩:=H
        ·have H':=ak H;clear H;obtain ⟨qY,rfl,zq,QO,QN⟩:=el0_int HR0 yy;obtain ⟨zD,JD,JC⟩:=el20_int HR0 yy;go_wp2;go_roundg k2;case measure=>have:=HJ1.out; have:=HK2.out; omega
         case rel=>exact ⟨(wrap64 (yy+1)),o2,H',⟨by have:=HJ1.out; have:=HK2.out; omega⟩,od⟩
        ·replace H:=ih H;obtain ⟨c9b0,H⟩ | ⟨c9b0,H⟩:=H
         ·replace H:=ip H;obtain ⟨c10b0,H⟩ | ⟨c10b0,H⟩:=H
          ·have H':=ak H;clear H;obtain ⟨qY,rfl,zq,QO,QN⟩:=el0_int HR0 yy;obtain ⟨zD,JD,JC⟩:=el20_int HR0 yy;obtain ⟨qcC,qgR,qgP⟩:=el20_int HR0 yy;obtain ⟨yP,ZP,ZO⟩:=el20_int HR0 yy;go_wp2;go_roundg k2;case measure=>have:=HJ1.out; have:=HK2.out; omega
           case rel=>exact ⟨(wrap64 (yy+1)),o2,H',⟨by have:=HJ1.out; have:=HK2.out; omega⟩,od⟩
          ·replace H:=ie H;obtain ⟨c11b0,c11b1,H⟩ | ⟨c11b0,c11b1,H⟩:=H
           ·have H':=ak H;clear H;obtain ⟨qY,rfl,zq,QO,QN⟩:=el0_int HR0 yy;obtain ⟨zD,JD,JC⟩:=el20_int HR0 yy;obtain ⟨qcC,qgR,qgP⟩:=el20_int HR0 yy;obtain ⟨yP,ZP,ZO⟩:=el20_int HR0 yy;obtain ⟨yi,Jf,Je⟩:=el20_int HR0 yy;go_wp2;go_roundg k2;case measure=>have:=HJ1.out; have:=HK2.out; omega
            case rel=>exact ⟨(wrap64 (yy+1)),o2,H',⟨by have:=HJ1.out; have:=HK2.out; omega⟩,od⟩
           ·obtain rfl:=Option.some.inj H;obtain ⟨qY,rfl,zq,QO,QN⟩:=el0_int HR0 yy;obtain ⟨zD,JD,JC⟩:=el20_int HR0 yy;obtain ⟨qcC,qgR,qgP⟩:=el20_int HR0 yy;obtain ⟨yP,ZP,ZO⟩:=el20_int HR0 yy;obtain ⟨yi,Jf,Je⟩:=el20_int HR0 yy;go_wp2;go_ret;exact ⟨o2,od⟩
         ·replace H:=ie H;obtain ⟨c12b0,c12b1,H⟩ | ⟨c12b0,c12b1,H⟩:=H
          ·have H':=ak H;clear H;obtain ⟨qY,rfl,zq,QO,QN⟩:=el0_int HR0 yy;obtain ⟨zD,JD,JC⟩:=el20_int HR0 yy;obtain ⟨qcC,qgR,qgP⟩:=el20_int HR0 yy;obtain ⟨zU,JA,Jz⟩:=el20_int HR0 yy;go_wp2;go_roundg k2;case measure=>have:=HJ1.out; have:=HK2.out; omega
           case rel=>exact ⟨(wrap64 (yy+1)),o2,H',⟨by have:=HJ1.out; have:=HK2.out; omega⟩,od⟩
          ·obtain rfl:=Option.some.inj H;obtain ⟨qY,rfl,zq,QO,QN⟩:=el0_int HR0 yy;obtain ⟨zD,JD,JC⟩:=el20_int HR0 yy;obtain ⟨qcC,qgR,qgP⟩:=el20_int HR0 yy;obtain ⟨zU,JA,Jz⟩:=el20_int HR0 yy;go_wp2;go_ret;exact ⟨o2,od⟩
       ·replace H:=ih H;obtain ⟨c13b0,H⟩ | ⟨c13b0,H⟩:=H
        ·replace H:=ip H;obtain ⟨c14b0,H⟩ | ⟨c14b0,H⟩:=H
         ·have H':=ak H;clear H;obtain ⟨qY,rfl,zq,QO,QN⟩:=el0_int HR0 yy;obtain ⟨QU,YA,Yz⟩:=el20_int HR0 yy;obtain ⟨Qz,Yn,Yl⟩:=el20_int HR0 yy;go_wp2;go_roundg k2;case measure=>have:=HJ1.out; have:=HK2.out; omega
          case rel=>exact ⟨(wrap64 (yy+1)),o2,H',⟨by have:=HJ1.out; have:=HK2.out; omega⟩,od⟩
         ·replace H:=ie H;obtain ⟨c15b0,c15b1,H⟩ | ⟨c15b0,c15b1,H⟩:=H
          ·have H':=ak H;clear H;obtain ⟨qY,rfl,zq,QO,QN⟩:=el0_int HR0 yy;obtain ⟨QU,YA,Yz⟩:=el20_int HR0 yy;obtain ⟨Qz,Yn,Yl⟩:=el20_int HR0 yy;obtain ⟨qfu,qkI,qkH⟩:=el20_int HR0 yy;go_wp2;go_roundg k2;case measure=>have:=HJ1.out; have:=HK2.out; omega
           case rel=>exact ⟨(wrap64 (yy+1)),o2,H',⟨by have:=HJ1.out; have:=HK2.out; omega⟩,od⟩
          ·obtain rfl:=Option.some.inj H;obtain ⟨qY,rfl,zq,QO,QN⟩:=el0_int HR0 yy;obtain ⟨QU,YA,Yz⟩:=el20_int HR0 yy;obtain ⟨Qz,Yn,Yl⟩:=el20_int HR0 yy;obtain ⟨qfu,qkI,qkH⟩:=el20_int HR0 yy;go_wp2;go_ret;exact ⟨o2,od⟩
        ·replace H:=ie H;obtain ⟨c16b0,c16b1,H⟩ | ⟨c16b0,c16b1,H⟩:=H
         ·have H':=ak H;clear H;obtain ⟨qY,rfl,zq,QO,QN⟩:=el0_int HR0 yy;obtain ⟨QU,YA,Yz⟩:=el20_int HR0 yy;obtain ⟨qiP,qmH,qmG⟩:=el20_int HR0 yy;go_wp2;go_roundg k2;case measure=>have:=HJ1.out; have:=HK2.out; omega
          case rel=>exact ⟨(wrap64 (yy+1)),o2,H',⟨by have:=HJ1.out; have:=HK2.out; omega⟩,od⟩
         ·obtain rfl:=Option.some.inj H;obtain ⟨qY,rfl,zq,QO,QN⟩:=el0_int HR0 yy;obtain ⟨QU,YA,Yz⟩:=el20_int HR0 yy;obtain ⟨qiP,qmH,qmG⟩:=el20_int HR0 yy;go_wp2;go_ret;exact ⟨o2,od⟩
      ·obtain rfl:=Option.some.inj H;go_wp2;go_ret;exact ⟨o2,od⟩

/-! ### ja: function 119 -/
def ja.l0:Nat→Int→List (List Int)→Option (Bool)
 | 0,_,_=>none
 | k+1,x3,jc=>if x3 < (jc.length:Int) then (if 0≤x3 then ((jq.f k (jA jc x3)).bind fun qX=>(if qX=true then (ja.l0 k (wrap64 (x3+1)) jc) else (some false))) else (none)) else (some true)
def ja.f (k:Nat) (ql:List (List Int)):Option (Bool):=if (ql.length:Int) > 6 then (some false) else (ja.l0 k 0 ql)
set_option maxHeartbeats 8000000 in
set_option maxRecDepth 100000 in
theorem ja.calls (k:Nat) (jI:Option Addr) (jH:Nat) (ql:List (List Int)) (r:Bool) (w:World) (jM:Kd.C (Kd.slice 5 (Kd.int .u8)) w jI ql.length ql) (jT:ql.length≤jH) (h:ja.f k ql=some r) :
  Calls Tryz.prog 119 #[.agg #[.slice jI ql.length jH]] w fun e w'=>e=.returned (.bool r)∧Below w.heap.size w w':=by
 have Zn:=Tryz.underlying65;have jk:=ak jM;have jo:=ak jT;clear jM jT;have HB:=ak (Below.refl w.heap.size w);have H:(if (ql.length:Int) > 6 then (some false) else (ja.l0 k 0 ql))=some r:=h;clear h;replace H:=ig H;obtain ⟨c2b0,H⟩ | ⟨c2b0,H⟩:=H
 ·have c2b1:decide (6 < ql.length)=true:=decide_eq_true (by have:=of_decide_eq_true c2b0; omega);obtain rfl:=Option.some.inj H;go_enter Tryz.func119,Tryz.ntmps119;go_wp2_with (((with_reducible refine gate_dst (N:=1) rfl ?_);refine bxd (N:=1) rfl HB ?_;clear HB;intro qe w3 hg HB qa qy hb;have qI:=qy;clear hb hg;obtain ⟨ZI,ZH⟩:=cells1 qa.out));go_ret;exact ⟨o1,bs⟩
 ·have c2b1:decide (6 < ql.length)=false:=decide_eq_false (by have:=of_decide_eq_false c2b0; omega);have H':=ak H;clear H;go_enter Tryz.func119,Tryz.ntmps119;go_wp2_with (((with_reducible refine gate_dst (N:=1) rfl ?_);refine bxd (N:=1) rfl HB ?_;clear HB;intro qe w5 hg HB qa qy hb;have qI:=qy;clear hb hg;obtain ⟨qe7,qeZ⟩:=cells1 qa.out));go_loopg [3] k (fun kq v3 w'=>∃ (qK:Int),v3=.int .i64 qK∧Aside0 (ja.l0 kq qK ql=some r)∧Aside0 (kq≤k)∧Aside0 (w'.heap[qe]?=some (.cells #[(.slice jI ql.length jH)] 65 (0,0)))∧Aside0 (Below w.heap.size w w'))
  case atStart=>exact ⟨(0),o2,H',⟨Nat.le_refl _⟩,⟨bk qa.out⟩,⟨bs⟩⟩
  case round =>
   clear H';(try clear c2b0)
   (try clear c2b1)
   (try clear qe7)
   (try clear qeZ)
   obtain ⟨qK,rfl,HA,HK1,qa,HB⟩:=hrel;cases gk with
   | zero=>exact absurd HA.out (by simp [ja.l0])
   | succ k1 =>
    have H:=HA.out;clear HA;simp only [ja.l0] at H;replace H:=ip H;obtain ⟨c7b0,H⟩ | ⟨c7b0,H⟩:=H
    ·replace H:=ipN H;obtain ⟨c8b0,H⟩:=H;replace H:=bnd H;obtain ⟨qX,A9,H⟩:=H;replace H:=ib H;obtain ⟨rfl,H⟩ | ⟨rfl,H⟩:=H
     ·have H':=ak H;clear H;obtain ⟨qas,qar⟩:=cells1 qa.out;obtain ⟨jx,JT,JR,rfl,zD,yF,ya,JD,JC⟩:=el_L10 jk HB qK;go_wp2_with (((with_reducible refine gate_callee (f:=42) rfl ?_);refine glD 20 rfl rfl Tryz.func42 (jq.calls k1 _ _ (jA ql qK) true _ (cv ya HB) yF.out A9.out) (fun nd=>?_)));go_roundg k1;case measure=>have:=HK1.out; omega
      case rel=>exact ⟨(wrap64 (qK+1)),o2,H',⟨by have:=HK1.out; omega⟩,⟨bk qa.out⟩,⟨bs⟩⟩
     ·obtain rfl:=Option.some.inj H;obtain ⟨qdY,qdM⟩:=cells1 qa.out;obtain ⟨jx,JT,JR,rfl,zD,yF,ya,JD,JC⟩:=el_L10 jk HB qK;go_wp2_with (((with_reducible refine gate_callee (f:=42) rfl ?_);refine glD 20 rfl rfl Tryz.func42 (jq.calls k1 _ _ (jA ql qK) false _ (cv ya HB) yF.out A9.out) (fun nd=>?_)));go_ret;exact ⟨o1,bs⟩
    ·obtain rfl:=Option.some.inj H;obtain ⟨XT,XR⟩:=cells1 qa.out;go_wp2;go_ret;exact ⟨o1,bs⟩

/-! ### ZE: function 217 -/

set_option maxHeartbeats 2000000 in
theorem ZE.calls (g:Nat) (lb:Array Value) (eg:∀ args w,(callFunc g args).run Tryz.prog w=.ok (.enter g args) w) (p:Int→Bool) (A0:Option Addr) (c0:Nat) (l0:List Int) (w:World) (hr0:Kd.C (Kd.int .u8) w A0 l0.length l0)
  (hp:∀ (W:World) (x:Int),Below w.heap.size w W→Calls Tryz.prog g (#[.int .u8 x] ++ lb) W fun e w'=>e=.returned (.bool (p x))∧Below w.heap.size w w') :
  Calls Tryz.prog 217 #[.slice A0 l0.length c0,.func (.func g) #[] lb] w fun e w'=>(∃ r:Int,e=.returned (.int .i64 r)∧decide (0≤r)=l0.any p)∧Below w.heap.size w w':=by
 have HR0:=ak hr0;have hbig:l0.length≤9223372036854775807:=hr0.2.1;have HP:=ak hp;clear hr0 hp;go_enter Tryz.func217,Tryz.ntmps217;go_wp2;go_loopg [5,8] l0.length (fun gg _ s8 wr=>∃ kk:Nat,kk≤l0.length∧l0.length - kk≤gg∧s8=.int .i64 kk∧Aside0 (Below w.heap.size w wr)∧Aside0 ((l0.take kk).any p=false))
 case atStart=>exact ⟨0,Nat.zero_le _,by omega,rfl,⟨Below.refl _ w⟩,⟨by simp⟩⟩
 case round =>
  obtain ⟨kk,hkk,hg,rfl,BW,AF⟩:=hrel;by_cases hlt:kk < l0.length
  ·obtain ⟨ad,rfl,hcell⟩:=Kd.at_int HR0.out (kk:Int) (by omega) (by omega);replace hcell:=pw_cell_below BW.out hcell;have hcall:=HP.out wr (rd l0 (kk:Int)) BW.out
   have hx:Aside0 (l0.take (kk+1)=l0.take kk ++ [rd l0 (kk:Int)]):=⟨by
    rw [List.take_succ_eq_append_getElem hlt]; simp [rd,List.getD_eq_getElem?_getD,hlt]⟩
   generalize rd l0 (kk:Int)=y at hcell hcall hx;have hltz:(kk:Int) < (l0.length:Int):=by omega
   rw [show ((kk:Int)).toNat=kk from by omega] at hcell;cases hq:p y with
   | true =>
    rw [hq] at hcall;go_wp2_with (go_at_fn g; refine hcall.mono ?_; rintro e w' ⟨rfl,hb'⟩);go_ret;refine ⟨⟨_,rfl,?_⟩,hb'⟩
    have:l0.any p=true:=by
     rw [← List.take_append_drop (kk+1) l0,hx.out]; simp [hq]
    rw [this]; simp
   | false =>
    rw [hq] at hcall;go_wp2_with (go_at_fn g; refine hcall.mono ?_; rintro e w' ⟨rfl,hb'⟩);go_roundg (l0.length - (kk+1));case measure=>omega
    case rel=>exact ⟨kk+1,by omega,by omega,by go_num,⟨hb'⟩,⟨by rw [hx.out,List.any_append,AF.out]; simp [hq]⟩⟩
  ·have hltz:¬ (kk:Int) < (l0.length:Int):=by omega
   go_wp2;go_ret;refine ⟨⟨_,rfl,?_⟩,BW.out⟩;have:=AF.out;rw [List.take_of_length_le (by omega)] at this;rw [this]; rfl

/-! ### Zk: function 203 -/

set_option maxHeartbeats 2000000 in
theorem Zk.calls (g:Nat) (lb:Array Value) (eg:∀ args w,(callFunc g args).run Tryz.prog w=.ok (.enter g args) w) (p:Int→Bool) (A0:Option Addr) (c0:Nat) (l0:List Int) (w:World) (hr0:Kd.C (Kd.int .u8) w A0 l0.length l0)
  (hp:∀ (W:World) (x:Int),Below w.heap.size w W→Calls Tryz.prog g (#[.int .u8 x] ++ lb) W fun e w'=>e=.returned (.bool (p x))∧Below w.heap.size w w') :
  Calls Tryz.prog 203 #[.slice A0 l0.length c0,.func (.func g) #[] lb] w fun e w'=>e=.returned (.bool (l0.any p))∧Below w.heap.size w w':=by
 have hc:=ZE.calls g lb eg p A0 c0 l0 w hr0 hp;generalize l0.any p=q at hc ⊢;clear hp hr0;go_enter Tryz.func203,Tryz.ntmps203;go_wp2_with (go_at_call 217; refine hc.mono ?_; rintro e w' ⟨⟨r,rfl,rfl⟩,hb'⟩);go_ret;exact ⟨rfl,hb'⟩

/-! ### XC: function 204 -/

set_option maxHeartbeats 2000000 in
/-- What is handed to ContainsFunc: the predicate's contrary; the predicate lies in a variable. -/
theorem XC.calls (g:Nat) (lb:Array Value) (eg:∀ args w,(callFunc g args).run Tryz.prog w=.ok (.enter g args) w) (q:Bool) (x:Int) (B:Nat) (w w0:World) (hv:w.cell? ⟨B,0,none⟩=some (.func (.func g) #[] lb))
  (hp:Calls Tryz.prog g (#[.int .u8 x] ++ lb) w fun e w'=>e=.returned (.bool q)∧Below w0.heap.size w0 w') :
  Calls Tryz.prog 204 #[.int .u8 x,.pointer (some ⟨B,0,none⟩)] w fun e w'=>e=.returned (.bool (!q))∧Below w0.heap.size w0 w':=by
 go_enter Tryz.func204,Tryz.ntmps204;go_wp2_with (go_at_fn g; refine hp.mono ?_; rintro e w' ⟨rfl,hb'⟩);go_ret;exact ⟨rfl,hb'⟩

/-! ### qam: function 157 -/

set_option maxHeartbeats 2000000 in
theorem qam.calls (g:Nat) (lb:Array Value) (eg:∀ args w,(callFunc g args).run Tryz.prog w=.ok (.enter g args) w) (p:Int→Bool) (A0:Option Addr) (c0:Nat) (l0:List Int) (w:World) (hr0:Kd.C (Kd.int .u8) w A0 l0.length l0)
  (hp:∀ (W:World) (x:Int),Below w.heap.size w W→Calls Tryz.prog g (#[.int .u8 x] ++ lb) W fun e w'=>e=.returned (.bool (p x))∧Below W.heap.size W w') :
  Calls Tryz.prog 157 #[.slice A0 l0.length c0,.func (.func g) #[] lb] w fun e w'=>e=.returned (.bool (l0.all p))∧Below w.heap.size w w':=by
 have eg2:∀ args w,(callFunc 204 args).run Tryz.prog w=.ok (.enter 204 args) w:=enters_of Tryz.func204 (by kernel_rfl) rfl;have hb0:Below w.heap.size w (w.alloc (.cells #[.func (.func g) #[] lb] 182)):=below_alloc (Below.refl _ _) _
 have hc:=Zk.calls 204 #[.pointer (some ⟨w.heap.size,0,none⟩)] eg2 (fun x=>!p x) A0 c0 l0 (w.alloc (.cells #[.func (.func g) #[] lb] 182)) (Kd.C_below hr0 hb0) (fun W x hW =>
  XC.calls g lb eg (p x) x w.heap.size W _ ((hW.cell (p:=⟨w.heap.size,0,none⟩) (by simp)).trans (by simp)) ((hp W x (hb0.trans (hW.mono (by simp)))).mono fun e w' ⟨he,hb⟩=>⟨he,hW.trans (hb.mono hW.size)⟩))
 have e1:(l0.any fun x=>!p x) = !(l0.all p):=by rw [List.all_eq_not_any_not]; simp
 rw [e1] at hc;generalize l0.all p=q at hc ⊢;clear hp hr0 e1;go_enter Tryz.func157,Tryz.ntmps157;go_wp2_with (go_at_call 203; refine hc.mono ?_; rintro e w' ⟨rfl,hb'⟩);go_ret;exact ⟨by simp,hb0.trans (hb'.mono (by simp))⟩

/-! ### Zm: function 158 -/
def Zm.f (a0:Int):Option (Bool):=if a0 ≥ 97 then (if a0≤122 then (some true) else (if a0 ≥ 48 then (if a0≤57 then (some true) else (some (a0 == 45))) else (some (a0 == 45)))) else (if a0 ≥ 48 then (if a0≤57 then (some true) else (some (a0 == 45))) else (some (a0 == 45)))
set_option maxHeartbeats 8000000 in
set_option maxRecDepth 100000 in
theorem Zm.calls (a0:Int) (r:Bool) (w:World) (h:Zm.f a0=some r) :
  Calls Tryz.prog 158 #[.int .u8 a0] w fun e w'=>e=.returned (.bool r)∧Drawn0 w w':=by
 have H:(if a0 ≥ 97 then (if a0≤122 then (some true) else (if a0 ≥ 48 then (if a0≤57 then (some true) else (some (a0 == 45))) else (some (a0 == 45)))) else (if a0 ≥ 48 then (if a0≤57 then (some true) else (some (a0 == 45))) else (some (a0 == 45))))=some r:=h;clear h;replace H:=ih H;obtain ⟨c2b0,H⟩ | ⟨c2b0,H⟩:=H
 ·replace H:=ip H;obtain ⟨c3b0,H⟩ | ⟨c3b0,H⟩:=H
  ·obtain rfl:=Option.some.inj H;go_enter Tryz.func158,Tryz.ntmps158;go_wp2;go_ret;exact ⟨o2,od⟩
  ·replace H:=ih H;obtain ⟨c4b0,H⟩ | ⟨c4b0,H⟩:=H
   ·replace H:=ip H;obtain ⟨c5b0,H⟩ | ⟨c5b0,H⟩:=H
    ·obtain rfl:=Option.some.inj H;go_enter Tryz.func158,Tryz.ntmps158;go_wp2;go_ret;exact ⟨o2,od⟩
    ·obtain rfl:=Option.some.inj H;go_enter Tryz.func158,Tryz.ntmps158;go_wp2;go_ret;exact ⟨o2,od⟩
   ·obtain rfl:=Option.some.inj H;go_enter Tryz.func158,Tryz.ntmps158;go_wp2;go_ret;exact ⟨o2,od⟩
 ·replace H:=ih H;obtain ⟨c6b0,H⟩ | ⟨c6b0,H⟩:=H
  ·replace H:=ip H;obtain ⟨c7b0,H⟩ | ⟨c7b0,H⟩:=H
   ·obtain rfl:=Option.some.inj H;go_enter Tryz.func158,Tryz.ntmps158;go_wp2;go_ret;exact ⟨o2,od⟩
   ·obtain rfl:=Option.some.inj H;go_enter Tryz.func158,Tryz.ntmps158;go_wp2;go_ret;exact ⟨o2,od⟩
  ·obtain rfl:=Option.some.inj H;go_enter Tryz.func158,Tryz.ntmps158;go_wp2;go_ret;exact ⟨o2,od⟩

/-! ### jW: function 96 -/

def jW.byte (x:Int):Bool:=(decide (97≤x) && decide (x≤122)) || (decide (48≤x) && decide (x≤57)) || x == 45
theorem jW.byte_f (x:Int):Zm.f x=some (jW.byte x):=by
 unfold Zm.f jW.byte;by_cases h1:97≤x <;> by_cases h2:x≤122 <;> by_cases h3:48≤x <;> by_cases h4:x≤57 <;> by_cases h5:x=45 <;> simp [*] <;> omega
def jW.v (l0:List Int):Bool:=decide (1≤l0.length) && decide (l0.length≤15) && l0.all jW.byte
def jW.f (l0:List Int):Option Bool:=some (jW.v l0)
set_option maxHeartbeats 8000000 in
set_option maxRecDepth 100000 in
theorem jW.calls (A0:Option Addr) (c0:Nat) (l0:List Int) (r:Bool) (w:World) (hr0:Kd.C (Kd.int .u8) w A0 l0.length l0) (hc0:l0.length≤c0) (h:jW.f l0=some r) :
  Calls Tryz.prog 96 #[.slice A0 l0.length c0] w fun e w'=>e=.returned (.bool r)∧Below w.heap.size w w':=by
 have eg:∀ args w,(callFunc 158 args).run Tryz.prog w=.ok (.enter 158 args) w:=enters_of Tryz.func158 (by kernel_rfl) rfl;have ha:=qam.calls 158 #[] eg jW.byte A0 c0 l0 w hr0 (fun W x hW=>(Zm.calls x _ W (jW.byte_f x)).mono fun e w' ⟨he,hd⟩=>⟨he,hd.below⟩);have hbig:l0.length≤9223372036854775807:=hr0.2.1;have hrv:r=jW.v l0:=(Option.some.inj h).symm;subst hrv;unfold jW.v;clear h hr0;generalize l0.all jW.byte=q at ha ⊢;by_cases h1:1≤l0.length
 ·by_cases h2:l0.length≤15
  ·rw [decide_eq_true h1,decide_eq_true h2];simp only [Bool.true_and];go_enter Tryz.func96,Tryz.ntmps96;go_wp2_with (first | (go_at_call 157;refine ha.mono ?_;rintro e w' ⟨rfl,hb'⟩) | (go_at_call 44;go_in));go_ret;exact ⟨rfl,hb'⟩
  ·rw [decide_eq_true h1,decide_eq_false h2];simp only [Bool.and_false,Bool.false_and];go_enter Tryz.func96,Tryz.ntmps96;go_wp2;go_ret;exact ⟨rfl,Below.refl _ _⟩
 ·rw [decide_eq_false h1];simp only [Bool.false_and];go_enter Tryz.func96,Tryz.ntmps96;go_wp2;go_ret;exact ⟨rfl,Below.refl _ _⟩

/-! ### ZD: function 218 -/

set_option maxHeartbeats 2000000 in
theorem ZD.calls (g:Nat) (lb:Array Value) (eg:∀ args w,(callFunc g args).run Tryz.prog w=.ok (.enter g args) w) (p:List Int→Bool) (A0:Option Addr) (c0:Nat) (l0:List (List Int)) (w:World) (hr0:Kd.C (Kd.slice 5 (Kd.int .u8)) w A0 l0.length l0)
  (hp:∀ (W:World) (A:Option Addr) (c:Nat) (x:List Int),Below w.heap.size w W→Kd.C (Kd.int .u8) W A x.length x→x.length≤c→Calls Tryz.prog g (#[.slice A x.length c] ++ lb) W fun e w'=>e=.returned (.bool (p x))∧Below w.heap.size w w') :
  Calls Tryz.prog 218 #[.slice A0 l0.length c0,.func (.func g) #[] lb] w fun e w'=>(∃ r:Int,e=.returned (.int .i64 r)∧decide (0≤r)=l0.any p)∧Below w.heap.size w w':=by
 have HR0:=ak hr0;have hbig:l0.length≤9223372036854775807:=hr0.2.1;have HP:=ak hp;clear hr0 hp;go_enter Tryz.func218,Tryz.ntmps218;go_wp2;go_loopg [5,8] l0.length (fun gg _ s8 wr=>∃ kk:Nat,kk≤l0.length∧l0.length - kk≤gg∧s8=.int .i64 kk∧Aside0 (Below w.heap.size w wr)∧Aside0 ((l0.take kk).any p=false))
 case atStart=>exact ⟨0,Nat.zero_le _,by omega,rfl,⟨Below.refl _ w⟩,⟨by simp⟩⟩
 case round =>
  obtain ⟨kk,hkk,hg,rfl,BW,AF⟩:=hrel;by_cases hlt:kk < l0.length
  ·obtain ⟨ad,A1,c1,rfl,hcell,hc1,hC1⟩:=qa1 HR0.out (kk:Int) (by omega) (by omega);replace hcell:=pw_cell_below BW.out hcell;have hcall:=HP.out wr A1 c1 (jA l0 (kk:Int)) BW.out (Kd.C_below hC1 BW.out) hc1
   have hx:Aside0 (l0.take (kk+1)=l0.take kk ++ [jA l0 (kk:Int)]):=⟨by
    rw [List.take_succ_eq_append_getElem hlt]; simp [jA,List.getD_eq_getElem?_getD,hlt]⟩
   clear hC1 hc1;generalize jA l0 (kk:Int)=y at hcell hcall hx;have hltz:(kk:Int) < (l0.length:Int):=by omega
   rw [show ((kk:Int)).toNat=kk from by omega] at hcell;cases hq:p y with
   | true =>
    rw [hq] at hcall;go_wp2_with (go_at_fn g; refine hcall.mono ?_; rintro e w' ⟨rfl,hb'⟩);go_ret;refine ⟨⟨_,rfl,?_⟩,hb'⟩
    have:l0.any p=true:=by
     rw [← List.take_append_drop (kk+1) l0,hx.out]; simp [hq]
    rw [this]; simp
   | false =>
    rw [hq] at hcall;go_wp2_with (go_at_fn g; refine hcall.mono ?_; rintro e w' ⟨rfl,hb'⟩);go_roundg (l0.length - (kk+1));case measure=>omega
    case rel=>exact ⟨kk+1,by omega,by omega,by go_num,⟨hb'⟩,⟨by rw [hx.out,List.any_append,AF.out]; simp [hq]⟩⟩
  ·have hltz:¬ (kk:Int) < (l0.length:Int):=by omega
   go_wp2;go_ret;refine ⟨⟨_,rfl,?_⟩,BW.out⟩;have:=AF.out;rw [List.take_of_length_le (by omega)] at this;rw [this]; rfl

/-! ### Zj: function 206 -/

set_option maxHeartbeats 2000000 in
theorem Zj.calls (g:Nat) (lb:Array Value) (eg:∀ args w,(callFunc g args).run Tryz.prog w=.ok (.enter g args) w) (p:List Int→Bool) (A0:Option Addr) (c0:Nat) (l0:List (List Int)) (w:World) (hr0:Kd.C (Kd.slice 5 (Kd.int .u8)) w A0 l0.length l0)
  (hp:∀ (W:World) (A:Option Addr) (c:Nat) (x:List Int),Below w.heap.size w W→Kd.C (Kd.int .u8) W A x.length x→x.length≤c→Calls Tryz.prog g (#[.slice A x.length c] ++ lb) W fun e w'=>e=.returned (.bool (p x))∧Below w.heap.size w w') :
  Calls Tryz.prog 206 #[.slice A0 l0.length c0,.func (.func g) #[] lb] w fun e w'=>e=.returned (.bool (l0.any p))∧Below w.heap.size w w':=by
 have hc:=ZD.calls g lb eg p A0 c0 l0 w hr0 hp;generalize l0.any p=q at hc ⊢;clear hp hr0;go_enter Tryz.func206,Tryz.ntmps206;go_wp2_with (go_at_call 218; refine hc.mono ?_; rintro e w' ⟨⟨r,rfl,rfl⟩,hb'⟩);go_ret;exact ⟨rfl,hb'⟩

/-! ### XB: function 207 -/

set_option maxHeartbeats 2000000 in
/-- What is handed to ContainsFunc: the predicate's contrary; the predicate lies in a variable. -/
theorem XB.calls (g:Nat) (lb:Array Value) (eg:∀ args w,(callFunc g args).run Tryz.prog w=.ok (.enter g args) w) (q:Bool) (A:Option Addr) (n c:Nat) (B:Nat) (w w0:World) (hv:w.cell? ⟨B,0,none⟩=some (.func (.func g) #[] lb))
  (hp:Calls Tryz.prog g (#[.slice A n c] ++ lb) w fun e w'=>e=.returned (.bool q)∧Below w0.heap.size w0 w') :
  Calls Tryz.prog 207 #[.slice A n c,.pointer (some ⟨B,0,none⟩)] w fun e w'=>e=.returned (.bool (!q))∧Below w0.heap.size w0 w':=by
 go_enter Tryz.func207,Tryz.ntmps207;go_wp2_with (go_at_fn g; refine hp.mono ?_; rintro e w' ⟨rfl,hb'⟩);go_ret;exact ⟨rfl,hb'⟩

/-! ### qal: function 171 -/

set_option maxHeartbeats 2000000 in
theorem qal.calls (g:Nat) (lb:Array Value) (eg:∀ args w,(callFunc g args).run Tryz.prog w=.ok (.enter g args) w) (p:List Int→Bool) (A0:Option Addr) (c0:Nat) (l0:List (List Int)) (w:World) (hr0:Kd.C (Kd.slice 5 (Kd.int .u8)) w A0 l0.length l0)
  (hp:∀ (W:World) (A:Option Addr) (c:Nat) (x:List Int),Below w.heap.size w W→Kd.C (Kd.int .u8) W A x.length x→x.length≤c→Calls Tryz.prog g (#[.slice A x.length c] ++ lb) W fun e w'=>e=.returned (.bool (p x))∧Below W.heap.size W w') :
  Calls Tryz.prog 171 #[.slice A0 l0.length c0,.func (.func g) #[] lb] w fun e w'=>e=.returned (.bool (l0.all p))∧Below w.heap.size w w':=by
 have eg2:∀ args w,(callFunc 207 args).run Tryz.prog w=.ok (.enter 207 args) w:=enters_of Tryz.func207 (by kernel_rfl) rfl;have hb0:Below w.heap.size w (w.alloc (.cells #[.func (.func g) #[] lb] 56)):=below_alloc (Below.refl _ _) _
 have hc:=Zj.calls 207 #[.pointer (some ⟨w.heap.size,0,none⟩)] eg2 (fun x=>!p x) A0 c0 l0 (w.alloc (.cells #[.func (.func g) #[] lb] 56)) (Kd.C_below hr0 hb0) (fun W A c x hW hC hc =>
  XB.calls g lb eg (p x) A x.length c w.heap.size W _ ((hW.cell (p:=⟨w.heap.size,0,none⟩) (by simp)).trans (by simp)) ((hp W A c x (hb0.trans (hW.mono (by simp))) hC hc).mono fun e w' ⟨he,hb⟩=>⟨he,hW.trans (hb.mono hW.size)⟩))
 have e1:(l0.any fun x=>!p x) = !(l0.all p):=by rw [List.all_eq_not_any_not]; simp
 rw [e1] at hc;generalize l0.all p=q at hc ⊢;clear hp hr0 e1;go_enter Tryz.func171,Tryz.ntmps171;go_wp2_with (go_at_call 206; refine hc.mono ?_; rintro e w' ⟨rfl,hb'⟩);go_ret;exact ⟨by simp,hb0.trans (hb'.mono (by simp))⟩

/-! ### qE: function 126 -/

def qE.v (l:List (List Int)):Bool:=decide (l.length≤6) && l.all jW.v
def qE.f (l:List (List Int)):Option Bool:=some (qE.v l)
set_option maxHeartbeats 8000000 in
set_option maxRecDepth 100000 in
theorem qE.calls (jI:Option Addr) (jH:Nat) (ql:List (List Int)) (r:Bool) (w:World) (jM:Kd.C (Kd.slice 5 (Kd.int .u8)) w jI ql.length ql) (jT:ql.length≤jH) (h:qE.f ql=some r) :
  Calls Tryz.prog 126 #[.agg #[.slice jI ql.length jH]] w fun e w'=>e=.returned (.bool r)∧Below w.heap.size w w':=by
 have hu:=Tryz.underlying65;have eg:∀ args w,(callFunc 96 args).run Tryz.prog w=.ok (.enter 96 args) w:=enters_of Tryz.func96 (by kernel_rfl) rfl;have hb0:Below w.heap.size w (w.alloc (.cells #[.slice jI ql.length jH] 65)):=below_alloc (Below.refl _ _) _;have ha:=fun (W:World) (hW:Below w.heap.size w W)=>qal.calls 96 #[] eg jW.v jI jH ql W (Kd.C_below jM hW) (fun W2 A c x hW2 hC hc=>(jW.calls A c x _ W2 hC hc rfl))
 have hbig:ql.length≤9223372036854775807:=jM.2.1;have hrv:r=qE.v ql:=(Option.some.inj h).symm;subst hrv;unfold qE.v;clear h jM;have HA:=ak ha;clear ha;generalize ql.all jW.v=q at HA ⊢;by_cases h2:ql.length≤6
 ·rw [decide_eq_true h2];simp only [Bool.true_and];go_enter Tryz.func126,Tryz.ntmps126;go_wp2_with (go_at_call 171; refine (HA.out _ hb0).mono ?_; rintro e w' ⟨rfl,hb'⟩);go_ret;exact ⟨rfl,hb0.trans (hb'.mono (by simp))⟩
 ·rw [decide_eq_false h2];simp only [Bool.false_and];go_enter Tryz.func126,Tryz.ntmps126;go_wp2;go_ret;exact ⟨rfl,hb0⟩

/-! ### yx: function 161 -/
def yx.l0:Nat→List Int→List Int→Int→Option (List Int)
 | 0,_,_,_=>none
 | k+1,x0,x3,x4=>if x4 < (x0.length:Int) then (if 0≤x4 then (if x4 < (x3.length:Int) then (yx.l0 k x0 (x3.set (x4:Int).toNat (rd x0 x4)) (wrap64 (x4+1))) else (none)) else (none)) else (some x3)
def yx.f (k:Nat) (l0:List Int):Option (List Int):=if 0≤(l0.length:Int) then (if ((l0.length:Int):Int).toNat≤35184372088832 then (yx.l0 k l0 (List.replicate ((l0.length:Int):Int).toNat 0) 0) else (none)) else (none)
set_option maxHeartbeats 8000000 in
set_option maxRecDepth 100000 in
theorem yx.calls (k:Nat) (A0:Option Addr) (c0:Nat) (l0:List Int) (r:List Int) (w:World) (hr0:Kd.C (Kd.int .i64) w A0 l0.length l0) (hc0:l0.length≤c0) (h:yx.f k l0=some r) :
  Calls Tryz.prog 161 #[.slice A0 l0.length c0] w fun e w'=>∃ v0_:Value,e=.returned (v0_)∧Kd.R (Kd.int .i64) 3 w' w.heap.size (fun _=>True) v0_ r∧Below w.heap.size w w':=by
 have HR0:=ak hr0;have HC0:=ak hc0;clear hr0 hc0;have HB:=ak (Below.refl w.heap.size w);have H:(if 0≤(l0.length:Int) then (if ((l0.length:Int):Int).toNat≤35184372088832 then (yx.l0 k l0 (List.replicate ((l0.length:Int):Int).toNat 0) 0) else (none)) else (none))=some r:=h;clear h;replace H:=ipE H;obtain ⟨c2b0,c2b1,H⟩:=H;replace H:=ipE H;obtain ⟨c3b0,c3b1,H⟩:=H;obtain ⟨yH,yL⟩:∃ y_:List Int,y_=(List.replicate ((l0.length:Int):Int).toNat 0):=⟨_,rfl⟩;(try with_reducible replace H:=bnS H)
 (try rw [← yL] at H)
 have yS:=ak yL;clear yL;have H':=ak H;clear H;go_enter Tryz.func161,Tryz.ntmps161;go_wp2_with (((with_reducible refine gate_dst (N:=7) rfl ?_);refine Kd.R_make (Kd.int .i64) _ 3 rfl (N:=7) rfl 103 _ _ rfl (l0.length:Int) rfl rfl Tryz.underlying103 (.int .i64 0) 8 qlR rfl (by decide) (by omega) 0 (ok:=fun _=>True) (okp:=fun _=>True) rfl (fun _ hk=>hk) trivial (of_decide_eq_true (by first | (with_reducible assumption) | assumption)) (Nat.le_trans (Nat.mul_le_mul_right _ (of_decide_eq_true (by first | (with_reducible assumption) | assumption):(l0.length:Int).toNat≤35184372088832)) (by omega)) (Below.refl _ _) (Nat.le_refl _) ?_;intro JM w4 ho5 hb hg_ hnew_;clear hg_ hnew_;(first | rw [← yS.out] at ho5 | (simp only [Int.reduceToNat] at ho5; rw [← yS.out] at ho5));have yN:=ak (Kd.R_lower ho5 (below_size (bw HB.out)));replace HB:=b2 HB hb;clear hb ho5));go_loopg [4] k (fun kq v4 w'=>∃ (qK:List Int) (qD:Int),v4=.int .i64 qD∧Aside0 (yx.l0 kq l0 qK qD=some r)∧Aside0 (kq≤k)∧Aside0 (Kd.R (Kd.int .i64) 3 w' w.heap.size (fun _=>True) JM qK)∧Aside0 (Below w.heap.size w w'))
 case atStart=>exact ⟨(yH),(0),o2,H',⟨Nat.le_refl _⟩,⟨rw_ yN.out⟩,⟨bw HB.out⟩⟩
 case round =>
  clear H';(try clear c2b0)
  (try clear c2b1)
  (try clear c3b0)
  (try clear c3b1)
  obtain ⟨qK,qD,rfl,HA,HK1,HO_3,HB⟩:=hrel;cases gk with
  | zero=>exact absurd HA.out (by simp [yx.l0])
  | succ k1 =>
   have H:=HA.out;clear HA;simp only [yx.l0] at H;replace H:=ip H;obtain ⟨c6b0,H⟩ | ⟨c6b0,H⟩:=H
   ·replace H:=ipN H;obtain ⟨c7b0,H⟩:=H;replace H:=ipN H;obtain ⟨c8b0,H⟩:=H;obtain ⟨Jr,Xr⟩:∃ y_:List Int,y_=(qK.set (qD:Int).toNat (rd l0 qD)):=⟨_,rfl⟩;(try with_reducible replace H:=bnS H)
    (try rw [← Xr] at H)
    have qcI:=ak Xr;clear Xr;have H':=ak H;clear H;obtain ⟨qah,rfl,yP,ZP,ZO⟩:=el_int HR0 HB qD;have p9:0≤(qD:Int):=of_decide_eq_true (by first | (with_reducible assumption) | assumption);have q9:(qD:Int) < ((qK.length:Int):Int):=of_decide_eq_true (by first | (with_reducible assumption) | assumption);obtain ⟨go9,co9,eo9,gb9,gl9,cl9,HG9⟩:=Kd.R_form HO_3.out (by omega);(first | cases eo9 | (injection eo9 with ea_ en_ ec_; (first | subst ea_ | (injection ea_ with ea_; subst ea_)); subst ec_; clear en_))
    have GB9:=ak gb9;have GG9:=ak HG9;clear gb9 gl9 HG9;obtain ⟨qlS,ql2⟩:=Kd.R_celln 0 HO_3.out (qD:Int) p9 q9;replace p9:=eq_true p9;replace q9:=eq_true q9;have qc0:=Kd.R_putg HO_3.out (qD:Int) (rd l0 qD);go_wp2_with (((with_reducible refine gate_store (t:=3) (p:=20) rfl ?_);refine store_event (t:=3) (p:=20) (v:=?vo_w11) (w1:=(wr.setCell ⟨go9,(qD:Int).toNat,none⟩ (.int .i64 (rd l0 qD)))) ?hg ?ho ?hn ?hr ?_;(case ho=>rfl);(case hg=>rfl);(case hn=>rfl);(case hr=>first | (go_simp; done) | (go_simp; rfl));intro w11 hw;have hg:wr.grownBy w11 (some go9):=(by rw [hw]; exact qc0.2);have hp_:Kd.R (Kd.int .i64) 3 w11 w.heap.size (fun _=>True) (.slice (some ⟨go9,0,none⟩) qK.length co9) Jr:=(by rw [hw,qcI.out]; exact qc0.1);clear qc0;replace HO_3:=ak (hp_);replace HB:=ak ((by rw [hw]; exact below_set (HB.out) GB9.out:Below w.heap.size w w11));clear hg hw hp_));go_roundg k1;case measure=>have:=HK1.out; omega
    case rel=>exact ⟨(Jr),(wrap64 (qD+1)),o2,H',⟨by have:=HK1.out; omega⟩,⟨rw_ HO_3.out⟩,⟨bw HB.out⟩⟩
   ·obtain rfl:=Option.some.inj H;go_wp2;go_ret;exact ⟨_,o1,rw_ HO_3.out,bw HB.out⟩

/-! ### JP: function 104 -/
def JP.f (k:Nat) (ql:List (List Int)) (qd:Int) (qj:Int) (qk:Int) (qB:List (List Int)) (qb:List Int) (qc:List Int):Option ((List (List Int)) × Int × Int × Int × (List (List Int)) × List Int × List Int):=(Qb.f k ql).bind fun qG=>((Qb.f k qB).bind fun jV=>((zG.f k qb).bind fun jS=>((yx.f k qc).bind fun zV=>(some (qG,qd,qj,qk,jV,jS,zV)))))
set_option maxHeartbeats 8000000 in
set_option maxRecDepth 100000 in
theorem JP.calls (k:Nat) (jI:Option Addr) (jH:Nat) (ql:List (List Int)) (qd:Int) (qj:Int) (qk:Int) (zO:Option Addr) (zM:Nat) (qB:List (List Int)) (jl:Option Addr) (qU:Nat) (qb:List Int) (qS:Option Addr) (qR:Nat) (qc:List Int) (r1:List (List Int)) (r2:Int) (r3:Int) (r4:Int) (r5:List (List Int)) (r6:List Int) (r7:List Int) (w:World) (jM:Kd.C (Kd.slice 5 (Kd.int .u8)) w jI ql.length ql) (jT:ql.length≤jH) (yk:Kd.C (Kd.slice 5 (Kd.int .u8)) w zO qB.length qB) (yl:qB.length≤zM) (jJ:Kd.C (Kd.int .u8) w jl qb.length qb) (jK:qb.length≤qU) (jP:Kd.C (Kd.int .i64) w qS qc.length qc) (jQ:qc.length≤qR) (h:JP.f k ql qd qj qk qB qb qc=some (r1,r2,r3,r4,r5,r6,r7)) :
  Calls Tryz.prog 104 #[.agg #[.slice jI ql.length jH,.int .i64 qd,.int .i64 qj,.int .i64 qk,.slice zO qB.length zM,.slice jl qb.length qU,.slice qS qc.length qR]] w fun e w'=>∃ v0_ v4_ v5_ v6_:Value,e=.returned (.agg #[v0_,.int .i64 r2,.int .i64 r3,.int .i64 r4,v4_,v5_,v6_])∧Kd.S (Kd.slice 5 (Kd.int .u8)) 27 w' w.heap.size (fun k_=>some k_≠(v4_:Value).ownBlock∧some k_≠(v5_:Value).ownBlock) v0_ r1∧Kd.S (Kd.slice 5 (Kd.int .u8)) 27 w' w.heap.size (fun k_=>some k_≠(v0_:Value).ownBlock∧some k_≠(v5_:Value).ownBlock) v4_ r5∧Kd.R (Kd.int .u8) 5 w' w.heap.size (fun _=>True) v5_ r6∧Kd.R (Kd.int .i64) 3 w' w.heap.size (fun _=>True) v6_ r7∧Below w.heap.size w w':=by
 have qc6:=Tryz.underlying114;have Zg:=Tryz.underlying105;have qeT:=Tryz.underlying59;have Zn:=Tryz.underlying65;have jk:=ak jM;have jo:=ak jT;clear jM jT;have yb:=ak yk;have yc:=ak yl;clear yk yl;have jg:=ak jJ;have jL:=ak jK;clear jJ jK;have jd:=ak jP;have jy:=ak jQ;clear jP jQ;have HB:=ak (Below.refl w.heap.size w);have H:((Qb.f k ql).bind fun qG=>((Qb.f k qB).bind fun jV=>((zG.f k qb).bind fun jS=>((yx.f k qc).bind fun zV=>(some (qG,qd,qj,qk,jV,jS,zV))))))=some (r1,r2,r3,r4,r5,r6,r7):=h;clear h;replace H:=bnd H;obtain ⟨qG,A2,H⟩:=H;replace H:=bnd H;obtain ⟨jV,A3,H⟩:=H;replace H:=bnd H;obtain ⟨jS,A4,H⟩:=H;replace H:=bnd H;obtain ⟨zV,A5,H⟩:=H;simp only [Option.some.injEq,Prod.mk.injEq] at H;obtain ⟨rfl,rfl,rfl,rfl,rfl,rfl,rfl⟩:=H;go_enter Tryz.func104,Tryz.ntmps104;go_wp2_with (first | ((with_reducible refine gate_dst (N:=1) rfl ?_);refine bxd (N:=1) rfl HB ?_;clear HB;intro qe w6 hg HB qa qy hb;have qI:=qy;clear hb hg) | ((with_reducible refine gate_dst (N:=2) rfl ?_);refine bxe (N:=2) rfl ?_;intro qv hg w7 hbox hb;have qf:=ak (hbox);have ju:=b3s hg bs;have yq:=ju;replace HB:=b2s bs hb;have qt:=b4 hg qa;have qz:=b5 hg qa;replace qa:=b1 qa hb;clear hb hbox hg) | ((with_reducible refine gate_dst (N:=3) rfl ?_);refine bxe (N:=3) rfl ?_;intro jj hg w8 hbox hb;have jt:=ak (hbox);have qap:=b3s hg bs;have qex:=qap;replace HB:=b2s bs hb;have yd:=b4 hg qa;have ZK:=b5 hg qa;replace qa:=b1 qa hb;have jX:=b4 hg qf;have ZJ:=b5 hg qf;replace qf:=b1 qf hb;clear hb hbox hg;have qkV:=qt.out;have qkU:=qz.out;have qre:=yd.out;have qqH:=ZK.out;obtain ⟨_,_,_,_,_,_,_,_,_,_,_,_,_,_⟩:=cells7 qa.out) | ((with_reducible refine gate_callee (f:=79) rfl ?_);refine glG 6 rfl rfl Tryz.func79 (Qb.calls k _ _ ql qG _ (cv jk HB) jo.out A2.out) ?_;rintro e w12 ⟨XF,rfl,ho0,hb⟩;refine ⟨_,rfl,?_⟩;have zx:=ak (Kd.S_lower ho0 (below_size bs));replace qa:=b1 qa hb;replace qf:=b1 qf hb;replace jt:=b1 jt hb;replace HB:=b2s bs hb;(try clear hb);(try clear ho0);obtain ⟨QD,QC,qd8⟩:=Kd.S_slice zx.out;subst qd8;have qeo:=ZJ.out;have qen:=jX.out;obtain ⟨_,_,_,_,_,_,_,_,_,_,_,_,_,_⟩:=cells7 jt.out;obtain ⟨_,_,_,_,_,_,_,_,_,_,_,_,_,_⟩:=cells7 qa.out) | ((with_reducible refine gate_callee (f:=79) rfl ?_);refine glG 19 rfl rfl Tryz.func79 (Qb.calls k _ _ qB jV _ (Kd.C_below yb.out bs) yc.out A3.out) ?_;rintro e w17 ⟨qgF,rfl,ho0,hb⟩;refine ⟨_,rfl,?_⟩;have Qf:=ak (Kd.S_lower (Kd.S_new' ho0 (Kd.S_lt (by (with_reducible repeat (first | apply Kd.S_alloc | apply Kd.S_drewN | apply Kd.S_drew)); exact (Kd.S_mono (Kd.S_far (p:=⟨jj,3,none⟩) (Kd.S_far (p:=⟨jj,2,none⟩) (Kd.S_far (p:=⟨jj,1,none⟩) (Kd.S_far (p:=⟨jj,0,none⟩) (Kd.S_types zx.out jt.out (by decide)) (fun _ hk=>hk.2) (.slice QD qG.length QC)) (fun _ hk=>hk.2) (.int .i64 qd)) (fun _ hk=>hk.2) (.int .i64 qj)) (fun _ hk=>hk.2) (.int .i64 qk)) (fun _ h_=>h_.1))))) (below_size bs));replace zx:=ak (Kd.S_elder' (by (with_reducible repeat (first | apply Kd.S_alloc | apply Kd.S_drewN | apply Kd.S_drew)); exact (Kd.S_mono (Kd.S_far (p:=⟨jj,3,none⟩) (Kd.S_far (p:=⟨jj,2,none⟩) (Kd.S_far (p:=⟨jj,1,none⟩) (Kd.S_far (p:=⟨jj,0,none⟩) (Kd.S_types zx.out jt.out (by decide)) (fun _ hk=>hk.2) (.slice QD qG.length QC)) (fun _ hk=>hk.2) (.int .i64 qd)) (fun _ hk=>hk.2) (.int .i64 qj)) (fun _ hk=>hk.2) (.int .i64 qk)) (fun _ h_=>h_.1))) (Kd.S_base ho0) hb);replace qa:=ak (blk_below (g:=qe) (o:=.cells #[.slice jI ql.length jH,.int .i64 qd,.int .i64 qj,.int .i64 qk,.slice zO qB.length zM,.slice jl qb.length qU,.slice qS qc.length qR] 114 (0,0)) (by (with_reducible repeat (first | refine blk_drewN ?_ _ | refine blk_drew ?_ | refine blk_alloc ?_ _)); refine blk_far ?_ yd.out _; (with_reducible repeat (first | refine blk_drewN ?_ _ | refine blk_drew ?_ | refine blk_alloc ?_ _)); refine blk_far ?_ yd.out _; (with_reducible repeat (first | refine blk_drewN ?_ _ | refine blk_drew ?_ | refine blk_alloc ?_ _)); refine blk_far ?_ yd.out _; (with_reducible repeat (first | refine blk_drewN ?_ _ | refine blk_drew ?_ | refine blk_alloc ?_ _)); refine blk_far ?_ yd.out _; (with_reducible repeat (first | refine blk_drewN ?_ _ | refine blk_drew ?_ | refine blk_alloc ?_ _)); exact qa.out) hb);replace qf:=ak (blk_below (g:=qv) (o:=.cells #[.slice none 0 0,.int .i64 0,.int .i64 0,.int .i64 0,.slice none 0 0,.slice none 0 0,.slice none 0 0] 105 (0,0)) (by (with_reducible repeat (first | refine blk_drewN ?_ _ | refine blk_drew ?_ | refine blk_alloc ?_ _)); refine blk_far ?_ jX.out _; (with_reducible repeat (first | refine blk_drewN ?_ _ | refine blk_drew ?_ | refine blk_alloc ?_ _)); refine blk_far ?_ jX.out _; (with_reducible repeat (first | refine blk_drewN ?_ _ | refine blk_drew ?_ | refine blk_alloc ?_ _)); refine blk_far ?_ jX.out _; (with_reducible repeat (first | refine blk_drewN ?_ _ | refine blk_drew ?_ | refine blk_alloc ?_ _)); refine blk_far ?_ jX.out _; (with_reducible repeat (first | refine blk_drewN ?_ _ | refine blk_drew ?_ | refine blk_alloc ?_ _)); exact qf.out) hb);replace jt:=ak (blk_below (g:=jj) (o:=.cells #[.slice QD qG.length QC,.int .i64 qd,.int .i64 qj,.int .i64 qk,.slice none 0 0,.slice none 0 0,.slice none 0 0] 105 (0,0)) (by (with_reducible repeat (first | refine blk_drewN ?_ _ | refine blk_drew ?_ | refine blk_alloc ?_ _)); refine blk_put (cs:=#[.slice QD qG.length QC,.int .i64 qd,.int .i64 qj,.int .i64 0,.slice none 0 0,.slice none 0 0,.slice none 0 0]) ?_ 3 _ rfl; (with_reducible repeat (first | refine blk_drewN ?_ _ | refine blk_drew ?_ | refine blk_alloc ?_ _)); refine blk_put (cs:=#[.slice QD qG.length QC,.int .i64 qd,.int .i64 0,.int .i64 0,.slice none 0 0,.slice none 0 0,.slice none 0 0]) ?_ 2 _ rfl; (with_reducible repeat (first | refine blk_drewN ?_ _ | refine blk_drew ?_ | refine blk_alloc ?_ _)); refine blk_put (cs:=#[.slice QD qG.length QC,.int .i64 0,.int .i64 0,.int .i64 0,.slice none 0 0,.slice none 0 0,.slice none 0 0]) ?_ 1 _ rfl; (with_reducible repeat (first | refine blk_drewN ?_ _ | refine blk_drew ?_ | refine blk_alloc ?_ _)); refine blk_put (cs:=#[.slice none 0 0,.int .i64 0,.int .i64 0,.int .i64 0,.slice none 0 0,.slice none 0 0,.slice none 0 0]) ?_ 0 _ rfl; (with_reducible repeat (first | refine blk_drewN ?_ _ | refine blk_drew ?_ | refine blk_alloc ?_ _)); exact jt.out) hb);replace HB:=b2s bs hb;(try clear hb);(try clear ho0);obtain ⟨qab,XV,qhf⟩:=Kd.S_slice Qf.out;subst qhf;obtain ⟨_,_,_,_,_,_,_,_,_,_,_,_,_,_⟩:=cells7 jt.out;obtain ⟨_,_,_,_,_,_,_,_,_,_,_,_,_,_⟩:=cells7 qa.out) | ((with_reducible refine gate_callee (f:=26) rfl ?_);refine glG 23 rfl rfl Tryz.func26 (zG.calls k _ _ qb jS _ (Kd.C_below jg.out bs) jL.out A4.out) ?_;rintro e w21 ⟨qeH,rfl,ho0,hb⟩;refine ⟨_,rfl,?_⟩;replace zx:=ak (Kd.S_elder' (by (with_reducible repeat (first | apply Kd.S_alloc | apply Kd.S_drewN | apply Kd.S_drew)); exact (Kd.S_mono (Kd.S_far (p:=⟨jj,4,none⟩) (Kd.S_types zx.out jt.out (by decide)) (fun _ hk=>hk.2) (.slice qab jV.length XV)) (fun _ h_=>h_.1))) (Kd.R_base ho0) hb);replace Qf:=ak (Kd.S_elder' (by (with_reducible repeat (first | apply Kd.S_alloc | apply Kd.S_drewN | apply Kd.S_drew)); exact (Kd.S_mono (Kd.S_far (p:=⟨jj,4,none⟩) (Kd.S_types Qf.out jt.out (by decide)) (fun _ hk=>hk.2) (.slice qab jV.length XV)) (fun _ h_=>h_.1))) (Kd.R_base ho0) hb);have QV:=ak (Kd.R_lower ho0 (below_size bs));replace qa:=ak (blk_below (g:=qe) (o:=.cells #[.slice jI ql.length jH,.int .i64 qd,.int .i64 qj,.int .i64 qk,.slice zO qB.length zM,.slice jl qb.length qU,.slice qS qc.length qR] 114 (0,0)) (by (with_reducible repeat (first | refine blk_drewN ?_ _ | refine blk_drew ?_ | refine blk_alloc ?_ _)); refine blk_far ?_ yd.out _; (with_reducible repeat (first | refine blk_drewN ?_ _ | refine blk_drew ?_ | refine blk_alloc ?_ _)); exact qa.out) hb);replace qf:=ak (blk_below (g:=qv) (o:=.cells #[.slice none 0 0,.int .i64 0,.int .i64 0,.int .i64 0,.slice none 0 0,.slice none 0 0,.slice none 0 0] 105 (0,0)) (by (with_reducible repeat (first | refine blk_drewN ?_ _ | refine blk_drew ?_ | refine blk_alloc ?_ _)); refine blk_far ?_ jX.out _; (with_reducible repeat (first | refine blk_drewN ?_ _ | refine blk_drew ?_ | refine blk_alloc ?_ _)); exact qf.out) hb);replace jt:=ak (blk_below (g:=jj) (o:=.cells #[.slice QD qG.length QC,.int .i64 qd,.int .i64 qj,.int .i64 qk,.slice qab jV.length XV,.slice none 0 0,.slice none 0 0] 105 (0,0)) (by (with_reducible repeat (first | refine blk_drewN ?_ _ | refine blk_drew ?_ | refine blk_alloc ?_ _)); refine blk_put (cs:=#[.slice QD qG.length QC,.int .i64 qd,.int .i64 qj,.int .i64 qk,.slice none 0 0,.slice none 0 0,.slice none 0 0]) ?_ 4 _ rfl; (with_reducible repeat (first | refine blk_drewN ?_ _ | refine blk_drew ?_ | refine blk_alloc ?_ _)); exact jt.out) hb);replace HB:=b2s bs hb;(try clear hb);(try clear ho0);obtain ⟨Xe,Xc,qfe⟩:=Kd.R_slice QV.out;subst qfe;obtain ⟨_,_,_,_,_,_,_,_,_,_,_,_,_,_⟩:=cells7 jt.out;obtain ⟨_,_,_,_,_,_,_,_,_,_,_,_,_,_⟩:=cells7 qa.out) | ((with_reducible refine gate_callee (f:=161) rfl ?_);refine glG 27 rfl rfl Tryz.func161 (yx.calls k _ _ qc zV _ (Kd.C_below jd.out bs) jy.out A5.out) ?_;rintro e w25 ⟨qdi,rfl,ho0,hb⟩;refine ⟨_,rfl,?_⟩;replace zx:=ak (Kd.S_below (by (with_reducible repeat (first | apply Kd.S_alloc | apply Kd.S_drewN | apply Kd.S_drew)); exact (Kd.S_mono (Kd.S_far (p:=⟨jj,5,none⟩) (Kd.S_types zx.out jt.out (by decide)) (fun _ hk=>hk.2) (.slice Xe jS.length Xc)) (fun _ h_=>h_.1))) hb);replace Qf:=ak (Kd.S_below (by (with_reducible repeat (first | apply Kd.S_alloc | apply Kd.S_drewN | apply Kd.S_drew)); exact (Kd.S_mono (Kd.S_far (p:=⟨jj,5,none⟩) (Kd.S_types Qf.out jt.out (by decide)) (fun _ hk=>hk.2) (.slice Xe jS.length Xc)) (fun _ h_=>h_.1))) hb);replace QV:=ak (Kd.R_below (by (with_reducible repeat (first | apply Kd.R_alloc | apply Kd.R_drewN | apply Kd.R_drew)); exact (Kd.R_mono (Kd.R_far (p:=⟨jj,5,none⟩) (Kd.R_types QV.out jt.out (by decide)) (fun _ hk=>hk.2) (.slice Xe jS.length Xc)) (fun _ h_=>h_.1))) hb);have Zy:=ak (Kd.R_lower ho0 (below_size bs));replace qa:=ak (blk_below (g:=qe) (o:=.cells #[.slice jI ql.length jH,.int .i64 qd,.int .i64 qj,.int .i64 qk,.slice zO qB.length zM,.slice jl qb.length qU,.slice qS qc.length qR] 114 (0,0)) (by (with_reducible repeat (first | refine blk_drewN ?_ _ | refine blk_drew ?_ | refine blk_alloc ?_ _)); refine blk_far ?_ yd.out _; (with_reducible repeat (first | refine blk_drewN ?_ _ | refine blk_drew ?_ | refine blk_alloc ?_ _)); exact qa.out) hb);replace qf:=ak (blk_below (g:=qv) (o:=.cells #[.slice none 0 0,.int .i64 0,.int .i64 0,.int .i64 0,.slice none 0 0,.slice none 0 0,.slice none 0 0] 105 (0,0)) (by (with_reducible repeat (first | refine blk_drewN ?_ _ | refine blk_drew ?_ | refine blk_alloc ?_ _)); refine blk_far ?_ jX.out _; (with_reducible repeat (first | refine blk_drewN ?_ _ | refine blk_drew ?_ | refine blk_alloc ?_ _)); exact qf.out) hb);replace jt:=ak (blk_below (g:=jj) (o:=.cells #[.slice QD qG.length QC,.int .i64 qd,.int .i64 qj,.int .i64 qk,.slice qab jV.length XV,.slice Xe jS.length Xc,.slice none 0 0] 105 (0,0)) (by (with_reducible repeat (first | refine blk_drewN ?_ _ | refine blk_drew ?_ | refine blk_alloc ?_ _)); refine blk_put (cs:=#[.slice QD qG.length QC,.int .i64 qd,.int .i64 qj,.int .i64 qk,.slice qab jV.length XV,.slice none 0 0,.slice none 0 0]) ?_ 5 _ rfl; (with_reducible repeat (first | refine blk_drewN ?_ _ | refine blk_drew ?_ | refine blk_alloc ?_ _)); exact jt.out) hb);replace HB:=b2s bs hb;(try clear hb);(try clear ho0);obtain ⟨Yu,Yp,qd6⟩:=Kd.R_slice Zy.out;subst qd6;obtain ⟨_,_,_,_,_,_,_,_,_,_,_,_,_,_⟩:=cells7 jt.out;obtain ⟨_,_,_,_,_,_,_,_,_,_,_,_,_,_⟩:=cells7 qf.out));refine bodyPost_ret (results_cell_row rfl _ _ qv 105 #[.slice QD qG.length QC,.int .i64 qd,.int .i64 qj,.int .i64 qk,.slice qab jV.length XV,.slice Xe jS.length Xc,.slice Yu zV.length Yp] (0,0) _ rfl (by (with_reducible repeat (first | refine blk_drewN ?_ _ | refine blk_drew ?_ | refine blk_alloc ?_ _)); refine blk_put (cs:=#[.slice QD qG.length QC,.int .i64 qd,.int .i64 qj,.int .i64 qk,.slice qab jV.length XV,.slice Xe jS.length Xc,.slice none 0 0]) ?_ 6 _ rfl; (with_reducible repeat (first | refine blk_drewN ?_ _ | refine blk_drew ?_ | refine blk_alloc ?_ _)); refine blk_put (cs:=#[.slice QD qG.length QC,.int .i64 qd,.int .i64 qj,.int .i64 qk,.slice qab jV.length XV,.slice none 0 0,.slice none 0 0]) ?_ 5 _ rfl; (with_reducible repeat (first | refine blk_drewN ?_ _ | refine blk_drew ?_ | refine blk_alloc ?_ _)); refine blk_put (cs:=#[.slice QD qG.length QC,.int .i64 qd,.int .i64 qj,.int .i64 qk,.slice none 0 0,.slice none 0 0,.slice none 0 0]) ?_ 4 _ rfl; (with_reducible repeat (first | refine blk_drewN ?_ _ | refine blk_drew ?_ | refine blk_alloc ?_ _)); refine blk_put (cs:=#[.slice QD qG.length QC,.int .i64 qd,.int .i64 qj,.int .i64 0,.slice none 0 0,.slice none 0 0,.slice none 0 0]) ?_ 3 _ rfl; (with_reducible repeat (first | refine blk_drewN ?_ _ | refine blk_drew ?_ | refine blk_alloc ?_ _)); refine blk_put (cs:=#[.slice QD qG.length QC,.int .i64 qd,.int .i64 0,.int .i64 0,.slice none 0 0,.slice none 0 0,.slice none 0 0]) ?_ 2 _ rfl; (with_reducible repeat (first | refine blk_drewN ?_ _ | refine blk_drew ?_ | refine blk_alloc ?_ _)); refine blk_put (cs:=#[.slice QD qG.length QC,.int .i64 0,.int .i64 0,.int .i64 0,.slice none 0 0,.slice none 0 0,.slice none 0 0]) ?_ 1 _ rfl; (with_reducible repeat (first | refine blk_drewN ?_ _ | refine blk_drew ?_ | refine blk_alloc ?_ _)); refine blk_put (cs:=#[.slice none 0 0,.int .i64 0,.int .i64 0,.int .i64 0,.slice none 0 0,.slice none 0 0,.slice none 0 0]) ?_ 0 _ rfl; (with_reducible repeat (first | refine blk_drewN ?_ _ | refine blk_drew ?_ | refine blk_alloc ?_ _)); refine blk_far ?_ jX.out _; (with_reducible repeat (first | refine blk_drewN ?_ _ | refine blk_drew ?_ | refine blk_alloc ?_ _)); exact qf.out) Tryz.underlying105 rfl (by kernel_rfl)) rfl ?_;exact ⟨_,_,_,_,o1,by (with_reducible repeat (first | apply Kd.S_alloc | apply Kd.S_drewN | apply Kd.S_drew)); exact Kd.S_mono (Kd.S_far (p:=⟨qv,6,none⟩) (Kd.S_far (p:=⟨qv,5,none⟩) (Kd.S_far (p:=⟨qv,4,none⟩) (Kd.S_far (p:=⟨qv,3,none⟩) (Kd.S_far (p:=⟨qv,2,none⟩) (Kd.S_far (p:=⟨qv,1,none⟩) (Kd.S_far (p:=⟨qv,0,none⟩) (Kd.S_far (p:=⟨jj,6,none⟩) (Kd.S_types (Kd.S_types zx.out jt.out (by decide)) qf.out (by decide)) (fun _ hk=>hk.1.2) (.slice Yu zV.length Yp)) (fun _ hk=>hk.2) (.slice QD qG.length QC)) (fun _ hk=>hk.2) (.int .i64 qd)) (fun _ hk=>hk.2) (.int .i64 qj)) (fun _ hk=>hk.2) (.int .i64 qk)) (fun _ hk=>hk.2) (.slice qab jV.length XV)) (fun _ hk=>hk.2) (.slice Xe jS.length Xc)) (fun _ hk=>hk.2) (.slice Yu zV.length Yp)) (fun _ hk=>⟨hk.1.1.1.2,hk.1.1.2⟩),by (with_reducible repeat (first | apply Kd.S_alloc | apply Kd.S_drewN | apply Kd.S_drew)); exact Kd.S_mono (Kd.S_far (p:=⟨qv,6,none⟩) (Kd.S_far (p:=⟨qv,5,none⟩) (Kd.S_far (p:=⟨qv,4,none⟩) (Kd.S_far (p:=⟨qv,3,none⟩) (Kd.S_far (p:=⟨qv,2,none⟩) (Kd.S_far (p:=⟨qv,1,none⟩) (Kd.S_far (p:=⟨qv,0,none⟩) (Kd.S_far (p:=⟨jj,6,none⟩) (Kd.S_types (Kd.S_types Qf.out jt.out (by decide)) qf.out (by decide)) (fun _ hk=>hk.1.2) (.slice Yu zV.length Yp)) (fun _ hk=>hk.2) (.slice QD qG.length QC)) (fun _ hk=>hk.2) (.int .i64 qd)) (fun _ hk=>hk.2) (.int .i64 qj)) (fun _ hk=>hk.2) (.int .i64 qk)) (fun _ hk=>hk.2) (.slice qab jV.length XV)) (fun _ hk=>hk.2) (.slice Xe jS.length Xc)) (fun _ hk=>hk.2) (.slice Yu zV.length Yp)) (fun _ hk=>⟨hk.1.1.1.2,hk.1.1.2⟩),by (with_reducible repeat (first | apply Kd.R_alloc | apply Kd.R_drewN | apply Kd.R_drew)); exact Kd.R_mono (Kd.R_far (p:=⟨qv,6,none⟩) (Kd.R_far (p:=⟨qv,5,none⟩) (Kd.R_far (p:=⟨qv,4,none⟩) (Kd.R_far (p:=⟨qv,3,none⟩) (Kd.R_far (p:=⟨qv,2,none⟩) (Kd.R_far (p:=⟨qv,1,none⟩) (Kd.R_far (p:=⟨qv,0,none⟩) (Kd.R_far (p:=⟨jj,6,none⟩) (Kd.R_types (Kd.R_types QV.out jt.out (by decide)) qf.out (by decide)) (fun _ hk=>hk.1.2) (.slice Yu zV.length Yp)) (fun _ hk=>hk.2) (.slice QD qG.length QC)) (fun _ hk=>hk.2) (.int .i64 qd)) (fun _ hk=>hk.2) (.int .i64 qj)) (fun _ hk=>hk.2) (.int .i64 qk)) (fun _ hk=>hk.2) (.slice qab jV.length XV)) (fun _ hk=>hk.2) (.slice Xe jS.length Xc)) (fun _ hk=>hk.2) (.slice Yu zV.length Yp)) (fun _ hk=>trivial),by (with_reducible repeat (first | apply Kd.R_alloc | apply Kd.R_drewN | apply Kd.R_drew)); exact Kd.R_mono (Kd.R_far (p:=⟨qv,6,none⟩) (Kd.R_far (p:=⟨qv,5,none⟩) (Kd.R_far (p:=⟨qv,4,none⟩) (Kd.R_far (p:=⟨qv,3,none⟩) (Kd.R_far (p:=⟨qv,2,none⟩) (Kd.R_far (p:=⟨qv,1,none⟩) (Kd.R_far (p:=⟨qv,0,none⟩) (Kd.R_far (p:=⟨jj,6,none⟩) (Kd.R_types (Kd.R_types Zy.out jt.out (by decide)) qf.out (by decide)) (fun _ hk=>hk.1.2) (.slice Yu zV.length Yp)) (fun _ hk=>hk.2) (.slice QD qG.length QC)) (fun _ hk=>hk.2) (.int .i64 qd)) (fun _ hk=>hk.2) (.int .i64 qj)) (fun _ hk=>hk.2) (.int .i64 qk)) (fun _ hk=>hk.2) (.slice qab jV.length XV)) (fun _ hk=>hk.2) (.slice Xe jS.length Xc)) (fun _ hk=>hk.2) (.slice Yu zV.length Yp)) (fun _ hk=>trivial),bs⟩

/-! ### yo: function 167 -/
def yo.l0:Nat→List Int→List Int→Int→Option (Bool)
 | 0,_,_,_=>none
 | k+1,x0,x1,x5=>if x5 < (x0.length:Int) then (if 0≤x5 then (if x5 < (x1.length:Int) then (if (rd x0 x5)=(rd x1 x5) then (yo.l0 k x0 x1 (wrap64 (x5+1))) else (some false)) else (none)) else (none)) else (some true)
def yo.f (k:Nat) (l0:List Int) (l1:List Int):Option (Bool):=if (l0.length:Int)=(l1.length:Int) then (yo.l0 k l0 l1 0) else (some false)
set_option maxHeartbeats 8000000 in
set_option maxRecDepth 100000 in
theorem yo.calls (k:Nat) (A0:Option Addr) (c0:Nat) (l0:List Int) (A1:Option Addr) (c1:Nat) (l1:List Int) (r:Bool) (w:World) (hr0:Kd.C (Kd.int .i64) w A0 l0.length l0) (hc0:l0.length≤c0) (hr1:Kd.C (Kd.int .i64) w A1 l1.length l1) (hc1:l1.length≤c1) (h:yo.f k l0 l1=some r) :
  Calls Tryz.prog 167 #[.slice A0 l0.length c0,.slice A1 l1.length c1] w fun e w'=>e=.returned (.bool r)∧Drawn0 w w':=by
 have HR0:=ak hr0;have HC0:=ak hc0;clear hr0 hc0;have HR1:=ak hr1;have HC1:=ak hc1;clear hr1 hc1;have H:(if (l0.length:Int)=(l1.length:Int) then (yo.l0 k l0 l1 0) else (some false))=some r:=h;clear h;replace H:=ie H;obtain ⟨c3b0,c3b1,H⟩ | ⟨c3b0,c3b1,H⟩:=H
 ·have c3b2:(l0.length == l1.length)=true:=lnT c3b0;have H':=ak H;clear H;go_enter Tryz.func167,Tryz.ntmps167;go_wp2;repeat (go_quiet (fail); try go_wp2)
  go_loopg [5] k (fun kq v5 w'=>∃ (qh:Int),v5=.int .i64 qh∧Aside0 (yo.l0 kq l0 l1 qh=some r)∧Aside0 (kq≤k)∧Drawn0 w w')
  case atStart=>exact ⟨(0),o2,H',⟨Nat.le_refl _⟩,od⟩
  case round =>
   clear H';(try clear c1)
   (try clear c3b0)
   (try clear c3b1)
   (try clear c3b2)
   obtain ⟨qh,rfl,HA,HK1,⟨m1,rfl⟩⟩:=hrel;cases gk with
   | zero=>exact absurd HA.out (by simp [yo.l0])
   | succ k1 =>
    have H:=HA.out;clear HA;simp only [yo.l0] at H;replace H:=ip H;obtain ⟨c4b0,H⟩ | ⟨c4b0,H⟩:=H
    ·replace H:=ipN H;obtain ⟨c5b0,H⟩:=H;replace H:=ipN H;obtain ⟨c6b0,H⟩:=H;replace H:=ie H;obtain ⟨c7b0,c7b1,H⟩ | ⟨c7b0,c7b1,H⟩:=H
     ·have H':=ak H;clear H;obtain ⟨qY,rfl,zq,QO,QN⟩:=el0_int HR0 qh;obtain ⟨jx,rfl,zD,JD,JC⟩:=el0_int HR1 qh;go_wp2;repeat (go_quiet (fail); try go_wp2)
      go_roundg k1;case measure=>have:=HK1.out; omega
      case rel=>exact ⟨(wrap64 (qh+1)),o2,H',⟨by have:=HK1.out; omega⟩,od⟩
     ·obtain rfl:=Option.some.inj H;obtain ⟨qY,rfl,zq,QO,QN⟩:=el0_int HR0 qh;obtain ⟨jx,rfl,zD,JD,JC⟩:=el0_int HR1 qh;go_wp2;repeat (go_quiet (fail); try go_wp2)
      go_ret;exact ⟨o2,od⟩
    ·obtain rfl:=Option.some.inj H;go_wp2;repeat (go_quiet (fail); try go_wp2)
     go_ret;exact ⟨o2,od⟩
 ·have c3b2:(l0.length == l1.length)=false:=lnF c3b0;obtain rfl:=Option.some.inj H;go_enter Tryz.func167,Tryz.ntmps167;go_wp2;repeat (go_quiet (fail); try go_wp2)
  go_ret;exact ⟨o2,od⟩

/-! ### QS: function 112 -/
def QS.f (k:Nat) (ql:List (List Int)) (qd:Int) (qj:Int) (qk:Int) (qB:List (List Int)) (qb:List Int) (qc:List Int) (jn:List (List Int)) (yf:Int) (Qt:Int) (yT:Int) (yI:List (List Int)) (zS:List Int) (zW:List Int):Option (Bool):=(zl.f k ql jn).bind fun qX=>(if qX=true then (if qd=yf then (if qj=Qt then (if qk=yT then ((zl.f k qB yI).bind fun qG=>(if qG=true then ((jG.f k qb zS).bind fun qQ=>(if qQ=true then ((yo.f k qc zW).bind fun Jj=>(if Jj=true then (some true) else (some false))) else (some false))) else (some false))) else (some false)) else (some false)) else (some false)) else (some false))
set_option maxHeartbeats 8000000 in
set_option maxRecDepth 100000 in
theorem QS.calls (k:Nat) (jI:Option Addr) (jH:Nat) (ql:List (List Int)) (qd:Int) (qj:Int) (qk:Int) (zO:Option Addr) (zM:Nat) (qB:List (List Int)) (jl:Option Addr) (qU:Nat) (qb:List Int) (qS:Option Addr) (qR:Nat) (qc:List Int) (Zi:Option Addr) (Zb:Nat) (jn:List (List Int)) (yf:Int) (Qt:Int) (yT:Int) (qac:Option Addr) (XW:Nat) (yI:List (List Int)) (YY:Option Addr) (YS:Nat) (zS:List Int) (YX:Option Addr) (YR:Nat) (zW:List Int) (r:Bool) (w:World) (jM:Kd.C (Kd.slice 5 (Kd.int .u8)) w jI ql.length ql) (jT:ql.length≤jH) (yk:Kd.C (Kd.slice 5 (Kd.int .u8)) w zO qB.length qB) (yl:qB.length≤zM) (jJ:Kd.C (Kd.int .u8) w jl qb.length qb) (jK:qb.length≤qU) (jP:Kd.C (Kd.int .i64) w qS qc.length qc) (jQ:qc.length≤qR) (JL:Kd.C (Kd.slice 5 (Kd.int .u8)) w Zi jn.length jn) (Zh:jn.length≤Zb) (Xs:Kd.C (Kd.slice 5 (Kd.int .u8)) w qac yI.length yI) (Xx:yI.length≤XW) (YF:Kd.C (Kd.int .u8) w YY zS.length zS) (YH:zS.length≤YS) (YE:Kd.C (Kd.int .i64) w YX zW.length zW) (YG:zW.length≤YR) (h:QS.f k ql qd qj qk qB qb qc jn yf Qt yT yI zS zW=some r) :
  Calls Tryz.prog 112 #[.agg #[.slice jI ql.length jH,.int .i64 qd,.int .i64 qj,.int .i64 qk,.slice zO qB.length zM,.slice jl qb.length qU,.slice qS qc.length qR],.agg #[.slice Zi jn.length Zb,.int .i64 yf,.int .i64 Qt,.int .i64 yT,.slice qac yI.length XW,.slice YY zS.length YS,.slice YX zW.length YR]] w fun e w'=>e=.returned (.bool r)∧Below w.heap.size w w':=by
 have Zg:=Tryz.underlying105;have Zn:=Tryz.underlying65;have jk:=ak jM;have jo:=ak jT;clear jM jT;have yb:=ak yk;have yc:=ak yl;clear yk yl;have jg:=ak jJ;have jL:=ak jK;clear jJ jK;have jd:=ak jP;have jy:=ak jQ;clear jP jQ;have Jc:=ak JL;have Jd:=ak Zh;clear JL Zh;have YL:=ak Xs;have YM:=ak Xx;clear Xs Xx;have JX:=ak YF;have JY:=ak YH;clear YF YH;have Zx:=ak YE;have Zz:=ak YG;clear YE YG;have HB:=ak (Below.refl w.heap.size w);have H:((zl.f k ql jn).bind fun qX=>(if qX=true then (if qd=yf then (if qj=Qt then (if qk=yT then ((zl.f k qB yI).bind fun qG=>(if qG=true then ((jG.f k qb zS).bind fun qQ=>(if qQ=true then ((yo.f k qc zW).bind fun Jj=>(if Jj=true then (some true) else (some false))) else (some false))) else (some false))) else (some false)) else (some false)) else (some false)) else (some false)))=some r:=h;clear h;replace H:=bnd H;obtain ⟨qX,A3,H⟩:=H;replace H:=ib H;obtain ⟨rfl,H⟩ | ⟨rfl,H⟩:=H
 ·replace H:=ie H;obtain ⟨c5b0,c5b1,H⟩ | ⟨c5b0,c5b1,H⟩:=H
  ·replace H:=ie H;obtain ⟨c6b0,c6b1,H⟩ | ⟨c6b0,c6b1,H⟩:=H
   ·replace H:=ie H;obtain ⟨c7b0,c7b1,H⟩ | ⟨c7b0,c7b1,H⟩:=H
    ·replace H:=bnd H;obtain ⟨qG,A8,H⟩:=H;replace H:=ib H;obtain ⟨rfl,H⟩ | ⟨rfl,H⟩:=H
     ·replace H:=bnd H;obtain ⟨qQ,A10,H⟩:=H;replace H:=ib H;obtain ⟨rfl,H⟩ | ⟨rfl,H⟩:=H
      ·replace H:=bnd H;obtain ⟨Jj,A12,H⟩:=H;replace H:=ib H;obtain ⟨rfl,H⟩ | ⟨rfl,H⟩:=H
       ·obtain rfl:=Option.some.inj H;go_enter Tryz.func112,Tryz.ntmps112;go_wp2_with (first | ((with_reducible refine gate_dst (N:=2) rfl ?_);refine bxd (N:=2) rfl HB ?_;clear HB;intro qe w14 hg HB qa qy hb;have qI:=qy;clear hb hg) | ((with_reducible refine gate_dst (N:=3) rfl ?_);refine bxe (N:=3) rfl ?_;intro qv hg w15 hbox hb;have qf:=ak (hbox);have ju:=b3s hg bs;have yq:=ju;replace HB:=b2s bs hb;have qt:=b4 hg qa;have qz:=b5 hg qa;replace qa:=b1 qa hb;clear hb hbox hg;have ql1:=qt.out;have qlY:=qz.out;obtain ⟨_,_,_,_,_,_,_,_,_,_,_,_,_,_⟩:=cells7 qa.out;obtain ⟨_,_,_,_,_,_,_,_,_,_,_,_,_,_⟩:=cells7 qf.out) | ((with_reducible refine gate_callee (f:=91) rfl ?_);refine glB 9 rfl rfl Tryz.func91 (zl.calls k _ _ ql _ _ jn true _ (cv jk HB) jo.out (cv Jc HB) Jd.out A3.out) (fun w19 hb=>?_);replace qa:=b1 qa hb;replace qf:=b1 qf hb;replace HB:=b2s bs hb;(try clear hb);obtain ⟨_,_,_,_,_,_,_,_,_,_,_,_,_,_⟩:=cells7 qa.out;obtain ⟨_,_,_,_,_,_,_,_,_,_,_,_,_,_⟩:=cells7 qf.out) | ((with_reducible refine gate_callee (f:=91) rfl ?_);refine glB 30 rfl rfl Tryz.func91 (zl.calls k _ _ qB _ _ yI true _ (cv yb HB) yc.out (cv YL HB) YM.out A8.out) (fun w22 hb=>?_);replace qa:=b1 qa hb;replace qf:=b1 qf hb;replace HB:=b2s bs hb;(try clear hb);obtain ⟨_,_,_,_,_,_,_,_,_,_,_,_,_,_⟩:=cells7 qa.out;obtain ⟨_,_,_,_,_,_,_,_,_,_,_,_,_,_⟩:=cells7 qf.out) | ((with_reducible refine gate_callee (f:=17) rfl ?_);refine glD 36 rfl rfl Tryz.func17 (jG.calls k _ _ qb _ _ zS true _ (cv jg HB) jL.out (cv JX HB) JY.out A10.out) (fun nd=>?_)) | ((with_reducible refine gate_callee (f:=167) rfl ?_);refine glD 42 rfl rfl Tryz.func167 (yo.calls k _ _ qc _ _ zW true _ ?jz jy.out ?yX Zz.out A12.out) (fun nd=>?_);(case jz=>repeat (first | exact (Kd.C_below jd.out bs) | (with_reducible refine Kd.C_alloc ?_ _) | (with_reducible refine Kd.C_drewN ?_ _) | (with_reducible refine Kd.C_drew ?_)));(case yX=>repeat (first | exact (Kd.C_below Zx.out bs) | (with_reducible refine Kd.C_alloc ?_ _) | (with_reducible refine Kd.C_drewN ?_ _) | (with_reducible refine Kd.C_drew ?_)))));go_ret;exact ⟨o1,bs⟩
       ·obtain rfl:=Option.some.inj H;go_enter Tryz.func112,Tryz.ntmps112;go_wp2_with (first | ((with_reducible refine gate_dst (N:=2) rfl ?_);refine bxd (N:=2) rfl HB ?_;clear HB;intro qe w25 hg HB qa qy hb;have qI:=qy;clear hb hg) | ((with_reducible refine gate_dst (N:=3) rfl ?_);refine bxe (N:=3) rfl ?_;intro qv hg w26 hbox hb;have qf:=ak (hbox);have ju:=b3s hg bs;have yq:=ju;replace HB:=b2s bs hb;have qt:=b4 hg qa;have qz:=b5 hg qa;replace qa:=b1 qa hb;clear hb hbox hg;have ql0:=qt.out;have qlX:=qz.out;obtain ⟨_,_,_,_,_,_,_,_,_,_,_,_,_,_⟩:=cells7 qa.out;obtain ⟨_,_,_,_,_,_,_,_,_,_,_,_,_,_⟩:=cells7 qf.out) | ((with_reducible refine gate_callee (f:=91) rfl ?_);refine glB 9 rfl rfl Tryz.func91 (zl.calls k _ _ ql _ _ jn true _ (cv jk HB) jo.out (cv Jc HB) Jd.out A3.out) (fun w30 hb=>?_);replace qa:=b1 qa hb;replace qf:=b1 qf hb;replace HB:=b2s bs hb;(try clear hb);obtain ⟨_,_,_,_,_,_,_,_,_,_,_,_,_,_⟩:=cells7 qa.out;obtain ⟨_,_,_,_,_,_,_,_,_,_,_,_,_,_⟩:=cells7 qf.out) | ((with_reducible refine gate_callee (f:=91) rfl ?_);refine glB 30 rfl rfl Tryz.func91 (zl.calls k _ _ qB _ _ yI true _ (cv yb HB) yc.out (cv YL HB) YM.out A8.out) (fun w33 hb=>?_);replace qa:=b1 qa hb;replace qf:=b1 qf hb;replace HB:=b2s bs hb;(try clear hb);obtain ⟨_,_,_,_,_,_,_,_,_,_,_,_,_,_⟩:=cells7 qa.out;obtain ⟨_,_,_,_,_,_,_,_,_,_,_,_,_,_⟩:=cells7 qf.out) | ((with_reducible refine gate_callee (f:=17) rfl ?_);refine glD 36 rfl rfl Tryz.func17 (jG.calls k _ _ qb _ _ zS true _ (cv jg HB) jL.out (cv JX HB) JY.out A10.out) (fun nd=>?_)) | ((with_reducible refine gate_callee (f:=167) rfl ?_);refine glD 42 rfl rfl Tryz.func167 (yo.calls k _ _ qc _ _ zW false _ ?jz jy.out ?yX Zz.out A12.out) (fun nd=>?_);(case jz=>repeat (first | exact (Kd.C_below jd.out bs) | (with_reducible refine Kd.C_alloc ?_ _) | (with_reducible refine Kd.C_drewN ?_ _) | (with_reducible refine Kd.C_drew ?_)));(case yX=>repeat (first | exact (Kd.C_below Zx.out bs) | (with_reducible refine Kd.C_alloc ?_ _) | (with_reducible refine Kd.C_drewN ?_ _) | (with_reducible refine Kd.C_drew ?_)))));go_ret;exact ⟨o1,bs⟩
      ·obtain rfl:=Option.some.inj H;go_enter Tryz.func112,Tryz.ntmps112;go_wp2_with (first | ((with_reducible refine gate_dst (N:=2) rfl ?_);refine bxd (N:=2) rfl HB ?_;clear HB;intro qe w36 hg HB qa qy hb;have qI:=qy;clear hb hg) | ((with_reducible refine gate_dst (N:=3) rfl ?_);refine bxe (N:=3) rfl ?_;intro qv hg w37 hbox hb;have qf:=ak (hbox);have ju:=b3s hg bs;have yq:=ju;replace HB:=b2s bs hb;have qt:=b4 hg qa;have qz:=b5 hg qa;replace qa:=b1 qa hb;clear hb hbox hg;have qq4:=qt.out;have qqx:=qz.out;obtain ⟨_,_,_,_,_,_,_,_,_,_,_,_,_,_⟩:=cells7 qa.out;obtain ⟨_,_,_,_,_,_,_,_,_,_,_,_,_,_⟩:=cells7 qf.out) | ((with_reducible refine gate_callee (f:=91) rfl ?_);refine glB 9 rfl rfl Tryz.func91 (zl.calls k _ _ ql _ _ jn true _ (cv jk HB) jo.out (cv Jc HB) Jd.out A3.out) (fun w41 hb=>?_);replace qa:=b1 qa hb;replace qf:=b1 qf hb;replace HB:=b2s bs hb;(try clear hb);obtain ⟨_,_,_,_,_,_,_,_,_,_,_,_,_,_⟩:=cells7 qa.out;obtain ⟨_,_,_,_,_,_,_,_,_,_,_,_,_,_⟩:=cells7 qf.out) | ((with_reducible refine gate_callee (f:=91) rfl ?_);refine glB 30 rfl rfl Tryz.func91 (zl.calls k _ _ qB _ _ yI true _ (cv yb HB) yc.out (cv YL HB) YM.out A8.out) (fun w44 hb=>?_);replace qa:=b1 qa hb;replace qf:=b1 qf hb;replace HB:=b2s bs hb;(try clear hb);obtain ⟨_,_,_,_,_,_,_,_,_,_,_,_,_,_⟩:=cells7 qa.out;obtain ⟨_,_,_,_,_,_,_,_,_,_,_,_,_,_⟩:=cells7 qf.out) | ((with_reducible refine gate_callee (f:=17) rfl ?_);refine glD 36 rfl rfl Tryz.func17 (jG.calls k _ _ qb _ _ zS false _ (cv jg HB) jL.out (cv JX HB) JY.out A10.out) (fun nd=>?_)));go_ret;exact ⟨o1,bs⟩
     ·obtain rfl:=Option.some.inj H;go_enter Tryz.func112,Tryz.ntmps112;go_wp2_with (first | ((with_reducible refine gate_dst (N:=2) rfl ?_);refine bxd (N:=2) rfl HB ?_;clear HB;intro qe w47 hg HB qa qy hb;have qI:=qy;clear hb hg) | ((with_reducible refine gate_dst (N:=3) rfl ?_);refine bxe (N:=3) rfl ?_;intro qv hg w48 hbox hb;have qf:=ak (hbox);have ju:=b3s hg bs;have yq:=ju;replace HB:=b2s bs hb;have qt:=b4 hg qa;have qz:=b5 hg qa;replace qa:=b1 qa hb;clear hb hbox hg;have qqZ:=qt.out;have qqs:=qz.out;obtain ⟨_,_,_,_,_,_,_,_,_,_,_,_,_,_⟩:=cells7 qa.out;obtain ⟨_,_,_,_,_,_,_,_,_,_,_,_,_,_⟩:=cells7 qf.out) | ((with_reducible refine gate_callee (f:=91) rfl ?_);refine glB 9 rfl rfl Tryz.func91 (zl.calls k _ _ ql _ _ jn true _ (cv jk HB) jo.out (cv Jc HB) Jd.out A3.out) (fun w52 hb=>?_);replace qa:=b1 qa hb;replace qf:=b1 qf hb;replace HB:=b2s bs hb;(try clear hb);obtain ⟨_,_,_,_,_,_,_,_,_,_,_,_,_,_⟩:=cells7 qa.out;obtain ⟨_,_,_,_,_,_,_,_,_,_,_,_,_,_⟩:=cells7 qf.out) | ((with_reducible refine gate_callee (f:=91) rfl ?_);refine glB 30 rfl rfl Tryz.func91 (zl.calls k _ _ qB _ _ yI false _ (cv yb HB) yc.out (cv YL HB) YM.out A8.out) (fun w55 hb=>?_);replace qa:=b1 qa hb;replace qf:=b1 qf hb;replace HB:=b2s bs hb;(try clear hb)));go_ret;exact ⟨o1,bs⟩
    ·obtain rfl:=Option.some.inj H;go_enter Tryz.func112,Tryz.ntmps112;go_wp2_with (first | ((with_reducible refine gate_dst (N:=2) rfl ?_);refine bxd (N:=2) rfl HB ?_;clear HB;intro qe w56 hg HB qa qy hb;have qI:=qy;clear hb hg) | ((with_reducible refine gate_dst (N:=3) rfl ?_);refine bxe (N:=3) rfl ?_;intro qv hg w57 hbox hb;have qf:=ak (hbox);have ju:=b3s hg bs;have yq:=ju;replace HB:=b2s bs hb;have qt:=b4 hg qa;have qz:=b5 hg qa;replace qa:=b1 qa hb;clear hb hbox hg;have qqU:=qt.out;have qqn:=qz.out;obtain ⟨_,_,_,_,_,_,_,_,_,_,_,_,_,_⟩:=cells7 qa.out;obtain ⟨_,_,_,_,_,_,_,_,_,_,_,_,_,_⟩:=cells7 qf.out) | ((with_reducible refine gate_callee (f:=91) rfl ?_);refine glB 9 rfl rfl Tryz.func91 (zl.calls k _ _ ql _ _ jn true _ (cv jk HB) jo.out (cv Jc HB) Jd.out A3.out) (fun w61 hb=>?_);replace qa:=b1 qa hb;replace qf:=b1 qf hb;replace HB:=b2s bs hb;(try clear hb);obtain ⟨_,_,_,_,_,_,_,_,_,_,_,_,_,_⟩:=cells7 qa.out;obtain ⟨_,_,_,_,_,_,_,_,_,_,_,_,_,_⟩:=cells7 qf.out));go_ret;exact ⟨o1,bs⟩
   ·obtain rfl:=Option.some.inj H;go_enter Tryz.func112,Tryz.ntmps112;go_wp2_with (first | ((with_reducible refine gate_dst (N:=2) rfl ?_);refine bxd (N:=2) rfl HB ?_;clear HB;intro qe w64 hg HB qa qy hb;have qI:=qy;clear hb hg) | ((with_reducible refine gate_dst (N:=3) rfl ?_);refine bxe (N:=3) rfl ?_;intro qv hg w65 hbox hb;have qf:=ak (hbox);have ju:=b3s hg bs;have yq:=ju;replace HB:=b2s bs hb;have qt:=b4 hg qa;have qz:=b5 hg qa;replace qa:=b1 qa hb;clear hb hbox hg;have qqQ:=qt.out;have qqj:=qz.out;obtain ⟨_,_,_,_,_,_,_,_,_,_,_,_,_,_⟩:=cells7 qa.out;obtain ⟨_,_,_,_,_,_,_,_,_,_,_,_,_,_⟩:=cells7 qf.out) | ((with_reducible refine gate_callee (f:=91) rfl ?_);refine glB 9 rfl rfl Tryz.func91 (zl.calls k _ _ ql _ _ jn true _ (cv jk HB) jo.out (cv Jc HB) Jd.out A3.out) (fun w69 hb=>?_);replace qa:=b1 qa hb;replace qf:=b1 qf hb;replace HB:=b2s bs hb;(try clear hb);obtain ⟨_,_,_,_,_,_,_,_,_,_,_,_,_,_⟩:=cells7 qa.out;obtain ⟨_,_,_,_,_,_,_,_,_,_,_,_,_,_⟩:=cells7 qf.out));go_ret;exact ⟨o1,bs⟩
  ·obtain rfl:=Option.some.inj H;go_enter Tryz.func112,Tryz.ntmps112;go_wp2_with (first | ((with_reducible refine gate_dst (N:=2) rfl ?_);refine bxd (N:=2) rfl HB ?_;clear HB;intro qe w72 hg HB qa qy hb;have qI:=qy;clear hb hg) | ((with_reducible refine gate_dst (N:=3) rfl ?_);refine bxe (N:=3) rfl ?_;intro qv hg w73 hbox hb;have qf:=ak (hbox);have ju:=b3s hg bs;have yq:=ju;replace HB:=b2s bs hb;have qt:=b4 hg qa;have qz:=b5 hg qa;replace qa:=b1 qa hb;clear hb hbox hg;have qlZ:=qt.out;have qlW:=qz.out;obtain ⟨_,_,_,_,_,_,_,_,_,_,_,_,_,_⟩:=cells7 qa.out;obtain ⟨_,_,_,_,_,_,_,_,_,_,_,_,_,_⟩:=cells7 qf.out) | ((with_reducible refine gate_callee (f:=91) rfl ?_);refine glB 9 rfl rfl Tryz.func91 (zl.calls k _ _ ql _ _ jn true _ (cv jk HB) jo.out (cv Jc HB) Jd.out A3.out) (fun w77 hb=>?_);replace qa:=b1 qa hb;replace qf:=b1 qf hb;replace HB:=b2s bs hb;(try clear hb);obtain ⟨_,_,_,_,_,_,_,_,_,_,_,_,_,_⟩:=cells7 qa.out;obtain ⟨_,_,_,_,_,_,_,_,_,_,_,_,_,_⟩:=cells7 qf.out));go_ret;exact ⟨o1,bs⟩
 ·obtain rfl:=Option.some.inj H;go_enter Tryz.func112,Tryz.ntmps112;go_wp2_with (first | ((with_reducible refine gate_dst (N:=2) rfl ?_);refine bxd (N:=2) rfl HB ?_;clear HB;intro qe w80 hg HB qa qy hb;have qI:=qy;clear hb hg) | ((with_reducible refine gate_dst (N:=3) rfl ?_);refine bxe (N:=3) rfl ?_;intro qv hg w81 hbox hb;have qf:=ak (hbox);have ju:=b3s hg bs;have yq:=ju;replace HB:=b2s bs hb;have qt:=b4 hg qa;have qz:=b5 hg qa;replace qa:=b1 qa hb;clear hb hbox hg;have qqL:=qt.out;have qqe:=qz.out;obtain ⟨_,_,_,_,_,_,_,_,_,_,_,_,_,_⟩:=cells7 qa.out;obtain ⟨_,_,_,_,_,_,_,_,_,_,_,_,_,_⟩:=cells7 qf.out) | ((with_reducible refine gate_callee (f:=91) rfl ?_);refine glB 9 rfl rfl Tryz.func91 (zl.calls k _ _ ql _ _ jn false _ (cv jk HB) jo.out (cv Jc HB) Jd.out A3.out) (fun w85 hb=>?_);replace qa:=b1 qa hb;replace qf:=b1 qf hb;replace HB:=b2s bs hb;(try clear hb)));go_ret;exact ⟨o1,bs⟩

/-! ### zI: function 44 -/
def zI.f (a0:Int) (a1:Int) (a2:Int):Option (Bool):=if a1≤a0 then (some (decide (a0≤a2))) else (some false)
set_option maxHeartbeats 8000000 in
set_option maxRecDepth 100000 in
theorem zI.calls (a0:Int) (a1:Int) (a2:Int) (r:Bool) (w:World) (h:zI.f a0 a1 a2=some r) :
  Calls Tryz.prog 44 #[.int .i64 a0,.int .i64 a1,.int .i64 a2] w fun e w'=>e=.returned (.bool r)∧Drawn0 w w':=by
 have H:(if a1≤a0 then (some (decide (a0≤a2))) else (some false))=some r:=h;clear h;replace H:=ip H;obtain ⟨c4b0,H⟩ | ⟨c4b0,H⟩:=H
 ·obtain rfl:=Option.some.inj H;go_enter Tryz.func44,Tryz.ntmps44;go_wp2;go_ret;exact ⟨o2,od⟩
 ·obtain rfl:=Option.some.inj H;go_enter Tryz.func44,Tryz.ntmps44;go_wp2;go_ret;exact ⟨o2,od⟩

/-! ### za: function 208 -/

def za.v (t:Int):ByteArray:=if t=1 then ⟨#[65]⟩ else if t=2 then ⟨#[78,83]⟩ else if t=5 then ⟨#[67,78,65,77,69]⟩ else if t=6 then ⟨#[83,79,65]⟩ else if t=12 then ⟨#[80,84,82]⟩ else if t=16 then ⟨#[84,88,84]⟩ else if t=49 then ⟨#[68,72,67,73,68]⟩ else ⟨#[]⟩
def za.f (t:Int):Option ByteArray:=if -9223372036854775808≤t∧t≤9223372036854775807 then some (za.v t) else none
theorem za.inv {e:TypeId} (he:Tryz.prog.underlying e=some .string) {v:Value} {z:DataW Unit × List MemPlace} (h:plainElem Tryz.prog e v=some z):∃ s:ByteArray,v=.string s∧z=(.lit (.string s.data.toList),[])∧s.size≤maxLen:=by
 unfold plainElem at h;rw [he] at h;cases v <;> simp at h
 exact ⟨_,rfl,h.2.symm,h.1⟩
theorem za.ne {a b:Int} (h:¬ a=b):(Lit.int .i64 a)≠Lit.int .i64 b:=fun e=>h (by injection e)
set_option maxHeartbeats 8000000 in
set_option maxRecDepth 100000 in
theorem za.calls (a0:Int) (r:ByteArray) (w:World) (h:za.f a0=some r) :
  Calls Tryz.prog 208 #[.int .i64 a0] w fun e w'=>e=.returned (.string r)∧Below w.heap.size w w':=by
 have hw:(Lit.int .i64 a0).wf=true:=by
  unfold za.f at h; split at h
  ·exact WalkArith.wf_i64 (by assumption)
  ·cases h
 have hr:za.v a0=r:=by
  unfold za.f at h; split at h
  ·exact Option.some.inj h
  ·cases h
 clear h;have law:Go.Maps.Keyed Tryz.prog 3:=Go.Maps.int_keyed Tryz.underlying3;have um:=Tryz.underlying214;have us:=Tryz.underlying9;have key:∀ n:Int,(Lit.int .i64 n).wf=true→keyOf Tryz.prog 3 (.int .i64 n)=some (.int .i64 n):=fun n hn=>Go.Maps.keyOf_int_mk Tryz.underlying3 hn
 have el:∀ s:ByteArray,s.size≤maxLen→plainElem (H:=Unit) Tryz.prog 9 (.string s)=some (.lit (.string s.data.toList),[]):=fun s hs=>plainElem_string us hs
 have o0:=World.ownsMap_made (H:=Unit) w Tryz.prog 3 (plainElem Tryz.prog 9);obtain ⟨w1,r1,o1,g1⟩:=o0.update law um (by unfold maxLen; omega) (key 1 (by decide)) (el ⟨#[65]⟩ (by decide));obtain ⟨w2,r2,o2,g2⟩:=o1.update law um (by unfold maxLen; omega) (key 2 (by decide)) (el ⟨#[78,83]⟩ (by decide));obtain ⟨w3,r3,o3,g3⟩:=o2.update law um (by unfold maxLen; omega) (key 5 (by decide)) (el ⟨#[67,78,65,77,69]⟩ (by decide));obtain ⟨w4,r4,o4,g4⟩:=o3.update law um (by unfold maxLen; omega) (key 6 (by decide)) (el ⟨#[83,79,65]⟩ (by decide));obtain ⟨w5,r5,o5,g5⟩:=o4.update law um (by unfold maxLen; omega) (key 12 (by decide)) (el ⟨#[80,84,82]⟩ (by decide));obtain ⟨w6,r6,o6,g6⟩:=o5.update law um (by unfold maxLen; omega) (key 16 (by decide)) (el ⟨#[84,88,84]⟩ (by decide));obtain ⟨w7,r7,o7,g7⟩:=o6.update law um (by unfold maxLen; omega) (key 49 (by decide)) (el ⟨#[68,72,67,73,68]⟩ (by decide));obtain ⟨v,ps,rl,hv⟩:=o7.lookup law um (z:=.string ⟨#[]⟩) (by kernel_rfl) (el ⟨#[]⟩ (by decide)) (key a0 hw);obtain ⟨s,rfl,hs,_⟩:=za.inv us hv
 have hB:Below w.heap.size w w7:=by
  have b0:=below_alloc (Below.refl w.heap.size w) (.map #[] 0);refine Below.grown (Below.grown (Below.grown (Below.grown (Below.grown (Below.grown (Below.grown b0 g1 ?_ ?_) g2 ?_ ?_) g3 ?_ ?_) g4 ?_ ?_) g5 ?_ ?_) g6 ?_ ?_) g7 ?_ ?_
  all_goals first
   | (intro j hj; cases hj; exact Nat.le_refl _)
   | (have:=b0.size; have:=g1.size; have:=g2.size; have:=g3.size; have:=g4.size; have:=g5.size; have:=g6.size; omega)
 have e:s=za.v a0:=by
  simp only [Prod.mk.injEq] at hs;have hat:=hs.1
  have fin:∀ {l:ByteArray},(DataW.lit (.string l.data.toList):DataW Unit)=.lit (.string s.data.toList)→s=l:=fun {l} he=>by
   simp at he
   cases s; cases l; simp at he; rw [he]
  have im:∀ {D:DataW Unit} {k d},Go.Maps.IsMap D→Go.Maps.IsMap (D.put k d):=fun {D k d} ⟨es,he⟩=>by subst he; exact ⟨_,rfl⟩
  have i0:Go.Maps.IsMap (DataW.map []:DataW Unit):=⟨_,rfl⟩;unfold za.v;by_cases h7:a0=49
  ·subst h7;rw [Go.Maps.atKey_put_same (im (im (im (im (im (im i0)))))) (by trivial)] at hat;exact fin hat
  rw [Go.Maps.atKey_put_other (za.ne h7)] at hat;by_cases h6:a0=16
  ·subst h6;rw [Go.Maps.atKey_put_same (im (im (im (im (im i0))))) (by trivial)] at hat;exact fin hat
  rw [Go.Maps.atKey_put_other (za.ne h6)] at hat;by_cases h5:a0=12
  ·subst h5;rw [Go.Maps.atKey_put_same (im (im (im (im i0)))) (by trivial)] at hat;exact fin hat
  rw [Go.Maps.atKey_put_other (za.ne h5)] at hat;by_cases h4:a0=6
  ·subst h4;rw [Go.Maps.atKey_put_same (im (im (im i0))) (by trivial)] at hat;exact fin hat
  rw [Go.Maps.atKey_put_other (za.ne h4)] at hat;by_cases h3:a0=5
  ·subst h3;rw [Go.Maps.atKey_put_same (im (im i0)) (by trivial)] at hat;exact fin hat
  rw [Go.Maps.atKey_put_other (za.ne h3)] at hat;by_cases h2:a0=2
  ·subst h2;rw [Go.Maps.atKey_put_same (im i0) (by trivial)] at hat;exact fin hat
  rw [Go.Maps.atKey_put_other (za.ne h2)] at hat;by_cases h1:a0=1
  ·subst h1;rw [Go.Maps.atKey_put_same i0 (by trivial)] at hat;exact fin hat
  rw [Go.Maps.atKey_put_other (za.ne h1)] at hat;rw [if_neg h1,if_neg h2,if_neg h3,if_neg h4,if_neg h5,if_neg h6,if_neg h7];exact fin hat
 have HB:=ak hB;subst e;clear o0 o1 o2 o3 o4 o5 o6 o7 g1 g2 g3 g4 g5 g6 g7 hB hs hv key el law hw;subst hr;generalize za.v a0=s at rl ⊢;have hmm:=@run_makeMap Tryz.prog;go_enter Tryz.func208,Tryz.ntmps208;go_wp2;go_ret;exact ⟨rfl,HB.out⟩

/-! ### Qy: function 178 -/

def Qy.f (a0:Int):Option Bool:=(za.f a0).bind fun t=>some (!t.toList.isEmpty)
set_option maxHeartbeats 8000000 in
set_option maxRecDepth 100000 in
theorem Qy.calls (a0:Int) (r:Bool) (w:World) (h:Qy.f a0=some r) :
  Calls Tryz.prog 178 #[.int .i64 a0] w fun e w'=>e=.returned (.bool r)∧Below w.heap.size w w':=by
 obtain ⟨s,hs,hr⟩:=Option.bind_eq_some_iff.mp h;have hr:=Option.some.inj hr;subst hr;have HC:=ak hs;clear h hs;go_enter Tryz.func178,Tryz.ntmps178;go_wp2_with (go_at_call 208; refine (za.calls a0 s _ HC.out).mono ?_; rintro e w' ⟨rfl,hb⟩);go_ret;exact ⟨by first | rfl | simp,hb⟩

/-! ### Js: function 179 -/
def Js.f (a0:Int):Option (Bool):=if a0=2 then (some true) else (if a0=5 then (some true) else (if a0=6 then (some true) else (some (a0 == 12))))
set_option maxHeartbeats 8000000 in
set_option maxRecDepth 100000 in
theorem Js.calls (a0:Int) (r:Bool) (w:World) (h:Js.f a0=some r) :
  Calls Tryz.prog 179 #[.int .i64 a0] w fun e w'=>e=.returned (.bool r)∧Drawn0 w w':=by
 have H:(if a0=2 then (some true) else (if a0=5 then (some true) else (if a0=6 then (some true) else (some (a0 == 12)))))=some r:=h;clear h;replace H:=ie H;obtain ⟨c2b0,c2b1,H⟩ | ⟨c2b0,c2b1,H⟩:=H
 ·obtain rfl:=Option.some.inj H;go_enter Tryz.func179,Tryz.ntmps179;go_wp2;go_ret;exact ⟨o2,od⟩
 ·replace H:=ie H;obtain ⟨c3b0,c3b1,H⟩ | ⟨c3b0,c3b1,H⟩:=H
  ·obtain rfl:=Option.some.inj H;go_enter Tryz.func179,Tryz.ntmps179;go_wp2;go_ret;exact ⟨o2,od⟩
  ·replace H:=ie H;obtain ⟨c4b0,c4b1,H⟩ | ⟨c4b0,c4b1,H⟩:=H
   ·obtain rfl:=Option.some.inj H;go_enter Tryz.func179,Tryz.ntmps179;go_wp2;go_ret;exact ⟨o2,od⟩
   ·obtain rfl:=Option.some.inj H;go_enter Tryz.func179,Tryz.ntmps179;go_wp2;go_ret;exact ⟨o2,od⟩

/-! ### Jp: function 180 -/
def Jp.f (a0:Int):Option (Bool):=(zI.f a0 0 4294967295).bind fun yU=>(some yU)
set_option maxHeartbeats 8000000 in
set_option maxRecDepth 100000 in
theorem Jp.calls (a0:Int) (r:Bool) (w:World) (h:Jp.f a0=some r) :
  Calls Tryz.prog 180 #[.int .i64 a0] w fun e w'=>e=.returned (.bool r)∧Drawn0 w w':=by
 have H:((zI.f a0 0 4294967295).bind fun yU=>(some yU))=some r:=h;clear h;replace H:=bnd H;obtain ⟨yU,A2,H⟩:=H;obtain rfl:=Option.some.inj H;go_enter Tryz.func180,Tryz.ntmps180;go_wp2_with (((with_reducible refine gate_callee (f:=44) rfl ?_);refine glD 4 rfl rfl Tryz.func44 (zI.calls a0 0 4294967295 yU _ A2.out) (fun nd=>?_)));go_ret;exact ⟨o2,od⟩

/-! ### Qi: function 181 -/
def Qi.f (a0:Int):Option (Bool):=if a0=16 then (some true) else (some (a0 == 49))
set_option maxHeartbeats 8000000 in
set_option maxRecDepth 100000 in
theorem Qi.calls (a0:Int) (r:Bool) (w:World) (h:Qi.f a0=some r) :
  Calls Tryz.prog 181 #[.int .i64 a0] w fun e w'=>e=.returned (.bool r)∧Drawn0 w w':=by
 have H:(if a0=16 then (some true) else (some (a0 == 49)))=some r:=h;clear h;replace H:=ie H;obtain ⟨c2b0,c2b1,H⟩ | ⟨c2b0,c2b1,H⟩:=H
 ·obtain rfl:=Option.some.inj H;go_enter Tryz.func181,Tryz.ntmps181;go_wp2;go_ret;exact ⟨o2,od⟩
 ·obtain rfl:=Option.some.inj H;go_enter Tryz.func181,Tryz.ntmps181;go_wp2;go_ret;exact ⟨o2,od⟩

/-! ### qZ: function 132 -/
mutual
def qZ.j0:Nat→Bool→List (List Int)→Int→Int→Int→List (List Int)→List Int→List Int→Option (Bool)
 | 0,_,_,_,_,_,_,_,_=>none
 | k+1,x22,jc,jb,je,ji,jh,qT,qM=>if x22=true then (some false) else (if jb=6 then (if (qM.length:Int)=2 then (if 0 < (qM.length:Int) then ((Jp.f (rd qM 0)).bind fun Jj=>(if Jj=true then (if 1 < (qM.length:Int) then ((zI.f (rd qM 1) 0 100000).bind fun jw=>(qZ.j1 k jw jc jb je ji jh qT qM)) else (none)) else (qZ.j1 k false jc jb je ji jh qT qM))) else (none)) else (qZ.j1 k false jc jb je ji jh qT qM)) else (qZ.j1 k ((qM.length:Int) == 0) jc jb je ji jh qT qM))
def qZ.j1:Nat→Bool→List (List Int)→Int→Int→Int→List (List Int)→List Int→List Int→Option (Bool)
 | 0,_,_,_,_,_,_,_,_=>none
 | k+1,x3,jc,jb,je,ji,jh,qT,qM=>if ji=0 then (qZ.j2 k x3 true jc jb je ji jh qT qM) else (if jb=1 then ((Jp.f ji).bind fun zL=>(qZ.j2 k x3 zL jc jb je ji jh qT qM)) else (qZ.j2 k x3 false jc jb je ji jh qT qM))
def qZ.j2:Nat→Bool→Bool→List (List Int)→Int→Int→Int→List (List Int)→List Int→List Int→Option (Bool)
 | 0,_,_,_,_,_,_,_,_,_=>none
 | k+1,x3,x4,jc,jb,je,ji,jh,qT,qM=>if (jh.length:Int)=0 then (qZ.j3 k x3 x4 true jc jb je ji jh qT qM) else ((Js.f jb).bind fun jS=>(if jS=true then ((qE.f jh).bind fun zE=>(qZ.j3 k x3 x4 zE jc jb je ji jh qT qM)) else (qZ.j3 k x3 x4 false jc jb je ji jh qT qM)))
def qZ.j3:Nat→Bool→Bool→Bool→List (List Int)→Int→Int→Int→List (List Int)→List Int→List Int→Option (Bool)
 | 0,_,_,_,_,_,_,_,_,_,_=>none
 | k+1,x3,x4,x5,jc,jb,je,ji,jh,qT,qM=>if (qT.length:Int)=0 then (if x3=true then (if x4=true then (if x5=true then (some true) else (some false)) else (some false)) else (some false)) else ((Qi.f jb).bind fun qbg=>(if qbg=true then (if x3=true then (if x4=true then (if x5=true then (some (decide ((qT.length:Int)≤40))) else (some false)) else (some false)) else (some false)) else (if x3=true then (if x4=true then (if x5=true then (some false) else (some false)) else (some false)) else (some false))))
end
def qZ.f (k:Nat) (ql:List (List Int)) (qd:Int) (qj:Int) (qk:Int) (qB:List (List Int)) (qb:List Int) (qc:List Int):Option (Bool):=(qE.f ql).bind fun qx=>(if qx=true then ((Qy.f qd).bind fun qX=>(if qX=true then ((zI.f qj 0 100000).bind fun qG=>(qZ.j0 k (!qG) ql qd qj qk qB qb qc)) else (qZ.j0 k true ql qd qj qk qB qb qc))) else (qZ.j0 k true ql qd qj qk qB qb qc))
set_option maxHeartbeats 8000000 in
set_option maxRecDepth 100000 in
theorem qZ.calls (k:Nat) (jI:Option Addr) (jH:Nat) (ql:List (List Int)) (qd:Int) (qj:Int) (qk:Int) (zO:Option Addr) (zM:Nat) (qB:List (List Int)) (jl:Option Addr) (qU:Nat) (qb:List Int) (qS:Option Addr) (qR:Nat) (qc:List Int) (r:Bool) (w:World) (jM:Kd.C (Kd.slice 5 (Kd.int .u8)) w jI ql.length ql) (jT:ql.length≤jH) (yk:Kd.C (Kd.slice 5 (Kd.int .u8)) w zO qB.length qB) (yl:qB.length≤zM) (jJ:Kd.C (Kd.int .u8) w jl qb.length qb) (jK:qb.length≤qU) (jP:Kd.C (Kd.int .i64) w qS qc.length qc) (jQ:qc.length≤qR) (h:qZ.f k ql qd qj qk qB qb qc=some r) :
  Calls Tryz.prog 132 #[.agg #[.slice jI ql.length jH,.int .i64 qd,.int .i64 qj,.int .i64 qk,.slice zO qB.length zM,.slice jl qb.length qU,.slice qS qc.length qR]] w fun e w'=>e=.returned (.bool r)∧Below w.heap.size w w':=by
 have Zg:=Tryz.underlying105;have Zn:=Tryz.underlying65;have jk:=ak jM;have jo:=ak jT;clear jM jT;have yb:=ak yk;have yc:=ak yl;clear yk yl;have jg:=ak jJ;have jL:=ak jK;clear jJ jK;have jd:=ak jP;have jy:=ak jQ;clear jP jQ;have HB:=ak (Below.refl w.heap.size w);have H:((qE.f ql).bind fun qx=>(if qx=true then ((Qy.f qd).bind fun qX=>(if qX=true then ((zI.f qj 0 100000).bind fun qG=>(qZ.j0 k (!qG) ql qd qj qk qB qb qc)) else (qZ.j0 k true ql qd qj qk qB qb qc))) else (qZ.j0 k true ql qd qj qk qB qb qc)))=some r:=h;clear h;have HC2:=ak H;clear H;go_enter Tryz.func132,Tryz.ntmps132;go_upto_region 1 with (((with_reducible refine gate_dst (N:=1) rfl ?_);(try (refine gate_guard (by rfl) ?_; dsimp only));refine bxd (N:=1) rfl HB ?_;clear HB;intro qe w3 hg HB qa qy hb;have qI:=qy;clear hb hg))
 (try simp only [Act.put,List.setIfInBounds_toArray,List.set_cons_zero,List.set_cons_succ])
 go_cut [22] (fun v22 wc=>∃ (kq:Nat) (qgv:Bool),v22=.bool qgv∧Aside0 (qZ.j0 kq qgv ql qd qj qk qB qb qc=some r)∧Aside0 (kq≤k)∧Aside0 (wc.heap[qe]?=some (.cells #[(.slice jI ql.length jH),.int .i64 qd,.int .i64 qj,.int .i64 qk,(.slice zO qB.length zM),(.slice jl qb.length qU),(.slice qS qc.length qR)] 105 (0,0)))∧Aside0 (Below w.heap.size w wc))
 case first =>
  have H:=HC2.out;clear HC2;replace H:=bnd H;obtain ⟨qx,A4,H⟩:=H;replace H:=ib H;obtain ⟨rfl,H⟩ | ⟨rfl,H⟩:=H
  ·replace H:=bnd H;obtain ⟨qX,A6,H⟩:=H;replace H:=ib H;obtain ⟨rfl,H⟩ | ⟨rfl,H⟩:=H
   ·replace H:=bnd H;obtain ⟨qG,A8,H⟩:=H;have H':=ak H;clear H;obtain ⟨_,_,_,_,_,_,_,_,_,_,_,_,_,_⟩:=cells7 qa.out;go_wp2_with (first | ((with_reducible refine gate_callee (f:=126) rfl ?_);refine glB 9 rfl rfl Tryz.func126 (qE.calls _ _ ql true _ (cv jk HB) jo.out A4.out) (fun w10 hb=>?_);replace qa:=b1 qa hb;replace HB:=b2s bs hb;(try clear hb);obtain ⟨_,_,_,_,_,_,_,_,_,_,_,_,_,_⟩:=cells7 qa.out) | (go_at_call 178;(with_reducible refine (Qy.calls qd true _ A6.out).mono ?_);rintro e w12 ⟨rfl,hb⟩;replace qa:=b1 qa hb;replace HB:=b2s bs hb;(try clear hb);obtain ⟨_,_,_,_,_,_,_,_,_,_,_,_,_,_⟩:=cells7 qa.out) | (go_at_call 44;(with_reducible refine (zI.calls qj 0 100000 qG _ A8.out).mono ?_);rintro e w' ⟨rfl,⟨nd,rfl⟩⟩));go_meet
    case rel=>exact ⟨_,(!qG),o2,H',⟨o3⟩,⟨bk qa.out⟩,⟨bs⟩⟩
   ·have H':=ak H;clear H;obtain ⟨_,_,_,_,_,_,_,_,_,_,_,_,_,_⟩:=cells7 qa.out;go_wp2_with (first | ((with_reducible refine gate_callee (f:=126) rfl ?_);refine glB 9 rfl rfl Tryz.func126 (qE.calls _ _ ql true _ (cv jk HB) jo.out A4.out) (fun w15 hb=>?_);replace qa:=b1 qa hb;replace HB:=b2s bs hb;(try clear hb);obtain ⟨_,_,_,_,_,_,_,_,_,_,_,_,_,_⟩:=cells7 qa.out) | (go_at_call 178;(with_reducible refine (Qy.calls qd false _ A6.out).mono ?_);rintro e w17 ⟨rfl,hb⟩;replace qa:=b1 qa hb;replace HB:=b2s bs hb;(try clear hb)));go_meet
    case rel=>exact ⟨_,(true),o2,H',⟨o3⟩,⟨bk qa.out⟩,⟨bs⟩⟩
  ·have H':=ak H;clear H;obtain ⟨_,_,_,_,_,_,_,_,_,_,_,_,_,_⟩:=cells7 qa.out;go_wp2_with (((with_reducible refine gate_callee (f:=126) rfl ?_);refine glB 9 rfl rfl Tryz.func126 (qE.calls _ _ ql false _ (cv jk HB) jo.out A4.out) (fun w19 hb=>?_);replace qa:=b1 qa hb;replace HB:=b2s bs hb;(try clear hb)));go_meet
   case rel=>exact ⟨_,(true),o2,H',⟨o3⟩,⟨bk qa.out⟩,⟨bs⟩⟩
 case rest =>
  clear HC2;obtain ⟨kq,qgv,rfl,HA,HJ1,qa,HB⟩:=hcut;cases kq with
  | zero=>exact absurd HA.out (by simp [qZ.j0])
  | succ kj1 =>
   have H:=HA.out;clear HA;simp only [qZ.j0] at H;replace H:=ib H;obtain ⟨rfl,H⟩ | ⟨rfl,H⟩:=H
   ·obtain rfl:=Option.some.inj H;go_wp2;go_ret;exact ⟨o1,bs⟩
   ·have qil:=ak H;clear H;obtain ⟨qdW,qdV,qdU,qdT,qdS,qdR,qdQ,qdK,qdJ,qdI,qdH,qdG,qdF,qdE⟩:=cells7 qa.out;go_upto_if 29 with (fail)
    go_cut [3] (fun v3 wc=>∃ (kq:Nat) (qc1:Bool),v3=.bool qc1∧Aside0 (qZ.j1 kq qc1 ql qd qj qk qB qb qc=some r)∧Aside0 (kq≤kj1)∧Aside0 (wc.heap[qe]?=some (.cells #[(.slice jI ql.length jH),.int .i64 qd,.int .i64 qj,.int .i64 qk,(.slice zO qB.length zM),(.slice jl qb.length qU),(.slice qS qc.length qR)] 105 (0,0)))∧Aside0 (Below w.heap.size w wc))
    case first =>
     have H:=qil.out;clear qil;replace H:=ie H;obtain ⟨c23b0,c23b1,H⟩ | ⟨c23b0,c23b1,H⟩:=H
     ·(first | rw [c23b0] | (simp only [i64_w,i32_w]; rw [c23b0]) | skip)
      replace H:=ie H;obtain ⟨c24b0,c24b1,H⟩ | ⟨c24b0,c24b1,H⟩:=H
      ·replace H:=ipN H;obtain ⟨c25b0,H⟩:=H;have c25b1:decide (0 < qc.length)=true:=decide_eq_true (by have:=of_decide_eq_true c25b0; omega);replace H:=bnd H;obtain ⟨Jj,A26,H⟩:=H;replace H:=ib H;obtain ⟨rfl,H⟩ | ⟨rfl,H⟩:=H
       ·replace H:=ipN H;obtain ⟨c28b0,H⟩:=H;have c28b1:decide (1 < qc.length)=true:=decide_eq_true (by have:=of_decide_eq_true c28b0; omega);replace H:=bnd H;obtain ⟨jw,A29,H⟩:=H;have H':=ak H;clear H;obtain ⟨_,_,_,_,_,_,_,_,_,_,_,_,_,_⟩:=cells7 qa.out;obtain ⟨qcb,rfl,yi,Jf,Je⟩:=el0_int jd 0 (h0:=by decide);replace Jf:=of_eq_true Jf;replace Je:=of_eq_true Je;have qc3:(0 < qc.length)=True:=eq_true (by omega);(try rw [show ((0:Int)).toNat=0 from rfl] at yi)
        (try rw [Addr.add_zero'] at yi)
        replace yi:=pw_cell_below HB.out yi;replace Jf:=eq_true Jf;replace Je:=eq_true Je;go_wp2_with (first | (go_at_call 180;(with_reducible refine (Jp.calls (rd qc 0) true _ A26.out).mono ?_);rintro e w' ⟨rfl,⟨nd,rfl⟩⟩;have YA:0≤(1:Int):=(by omega);have Yz:1 < (qc.length:Int):=of_decide_eq_true (by first | (with_reducible assumption) | assumption);obtain ⟨ql9,qm8,QU⟩:=Kd.at_int jd.out 1 YA Yz;obtain rfl:qcb=ql9:=(by injection qm8);(try simp only [show (1:Int).toNat=1 from rfl,Nat.reduceMul,Nat.reduceEqDiff,Go.Addr.add,↓reduceIte] at QU);have qiq:(1 < qc.length)=True:=eq_true (by omega);(try rw [show ((1:Int)).toNat=1 from rfl] at QU);replace QU:=pw_cell_below HB.out QU;replace YA:=eq_true YA;replace Yz:=eq_true Yz) | (go_at_call 44;(with_reducible refine (zI.calls (rd qc 1) 0 100000 jw _ A29.out).mono ?_);rintro e w' ⟨rfl,⟨nd,rfl⟩⟩));go_meet
        case rel=>exact ⟨_,(jw),o2,H',⟨by have:=HJ1.out; first | omega | exact Nat.le_refl _⟩,⟨bk qa.out⟩,⟨bs⟩⟩
       ·have H':=ak H;clear H;obtain ⟨_,_,_,_,_,_,_,_,_,_,_,_,_,_⟩:=cells7 qa.out;obtain ⟨qcb,rfl,yi,Jf,Je⟩:=el0_int jd 0 (h0:=by decide);replace Jf:=of_eq_true Jf;replace Je:=of_eq_true Je;have qc3:(0 < qc.length)=True:=eq_true (by omega);(try rw [show ((0:Int)).toNat=0 from rfl] at yi)
        (try rw [Addr.add_zero'] at yi)
        replace yi:=pw_cell_below HB.out yi;replace Jf:=eq_true Jf;replace Je:=eq_true Je;go_wp2_with ((go_at_call 180;(with_reducible refine (Jp.calls (rd qc 0) false _ A26.out).mono ?_);rintro e w' ⟨rfl,⟨nd,rfl⟩⟩));go_meet
        case rel=>exact ⟨_,(false),o2,H',⟨by have:=HJ1.out; first | omega | exact Nat.le_refl _⟩,⟨bk qa.out⟩,⟨bs⟩⟩
      ·have H':=ak H;clear H;obtain ⟨_,_,_,_,_,_,_,_,_,_,_,_,_,_⟩:=cells7 qa.out;go_wp2;go_meet
       case rel=>exact ⟨_,(false),o2,H',⟨by have:=HJ1.out; first | omega | exact Nat.le_refl _⟩,⟨bk qa.out⟩,⟨bs⟩⟩
     ·(first | rw [c23b0] | (simp only [i64_w,i32_w]; rw [c23b0]) | skip)
      have H':=ak H;clear H;go_wp2;go_meet
      case rel=>exact ⟨_,(((qc.length:Int) == 0)),o2,H',⟨by have:=HJ1.out; first | omega | exact Nat.le_refl _⟩,⟨bk qa.out⟩,⟨bs⟩⟩
    case rest =>
     clear qil;(try clear qdW)
     (try clear qdV)
     (try clear qdU)
     (try clear qdT)
     (try clear qdS)
     (try clear qdR)
     (try clear qdQ)
     (try clear qdK)
     (try clear qdJ)
     (try clear qdI)
     (try clear qdH)
     (try clear qdG)
     (try clear qdF)
     (try clear qdE)
     obtain ⟨kq,qc1,rfl,HA,qed,qa,HB⟩:=hcut;cases kq with
     | zero=>exact absurd HA.out (by simp [qZ.j1])
     | succ qmJ =>
      have H:=HA.out;clear HA;simp only [qZ.j1] at H;have qii:=ak H;clear H;go_upto_region 6 with (fail)
      go_cut [4] (fun v4 wc=>∃ (kq:Nat) (qek:Bool),v4=.bool qek∧Aside0 (qZ.j2 kq qc1 qek ql qd qj qk qB qb qc=some r)∧Aside0 (kq≤qmJ)∧Aside0 (wc.heap[qe]?=some (.cells #[(.slice jI ql.length jH),.int .i64 qd,.int .i64 qj,.int .i64 qk,(.slice zO qB.length zM),(.slice jl qb.length qU),(.slice qS qc.length qR)] 105 (0,0)))∧Aside0 (Below w.heap.size w wc))
      case first =>
       have H:=qii.out;clear qii;replace H:=ie H;obtain ⟨c34b0,c34b1,H⟩ | ⟨c34b0,c34b1,H⟩:=H
       ·(first | rw [c34b0] | (simp only [i64_w,i32_w]; rw [c34b0]) | skip)
        have H':=ak H;clear H;obtain ⟨_,_,_,_,_,_,_,_,_,_,_,_,_,_⟩:=cells7 qa.out;go_wp2;go_meet
        case rel=>exact ⟨_,(true),o2,H',⟨by have:=HJ1.out; have:=qed.out; first | omega | exact Nat.le_refl _⟩,⟨bk qa.out⟩,⟨bs⟩⟩
       ·(first | rw [c34b0] | (simp only [i64_w,i32_w]; rw [c34b0]) | skip)
        replace H:=ie H;obtain ⟨c36b0,c36b1,H⟩ | ⟨c36b0,c36b1,H⟩:=H
        ·replace H:=bnd H;obtain ⟨zL,A37,H⟩:=H;have H':=ak H;clear H;obtain ⟨_,_,_,_,_,_,_,_,_,_,_,_,_,_⟩:=cells7 qa.out;go_wp2_with ((go_at_call 180;(with_reducible refine (Jp.calls qk zL _ A37.out).mono ?_);rintro e w' ⟨rfl,⟨nd,rfl⟩⟩));go_meet
         case rel=>exact ⟨_,(zL),o2,H',⟨by have:=HJ1.out; have:=qed.out; first | omega | exact Nat.le_refl _⟩,⟨bk qa.out⟩,⟨bs⟩⟩
        ·have H':=ak H;clear H;obtain ⟨_,_,_,_,_,_,_,_,_,_,_,_,_,_⟩:=cells7 qa.out;go_wp2;go_meet
         case rel=>exact ⟨_,(false),o2,H',⟨by have:=HJ1.out; have:=qed.out; first | omega | exact Nat.le_refl _⟩,⟨bk qa.out⟩,⟨bs⟩⟩
      case rest =>
       clear qii;(try clear qdW)
       (try clear qdV)
       (try clear qdU)
       (try clear qdT)
       (try clear qdS)
       (try clear qdR)
       (try clear qdQ)
       (try clear qdK)
       (try clear qdJ)
       (try clear qdI)
       (try clear qdH)
       (try clear qdG)
       (try clear qdF)
       (try clear qdE)
       obtain ⟨kq,qek,rfl,HA,qie,qa,HB⟩:=hcut;cases kq with
       | zero=>exact absurd HA.out (by simp [qZ.j2])
       | succ qmI =>
        have H:=HA.out;clear HA;simp only [qZ.j2] at H;have qih:=ak H;clear H;go_upto_region 7 with (fail)
        go_cut [5] (fun v5 wc=>∃ (kq:Nat) (qgr:Bool),v5=.bool qgr∧Aside0 (qZ.j3 kq qc1 qek qgr ql qd qj qk qB qb qc=some r)∧Aside0 (kq≤qmI)∧Aside0 (wc.heap[qe]?=some (.cells #[(.slice jI ql.length jH),.int .i64 qd,.int .i64 qj,.int .i64 qk,(.slice zO qB.length zM),(.slice jl qb.length qU),(.slice qS qc.length qR)] 105 (0,0)))∧Aside0 (Below w.heap.size w wc))
        case first =>
         have H:=qih.out;clear qih;replace H:=ie H;obtain ⟨c41b0,c41b1,H⟩ | ⟨c41b0,c41b1,H⟩:=H
         ·(first | rw [c41b0] | (simp only [i64_w,i32_w]; rw [c41b0]) | skip)
          have H':=ak H;clear H;obtain ⟨_,_,_,_,_,_,_,_,_,_,_,_,_,_⟩:=cells7 qa.out;go_wp2;go_meet
          case rel=>exact ⟨_,(true),o2,H',⟨by have:=HJ1.out; have:=qed.out; have:=qie.out; first | omega | exact Nat.le_refl _⟩,⟨bk qa.out⟩,⟨bs⟩⟩
         ·have c41b2:¬ (qB=[]):=fun h_=>bne_iff_ne.mp c41b1 (by rw [h_]; rfl)
          (first | rw [c41b0] | (simp only [i64_w,i32_w]; rw [c41b0]) | skip)
          replace H:=bnd H;obtain ⟨jS,A43,H⟩:=H;replace H:=ib H;obtain ⟨rfl,H⟩ | ⟨rfl,H⟩:=H
          ·replace H:=bnd H;obtain ⟨zE,A45,H⟩:=H;have H':=ak H;clear H;obtain ⟨_,_,_,_,_,_,_,_,_,_,_,_,_,_⟩:=cells7 qa.out;go_wp2_with (first | (go_at_call 179;(with_reducible refine (Js.calls qd true _ A43.out).mono ?_);rintro e w' ⟨rfl,⟨nd,rfl⟩⟩) | (go_at_call 126;(with_reducible refine (qE.calls _ _ qB zE _ ?jz yc.out A45.out).mono ?_);(case jz=>repeat (first | exact (Kd.C_below yb.out bs) | (with_reducible refine Kd.C_alloc ?_ _) | (with_reducible refine Kd.C_drewN ?_ _) | (with_reducible refine Kd.C_drew ?_)));rintro e w47 ⟨rfl,hb⟩;replace qa:=b1 qa hb;replace HB:=b2s bs hb;(try clear hb)));go_meet
           case rel=>exact ⟨_,(zE),o2,H',⟨by have:=HJ1.out; have:=qed.out; have:=qie.out; first | omega | exact Nat.le_refl _⟩,⟨bk qa.out⟩,⟨bs⟩⟩
          ·have H':=ak H;clear H;obtain ⟨_,_,_,_,_,_,_,_,_,_,_,_,_,_⟩:=cells7 qa.out;go_wp2_with ((go_at_call 179;(with_reducible refine (Js.calls qd false _ A43.out).mono ?_);rintro e w' ⟨rfl,⟨nd,rfl⟩⟩));go_meet
           case rel=>exact ⟨_,(false),o2,H',⟨by have:=HJ1.out; have:=qed.out; have:=qie.out; first | omega | exact Nat.le_refl _⟩,⟨bk qa.out⟩,⟨bs⟩⟩
        case rest =>
         clear qih;(try clear qdW)
         (try clear qdV)
         (try clear qdU)
         (try clear qdT)
         (try clear qdS)
         (try clear qdR)
         (try clear qdQ)
         (try clear qdK)
         (try clear qdJ)
         (try clear qdI)
         (try clear qdH)
         (try clear qdG)
         (try clear qdF)
         (try clear qdE)
         obtain ⟨kq,qgr,rfl,HA,qsf,qa,HB⟩:=hcut;cases kq with
         | zero=>exact absurd HA.out (by simp [qZ.j3])
         | succ qr3 =>
          have H:=HA.out;clear HA;simp only [qZ.j3] at H;replace H:=ie H;obtain ⟨c49b0,c49b1,H⟩ | ⟨c49b0,c49b1,H⟩:=H
          ·replace H:=ib H;obtain ⟨rfl,H⟩ | ⟨rfl,H⟩:=H
           ·replace H:=ib H;obtain ⟨rfl,H⟩ | ⟨rfl,H⟩:=H
            ·replace H:=ib H;obtain ⟨rfl,H⟩ | ⟨rfl,H⟩:=H
             ·obtain rfl:=Option.some.inj H;obtain ⟨_,_,_,_,_,_,_,_,_,_,_,_,_,_⟩:=cells7 qa.out;go_wp2;go_ret;exact ⟨o1,bs⟩
             ·obtain rfl:=Option.some.inj H;obtain ⟨_,_,_,_,_,_,_,_,_,_,_,_,_,_⟩:=cells7 qa.out;go_wp2;go_ret;exact ⟨o1,bs⟩
            ·obtain rfl:=Option.some.inj H;obtain ⟨_,_,_,_,_,_,_,_,_,_,_,_,_,_⟩:=cells7 qa.out;go_wp2;go_ret;exact ⟨o1,bs⟩
           ·obtain rfl:=Option.some.inj H;obtain ⟨_,_,_,_,_,_,_,_,_,_,_,_,_,_⟩:=cells7 qa.out;go_wp2;go_ret;exact ⟨o1,bs⟩
          ·have c49b2:¬ (qb=[]):=fun h_=>bne_iff_ne.mp c49b1 (by rw [h_]; rfl)
           replace H:=bnd H;obtain ⟨qbg,A57,H⟩:=H;replace H:=ib H;obtain ⟨rfl,H⟩ | ⟨rfl,H⟩:=H
           ·replace H:=ib H;obtain ⟨rfl,H⟩ | ⟨rfl,H⟩:=H
            ·replace H:=ib H;obtain ⟨rfl,H⟩ | ⟨rfl,H⟩:=H
             ·replace H:=ib H;obtain ⟨rfl,H⟩ | ⟨rfl,H⟩:=H
              ·obtain rfl:=Option.some.inj H;obtain ⟨_,_,_,_,_,_,_,_,_,_,_,_,_,_⟩:=cells7 qa.out;go_wp2_with ((go_at_call 181;(with_reducible refine (Qi.calls qd true _ A57.out).mono ?_);rintro e w' ⟨rfl,⟨nd,rfl⟩⟩));go_ret;exact ⟨o1,bs⟩
              ·obtain rfl:=Option.some.inj H;obtain ⟨_,_,_,_,_,_,_,_,_,_,_,_,_,_⟩:=cells7 qa.out;go_wp2_with ((go_at_call 181;(with_reducible refine (Qi.calls qd true _ A57.out).mono ?_);rintro e w' ⟨rfl,⟨nd,rfl⟩⟩));go_ret;exact ⟨o1,bs⟩
             ·obtain rfl:=Option.some.inj H;obtain ⟨_,_,_,_,_,_,_,_,_,_,_,_,_,_⟩:=cells7 qa.out;go_wp2_with ((go_at_call 181;(with_reducible refine (Qi.calls qd true _ A57.out).mono ?_);rintro e w' ⟨rfl,⟨nd,rfl⟩⟩));go_ret;exact ⟨o1,bs⟩
            ·obtain rfl:=Option.some.inj H;obtain ⟨_,_,_,_,_,_,_,_,_,_,_,_,_,_⟩:=cells7 qa.out;go_wp2_with ((go_at_call 181;(with_reducible refine (Qi.calls qd true _ A57.out).mono ?_);rintro e w' ⟨rfl,⟨nd,rfl⟩⟩));go_ret;exact ⟨o1,bs⟩
           ·replace H:=ib H;obtain ⟨rfl,H⟩ | ⟨rfl,H⟩:=H
            ·replace H:=ib H;obtain ⟨rfl,H⟩ | ⟨rfl,H⟩:=H
             ·replace H:=ib H;obtain ⟨rfl,H⟩ | ⟨rfl,H⟩:=H
              ·obtain rfl:=Option.some.inj H;obtain ⟨_,_,_,_,_,_,_,_,_,_,_,_,_,_⟩:=cells7 qa.out;go_wp2_with ((go_at_call 181;(with_reducible refine (Qi.calls qd false _ A57.out).mono ?_);rintro e w' ⟨rfl,⟨nd,rfl⟩⟩));go_ret;exact ⟨o1,bs⟩
              ·obtain rfl:=Option.some.inj H;obtain ⟨_,_,_,_,_,_,_,_,_,_,_,_,_,_⟩:=cells7 qa.out;go_wp2_with ((go_at_call 181;(with_reducible refine (Qi.calls qd false _ A57.out).mono ?_);rintro e w' ⟨rfl,⟨nd,rfl⟩⟩));go_ret;exact ⟨o1,bs⟩
             ·obtain rfl:=Option.some.inj H;obtain ⟨_,_,_,_,_,_,_,_,_,_,_,_,_,_⟩:=cells7 qa.out;go_wp2_with ((go_at_call 181;(with_reducible refine (Qi.calls qd false _ A57.out).mono ?_);rintro e w' ⟨rfl,⟨nd,rfl⟩⟩));go_ret;exact ⟨o1,bs⟩
            ·obtain rfl:=Option.some.inj H;obtain ⟨_,_,_,_,_,_,_,_,_,_,_,_,_,_⟩:=cells7 qa.out;go_wp2_with ((go_at_call 181;(with_reducible refine (Qi.calls qd false _ A57.out).mono ?_);rintro e w' ⟨rfl,⟨nd,rfl⟩⟩));go_ret;exact ⟨o1,bs⟩

/-! ### Qa: function 169 -/
def Qa.f (a0:Int):Option (Bool):=if a0=1 then (some true) else (if a0=2 then (some true) else (if a0=5 then (some true) else (if a0=6 then (some true) else (if a0=12 then (some true) else (if a0=16 then (some true) else (if a0=49 then (some true) else (some false)))))))
set_option maxHeartbeats 8000000 in
set_option maxRecDepth 100000 in
theorem Qa.calls (a0:Int) (r:Bool) (w:World) (h:Qa.f a0=some r) :
  Calls Tryz.prog 169 #[.int .i64 a0] w fun e w'=>e=.returned (.bool r)∧Drawn0 w w':=by
 have H:(if a0=1 then (some true) else (if a0=2 then (some true) else (if a0=5 then (some true) else (if a0=6 then (some true) else (if a0=12 then (some true) else (if a0=16 then (some true) else (if a0=49 then (some true) else (some false))))))))=some r:=h;clear h;replace H:=ie H;obtain ⟨c2b0,c2b1,H⟩ | ⟨c2b0,c2b1,H⟩:=H
 ·obtain rfl:=Option.some.inj H;go_enter Tryz.func169,Tryz.ntmps169;go_wp2;go_ret;exact ⟨o2,od⟩
 ·replace H:=ie H;obtain ⟨c3b0,c3b1,H⟩ | ⟨c3b0,c3b1,H⟩:=H
  ·obtain rfl:=Option.some.inj H;go_enter Tryz.func169,Tryz.ntmps169;go_wp2;go_ret;exact ⟨o2,od⟩
  ·replace H:=ie H;obtain ⟨c4b0,c4b1,H⟩ | ⟨c4b0,c4b1,H⟩:=H
   ·obtain rfl:=Option.some.inj H;go_enter Tryz.func169,Tryz.ntmps169;go_wp2;go_ret;exact ⟨o2,od⟩
   ·replace H:=ie H;obtain ⟨c5b0,c5b1,H⟩ | ⟨c5b0,c5b1,H⟩:=H
    ·obtain rfl:=Option.some.inj H;go_enter Tryz.func169,Tryz.ntmps169;go_wp2;go_ret;exact ⟨o2,od⟩
    ·replace H:=ie H;obtain ⟨c6b0,c6b1,H⟩ | ⟨c6b0,c6b1,H⟩:=H
     ·obtain rfl:=Option.some.inj H;go_enter Tryz.func169,Tryz.ntmps169;go_wp2;go_ret;exact ⟨o2,od⟩
     ·replace H:=ie H;obtain ⟨c7b0,c7b1,H⟩ | ⟨c7b0,c7b1,H⟩:=H
      ·obtain rfl:=Option.some.inj H;go_enter Tryz.func169,Tryz.ntmps169;go_wp2;go_ret;exact ⟨o2,od⟩
      ·replace H:=ie H;obtain ⟨c8b0,c8b1,H⟩ | ⟨c8b0,c8b1,H⟩:=H
       ·obtain rfl:=Option.some.inj H;go_enter Tryz.func169,Tryz.ntmps169;go_wp2;go_ret;exact ⟨o2,od⟩
       ·obtain rfl:=Option.some.inj H;go_enter Tryz.func169,Tryz.ntmps169;go_wp2;go_ret;exact ⟨o2,od⟩

/-! ### QQ: function 205 -/
def QQ.f (a0:Int):Option (Bool):=if a0=2 then (some true) else (if a0=5 then (some true) else (if a0=6 then (some true) else (some (a0 == 12))))
set_option maxHeartbeats 8000000 in
set_option maxRecDepth 100000 in
theorem QQ.calls (a0:Int) (r:Bool) (w:World) (h:QQ.f a0=some r) :
  Calls Tryz.prog 205 #[.int .i64 a0] w fun e w'=>e=.returned (.bool r)∧Drawn0 w w':=by
 have H:(if a0=2 then (some true) else (if a0=5 then (some true) else (if a0=6 then (some true) else (some (a0 == 12)))))=some r:=h;clear h;replace H:=ie H;obtain ⟨c2b0,c2b1,H⟩ | ⟨c2b0,c2b1,H⟩:=H
 ·obtain rfl:=Option.some.inj H;go_enter Tryz.func205,Tryz.ntmps205;go_wp2;go_ret;exact ⟨o2,od⟩
 ·replace H:=ie H;obtain ⟨c3b0,c3b1,H⟩ | ⟨c3b0,c3b1,H⟩:=H
  ·obtain rfl:=Option.some.inj H;go_enter Tryz.func205,Tryz.ntmps205;go_wp2;go_ret;exact ⟨o2,od⟩
  ·replace H:=ie H;obtain ⟨c4b0,c4b1,H⟩ | ⟨c4b0,c4b1,H⟩:=H
   ·obtain rfl:=Option.some.inj H;go_enter Tryz.func205,Tryz.ntmps205;go_wp2;go_ret;exact ⟨o2,od⟩
   ·obtain rfl:=Option.some.inj H;go_enter Tryz.func205,Tryz.ntmps205;go_wp2;go_ret;exact ⟨o2,od⟩

/-! ### Za: function 209 -/
def Za.f (a0:Int):Option (Bool):=if a0=16 then (some true) else (some (a0 == 49))
set_option maxHeartbeats 8000000 in
set_option maxRecDepth 100000 in
theorem Za.calls (a0:Int) (r:Bool) (w:World) (h:Za.f a0=some r) :
  Calls Tryz.prog 209 #[.int .i64 a0] w fun e w'=>e=.returned (.bool r)∧Drawn0 w w':=by
 have H:(if a0=16 then (some true) else (some (a0 == 49)))=some r:=h;clear h;replace H:=ie H;obtain ⟨c2b0,c2b1,H⟩ | ⟨c2b0,c2b1,H⟩:=H
 ·obtain rfl:=Option.some.inj H;go_enter Tryz.func209,Tryz.ntmps209;go_wp2;go_ret;exact ⟨o2,od⟩
 ·obtain rfl:=Option.some.inj H;go_enter Tryz.func209,Tryz.ntmps209;go_wp2;go_ret;exact ⟨o2,od⟩

/-! ### jv: function 182 -/
mutual
def jv.j0:Nat→List (List Int)→Int→Int→Int→List (List Int)→List Int→List Int→Option (Bool)
 | 0,_,_,_,_,_,_,_=>none
 | k+1,jc,jb,je,ji,jh,qT,qM=>(QQ.f jb).bind fun qx=>(if qx=true then ((ja.f k jh).bind fun qX=>(if qX=true then (jv.j1 k jc jb je ji jh qT qM) else (some false))) else (if (jh.length:Int) > 0 then (some false) else (jv.j1 k jc jb je ji jh qT qM)))
def jv.j1:Nat→List (List Int)→Int→Int→Int→List (List Int)→List Int→List Int→Option (Bool)
 | 0,_,_,_,_,_,_,_=>none
 | k+1,jc,jb,je,ji,jh,qT,qM=>(Za.f jb).bind fun qG=>(if qG=true then (if (qT.length:Int) > 40 then (some false) else (jv.j2 k jc jb je ji jh qT qM)) else (if (qT.length:Int) > 0 then (some false) else (jv.j2 k jc jb je ji jh qT qM)))
def jv.j2:Nat→List (List Int)→Int→Int→Int→List (List Int)→List Int→List Int→Option (Bool)
 | 0,_,_,_,_,_,_,_=>none
 | k+1,jc,jb,je,ji,jh,qT,qM=>if jb=6 then (if (qM.length:Int)=2 then (if 0 < (qM.length:Int) then (if (rd qM 0) < 0 then (some false) else (if (rd qM 0) ≥ 4294967296 then (some false) else (if 1 < (qM.length:Int) then (if (rd qM 1) ≥ 0 then (some (decide ((rd qM 1)≤100000))) else (some false)) else (none)))) else (none)) else (some false)) else (some ((qM.length:Int) == 0))
end
def jv.f (k:Nat) (ql:List (List Int)) (qd:Int) (qj:Int) (qk:Int) (qB:List (List Int)) (qb:List Int) (qc:List Int):Option (Bool):=if qd=1 then (if qk < 0 then (some false) else (if qk ≥ 4294967296 then (some false) else (jv.j0 k ql qd qj qk qB qb qc))) else (if qk=0 then (jv.j0 k ql qd qj qk qB qb qc) else (some false))
set_option maxHeartbeats 8000000 in
set_option maxRecDepth 100000 in
theorem jv.calls (k:Nat) (jI:Option Addr) (jH:Nat) (ql:List (List Int)) (qd:Int) (qj:Int) (qk:Int) (zO:Option Addr) (zM:Nat) (qB:List (List Int)) (jl:Option Addr) (qU:Nat) (qb:List Int) (qS:Option Addr) (qR:Nat) (qc:List Int) (r:Bool) (w:World) (jM:Kd.C (Kd.slice 5 (Kd.int .u8)) w jI ql.length ql) (jT:ql.length≤jH) (yk:Kd.C (Kd.slice 5 (Kd.int .u8)) w zO qB.length qB) (yl:qB.length≤zM) (jJ:Kd.C (Kd.int .u8) w jl qb.length qb) (jK:qb.length≤qU) (jP:Kd.C (Kd.int .i64) w qS qc.length qc) (jQ:qc.length≤qR) (h:jv.f k ql qd qj qk qB qb qc=some r) :
  Calls Tryz.prog 182 #[.agg #[.slice jI ql.length jH,.int .i64 qd,.int .i64 qj,.int .i64 qk,.slice zO qB.length zM,.slice jl qb.length qU,.slice qS qc.length qR]] w fun e w'=>e=.returned (.bool r)∧Below w.heap.size w w':=by
 have Zg:=Tryz.underlying105;have Zn:=Tryz.underlying65;have jk:=ak jM;have jo:=ak jT;clear jM jT;have yb:=ak yk;have yc:=ak yl;clear yk yl;have jg:=ak jJ;have jL:=ak jK;clear jJ jK;have jd:=ak jP;have jy:=ak jQ;clear jP jQ;have HB:=ak (Below.refl w.heap.size w);have H:(if qd=1 then (if qk < 0 then (some false) else (if qk ≥ 4294967296 then (some false) else (jv.j0 k ql qd qj qk qB qb qc))) else (if qk=0 then (jv.j0 k ql qd qj qk qB qb qc) else (some false)))=some r:=h;clear h;have HC2:=ak H;clear H;go_enter Tryz.func182,Tryz.ntmps182;go_upto_if 5 with (((with_reducible refine gate_dst (N:=1) rfl ?_);refine bxd (N:=1) rfl HB ?_;clear HB;intro qe w3 hg HB qa qy hb;have qI:=qy;clear hb hg;obtain ⟨ZI,Yf,Ye,Yd,Yc,Yb,Ya,ZH,ZZ,ZY,ZX,ZW,ZV,ZU⟩:=cells7 qa.out))
 (try simp only [Act.put,List.setIfInBounds_toArray,List.set_cons_zero,List.set_cons_succ])
 go_cut [] (fun wc=>∃ (kq:Nat),Aside0 (jv.j0 kq ql qd qj qk qB qb qc=some r)∧Aside0 (kq≤k)∧Aside0 (wc.heap[qe]?=some (.cells #[(.slice jI ql.length jH),.int .i64 qd,.int .i64 qj,.int .i64 qk,(.slice zO qB.length zM),(.slice jl qb.length qU),(.slice qS qc.length qR)] 105 (0,0)))∧Aside0 (Below w.heap.size w wc))
 case first =>
  have H:=HC2.out;clear HC2;replace H:=ie H;obtain ⟨c5b0,c5b1,H⟩ | ⟨c5b0,c5b1,H⟩:=H
  ·(first | rw [c5b0] | (simp only [i64_w,i32_w]; rw [c5b0]) | skip)
   replace H:=ip H;obtain ⟨c6b0,H⟩ | ⟨c6b0,H⟩:=H
   ·obtain rfl:=Option.some.inj H;obtain ⟨_,_,_,_,_,_,_,_,_,_,_,_,_,_⟩:=cells7 qa.out;go_wp2;go_ret;exact ⟨o1,bs⟩
   ·replace H:=ih H;obtain ⟨c8b0,H⟩ | ⟨c8b0,H⟩:=H
    ·obtain rfl:=Option.some.inj H;obtain ⟨_,_,_,_,_,_,_,_,_,_,_,_,_,_⟩:=cells7 qa.out;go_wp2;go_ret;exact ⟨o1,bs⟩
    ·have H':=ak H;clear H;obtain ⟨_,_,_,_,_,_,_,_,_,_,_,_,_,_⟩:=cells7 qa.out;go_wp2;go_meet
     case rel=>exact ⟨_,H',⟨o3⟩,⟨bk qa.out⟩,⟨bs⟩⟩
  ·(first | rw [c5b0] | (simp only [i64_w,i32_w]; rw [c5b0]) | skip)
   replace H:=ie H;obtain ⟨c11b0,c11b1,H⟩ | ⟨c11b0,c11b1,H⟩:=H
   ·have H':=ak H;clear H;obtain ⟨_,_,_,_,_,_,_,_,_,_,_,_,_,_⟩:=cells7 qa.out;go_wp2;go_meet
    case rel=>exact ⟨_,H',⟨o3⟩,⟨bk qa.out⟩,⟨bs⟩⟩
   ·obtain rfl:=Option.some.inj H;obtain ⟨_,_,_,_,_,_,_,_,_,_,_,_,_,_⟩:=cells7 qa.out;go_wp2;go_ret;exact ⟨o1,bs⟩
 case rest =>
  clear HC2;(try clear ZI)
  (try clear Yf)
  (try clear Ye)
  (try clear Yd)
  (try clear Yc)
  (try clear Yb)
  (try clear Ya)
  (try clear ZH)
  (try clear ZZ)
  (try clear ZY)
  (try clear ZX)
  (try clear ZW)
  (try clear ZV)
  (try clear ZU)
  obtain ⟨kq,HA,HJ1,qa,HB⟩:=hcut;cases kq with
  | zero=>exact absurd HA.out (by simp [jv.j0])
  | succ kj1 =>
   have H:=HA.out;clear HA;simp only [jv.j0] at H;replace H:=bnd H;obtain ⟨qx,A14,H⟩:=H;have qim:=ak H;clear H;obtain ⟨qgi,qgh,qgg,qgf,qge,qgd,qgc,qf1,qf0,qfZ,qfY,qfX,qfW,qfV⟩:=cells7 qa.out;go_upto_if 19 with (((with_reducible refine gate_callee (f:=205) rfl ?_);refine glD 19 rfl rfl Tryz.func205 (QQ.calls qd qx _ A14.out) (fun nd=>?_)))
   (try simp only [Act.put,List.setIfInBounds_toArray,List.set_cons_zero,List.set_cons_succ])
   go_cut [] (fun wc=>∃ (kq:Nat),Aside0 (jv.j1 kq ql qd qj qk qB qb qc=some r)∧Aside0 (kq≤kj1)∧Aside0 (wc.heap[qe]?=some (.cells #[(.slice jI ql.length jH),.int .i64 qd,.int .i64 qj,.int .i64 qk,(.slice zO qB.length zM),(.slice jl qb.length qU),(.slice qS qc.length qR)] 105 (0,0)))∧Aside0 (Below w.heap.size w wc))
   case first =>
    have H:=qim.out;clear qim;replace H:=ib H;obtain ⟨rfl,H⟩ | ⟨rfl,H⟩:=H
    ·replace H:=bnd H;obtain ⟨qX,A18,H⟩:=H;replace H:=ib H;obtain ⟨rfl,H⟩ | ⟨rfl,H⟩:=H
     ·have H':=ak H;clear H;obtain ⟨_,_,_,_,_,_,_,_,_,_,_,_,_,_⟩:=cells7 qa.out;go_wp2_with (((with_reducible refine gate_callee (f:=119) rfl ?_);refine glB 22 rfl rfl Tryz.func119 (ja.calls kj1 _ _ qB true _ (cv yb HB) yc.out A18.out) (fun w21 hb=>?_);replace qa:=b1 qa hb;replace HB:=b2s bs hb;(try clear hb)));go_meet
      case rel=>exact ⟨_,H',⟨by have:=HJ1.out; first | omega | exact Nat.le_refl _⟩,⟨bk qa.out⟩,⟨bs⟩⟩
     ·obtain rfl:=Option.some.inj H;obtain ⟨_,_,_,_,_,_,_,_,_,_,_,_,_,_⟩:=cells7 qa.out;go_wp2_with (((with_reducible refine gate_callee (f:=119) rfl ?_);refine glB 22 rfl rfl Tryz.func119 (ja.calls kj1 _ _ qB false _ (cv yb HB) yc.out A18.out) (fun w23 hb=>?_);replace qa:=b1 qa hb;replace HB:=b2s bs hb;(try clear hb)));go_ret;exact ⟨o1,bs⟩
    ·replace H:=ig H;obtain ⟨c24b0,H⟩ | ⟨c24b0,H⟩:=H
     ·have c24b1:decide (0 < qB.length)=true:=decide_eq_true (by have:=of_decide_eq_true c24b0; omega);(first | rw [c24b0] | (simp only [i64_w,i32_w]; rw [c24b0]) | skip)
      obtain rfl:=Option.some.inj H;obtain ⟨_,_,_,_,_,_,_,_,_,_,_,_,_,_⟩:=cells7 qa.out;go_wp2;go_ret;exact ⟨o1,bs⟩
     ·have c24b1:decide (0 < qB.length)=false:=decide_eq_false (by have:=of_decide_eq_false c24b0; omega);(first | rw [c24b0] | (simp only [i64_w,i32_w]; rw [c24b0]) | skip)
      have H':=ak H;clear H;obtain ⟨_,_,_,_,_,_,_,_,_,_,_,_,_,_⟩:=cells7 qa.out;go_wp2;go_meet
      case rel=>exact ⟨_,H',⟨by have:=HJ1.out; first | omega | exact Nat.le_refl _⟩,⟨bk qa.out⟩,⟨bs⟩⟩
   case rest =>
    clear qim;(try clear qgi)
    (try clear qgh)
    (try clear qgg)
    (try clear qgf)
    (try clear qge)
    (try clear qgd)
    (try clear qgc)
    (try clear ZI)
    (try clear Yf)
    (try clear Ye)
    (try clear Yd)
    (try clear Yc)
    (try clear Yb)
    (try clear Ya)
    (try clear qf1)
    (try clear qf0)
    (try clear qfZ)
    (try clear qfY)
    (try clear qfX)
    (try clear qfW)
    (try clear qfV)
    (try clear ZH)
    (try clear ZZ)
    (try clear ZY)
    (try clear ZX)
    (try clear ZW)
    (try clear ZV)
    (try clear ZU)
    obtain ⟨kq,HA,qlC,qa,HB⟩:=hcut;cases kq with
    | zero=>exact absurd HA.out (by simp [jv.j1])
    | succ qmK =>
     have H:=HA.out;clear HA;simp only [jv.j1] at H;replace H:=bnd H;obtain ⟨qG,A27,H⟩:=H;have qij:=ak H;clear H;obtain ⟨qjD,qjC,qjB,qjA,qjz,qjy,qjx,qjf,qje,qjd,qjc,qjb,qja,qi9⟩:=cells7 qa.out;go_upto_if 31 with (((with_reducible refine gate_callee (f:=209) rfl ?_);refine glD 31 rfl rfl Tryz.func209 (Za.calls qd qG _ A27.out) (fun nd=>?_)))
     (try simp only [Act.put,List.setIfInBounds_toArray,List.set_cons_zero,List.set_cons_succ])
     go_cut [] (fun wc=>∃ (kq:Nat),Aside0 (jv.j2 kq ql qd qj qk qB qb qc=some r)∧Aside0 (kq≤qmK)∧Aside0 (wc.heap[qe]?=some (.cells #[(.slice jI ql.length jH),.int .i64 qd,.int .i64 qj,.int .i64 qk,(.slice zO qB.length zM),(.slice jl qb.length qU),(.slice qS qc.length qR)] 105 (0,0)))∧Aside0 (Below w.heap.size w wc))
     case first =>
      have H:=qij.out;clear qij;replace H:=ib H;obtain ⟨rfl,H⟩ | ⟨rfl,H⟩:=H
      ·replace H:=ig H;obtain ⟨c31b0,H⟩ | ⟨c31b0,H⟩:=H
       ·have c31b1:decide (40 < qb.length)=true:=decide_eq_true (by have:=of_decide_eq_true c31b0; omega);(first | rw [c31b0] | (simp only [i64_w,i32_w]; rw [c31b0]) | skip)
        obtain rfl:=Option.some.inj H;obtain ⟨_,_,_,_,_,_,_,_,_,_,_,_,_,_⟩:=cells7 qa.out;go_wp2;go_ret;exact ⟨o1,bs⟩
       ·have c31b1:decide (40 < qb.length)=false:=decide_eq_false (by have:=of_decide_eq_false c31b0; omega);(first | rw [c31b0] | (simp only [i64_w,i32_w]; rw [c31b0]) | skip)
        have H':=ak H;clear H;obtain ⟨_,_,_,_,_,_,_,_,_,_,_,_,_,_⟩:=cells7 qa.out;go_wp2;go_meet
        case rel=>exact ⟨_,H',⟨by have:=HJ1.out; have:=qlC.out; first | omega | exact Nat.le_refl _⟩,⟨bk qa.out⟩,⟨bs⟩⟩
      ·replace H:=ig H;obtain ⟨c34b0,H⟩ | ⟨c34b0,H⟩:=H
       ·have c34b1:decide (0 < qb.length)=true:=decide_eq_true (by have:=of_decide_eq_true c34b0; omega);obtain rfl:=Option.some.inj H;obtain ⟨_,_,_,_,_,_,_,_,_,_,_,_,_,_⟩:=cells7 qa.out;go_wp2;go_ret;exact ⟨o1,bs⟩
       ·have c34b1:decide (0 < qb.length)=false:=decide_eq_false (by have:=of_decide_eq_false c34b0; omega);have H':=ak H;clear H;obtain ⟨_,_,_,_,_,_,_,_,_,_,_,_,_,_⟩:=cells7 qa.out;go_wp2;go_meet
        case rel=>exact ⟨_,H',⟨by have:=HJ1.out; have:=qlC.out; first | omega | exact Nat.le_refl _⟩,⟨bk qa.out⟩,⟨bs⟩⟩
     case rest =>
      clear qij;(try clear qgi)
      (try clear qgh)
      (try clear qgg)
      (try clear qgf)
      (try clear qge)
      (try clear qgd)
      (try clear qgc)
      (try clear qjD)
      (try clear qjC)
      (try clear qjB)
      (try clear qjA)
      (try clear qjz)
      (try clear qjy)
      (try clear qjx)
      (try clear ZI)
      (try clear Yf)
      (try clear Ye)
      (try clear Yd)
      (try clear Yc)
      (try clear Yb)
      (try clear Ya)
      (try clear qf1)
      (try clear qf0)
      (try clear qfZ)
      (try clear qfY)
      (try clear qfX)
      (try clear qfW)
      (try clear qfV)
      (try clear qjf)
      (try clear qje)
      (try clear qjd)
      (try clear qjc)
      (try clear qjb)
      (try clear qja)
      (try clear qi9)
      (try clear ZH)
      (try clear ZZ)
      (try clear ZY)
      (try clear ZX)
      (try clear ZW)
      (try clear ZV)
      (try clear ZU)
      obtain ⟨kq,HA,qsg,qa,HB⟩:=hcut;cases kq with
      | zero=>exact absurd HA.out (by simp [jv.j2])
      | succ qr4 =>
       have H:=HA.out;clear HA;simp only [jv.j2] at H;replace H:=ie H;obtain ⟨c37b0,c37b1,H⟩ | ⟨c37b0,c37b1,H⟩:=H
       ·replace H:=ie H;obtain ⟨c38b0,c38b1,H⟩ | ⟨c38b0,c38b1,H⟩:=H
        ·replace H:=ipN H;obtain ⟨c39b0,H⟩:=H;have c39b1:decide (0 < qc.length)=true:=decide_eq_true (by have:=of_decide_eq_true c39b0; omega);replace H:=ip H;obtain ⟨c40b0,H⟩ | ⟨c40b0,H⟩:=H
         ·obtain rfl:=Option.some.inj H;obtain ⟨_,_,_,_,_,_,_,_,_,_,_,_,_,_⟩:=cells7 qa.out;obtain ⟨qcb,rfl,yi,Jf,Je⟩:=el0_int jd 0 (h0:=by decide);replace Jf:=of_eq_true Jf;replace Je:=of_eq_true Je;have qc3:(0 < qc.length)=True:=eq_true (by omega);(try rw [show ((0:Int)).toNat=0 from rfl] at yi)
          (try rw [Addr.add_zero'] at yi)
          replace yi:=pw_cell_below HB.out yi;replace Jf:=eq_true Jf;replace Je:=eq_true Je;go_wp2;go_ret;exact ⟨o1,bs⟩
         ·replace H:=ih H;obtain ⟨c42b0,H⟩ | ⟨c42b0,H⟩:=H
          ·obtain rfl:=Option.some.inj H;obtain ⟨_,_,_,_,_,_,_,_,_,_,_,_,_,_⟩:=cells7 qa.out;obtain ⟨qcb,rfl,yi,Jf,Je⟩:=el0_int jd 0 (h0:=by decide);replace Jf:=of_eq_true Jf;replace Je:=of_eq_true Je;have qc3:(0 < qc.length)=True:=eq_true (by omega);(try rw [show ((0:Int)).toNat=0 from rfl] at yi)
           (try rw [Addr.add_zero'] at yi)
           replace yi:=pw_cell_below HB.out yi;replace Jf:=eq_true Jf;replace Je:=eq_true Je;obtain ⟨zU,JA,Jz⟩:=el20_int jd 0 (h0:=by decide);replace JA:=of_eq_true JA;replace Jz:=of_eq_true Jz;have qc2:(0 < qc.length)=True:=eq_true (by omega);(try rw [show ((0:Int)).toNat=0 from rfl] at zU)
           (try rw [Addr.add_zero'] at zU)
           replace zU:=pw_cell_below HB.out zU;replace JA:=eq_true JA;replace Jz:=eq_true Jz;go_wp2;go_ret;exact ⟨o1,bs⟩
          ·replace H:=ipN H;obtain ⟨c44b0,H⟩:=H;have c44b1:decide (1 < qc.length)=true:=decide_eq_true (by have:=of_decide_eq_true c44b0; omega);replace H:=ih H;obtain ⟨c45b0,H⟩ | ⟨c45b0,H⟩:=H
           ·obtain rfl:=Option.some.inj H;obtain ⟨_,_,_,_,_,_,_,_,_,_,_,_,_,_⟩:=cells7 qa.out;obtain ⟨qcb,rfl,yi,Jf,Je⟩:=el0_int jd 0 (h0:=by decide);replace Jf:=of_eq_true Jf;replace Je:=of_eq_true Je;have qc3:(0 < qc.length)=True:=eq_true (by omega);(try rw [show ((0:Int)).toNat=0 from rfl] at yi)
            (try rw [Addr.add_zero'] at yi)
            replace yi:=pw_cell_below HB.out yi;replace Jf:=eq_true Jf;replace Je:=eq_true Je;obtain ⟨zU,JA,Jz⟩:=el20_int jd 0 (h0:=by decide);replace JA:=of_eq_true JA;replace Jz:=of_eq_true Jz;have qc2:(0 < qc.length)=True:=eq_true (by omega);(try rw [show ((0:Int)).toNat=0 from rfl] at zU)
            (try rw [Addr.add_zero'] at zU)
            replace zU:=pw_cell_below HB.out zU;replace JA:=eq_true JA;replace Jz:=eq_true Jz;obtain ⟨QU,YA,Yz⟩:=el20_int jd 1 (h0:=by decide);replace YA:=of_eq_true YA;replace Yz:=of_eq_true Yz;(try simp only [show (1:Int).toNat=1 from rfl,Nat.reduceMul,Nat.reduceEqDiff,Go.Addr.add,↓reduceIte] at QU)
            have qiq:(1 < qc.length)=True:=eq_true (by omega);(try rw [show ((1:Int)).toNat=1 from rfl] at QU)
            replace QU:=pw_cell_below HB.out QU;replace YA:=eq_true YA;replace Yz:=eq_true Yz;obtain ⟨Qz,Yn,Yl⟩:=el20_int jd 1 (h0:=by decide);replace Yn:=of_eq_true Yn;replace Yl:=of_eq_true Yl;(try simp only [show (1:Int).toNat=1 from rfl,Nat.reduceMul,Nat.reduceEqDiff,Go.Addr.add,↓reduceIte] at Qz)
            have qip:(1 < qc.length)=True:=eq_true (by omega);(try rw [show ((1:Int)).toNat=1 from rfl] at Qz)
            replace Qz:=pw_cell_below HB.out Qz;replace Yn:=eq_true Yn;replace Yl:=eq_true Yl;go_wp2;go_ret;exact ⟨o1,bs⟩
           ·obtain rfl:=Option.some.inj H;obtain ⟨_,_,_,_,_,_,_,_,_,_,_,_,_,_⟩:=cells7 qa.out;obtain ⟨qcb,rfl,yi,Jf,Je⟩:=el0_int jd 0 (h0:=by decide);replace Jf:=of_eq_true Jf;replace Je:=of_eq_true Je;have qc3:(0 < qc.length)=True:=eq_true (by omega);(try rw [show ((0:Int)).toNat=0 from rfl] at yi)
            (try rw [Addr.add_zero'] at yi)
            replace yi:=pw_cell_below HB.out yi;replace Jf:=eq_true Jf;replace Je:=eq_true Je;obtain ⟨zU,JA,Jz⟩:=el20_int jd 0 (h0:=by decide);replace JA:=of_eq_true JA;replace Jz:=of_eq_true Jz;have qc2:(0 < qc.length)=True:=eq_true (by omega);(try rw [show ((0:Int)).toNat=0 from rfl] at zU)
            (try rw [Addr.add_zero'] at zU)
            replace zU:=pw_cell_below HB.out zU;replace JA:=eq_true JA;replace Jz:=eq_true Jz;obtain ⟨QU,YA,Yz⟩:=el20_int jd 1 (h0:=by decide);replace YA:=of_eq_true YA;replace Yz:=of_eq_true Yz;(try simp only [show (1:Int).toNat=1 from rfl,Nat.reduceMul,Nat.reduceEqDiff,Go.Addr.add,↓reduceIte] at QU)
            have qiq:(1 < qc.length)=True:=eq_true (by omega);(try rw [show ((1:Int)).toNat=1 from rfl] at QU)
            replace QU:=pw_cell_below HB.out QU;replace YA:=eq_true YA;replace Yz:=eq_true Yz;go_wp2;go_ret;exact ⟨o1,bs⟩
        ·obtain rfl:=Option.some.inj H;obtain ⟨_,_,_,_,_,_,_,_,_,_,_,_,_,_⟩:=cells7 qa.out;go_wp2;go_ret;exact ⟨o1,bs⟩
       ·obtain rfl:=Option.some.inj H;obtain ⟨_,_,_,_,_,_,_,_,_,_,_,_,_,_⟩:=cells7 qa.out;go_wp2;go_ret;exact ⟨o1,bs⟩

end Go.Proofs.YtfddbkaoghdfgaaGreat.Q
