/- Printed by a program of this session (wip/myprint.py), which drives the kit's printer: functions and what their calls do. -/
import Derived.Test.YtkmchjdioplfjaaDoorProg
import Derived.Shelf.Strings.SplitShaped
import Derived.Shelf.Strconv.AtoiAll
import Derived.Shelf.Strconv.AtoiErr
import Derived.Lib.AtoiTie
import Derived.Lib.AtoiErrMem
import Derived.Below
import Derived.Deep.Draws
import Derived.Deep.AppendLies
import Derived.Maps.AppendAt
import Derived.OwnWalk
import Derived.Laws.BytesArg
import Derived.Laws.MakeOwn
import Derived.Laws.OwnMore
import Derived.Deep.OwnRows
import Derived.Tactics
import Derived.Lib.ConvBytes
import Derived.Laws.Slices
import Derived.WalkKit
import Derived.KernelRfl
import Derived.RowKit3
import Derived.Deep.LoopGhost
import Derived.Deep.QuietTactic
import Derived.BigQuiet
import Derived.WideLaws
import Derived.Deep.DeepCutAuto
import Derived.Deep.CutBlock
import Derived.Deep.RegionHeld3
import Derived.Laws.Rows
import Derived.Lib.AppendStr
import Derived.ArgAppend
import Derived.Laws.IdiomCopy
import Derived.OrdersHeld
import Derived.Laws.BitsLemmas
import Derived.RowKit
import Derived.WalkSpells
import Derived.WalkLawsBesides
import Derived.Shelf.Abstract
import Derived.Test.YtkmchjdioplfjaaDoorVFnExactDottedRead
import Derived.Shelf.Strconv.Itoa3
import Derived.Shelf.Strings.OnBuilder
import Derived.Shelf.Slices.ReverseS
import Derived.Lib.AppendIntMem
import Derived.IntWalk
import Derived.Laws.IdiomStrings
import Derived.Lib.ItoaLen
import Derived.Deep.RegionLaw
import Derived.Maps.Own
import Derived.Maps.Views
import Derived.Deep.CutRange
namespace Go.Proofs.YtkmchjdioplfjaaDoor.Q
open Go.RowKit Go Go.Proofs.YtkmchjdioplfjaaDoorW.PrintWords Go.Proofs.YtkmchjdioplfjaaDoorW.PrintLast Go.Proofs.YtkmchjdioplfjaaDoorW.PrintMore

set_option linter.unusedVariables false
set_option linter.unusedSimpArgs false

def lays146_ren : Go.Shelf.Ren := ⟨fun | 146 => 45 | 221 => 77 | 268 => 102 | 138 => 103 | 143 => 104 | 195 => 117 | 197 => 118 | 218 => 119 | 219 => 120 | 260 => 132 | 217 => 133 | 225 => 134 | 224 => 135 | 267 => 136 | 266 => 147 | 314 => 148 | n => n, fun | 9 => 9 | 31 => 57 | 3 => 3 | 4 => 4 | 0 => 0 | 105 => 115 | 21 => 21 | 5 => 5 | 46 => 68 | 119 => 144 | 139 => 147 | 138 => 146 | 146 => 148 | 51 => 141 | n => n, fun | 1 => 2 | 3 => 4 | 4 => 5 | n => n⟩
theorem lays146 : Go.Proofs.LaysM.n146 Tryd.prog lays146_ren := {
  mixed := (by kernel_rfl),
  f138 := Tryd.func103.trans (congrArg some (by kernel_rfl)),
  f143 := Tryd.func104.trans (congrArg some (by kernel_rfl)),
  f146 := Tryd.func45.trans (congrArg some (by kernel_rfl)),
  f195 := Tryd.func117.trans (congrArg some (by kernel_rfl)),
  f197 := Tryd.func118.trans (congrArg some (by kernel_rfl)),
  f217 := Tryd.func133.trans (congrArg some (by kernel_rfl)),
  f218 := Tryd.func119.trans (congrArg some (by kernel_rfl)),
  f219 := Tryd.func120.trans (congrArg some (by kernel_rfl)),
  f221 := Tryd.func77.trans (congrArg some (by kernel_rfl)),
  f224 := Tryd.func135.trans (congrArg some (by kernel_rfl)),
  f225 := Tryd.func134.trans (congrArg some (by kernel_rfl)),
  f260 := Tryd.func132.trans (congrArg some (by kernel_rfl)),
  f266 := Tryd.func147.trans (congrArg some (by kernel_rfl)),
  f267 := Tryd.func136.trans (congrArg some (by kernel_rfl)),
  f268 := Tryd.func102.trans (congrArg some (by kernel_rfl)),
  f314 := Tryd.func148.trans (congrArg some (by kernel_rfl)),
  t0 := Tryd.underlying0,
  a0 := Tryd.isAgg0,
  z0 := Tryd.sizeOf0,
  v0 := Tryd.zeroValue0,
  t3 := Tryd.underlying3,
  a3 := Tryd.isAgg3,
  z3 := Tryd.sizeOf3,
  v3 := Tryd.zeroValue3,
  t4 := Tryd.underlying4,
  a4 := Tryd.isAgg4,
  z4 := Tryd.sizeOf4,
  v4 := Tryd.zeroValue4,
  t5 := Tryd.underlying5,
  a5 := Tryd.isAgg5,
  z5 := Tryd.sizeOf5,
  v5 := Tryd.zeroValue5,
  t9 := Tryd.underlying9,
  a9 := Tryd.isAgg9,
  z9 := Tryd.sizeOf9,
  v9 := Tryd.zeroValue9,
  t21 := Tryd.underlying21,
  a21 := Tryd.isAgg21,
  z21 := Tryd.sizeOf21,
  v21 := Tryd.zeroValue21,
  t31 := Tryd.underlying57,
  a31 := Tryd.isAgg57,
  z31 := Tryd.sizeOf57,
  v31 := Tryd.zeroValue57,
  t46 := Tryd.underlying68,
  a46 := Tryd.isAgg68,
  z46 := Tryd.sizeOf68,
  v46 := Tryd.zeroValue68,
  t51 := Tryd.underlying141,
  a51 := Tryd.isAgg141,
  z51 := Tryd.sizeOf141,
  v51 := Tryd.zeroValue141,
  t105 := Tryd.underlying115,
  a105 := Tryd.isAgg115,
  z105 := Tryd.sizeOf115,
  v105 := Tryd.zeroValue115,
  t119 := Tryd.underlying144,
  a119 := Tryd.isAgg144,
  z119 := Tryd.sizeOf144,
  t138 := Tryd.underlying146,
  a138 := Tryd.isAgg146,
  z138 := Tryd.sizeOf146,
  v138 := Tryd.zeroValue146,
  t139 := Tryd.underlying147,
  a139 := Tryd.isAgg147,
  z139 := Tryd.sizeOf147,
  v139 := Tryd.zeroValue147,
  t146 := Tryd.underlying148,
  a146 := Tryd.isAgg148,
  z146 := Tryd.sizeOf148,
  v146 := Tryd.zeroValue148,
  g1 := (by kernel_rfl),
  g3 := (by kernel_rfl),
  g4 := (by kernel_rfl),
  i0 := (by kernel_rfl),
  i3 := (by kernel_rfl),
  i4 := (by kernel_rfl),
  i5 := (by kernel_rfl),
  i9 := (by kernel_rfl),
  i21 := (by kernel_rfl),
  i31 := (by kernel_rfl),
  i46 := (by kernel_rfl),
  i51 := (by kernel_rfl),
  i105 := (by kernel_rfl),
  i138 := (by kernel_rfl),
  i139 := (by kernel_rfl),
  i146 := (by kernel_rfl),
  m1 := (by kernel_rfl),
  s1_3 := (fun w h => Go.Proofs.cell_of_shapedOpen_int (zero := #[.int .i64 0]) (t := 3) h (of_decide_eq_true (by kernel_rfl)) (by kernel_rfl) rfl (by kernel_rfl) (by kernel_rfl) Tryd.underlying3),
  m3 := (by kernel_rfl),
  m4 := (by kernel_rfl) }
def lays172_ren : Go.Shelf.Ren := ⟨fun | 172 => 46 | 244 => 78 | 245 => 79 | 247 => 105 | 279 => 106 | 280 => 107 | 281 => 108 | 282 => 109 | 287 => 121 | 316 => 122 | 171 => 74 | 205 => 123 | 321 => 137 | 322 => 138 | 243 => 101 | 246 => 116 | 283 => 128 | 284 => 129 | 285 => 130 | 286 => 131 | 129 => 143 | 317 => 142 | 318 => 144 | 319 => 145 | 320 => 146 | 337 => 150 | 338 => 151 | n => n, fun | 9 => 9 | 3 => 3 | 75 => 64 | 76 => 65 | 4 => 4 | 5 => 5 | 167 => 103 | 37 => 22 | 0 => 0 | 85 => 104 | 2 => 2 | 168 => 106 | 53 => 118 | 175 => 119 | 46 => 68 | 210 => 123 | 127 => 100 | 145 => 137 | 143 => 135 | 21 => 21 | 171 => 127 | 173 => 130 | 212 => 140 | 51 => 141 | 20 => 20 | 213 => 142 | 232 => 152 | 233 => 153 | 80 => 82 | n => n, fun | 15 => 0 | 16 => 1 | 17 => 3 | 18 => 6 | 19 => 7 | n => n⟩
theorem lays172 : Go.Proofs.LaysC.n172 Tryd.prog lays172_ren := {
  mixed := (by kernel_rfl),
  f129 := Tryd.func143.trans (congrArg some (by kernel_rfl)),
  f171 := Tryd.func74.trans (congrArg some (by kernel_rfl)),
  f172 := Tryd.func46.trans (congrArg some (by kernel_rfl)),
  f205 := Tryd.func123.trans (congrArg some (by kernel_rfl)),
  f243 := Tryd.func101.trans (congrArg some (by kernel_rfl)),
  f244 := Tryd.func78.trans (congrArg some (by kernel_rfl)),
  f245 := Tryd.func79.trans (congrArg some (by kernel_rfl)),
  f246 := Tryd.func116.trans (congrArg some (by kernel_rfl)),
  f247 := Tryd.func105.trans (congrArg some (by kernel_rfl)),
  f279 := Tryd.func106.trans (congrArg some (by kernel_rfl)),
  f280 := Tryd.func107.trans (congrArg some (by kernel_rfl)),
  f281 := Tryd.func108.trans (congrArg some (by kernel_rfl)),
  f282 := Tryd.func109.trans (congrArg some (by kernel_rfl)),
  f283 := Tryd.func128.trans (congrArg some (by kernel_rfl)),
  f284 := Tryd.func129.trans (congrArg some (by kernel_rfl)),
  f285 := Tryd.func130.trans (congrArg some (by kernel_rfl)),
  f286 := Tryd.func131.trans (congrArg some (by kernel_rfl)),
  f287 := Tryd.func121.trans (congrArg some (by kernel_rfl)),
  f316 := Tryd.func122.trans (congrArg some (by kernel_rfl)),
  f317 := Tryd.func142.trans (congrArg some (by kernel_rfl)),
  f318 := Tryd.func144.trans (congrArg some (by kernel_rfl)),
  f319 := Tryd.func145.trans (congrArg some (by kernel_rfl)),
  f320 := Tryd.func146.trans (congrArg some (by kernel_rfl)),
  f321 := Tryd.func137.trans (congrArg some (by kernel_rfl)),
  f322 := Tryd.func138.trans (congrArg some (by kernel_rfl)),
  f337 := Tryd.func150.trans (congrArg some (by kernel_rfl)),
  f338 := Tryd.func151.trans (congrArg some (by kernel_rfl)),
  t0 := Tryd.underlying0,
  a0 := Tryd.isAgg0,
  z0 := Tryd.sizeOf0,
  v0 := Tryd.zeroValue0,
  t2 := Tryd.underlying2,
  a2 := Tryd.isAgg2,
  z2 := Tryd.sizeOf2,
  v2 := Tryd.zeroValue2,
  t3 := Tryd.underlying3,
  a3 := Tryd.isAgg3,
  z3 := Tryd.sizeOf3,
  v3 := Tryd.zeroValue3,
  t4 := Tryd.underlying4,
  a4 := Tryd.isAgg4,
  z4 := Tryd.sizeOf4,
  v4 := Tryd.zeroValue4,
  t5 := Tryd.underlying5,
  a5 := Tryd.isAgg5,
  z5 := Tryd.sizeOf5,
  v5 := Tryd.zeroValue5,
  t9 := Tryd.underlying9,
  a9 := Tryd.isAgg9,
  z9 := Tryd.sizeOf9,
  v9 := Tryd.zeroValue9,
  t20 := Tryd.underlying20,
  a20 := Tryd.isAgg20,
  z20 := Tryd.sizeOf20,
  v20 := Tryd.zeroValue20,
  t21 := Tryd.underlying21,
  a21 := Tryd.isAgg21,
  z21 := Tryd.sizeOf21,
  v21 := Tryd.zeroValue21,
  t37 := Tryd.underlying22,
  a37 := Tryd.isAgg22,
  z37 := Tryd.sizeOf22,
  v37 := Tryd.zeroValue22,
  t46 := Tryd.underlying68,
  a46 := Tryd.isAgg68,
  z46 := Tryd.sizeOf68,
  v46 := Tryd.zeroValue68,
  t51 := Tryd.underlying141,
  a51 := Tryd.isAgg141,
  z51 := Tryd.sizeOf141,
  v51 := Tryd.zeroValue141,
  t53 := Tryd.underlying118,
  a53 := Tryd.isAgg118,
  z53 := Tryd.sizeOf118,
  v53 := Tryd.zeroValue118,
  t75 := Tryd.underlying64,
  a75 := Tryd.isAgg64,
  z75 := Tryd.sizeOf64,
  v75 := Tryd.zeroValue64,
  t76 := Tryd.underlying65,
  a76 := Tryd.isAgg65,
  z76 := Tryd.sizeOf65,
  v76 := Tryd.zeroValue65,
  t85 := Tryd.underlying104,
  a85 := Tryd.isAgg104,
  z85 := Tryd.sizeOf104,
  v85 := Tryd.zeroValue104,
  t127 := Tryd.underlying100,
  a127 := Tryd.isAgg100,
  z127 := Tryd.sizeOf100,
  v127 := Tryd.zeroValue100,
  t143 := Tryd.underlying135,
  a143 := Tryd.isAgg135,
  z143 := Tryd.sizeOf135,
  v143 := Tryd.zeroValue135,
  t145 := Tryd.underlying137,
  a145 := Tryd.isAgg137,
  z145 := Tryd.sizeOf137,
  v145 := Tryd.zeroValue137,
  t167 := Tryd.underlying103,
  a167 := Tryd.isAgg103,
  z167 := Tryd.sizeOf103,
  v167 := Tryd.zeroValue103,
  t168 := Tryd.underlying106,
  a168 := Tryd.isAgg106,
  z168 := Tryd.sizeOf106,
  v168 := Tryd.zeroValue106,
  t171 := Tryd.underlying127,
  a171 := Tryd.isAgg127,
  z171 := Tryd.sizeOf127,
  v171 := Tryd.zeroValue127,
  t173 := Tryd.underlying130,
  a173 := Tryd.isAgg130,
  z173 := Tryd.sizeOf130,
  v173 := Tryd.zeroValue130,
  t175 := Tryd.underlying119,
  a175 := Tryd.isAgg119,
  z175 := Tryd.sizeOf119,
  v175 := Tryd.zeroValue119,
  t210 := Tryd.underlying123,
  a210 := Tryd.isAgg123,
  z210 := Tryd.sizeOf123,
  v210 := Tryd.zeroValue123,
  t212 := Tryd.underlying140,
  a212 := Tryd.isAgg140,
  z212 := Tryd.sizeOf140,
  v212 := Tryd.zeroValue140,
  t213 := Tryd.underlying142,
  a213 := Tryd.isAgg142,
  z213 := Tryd.sizeOf142,
  t232 := Tryd.underlying152,
  a232 := Tryd.isAgg152,
  z232 := Tryd.sizeOf152,
  v232 := Tryd.zeroValue152,
  t233 := Tryd.underlying153,
  a233 := Tryd.isAgg153,
  z233 := Tryd.sizeOf153,
  v233 := Tryd.zeroValue153,
  g15 := (by kernel_rfl),
  g16 := (by kernel_rfl),
  g17 := (by kernel_rfl),
  g18 := (by kernel_rfl),
  g19 := (by kernel_rfl),
  t80 := Tryd.underlying82,
  a80 := Tryd.isAgg82,
  z80 := Tryd.sizeOf82,
  v80 := Tryd.zeroValue82,
  i0 := (by kernel_rfl),
  i2 := (by kernel_rfl),
  i3 := (by kernel_rfl),
  i4 := (by kernel_rfl),
  i5 := (by kernel_rfl),
  i9 := (by kernel_rfl),
  i20 := (by kernel_rfl),
  i21 := (by kernel_rfl),
  i37 := (by kernel_rfl),
  i46 := (by kernel_rfl),
  i51 := (by kernel_rfl),
  i53 := (by kernel_rfl),
  i75 := (by kernel_rfl),
  i76 := (by kernel_rfl),
  i80 := (by kernel_rfl),
  i85 := (by kernel_rfl),
  i127 := (by kernel_rfl),
  i143 := (by kernel_rfl),
  i145 := (by kernel_rfl),
  i167 := (by kernel_rfl),
  i168 := (by kernel_rfl),
  i171 := (by kernel_rfl),
  i173 := (by kernel_rfl),
  i175 := (by kernel_rfl),
  i210 := (by kernel_rfl),
  i212 := (by kernel_rfl),
  i232 := (by kernel_rfl),
  i233 := (by kernel_rfl),
  m15 := (by kernel_rfl),
  m16 := (by kernel_rfl),
  m17 := (by kernel_rfl),
  m18 := (by kernel_rfl),
  m19 := (by kernel_rfl),
  c0 := (by kernel_rfl),
  c2 := (by kernel_rfl),
  c3 := (by kernel_rfl),
  c4 := (by kernel_rfl),
  c5 := (by kernel_rfl),
  c9 := (by kernel_rfl),
  c20 := (by kernel_rfl),
  c21 := (by kernel_rfl),
  c37 := (by kernel_rfl),
  c46 := (by kernel_rfl),
  c51 := (by kernel_rfl),
  c53 := (by kernel_rfl),
  c75 := (by kernel_rfl),
  c76 := (by kernel_rfl),
  c80 := (by kernel_rfl),
  c85 := (by kernel_rfl),
  c127 := (by kernel_rfl),
  c143 := (by kernel_rfl),
  c145 := (by kernel_rfl),
  c167 := (by kernel_rfl),
  c168 := (by kernel_rfl),
  c171 := (by kernel_rfl),
  c173 := (by kernel_rfl),
  c175 := (by kernel_rfl),
  c210 := (by kernel_rfl),
  c212 := (by kernel_rfl),
  c213 := (by kernel_rfl),
  c232 := (by kernel_rfl),
  c233 := (by kernel_rfl) }

def dotB : ByteArray := ⟨#[46]⟩
theorem split_any (s : ByteArray) (m : Int) (w : World) (hs : s.size < 4294967281) (hm : w.cell? ⟨2, 0, none⟩ = some (.int .i64 m)) :
    Calls Tryd.prog 45 #[.string s, .string dotB] w fun e w' => e = .returned (.slice (some ⟨w.heap.size, 0, none⟩) (Lib.countB s dotB + 1) (Lib.countB s dotB + 1)) ∧ w' = w.alloc (.cells ((Lib.splitB dotB 0 (Lib.countB s dotB) s).map Value.string).toArray 9) :=
  Any.strings_Split { lays146 with } lays146.i9 s dotB m w hs hm (by decide)
theorem atoi_some (s : ByteArray) (hl : s.size ≤ 18) (n : Int) (h : Lib.atoi s.data.toList = some n) (w : World) :
    Calls Tryd.prog 46 #[.string s] w fun e w' => e = .returned (.tuple #[.int .i64 n, .nilIface]) ∧ Below w.heap.size w w' :=
  (Any.strconv_Atoi_ok lays172 s (by omega) n (by rw [Lib.atoiAll_short _ hl, h]; rfl) w).mono fun e w' h => ⟨h.1, by
    rcases h.2 with rfl | ⟨t, rfl⟩
    · exact Below.refl _ _
    · exact Lib.bytesWorld_below _ _ _⟩
theorem atoi_none (s : ByteArray) (hl : s.size ≤ 18) (h : Lib.atoi s.data.toList = none) (ev : Value) (w : World) (hv : w.cell? ⟨0, 0, none⟩ = some ev) (hev : ev = .nilIface ∨ ∃ te pe, ev = .iface te pe) :
    Calls Tryd.prog 46 #[.string s] w fun e w' => ∃ t N, e = .returned (.tuple #[.int .i64 0, .iface t (.pointer (some ⟨N, 0, none⟩))]) ∧ Below w.heap.size w w' :=
  (Any.strconv_Atoi_err lays172 s hl h ev w hv hev).mono fun e w' h => by
    obtain ⟨N, he, _, _, hb⟩ := h
    exact ⟨_, N, he, hb⟩

theorem info5 : (Tryd.prog.info? 5).map (fun i => (i.zero, i.size, i.bytes)) = some (some (.int .u8 0), 1, 1) := by kernel_rfl
theorem info9 : (Tryd.prog.info? 9).map (fun i => (i.zero, i.size, i.bytes)) = some (some (.string ⟨#[]⟩), 1, 16) := by kernel_rfl
-- the values' own types
/-! #### struct type 7 -/
/-! #### struct type 8 -/
/-! #### struct type 13 -/
/-! #### struct type 14 -/
/-! #### struct type 28 -/
/-! #### struct type 29 -/
/-! #### struct type 44 -/
/-! #### struct type 46 -/
/-! #### struct type 47 -/
/-! #### struct type 50 -/
/-! #### struct type 51 -/
/-! #### struct type 93 -/
/-! #### struct type 94 -/
/-! #### struct type 136 -/
/-! #### struct type 137 -/
/-! #### struct type 145 -/
/-! #### struct type 146 -/
/-- One world is another one with blocks made and draws taken. -/
def Gr (A W : World) : Prop := Below A.heap.size A W
instance Gr.refl_ (A : World) : Nonempty (Gr A A) := ⟨Below.refl _ _⟩
instance Gr.alloc_ (A W : World) (o : Obj) [h : Nonempty (Gr A W)] : Nonempty (Gr A (W.alloc o)) := h.elim fun h => ⟨below_alloc h o⟩
instance Gr.drew_ (A W : World) [h : Nonempty (Gr A W)] : Nonempty (Gr A W.drew) := h.elim fun h => ⟨below_drew h⟩
instance Gr.drewN_ (A W : World) (n : Nat) [h : Nonempty (Gr A W)] : Nonempty (Gr A (W.drewN n)) := h.elim fun h => ⟨pw_below_drewN h n⟩
section
variable {α : Type} {d : Kd α} {e base n : Nat} {ok : Nat → Prop} {w W W' : World} {v : Value} {xs : List α} {A : Option Addr}
theorem bw (h : Below w.heap.size w W) [g : Nonempty (Gr W W')] : Below w.heap.size w W' := g.elim fun g => below_step h g
theorem rw_ (h : d.R e W base ok v xs) [g : Nonempty (Gr W W')] : d.R e W' base ok v xs := g.elim fun g => Kd.R_below h g
end
section
variable {W : World} {g t : Nat} {a b c d e f x y z : Value}
end
section
variable {P : Program} {ops : Array Oper} {rest : List Oper} {o : Oper} {a : Act} {Q : Exit → Act → World → Prop}
end
section
variable {α : Type} {d : Kd α} {e base g k t : Nat} {ok : Nat → Prop} {W : World} {v : Value} {xs : List α} {cs : Array Value} {l : List Nat}
end
/-- Which operations of a region are done: n places, told by a number's bits. -/
def bA (n m : Nat) : Array Bool := ((List.range n).map fun i => m.testBit i).toArray
section
variable {α : Type} {d : Kd α} {e base g g' t : Nat} {ok : Nat → Prop} {W W1 : World} {v : Value} {xs : List α} {cs : Array Value} {fr : Nat × Nat}
end

section
variable {α β : Type} {A B r : Option α}
theorem bnd {o : Option β} {f : β → Option α} {r : α} (h : o.bind f = some r) : ∃ x, Aside0 (o = some x) ∧ f x = some r := (Option.bind_eq_some_iff.mp h).elim fun x h => ⟨x, ⟨h.1⟩, h.2⟩
theorem bnS {x : β} {f : β → Option α} (h : (some x).bind f = r) : f x = r := h
theorem ib {t : Bool} (h : (if t = true then A else B) = r) : (t = true ∧ A = r) ∨ (t = false ∧ B = r) := by cases t; exact .inr ⟨rfl, h⟩; exact .inl ⟨rfl, h⟩
section
variable {p : Prop} [Decidable p]
theorem iq (h : (if p then A else B) = r) : (p ∧ A = r) ∨ (¬ p ∧ B = r) := by
  by_cases c : p
  · exact .inl ⟨c, by rwa [if_pos c] at h⟩
  · exact .inr ⟨c, by rwa [if_neg c] at h⟩
theorem iqN {r : α} (h : (if p then A else none) = some r) : p ∧ A = some r := by
  obtain h | h := iq h
  · exact h
  · cases h.2
theorem ip (h : (if p then A else B) = r) : (decide p = true ∧ A = r) ∨ (decide p = false ∧ B = r) := (iq h).imp (fun h => ⟨decide_eq_true h.1, h.2⟩) (fun h => ⟨decide_eq_false h.1, h.2⟩)
theorem ipN {r : α} (h : (if p then A else none) = some r) : decide p = true ∧ A = some r := ⟨decide_eq_true (iqN h).1, (iqN h).2⟩
theorem ipE {r : α} (h : (if p then A else none) = some r) : p = True ∧ decide p = true ∧ A = some r := ⟨eq_true (iqN h).1, decide_eq_true (iqN h).1, (iqN h).2⟩
end
section
variable {a b : Int}
theorem ig (h : (if a > b then A else B) = r) : (decide (b < a) = true ∧ A = r) ∨ (decide (b < a) = false ∧ B = r) := ip h
theorem ih (h : (if a ≥ b then A else B) = r) : (decide (b ≤ a) = true ∧ A = r) ∨ (decide (b ≤ a) = false ∧ B = r) := ip h
end
section
variable {τ : Type} [BEq τ] [LawfulBEq τ] {a b : τ} [Decidable (a = b)]
theorem ie (h : (if a = b then A else B) = r) : ((a == b) = true ∧ (a != b) = false ∧ A = r) ∨ ((a == b) = false ∧ (a != b) = true ∧ B = r) := (iq h).imp (fun h => ⟨beq_iff_eq.mpr h.1, bne_eq_false_iff_eq.mpr h.1, h.2⟩) (fun h => ⟨beq_eq_false_iff_ne.mpr h.1, bne_iff_ne.mpr h.1, h.2⟩)
end
end
theorem lnT {a b : Nat} (h : ((a : Int) == (b : Int)) = true) : (a == b) = true := by have := beq_iff_eq.mp h; exact beq_iff_eq.mpr (by omega)
theorem lnF {a b : Nat} (h : ((a : Int) == (b : Int)) = false) : (a == b) = false := by have := beq_eq_false_iff_ne.mp h; exact beq_eq_false_iff_ne.mpr (by omega)
section
variable {α : Type} {d : Kd α} {e base n g t : Nat} {ok : Nat → Prop} {w W W' W2 : World} {v : Value} {xs : List α} {A : Option Addr} {o : Obj}
theorem ak {p : Prop} (h : p) : Aside0 p := ⟨h⟩
theorem b2 (h : Aside0 (Below w.heap.size w W)) [Nonempty (Gr W W')] (hb : Below W'.heap.size W' W2) : Aside0 (Below w.heap.size w W2) := ⟨below_step (bw h.out) hb⟩
theorem b2s (h : Below w.heap.size w W) (hb : Below W.heap.size W W2) : Aside0 (Below w.heap.size w W2) := ⟨below_step h hb⟩
end
theorem o1 {p : Prop} (h : p := by first | rfl | (simp [errW_none, errW_some] <;> rfl) | (simp [*, errW_none, errW_some] <;> rfl)) : p := h
theorem o2 {p : Prop} (h : p := by first | rfl | (simp; done) | (simp [*]; done)) : p := h
theorem od {p : Prop} (h : p := by repeat (first | exact Drawn0.refl _ | apply Drawn0.step)) : p := h
section
variable {P : Program} {ops : Array Oper} {rest : List Oper} {oi : Oper} {a : Act} {Q : Exit → Act → World → Prop}
/-- A call. -/
theorem glG {w : World} (N : Tmp) (hd : oi.dst = some N) {f : FuncId} {fn : Func} {zs : Array Operand} {ts : Array TypeId} (hop : oi.op = .call { callee := .value (.func f), args := zs, argTypes := ts }) (hf : P.funcs[f]? = some fn) {args : Array Value} {R : Ending → World → Prop} (hc : Calls P f args w R)
    (h : ∀ e w', R e w' → ∃ v, e = .returned v ∧ wpList P ops Q rest (a.put (some N) v) w') (hg : oi.guard = none := by rfl)
    (hname : (fn.name == "runtime.NumGoroutine") = false := by kernel_rfl) (hb : fn.body.isSome = true := by rfl)
    (hargs : zs.map a.eval = args := by (try simp only [List.map_toArray, List.map_cons, List.map_nil]); first | done | rfl | (simp only [List.length_drop, List.length_take]; rfl)) : wpList P ops Q (oi :: rest) a w :=
  goesL_ (some N) hd hg hf hname hb args hop hargs (hc.mono h)
theorem glD {w : World} (N : Tmp) (hd : oi.dst = some N) {f : FuncId} {fn : Func} {zs : Array Operand} {ts : Array TypeId} (hop : oi.op = .call { callee := .value (.func f), args := zs, argTypes := ts }) (hf : P.funcs[f]? = some fn) {args : Array Value} {v : Value} (hc : Calls P f args w fun e w' => e = .returned v ∧ Drawn0 w w')
    (h : ∀ nd, wpList P ops Q rest (a.put (some N) v) (w.drewN nd)) (hg : oi.guard = none := by rfl)
    (hname : (fn.name == "runtime.NumGoroutine") = false := by kernel_rfl) (hb : fn.body.isSome = true := by rfl)
    (hargs : zs.map a.eval = args := by (try simp only [List.map_toArray, List.map_cons, List.map_nil]); first | done | rfl | (simp only [List.length_drop, List.length_take]; rfl)) : wpList P ops Q (oi :: rest) a w :=
  goesL_ (some N) hd hg hf hname hb args hop hargs (hc.mono fun e w' h2 => ⟨v, h2.1, by obtain ⟨nd, rfl⟩ := h2.2; exact h nd⟩)
end
section
variable {P : Program} {ops : Array Oper} {oi : Oper} {Q : Exit → Act → World → Prop} {md : Region.Mode} {S : World → Prop} {ds : List Nat} {T : Bool × List (List Nat × List Nat)} {n m fuel : Nat} {a a' : Act} {w : World}
/-- Steps of a region: one that yields a value; one that is not wanted; a load; a call. -/
theorem pu (hT : Aside0 (rtab md ops = T)) (i : Nat) {N : Nat} {v : Value} (h : wpAnyLast P md ops Q S ds fuel (bA n (m + 2 ^ i)) a' w) (hi : ops[i]? = some oi := by rfl) (hN : oi.dst = some N := by rfl)
    (hc : anyT T (bA n m).toList (bA n (m + 2 ^ i)).toList i = true := by kernel_rfl) (hw : Region.wanted oi (yielded ops a.tmps) = true := by rfl)
    (hy : ∀ w, (execOp a.eval oi).run P w = .ok (.value v) w := by intro w'; go_simp; with_reducible rfl) (ha : a.put (some N) v = a' := by go_simp; rfl)
    (hQ : ∀ c a w, Q (.panic c) (a.put oi.dst v) w → Q (.panic c) a w := by exact fun _ _ _ h => h) : wpAnyLast P md ops Q S ds (fuel + 1) (bA n m) a w :=
  pure_ (i := i) _ hi hN (any_of hT.out hc) hQ (.inl ⟨hw, hy⟩) ha h
theorem sk (hT : Aside0 (rtab md ops = T)) (i : Nat) {N : Nat} (h : wpAnyLast P md ops Q S ds fuel (bA n (m + 2 ^ i)) a' w) (hi : ops[i]? = some oi := by rfl) (hN : oi.dst = some N := by rfl)
    (hc : anyT T (bA n m).toList (bA n (m + 2 ^ i)).toList i = true := by kernel_rfl) (hw : Region.wanted oi (yielded ops a.tmps) = false := by rfl) (ha : a.put (some N) undef = a' := by go_simp; rfl)
    (hQ : ∀ c a w, Q (.panic c) (a.put oi.dst undef) w → Q (.panic c) a w := by exact fun _ _ _ h => h) : wpAnyLast P md ops Q S ds (fuel + 1) (bA n m) a w :=
  pure_ (i := i) _ hi hN (any_of hT.out hc) hQ (.inr ⟨hw, rfl⟩) ha h
end
section
variable {P : Program} {ops : Array Oper} {rest : List Oper} {o : Oper} {a : Act} {Q : Exit → Act → World → Prop}
end
theorem el_int {k : IntKind} {xs : List Int} {w W : World} {A : Option Addr} {n : Nat} (h : Aside0 (Kd.C (Kd.int k) w A n xs)) (hb : Aside0 (Below w.heap.size w W)) (i : Int) (h0 : decide (0 ≤ i) = true := by first | (with_reducible assumption) | assumption) (h1 : decide (i < n) = true := by first | (with_reducible assumption) | assumption) : ∃ ad, A = some ad ∧ W.cell? (ad.add i.toNat) = some (.int k (rd xs i)) ∧ (0 ≤ i) = True ∧ (i < n) = True := by
  obtain ⟨ad, e, x0⟩ := Kd.at_int h.out i (of_decide_eq_true h0) (of_decide_eq_true h1)
  exact ⟨ad, e, pw_cell_below hb.out x0, eq_true (of_decide_eq_true h0), eq_true (of_decide_eq_true h1)⟩
theorem el0_int {k : IntKind} {xs : List Int} {w : World} {A : Option Addr} {n : Nat} (h : Aside0 (Kd.C (Kd.int k) w A n xs)) (i : Int) (h0 : decide (0 ≤ i) = true := by first | (with_reducible assumption) | assumption) (h1 : decide (i < n) = true := by first | (with_reducible assumption) | assumption) : ∃ ad, A = some ad ∧ w.cell? (ad.add i.toNat) = some (.int k (rd xs i)) ∧ (0 ≤ i) = True ∧ (i < n) = True := by
  obtain ⟨ad, e, x0⟩ := Kd.at_int h.out i (of_decide_eq_true h0) (of_decide_eq_true h1)
  exact ⟨ad, e, x0, eq_true (of_decide_eq_true h0), eq_true (of_decide_eq_true h1)⟩
theorem el2_int {k : IntKind} {xs : List Int} {w W : World} {ad : Addr} {n : Nat} (h : Aside0 (Kd.C (Kd.int k) w (some ad) n xs)) (hb : Aside0 (Below w.heap.size w W)) (i : Int) (h0 : decide (0 ≤ i) = true := by first | (with_reducible assumption) | assumption) (h1 : decide (i < n) = true := by first | (with_reducible assumption) | assumption) : W.cell? (ad.add i.toNat) = some (.int k (rd xs i)) ∧ (0 ≤ i) = True ∧ (i < n) = True := by
  obtain ⟨ad', e, x0⟩ := Kd.at_int h.out i (of_decide_eq_true h0) (of_decide_eq_true h1)
  obtain rfl := Option.some.inj e
  exact ⟨pw_cell_below hb.out x0, eq_true (of_decide_eq_true h0), eq_true (of_decide_eq_true h1)⟩
/-! ### impl_within: function 47 -/
def impl_within.f (a0 : Int) (a1 : Int) (a2 : Int) : Option (Bool) := if a1 ≤ a0 then (some (decide (a0 ≤ a2))) else (some false)
set_option maxHeartbeats 8000000 in
set_option maxRecDepth 100000 in
theorem impl_within.calls (a0 : Int) (a1 : Int) (a2 : Int) (r : Bool) (w : World) (h : impl_within.f a0 a1 a2 = some r) :
  Calls Tryd.prog 47 #[.int .i64 a0, .int .i64 a1, .int .i64 a2] w fun e w' => e = .returned (.bool r) ∧ Drawn0 w w' := by
 have H : (if a1 ≤ a0 then (some (decide (a0 ≤ a2))) else (some false)) = some r := h
 clear h
 replace H := ip H
 obtain ⟨c4b0, H⟩ | ⟨c4b0, H⟩ := H
 ·obtain rfl := Option.some.inj H
  go_enter Tryd.func47, Tryd.ntmps47
  go_wp2
  go_ret
  exact ⟨o2, od⟩
 ·obtain rfl := Option.some.inj H
  go_enter Tryd.func47, Tryd.ntmps47
  go_wp2
  go_ret
  exact ⟨o2, od⟩

/-! ### impl_isWord: function 37 -/
def impl_isWord.f (a0 : Int) : Option (Bool) := (impl_within.f a0 0 4294967295).bind fun t101 => (some t101)
set_option maxHeartbeats 8000000 in
set_option maxRecDepth 100000 in
theorem impl_isWord.calls (a0 : Int) (r : Bool) (w : World) (h : impl_isWord.f a0 = some r) :
  Calls Tryd.prog 37 #[.int .i64 a0] w fun e w' => e = .returned (.bool r) ∧ Drawn0 w w' := by
 have H : ((impl_within.f a0 0 4294967295).bind fun t101 => (some t101)) = some r := h
 clear h
 replace H := bnd H
 obtain ⟨t101, A2, H⟩ := H
 obtain rfl := Option.some.inj H
 go_enter Tryd.func37, Tryd.ntmps37
 go_wp2_with (((with_reducible refine gate_callee (f := 47) rfl ?_);refine glD 4 rfl rfl Tryd.func47 (impl_within.calls a0 0 4294967295 t101 _ A2.out) (fun nd => ?_)))
 go_ret
 exact ⟨o2, od⟩

/-! ### impl_two: function 54 -/
def impl_two.f (a0 : Int) : Option (List Int) := some (([(a0 / 256) % 256, (a0) % 256] : List Int))
set_option maxHeartbeats 8000000 in
set_option maxRecDepth 100000 in
theorem impl_two.calls (a0 : Int) (r : List Int) (w : World) (h : impl_two.f a0 = some r) :
  Calls Tryd.prog 54 #[.int .i64 a0] w fun e w' => ∃ v0_ : Value, e = .returned (v0_) ∧ Kd.R (Kd.int .u8) 5 w' w.heap.size (fun _ => True) v0_ r ∧ Below w.heap.size w w' := by
 have HB := ak (Below.refl w.heap.size w)
 have H : (some (([(a0 / 256) % 256, (a0) % 256] : List Int))) = some r := h
 clear h
 obtain ⟨y101, hy101⟩ : ∃ y_ : List Int, y_ = (([(a0 / 256) % 256, (a0) % 256] : List Int)) := ⟨_, rfl⟩
 (try with_reducible replace H := bnS H)
 (try rw [← hy101] at H)
 have Ny101 := ak hy101
 clear hy101
 obtain rfl := Option.some.inj H
 go_enter Tryd.func54, Tryd.ntmps54
 go_wp2_with (((with_reducible refine gate_dst (N := 8) rfl ?_);refine Kd.R_lit (Kd.int .u8) _ 5 ?hg (N := 8) ?hd (xs := ([(a0 / 256) % 256, (a0) % 256] : List Int)) (inner := [.int .u8 ((a0 / 256) % 256), .int .u8 ((a0) % 256)]) (ok := fun _ => True) (okp := fun _ => True) ?hr ?hp (fun _ hk => hk) trivial (Below.refl _ _) (Nat.le_refl _) (by simp) ?_;(case hd => rfl);(case hg => rfl);(case hr => first | (go_simp; done) | (go_simp; rfl));(case hp => exact (Reps.one (show Kd.M (Kd.int .u8) _ _ _ ((a0 / 256) % 256) [.int .u8 ((a0 / 256) % 256)] from rfl) (Reps.one (show Kd.M (Kd.int .u8) _ _ _ ((a0) % 256) [.int .u8 ((a0) % 256)] from rfl) (Reps.none _ _))));intro v102 w2 ho3 hb hg_ hnew_;clear hg_ hnew_;(first | rw [← Ny101.out] at ho3 | (simp only [Int.reduceToNat] at ho3; rw [← Ny101.out] at ho3));have HO103 := ak (Kd.R_lower ho3 (below_size (bw HB.out)));replace HB := b2 HB hb;clear hb ho3))
 go_ret
 exact ⟨_, o1, rw_ HO103.out, bw HB.out⟩

/-! ### impl_four: function 56 -/
def impl_four.f (a0 : Int) : Option (List Int) := (impl_two.f (a0 / 65536)).bind fun t101 => ((impl_two.f a0).bind fun t104 => (if t101.length + t104.length < 140737488355328 then (some (t101 ++ t104)) else (none)))
set_option maxHeartbeats 8000000 in
set_option maxRecDepth 100000 in
theorem impl_four.calls (a0 : Int) (r : List Int) (w : World) (h : impl_four.f a0 = some r) :
  Calls Tryd.prog 56 #[.int .i64 a0] w fun e w' => ∃ v0_ : Value, e = .returned (v0_) ∧ Kd.R (Kd.int .u8) 5 w' w.heap.size (fun _ => True) v0_ r ∧ Below w.heap.size w w' := by
 have HB := ak (Below.refl w.heap.size w)
 have H : ((impl_two.f (a0 / 65536)).bind fun t101 => ((impl_two.f a0).bind fun t104 => (if t101.length + t104.length < 140737488355328 then (some (t101 ++ t104)) else (none)))) = some r := h
 clear h
 replace H := bnd H
 obtain ⟨t101, A2, H⟩ := H
 replace H := bnd H
 obtain ⟨t104, A3, H⟩ := H
 by_cases c4 : t101.length + t104.length < 140737488355328
 ·rw [if_pos c4] at H
  have LMc4 := ak c4
  clear c4
  obtain ⟨y107, hy107⟩ : ∃ y_ : List Int, y_ = (t101 ++ t104) := ⟨_, rfl⟩
  (try with_reducible replace H := bnS H)
  (try rw [← hy107] at H)
  have Ny107 := ak hy107
  clear hy107
  obtain rfl := Option.some.inj H
  go_enter Tryd.func56, Tryd.ntmps56
  go_wp2_with (first | ((with_reducible refine gate_callee (f := 54) rfl ?_);refine glG 5 rfl rfl Tryd.func54 (impl_two.calls (a0 / 65536) t101 _ A2.out) ?_;rintro e w5 ⟨v102, rfl, ho0, hb⟩;refine ⟨_, rfl, ?_⟩;have HO103 := ak (Kd.R_lower ho0 (below_size (bw HB.out)));replace HB := b2 HB hb;(try clear hb);(try clear ho0)) | ((with_reducible refine gate_callee (f := 54) rfl ?_);refine glG 7 rfl rfl Tryd.func54 (impl_two.calls a0 t104 _ A3.out) ?_;rintro e w6 ⟨v105, rfl, ho0, hb⟩;refine ⟨_, rfl, ?_⟩;have HO106 := ak (Kd.R_lower (Kd.R_new' ho0 (Kd.R_lt (rw_ HO103.out))) (below_size (bw HB.out)));replace HO103 := ak (Kd.R_elder' (rw_ HO103.out) (Kd.R_base ho0) hb);replace HB := b2 HB hb;(try clear hb);(try clear ho0);obtain ⟨Ao8, co8, eo8⟩ := Kd.R_slice HO106.out;subst eo8) | ((with_reducible refine gate_builtin (b := .append) (xs := #[.tmp 5, .tmp 7]) rfl ?_);at_builtin;refine Kd.R_append_rows (Kd.int .u8) (w0 := w) w.heap.size rfl (.tmp 5) (.tmp 7) 22 5 (.int .u8 0) 1 rfl Tryd.underlying22 info5 rfl (by decide) (by omega) v102 t101 t104 _ _ _ (fun k_ => some k_ ≠ (.slice Ao8 t104.length co8 : Value).ownBlock) (fun _ => False) rfl rfl ?aO ?aR (fun _ _ h => h) (fun _ h => h.elim) ?aF ?aB ?aS ?aL ?_;(case aR => repeat (first | exact (Kd.R_reads' HO106.out).2.2 | (with_reducible refine Kd.C_alloc ?_ _) | (with_reducible refine Kd.C_drewN ?_ _) | (with_reducible refine Kd.C_drew ?_)));(case aB => exact (bw HB.out));(case aF => exact (fun k_ hk => Kd.fresh' (Kd.R_lt (rw_ HO106.out)) k_ hk));(case aO => exact (rw_ (Kd.R_mono HO103.out (fun _ hk => hk.2))));(case aS => exact (below_size (bw HB.out)));(case aL => have := LMc4.out; omega);intro v108 w7 ho hb hg hat;rw [← Ny107.out] at ho;replace HO106 := ak (Kd.R_after (ok := (fun _ => True)) (rw_ HO106.out) hg hat);replace HB := ak (hb);have HO109 := ak (ho);clear HO103;clear ho hb hg hat))
  go_ret
  exact ⟨_, o1, by (with_reducible repeat (first | apply Kd.R_alloc | apply Kd.R_drewN | apply Kd.R_drew)); exact Kd.R_mono HO109.out (fun _ hk => trivial), bw HB.out⟩
 ·rw [if_neg c4] at H
  exact absurd H (by simp)

def laysM171_ren : Go.Shelf.Ren := ⟨fun | 171 => 74 | 243 => 101 | 246 => 116 | 283 => 128 | 284 => 129 | 285 => 130 | 286 => 131 | 129 => 143 | 317 => 142 | 318 => 144 | 319 => 145 | 320 => 146 | 337 => 150 | 338 => 151 | n => n, fun | 3 => 3 | 9 => 9 | 2 => 2 | 4 => 4 | 171 => 127 | 0 => 0 | 53 => 118 | 37 => 22 | 5 => 5 | 173 => 130 | 212 => 140 | 51 => 141 | 20 => 20 | 213 => 142 | 46 => 68 | 232 => 152 | 233 => 153 | n => n, fun | 17 => 3 | 18 => 6 | 19 => 7 | n => n⟩
theorem laysM171 : Go.Proofs.LaysM.n171 Tryd.prog laysM171_ren := {
  mixed := (by kernel_rfl),
  f129 := Tryd.func143.trans (congrArg some (by kernel_rfl)),
  f171 := Tryd.func74.trans (congrArg some (by kernel_rfl)),
  f243 := Tryd.func101.trans (congrArg some (by kernel_rfl)),
  f246 := Tryd.func116.trans (congrArg some (by kernel_rfl)),
  f283 := Tryd.func128.trans (congrArg some (by kernel_rfl)),
  f284 := Tryd.func129.trans (congrArg some (by kernel_rfl)),
  f285 := Tryd.func130.trans (congrArg some (by kernel_rfl)),
  f286 := Tryd.func131.trans (congrArg some (by kernel_rfl)),
  f317 := Tryd.func142.trans (congrArg some (by kernel_rfl)),
  f318 := Tryd.func144.trans (congrArg some (by kernel_rfl)),
  f319 := Tryd.func145.trans (congrArg some (by kernel_rfl)),
  f320 := Tryd.func146.trans (congrArg some (by kernel_rfl)),
  f337 := Tryd.func150.trans (congrArg some (by kernel_rfl)),
  f338 := Tryd.func151.trans (congrArg some (by kernel_rfl)),
  t0 := Tryd.underlying0,
  a0 := Tryd.isAgg0,
  z0 := Tryd.sizeOf0,
  v0 := Tryd.zeroValue0,
  t2 := Tryd.underlying2,
  a2 := Tryd.isAgg2,
  z2 := Tryd.sizeOf2,
  v2 := Tryd.zeroValue2,
  t3 := Tryd.underlying3,
  a3 := Tryd.isAgg3,
  z3 := Tryd.sizeOf3,
  v3 := Tryd.zeroValue3,
  t4 := Tryd.underlying4,
  a4 := Tryd.isAgg4,
  z4 := Tryd.sizeOf4,
  v4 := Tryd.zeroValue4,
  t5 := Tryd.underlying5,
  a5 := Tryd.isAgg5,
  z5 := Tryd.sizeOf5,
  v5 := Tryd.zeroValue5,
  t9 := Tryd.underlying9,
  a9 := Tryd.isAgg9,
  z9 := Tryd.sizeOf9,
  v9 := Tryd.zeroValue9,
  t20 := Tryd.underlying20,
  a20 := Tryd.isAgg20,
  z20 := Tryd.sizeOf20,
  v20 := Tryd.zeroValue20,
  t37 := Tryd.underlying22,
  a37 := Tryd.isAgg22,
  z37 := Tryd.sizeOf22,
  v37 := Tryd.zeroValue22,
  t46 := Tryd.underlying68,
  a46 := Tryd.isAgg68,
  z46 := Tryd.sizeOf68,
  v46 := Tryd.zeroValue68,
  t51 := Tryd.underlying141,
  a51 := Tryd.isAgg141,
  z51 := Tryd.sizeOf141,
  v51 := Tryd.zeroValue141,
  t53 := Tryd.underlying118,
  a53 := Tryd.isAgg118,
  z53 := Tryd.sizeOf118,
  v53 := Tryd.zeroValue118,
  t171 := Tryd.underlying127,
  a171 := Tryd.isAgg127,
  z171 := Tryd.sizeOf127,
  v171 := Tryd.zeroValue127,
  t173 := Tryd.underlying130,
  a173 := Tryd.isAgg130,
  z173 := Tryd.sizeOf130,
  v173 := Tryd.zeroValue130,
  t212 := Tryd.underlying140,
  a212 := Tryd.isAgg140,
  z212 := Tryd.sizeOf140,
  v212 := Tryd.zeroValue140,
  t213 := Tryd.underlying142,
  a213 := Tryd.isAgg142,
  z213 := Tryd.sizeOf142,
  t232 := Tryd.underlying152,
  a232 := Tryd.isAgg152,
  z232 := Tryd.sizeOf152,
  v232 := Tryd.zeroValue152,
  t233 := Tryd.underlying153,
  a233 := Tryd.isAgg153,
  z233 := Tryd.sizeOf153,
  v233 := Tryd.zeroValue153,
  g17 := (by kernel_rfl),
  g18 := (by kernel_rfl),
  g19 := (by kernel_rfl),
  i0 := (by kernel_rfl),
  i2 := (by kernel_rfl),
  i3 := (by kernel_rfl),
  i4 := (by kernel_rfl),
  i5 := (by kernel_rfl),
  i9 := (by kernel_rfl),
  i20 := (by kernel_rfl),
  i37 := (by kernel_rfl),
  i46 := (by kernel_rfl),
  i51 := (by kernel_rfl),
  i53 := (by kernel_rfl),
  i171 := (by kernel_rfl),
  i173 := (by kernel_rfl),
  i212 := (by kernel_rfl),
  i232 := (by kernel_rfl),
  i233 := (by kernel_rfl),
  m17 := (by kernel_rfl),
  m18 := (by kernel_rfl),
  m19 := (by kernel_rfl) }
def lays156_ren : Go.Shelf.Ren := ⟨fun | 156 => 38 | 165 => 71 | 166 => 72 | 169 => 73 | 240 => 99 | 241 => 100 | 276 => 114 | 277 => 115 | n => n, fun | 31 => 57 | 9 => 9 | 3 => 3 | 4 => 4 | 0 => 0 | 20 => 20 | 72 => 86 | 76 => 65 | 70 => 84 | 37 => 22 | 75 => 64 | 127 => 100 | 164 => 111 | 5 => 5 | 80 => 82 | n => n, fun | n => n⟩
theorem lays156 : Go.Proofs.Lays.n156 Tryd.prog lays156_ren := {
  mixed := (by kernel_rfl),
  f156 := Tryd.func38.trans (congrArg some (by kernel_rfl)),
  f165 := Tryd.func71.trans (congrArg some (by kernel_rfl)),
  f166 := Tryd.func72.trans (congrArg some (by kernel_rfl)),
  f169 := Tryd.func73.trans (congrArg some (by kernel_rfl)),
  f240 := Tryd.func99.trans (congrArg some (by kernel_rfl)),
  f241 := Tryd.func100.trans (congrArg some (by kernel_rfl)),
  f276 := Tryd.func114.trans (congrArg some (by kernel_rfl)),
  f277 := Tryd.func115.trans (congrArg some (by kernel_rfl)),
  t0 := Tryd.underlying0,
  a0 := Tryd.isAgg0,
  z0 := Tryd.sizeOf0,
  v0 := Tryd.zeroValue0,
  t3 := Tryd.underlying3,
  a3 := Tryd.isAgg3,
  z3 := Tryd.sizeOf3,
  v3 := Tryd.zeroValue3,
  t4 := Tryd.underlying4,
  a4 := Tryd.isAgg4,
  z4 := Tryd.sizeOf4,
  v4 := Tryd.zeroValue4,
  t9 := Tryd.underlying9,
  a9 := Tryd.isAgg9,
  z9 := Tryd.sizeOf9,
  v9 := Tryd.zeroValue9,
  t20 := Tryd.underlying20,
  a20 := Tryd.isAgg20,
  z20 := Tryd.sizeOf20,
  v20 := Tryd.zeroValue20,
  t31 := Tryd.underlying57,
  a31 := Tryd.isAgg57,
  z31 := Tryd.sizeOf57,
  v31 := Tryd.zeroValue57,
  t37 := Tryd.underlying22,
  a37 := Tryd.isAgg22,
  z37 := Tryd.sizeOf22,
  v37 := Tryd.zeroValue22,
  t70 := Tryd.underlying84,
  a70 := Tryd.isAgg84,
  z70 := Tryd.sizeOf84,
  v70 := Tryd.zeroValue84,
  t72 := Tryd.underlying86,
  a72 := Tryd.isAgg86,
  z72 := Tryd.sizeOf86,
  v72 := Tryd.zeroValue86,
  t75 := Tryd.underlying64,
  a75 := Tryd.isAgg64,
  z75 := Tryd.sizeOf64,
  v75 := Tryd.zeroValue64,
  t76 := Tryd.underlying65,
  a76 := Tryd.isAgg65,
  z76 := Tryd.sizeOf65,
  v76 := Tryd.zeroValue65,
  t127 := Tryd.underlying100,
  a127 := Tryd.isAgg100,
  z127 := Tryd.sizeOf100,
  v127 := Tryd.zeroValue100,
  t164 := Tryd.underlying111,
  a164 := Tryd.isAgg111,
  z164 := Tryd.sizeOf111,
  v164 := Tryd.zeroValue111 }
theorem Builder_Extra_156 : Builder.Extra Tryd.prog lays156_ren := {
  sizeBuilder := (by kernel_rfl),
  liesBuilder := (by kernel_rfl),
  t5 := Tryd.underlying5,
  a5 := Tryd.isAgg5,
  z5 := Tryd.sizeOf5,
  v5 := Tryd.zeroValue5,
  infoByte := (by kernel_rfl),
  cellsByte := (by kernel_rfl),
  sizeByte := (by kernel_rfl),
  neB5 := (by decide) }
/-- strconv.Itoa, at every int. -/
theorem itoa_any (n : Int) (h0 : -9223372036854775808 ≤ n) (h1 : n ≤ 9223372036854775807) (w : World) (htab : Lib.TabIs Tryd.prog w "internal/strconv.uint64pow10" .u64 Lib.pow10Tab) :
    Calls Tryd.prog 74 #[.int .i64 n] w fun e w' => e = .returned (.string ⟨(Lib.itoa n).toArray⟩) ∧ Below w.heap.size w w' := (Any.strconv_Itoa laysM171 n h0 h1 w htab).mono fun e w' h => ⟨h.1, by obtain ⟨k, os, rfl⟩ := h.2; exact Lib.below_grow _ w (Nat.le_refl _) k os⟩
theorem join_any (bk o c : Nat) (xs : List ByteArray) (sep : ByteArray) (w : World) (hcells : ∀ (j : Nat) x, xs[j]? = some x → w.cell? ⟨bk, o + j, none⟩ = some (.string x))
    (hbk : bk < w.heap.size) (hN : xs.length ≤ 140737488355328) (hcap : xs.length ≤ c) (hlen : (Lib.join (xs.map (·.data.toList)) sep.data.toList).length ≤ 140737488355328) :
    Calls Tryd.prog 38 #[.slice (some ⟨bk, o, none⟩) xs.length c, .string sep] w fun e w' => e = .returned (.string ⟨(Lib.join (xs.map (·.data.toList)) sep.data.toList).toArray⟩) ∧ Below w.heap.size w w' :=
  Any.strings_Join lays156 Builder_Extra_156 bk o c xs sep w hcells hbk hN hcap hlen

section
variable {P P' : Nat → Prop} {w w' w2 : World} {base : Nat}
end
section
variable {α : Type} {d : Kd α} {e base a b a' b' g : Nat} {ok P : Nat → Prop} {w w' : World} {v : Value} {xs : List α} {o : Obj}
end
/-- The second form: a block that a string was laid into. -/
def Zs (e : Nat) (w : World) (base : Nat) (ok : Nat → Prop) (v : Value) (xs : List Int) : Prop :=
  ∃ g c cur, v = .slice (some ⟨g, 0, none⟩) xs.length c ∧ xs.length ≤ c ∧ ok g ∧ base ≤ g ∧ w.heap[g]? = some (.cells cur e (cur.size, cur.size + 1)) ∧ xs.length ≤ cur.size ∧ xs.length ≤ 9223372036854775807 ∧ ∀ i, i < xs.length → cur[i]? = some (.int .u8 (rd xs i))
def Zr (e : Nat) (w : World) (base : Nat) (ok : Nat → Prop) (v : Value) (xs : List Int) : Prop := Kd.R (Kd.int .u8) e w base ok v xs ∨ Zs e w base ok v xs
section
variable {e base : Nat} {w w1 W W2 : World} {ok ok' S : Nat → Prop} {v u : Value} {xs : List Int}
theorem Z_slice (h : Zr e w base ok v xs) : ∃ A c, v = .slice A xs.length c := by
  rcases h with h | ⟨g, c, cur, h1, _⟩
  · exact Kd.R_slice h
  · exact ⟨_, _, h1⟩
theorem Z_reads' {A : Option Addr} {n c : Nat} (h : Zr e w base ok (.slice A n c) xs) : n = xs.length ∧ n ≤ c ∧ (Kd.int .u8).C w A xs.length xs := by
  rcases h with h | ⟨g, c', cur, h1, h2, h3, h4, h5, h6, h7, h8⟩
  · exact Kd.R_reads' h
  · injection h1 with e1 e2 e3
    subst e1
    subst e2
    subst e3
    refine ⟨rfl, h2, Kd.C_of_reads (enc := Value.int .u8) (d := (0 : Int)) (h1 := fun _ => rfl) ⟨rfl, h7, fun hn => ⟨_, rfl, fun j hj => ?_⟩⟩⟩
    have hx := h8 j hj
    have hc := cell_of_row w g j cur e (cur.size, cur.size + 1) h5
    rw [show (⟨g, 0, none⟩ : Addr).add j = ⟨g, j, none⟩ by unfold Addr.add; split <;> simp_all, hc, hx]
    simp [rd, List.getD_eq_getElem?_getD]
end
section
variable {P : Program} {ops : Array Oper} {rest : List Oper} {o : Oper} {a : Act} {Q : Exit → Act → World → Prop}
end

/-- The table of powers reads as the library lays it. -/
def TabA (w : World) : Prop := Lib.TabIs Tryd.prog w "internal/strconv.uint64pow10" .u64 Lib.pow10Tab
theorem tab_below {w W : World} (h : TabA w) (hb : Below w.heap.size w W) : TabA W := Lib.tabBelow_of_tabIs h W hb
def digS (c : Int) : ByteArray := ⟨(Lib.itoa c).toArray⟩
def qd4 (x : Int) : List Int := [x / 16777216 % 256, x / 65536 % 256, x / 256 % 256, x % 256]
theorem four_eq (x : Int) (h0 : 0 ≤ x) (h1 : x < 4294967296) : impl_four.f x = some (qd4 x) := by
  unfold impl_four.f impl_two.f qd4
  simp only [Option.bind_some]
  rw [if_pos (by simp)]
  simp only [List.cons_append, List.nil_append, Option.some.injEq, List.cons.injEq, and_true]
  omega
theorem rd_atN (l : List Int) (n : Nat) (h : n < l.length) : rd l ((n : Nat) : Int) = l[n] := by simp [rd, List.getD_eq_getElem?_getD, h]
def decS (x : Int) : List ByteArray := (qd4 x).map digS
set_option maxHeartbeats 2000000 in
set_option maxRecDepth 100000 in
theorem decimals_any (a0 : Int) (h0 : 0 ≤ a0) (h1 : a0 < 4294967296) (w : World) (hT : TabA w) :
    Calls Tryd.prog 39 #[.int .i64 a0] w fun e w' => ∃ v0_ : Value, e = .returned v0_ ∧ Kd.R Kd.string 9 w' w.heap.size (fun _ => True) v0_ (decS a0) ∧ Below w.heap.size w w' := by
  have HT := ak hT
  have HB := ak (Below.refl w.heap.size w)
  clear hT
  go_enter Tryd.func39, Tryd.ntmps39
  go_wp2_with (((with_reducible refine gate_dst (N := 6) rfl ?_);refine Kd.R_lit Kd.string _ 9 ?hg (N := 6) ?hd (xs := ([] : List ByteArray)) (inner := []) (ok := fun _ => True) (okp := fun _ => True) ?hr ?hp (fun _ hk => hk) trivial (Below.refl _ _) (Nat.le_refl _) (by simp) ?_;(case hd => rfl);(case hg => rfl);(case hr => first | (go_simp; done) | (go_simp; rfl));(case hp => exact (Reps.none _ _));intro v6 w3 ho4 hb hg_ hnew_;clear hg_ hnew_;have HO := ak (Kd.R_lower ho4 (below_size HB.out));replace HB := ak (below_step HB.out hb);clear hb ho4))
  refine (impl_four.calls a0 (qd4 a0) _ (four_eq a0 h0 h1)).mono ?_
  rintro e w4 ⟨v8, rfl, ho, hb⟩
  replace HO := ak (Kd.R_below HO.out hb)
  have HS3 := ak HB.out.size
  replace HB := b2s HB.out hb
  obtain ⟨B, HBE⟩ : ∃ B, Aside0 (qd4 a0 = B) := ⟨_, ⟨rfl⟩⟩
  have HBL := ak (show B.length = 4 by rw [← HBE.out]; rfl)
  have HBB := ak (show ∀ x ∈ B, 0 ≤ x ∧ x ≤ 255 by rw [← HBE.out]; unfold qd4; intro x hx; simp only [List.mem_cons, List.not_mem_nil, or_false] at hx; rcases hx with rfl | rfl | rfl | rfl <;> omega)
  rw [HBE.out] at ho
  obtain ⟨A8, c8, eo⟩ := Kd.R_slice ho
  subst eo
  have HW := ak (Kd.R_lower ho HS3.out)
  clear ho hb
  go_wp2
  go_loopg [3, 5, 10] 5 (fun gq v3 v5 v10 W => ∃ i : Nat, i ≤ 4 ∧ 5 - i ≤ gq ∧ v10 = .int .i64 (i : Int) ∧ Aside0 (Kd.R Kd.string 9 W w.heap.size (fun _ => True) v3 ((B.take i).map digS)) ∧ Aside0 (Below w.heap.size w W) ∧ Aside0 (Kd.R (Kd.int .u8) 5 W w.heap.size (fun _ => True) (.slice A8 B.length c8) B))
  case atStart => exact ⟨0, by omega, by omega, rfl, HO, HB, HW⟩
  case round =>
    clear HO HB HW
    obtain ⟨i, hi, hg, rfl, HO, HB, HW⟩ := hrel
    have hbl := HBL.out
    by_cases hlt : i < 4
    · have hlz : (i : Int) < (B.length : Int) := by omega
      obtain ⟨ad, hA, hck⟩ := Kd.at_int (Kd.R_reads' HW.out).2.2 (i : Int) (by omega) (by omega)
      subst hA
      rw [show ((i : Int)).toNat = i from by omega] at hck
      have hx := HBB.out (rd B (i : Int)) (by rw [rd_atN B i (by omega)]; exact List.getElem_mem _)
      have HTK := ak (show (B.take i).map digS ++ [digS (rd B (i : Int))] = (B.take (i + 1)).map digS by rw [List.take_succ_eq_append_getElem (by omega), List.map_append, rd_atN B i (by omega)]; rfl)
      obtain ⟨x, HX⟩ : ∃ x, Aside0 (rd B (i : Int) = x) := ⟨_, ⟨rfl⟩⟩
      rw [HX.out] at hck hx HTK
      obtain ⟨hx0, hx1⟩ := hx
      have HLT := ak (show ((B.take i).map digS).length ≤ 4 by rw [List.length_map, List.length_take]; omega)
      obtain ⟨ds, HDS⟩ : ∃ d, Aside0 ((B.take i).map digS = d) := ⟨_, ⟨rfl⟩⟩
      rw [HDS.out] at HO HTK HLT
      obtain ⟨dg, HDG⟩ : ∃ d, Aside0 (digS x = d) := ⟨_, ⟨rfl⟩⟩
      rw [HDG.out] at HTK
      clear hbl
      go_wp2_with (fail)
      refine (itoa_any x (by omega) (by omega) _ (tab_below HT.out HB.out)).mono ?_
      rintro e w5 ⟨rfl, hb⟩
      rw [show (⟨(Lib.itoa x).toArray⟩ : ByteArray) = dg from HDG.out]
      replace HO := ak (Kd.R_below HO.out hb)
      replace HB := b2s HB.out hb
      replace HW := ak (Kd.R_below HW.out hb)
      clear hb hck
      go_wp2_with ((with_reducible refine gate_builtin (b := .append) (xs := #[.tmp 14, .tmp 18]) rfl ?_);at_builtin;refine Kd.R_append Kd.string (w0 := w) w.heap.size rfl (.tmp 14) (.tmp 18) 57 9 (.string ⟨#[]⟩) 16 rfl Tryd.underlying57 info9 rfl (by decide) (by omega) _ ds dg [.string dg] (fun _ => True) (fun _ => False) rfl rfl ?aP (fun _ hk => hk.elim) ?aF ?aO ?aB ?aS ?aL ?_;(case aP => exact rfl);(case aB => exact HB.out);(case aF => exact (fun _ _ => trivial));(case aO => exact HO.out);(case aS => exact HB.out.size);(case aL => have := HLT.out; omega);intro v19 w6 ho hb hg hat;replace HB := ak hb;replace HW := ak (Kd.R_mono (ok' := fun _ => True) (Kd.R_grown (Kd.R_apartR HW.out HO.out (by decide)) hg (fun k hk => hk.2)) (fun _ _ => trivial));replace HO := ak ho;clear ho hb hat hg)
      go_roundg (5 - (i + 1))
      case measure => omega
      case rel => exact ⟨i + 1, by omega, by omega, by go_num, ⟨by rw [← HTK.out]; exact HO.out⟩, HB, HW⟩
    · have hlz : ¬ (i : Int) < (B.length : Int) := by omega
      obtain rfl : i = 4 := by omega
      rw [List.take_of_length_le (by omega)] at HO
      clear hi hg hlt hbl
      go_wp2
      go_ret
      exact ⟨_, rfl, by unfold decS; rw [HBE.out]; exact HO.out, HB.out⟩

def strBytes (s : ByteArray) : List Int := s.data.toList.map fun b => (b.toNat : Int)
theorem strBytes_len (s : ByteArray) : (strBytes s).length = s.size := by
  unfold strBytes
  rw [List.length_map, Array.length_toList]
  rfl
theorem conv_s (s : ByteArray) (W : World) : (convert 9 22 (.string s)).run Tryd.prog W = .ok (.slice (some ⟨W.heap.size, 0, none⟩) (strBytes s).length (grownCap W s.size 0 5))
      (W.drew.alloc (.cells (bytesRow s (grownCap W s.size 0 5)) 5 ((bytesRow s (grownCap W s.size 0 5)).size, (bytesRow s (grownCap W s.size 0 5)).size + 1))) := by
  rw [strBytes_len]
  exact run_bytes_of_string W 9 22 5 s Tryd.underlying9 Tryd.underlying22 Tryd.underlying5
theorem Zs_str (W : World) (s : ByteArray) (n base : Nat) (hs : s.size ≤ 9223372036854775807) (hn : s.size ≤ n) (hb : base ≤ W.heap.size) :
    Zs 5 ((W.alloc (.cells (bytesRow s n) 5 ((bytesRow s n).size, (bytesRow s n).size + 1))).drew) base (fun _ => True) (.slice (some ⟨W.heap.size, 0, none⟩) (strBytes s).length n) (strBytes s) := by
  have hl : (bytesRow s n).size = n := by
    have : s.data.size ≤ n := hn
    have e : s.size = s.data.size := rfl
    unfold bytesRow
    rw [Array.size_append, Array.size_map, Array.size_replicate]
    omega
  refine ⟨W.heap.size, n, bytesRow s n, rfl, by rw [strBytes_len]; exact hn, trivial, hb, heap_alloc_new _ _, by rw [strBytes_len, hl]; exact hn, by rw [strBytes_len]; omega, fun j hj => ?_⟩
  have hj2 : j < s.data.size := by rw [strBytes_len] at hj; exact hj
  have hj3 : j < s.size := hj2
  simp [bytesRow, strBytes, Array.getElem?_append, rd, List.getD_eq_getElem?_getD]
  rw [if_pos hj3, Array.getElem?_eq_getElem hj2]
  rfl
/-- An address in dots. -/
def dotS (x : Int) : ByteArray := ⟨(Lib.join ((decS x).map (·.data.toList)) [46]).toArray⟩
def dotV (x : Int) : List Int := if 0 ≤ x ∧ x < 4294967296 then strBytes (dotS x) else []
theorem dot_list (x : Int) : (dotS x).data.toList = Lib.itoa (x / 16777216 % 256) ++ 46 :: (Lib.itoa (x / 65536 % 256) ++ 46 :: (Lib.itoa (x / 256 % 256) ++ 46 :: Lib.itoa (x % 256))) := by
  simp [dotS, decS, qd4, digS, Lib.join, List.intercalate]
theorem dot_size (x : Int) (h0 : 0 ≤ x) (h1 : x < 4294967296) : (dotS x).size ≤ 100 := by
  have e : (dotS x).size = (dotS x).data.toList.length := by rw [Array.length_toList]; rfl
  have a := Lib.itoa_length_le (x / 16777216 % 256) (by omega) (by omega)
  have b := Lib.itoa_length_le (x / 65536 % 256) (by omega) (by omega)
  have c := Lib.itoa_length_le (x / 256 % 256) (by omega) (by omega)
  have d := Lib.itoa_length_le (x % 256) (by omega) (by omega)
  rw [e, dot_list]
  simp only [List.length_append, List.length_cons]
  omega
set_option maxHeartbeats 2000000 in
set_option maxRecDepth 100000 in
theorem dotted_any (a0 : Int) (w : World) (hT : TabA w) :
    Calls Tryd.prog 9 #[.int .i64 a0] w fun e w' => ∃ v0_ : Value, e = .returned (v0_) ∧ Zr 5 w' w.heap.size (fun _ => True) v0_ (dotV a0) ∧ Below w.heap.size w w' := by
  have HT := ak hT
  clear hT
  by_cases hw : 0 ≤ a0 ∧ a0 < 4294967296
  · have hv : dotV a0 = strBytes (dotS a0) := by unfold dotV; rw [if_pos hw]
    have HV := ak hv
    have HWD := ak hw
    have HIS := ak (show impl_isWord.f a0 = some true by unfold impl_isWord.f impl_within.f; rw [if_pos hw.1, decide_eq_true (show a0 ≤ 4294967295 by omega)]; rfl)
    clear hv hw
    go_enter Tryd.func9, Tryd.ntmps9
    go_wp2_with (fail)
    refine (impl_isWord.calls a0 true _ HIS.out).mono ?_
    rintro e w1 ⟨rfl, ⟨nd, rfl⟩⟩
    have HB := ak (pw_below_drewN (Below.refl w.heap.size w) nd)
    generalize w.drewN nd = w1 at HB ⊢
    go_wp2_with (fail)
    refine (decimals_any a0 HWD.out.1 HWD.out.2 w1 (tab_below HT.out HB.out)).mono ?_
    rintro e w2 ⟨v7, rfl, ho, hb⟩
    replace HB := b2s HB.out hb
    obtain ⟨ds, HDS⟩ : ∃ d, Aside0 (decS a0 = d) := ⟨_, ⟨rfl⟩⟩
    have HDL := ak (show ds.length = 4 by rw [← HDS.out]; rfl)
    rw [HDS.out] at ho
    obtain ⟨g, cap, rfl, hgb, hgl, cur, hgc⟩ := Kd.R_form ho (by rw [HDL.out]; omega)
    have hcap := (Kd.R_reads' ho).2.1
    have hcells : ∀ (j : Nat) x, ds[j]? = some x → w2.cell? ⟨g, 0 + j, none⟩ = some (.string x) := fun j x hx => by
      have hj := (List.getElem?_eq_some_iff.1 hx).1
      have := (Kd.R_celln (enc := Value.string) (h1 := fun _ => rfl) ByteArray.empty ho (j : Int) (by omega) (by omega)).1
      rw [show ((j : Int)).toNat = j by omega] at this
      rw [Nat.zero_add, this]
      simp [rdOf, List.getD_eq_getElem?_getD, hx]
    have HCALL := ak (join_any g 0 cap ds ⟨#[46]⟩ w2 hcells hgl (by rw [HDL.out]; omega) hcap (by
      have h1 := dot_size a0 HWD.out.1 HWD.out.2
      have e : (dotS a0).size = (dotS a0).data.toList.length := by rw [Array.length_toList]; rfl
      rw [← HDS.out]
      have h2 : (dotS a0).data.toList = Lib.join ((decS a0).map (·.data.toList)) [46] := rfl
      rw [e, h2] at h1
      show (Lib.join ((decS a0).map (·.data.toList)) [46]).length ≤ _
      omega))
    clear ho hb hcells hgb hgl hgc hcap
    go_wp2_with (fail)
    refine HCALL.out.mono ?_
    rintro e w3 ⟨rfl, hb⟩
    replace HB := b2s HB.out hb
    rw [show (⟨(Lib.join (ds.map (·.data.toList)) (⟨#[46]⟩ : ByteArray).data.toList).toArray⟩ : ByteArray) = dotS a0 by rw [← HDS.out]; rfl]
    have HSZ := ak (dot_size a0 HWD.out.1 HWD.out.2)
    obtain ⟨s, HS⟩ : ∃ s, Aside0 (dotS a0 = s) := ⟨_, ⟨rfl⟩⟩
    rw [HS.out] at HSZ HV
    rw [HS.out]
    have hcv := conv_s s
    clear hb HCALL
    go_wp2
    have hcap := grownCap_ge w3 s.size 0 5
    generalize grownCap w3 s.size 0 5 = cap3 at hcap ⊢
    clear hcv
    go_ret
    exact ⟨_, rfl, by rw [HV.out]; exact .inr (Zs_str w3 s cap3 _ (by have := HSZ.out; omega) hcap HB.out.size), below_drew1 (below_alloc HB.out _)⟩
  · have hv : dotV a0 = [] := by unfold dotV; rw [if_neg hw]
    have HV := ak hv
    have HIS := ak (show impl_isWord.f a0 = some false by
      unfold impl_isWord.f impl_within.f
      by_cases h0 : 0 ≤ a0
      · rw [if_pos h0, decide_eq_false (show ¬ a0 ≤ 4294967295 by omega)]; rfl
      · rw [if_neg h0]; rfl)
    clear hv hw
    go_enter Tryd.func9, Tryd.ntmps9
    go_wp2_with (fail)
    refine (impl_isWord.calls a0 false _ HIS.out).mono ?_
    rintro e w1 ⟨rfl, ⟨nd, rfl⟩⟩
    have HB := ak (pw_below_drewN (Below.refl w.heap.size w) nd)
    generalize w.drewN nd = w1 at HB ⊢
    go_wp2
    go_ret
    exact ⟨_, rfl, by rw [HV.out]; exact .inl (Kd.R_nil _ _ _ _ _), HB.out⟩
/-! ### impl_Dotted: function 9 -/
/-! ### bytes_Equal: function 48 -/
def bytes_Equal.f (l0 : List Int) (l1 : List Int) : Option (Bool) := some ((strOfNums l0).toList == (strOfNums l1).toList)
set_option maxHeartbeats 8000000 in
set_option maxRecDepth 100000 in
theorem bytes_Equal.calls (A0 : Option Addr) (c0 : Nat) (l0 : List Int) (A1 : Option Addr) (c1 : Nat) (l1 : List Int) (r : Bool) (w : World) (hr0 : Kd.C (Kd.int .u8) w A0 l0.length l0) (hc0 : l0.length ≤ c0) (hr1 : Kd.C (Kd.int .u8) w A1 l1.length l1) (hc1 : l1.length ≤ c1) (h : bytes_Equal.f l0 l1 = some r) :
  Calls Tryd.prog 48 #[.slice A0 l0.length c0, .slice A1 l1.length c1] w fun e w' => e = .returned (.bool r) ∧ Drawn0 w w' := by
 have HR0 := ak hr0
 have HC0 := ak hc0
 clear hr0 hc0
 have HR1 := ak hr1
 have HC1 := ak hc1
 clear hr1 hc1
 have H : (some ((strOfNums l0).toList == (strOfNums l1).toList)) = some r := h
 clear h
 obtain rfl := Option.some.inj H
 have hcv3 := Kd.C_string (P := Tryd.prog) (A := A0) (c := c0) Tryd.underlying22 Tryd.underlying5 Tryd.underlying9 HR0.out
 have hcv4 := Kd.C_string (P := Tryd.prog) (A := A1) (c := c1) Tryd.underlying22 Tryd.underlying5 Tryd.underlying9 HR1.out
 go_enter Tryd.func48, Tryd.ntmps48
 go_wp2
 go_ret
 exact ⟨o2, od⟩

/-- The numbers of the parts, laid together: none where a part is no number of a byte. -/
def foldL : Int → List (List UInt8) → Option Int
  | n, [] => some n
  | n, s :: l => match Lib.atoi s with
    | none => none
    | some k => if 0 ≤ k ∧ k ≤ 255 ∧ n < 4294967296 then foldL (n * 256 + k) l else none
def partsV (b : List Int) : List ByteArray := Lib.splitB dotB 0 (Lib.countB (strOfNums b) dotB) (strOfNums b)
def readV (b : List Int) : Int × Bool := if b.length > 15 then (0, false) else match foldL 0 ((partsV b).map (·.data.toList)) with
  | none => (0, false)
  | some n => if dotV n = b then (n, true) else (0, false)
/-- What the library's functions want of the world: the table of powers, MaxLen, ErrSyntax. -/
structure EnvR (w : World) : Prop where
  tab : TabA w
  most : ∃ m, w.cell? ⟨2, 0, none⟩ = some (.int .i64 m)
  err : ∃ ev, w.cell? ⟨0, 0, none⟩ = some ev ∧ (ev = .nilIface ∨ ∃ te pe, ev = .iface te pe)
theorem cell_b {w W : World} {p : Addr} {v : Value} (hb : Below w.heap.size w W) (h : w.cell? p = some v) : W.cell? p = some v := (hb.cell (World.block_lt_of_cell? w _ h)).trans h
theorem EnvR.below {w W : World} (h : EnvR w) (hb : Below w.heap.size w W) : EnvR W :=
  ⟨tab_below h.tab hb, h.most.imp fun _ hm => cell_b hb hm, h.err.imp fun _ he => ⟨cell_b hb he.1, he.2⟩⟩
theorem split_le (sep : ByteArray) (k : Nat) : ∀ s : ByteArray, ∀ x ∈ Lib.splitB sep 0 k s, x.size ≤ s.size := by
  induction k with
  | zero => intro s x hx; simp [Lib.splitB] at hx; rw [hx]; exact Nat.le_refl _
  | succ k ih =>
    intro s x hx
    unfold Lib.splitB at hx
    split at hx
    · simp at hx; rw [hx]; exact Nat.le_refl _
    · rcases List.mem_cons.1 hx with rfl | hx
      · rw [ByteArray.size_extract]; omega
      · have := ih _ x hx
        rw [ByteArray.size_extract] at this; omega
theorem nums_sz (l : List Int) : (strOfNums l).size = l.length := by
  unfold strOfNums
  show (List.map _ l).toArray.size = _
  rw [List.size_toArray, List.length_map]
theorem shl8 (n : Int) (h0 : 0 ≤ n) (h1 : n < 4294967296) : shl .i64 n 8 = n * 256 := by
  show IntKind.i64.wrap (n * 2 ^ min (Int.toNat 8) IntKind.i64.bits) = n * 256
  rw [show min (Int.toNat 8) IntKind.i64.bits = 8 from rfl, IntKind.wrap_i64]; omega
theorem or8 (n k : Int) (h0 : 0 ≤ n) (h1 : n < 4294967296) (k0 : 0 ≤ k) (k1 : k ≤ 255) : Go.bits .or .i64 (n * 256) k = n * 256 + k :=
  bits_join .i64 63 (by decide) (fun n h0 h1 => by rw [IntKind.wrap_i64]; omega) 8 (n * 256) k (by omega) (by omega) (by omega) (by omega) (by omega) (by omega)
theorem nums_inj (a b : List Int) (ha : ∀ x ∈ a, 0 ≤ x ∧ x ≤ 255) (hb : ∀ x ∈ b, 0 ≤ x ∧ x ≤ 255) : ((strOfNums a).toList == (strOfNums b).toList) = decide (a = b) := by
  have key : ∀ xs : List Int, (∀ x ∈ xs, 0 ≤ x ∧ x ≤ 255) → strBytes (strOfNums xs) = xs := by
    intro xs h
    unfold strBytes strOfNums
    rw [List.toList_toArray, List.map_map]
    refine (List.map_congr_left (g := id) fun x hx => ?_).trans (List.map_id _)
    have := h x hx
    show (((UInt8.ofNat x.toNat).toNat : Nat) : Int) = x
    rw [UInt8.toNat_ofNat']
    omega
  by_cases h : a = b
  · subst h; simp
  · rw [decide_eq_false h, beq_eq_false_iff_ne]
    intro e
    apply h
    rw [Go.ByteArray.toList_eq, Go.ByteArray.toList_eq] at e
    rw [← key a ha, ← key b hb]
    unfold strBytes
    rw [e]
theorem dotV_rng (x : Int) : ∀ y ∈ dotV x, 0 ≤ y ∧ y ≤ 255 := by
  unfold dotV
  split
  · intro y hy
    obtain ⟨b, _, rfl⟩ := List.mem_map.1 hy
    have := b.toNat_lt
    omega
  · intro y hy; simp at hy
set_option maxHeartbeats 8000000 in
set_option maxRecDepth 100000 in
theorem dottedread_any (A : Option Addr) (c : Nat) (b : List Int) (w : World) (hr : Kd.C (Kd.int .u8) w A b.length b) (hc : b.length ≤ c) (hl : b.length ≤ 1048576) (hby : ∀ x ∈ b, 0 ≤ x ∧ x ≤ 255) (hE : EnvR w) :
    Calls Tryd.prog 20 #[.slice A b.length c] w fun e w' => e = .returned (.tuple #[.int .i64 (readV b).1, .bool (readV b).2]) ∧ Below w.heap.size w w' := by
  have HR := ak hr
  have HC := ak hc
  have HE := ak hE
  have HBY := ak hby
  clear hr hc hE hby
  by_cases h15 : b.length > 15
  · have e1 : readV b = (0, false) := by unfold readV; rw [if_pos h15]
    have hlz : (b.length : Int) > 15 := by omega
    rw [e1]
    go_enter Tryd.func20, Tryd.ntmps20
    go_wp2
    go_ret2
    exact ⟨rfl, Below.refl _ _⟩
  have hlz : ¬ (b.length : Int) > 15 := by omega
  have hcv := Kd.C_string (P := Tryd.prog) (dst := 9) (c := c) Tryd.underlying22 Tryd.underlying5 Tryd.underlying9 HR.out
  go_enter Tryd.func20, Tryd.ntmps20
  go_wp2_with (fail)
  obtain ⟨mm, hmm⟩ := HE.out.most
  refine (split_any (strOfNums b) mm w (by rw [nums_sz]; omega) hmm).mono ?_
  rintro e w2 ⟨rfl, hw2⟩
  obtain ⟨L, hL⟩ : ∃ L, L = partsV b := ⟨_, rfl⟩
  have hlen : L.length = Lib.countB (strOfNums b) dotB + 1 := by rw [hL]; exact Lib.splitB_all dotB (by decide) 0 _ _ rfl
  have HSZ := ak (show ∀ x ∈ L, x.size ≤ 18 from fun x hx => by rw [hL] at hx; have := split_le dotB _ _ x hx; rw [nums_sz] at this; omega)
  have HLN := ak (show L.length ≤ 1000 by
    rw [hlen]
    have := Lib.countB_le dotB (by decide) _ (strOfNums b) (Nat.le_refl _)
    rw [nums_sz] at this; omega)
  have B2 := ak (show w2.heap[w.heap.size]? = some (.cells (L.map Value.string).toArray 9 (0, 0)) by rw [hw2, hL]; exact heap_alloc_new w _)
  have HB := ak (show Below w.heap.size w w2 by rw [hw2]; exact below_alloc (Below.refl _ _) _)
  rw [← hlen]
  obtain ⟨g, hg⟩ : ∃ g, g = w.heap.size := ⟨_, rfl⟩
  rw [← hg]
  rw [← hg] at B2
  obtain ⟨R, hR⟩ : ∃ R, foldL 0 (L.map (·.data.toList)) = R := ⟨_, rfl⟩
  have HRN := ak (show R = none → readV b = (0, false) from fun e => by unfold readV; rw [if_neg h15, ← hL, hR, e])
  have HRS := ak (show ∀ n, R = some n → readV b = if dotV n = b then (n, true) else (0, false) from fun n e => by unfold readV; rw [if_neg h15, ← hL, hR, e])
  clear hw2 hL hlen hmm hcv hg
  go_wp2_with (fail)
  go_loopg [4, 16] L.length (fun kq v4 v16 w' => ∃ (n : Int) (i : Nat), i ≤ L.length ∧ L.length - i ≤ kq ∧ v4 = .int .i64 n ∧ v16 = .int .i64 i ∧ (0 ≤ n ∧ n < 1099511627776) ∧ Aside0 (foldL n ((L.drop i).map (·.data.toList)) = R) ∧ Aside0 (w'.heap[g]? = some (.cells (L.map Value.string).toArray 9 (0, 0))) ∧ Aside0 (Below w.heap.size w w'))
  case atStart => exact ⟨0, 0, Nat.zero_le _, by omega, rfl, rfl, by omega, ⟨hR⟩, B2, HB⟩
  case round =>
    clear B2 HB
    obtain ⟨n, i, hi, hgm, rfl, rfl, hn, HF, B2, HB⟩ := hrel
    by_cases hlt : i < L.length
    · have hlz : (i : Int) < (L.length : Int) := by omega
      have hs := HSZ.out L[i] (List.getElem_mem hlt)
      have hf := HF.out
      rw [List.drop_eq_getElem_cons hlt, List.map_cons] at hf
      have hcell : wr.cell? ⟨g, i, none⟩ = some (.string L[i]) := (blk_cell B2.out i).trans (by simp [hlt])
      obtain ⟨s, es⟩ : ∃ s, L[i] = s := ⟨_, rfl⟩
      rw [es] at hs hf hcell
      go_wp2_with (fail)
      cases ha : Lib.atoi s.data.toList with
      | none =>
        have hRn : R = none := by rw [← hf]; simp only [foldL, ha]
        have HRn := ak (HRN.out hRn)
        obtain ⟨ev, hev, hk⟩ := (HE.out.below HB.out).err
        refine (atoi_none s hs ha ev wr hev hk).mono ?_
        rintro e w3 ⟨t, N, rfl, hb⟩
        replace HB := b2s HB.out hb
        clear hb hcell hf HF HRN HRS hRn hev hk
        go_wp2
        go_ret2
        exact ⟨by rw [HRn.out]; rfl, HB.out⟩
      | some k =>
        refine (atoi_some s hs k ha wr).mono ?_
        rintro e w3 ⟨rfl, hb⟩
        replace HB := b2s HB.out hb
        replace B2 := ak (blk_below B2.out hb)
        simp only [foldL, ha] at hf
        clear hb hcell HF
        go_wp2_with (fail)
        have hwi : impl_within.f k 0 255 = some (decide (0 ≤ k ∧ k ≤ 255)) := by
          unfold impl_within.f
          by_cases h : 0 ≤ k <;> simp [h]
        refine (impl_within.calls k 0 255 _ _ hwi).mono ?_
        by_cases hkk : 0 ≤ k ∧ k ≤ 255
        · rw [decide_eq_true hkk]
          rintro e w4 ⟨rfl, hd⟩
          replace HB := b2s HB.out hd.below
          replace B2 := ak (blk_below B2.out hd.below)
          clear hd hwi
          by_cases hn2 : n < 4294967296
          · rw [if_pos ⟨hkk.1, hkk.2, hn2⟩] at hf
            have HF := ak hf
            have hnl : ¬ (n ≥ 4294967296) := by omega
            have hsh := shl8 n hn.1 hn2
            have hor := or8 n k hn.1 hn2 hkk.1 hkk.2
            clear hf HRN HRS
            go_wp2_with (fail)
            go_roundg (L.length - (i + 1))
            case measure => omega
            case rel => exact ⟨n * 256 + k, i + 1, by omega, by omega, (by first | rfl | (rw [hor]) | (simp [hor]; done)), (by have hw : wrap64 ((i : Int) + 1) = ((i + 1 : Nat) : Int) := (by have := HLN.out; unfold wrap64; omega); first | rw [hw] | (simp [hw]; done) | (simp only [hw]; rfl)), by omega, HF, B2, HB⟩
          · rw [if_neg (by omega)] at hf
            have HRn := ak (HRN.out hf.symm)
            have hnl : n ≥ 4294967296 := by omega
            clear hf HRN HRS
            go_wp2
            go_ret2
            exact ⟨by rw [HRn.out]; rfl, HB.out⟩
        · rw [decide_eq_false hkk]
          rintro e w4 ⟨rfl, hd⟩
          replace HB := b2s HB.out hd.below
          rw [if_neg (by omega)] at hf
          have HRn := ak (HRN.out hf.symm)
          clear hd hwi hf HRN HRS
          go_wp2
          go_ret2
          exact ⟨by rw [HRn.out]; rfl, HB.out⟩
    · have hlz : ¬ (i : Int) < (L.length : Int) := by omega
      obtain rfl : i = L.length := by omega
      have hf := HF.out
      rw [List.drop_of_length_le (Nat.le_refl _)] at hf
      go_wp2_with (fail)
      refine (dotted_any n wr (HE.out.below HB.out).tab).mono ?_
      rintro e w3 ⟨v3, rfl, hz, hb⟩
      obtain ⟨A3, c3, rfl⟩ := Z_slice hz
      have hr3 := Z_reads' hz
      replace HB := b2s HB.out hb
      clear hb hz
      go_wp2_with (fail)
      refine (bytes_Equal.calls A3 c3 (dotV n) A c b (decide (dotV n = b)) w3 hr3.2.2 hr3.2.1 (Kd.C_below HR.out HB.out) HC.out ?_).mono ?_
      · unfold bytes_Equal.f
        rw [nums_inj _ _ (dotV_rng n) HBY.out]
      rintro e w4 ⟨rfl, hd⟩
      replace HB := b2s HB.out hd.below
      have HRs := ak (HRS.out n (by rw [← hf]; rfl))
      clear hd hf HF HRN HRS hr3
      by_cases he : dotV n = b
      · rw [decide_eq_true he]
        have e1 := HRs.out
        rw [if_pos he] at e1
        have E1 := ak e1
        clear e1 HRs he
        go_wp2
        go_ret2
        exact ⟨by rw [E1.out]; rfl, HB.out⟩
      · rw [decide_eq_false he]
        have e1 := HRs.out
        rw [if_neg he] at e1
        have E1 := ak e1
        clear e1 HRs he
        go_wp2
        go_ret2
        exact ⟨by rw [E1.out]; rfl, HB.out⟩

/-! ### spec_l1digits: function 70 -/
def spec_l1digits.f : Nat → Int → Option (List Int)
 | 0, _ => none
 | k + 1, a0 => if a0 < 10 then (some (([(wrap64 (48 + a0)) % 256] : List Int))) else ((spec_l1digits.f k (wrap64 (Int.tdiv a0 10))).bind fun t104 => (if t104.length < 140737488355328 then (some (t104 ++ [(wrap64 (48 + (Int.tmod a0 10))) % 256])) else (none)))
theorem spec_l1digits.mono_l : ∀ k, (∀ y0, LeO (spec_l1digits.f k y0) (spec_l1digits.f (k + 1) y0))
 | 0 => fun _ r h => by simp [spec_l1digits.f] at h
 | k + 1 => by
  have ih0 := spec_l1digits.mono_l k
  ·intro y0
   unfold spec_l1digits.f
   repeat' first
   | (with_reducible exact ih0 _)
   | (with_reducible exact LeO.refl _)
   | (with_reducible exact LeO.none _)
   | (with_reducible refine LeO.ite ?_ ?_)
   | (with_reducible refine LeO.bind ?_ (fun _ => ?_))
   | exact ih0 _
   | exact LeO.none _
   | refine LeO.ite ?_ ?_
   | refine LeO.bind ?_ (fun _ => ?_)
theorem spec_l1digits.mono : ∀ a0 k, LeO (spec_l1digits.f k a0) (spec_l1digits.f (k + 1) a0) := by
 intro a0 k
 have ih0 := spec_l1digits.mono_l k
 exact ih0 a0
set_option maxHeartbeats 8000000 in
set_option maxRecDepth 100000 in
theorem spec_l1digits.calls (k : Nat) : ∀ (a0 : Int) (r : List Int) (w : World) (h : spec_l1digits.f k a0 = some r),
  Calls Tryd.prog 70 #[.int .i64 a0] w fun e w' => ∃ v0_ : Value, e = .returned (v0_) ∧ Kd.R (Kd.int .u8) 5 w' w.heap.size (fun _ => True) v0_ r ∧ Below w.heap.size w w' := by
 induction k using Nat.strongRecOn with
 | _ k ih =>
 intro a0 r w h
 cases k with
 | zero => exact absurd h (by simp [spec_l1digits.f])
 | succ k =>
 simp only [spec_l1digits.f] at h
 have HB := ak (Below.refl w.heap.size w)
 have H : (if a0 < 10 then (some (([(wrap64 (48 + a0)) % 256] : List Int))) else ((spec_l1digits.f k (wrap64 (Int.tdiv a0 10))).bind fun t104 => (if t104.length < 140737488355328 then (some (t104 ++ [(wrap64 (48 + (Int.tmod a0 10))) % 256])) else (none)))) = some r := h
 clear h
 replace H := ip H
 obtain ⟨c2b0, H⟩ | ⟨c2b0, H⟩ := H
 ·obtain ⟨y101, hy101⟩ : ∃ y_ : List Int, y_ = (([(wrap64 (48 + a0)) % 256] : List Int)) := ⟨_, rfl⟩
  (try with_reducible replace H := bnS H)
  (try rw [← hy101] at H)
  have Ny101 := ak hy101
  clear hy101
  obtain rfl := Option.some.inj H
  go_enter Tryd.func70, Tryd.ntmps70
  go_wp2_with (((with_reducible refine gate_dst (N := 8) rfl ?_);refine Kd.R_lit (Kd.int .u8) _ 5 ?hg (N := 8) ?hd (xs := ([(wrap64 (48 + a0)) % 256] : List Int)) (inner := [.int .u8 ((wrap64 (48 + a0)) % 256)]) (ok := fun _ => True) (okp := fun _ => True) ?hr ?hp (fun _ hk => hk) trivial (Below.refl _ _) (Nat.le_refl _) (by simp) ?_;(case hd => rfl);(case hg => rfl);(case hr => first | (go_simp; done) | (go_simp; rfl));(case hp => exact (Reps.one (show Kd.M (Kd.int .u8) _ _ _ ((wrap64 (48 + a0)) % 256) [.int .u8 ((wrap64 (48 + a0)) % 256)] from rfl) (Reps.none _ _)));intro v102 w3 ho4 hb hg_ hnew_;clear hg_ hnew_;(first | rw [← Ny101.out] at ho4 | (simp only [Int.reduceToNat] at ho4; rw [← Ny101.out] at ho4));have HO103 := ak (Kd.R_lower ho4 (below_size (bw HB.out)));replace HB := b2 HB hb;clear hb ho4))
  go_ret
  exact ⟨_, o1, rw_ HO103.out, bw HB.out⟩
 ·replace H := bnd H
  obtain ⟨t104, A5, H⟩ := H
  by_cases c6 : t104.length < 140737488355328
  ·rw [if_pos c6] at H
   have LMc6 := ak c6
   clear c6
   obtain ⟨y107, hy107⟩ : ∃ y_ : List Int, y_ = (t104 ++ [(wrap64 (48 + (Int.tmod a0 10))) % 256]) := ⟨_, rfl⟩
   (try with_reducible replace H := bnS H)
   (try rw [← hy107] at H)
   have Ny107 := ak hy107
   clear hy107
   obtain rfl := Option.some.inj H
   go_enter Tryd.func70, Tryd.ntmps70
   go_wp2_with (first | ((with_reducible refine gate_callee (f := 70) rfl ?_);refine goesL_ (some 11) rfl rfl Tryd.func70 (by kernel_rfl) rfl #[.int .i64 (wrap64 (Int.tdiv a0 10))] rfl (by (try simp only [List.map_toArray, List.map_cons, List.map_nil]); first | done | rfl | (simp only [List.length_drop, List.length_take]; rfl)) ?_;(with_reducible refine (ih k (by omega) (wrap64 (Int.tdiv a0 10)) t104 _ A5.out).mono ?_);rintro e w7 ⟨v105, rfl, ho0, hb⟩;refine ⟨_, rfl, ?_⟩;have HO106 := ak (Kd.R_lower ho0 (below_size (bw HB.out)));replace HB := b2 HB hb;(try clear hb);(try clear ho0)) | ((with_reducible refine gate_builtin (b := .append) (xs := #[.tmp 11, .tmp 16]) rfl ?_);at_builtin;refine Kd.R_append (Kd.int .u8) (w0 := w) w.heap.size rfl (.tmp 11) (.tmp 16) 22 5 (.int .u8 0) 1 rfl Tryd.underlying22 info5 rfl (by decide) (by omega) v105 t104 ((wrap64 (48 + (Int.tmod a0 10))) % 256) [.int .u8 ((wrap64 (48 + (Int.tmod a0 10))) % 256)] (fun _ => True) (fun _ => False) rfl rfl ?aP (fun _ hk => hk.elim) ?aF ?aO ?aB ?aS ?aL ?_;(case aP => exact rfl);(case aB => exact (bw HB.out));(case aF => exact (fun _ _ => trivial));(case aO => exact (rw_ HO106.out));(case aS => exact (below_size (bw HB.out)));(case aL => have := LMc6.out; omega);intro v108 w8 ho hb hg hat;rw [← Ny107.out] at ho;replace HB := ak (hb);have HO109 := ak (ho);clear HO106;clear ho hb hg hat))
   go_ret
   exact ⟨_, o1, rw_ HO109.out, bw HB.out⟩
  ·rw [if_neg c6] at H
   exact absurd H (by simp)

/-! ### spec_l1dotted: function 36 -/
def spec_l1dotted.l0 : Nat → Int → List Int → Int → Option (List Int)
 | 0, _, _, _ => none
 | k + 1, x0, x3, x4 => if x4 ≥ 0 then (if 0 ≤ (wrap64 (8 * x4)) then ((spec_l1digits.f k (Go.bits .and .i64 (shr .i64 x0 (wrap64 (8 * x4))) 255)).bind fun t101 => (if x3.length + t101.length < 140737488355328 then ((some (x3 ++ t101 : List Int)).bind fun y104 => (if x4 > 0 then (if y104.length < 140737488355328 then (spec_l1dotted.l0 k x0 (y104 ++ [46]) (wrap64 (x4 - 1))) else (none)) else (spec_l1dotted.l0 k x0 y104 (wrap64 (x4 - 1))))) else (none))) else (none)) else (some x3)
def spec_l1dotted.f (k : Nat) (a0 : Int) : Option (List Int) := spec_l1dotted.l0 k a0 ([] : List Int) 3
set_option maxHeartbeats 8000000 in
set_option maxRecDepth 100000 in
theorem spec_l1dotted.calls (k : Nat) (a0 : Int) (r : List Int) (w : World) (h : spec_l1dotted.f k a0 = some r) :
  Calls Tryd.prog 36 #[.int .i64 a0] w fun e w' => ∃ v0_ : Value, e = .returned (v0_) ∧ Kd.R (Kd.int .u8) 5 w' w.heap.size (fun _ => True) v0_ r ∧ Below w.heap.size w w' := by
 have HB := ak (Below.refl w.heap.size w)
 have H : (spec_l1dotted.l0 k a0 ([] : List Int) 3) = some r := h
 clear h
 have H' := ak H
 clear H
 go_enter Tryd.func36, Tryd.ntmps36
 go_wp2
 go_loopg [3, 4] k (fun kq v3 v4 w' => ∃ (x3_1 : List Int) (x4_1 : Int), v4 = .int .i64 x4_1 ∧ Aside0 (spec_l1dotted.l0 kq a0 x3_1 x4_1 = some r) ∧ Aside0 (kq ≤ k) ∧ Aside0 (Kd.R (Kd.int .u8) 5 w' w.heap.size (fun _ => True) v3 x3_1) ∧ Aside0 (Below w.heap.size w w'))
 case atStart => exact ⟨(([] : List Int)), (3), o2, H', ⟨Nat.le_refl _⟩, ⟨by first | exact Kd.R_nil _ _ _ _ _ | exact Kd.N_nil _ _ _ _ _ | exact Kd.V_nil _ _ _ _ _ | exact Kd.Q_nil _ _ _ _ _ | exact Kd.S_nil _ _ _ _ _⟩, ⟨bw HB.out⟩⟩
 case round =>
  clear H'
  obtain ⟨x3_1, x4_1, rfl, HA, HK1, HO_3, HB⟩ := hrel
  cases gk with
  | zero => exact absurd HA.out (by simp [spec_l1dotted.l0])
  | succ k1 =>
   have H := HA.out
   clear HA
   simp only [spec_l1dotted.l0] at H
   replace H := ih H
   obtain ⟨c2b0, H⟩ | ⟨c2b0, H⟩ := H
   ·obtain ⟨ji3, hji3⟩ : ∃ j_ : Int, (wrap64 (8 * x4_1)) = j_ := ⟨_, rfl⟩
    (first | rw [hji3] at H | simp only [hji3] at H)
    have hji3w : (IntKind.i64.wrap (8 * x4_1)) = ji3 := (i64_w _).trans hji3
    replace H := ipE H
    obtain ⟨c4b0, c4b1, H⟩ := H
    obtain ⟨ji5, hji5⟩ : ∃ j_ : Int, (shr .i64 a0 (ji3)) = j_ := ⟨_, rfl⟩
    (first | rw [hji5] at H | simp only [hji5] at H)
    have hji5_ : (a0 / 2 ^ min (ji3).toNat 64) = ji5 := hji5
    have hji5z : (ji3) ≤ 64 → (a0 / 2 ^ (ji3).toNat) = ji5 := shr_small hji5
    replace H := bnd H
    obtain ⟨t101, A6, H⟩ := H
    by_cases c7 : x3_1.length + t101.length < 140737488355328
    ·rw [if_pos c7] at H
     have LMc7 := ak c7
     clear c7
     obtain ⟨y104, hy104⟩ : ∃ y_ : List Int, y_ = (x3_1 ++ t101) := ⟨_, rfl⟩
     (try with_reducible replace H := bnS H)
     (try rw [← hy104] at H)
     have Ny104 := ak hy104
     clear hy104
     replace H := ig H
     obtain ⟨c8b0, H⟩ | ⟨c8b0, H⟩ := H
     ·by_cases c9 : y104.length < 140737488355328
      ·rw [if_pos c9] at H
       have LMc9 := ak c9
       clear c9
       obtain ⟨y107, hy107⟩ : ∃ y_ : List Int, y_ = (y104 ++ [46]) := ⟨_, rfl⟩
       (try with_reducible replace H := bnS H)
       (try rw [← hy107] at H)
       have Ny107 := ak hy107
       clear hy107
       have H' := ak H
       clear H
       go_wp2_with (first | ((with_reducible refine gate_callee (f := 70) rfl ?_);refine goesL_ (some 15) rfl rfl Tryd.func70 (by kernel_rfl) rfl #[.int .i64 (Go.bits .and .i64 (ji5) 255)] rfl (by (try simp only [List.map_toArray, List.map_cons, List.map_nil]); first | done | (simp only [hji5]; rfl) | rfl | (simp only [List.length_drop, List.length_take]; rfl)) ?_;(with_reducible refine (spec_l1digits.calls k1 (Go.bits .and .i64 (ji5) 255) t101 _ A6.out).mono ?_);rintro e w10 ⟨v102, rfl, ho0, hb⟩;refine ⟨_, rfl, ?_⟩;have HO103 := ak (Kd.R_lower (Kd.R_new' ho0 (Kd.R_lt (rw_ HO_3.out))) (below_size (bw HB.out)));replace HO_3 := ak (Kd.R_elder' (rw_ HO_3.out) (Kd.R_base ho0) hb);replace HB := b2 HB hb;(try clear hb);(try clear ho0);obtain ⟨Ao12, co12, eo12⟩ := Kd.R_slice HO103.out;subst eo12) | ((with_reducible refine gate_builtin (b := .append) (xs := #[.tmp 9, .tmp 15]) rfl ?_);at_builtin;refine Kd.R_append_rows (Kd.int .u8) (w0 := w) w.heap.size rfl (.tmp 9) (.tmp 15) 22 5 (.int .u8 0) 1 rfl Tryd.underlying22 info5 rfl (by decide) (by omega) u3 x3_1 t101 _ _ _ (fun k_ => some k_ ≠ (.slice Ao12 t101.length co12 : Value).ownBlock) (fun _ => False) rfl rfl ?aO ?aR (fun _ _ h => h) (fun _ h => h.elim) ?aF ?aB ?aS ?aL ?_;(case aR => repeat (first | exact (Kd.R_reads' HO103.out).2.2 | (with_reducible refine Kd.C_alloc ?_ _) | (with_reducible refine Kd.C_drewN ?_ _) | (with_reducible refine Kd.C_drew ?_)));(case aB => exact (bw HB.out));(case aF => exact (fun k_ hk => Kd.fresh' (Kd.R_lt (rw_ HO103.out)) k_ hk));(case aO => exact (rw_ (Kd.R_mono HO_3.out (fun _ hk => hk.2))));(case aS => exact (below_size (bw HB.out)));(case aL => have := LMc7.out; omega);intro v105 w11 ho hb hg hat;rw [← Ny104.out] at ho;replace HO103 := ak (Kd.R_after (ok := (fun _ => True)) (rw_ HO103.out) hg hat);replace HB := ak (hb);have HO106 := ak (ho);clear HO_3;clear ho hb hg hat) | ((with_reducible refine gate_builtin (b := .append) (xs := #[.tmp 19, .tmp 20]) rfl ?_);at_builtin;refine Kd.R_append (Kd.int .u8) (w0 := w) w.heap.size rfl (.tmp 19) (.tmp 20) 22 5 (.int .u8 0) 1 rfl Tryd.underlying22 info5 rfl (by decide) (by omega) v105 y104 46 [.int .u8 46] (fun k_ => some k_ ≠ (.slice Ao12 t101.length co12 : Value).ownBlock) (fun _ => False) rfl rfl ?aP (fun _ hk => hk.elim) ?aF ?aO ?aB ?aS ?aL ?_;(case aP => exact rfl);(case aB => exact (bw HB.out));(case aF => exact (fun k_ hk => Kd.fresh' (Kd.R_lt (rw_ HO103.out)) k_ hk));(case aO => exact (rw_ HO106.out));(case aS => exact (below_size (bw HB.out)));(case aL => have := LMc9.out; omega);intro v108 w13 ho hb hg hat;rw [← Ny107.out] at ho;replace HO103 := ak (Kd.R_after (ok := (fun _ => True)) (rw_ HO103.out) hg hat);replace HB := ak (hb);have HO109 := ak (ho);clear HO106;clear ho hb hg hat))
       go_roundg k1
       case measure => have := HK1.out; omega
       case rel => exact ⟨(y107), (wrap64 (x4_1 - 1)), o2, H', ⟨by have := HK1.out; omega⟩, ⟨by (with_reducible repeat (first | apply Kd.R_alloc | apply Kd.R_drewN | apply Kd.R_drew)); exact Kd.R_mono HO109.out (fun _ hk => trivial)⟩, ⟨bw HB.out⟩⟩
      ·rw [if_neg c9] at H
       exact absurd H (by simp)
     ·have H' := ak H
      clear H
      go_wp2_with (first | ((with_reducible refine gate_callee (f := 70) rfl ?_);refine goesL_ (some 15) rfl rfl Tryd.func70 (by kernel_rfl) rfl #[.int .i64 (Go.bits .and .i64 (ji5) 255)] rfl (by (try simp only [List.map_toArray, List.map_cons, List.map_nil]); first | done | (simp only [hji5]; rfl) | rfl | (simp only [List.length_drop, List.length_take]; rfl)) ?_;(with_reducible refine (spec_l1digits.calls k1 (Go.bits .and .i64 (ji5) 255) t101 _ A6.out).mono ?_);rintro e w14 ⟨v102, rfl, ho0, hb⟩;refine ⟨_, rfl, ?_⟩;have HO103 := ak (Kd.R_lower (Kd.R_new' ho0 (Kd.R_lt (rw_ HO_3.out))) (below_size (bw HB.out)));replace HO_3 := ak (Kd.R_elder' (rw_ HO_3.out) (Kd.R_base ho0) hb);replace HB := b2 HB hb;(try clear hb);(try clear ho0);obtain ⟨Ao16, co16, eo16⟩ := Kd.R_slice HO103.out;subst eo16) | ((with_reducible refine gate_builtin (b := .append) (xs := #[.tmp 9, .tmp 15]) rfl ?_);at_builtin;refine Kd.R_append_rows (Kd.int .u8) (w0 := w) w.heap.size rfl (.tmp 9) (.tmp 15) 22 5 (.int .u8 0) 1 rfl Tryd.underlying22 info5 rfl (by decide) (by omega) u3 x3_1 t101 _ _ _ (fun k_ => some k_ ≠ (.slice Ao16 t101.length co16 : Value).ownBlock) (fun _ => False) rfl rfl ?aO ?aR (fun _ _ h => h) (fun _ h => h.elim) ?aF ?aB ?aS ?aL ?_;(case aR => repeat (first | exact (Kd.R_reads' HO103.out).2.2 | (with_reducible refine Kd.C_alloc ?_ _) | (with_reducible refine Kd.C_drewN ?_ _) | (with_reducible refine Kd.C_drew ?_)));(case aB => exact (bw HB.out));(case aF => exact (fun k_ hk => Kd.fresh' (Kd.R_lt (rw_ HO103.out)) k_ hk));(case aO => exact (rw_ (Kd.R_mono HO_3.out (fun _ hk => hk.2))));(case aS => exact (below_size (bw HB.out)));(case aL => have := LMc7.out; omega);intro v105 w15 ho hb hg hat;rw [← Ny104.out] at ho;replace HO103 := ak (Kd.R_after (ok := (fun _ => True)) (rw_ HO103.out) hg hat);replace HB := ak (hb);have HO106 := ak (ho);clear HO_3;clear ho hb hg hat))
      go_roundg k1
      case measure => have := HK1.out; omega
      case rel => exact ⟨(y104), (wrap64 (x4_1 - 1)), o2, H', ⟨by have := HK1.out; omega⟩, ⟨by (with_reducible repeat (first | apply Kd.R_alloc | apply Kd.R_drewN | apply Kd.R_drew)); exact Kd.R_mono HO106.out (fun _ hk => trivial)⟩, ⟨bw HB.out⟩⟩
    ·rw [if_neg c7] at H
     exact absurd H (by simp)
   ·obtain rfl := Option.some.inj H
    go_wp2
    go_ret
    exact ⟨_, o1, rw_ HO_3.out, bw HB.out⟩

/-! ### spec_DottedRead: function 18 -/
mutual
def spec_DottedRead.l0 : Nat → List Int → Int → Int → Int → Int → Option (Int × Bool)
 | 0, _, _, _, _, _ => none
 | k + 1, x0, x4, x5, x6, x7 => if x7 < (x0.length : Int) then (spec_DottedRead.j1 k x0 x4 x5 x6 x7 (decide ((x0.length : Int) < 16))) else (spec_DottedRead.j1 k x0 x4 x5 x6 x7 false)
def spec_DottedRead.j1 : Nat → List Int → Int → Int → Int → Int → Bool → Option (Int × Bool)
 | 0, _, _, _, _, _, _ => none
 | k + 1, x0, x4, x5, x6, x7, x16 => if x16 = true then (if 0 ≤ x7 then (if x7 < (x0.length : Int) then (if (rd x0 x7) = 46 then (spec_DottedRead.l0 k x0 (wrap64 ((wrap64 (x4 * 256)) + (Int.tmod x5 256))) 0 (wrap64 (x6 + 1)) (wrap64 (x7 + 1))) else (if (rd x0 x7) < 48 then (some (0, false)) else (if (rd x0 x7) > 57 then (some (0, false)) else (if x5 > 255 then (some (0, false)) else (spec_DottedRead.l0 k x0 x4 (wrap64 ((wrap64 (x5 * 10)) + (((rd x0 x7) - 48) % 256))) x6 (wrap64 (x7 + 1))))))) else (none)) else (none)) else (if x6 = 3 then ((spec_l1dotted.f k (Go.bits .and .i64 (wrap64 ((wrap64 (x4 * 256)) + (Int.tmod x5 256))) 4294967295)).bind fun t101 => (if (strOfNums t101).toList = (strOfNums x0).toList then (some (wrap64 ((wrap64 (x4 * 256)) + (Int.tmod x5 256)), true)) else (some (0, false)))) else (some (0, false)))
end
def spec_DottedRead.f (k : Nat) (l0 : List Int) : Option (Int × Bool) := spec_DottedRead.l0 k l0 0 0 0 0
def spec_DottedRead.T13 : Bool × List (List Nat × List Nat) := (true, [([], []), ([0], [0]), ([1], [1]), ([2], [2]), ([3, 2], [2, 3]), ([4, 2, 2], [2, 4]), ([5, 2], [2, 5]), ([2], [2]), ([7, 2], [2, 7]), ([6, 8, 2], [2, 6, 8]), ([2, 9], [2, 9])])
def spec_DottedRead.B13 : List Nat := [0, 1, 3, 7, 15, 31, 63, 7, 135, 511, 1023]
theorem spec_DottedRead.tab13 : rtab .any (opsOf Tryd.f18 13) = spec_DottedRead.T13 := by kernel_rfl
theorem spec_DottedRead.bits13 : waitsOk spec_DottedRead.T13.2 spec_DottedRead.B13 = true := by kernel_rfl
set_option maxHeartbeats 8000000 in
set_option maxRecDepth 100000 in
theorem spec_DottedRead.calls (k : Nat) (A0 : Option Addr) (c0 : Nat) (l0 : List Int) (r1 : Int) (r2 : Bool) (w : World) (hr0 : Kd.C (Kd.int .u8) w A0 l0.length l0) (hc0 : l0.length ≤ c0) (h : spec_DottedRead.f k l0 = some (r1, r2)) :
  Calls Tryd.prog 18 #[.slice A0 l0.length c0] w fun e w' => e = .returned (.tuple #[.int .i64 r1, .bool r2]) ∧ Below w.heap.size w w' := by
 have HR0 := ak hr0
 have HC0 := ak hc0
 clear hr0 hc0
 have HB := ak (Below.refl w.heap.size w)
 have H : (spec_DottedRead.l0 k l0 0 0 0 0) = some (r1, r2) := h
 clear h
 have H' := ak H
 clear H
 go_enter Tryd.func18, Tryd.ntmps18
 go_wp2
 go_loopg [4, 5, 6, 7] k (fun kq v4 v5 v6 v7 w' => ∃ (x4_1 : Int) (x5_1 : Int) (x6_1 : Int) (x7_1 : Int), v4 = .int .i64 x4_1 ∧ v5 = .int .i64 x5_1 ∧ v6 = .int .i64 x6_1 ∧ v7 = .int .i64 x7_1 ∧ Aside0 (spec_DottedRead.l0 kq l0 x4_1 x5_1 x6_1 x7_1 = some (r1, r2)) ∧ Aside0 (kq ≤ k) ∧ Aside0 (Below w.heap.size w w'))
 case atStart => exact ⟨(0), (0), (0), (0), o2, o2, o2, o2, H', ⟨Nat.le_refl _⟩, ⟨bw HB.out⟩⟩
 case round =>
  clear H'
  obtain ⟨x4_1, x5_1, x6_1, x7_1, rfl, rfl, rfl, rfl, HA, HK1, HB⟩ := hrel
  cases gk with
  | zero => exact absurd HA.out (by simp [spec_DottedRead.l0])
  | succ k1 =>
   have H := HA.out
   clear HA
   simp only [spec_DottedRead.l0] at H
   have HC2 := ak H
   clear H
   go_upto_region 3 with (fail)
   go_cut [16] (fun v16 wc => ∃ (kq : Nat) (x16_1 : Bool), v16 = .bool x16_1 ∧ Aside0 (spec_DottedRead.j1 kq l0 x4_1 x5_1 x6_1 x7_1 x16_1 = some (r1, r2)) ∧ Aside0 (kq ≤ k1) ∧ Aside0 (Below w.heap.size w wc))
   case first =>
    have H := HC2.out
    clear HC2
    replace H := ip H
    obtain ⟨c3b0, H⟩ | ⟨c3b0, H⟩ := H
    ·(first | rw [c3b0] | (simp only [i64_w, i32_w]; rw [c3b0]) | skip)
     have H' := ak H
     clear H
     go_wp2
     go_meet
     case rel => exact ⟨_, (decide ((l0.length : Int) < 16)), o2, H', ⟨by have := HK1.out; first | omega | exact Nat.le_refl _⟩, ⟨bw HB.out⟩⟩
    ·(first | rw [c3b0] | (simp only [i64_w, i32_w]; rw [c3b0]) | skip)
     have H' := ak H
     clear H
     go_wp2
     go_meet
     case rel => exact ⟨_, (false), o2, H', ⟨by have := HK1.out; first | omega | exact Nat.le_refl _⟩, ⟨bw HB.out⟩⟩
   case rest =>
    clear HC2
    obtain ⟨kq, x16_1, rfl, HA, HJ1, HB⟩ := hcut
    cases kq with
    | zero => exact absurd HA.out (by simp [spec_DottedRead.j1])
    | succ kj1 =>
     have H := HA.out
     clear HA
     simp only [spec_DottedRead.j1] at H
     replace H := ib H
     obtain ⟨rfl, H⟩ | ⟨rfl, H⟩ := H
     ·replace H := ipN H
      obtain ⟨c5b0, H⟩ := H
      replace H := ipN H
      obtain ⟨c6b0, H⟩ := H
      replace H := ie H
      obtain ⟨c7b0, c7b1, H⟩ | ⟨c7b0, c7b1, H⟩ := H
      ·have H' := ak H
       clear H
       obtain ⟨ad104, rfl, hx104_0, p104, q104⟩ := el_int HR0 HB x7_1
       go_wp2
       go_roundg kj1
       case measure => have := HK1.out; have := HJ1.out; omega
       case rel => exact ⟨(wrap64 ((wrap64 (x4_1 * 256)) + (Int.tmod x5_1 256))), (0), (wrap64 (x6_1 + 1)), (wrap64 (x7_1 + 1)), o2, o2, o2, o2, H', ⟨by have := HK1.out; have := HJ1.out; omega⟩, ⟨bw HB.out⟩⟩
      ·replace H := ip H
       obtain ⟨c8b0, H⟩ | ⟨c8b0, H⟩ := H
       ·simp only [Option.some.injEq, Prod.mk.injEq] at H
        obtain ⟨rfl, rfl⟩ := H
        obtain ⟨ad104, rfl, hx104_0, p104, q104⟩ := el_int HR0 HB x7_1
        obtain ⟨hx105_0, p105, q105⟩ := el2_int HR0 HB x7_1
        go_wp2
        go_ret2
        exact ⟨o1, bw HB.out⟩
       ·replace H := ig H
        obtain ⟨c9b0, H⟩ | ⟨c9b0, H⟩ := H
        ·simp only [Option.some.injEq, Prod.mk.injEq] at H
         obtain ⟨rfl, rfl⟩ := H
         obtain ⟨ad104, rfl, hx104_0, p104, q104⟩ := el_int HR0 HB x7_1
         obtain ⟨hx105_0, p105, q105⟩ := el2_int HR0 HB x7_1
         obtain ⟨hx106_0, p106, q106⟩ := el2_int HR0 HB x7_1
         go_wp2
         go_ret2
         exact ⟨o1, bw HB.out⟩
        ·replace H := ig H
         obtain ⟨c10b0, H⟩ | ⟨c10b0, H⟩ := H
         ·simp only [Option.some.injEq, Prod.mk.injEq] at H
          obtain ⟨rfl, rfl⟩ := H
          obtain ⟨ad104, rfl, hx104_0, p104, q104⟩ := el_int HR0 HB x7_1
          obtain ⟨hx105_0, p105, q105⟩ := el2_int HR0 HB x7_1
          obtain ⟨hx106_0, p106, q106⟩ := el2_int HR0 HB x7_1
          go_wp2
          go_ret2
          exact ⟨o1, bw HB.out⟩
         ·have H' := ak H
          clear H
          obtain ⟨ad104, rfl, hx104_0, p104, q104⟩ := el_int HR0 HB x7_1
          obtain ⟨hx105_0, p105, q105⟩ := el2_int HR0 HB x7_1
          obtain ⟨hx106_0, p106, q106⟩ := el2_int HR0 HB x7_1
          obtain ⟨hx107_0, p107, q107⟩ := el2_int HR0 HB x7_1
          go_wp2
          go_roundg kj1
          case measure => have := HK1.out; have := HJ1.out; omega
          case rel => exact ⟨(x4_1), (wrap64 ((wrap64 (x5_1 * 10)) + (((rd l0 x7_1) - 48) % 256))), (x6_1), (wrap64 (x7_1 + 1)), o2, o2, o2, o2, H', ⟨by have := HK1.out; have := HJ1.out; omega⟩, ⟨bw HB.out⟩⟩
     ·replace H := ie H
      obtain ⟨c11b0, c11b1, H⟩ | ⟨c11b0, c11b1, H⟩ := H
      ·replace H := bnd H
       obtain ⟨t101, A12, H⟩ := H
       replace H := ie H
       obtain ⟨c13b0, c13b1, H⟩ | ⟨c13b0, c13b1, H⟩ := H
       ·simp only [Option.some.injEq, Prod.mk.injEq] at H
        obtain ⟨rfl, rfl⟩ := H
        try go_wp2
        have hcv0 := fun (W : World) (hb : Below w.heap.size w W) => Kd.C_string (P := Tryd.prog) (A := A0) (c := c0) (dst := 9) Tryd.underlying22 Tryd.underlying5 Tryd.underlying9 (Kd.C_below HR0.out hb)
        have hcv1 := hcv0 _ (below_drew1 HB.out)
        go_region_law (first
          | (go_simp; go_at_call 36; refine (spec_l1dotted.calls kj1 (Go.bits .and .i64 (wrap64 ((wrap64 (x4_1 * 256)) + (Int.tmod x5_1 256))) 4294967295) t101 _ A12.out).mono ?_; rintro e w15 ⟨v102, rfl, ho0, hb⟩; obtain ⟨A2, c2, eo⟩ := Kd.R_slice ho0; subst eo; have hcv2 := Kd.C_string (P := Tryd.prog) (dst := 9) (c := c2) Tryd.underlying22 Tryd.underlying5 Tryd.underlying9 (Kd.R_reads' ho0).2.2; replace HB := b2s (bw HB.out) hb; have hcv3 := hcv0 _ HB.out; clear hcv1 ho0 hb))
        all_goals
         (try go_wp2)
         go_ret2
         exact ⟨o1, bw HB.out⟩
       ·simp only [Option.some.injEq, Prod.mk.injEq] at H
        obtain ⟨rfl, rfl⟩ := H
        try go_wp2
        have hcv0 := fun (W : World) (hb : Below w.heap.size w W) => Kd.C_string (P := Tryd.prog) (A := A0) (c := c0) (dst := 9) Tryd.underlying22 Tryd.underlying5 Tryd.underlying9 (Kd.C_below HR0.out hb)
        have hcv1 := hcv0 _ (below_drew1 HB.out)
        go_region_law (first
          | (go_simp; go_at_call 36; refine (spec_l1dotted.calls kj1 (Go.bits .and .i64 (wrap64 ((wrap64 (x4_1 * 256)) + (Int.tmod x5_1 256))) 4294967295) t101 _ A12.out).mono ?_; rintro e w15 ⟨v102, rfl, ho0, hb⟩; obtain ⟨A2, c2, eo⟩ := Kd.R_slice ho0; subst eo; have hcv2 := Kd.C_string (P := Tryd.prog) (dst := 9) (c := c2) Tryd.underlying22 Tryd.underlying5 Tryd.underlying9 (Kd.R_reads' ho0).2.2; replace HB := b2s (bw HB.out) hb; have hcv3 := hcv0 _ HB.out; clear hcv1 ho0 hb))
        all_goals
         (try go_wp2)
         go_ret2
         exact ⟨o1, bw HB.out⟩
      ·simp only [Option.some.injEq, Prod.mk.injEq] at H
       obtain ⟨rfl, rfl⟩ := H
       try go_wp2
       replace HB := ak (below_drew1 HB.out)
       refine start_ (n := 11) (S := fun w' => True) (ds := []) (bA 11 0) (by kernel_rfl) rfl rfl trivial (fun hHeld => ?_); refine with_tabW spec_DottedRead.tab13 spec_DottedRead.bits13 (fun HT_ HW_ => ?_)
       generalize wc.drew = w24 at HB hHeld ⊢
       refine pu HT_ 0 ?_
       refine pu HT_ 1 ?_
       refine pu HT_ 2 ?_
       refine sk HT_ 3 ?_
       refine sk HT_ 4 ?_
       refine sk HT_ 5 ?_
       refine sk HT_ 6 ?_
       refine sk HT_ 7 ?_
       refine sk HT_ 8 ?_
       refine sk HT_ 9 ?_
       refine pu HT_ 10 ?_
       refine done_ (done_of HT_.out (by kernel_rfl)) ?_
       try go_wp2
       go_ret2
       exact ⟨o1, bw HB.out⟩

/-! ### laws_toByteS: function 19 -/
def laws_toByteS.l0 : Nat → List Int → List Int → Int → Option (List Int)
 | 0, _, _, _ => none
 | k + 1, x0, x3, x4 => if x4 < (x0.length : Int) then (if 0 ≤ x4 then (if x4 < (x3.length : Int) then (laws_toByteS.l0 k x0 (x3.set (x4 : Int).toNat (rd x0 x4)) (wrap64 (x4 + 1))) else (none)) else (none)) else (some x3)
def laws_toByteS.f (k : Nat) (l0 : List Int) : Option (List Int) := if 0 ≤ (l0.length : Int) then (if ((l0.length : Int) : Int).toNat ≤ 281474976710656 then (laws_toByteS.l0 k l0 (List.replicate ((l0.length : Int) : Int).toNat 0) 0) else (none)) else (none)
set_option maxHeartbeats 8000000 in
set_option maxRecDepth 100000 in
theorem laws_toByteS.calls (k : Nat) (A0 : Option Addr) (c0 : Nat) (l0 : List Int) (r : List Int) (w : World) (hr0 : Kd.C (Kd.int .u8) w A0 l0.length l0) (hc0 : l0.length ≤ c0) (h : laws_toByteS.f k l0 = some r) :
  Calls Tryd.prog 19 #[.slice A0 l0.length c0] w fun e w' => ∃ v0_ : Value, e = .returned (v0_) ∧ Kd.R (Kd.int .u8) 5 w' w.heap.size (fun _ => True) v0_ r ∧ Below w.heap.size w w' := by
 have HR0 := ak hr0
 have HC0 := ak hc0
 clear hr0 hc0
 have HB := ak (Below.refl w.heap.size w)
 have H : (if 0 ≤ (l0.length : Int) then (if ((l0.length : Int) : Int).toNat ≤ 281474976710656 then (laws_toByteS.l0 k l0 (List.replicate ((l0.length : Int) : Int).toNat 0) 0) else (none)) else (none)) = some r := h
 clear h
 replace H := ipE H
 obtain ⟨c2b0, c2b1, H⟩ := H
 replace H := ipE H
 obtain ⟨c3b0, c3b1, H⟩ := H
 obtain ⟨y101, hy101⟩ : ∃ y_ : List Int, y_ = (List.replicate ((l0.length : Int) : Int).toNat 0) := ⟨_, rfl⟩
 (try with_reducible replace H := bnS H)
 (try rw [← hy101] at H)
 have Ny101 := ak hy101
 clear hy101
 have H' := ak H
 clear H
 go_enter Tryd.func19, Tryd.ntmps19
 go_wp2_with (((with_reducible refine gate_dst (N := 7) rfl ?_);refine Kd.R_make (Kd.int .u8) _ 5 rfl (N := 7) rfl 22 _ _ rfl (l0.length : Int) rfl rfl Tryd.underlying22 (.int .u8 0) 1 info5 rfl (by decide) (by omega) 0 (ok := fun _ => True) (okp := fun _ => True) rfl (fun _ hk => hk) trivial (of_decide_eq_true (by first | (with_reducible assumption) | assumption)) (Nat.le_trans (Nat.mul_le_mul_right _ (of_decide_eq_true (by first | (with_reducible assumption) | assumption) : (l0.length : Int).toNat ≤ 281474976710656)) (by omega)) (Below.refl _ _) (Nat.le_refl _) ?_;intro v102 w4 ho5 hb hg_ hnew_;clear hg_ hnew_;(first | rw [← Ny101.out] at ho5 | (simp only [Int.reduceToNat] at ho5; rw [← Ny101.out] at ho5));have HO103 := ak (Kd.R_lower ho5 (below_size (bw HB.out)));replace HB := b2 HB hb;clear hb ho5))
 go_loopg [4] k (fun kq v4 w' => ∃ (x3_1 : List Int) (x4_1 : Int), v4 = .int .i64 x4_1 ∧ Aside0 (laws_toByteS.l0 kq l0 x3_1 x4_1 = some r) ∧ Aside0 (kq ≤ k) ∧ Aside0 (Kd.R (Kd.int .u8) 5 w' w.heap.size (fun _ => True) v102 x3_1) ∧ Aside0 (Below w.heap.size w w'))
 case atStart => exact ⟨(y101), (0), o2, H', ⟨Nat.le_refl _⟩, ⟨rw_ HO103.out⟩, ⟨bw HB.out⟩⟩
 case round =>
  clear H'
  (try clear c2b0)
  (try clear c2b1)
  (try clear c3b0)
  (try clear c3b1)
  obtain ⟨x3_1, x4_1, rfl, HA, HK1, HO_3, HB⟩ := hrel
  cases gk with
  | zero => exact absurd HA.out (by simp [laws_toByteS.l0])
  | succ k1 =>
   have H := HA.out
   clear HA
   simp only [laws_toByteS.l0] at H
   replace H := ip H
   obtain ⟨c6b0, H⟩ | ⟨c6b0, H⟩ := H
   ·replace H := ipN H
    obtain ⟨c7b0, H⟩ := H
    replace H := ipN H
    obtain ⟨c8b0, H⟩ := H
    obtain ⟨y105, hy105⟩ : ∃ y_ : List Int, y_ = (x3_1.set (x4_1 : Int).toNat (rd l0 x4_1)) := ⟨_, rfl⟩
    (try with_reducible replace H := bnS H)
    (try rw [← hy105] at H)
    have Ny105 := ak hy105
    clear hy105
    have H' := ak H
    clear H
    obtain ⟨ad104, rfl, hx104_0, p104, q104⟩ := el_int HR0 HB x4_1
    have p9 : 0 ≤ (x4_1 : Int) := of_decide_eq_true (by first | (with_reducible assumption) | assumption)
    have q9 : (x4_1 : Int) < ((x3_1.length : Int) : Int) := of_decide_eq_true (by first | (with_reducible assumption) | assumption)
    obtain ⟨go9, co9, eo9, gb9, gl9, cl9, HG9⟩ := Kd.R_form HO_3.out (by omega)
    (first | cases eo9 | (injection eo9 with ea_ en_ ec_; (first | subst ea_ | (injection ea_ with ea_; subst ea_)); subst ec_; clear en_))
    have GB9 := ak gb9
    have GG9 := ak HG9
    clear gb9 gl9 HG9
    obtain ⟨hx9_0, hf9_0⟩ := Kd.R_celln 0 HO_3.out (x4_1 : Int) p9 q9
    replace p9 := eq_true p9
    replace q9 := eq_true q9
    have HP10 := Kd.R_putg HO_3.out (x4_1 : Int) (rd l0 x4_1)
    go_wp2_with (((with_reducible refine gate_store (t := 5) (p := 20) rfl ?_);refine store_event (t := 5) (p := 20) (v := ?vo_w11) (w1 := (wr.setCell ⟨go9, (x4_1 : Int).toNat, none⟩ (.int .u8 (rd l0 x4_1)))) ?hg ?ho ?hn ?hr ?_;(case ho => rfl);(case hg => rfl);(case hn => rfl);(case hr => first | (go_simp; done) | (go_simp; rfl));intro w11 hw;have hg : wr.grownBy w11 (some go9) := (by rw [hw]; exact HP10.2);have hp_ : Kd.R (Kd.int .u8) 5 w11 w.heap.size (fun _ => True) (.slice (some ⟨go9, 0, none⟩) x3_1.length co9) y105 := (by rw [hw, Ny105.out]; exact HP10.1);clear HP10;replace HO_3 := ak (hp_);replace HB := ak ((by rw [hw]; exact below_set (HB.out) GB9.out : Below w.heap.size w w11));clear hg hw hp_))
    go_roundg k1
    case measure => have := HK1.out; omega
    case rel => exact ⟨(y105), (wrap64 (x4_1 + 1)), o2, H', ⟨by have := HK1.out; omega⟩, ⟨rw_ HO_3.out⟩, ⟨bw HB.out⟩⟩
   ·obtain rfl := Option.some.inj H
    go_wp2
    go_ret
    exact ⟨_, o1, rw_ HO_3.out, bw HB.out⟩

/-! ### laws_eqByteS: function 10 -/
def laws_eqByteS.l0 : Nat → List Int → List Int → Int → Option (Bool)
 | 0, _, _, _ => none
 | k + 1, x0, x1, x5 => if x5 < (x0.length : Int) then (if 0 ≤ x5 then (if x5 < (x1.length : Int) then (if (rd x0 x5) = (rd x1 x5) then (laws_eqByteS.l0 k x0 x1 (wrap64 (x5 + 1))) else (some false)) else (none)) else (none)) else (some true)
def laws_eqByteS.f (k : Nat) (l0 : List Int) (l1 : List Int) : Option (Bool) := if (l0.length : Int) = (l1.length : Int) then (laws_eqByteS.l0 k l0 l1 0) else (some false)
set_option maxHeartbeats 8000000 in
set_option maxRecDepth 100000 in
theorem laws_eqByteS.calls (k : Nat) (A0 : Option Addr) (c0 : Nat) (l0 : List Int) (A1 : Option Addr) (c1 : Nat) (l1 : List Int) (r : Bool) (w : World) (hr0 : Kd.C (Kd.int .u8) w A0 l0.length l0) (hc0 : l0.length ≤ c0) (hr1 : Kd.C (Kd.int .u8) w A1 l1.length l1) (hc1 : l1.length ≤ c1) (h : laws_eqByteS.f k l0 l1 = some r) :
  Calls Tryd.prog 10 #[.slice A0 l0.length c0, .slice A1 l1.length c1] w fun e w' => e = .returned (.bool r) ∧ Drawn0 w w' := by
 have HR0 := ak hr0
 have HC0 := ak hc0
 clear hr0 hc0
 have HR1 := ak hr1
 have HC1 := ak hc1
 clear hr1 hc1
 have H : (if (l0.length : Int) = (l1.length : Int) then (laws_eqByteS.l0 k l0 l1 0) else (some false)) = some r := h
 clear h
 replace H := ie H
 obtain ⟨c3b0, c3b1, H⟩ | ⟨c3b0, c3b1, H⟩ := H
 ·have c3b2 : (l0.length == l1.length) = true := lnT c3b0
  have H' := ak H
  clear H
  go_enter Tryd.func10, Tryd.ntmps10
  go_wp2
  repeat (go_quiet (fail); try go_wp2)
  go_loopg [5] k (fun kq v5 w' => ∃ (x5_1 : Int), v5 = .int .i64 x5_1 ∧ Aside0 (laws_eqByteS.l0 kq l0 l1 x5_1 = some r) ∧ Aside0 (kq ≤ k) ∧ Drawn0 w w')
  case atStart => exact ⟨(0), o2, H', ⟨Nat.le_refl _⟩, od⟩
  case round =>
   clear H'
   (try clear c1)
   (try clear c3b0)
   (try clear c3b1)
   (try clear c3b2)
   obtain ⟨x5_1, rfl, HA, HK1, ⟨m1, rfl⟩⟩ := hrel
   cases gk with
   | zero => exact absurd HA.out (by simp [laws_eqByteS.l0])
   | succ k1 =>
    have H := HA.out
    clear HA
    simp only [laws_eqByteS.l0] at H
    replace H := ip H
    obtain ⟨c4b0, H⟩ | ⟨c4b0, H⟩ := H
    ·replace H := ipN H
     obtain ⟨c5b0, H⟩ := H
     replace H := ipN H
     obtain ⟨c6b0, H⟩ := H
     replace H := ie H
     obtain ⟨c7b0, c7b1, H⟩ | ⟨c7b0, c7b1, H⟩ := H
     ·have H' := ak H
      clear H
      obtain ⟨ad101, rfl, hx101_0, p101, q101⟩ := el0_int HR0 x5_1
      obtain ⟨ad102, rfl, hx102_0, p102, q102⟩ := el0_int HR1 x5_1
      go_wp2
      repeat (go_quiet (fail); try go_wp2)
      go_roundg k1
      case measure => have := HK1.out; omega
      case rel => exact ⟨(wrap64 (x5_1 + 1)), o2, H', ⟨by have := HK1.out; omega⟩, od⟩
     ·obtain rfl := Option.some.inj H
      obtain ⟨ad101, rfl, hx101_0, p101, q101⟩ := el0_int HR0 x5_1
      obtain ⟨ad102, rfl, hx102_0, p102, q102⟩ := el0_int HR1 x5_1
      go_wp2
      repeat (go_quiet (fail); try go_wp2)
      go_ret
      exact ⟨o2, od⟩
    ·obtain rfl := Option.some.inj H
     go_wp2
     repeat (go_quiet (fail); try go_wp2)
     go_ret
     exact ⟨o2, od⟩
 ·have c3b2 : (l0.length == l1.length) = false := lnF c3b0
  obtain rfl := Option.some.inj H
  go_enter Tryd.func10, Tryd.ntmps10
  go_wp2
  repeat (go_quiet (fail); try go_wp2)
  go_ret
  exact ⟨o2, od⟩

theorem dottedread_law (k : Nat) (A : Option Addr) (c : Nat) (b : List Int) (w : World) (hr : Kd.C (Kd.int .u8) w A b.length b) (hc : b.length ≤ c) (hby : ∀ x ∈ b, 0 ≤ x ∧ x ≤ 255) (hE : EnvR w)
    (hl : b.length ≤ 1048576) (hto : laws_toByteS.f k b = some b) (hs : spec_DottedRead.f k b = some ((readV b).1, (readV b).2)) (he : laws_eqByteS.f k b b = some true) :
    Calls Tryd.prog 5 #[.slice A b.length c] w fun e w' => e = .returned (.bool true) ∧ Below w.heap.size w w' := by
  have HR := ak hr
  have HC := ak hc
  have HBY := ak hby
  have HE := ak hE
  have HTO := ak hto
  have HS := ak hs
  have HQ := ak he
  clear hr hc hby hE hto hs he
  obtain ⟨n, hn⟩ : ∃ n, n = (readV b).1 := ⟨_, rfl⟩
  obtain ⟨ok, hok⟩ : ∃ ok, ok = (readV b).2 := ⟨_, rfl⟩
  rw [← hn, ← hok] at HS
  have HN := ak hn
  have HOK := ak hok
  clear hn hok
  have hlz : ¬ (b.length : Int) > 1048576 := by omega
  have hnn : (n != n) = false := by simp
  have hoo : (ok != ok) = false := by cases ok <;> rfl
  go_enter Tryd.func5, Tryd.ntmps5
  go_wp2_with (fail)
  refine (laws_toByteS.calls k A c b b w HR.out HC.out HTO.out).mono ?_
  rintro e w1 ⟨v1, rfl, ho, hb⟩
  obtain ⟨A1, c1, rfl, l1, g1⟩ := Kd.R_reads ho
  have HB := ak hb
  clear hb ho
  go_wp2_with (fail)
  refine (spec_DottedRead.calls k A1 c1 b n ok w1 g1 l1 HS.out).mono ?_
  rintro e w2 ⟨rfl, hb⟩
  replace HB := b2s HB.out hb
  clear hb g1 l1
  go_wp2_with (fail)
  refine (laws_toByteS.calls k A c b b w2 (Kd.C_below HR.out HB.out) HC.out HTO.out).mono ?_
  rintro e w3 ⟨v3, rfl, ho, hb⟩
  obtain ⟨A3, c3, rfl, l3, g3⟩ := Kd.R_reads ho
  replace HB := b2s HB.out hb
  have L3 := ak l3
  have G3 := ak g3
  clear hb ho l3 g3
  go_wp2_with (fail)
  refine (dottedread_any A3 c3 b w3 G3.out L3.out hl HBY.out (HE.out.below HB.out)).mono ?_
  rintro e w4 ⟨rfl, hb⟩
  rw [← HN.out, ← HOK.out]
  replace HB := b2s HB.out hb
  replace G3 := ak (Kd.C_below G3.out hb)
  clear hb
  go_wp2_with (fail)
  refine (laws_toByteS.calls k A c b b w4 (Kd.C_below HR.out HB.out) HC.out HTO.out).mono ?_
  rintro e w5 ⟨v5, rfl, ho, hb⟩
  obtain ⟨A5, c5, rfl, l5, g5⟩ := Kd.R_reads ho
  replace HB := b2s HB.out hb
  replace G3 := ak (Kd.C_below G3.out hb)
  clear hb ho
  go_wp2_with (fail)
  refine (laws_eqByteS.calls k A3 c3 b A5 c5 b true w5 G3.out L3.out g5 l5 HQ.out).mono ?_
  rintro e w6 ⟨rfl, hd⟩
  replace HB := b2s HB.out hd.below
  clear hd l5 g5
  go_wp2
  go_ret
  exact ⟨rfl, HB.out⟩
set_option maxHeartbeats 8000000 in
set_option maxRecDepth 100000 in
theorem dottedread_big (A : Option Addr) (c : Nat) (b : List Int) (w : World) (hl : ¬ b.length ≤ 1048576) :
    Calls Tryd.prog 5 #[.slice A b.length c] w fun e w' => e = .returned (.bool true) ∧ Below w.heap.size w w' := by
  have hlz : (b.length : Int) > 1048576 := by omega
  go_enter Tryd.func5, Tryd.ntmps5
  go_wp2
  go_ret
  exact ⟨rfl, Below.refl _ _⟩

/-! ### impl_get: function 55 -/
/-! ### laws_markByteS: function 11 -/
/-! ### laws_heldByteS: function 12 -/

/-! ### spec_Dotted: function 8 -/
def spec_Dotted.f (k : Nat) (a0 : Int) : Option (List Int) := if a0 < 0 then (some ([] : List Int)) else (if a0 ≥ 4294967296 then (some ([] : List Int)) else ((spec_l1dotted.f k a0).bind fun t101 => (some t101)))
/-! ### laws_FnExactDotted: function 3 -/
/-! ### laws_markByteSS: function 43 -/

/-! ### laws_markName: function 16 -/

section
variable {b U : Nat} {w w' : World} {v : Value} {xs : List (List Int)} {ps : List (Option Addr × Nat × Nat)} {S : Nat → Prop}
end
section
variable {ops : Array Oper} {rest : List Oper} {o : Oper} {a : Act} {Q : Exit → Act → World → Prop} {Kc : Act → World → Prop}
end

/-! ### impl_hasTo: function 94 -/
/-! ### slices_IndexFunc_byte_byte_139: function 139 -/

/-! ### slices_ContainsFunc_byte_byte_124: function 124 -/

/-! ### impl_all_byte_1_125: function 125 -/

/-! ### impl_all_byte_112: function 112 -/

/-! ### slices_IndexFunc_byte_byte_149: function 149 -/

/-! ### slices_ContainsFunc_byte_byte_140: function 140 -/

/-! ### impl_all_byte_1_141: function 141 -/

/-! ### impl_all_byte_126: function 126 -/

/-! ### impl_LabelOk_1: function 127 -/
/-! ### impl_LabelOk: function 113 -/

/-! ### impl_NameOk: function 92 -/

/-! ### impl_NameText: function 96 -/
/-! ### impl_words: function 97 -/
/-! ### impl_typeName: function 98 -/


/-! ### impl_TypeOk: function 93 -/

/-! ### impl_hasText: function 95 -/
/-! ### impl_RrOk: function 66 -/

/-! ### spec_l2text: function 87 -/
/-! ### spec_l3type: function 88 -/
/-! ### spec_l3named: function 89 -/
/-! ### spec_l3hex: function 90 -/

/-! ### spec_LabelOk: function 110 -/
/-! ### spec_NameOk: function 84 -/
/-! ### spec_TypeOk: function 85 -/
/-! ### spec_l3texted: function 111 -/
/-! ### spec_l3data: function 86 -/
/-! ### spec_RrOk: function 62 -/

end Go.Proofs.YtkmchjdioplfjaaDoor.Q
