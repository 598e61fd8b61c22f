/- Printed by a program of this session (wip/myprint.py), which drives the kit's printer: functions and what their calls do. -/
import Derived.Test.YtagedmajlppohaaProg
import Derived.Below
import Derived.Deep.Draws
import Derived.Deep.AppendLies
import Derived.Maps.AppendAt
import Derived.OwnWalk
import Derived.Laws.BytesArg
import Derived.Laws.MakeOwn
import Derived.Laws.OwnMore
import Derived.Deep.OwnRows
import Derived.Tactics
import Derived.Lib.ConvBytes
import Derived.Laws.Slices
import Derived.WalkKit
import Derived.KernelRfl
import Derived.RowKit3
import Derived.Deep.LoopGhost
import Derived.Deep.QuietTactic
import Derived.BigQuiet
import Derived.WideLaws
import Derived.Deep.DeepCutAuto
import Derived.Deep.CutBlock
import Derived.Deep.RegionHeld3
import Derived.Laws.Rows
import Derived.Lib.AppendStr
import Derived.ArgAppend
import Derived.Laws.IdiomCopy
import Derived.OrdersHeld
import Derived.Laws.BitsLemmas
import Derived.RowKit
import Derived.WalkSpells
import Derived.WalkLawsBesides
import Derived.Shelf.Abstract
import Derived.Test.YtagedmajlppohaaVFnExactSerial
namespace Go.Proofs.Ytagedmajlppohaa.Q
open Go.RowKit Go Go.Proofs.YtagedmajlppohaaW.PrintWords Go.Proofs.YtagedmajlppohaaW.PrintLast Go.Proofs.YtagedmajlppohaaW.PrintMore
attribute [local go_sem] max2_int min2_int max_two min_two max_three min_three max_four min_four
set_option linter.unusedVariables false
set_option linter.unusedSimpArgs false

def errW : Option Int → Value
  | none => .nilIface
  | some c => .iface 0 (.int .i64 c)
theorem errW_none : errW none = .nilIface := rfl
theorem errW_some (c : Int) : errW (some c) = .iface 0 (.int .i64 c) := rfl

theorem quY : (Try.prog.info? 3).map (fun i => (i.zero, i.size, i.bytes)) = some (some (.int .i64 0), 1, 8) := by kernel_rfl
theorem XJ : (Try.prog.info? 5).map (fun i => (i.zero, i.size, i.bytes)) = some (some (.int .u8 0), 1, 1) := by kernel_rfl
theorem qlt : (Try.prog.info? 25).map (fun i => (i.zero, i.size, i.bytes)) = some (some (.slice none 0 0), 1, 24) := by kernel_rfl
theorem qgj : (Try.prog.info? 33).map (fun i => (i.zero, i.size, i.bytes)) = some (some (.agg #[(.slice none 0 0), (.int .i64 0), (.int .i64 0), (.int .i64 0), (.slice none 0 0), (.slice none 0 0), (.slice none 0 0)]), 7, 120) := by kernel_rfl
-- the values' own types
/-! #### struct type 7 -/
/-! #### struct type 8 -/
/-! #### struct type 13 -/
/-! #### struct type 14 -/
def qP (xs : List (List Int)) (i : Int) : (List Int) := xs.getD i.toNat ([] : List Int)
theorem Ju {w : World} {A : Option Addr} {n : Nat} {xs : List (List Int)} (h : Kd.C (Kd.slice 5 (Kd.int .u8)) w A n xs) (i : Int) (h0 : 0 ≤ i) (h1 : i < n) : ∃ ad A0 c0, A = some ad ∧ w.cell? (ad.add i.toNat) = some (.slice A0 (qP xs i).length c0) ∧ (qP xs i).length ≤ c0 ∧ (Kd.int .u8).C w A0 (qP xs i).length (qP xs i) := by
  obtain ⟨ad, c, e, _, hK, hc0⟩ := Kd.C_get h ([] : List Int) i h0 h1
  have hc : ∀ j u, c[j]? = some u → w.cell? (ad.add (i.toNat * 1 + j)) = some u := hc0
  obtain ⟨A0, c0, rfl, l0, g0⟩ := hK
  exact ⟨ad, A0, c0, e, by have hq := hc 0 _ rfl; rwa [Nat.mul_one, Nat.add_zero] at hq, l0, g0⟩

/-! #### struct type 23 -/
/-! #### struct type 24 -/
structure S24 where
  f0 : (List (List Int))
def z24 : S24 := ⟨([] : List (List Int))⟩
def k24 : Kd S24 := Kd.iso (Kd.slice 25 (Kd.slice 5 (Kd.int .u8))) (fun x : S24 => x.f0)
theorem k24_open {w : World} {x : S24} {cs : List Value} (h : k24.K w x cs) : ∃ A0 c0, cs = [.slice A0 x.f0.length c0] ∧ x.f0.length ≤ c0 ∧ (Kd.slice 5 (Kd.int .u8)).C w A0 x.f0.length x.f0 := by
  obtain ⟨A0, c0, rfl, l0, g0⟩ := h
  exact ⟨A0, c0, rfl, l0, g0⟩
/-! #### struct type 27 -/
/-! #### struct type 28 -/
structure S28 where
  f0 : S24
  f1 : Int
  f2 : Int
  f3 : Int
  f4 : S24
  f5 : (List Int)
  f6 : (List Int)
def z28 : S28 := ⟨z24, (0 : Int), (0 : Int), (0 : Int), z24, ([] : List Int), ([] : List Int)⟩
def k28 : Kd S28 := Kd.iso (Kd.pair k24 (Kd.pair (Kd.int .i64) (Kd.pair (Kd.int .i64) (Kd.pair (Kd.int .i64) (Kd.pair k24 (Kd.pair (Kd.slice 5 (Kd.int .u8)) (Kd.slice 3 (Kd.int .i64)))))))) (fun x : S28 => (x.f0, x.f1, x.f2, x.f3, x.f4, x.f5, x.f6))
theorem k28_open {w : World} {x : S28} {cs : List Value} (h : k28.K w x cs) : ∃ A0 c0 A4 c4 A5 c5 A6 c6, cs = [.slice A0 x.f0.f0.length c0, .int .i64 x.f1, .int .i64 x.f2, .int .i64 x.f3, .slice A4 x.f4.f0.length c4, .slice A5 x.f5.length c5, .slice A6 x.f6.length c6] ∧ x.f0.f0.length ≤ c0 ∧ (Kd.slice 5 (Kd.int .u8)).C w A0 x.f0.f0.length x.f0.f0 ∧ x.f4.f0.length ≤ c4 ∧ (Kd.slice 5 (Kd.int .u8)).C w A4 x.f4.f0.length x.f4.f0 ∧ x.f5.length ≤ c5 ∧ (Kd.int .u8).C w A5 x.f5.length x.f5 ∧ x.f6.length ≤ c6 ∧ (Kd.int .i64).C w A6 x.f6.length x.f6 := by
  obtain ⟨_, _, rfl, s0, ⟨_, _, rfl, rfl, ⟨_, _, rfl, rfl, ⟨_, _, rfl, rfl, ⟨_, _, rfl, s4, ⟨_, _, rfl, ⟨A5, c5, rfl, l5, g5⟩, ⟨A6, c6, rfl, l6, g6⟩⟩⟩⟩⟩⟩⟩ := h
  obtain ⟨A0, c0, rfl, l0, g0⟩ := k24_open s0
  obtain ⟨A4, c4, rfl, l4, g4⟩ := k24_open s4
  exact ⟨A0, c0, A4, c4, A5, c5, A6, c6, rfl, l0, g0, l4, g4, l5, g5, l6, g6⟩
def jl (xs : List S28) (i : Int) : S28 := xs.getD i.toNat z28
theorem qma {w : World} {A : Option Addr} {n : Nat} {xs : List S28} (h : Kd.C k28 w A n xs) (i : Int) (h0 : 0 ≤ i) (h1 : i < n) : ∃ ad A0 c0 A4 c4 A5 c5 A6 c6, A = some ad ∧ w.cell? (ad.add (i.toNat * 7)) = some (.slice A0 (jl xs i).f0.f0.length c0) ∧ w.cell? ⟨(ad.add (i.toNat * 7)).block, (ad.add (i.toNat * 7)).off + 1, none⟩ = some (.int .i64 (jl xs i).f1) ∧ w.cell? ⟨(ad.add (i.toNat * 7)).block, (ad.add (i.toNat * 7)).off + 2, none⟩ = some (.int .i64 (jl xs i).f2) ∧ w.cell? ⟨(ad.add (i.toNat * 7)).block, (ad.add (i.toNat * 7)).off + 3, none⟩ = some (.int .i64 (jl xs i).f3) ∧ w.cell? ⟨(ad.add (i.toNat * 7)).block, (ad.add (i.toNat * 7)).off + 4, none⟩ = some (.slice A4 (jl xs i).f4.f0.length c4) ∧ w.cell? ⟨(ad.add (i.toNat * 7)).block, (ad.add (i.toNat * 7)).off + 5, none⟩ = some (.slice A5 (jl xs i).f5.length c5) ∧ w.cell? ⟨(ad.add (i.toNat * 7)).block, (ad.add (i.toNat * 7)).off + 6, none⟩ = some (.slice A6 (jl xs i).f6.length c6) ∧ (jl xs i).f0.f0.length ≤ c0 ∧ (Kd.slice 5 (Kd.int .u8)).C w A0 (jl xs i).f0.f0.length (jl xs i).f0.f0 ∧ (jl xs i).f4.f0.length ≤ c4 ∧ (Kd.slice 5 (Kd.int .u8)).C w A4 (jl xs i).f4.f0.length (jl xs i).f4.f0 ∧ (jl xs i).f5.length ≤ c5 ∧ (Kd.int .u8).C w A5 (jl xs i).f5.length (jl xs i).f5 ∧ (jl xs i).f6.length ≤ c6 ∧ (Kd.int .i64).C w A6 (jl xs i).f6.length (jl xs i).f6 := by
  obtain ⟨ad, c, e, _, hK, hc0⟩ := Kd.C_get h z28 i h0 h1
  have hc : ∀ j u, c[j]? = some u → w.cell? (ad.add (i.toNat * 7 + j)) = some u := hc0
  obtain ⟨A0, c0, A4, c4, A5, c5, A6, c6, rfl, l0, g0, l4, g4, l5, g5, l6, g6⟩ := k28_open hK
  exact ⟨ad, A0, c0, A4, c4, A5, c5, A6, c6, e, hc 0 _ rfl, by rw [← add_field _ _ 1 (by omega)]; exact hc 1 _ rfl, by rw [← add_field _ _ 2 (by omega)]; exact hc 2 _ rfl, by rw [← add_field _ _ 3 (by omega)]; exact hc 3 _ rfl, by rw [← add_field _ _ 4 (by omega)]; exact hc 4 _ rfl, by rw [← add_field _ _ 5 (by omega)]; exact hc 5 _ rfl, by rw [← add_field _ _ 6 (by omega)]; exact hc 6 _ rfl, l0, g0, l4, g4, l5, g5, l6, g6⟩

/-! #### struct type 31 -/
structure S31 where
  f0 : (List (List Int))
def z31 : S31 := ⟨([] : List (List Int))⟩
def k31 : Kd S31 := Kd.iso (Kd.slice 25 (Kd.slice 5 (Kd.int .u8))) (fun x : S31 => x.f0)
theorem k31_heap : Kd.Heap k31 := Kd.heap_iso _ (Kd.heap_slice 25 (Kd.heap_slice 5 (Kd.heap_int .u8)))
theorem k31_open {w : World} {x : S31} {cs : List Value} (h : k31.K w x cs) : ∃ A0 c0, cs = [.slice A0 x.f0.length c0] ∧ x.f0.length ≤ c0 ∧ (Kd.slice 5 (Kd.int .u8)).C w A0 x.f0.length x.f0 := by
  obtain ⟨A0, c0, rfl, l0, g0⟩ := h
  exact ⟨A0, c0, rfl, l0, g0⟩
theorem k31_openM {w : World} {base : Nat} {ok : Nat → Prop} {x : S31} {cs : List Value} (h : k31.M w base ok x cs) : ∃ v0, cs = [v0] ∧ (Kd.slice 5 (Kd.int .u8)).R 25 w base ok v0 x.f0 := by
  obtain ⟨v0, rfl, g0⟩ := h
  exact ⟨v0, rfl, g0⟩
theorem k31_mk (w : World) (x : S31) {A0 : Option Addr} {c0 : Nat} (l0 : x.f0.length ≤ c0) (g0 : (Kd.slice 5 (Kd.int .u8)).C w A0 x.f0.length x.f0) : k31.K w x [.slice A0 x.f0.length c0] := ⟨A0, c0, rfl, l0, g0⟩
theorem k31_mkM (w : World) (base : Nat) (ok : Nat → Prop) (x : S31) {v0 : Value} (g0 : (Kd.slice 5 (Kd.int .u8)).R 25 w base ok v0 x.f0) : k31.M w base ok x [v0] := ⟨v0, rfl, g0⟩
/-! #### struct type 32 -/
/-! #### struct type 33 -/
structure S33 where
  f0 : S31
  f1 : Int
  f2 : Int
  f3 : Int
  f4 : S31
  f5 : (List Int)
  f6 : (List Int)
def z33 : S33 := ⟨z31, (0 : Int), (0 : Int), (0 : Int), z31, ([] : List Int), ([] : List Int)⟩
def k33 : Kd S33 := Kd.iso (Kd.pair k31 (Kd.pair (Kd.int .i64) (Kd.pair (Kd.int .i64) (Kd.pair (Kd.int .i64) (Kd.pair k31 (Kd.pair (Kd.slice 5 (Kd.int .u8)) (Kd.slice 3 (Kd.int .i64)))))))) (fun x : S33 => (x.f0, x.f1, x.f2, x.f3, x.f4, x.f5, x.f6))
theorem k33_heap : Kd.Heap k33 := Kd.heap_iso _ (Kd.heap_pair k31_heap (Kd.heap_pair (Kd.heap_int .i64) (Kd.heap_pair (Kd.heap_int .i64) (Kd.heap_pair (Kd.heap_int .i64) (Kd.heap_pair k31_heap (Kd.heap_pair (Kd.heap_slice 5 (Kd.heap_int .u8)) (Kd.heap_slice 3 (Kd.heap_int .i64))))))))
theorem k33_open {w : World} {x : S33} {cs : List Value} (h : k33.K w x cs) : ∃ A0 c0 A4 c4 A5 c5 A6 c6, cs = [.slice A0 x.f0.f0.length c0, .int .i64 x.f1, .int .i64 x.f2, .int .i64 x.f3, .slice A4 x.f4.f0.length c4, .slice A5 x.f5.length c5, .slice A6 x.f6.length c6] ∧ x.f0.f0.length ≤ c0 ∧ (Kd.slice 5 (Kd.int .u8)).C w A0 x.f0.f0.length x.f0.f0 ∧ x.f4.f0.length ≤ c4 ∧ (Kd.slice 5 (Kd.int .u8)).C w A4 x.f4.f0.length x.f4.f0 ∧ x.f5.length ≤ c5 ∧ (Kd.int .u8).C w A5 x.f5.length x.f5 ∧ x.f6.length ≤ c6 ∧ (Kd.int .i64).C w A6 x.f6.length x.f6 := by
  obtain ⟨_, _, rfl, s0, ⟨_, _, rfl, rfl, ⟨_, _, rfl, rfl, ⟨_, _, rfl, rfl, ⟨_, _, rfl, s4, ⟨_, _, rfl, ⟨A5, c5, rfl, l5, g5⟩, ⟨A6, c6, rfl, l6, g6⟩⟩⟩⟩⟩⟩⟩ := h
  obtain ⟨A0, c0, rfl, l0, g0⟩ := k31_open s0
  obtain ⟨A4, c4, rfl, l4, g4⟩ := k31_open s4
  exact ⟨A0, c0, A4, c4, A5, c5, A6, c6, rfl, l0, g0, l4, g4, l5, g5, l6, g6⟩
theorem k33_openM {w : World} {base : Nat} {ok : Nat → Prop} {x : S33} {cs : List Value} (h : k33.M w base ok x cs) : ∃ v0 v4 v5 v6, cs = [v0, .int .i64 x.f1, .int .i64 x.f2, .int .i64 x.f3, v4, v5, v6] ∧ (Kd.slice 5 (Kd.int .u8)).R 25 w base ok v0 x.f0.f0 ∧ (Kd.slice 5 (Kd.int .u8)).R 25 w base ok v4 x.f4.f0 ∧ (Kd.int .u8).R 5 w base ok v5 x.f5 ∧ (Kd.int .i64).R 3 w base ok v6 x.f6 := by
  obtain ⟨_, _, rfl, s0, ⟨_, _, rfl, rfl, ⟨_, _, rfl, rfl, ⟨_, _, rfl, rfl, ⟨_, _, rfl, s4, ⟨_, _, rfl, ⟨v5, rfl, g5⟩, ⟨v6, rfl, g6⟩⟩⟩⟩⟩⟩⟩ := h
  obtain ⟨v0, rfl, g0⟩ := k31_openM s0
  obtain ⟨v4, rfl, g4⟩ := k31_openM s4
  exact ⟨v0, v4, v5, v6, rfl, g0, g4, g5, g6⟩
theorem k33_mk (w : World) (x : S33) {A0 : Option Addr} {c0 : Nat} (l0 : x.f0.f0.length ≤ c0) (g0 : (Kd.slice 5 (Kd.int .u8)).C w A0 x.f0.f0.length x.f0.f0) {A4 : Option Addr} {c4 : Nat} (l4 : x.f4.f0.length ≤ c4) (g4 : (Kd.slice 5 (Kd.int .u8)).C w A4 x.f4.f0.length x.f4.f0) {A5 : Option Addr} {c5 : Nat} (l5 : x.f5.length ≤ c5) (g5 : (Kd.int .u8).C w A5 x.f5.length x.f5) {A6 : Option Addr} {c6 : Nat} (l6 : x.f6.length ≤ c6) (g6 : (Kd.int .i64).C w A6 x.f6.length x.f6) : k33.K w x [.slice A0 x.f0.f0.length c0, .int .i64 x.f1, .int .i64 x.f2, .int .i64 x.f3, .slice A4 x.f4.f0.length c4, .slice A5 x.f5.length c5, .slice A6 x.f6.length c6] := ⟨[.slice A0 x.f0.f0.length c0], [.int .i64 x.f1, .int .i64 x.f2, .int .i64 x.f3, .slice A4 x.f4.f0.length c4, .slice A5 x.f5.length c5, .slice A6 x.f6.length c6], rfl, (k31_mk w x.f0 l0 g0), ⟨[.int .i64 x.f1], [.int .i64 x.f2, .int .i64 x.f3, .slice A4 x.f4.f0.length c4, .slice A5 x.f5.length c5, .slice A6 x.f6.length c6], rfl, rfl, ⟨[.int .i64 x.f2], [.int .i64 x.f3, .slice A4 x.f4.f0.length c4, .slice A5 x.f5.length c5, .slice A6 x.f6.length c6], rfl, rfl, ⟨[.int .i64 x.f3], [.slice A4 x.f4.f0.length c4, .slice A5 x.f5.length c5, .slice A6 x.f6.length c6], rfl, rfl, ⟨[.slice A4 x.f4.f0.length c4], [.slice A5 x.f5.length c5, .slice A6 x.f6.length c6], rfl, (k31_mk w x.f4 l4 g4), ⟨[.slice A5 x.f5.length c5], [.slice A6 x.f6.length c6], rfl, ⟨A5, c5, rfl, l5, g5⟩, ⟨A6, c6, rfl, l6, g6⟩⟩⟩⟩⟩⟩⟩
theorem k33_mkM (w : World) (base : Nat) (ok : Nat → Prop) (x : S33) {v0 : Value} (g0 : (Kd.slice 5 (Kd.int .u8)).R 25 w base ok v0 x.f0.f0) {v4 : Value} (g4 : (Kd.slice 5 (Kd.int .u8)).R 25 w base ok v4 x.f4.f0) {v5 : Value} (g5 : (Kd.int .u8).R 5 w base ok v5 x.f5) {v6 : Value} (g6 : (Kd.int .i64).R 3 w base ok v6 x.f6) : k33.M w base ok x [v0, .int .i64 x.f1, .int .i64 x.f2, .int .i64 x.f3, v4, v5, v6] := ⟨[v0], [.int .i64 x.f1, .int .i64 x.f2, .int .i64 x.f3, v4, v5, v6], rfl, (k31_mkM w base ok x.f0 g0), ⟨[.int .i64 x.f1], [.int .i64 x.f2, .int .i64 x.f3, v4, v5, v6], rfl, rfl, ⟨[.int .i64 x.f2], [.int .i64 x.f3, v4, v5, v6], rfl, rfl, ⟨[.int .i64 x.f3], [v4, v5, v6], rfl, rfl, ⟨[v4], [v5, v6], rfl, (k31_mkM w base ok x.f4 g4), ⟨[v5], [v6], rfl, ⟨v5, rfl, g5⟩, ⟨v6, rfl, g6⟩⟩⟩⟩⟩⟩⟩
theorem k33_openF {W : World} {ok : Nat → Prop} {x : S33} {cs : List Value} (h : Kd.FK k33 W ok x cs) : ∃ A0 c0 A4 c4 A5 c5 A6 c6, cs = [.slice A0 x.f0.f0.length c0, .int .i64 x.f1, .int .i64 x.f2, .int .i64 x.f3, .slice A4 x.f4.f0.length c4, .slice A5 x.f5.length c5, .slice A6 x.f6.length c6] ∧ x.f0.f0.length ≤ c0 ∧ Kd.F (Kd.slice 5 (Kd.int .u8)) W ok A0 x.f0.f0.length x.f0.f0 ∧ x.f4.f0.length ≤ c4 ∧ Kd.F (Kd.slice 5 (Kd.int .u8)) W ok A4 x.f4.f0.length x.f4.f0 ∧ x.f5.length ≤ c5 ∧ Kd.F (Kd.int .u8) W ok A5 x.f5.length x.f5 ∧ x.f6.length ≤ c6 ∧ Kd.F (Kd.int .i64) W ok A6 x.f6.length x.f6 := by
  obtain ⟨A0, c0, A4, c4, A5, c5, A6, c6, rfl, l0, _, l4, _, l5, _, l6, _⟩ := k33_open (Kd.FK_now h)
  exact ⟨A0, c0, A4, c4, A5, c5, A6, c6, rfl, l0, (fun W' hW => by obtain ⟨A0_, c0_, A4_, c4_, A5_, c5_, A6_, c6_, he, l0_, g0_, l4_, g4_, l5_, g5_, l6_, g6_⟩ := k33_open (h W' hW); injection (Option.some.inj (show some (Value.slice A0 x.f0.f0.length c0) = some (Value.slice A0_ x.f0.f0.length c0_) from congrArg (fun l => l[0]?) he)) with ha_ _ _; rw [ha_]; exact g0_), l4, (fun W' hW => by obtain ⟨A0_, c0_, A4_, c4_, A5_, c5_, A6_, c6_, he, l0_, g0_, l4_, g4_, l5_, g5_, l6_, g6_⟩ := k33_open (h W' hW); injection (Option.some.inj (show some (Value.slice A4 x.f4.f0.length c4) = some (Value.slice A4_ x.f4.f0.length c4_) from congrArg (fun l => l[4]?) he)) with ha_ _ _; rw [ha_]; exact g4_), l5, (fun W' hW => by obtain ⟨A0_, c0_, A4_, c4_, A5_, c5_, A6_, c6_, he, l0_, g0_, l4_, g4_, l5_, g5_, l6_, g6_⟩ := k33_open (h W' hW); injection (Option.some.inj (show some (Value.slice A5 x.f5.length c5) = some (Value.slice A5_ x.f5.length c5_) from congrArg (fun l => l[5]?) he)) with ha_ _ _; rw [ha_]; exact g5_), l6, (fun W' hW => by obtain ⟨A0_, c0_, A4_, c4_, A5_, c5_, A6_, c6_, he, l0_, g0_, l4_, g4_, l5_, g5_, l6_, g6_⟩ := k33_open (h W' hW); injection (Option.some.inj (show some (Value.slice A6 x.f6.length c6) = some (Value.slice A6_ x.f6.length c6_) from congrArg (fun l => l[6]?) he)) with ha_ _ _; rw [ha_]; exact g6_)⟩
theorem k33_mkF (W : World) (ok : Nat → Prop) (x : S33) {A0 : Option Addr} {c0 : Nat} (l0 : x.f0.f0.length ≤ c0) (g0 : Kd.F (Kd.slice 5 (Kd.int .u8)) W ok A0 x.f0.f0.length x.f0.f0) {A4 : Option Addr} {c4 : Nat} (l4 : x.f4.f0.length ≤ c4) (g4 : Kd.F (Kd.slice 5 (Kd.int .u8)) W ok A4 x.f4.f0.length x.f4.f0) {A5 : Option Addr} {c5 : Nat} (l5 : x.f5.length ≤ c5) (g5 : Kd.F (Kd.int .u8) W ok A5 x.f5.length x.f5) {A6 : Option Addr} {c6 : Nat} (l6 : x.f6.length ≤ c6) (g6 : Kd.F (Kd.int .i64) W ok A6 x.f6.length x.f6) : Kd.FK k33 W ok x [.slice A0 x.f0.f0.length c0, .int .i64 x.f1, .int .i64 x.f2, .int .i64 x.f3, .slice A4 x.f4.f0.length c4, .slice A5 x.f5.length c5, .slice A6 x.f6.length c6] := fun W2 hW => k33_mk W2 x l0 (g0 W2 hW) l4 (g4 W2 hW) l5 (g5 W2 hW) l6 (g6 W2 hW)
def qa (xs : List S33) (i : Int) : S33 := xs.getD i.toNat z33
theorem Qi {w : World} {A : Option Addr} {n : Nat} {xs : List S33} (h : Kd.C k33 w A n xs) (i : Int) (h0 : 0 ≤ i) (h1 : i < n) : ∃ ad A0 c0 A4 c4 A5 c5 A6 c6, A = some ad ∧ w.cell? (ad.add (i.toNat * 7)) = some (.slice A0 (qa xs i).f0.f0.length c0) ∧ w.cell? ⟨(ad.add (i.toNat * 7)).block, (ad.add (i.toNat * 7)).off + 1, none⟩ = some (.int .i64 (qa xs i).f1) ∧ w.cell? ⟨(ad.add (i.toNat * 7)).block, (ad.add (i.toNat * 7)).off + 2, none⟩ = some (.int .i64 (qa xs i).f2) ∧ w.cell? ⟨(ad.add (i.toNat * 7)).block, (ad.add (i.toNat * 7)).off + 3, none⟩ = some (.int .i64 (qa xs i).f3) ∧ w.cell? ⟨(ad.add (i.toNat * 7)).block, (ad.add (i.toNat * 7)).off + 4, none⟩ = some (.slice A4 (qa xs i).f4.f0.length c4) ∧ w.cell? ⟨(ad.add (i.toNat * 7)).block, (ad.add (i.toNat * 7)).off + 5, none⟩ = some (.slice A5 (qa xs i).f5.length c5) ∧ w.cell? ⟨(ad.add (i.toNat * 7)).block, (ad.add (i.toNat * 7)).off + 6, none⟩ = some (.slice A6 (qa xs i).f6.length c6) ∧ (qa xs i).f0.f0.length ≤ c0 ∧ (Kd.slice 5 (Kd.int .u8)).C w A0 (qa xs i).f0.f0.length (qa xs i).f0.f0 ∧ (qa xs i).f4.f0.length ≤ c4 ∧ (Kd.slice 5 (Kd.int .u8)).C w A4 (qa xs i).f4.f0.length (qa xs i).f4.f0 ∧ (qa xs i).f5.length ≤ c5 ∧ (Kd.int .u8).C w A5 (qa xs i).f5.length (qa xs i).f5 ∧ (qa xs i).f6.length ≤ c6 ∧ (Kd.int .i64).C w A6 (qa xs i).f6.length (qa xs i).f6 := by
  obtain ⟨ad, c, e, _, hK, hc0⟩ := Kd.C_get h z33 i h0 h1
  have hc : ∀ j u, c[j]? = some u → w.cell? (ad.add (i.toNat * 7 + j)) = some u := hc0
  obtain ⟨A0, c0, A4, c4, A5, c5, A6, c6, rfl, l0, g0, l4, g4, l5, g5, l6, g6⟩ := k33_open hK
  exact ⟨ad, A0, c0, A4, c4, A5, c5, A6, c6, e, hc 0 _ rfl, by rw [← add_field _ _ 1 (by omega)]; exact hc 1 _ rfl, by rw [← add_field _ _ 2 (by omega)]; exact hc 2 _ rfl, by rw [← add_field _ _ 3 (by omega)]; exact hc 3 _ rfl, by rw [← add_field _ _ 4 (by omega)]; exact hc 4 _ rfl, by rw [← add_field _ _ 5 (by omega)]; exact hc 5 _ rfl, by rw [← add_field _ _ 6 (by omega)]; exact hc 6 _ rfl, l0, g0, l4, g4, l5, g5, l6, g6⟩

/-! #### struct type 53 -/
/-! #### struct type 54 -/
structure S54 where
  f0 : S24
  f1 : (List S28)
def k54 : Kd S54 := Kd.iso (Kd.pair k24 (Kd.slice 28 k28)) (fun x : S54 => (x.f0, x.f1))
theorem k54_open {w : World} {x : S54} {cs : List Value} (h : k54.K w x cs) : ∃ A0 c0 A1 c1, cs = [.slice A0 x.f0.f0.length c0, .slice A1 x.f1.length c1] ∧ x.f0.f0.length ≤ c0 ∧ (Kd.slice 5 (Kd.int .u8)).C w A0 x.f0.f0.length x.f0.f0 ∧ x.f1.length ≤ c1 ∧ k28.C w A1 x.f1.length x.f1 := by
  obtain ⟨_, _, rfl, s0, ⟨A1, c1, rfl, l1, g1⟩⟩ := h
  obtain ⟨A0, c0, rfl, l0, g0⟩ := k24_open s0
  exact ⟨A0, c0, A1, c1, rfl, l0, g0, l1, g1⟩
/-! #### struct type 58 -/
/-! #### struct type 59 -/
/-! #### struct type 190 -/
/-! #### struct type 73 -/
/-! #### struct type 74 -/
/-! #### struct type 141 -/
/-! #### struct type 78 -/
/-! #### struct type 79 -/
/-! #### struct type 195 -/
/-! #### struct type 198 -/
/-! #### struct type 85 -/
/-! #### struct type 86 -/
/-! #### struct type 200 -/
/-! #### struct type 205 -/
/-! #### struct type 91 -/
/-! #### struct type 92 -/
/-! #### struct type 122 -/
/-! #### struct type 123 -/
/-! #### struct type 140 -/
/-! #### struct type 179 -/
/-! #### struct type 180 -/
/-! #### struct type 189 -/
/-! #### struct type 194 -/
/-! #### struct type 197 -/
/-! #### struct type 199 -/
/-! #### struct type 204 -/
/-- One world is another one with blocks made and draws taken. -/
def Gr (A W : World) : Prop := Below A.heap.size A W
instance Gr.refl_ (A : World) : Nonempty (Gr A A) := ⟨Below.refl _ _⟩
instance Gr.alloc_ (A W : World) (o : Obj) [h : Nonempty (Gr A W)] : Nonempty (Gr A (W.alloc o)) := h.elim fun h => ⟨below_alloc h o⟩
instance Gr.drew_ (A W : World) [h : Nonempty (Gr A W)] : Nonempty (Gr A W.drew) := h.elim fun h => ⟨below_drew h⟩
instance Gr.drewN_ (A W : World) (n : Nat) [h : Nonempty (Gr A W)] : Nonempty (Gr A (W.drewN n)) := h.elim fun h => ⟨pw_below_drewN h n⟩
section
variable {α : Type} {d : Kd α} {e base n : Nat} {ok : Nat → Prop} {w W W' : World} {v : Value} {xs : List α} {A : Option Addr}
theorem bw (h : Below w.heap.size w W) [g : Nonempty (Gr W W')] : Below w.heap.size w W' := g.elim fun g => below_step h g
theorem bk {g : Nat} {o : Obj} (h : W.heap[g]? = some o) [k : Nonempty (Gr W W')] : W'.heap[g]? = some o := k.elim fun k => blk_below h k
theorem cw (h : d.C w A n xs) (hb : Below w.heap.size w W) [g : Nonempty (Gr W W')] : d.C W' A n xs := Kd.C_below h (bw hb)
theorem rw_ (h : d.R e W base ok v xs) [g : Nonempty (Gr W W')] : d.R e W' base ok v xs := g.elim fun g => Kd.R_below h g
theorem sw (h : d.S e W base ok v xs) [g : Nonempty (Gr W W')] : d.S e W' base ok v xs := g.elim fun g => Kd.S_below h g
end
section
variable {W : World} {g t : Nat} {a b c d e f x y z : Value}
theorem cells1 (h : W.heap[g]? = some (.cells #[a] t (0, 0))) : W.cell? ⟨g, 0, none⟩ = some a ∧ W.frozen? ⟨g, 0, none⟩ = false := ⟨(blk_cell h 0).trans rfl, blk_frozen h 0⟩
theorem cells2 (h : W.heap[g]? = some (.cells #[a, b] t (0, 0))) : W.cell? ⟨g, 0, none⟩ = some a ∧ W.cell? ⟨g, 1, none⟩ = some b ∧ W.frozen? ⟨g, 0, none⟩ = false ∧ W.frozen? ⟨g, 1, none⟩ = false :=
  ⟨(blk_cell h 0).trans rfl, (blk_cell h 1).trans rfl, blk_frozen h 0, blk_frozen h 1⟩
theorem cells7 (h : W.heap[g]? = some (.cells #[a, b, c, d, e, f, x] t (0, 0))) : W.cell? ⟨g, 0, none⟩ = some a ∧ W.cell? ⟨g, 1, none⟩ = some b ∧ W.cell? ⟨g, 2, none⟩ = some c ∧ W.cell? ⟨g, 3, none⟩ = some d ∧ W.cell? ⟨g, 4, none⟩ = some e ∧ W.cell? ⟨g, 5, none⟩ = some f ∧ W.cell? ⟨g, 6, none⟩ = some x ∧ W.frozen? ⟨g, 0, none⟩ = false ∧ W.frozen? ⟨g, 1, none⟩ = false ∧ W.frozen? ⟨g, 2, none⟩ = false ∧ W.frozen? ⟨g, 3, none⟩ = false ∧ W.frozen? ⟨g, 4, none⟩ = false ∧ W.frozen? ⟨g, 5, none⟩ = false ∧ W.frozen? ⟨g, 6, none⟩ = false :=
  ⟨(blk_cell h 0).trans rfl, (blk_cell h 1).trans rfl, (blk_cell h 2).trans rfl, (blk_cell h 3).trans rfl, (blk_cell h 4).trans rfl, (blk_cell h 5).trans rfl, (blk_cell h 6).trans rfl, blk_frozen h 0, blk_frozen h 1, blk_frozen h 2, blk_frozen h 3, blk_frozen h 4, blk_frozen h 5, blk_frozen h 6⟩
end
section
variable {P : Program} {ops : Array Oper} {rest : List Oper} {o : Oper} {a : Act} {Q : Exit → Act → World → Prop}
/-- A struct's variable is made. -/
theorem boxed {w W0 W : World} {N : Tmp} (_hN : o.dst = some N) (hgd : o.guard = none) {cs : Array Value} {t : TypeId} (hB : Below w.heap.size w W0) [gr : Nonempty (Gr W0 W)]
    (hrun : (execOp a.eval o).run P W = .ok (.value (.pointer (some ⟨W.heap.size, 0, none⟩))) (W.alloc (.cells cs t (0, 0))))
    (h : ∀ g, ∀ w1, g = W.heap.size → Aside0 (Below w.heap.size w w1) → Aside0 (w1.heap[g]? = some (.cells cs t (0, 0))) → Aside0 (w.heap.size ≤ g) → Below W.heap.size W w1 → wpList P ops Q rest (a.put o.dst (.pointer (some ⟨g, 0, none⟩))) w1) : wpList P ops Q (o :: rest) a W := by
  have hB' : Below w.heap.size w W := bw hB
  exact box_event hgd _hN hrun (fun g hg w1 hbox hb => h g w1 hg ⟨below_step hB' hb⟩ ⟨hbox⟩ ⟨by rw [hg]; exact hB'.size⟩ hb)
end
section
variable {α : Type} {d : Kd α} {e base g k t : Nat} {ok : Nat → Prop} {W : World} {v : Value} {xs : List α} {cs : Array Value} {l : List Nat}
end
/-- Which operations of a region are done: n places, told by a number's bits. -/
def bA (n m : Nat) : Array Bool := ((List.range n).map fun i => m.testBit i).toArray
/-- An operation of a region that is not wanted; one that is, and yields a value. -/
theorem sk_ {P : Program} {ops : Array Oper} {Q : Exit → Act → World → Prop} {md : Region.Mode} {S : World → Prop} {ds : List Nat} {T : Bool × List (List Nat × List Nat)} (hT : Aside0 (rtab md ops = T)) (i N : Nat) {oi : Oper} {fuel : Nat} {l : Array Bool} {a a' : Act} {w : World} (l' : Array Bool) (hi : ops[i]? = some oi) (hN : oi.dst = some N) (hc : anyT T l.toList l'.toList i = true) (hQ : ∀ c a w, Q (.panic c) (a.put oi.dst undef) w → Q (.panic c) a w) (hw : Region.wanted oi (yielded ops a.tmps) = false) (ha : a.put (some N) undef = a') (h : wpAnyLast P md ops Q S ds fuel l' a' w) : wpAnyLast P md ops Q S ds (fuel + 1) l a w :=
  pure_ (i := i) l' hi hN (any_of hT.out hc) hQ (.inr ⟨hw, rfl⟩) ha h
theorem pu_ {P : Program} {ops : Array Oper} {Q : Exit → Act → World → Prop} {md : Region.Mode} {S : World → Prop} {ds : List Nat} {T : Bool × List (List Nat × List Nat)} (hT : Aside0 (rtab md ops = T)) (i N : Nat) {oi : Oper} {v : Value} {fuel : Nat} {l : Array Bool} {a : Act} {w : World} (l' : Array Bool) (hi : ops[i]? = some oi) (hN : oi.dst = some N) (hc : anyT T l.toList l'.toList i = true) (hQ : ∀ c a w, Q (.panic c) (a.put oi.dst v) w → Q (.panic c) a w) (hw : Region.wanted oi (yielded ops a.tmps) = true) (hy : ∀ w, (execOp a.eval oi).run P w = .ok (.value v) w) {a' : Act} (ha : a.put (some N) v = a') (h : wpAnyLast P md ops Q S ds fuel l' a' w) : wpAnyLast P md ops Q S ds (fuel + 1) l a w :=
  pure_ (i := i) l' hi hN (any_of hT.out hc) hQ (.inl ⟨hw, hy⟩) ha h
section
variable {α : Type} {d : Kd α} {e base g g' t : Nat} {ok : Nat → Prop} {W W1 : World} {v : Value} {xs : List α} {cs : Array Value} {fr : Nat × Nat}
theorem far2R {v0 v1 : Value} (h : Kd.R d e W base ok v xs) [k : Nonempty (Gr W W1)] (hb : W1.heap[g]? = some (.cells cs t (0, 0))) (ht : ∀ q, q ∈ e :: d.E → q ≠ t) : Kd.R d e ((W1.setCell ⟨g, 0, none⟩ v0).setCell ⟨g, 1, none⟩ v1) base ok v xs :=
  Kd.R_mono (Kd.R_far (p := ⟨g, 1, none⟩) (Kd.R_far (p := ⟨g, 0, none⟩) (Kd.R_types (rw_ h) hb ht) (fun _ hk => hk.2) _) (fun _ hk => hk.2) _) (fun _ h_ => h_.1)
theorem far2S {v0 v1 : Value} (h : Kd.S d e W base ok v xs) [k : Nonempty (Gr W W1)] (hb : W1.heap[g]? = some (.cells cs t (0, 0))) (ht : ∀ q, q ∈ e :: d.E → q ≠ t) : Kd.S d e ((W1.setCell ⟨g, 0, none⟩ v0).setCell ⟨g, 1, none⟩ v1) base ok v xs :=
  Kd.S_mono (Kd.S_far (p := ⟨g, 1, none⟩) (Kd.S_far (p := ⟨g, 0, none⟩) (Kd.S_types (sw h) hb ht) (fun _ hk => hk.2) _) (fun _ hk => hk.2) _) (fun _ h_ => h_.1)
theorem qvk {v0 v1 : Value} (hn : g ≠ g') (h : W.heap[g]? = some (.cells cs t (0, 0))) [k : Nonempty (Gr W W1)] : ((W1.setCell ⟨g', 0, none⟩ v0).setCell ⟨g', 1, none⟩ v1).heap[g]? = some (.cells cs t (0, 0)) := (blk_far (blk_far (bk h) hn _) hn _)
theorem qvj {v0 v1 z0 z1 : Value} (h : W.heap[g]? = some (.cells #[z0, z1] t (0, 0))) [k : Nonempty (Gr W W1)] : ((W1.setCell ⟨g, 0, none⟩ v0).setCell ⟨g, 1, none⟩ v1).heap[g]? = some (.cells #[v0, v1] t (0, 0)) := (blk_put (cs' := #[v0, v1]) (blk_put (cs' := #[v0, z1]) (bk h) 0 v0 rfl) 1 v1 rfl)
theorem far7N {v0 v1 v2 v3 v4 v5 v6 : Value} (h : Kd.N d e W base ok v xs) (hp : ∀ k, ok k → k ≠ g) : Kd.N d e (((((((W.setCell ⟨g, 0, none⟩ v0).setCell ⟨g, 1, none⟩ v1).setCell ⟨g, 2, none⟩ v2).setCell ⟨g, 3, none⟩ v3).setCell ⟨g, 4, none⟩ v4).setCell ⟨g, 5, none⟩ v5).setCell ⟨g, 6, none⟩ v6) base ok v xs := (Kd.N_far (p := ⟨g, 6, none⟩) (Kd.N_far (p := ⟨g, 5, none⟩) (Kd.N_far (p := ⟨g, 4, none⟩) (Kd.N_far (p := ⟨g, 3, none⟩) (Kd.N_far (p := ⟨g, 2, none⟩) (Kd.N_far (p := ⟨g, 1, none⟩) (Kd.N_far (p := ⟨g, 0, none⟩) h hp _) hp _) hp _) hp _) hp _) hp _) hp _)
theorem far7V {v0 v1 v2 v3 v4 v5 v6 : Value} (h : Kd.V d e W base ok v xs) (hp : ∀ k, ok k → k ≠ g) : Kd.V d e (((((((W.setCell ⟨g, 0, none⟩ v0).setCell ⟨g, 1, none⟩ v1).setCell ⟨g, 2, none⟩ v2).setCell ⟨g, 3, none⟩ v3).setCell ⟨g, 4, none⟩ v4).setCell ⟨g, 5, none⟩ v5).setCell ⟨g, 6, none⟩ v6) base ok v xs := (Kd.V_far (p := ⟨g, 6, none⟩) (Kd.V_far (p := ⟨g, 5, none⟩) (Kd.V_far (p := ⟨g, 4, none⟩) (Kd.V_far (p := ⟨g, 3, none⟩) (Kd.V_far (p := ⟨g, 2, none⟩) (Kd.V_far (p := ⟨g, 1, none⟩) (Kd.V_far (p := ⟨g, 0, none⟩) h hp _) hp _) hp _) hp _) hp _) hp _) hp _)
theorem Xm {v0 v1 v2 v3 v4 v5 v6 : Value} (hn : g ≠ g') (h : W.heap[g]? = some (.cells cs t (0, 0))) [k : Nonempty (Gr W W1)] : (((((((W1.setCell ⟨g', 0, none⟩ v0).setCell ⟨g', 1, none⟩ v1).setCell ⟨g', 2, none⟩ v2).setCell ⟨g', 3, none⟩ v3).setCell ⟨g', 4, none⟩ v4).setCell ⟨g', 5, none⟩ v5).setCell ⟨g', 6, none⟩ v6).heap[g]? = some (.cells cs t (0, 0)) := (blk_far (blk_far (blk_far (blk_far (blk_far (blk_far (blk_far (bk h) hn _) hn _) hn _) hn _) hn _) hn _) hn _)
theorem qa1 {v0 v1 v2 v3 v4 v5 v6 z0 z1 z2 z3 z4 z5 z6 : Value} (h : W.heap[g]? = some (.cells #[z0, z1, z2, z3, z4, z5, z6] t (0, 0))) [k : Nonempty (Gr W W1)] : (((((((W1.setCell ⟨g, 0, none⟩ v0).setCell ⟨g, 1, none⟩ v1).setCell ⟨g, 2, none⟩ v2).setCell ⟨g, 3, none⟩ v3).setCell ⟨g, 4, none⟩ v4).setCell ⟨g, 5, none⟩ v5).setCell ⟨g, 6, none⟩ v6).heap[g]? = some (.cells #[v0, v1, v2, v3, v4, v5, v6] t (0, 0)) := (blk_put (cs' := #[v0, v1, v2, v3, v4, v5, v6]) (blk_put (cs' := #[v0, v1, v2, v3, v4, v5, z6]) (blk_put (cs' := #[v0, v1, v2, v3, v4, z5, z6]) (blk_put (cs' := #[v0, v1, v2, v3, z4, z5, z6]) (blk_put (cs' := #[v0, v1, v2, z3, z4, z5, z6]) (blk_put (cs' := #[v0, v1, z2, z3, z4, z5, z6]) (blk_put (cs' := #[v0, z1, z2, z3, z4, z5, z6]) (bk h) 0 v0 rfl) 1 v1 rfl) 2 v2 rfl) 3 v3 rfl) 4 v4 rfl) 5 v5 rfl) 6 v6 rfl)
end

theorem ak {p : Prop} (h : p) : Aside0 p := ⟨h⟩
theorem hc_ {w W : World} {p : Addr} {v : Value} (hb : Below w.heap.size w W) (h : w.cell? p = some v) : W.cell? p = some v := (hb.cell (World.block_lt_of_cell? w _ h)).trans h

/-! ### yD: function 58 -/
def yD.f (l0 : List Int) (a1 : Int) : Option (Int) := if (wrap64 (a1 - (l0.length : Int))) < 0 then (some (-1)) else (some (wrap64 (a1 - (l0.length : Int))))
set_option maxHeartbeats 8000000 in
set_option maxRecDepth 100000 in
theorem yD.calls (A0 : Option Addr) (c0 : Nat) (l0 : List Int) (a1 : Int) (r : Int) (w : World) (hr0 : Kd.C (Kd.int .u8) w A0 l0.length l0) (hc0 : l0.length ≤ c0) (h : yD.f l0 a1 = some r) :
  Calls Try.prog 58 #[.slice A0 l0.length c0, .int .i64 a1] w fun e w' => e = .returned (.int .i64 r) ∧ Drawn0 w w' := by
 have HR0 := ak hr0
 have HC0 := ak hc0
 clear hr0 hc0
 have H : (if (wrap64 (a1 - (l0.length : Int))) < 0 then (some (-1)) else (some (wrap64 (a1 - (l0.length : Int))))) = some r := h
 clear h
 by_cases c3 : (wrap64 (a1 - (l0.length : Int))) < 0
 ·rw [if_pos c3] at H
  have c3b0 : decide ((wrap64 (a1 - (l0.length : Int))) < 0) = true := decide_eq_true c3
  clear c3
  obtain rfl := Option.some.inj H
  go_enter Try.func58, Try.ntmps58
  go_wp2
  go_ret
  exact ⟨by first | rfl | (simp; done) | (simp [*]; done), by repeat (first | exact Drawn0.refl _ | apply Drawn0.step)⟩
 ·rw [if_neg c3] at H
  have c3b0 : decide ((wrap64 (a1 - (l0.length : Int))) < 0) = false := decide_eq_false c3
  clear c3
  obtain rfl := Option.some.inj H
  go_enter Try.func58, Try.ntmps58
  go_wp2
  go_ret
  exact ⟨by first | rfl | (simp; done) | (simp [*]; done), by repeat (first | exact Drawn0.refl _ | apply Drawn0.step)⟩


/-! ### zm: function 105 -/
def zm.l0 : Nat → List (List Int) → Int → Int → Option (Int)
 | 0, _, _, _ => none
 | k + 1, x0, x1, x5 => if x5 < (x0.length : Int) then (if 0 ≤ x5 then ((yD.f (qP x0 x5) x1).bind fun qG => (if qG < 0 then (some (-1)) else (zm.l0 k x0 qG (wrap64 (x5 + 1))))) else (none)) else (some x1)
def zm.f (k : Nat) (l0 : List (List Int)) (a1 : Int) : Option (Int) := if (wrap64 (a1 - (l0.length : Int))) < 0 then (some (-1)) else (zm.l0 k l0 (wrap64 (a1 - (l0.length : Int))) 0)
set_option maxHeartbeats 8000000 in
set_option maxRecDepth 100000 in
theorem zm.calls (k : Nat) (A0 : Option Addr) (c0 : Nat) (l0 : List (List Int)) (a1 : Int) (r : Int) (w : World) (hr0 : Kd.C (Kd.slice 5 (Kd.int .u8)) w A0 l0.length l0) (hc0 : l0.length ≤ c0) (h : zm.f k l0 a1 = some r) :
  Calls Try.prog 105 #[.slice A0 l0.length c0, .int .i64 a1] w fun e w' => e = .returned (.int .i64 r) ∧ Drawn0 w w' := by
 have HR0 := ak hr0
 have HC0 := ak hc0
 clear hr0 hc0
 have H : (if (wrap64 (a1 - (l0.length : Int))) < 0 then (some (-1)) else (zm.l0 k l0 (wrap64 (a1 - (l0.length : Int))) 0)) = some r := h
 clear h
 by_cases c3 : (wrap64 (a1 - (l0.length : Int))) < 0
 ·rw [if_pos c3] at H
  have c3b0 : decide ((wrap64 (a1 - (l0.length : Int))) < 0) = true := decide_eq_true c3
  clear c3
  obtain rfl := Option.some.inj H
  go_enter Try.func105, Try.ntmps105
  go_wp2
  go_ret
  exact ⟨by first | rfl | (simp; done) | (simp [*]; done), by repeat (first | exact Drawn0.refl _ | apply Drawn0.step)⟩
 ·rw [if_neg c3] at H
  have c3b0 : decide ((wrap64 (a1 - (l0.length : Int))) < 0) = false := decide_eq_false c3
  clear c3
  have H' := ak H
  clear H
  go_enter Try.func105, Try.ntmps105
  go_wp2
  go_loopg [1, 5] k (fun kq v1 v5 w' => ∃ (qa2 : Int) (qh : Int), v1 = .int .i64 qa2 ∧ v5 = .int .i64 qh ∧ Aside0 (zm.l0 kq l0 qa2 qh = some r) ∧ Aside0 (kq ≤ k) ∧ Drawn0 w w')
  case atStart => exact ⟨(wrap64 (a1 - (l0.length : Int))), (0), (by first | rfl | (simp; done) | (simp [*]; done)), (by first | rfl | (simp; done) | (simp [*]; done)), H', ⟨Nat.le_refl _⟩, by repeat (first | exact Drawn0.refl _ | apply Drawn0.step)⟩
  case round =>
   clear H'
   try clear c1
   try clear p2
   try clear c3
   try clear c3b0
   obtain ⟨qa2, qh, rfl, rfl, HA, HK1, ⟨m1, rfl⟩⟩ := hrel
   cases gk with
   | zero => exact absurd HA.out (by simp [zm.l0])
   | succ k1 =>
    have H := HA.out
    clear HA
    simp only [zm.l0] at H
    by_cases c4 : qh < (l0.length : Int)
    ·rw [if_pos c4] at H
     have c4b0 : decide (qh < (l0.length : Int)) = true := decide_eq_true c4
     clear c4
     by_cases c5 : 0 ≤ qh
     ·rw [if_pos c5] at H
      have c5b0 : decide (0 ≤ qh) = true := decide_eq_true c5
      clear c5
      replace H := Option.bind_eq_some_iff.mp H
      obtain ⟨qG, A60, H⟩ := H
      replace H : (if qG < 0 then (some (-1)) else (zm.l0 k1 l0 qG (wrap64 (qh + 1)))) = some r := H
      have A6 := ak A60
      clear A60
      by_cases c7 : qG < 0
      ·rw [if_pos c7] at H
       have c7b0 : decide (qG < 0) = true := decide_eq_true c7
       clear c7
       obtain rfl := Option.some.inj H
       have ju : 0 ≤ (qh : Int) := of_decide_eq_true (by first | (with_reducible assumption) | assumption)
       have jt : qh < (l0.length : Int) := of_decide_eq_true (by first | (with_reducible assumption) | assumption)
       obtain ⟨ja, Yi, Yd, yl, zj, ym, yn⟩ := Ju HR0.out qh ju jt
       cases yl
       have Qt := ak yn
       have QQ := ak ym
       clear yn ym
       replace ju := eq_true ju
       replace jt := eq_true jt
       go_wp2_with (first | ((with_reducible refine gate_callee (f := 58) rfl ?_); refine goesL_ (some 23) rfl rfl Try.func58 (by kernel_rfl) rfl #[.slice Yi (qP l0 qh).length Yd, .int .i64 qa2] rfl (by first | rfl | (simp only [List.map_toArray, List.map_cons, List.map_nil]; first | done | rfl)) ?_; (with_reducible refine (yD.calls _ _ (qP l0 qh) qa2 qG _ ?qk ?qj A6.out).mono ?_); (case qk => repeat (first | exact Qt.out | (with_reducible refine Kd.C_alloc ?_ _) | (with_reducible refine Kd.C_drewN ?_ _) | (with_reducible refine Kd.C_drew ?_))); (case qj => exact QQ.out); rintro e w' ⟨rfl, ⟨nd, rfl⟩⟩; refine ⟨_, rfl, ?_⟩))
       go_ret
       exact ⟨by first | rfl | (simp; done) | (simp [*]; done), by repeat (first | exact Drawn0.refl _ | apply Drawn0.step)⟩
      ·rw [if_neg c7] at H
       have c7b0 : decide (qG < 0) = false := decide_eq_false c7
       clear c7
       have H' := ak H
       clear H
       have ju : 0 ≤ (qh : Int) := of_decide_eq_true (by first | (with_reducible assumption) | assumption)
       have jt : qh < (l0.length : Int) := of_decide_eq_true (by first | (with_reducible assumption) | assumption)
       obtain ⟨ja, Yi, Yd, yl, zj, ym, yn⟩ := Ju HR0.out qh ju jt
       cases yl
       have Qt := ak yn
       have QQ := ak ym
       clear yn ym
       replace ju := eq_true ju
       replace jt := eq_true jt
       go_wp2_with (first | ((with_reducible refine gate_callee (f := 58) rfl ?_); refine goesL_ (some 23) rfl rfl Try.func58 (by kernel_rfl) rfl #[.slice Yi (qP l0 qh).length Yd, .int .i64 qa2] rfl (by first | rfl | (simp only [List.map_toArray, List.map_cons, List.map_nil]; first | done | rfl)) ?_; (with_reducible refine (yD.calls _ _ (qP l0 qh) qa2 qG _ ?qk ?qj A6.out).mono ?_); (case qk => repeat (first | exact Qt.out | (with_reducible refine Kd.C_alloc ?_ _) | (with_reducible refine Kd.C_drewN ?_ _) | (with_reducible refine Kd.C_drew ?_))); (case qj => exact QQ.out); rintro e w' ⟨rfl, ⟨nd, rfl⟩⟩; refine ⟨_, rfl, ?_⟩))
       go_roundg k1
       case measure => have := HK1.out; omega
       case rel => exact ⟨(qG), (wrap64 (qh + 1)), (by first | rfl | (simp; done) | (simp [*]; done)), (by first | rfl | (simp; done) | (simp [*]; done)), H', ⟨by have := HK1.out; omega⟩, by repeat (first | exact Drawn0.refl _ | apply Drawn0.step)⟩
     ·rw [if_neg c5] at H
      exact absurd H (by simp)
    ·rw [if_neg c4] at H
     have c4b0 : decide (qh < (l0.length : Int)) = false := decide_eq_false c4
     clear c4
     obtain rfl := Option.some.inj H
     go_wp2
     go_ret
     exact ⟨by first | rfl | (simp; done) | (simp [*]; done), by repeat (first | exact Drawn0.refl _ | apply Drawn0.step)⟩


/-! ### zl: function 39 -/
def zl.f (k : Nat) (qd : List (List Int)) (a1 : Int) : Option (Int) := (zm.f k qd a1).bind fun qG => (if qG < 0 then (some (-1)) else (some qG))
set_option maxHeartbeats 8000000 in
set_option maxRecDepth 100000 in
theorem zl.calls (k : Nat) (qq : Option Addr) (qp : Nat) (qd : List (List Int)) (a1 : Int) (r : Int) (w : World) (jd : Kd.C (Kd.slice 5 (Kd.int .u8)) w qq qd.length qd) (jg : qd.length ≤ qp) (h : zl.f k qd a1 = some r) :
  Calls Try.prog 39 #[.agg #[.slice qq qd.length qp], .int .i64 a1] w fun e w' => e = .returned (.int .i64 r) ∧ Below w.heap.size w w' := by
 have qlv := Try.underlying24
 have qW := ak jd
 have jb := ak jg
 clear jd jg
 have HB := ak (Below.refl w.heap.size w)
 have H : ((zm.f k qd a1).bind fun qG => (if qG < 0 then (some (-1)) else (some qG))) = some r := h
 clear h
 replace H := Option.bind_eq_some_iff.mp H
 obtain ⟨qG, A30, H⟩ := H
 replace H : (if qG < 0 then (some (-1)) else (some qG)) = some r := H
 have A3 := ak A30
 clear A30
 by_cases c4 : qG < 0
 ·rw [if_pos c4] at H
  have c4b0 : decide (qG < 0) = true := decide_eq_true c4
  clear c4
  obtain rfl := Option.some.inj H
  go_enter Try.func39, Try.ntmps39
  go_wp2_with (first | ((with_reducible refine gate_dst (N := 2) rfl ?_); refine boxed (N := 2) rfl rfl (cs := #[.slice qq qd.length qp]) (t := 24) HB.out (by first | (go_simp; done) | (go_simp; rfl)) ?_; clear HB; intro qi w5 hg HB qc qm hb; have jD := qm; clear hb hg; obtain ⟨qdf, qdd⟩ := cells1 qc.out) | ((with_reducible refine gate_callee (f := 105) rfl ?_); refine goesL_ (some 8) rfl rfl Try.func105 (by kernel_rfl) rfl #[.slice qq qd.length qp, .int .i64 a1] rfl (by first | rfl | (simp only [List.map_toArray, List.map_cons, List.map_nil]; first | done | rfl)) ?_; (with_reducible refine (zm.calls k _ _ qd a1 qG _ ?qk ?qj A3.out).mono ?_); (case qk => exact cw qW.out HB.out); (case qj => exact jb.out); rintro e w' ⟨rfl, ⟨nd, rfl⟩⟩; refine ⟨_, rfl, ?_⟩))
  go_ret
  exact ⟨by first | rfl | (simp [errW_none, errW_some] <;> rfl) | (simp [*, errW_none, errW_some] <;> rfl), bw HB.out⟩
 ·rw [if_neg c4] at H
  have c4b0 : decide (qG < 0) = false := decide_eq_false c4
  clear c4
  obtain rfl := Option.some.inj H
  go_enter Try.func39, Try.ntmps39
  go_wp2_with (first | ((with_reducible refine gate_dst (N := 2) rfl ?_); refine boxed (N := 2) rfl rfl (cs := #[.slice qq qd.length qp]) (t := 24) HB.out (by first | (go_simp; done) | (go_simp; rfl)) ?_; clear HB; intro qi w7 hg HB qc qm hb; have jD := qm; clear hb hg; obtain ⟨qam, qal⟩ := cells1 qc.out) | ((with_reducible refine gate_callee (f := 105) rfl ?_); refine goesL_ (some 8) rfl rfl Try.func105 (by kernel_rfl) rfl #[.slice qq qd.length qp, .int .i64 a1] rfl (by first | rfl | (simp only [List.map_toArray, List.map_cons, List.map_nil]; first | done | rfl)) ?_; (with_reducible refine (zm.calls k _ _ qd a1 qG _ ?qk ?qj A3.out).mono ?_); (case qk => exact cw qW.out HB.out); (case qj => exact jb.out); rintro e w' ⟨rfl, ⟨nd, rfl⟩⟩; refine ⟨_, rfl, ?_⟩))
  go_ret
  exact ⟨by first | rfl | (simp [errW_none, errW_some] <;> rfl) | (simp [*, errW_none, errW_some] <;> rfl), bw HB.out⟩


/-! ### Jw: function 59 -/
def Jw.f (l0 : List Int) (a1 : Int) : Option (Int) := if (wrap64 (a1 - (l0.length : Int))) < 0 then (some (-1)) else (some (wrap64 (a1 - (l0.length : Int))))
set_option maxHeartbeats 8000000 in
set_option maxRecDepth 100000 in
theorem Jw.calls (A0 : Option Addr) (c0 : Nat) (l0 : List Int) (a1 : Int) (r : Int) (w : World) (hr0 : Kd.C (Kd.int .i64) w A0 l0.length l0) (hc0 : l0.length ≤ c0) (h : Jw.f l0 a1 = some r) :
  Calls Try.prog 59 #[.slice A0 l0.length c0, .int .i64 a1] w fun e w' => e = .returned (.int .i64 r) ∧ Drawn0 w w' := by
 have HR0 := ak hr0
 have HC0 := ak hc0
 clear hr0 hc0
 have H : (if (wrap64 (a1 - (l0.length : Int))) < 0 then (some (-1)) else (some (wrap64 (a1 - (l0.length : Int))))) = some r := h
 clear h
 by_cases c3 : (wrap64 (a1 - (l0.length : Int))) < 0
 ·rw [if_pos c3] at H
  have c3b0 : decide ((wrap64 (a1 - (l0.length : Int))) < 0) = true := decide_eq_true c3
  clear c3
  obtain rfl := Option.some.inj H
  go_enter Try.func59, Try.ntmps59
  go_wp2
  go_ret
  exact ⟨by first | rfl | (simp; done) | (simp [*]; done), by repeat (first | exact Drawn0.refl _ | apply Drawn0.step)⟩
 ·rw [if_neg c3] at H
  have c3b0 : decide ((wrap64 (a1 - (l0.length : Int))) < 0) = false := decide_eq_false c3
  clear c3
  obtain rfl := Option.some.inj H
  go_enter Try.func59, Try.ntmps59
  go_wp2
  go_ret
  exact ⟨by first | rfl | (simp; done) | (simp [*]; done), by repeat (first | exact Drawn0.refl _ | apply Drawn0.step)⟩


/-! ### YE: function 13 -/
def YE.f (k : Nat) (qd : List (List Int)) (qu : Int) (qH : Int) (qF : Int) (qA : List (List Int)) (qt : List Int) (qo : List Int) (a1 : Int) : Option (Int) := (zl.f k qd a1).bind fun qG => (if qG < 0 then (some (-1)) else ((zl.f k qA qG).bind fun qx => (if qx < 0 then (some (-1)) else ((yD.f qt qx).bind fun qK => (if qK < 0 then (some (-1)) else ((Jw.f qo qK).bind fun qS => (if qS < 0 then (some (-1)) else (some qS))))))))
set_option maxHeartbeats 8000000 in
set_option maxRecDepth 100000 in
theorem YE.calls (k : Nat) (qq : Option Addr) (qp : Nat) (qd : List (List Int)) (qu : Int) (qH : Int) (qF : Int) (jC : Option Addr) (jB : Nat) (qA : List (List Int)) (jK : Option Addr) (jJ : Nat) (qt : List Int) (jM : Option Addr) (jL : Nat) (qo : List Int) (a1 : Int) (r : Int) (w : World) (jd : Kd.C (Kd.slice 5 (Kd.int .u8)) w qq qd.length qd) (jg : qd.length ≤ qp) (QF : Kd.C (Kd.slice 5 (Kd.int .u8)) w jC qA.length qA) (QI : qA.length ≤ jB) (QE : Kd.C (Kd.int .u8) w jK qt.length qt) (QH : qt.length ≤ jJ) (QD : Kd.C (Kd.int .i64) w jM qo.length qo) (QG : qo.length ≤ jL) (h : YE.f k qd qu qH qF qA qt qo a1 = some r) :
  Calls Try.prog 13 #[.agg #[.slice qq qd.length qp, .int .i64 qu, .int .i64 qH, .int .i64 qF, .slice jC qA.length jB, .slice jK qt.length jJ, .slice jM qo.length jL], .int .i64 a1] w fun e w' => e = .returned (.int .i64 r) ∧ Below w.heap.size w w' := by
 have qpj := Try.underlying28
 have qlv := Try.underlying24
 have qW := ak jd
 have jb := ak jg
 clear jd jg
 have Jo := ak QF
 have Jp := ak QI
 clear QF QI
 have ZF := ak QE
 have Yp := ak QH
 clear QE QH
 have Qd := ak QD
 have YP := ak QG
 clear QD QG
 have HB := ak (Below.refl w.heap.size w)
 have H : ((zl.f k qd a1).bind fun qG => (if qG < 0 then (some (-1)) else ((zl.f k qA qG).bind fun qx => (if qx < 0 then (some (-1)) else ((yD.f qt qx).bind fun qK => (if qK < 0 then (some (-1)) else ((Jw.f qo qK).bind fun qS => (if qS < 0 then (some (-1)) else (some qS))))))))) = some r := h
 clear h
 replace H := Option.bind_eq_some_iff.mp H
 obtain ⟨qG, A30, H⟩ := H
 replace H : (if qG < 0 then (some (-1)) else ((zl.f k qA qG).bind fun qx => (if qx < 0 then (some (-1)) else ((yD.f qt qx).bind fun qK => (if qK < 0 then (some (-1)) else ((Jw.f qo qK).bind fun qS => (if qS < 0 then (some (-1)) else (some qS)))))))) = some r := H
 have A3 := ak A30
 clear A30
 by_cases c4 : qG < 0
 ·rw [if_pos c4] at H
  have c4b0 : decide (qG < 0) = true := decide_eq_true c4
  clear c4
  obtain rfl := Option.some.inj H
  go_enter Try.func13, Try.ntmps13
  go_wp2_with (first | ((with_reducible refine gate_dst (N := 2) rfl ?_); refine boxed (N := 2) rfl rfl (cs := #[.slice qq qd.length qp, .int .i64 qu, .int .i64 qH, .int .i64 qF, .slice jC qA.length jB, .slice jK qt.length jJ, .slice jM qo.length jL]) (t := 28) HB.out (by first | (go_simp; done) | (go_simp; rfl)) ?_; clear HB; intro qi w5 hg HB qc qm hb; have jD := qm; clear hb hg; obtain ⟨qdf, qgp, qC1, qC0, qCZ, qCY, qCX, qdd, qgl, qCJ, qCI, qCH, qCG, qCF⟩ := cells7 qc.out) | ((with_reducible refine gate_callee (f := 39) rfl ?_); refine goesL_ (some 8) rfl rfl Try.func39 (by kernel_rfl) rfl #[.agg #[.slice qq qd.length qp], .int .i64 a1] rfl (by first | rfl | (simp only [List.map_toArray, List.map_cons, List.map_nil]; first | done | rfl)) ?_; (with_reducible refine (zl.calls k _ _ qd a1 qG _ ?qk ?qj A3.out).mono ?_); (case qk => exact cw qW.out HB.out); (case qj => exact jb.out); rintro e w7 ⟨rfl, hb⟩; refine ⟨_, rfl, ?_⟩; replace qc := ak (blk_below (bk qc.out) hb); replace HB := ak (below_step (bw HB.out) hb); (try clear hb)))
  go_ret
  exact ⟨by first | rfl | (simp [errW_none, errW_some] <;> rfl) | (simp [*, errW_none, errW_some] <;> rfl), bw HB.out⟩
 ·rw [if_neg c4] at H
  have c4b0 : decide (qG < 0) = false := decide_eq_false c4
  clear c4
  replace H := Option.bind_eq_some_iff.mp H
  obtain ⟨qx, A80, H⟩ := H
  replace H : (if qx < 0 then (some (-1)) else ((yD.f qt qx).bind fun qK => (if qK < 0 then (some (-1)) else ((Jw.f qo qK).bind fun qS => (if qS < 0 then (some (-1)) else (some qS)))))) = some r := H
  have A8 := ak A80
  clear A80
  by_cases c9 : qx < 0
  ·rw [if_pos c9] at H
   have c9b0 : decide (qx < 0) = true := decide_eq_true c9
   clear c9
   obtain rfl := Option.some.inj H
   go_enter Try.func13, Try.ntmps13
   go_wp2_with (first | ((with_reducible refine gate_dst (N := 2) rfl ?_); refine boxed (N := 2) rfl rfl (cs := #[.slice qq qd.length qp, .int .i64 qu, .int .i64 qH, .int .i64 qF, .slice jC qA.length jB, .slice jK qt.length jJ, .slice jM qo.length jL]) (t := 28) HB.out (by first | (go_simp; done) | (go_simp; rfl)) ?_; clear HB; intro qi w10 hg HB qc qm hb; have jD := qm; clear hb hg; obtain ⟨JZ, Yl, qbS, qbR, qbQ, qbP, qbO, JY, Yk, qbA, qbz, qby, qbx, qbw⟩ := cells7 qc.out) | ((with_reducible refine gate_callee (f := 39) rfl ?_); refine goesL_ (some 8) rfl rfl Try.func39 (by kernel_rfl) rfl #[.agg #[.slice qq qd.length qp], .int .i64 a1] rfl (by first | rfl | (simp only [List.map_toArray, List.map_cons, List.map_nil]; first | done | rfl)) ?_; (with_reducible refine (zl.calls k _ _ qd a1 qG _ ?qk ?qj A3.out).mono ?_); (case qk => exact cw qW.out HB.out); (case qj => exact jb.out); rintro e w12 ⟨rfl, hb⟩; refine ⟨_, rfl, ?_⟩; replace qc := ak (blk_below (bk qc.out) hb); replace HB := ak (below_step (bw HB.out) hb); (try clear hb); obtain ⟨QN, JO, XB, XA, Xz, Xy, Xx, QM, JN, Xv, Xu, Xt, Xs, Xr⟩ := cells7 qc.out) | ((with_reducible refine gate_callee (f := 39) rfl ?_); refine goesL_ (some 14) rfl rfl Try.func39 (by kernel_rfl) rfl #[.agg #[.slice jC qA.length jB], .int .i64 qG] rfl (by first | rfl | (simp only [List.map_toArray, List.map_cons, List.map_nil]; first | done | rfl)) ?_; (with_reducible refine (zl.calls k _ _ qA qG qx _ ?qk ?qj A8.out).mono ?_); (case qk => exact cw Jo.out HB.out); (case qj => exact Jp.out); rintro e w14 ⟨rfl, hb⟩; refine ⟨_, rfl, ?_⟩; replace qc := ak (blk_below (bk qc.out) hb); replace HB := ak (below_step (bw HB.out) hb); (try clear hb)))
   go_ret
   exact ⟨by first | rfl | (simp [errW_none, errW_some] <;> rfl) | (simp [*, errW_none, errW_some] <;> rfl), bw HB.out⟩
  ·rw [if_neg c9] at H
   have c9b0 : decide (qx < 0) = false := decide_eq_false c9
   clear c9
   replace H := Option.bind_eq_some_iff.mp H
   obtain ⟨qK, quS, H⟩ := H
   replace H : (if qK < 0 then (some (-1)) else ((Jw.f qo qK).bind fun qS => (if qS < 0 then (some (-1)) else (some qS)))) = some r := H
   have A15 := ak quS
   clear quS
   by_cases c16 : qK < 0
   ·rw [if_pos c16] at H
    have c16b0 : decide (qK < 0) = true := decide_eq_true c16
    clear c16
    obtain rfl := Option.some.inj H
    go_enter Try.func13, Try.ntmps13
    go_wp2_with (first | ((with_reducible refine gate_dst (N := 2) rfl ?_); refine boxed (N := 2) rfl rfl (cs := #[.slice qq qd.length qp, .int .i64 qu, .int .i64 qH, .int .i64 qF, .slice jC qA.length jB, .slice jK qt.length jJ, .slice jM qo.length jL]) (t := 28) HB.out (by first | (go_simp; done) | (go_simp; rfl)) ?_; clear HB; intro qi w17 hg HB qc qm hb; have jD := qm; clear hb hg; obtain ⟨YU, YT, qcP, qcO, qcN, qcM, qcL, YR, YQ, qcu, qct, qcs, qcr, qcq⟩ := cells7 qc.out) | ((with_reducible refine gate_callee (f := 39) rfl ?_); refine goesL_ (some 8) rfl rfl Try.func39 (by kernel_rfl) rfl #[.agg #[.slice qq qd.length qp], .int .i64 a1] rfl (by first | rfl | (simp only [List.map_toArray, List.map_cons, List.map_nil]; first | done | rfl)) ?_; (with_reducible refine (zl.calls k _ _ qd a1 qG _ ?qk ?qj A3.out).mono ?_); (case qk => exact cw qW.out HB.out); (case qj => exact jb.out); rintro e w19 ⟨rfl, hb⟩; refine ⟨_, rfl, ?_⟩; replace qc := ak (blk_below (bk qc.out) hb); replace HB := ak (below_step (bw HB.out) hb); (try clear hb); obtain ⟨qaI, qcK, qd0, qdZ, qdY, qdX, qdW, qaG, qcp, qdK, qdJ, qdI, qdH, qdG⟩ := cells7 qc.out) | ((with_reducible refine gate_callee (f := 39) rfl ?_); refine goesL_ (some 14) rfl rfl Try.func39 (by kernel_rfl) rfl #[.agg #[.slice jC qA.length jB], .int .i64 qG] rfl (by first | rfl | (simp only [List.map_toArray, List.map_cons, List.map_nil]; first | done | rfl)) ?_; (with_reducible refine (zl.calls k _ _ qA qG qx _ ?qk ?qj A8.out).mono ?_); (case qk => exact cw Jo.out HB.out); (case qj => exact Jp.out); rintro e w21 ⟨rfl, hb⟩; refine ⟨_, rfl, ?_⟩; replace qc := ak (blk_below (bk qc.out) hb); replace HB := ak (below_step (bw HB.out) hb); (try clear hb); obtain ⟨XV, qbI, qcJ, qcI, qcH, qcG, qcF, XT, qbq, qco, qcn, qcm, qcl, qck⟩ := cells7 qc.out) | ((with_reducible refine gate_callee (f := 58) rfl ?_); refine goesL_ (some 20) rfl rfl Try.func58 (by kernel_rfl) rfl #[.slice jK qt.length jJ, .int .i64 qx] rfl (by first | rfl | (simp only [List.map_toArray, List.map_cons, List.map_nil]; first | done | rfl)) ?_; (with_reducible refine (yD.calls _ _ qt qx qK _ ?qk ?qj A15.out).mono ?_); (case qk => exact cw ZF.out HB.out); (case qj => exact Yp.out); rintro e w' ⟨rfl, ⟨nd, rfl⟩⟩; refine ⟨_, rfl, ?_⟩))
    go_ret
    exact ⟨by first | rfl | (simp [errW_none, errW_some] <;> rfl) | (simp [*, errW_none, errW_some] <;> rfl), bw HB.out⟩
   ·rw [if_neg c16] at H
    have c16b0 : decide (qK < 0) = false := decide_eq_false c16
    clear c16
    replace H := Option.bind_eq_some_iff.mp H
    obtain ⟨qS, qme, H⟩ := H
    replace H : (if qS < 0 then (some (-1)) else (some qS)) = some r := H
    have A23 := ak qme
    clear qme
    by_cases c24 : qS < 0
    ·rw [if_pos c24] at H
     have c24b0 : decide (qS < 0) = true := decide_eq_true c24
     clear c24
     obtain rfl := Option.some.inj H
     go_enter Try.func13, Try.ntmps13
     go_wp2_with (first | ((with_reducible refine gate_dst (N := 2) rfl ?_); refine boxed (N := 2) rfl rfl (cs := #[.slice qq qd.length qp, .int .i64 qu, .int .i64 qH, .int .i64 qF, .slice jC qA.length jB, .slice jK qt.length jJ, .slice jM qo.length jL]) (t := 28) HB.out (by first | (go_simp; done) | (go_simp; rfl)) ?_; clear HB; intro qi w25 hg HB qc qm hb; have jD := qm; clear hb hg; obtain ⟨qhq, qkA, qkz, qky, qkx, qkw, qkv, qg7, qjH, qjG, qjF, qjE, qjD, qjC⟩ := cells7 qc.out) | ((with_reducible refine gate_callee (f := 39) rfl ?_); refine goesL_ (some 8) rfl rfl Try.func39 (by kernel_rfl) rfl #[.agg #[.slice qq qd.length qp], .int .i64 a1] rfl (by first | rfl | (simp only [List.map_toArray, List.map_cons, List.map_nil]; first | done | rfl)) ?_; (with_reducible refine (zl.calls k _ _ qd a1 qG _ ?qk ?qj A3.out).mono ?_); (case qk => exact cw qW.out HB.out); (case qj => exact jb.out); rintro e w27 ⟨rfl, hb⟩; refine ⟨_, rfl, ?_⟩; replace qc := ak (blk_below (bk qc.out) hb); replace HB := ak (below_step (bw HB.out) hb); (try clear hb); obtain ⟨qhp, qho, qn4, qn3, qn2, qn1, qn0, qg6, qg5, qnc, qnb, qna, qm9, qm8⟩ := cells7 qc.out) | ((with_reducible refine gate_callee (f := 39) rfl ?_); refine goesL_ (some 14) rfl rfl Try.func39 (by kernel_rfl) rfl #[.agg #[.slice jC qA.length jB], .int .i64 qG] rfl (by first | rfl | (simp only [List.map_toArray, List.map_cons, List.map_nil]; first | done | rfl)) ?_; (with_reducible refine (zl.calls k _ _ qA qG qx _ ?qk ?qj A8.out).mono ?_); (case qk => exact cw Jo.out HB.out); (case qj => exact Jp.out); rintro e w29 ⟨rfl, hb⟩; refine ⟨_, rfl, ?_⟩; replace qc := ak (blk_below (bk qc.out) hb); replace HB := ak (below_step (bw HB.out) hb); (try clear hb); obtain ⟨qfQ, qhm, qhl, qhk, qhj, qhi, qhh, qfx, qg3, qg2, qg1, qg0, qgZ, qgY⟩ := cells7 qc.out) | ((with_reducible refine gate_callee (f := 58) rfl ?_); refine goesL_ (some 20) rfl rfl Try.func58 (by kernel_rfl) rfl #[.slice jK qt.length jJ, .int .i64 qx] rfl (by first | rfl | (simp only [List.map_toArray, List.map_cons, List.map_nil]; first | done | rfl)) ?_; (with_reducible refine (yD.calls _ _ qt qx qK _ ?qk ?qj A15.out).mono ?_); (case qk => exact cw ZF.out HB.out); (case qj => exact Yp.out); rintro e w' ⟨rfl, ⟨nd, rfl⟩⟩; refine ⟨_, rfl, ?_⟩) | ((with_reducible refine gate_callee (f := 59) rfl ?_); refine goesL_ (some 26) rfl rfl Try.func59 (by kernel_rfl) rfl #[.slice jM qo.length jL, .int .i64 qK] rfl (by first | rfl | (simp only [List.map_toArray, List.map_cons, List.map_nil]; first | done | rfl)) ?_; (with_reducible refine (Jw.calls _ _ qo qK qS _ ?qk ?qj A23.out).mono ?_); (case qk => repeat (first | exact (Kd.C_below Qd.out (bw HB.out)) | (with_reducible refine Kd.C_alloc ?_ _) | (with_reducible refine Kd.C_drewN ?_ _) | (with_reducible refine Kd.C_drew ?_))); (case qj => exact YP.out); rintro e w' ⟨rfl, ⟨nd, rfl⟩⟩; refine ⟨_, rfl, ?_⟩))
     go_ret
     exact ⟨by first | rfl | (simp [errW_none, errW_some] <;> rfl) | (simp [*, errW_none, errW_some] <;> rfl), bw HB.out⟩
    ·rw [if_neg c24] at H
     have c24b0 : decide (qS < 0) = false := decide_eq_false c24
     clear c24
     obtain rfl := Option.some.inj H
     go_enter Try.func13, Try.ntmps13
     go_wp2_with (first | ((with_reducible refine gate_dst (N := 2) rfl ?_); refine boxed (N := 2) rfl rfl (cs := #[.slice qq qd.length qp, .int .i64 qu, .int .i64 qH, .int .i64 qF, .slice jC qA.length jB, .slice jK qt.length jJ, .slice jM qo.length jL]) (t := 28) HB.out (by first | (go_simp; done) | (go_simp; rfl)) ?_; clear HB; intro qi w31 hg HB qc qm hb; have jD := qm; clear hb hg; obtain ⟨qbH, qbG, qbF, qbE, qbD, qbC, qbB, qbp, qbo, qbn, qbm, qbl, qbk, qbj⟩ := cells7 qc.out) | ((with_reducible refine gate_callee (f := 39) rfl ?_); refine goesL_ (some 8) rfl rfl Try.func39 (by kernel_rfl) rfl #[.agg #[.slice qq qd.length qp], .int .i64 a1] rfl (by first | rfl | (simp only [List.map_toArray, List.map_cons, List.map_nil]; first | done | rfl)) ?_; (with_reducible refine (zl.calls k _ _ qd a1 qG _ ?qk ?qj A3.out).mono ?_); (case qk => exact cw qW.out HB.out); (case qj => exact jb.out); rintro e w33 ⟨rfl, hb⟩; refine ⟨_, rfl, ?_⟩; replace qc := ak (blk_below (bk qc.out) hb); replace HB := ak (below_step (bw HB.out) hb); (try clear hb); obtain ⟨qnZ, qth, qtg, qtf, qte, qtd, qtc, qm7, qrC, qrB, qrA, qrz, qry, qrx⟩ := cells7 qc.out) | ((with_reducible refine gate_callee (f := 39) rfl ?_); refine goesL_ (some 14) rfl rfl Try.func39 (by kernel_rfl) rfl #[.agg #[.slice jC qA.length jB], .int .i64 qG] rfl (by first | rfl | (simp only [List.map_toArray, List.map_cons, List.map_nil]; first | done | rfl)) ?_; (with_reducible refine (zl.calls k _ _ qA qG qx _ ?qk ?qj A8.out).mono ?_); (case qk => exact cw Jo.out HB.out); (case qj => exact Jp.out); rintro e w35 ⟨rfl, hb⟩; refine ⟨_, rfl, ?_⟩; replace qc := ak (blk_below (bk qc.out) hb); replace HB := ak (below_step (bw HB.out) hb); (try clear hb); obtain ⟨qkm, qnY, qnX, qnW, qnV, qnU, qnT, qjt, qm6, qm5, qm4, qm3, qm2, qm1⟩ := cells7 qc.out) | ((with_reducible refine gate_callee (f := 58) rfl ?_); refine goesL_ (some 20) rfl rfl Try.func58 (by kernel_rfl) rfl #[.slice jK qt.length jJ, .int .i64 qx] rfl (by first | rfl | (simp only [List.map_toArray, List.map_cons, List.map_nil]; first | done | rfl)) ?_; (with_reducible refine (yD.calls _ _ qt qx qK _ ?qk ?qj A15.out).mono ?_); (case qk => exact cw ZF.out HB.out); (case qj => exact Yp.out); rintro e w' ⟨rfl, ⟨nd, rfl⟩⟩; refine ⟨_, rfl, ?_⟩) | ((with_reducible refine gate_callee (f := 59) rfl ?_); refine goesL_ (some 26) rfl rfl Try.func59 (by kernel_rfl) rfl #[.slice jM qo.length jL, .int .i64 qK] rfl (by first | rfl | (simp only [List.map_toArray, List.map_cons, List.map_nil]; first | done | rfl)) ?_; (with_reducible refine (Jw.calls _ _ qo qK qS _ ?qk ?qj A23.out).mono ?_); (case qk => repeat (first | exact (Kd.C_below Qd.out (bw HB.out)) | (with_reducible refine Kd.C_alloc ?_ _) | (with_reducible refine Kd.C_drewN ?_ _) | (with_reducible refine Kd.C_drew ?_))); (case qj => exact YP.out); rintro e w' ⟨rfl, ⟨nd, rfl⟩⟩; refine ⟨_, rfl, ?_⟩))
     go_ret
     exact ⟨by first | rfl | (simp [errW_none, errW_some] <;> rfl) | (simp [*, errW_none, errW_some] <;> rfl), bw HB.out⟩


/-! ### zL: function 95 -/
def zL.l0 : Nat → List (S28) → Int → Int → Option (Int)
 | 0, _, _, _ => none
 | k + 1, x0, x1, x5 => if x5 < (x0.length : Int) then (if 0 ≤ x5 then ((YE.f k ((jl x0 x5).f0.f0) ((jl x0 x5).f1) ((jl x0 x5).f2) ((jl x0 x5).f3) ((jl x0 x5).f4.f0) ((jl x0 x5).f5) ((jl x0 x5).f6) x1).bind fun qG => (if qG < 0 then (some (-1)) else (zL.l0 k x0 qG (wrap64 (x5 + 1))))) else (none)) else (some x1)
def zL.f (k : Nat) (l0 : List (S28)) (a1 : Int) : Option (Int) := if (wrap64 (a1 - (l0.length : Int))) < 0 then (some (-1)) else (zL.l0 k l0 (wrap64 (a1 - (l0.length : Int))) 0)
set_option maxHeartbeats 8000000 in
set_option maxRecDepth 100000 in
theorem zL.calls (k : Nat) (A0 : Option Addr) (c0 : Nat) (l0 : List (S28)) (a1 : Int) (r : Int) (w : World) (hr0 : Kd.C k28 w A0 l0.length l0) (hc0 : l0.length ≤ c0) (h : zL.f k l0 a1 = some r) :
  Calls Try.prog 95 #[.slice A0 l0.length c0, .int .i64 a1] w fun e w' => e = .returned (.int .i64 r) ∧ Below w.heap.size w w' := by
 have qpj := Try.underlying28
 have HR0 := ak hr0
 have HC0 := ak hc0
 clear hr0 hc0
 have HB := ak (Below.refl w.heap.size w)
 have H : (if (wrap64 (a1 - (l0.length : Int))) < 0 then (some (-1)) else (zL.l0 k l0 (wrap64 (a1 - (l0.length : Int))) 0)) = some r := h
 clear h
 by_cases c3 : (wrap64 (a1 - (l0.length : Int))) < 0
 ·rw [if_pos c3] at H
  have c3b0 : decide ((wrap64 (a1 - (l0.length : Int))) < 0) = true := decide_eq_true c3
  clear c3
  obtain rfl := Option.some.inj H
  go_enter Try.func95, Try.ntmps95
  go_wp2
  go_ret
  exact ⟨by first | rfl | (simp [errW_none, errW_some] <;> rfl) | (simp [*, errW_none, errW_some] <;> rfl), bw HB.out⟩
 ·rw [if_neg c3] at H
  have c3b0 : decide ((wrap64 (a1 - (l0.length : Int))) < 0) = false := decide_eq_false c3
  clear c3
  have H' := ak H
  clear H
  go_enter Try.func95, Try.ntmps95
  go_wp2
  go_loopg [1, 5] k (fun kq v1 v5 w' => ∃ (qa2 : Int) (qh : Int), v1 = .int .i64 qa2 ∧ v5 = .int .i64 qh ∧ Aside0 (zL.l0 kq l0 qa2 qh = some r) ∧ Aside0 (kq ≤ k) ∧ Aside0 (Below w.heap.size w w'))
  case atStart => exact ⟨(wrap64 (a1 - (l0.length : Int))), (0), (by first | rfl | (simp; done) | (simp [*]; done)), (by first | rfl | (simp; done) | (simp [*]; done)), H', ⟨Nat.le_refl _⟩, ⟨bw HB.out⟩⟩
  case round =>
   clear H'
   try clear p2
   try clear c3
   try clear c3b0
   obtain ⟨qa2, qh, rfl, rfl, HA, HK1, HB⟩ := hrel
   cases gk with
   | zero => exact absurd HA.out (by simp [zL.l0])
   | succ k1 =>
    have H := HA.out
    clear HA
    simp only [zL.l0] at H
    by_cases c4 : qh < (l0.length : Int)
    ·rw [if_pos c4] at H
     have c4b0 : decide (qh < (l0.length : Int)) = true := decide_eq_true c4
     clear c4
     by_cases c5 : 0 ≤ qh
     ·rw [if_pos c5] at H
      have c5b0 : decide (0 ≤ qh) = true := decide_eq_true c5
      clear c5
      replace H := Option.bind_eq_some_iff.mp H
      obtain ⟨qG, A60, H⟩ := H
      replace H : (if qG < 0 then (some (-1)) else (zL.l0 k1 l0 qG (wrap64 (qh + 1)))) = some r := H
      have A6 := ak A60
      clear A60
      by_cases c7 : qG < 0
      ·rw [if_pos c7] at H
       have c7b0 : decide (qG < 0) = true := decide_eq_true c7
       clear c7
       obtain rfl := Option.some.inj H
       have ju : 0 ≤ (qh : Int) := of_decide_eq_true (by first | (with_reducible assumption) | assumption)
       have jt : qh < (l0.length : Int) := of_decide_eq_true (by first | (with_reducible assumption) | assumption)
       obtain ⟨ja, Yi, Yd, qav, qaq, qau, qap, qat, qao, yl, zj, JI, JH, JG, JF, JE, JD, ym, yn, Zj, Zm, Zi, Zl, Zh, Zk⟩ := qma HR0.out qh ju jt
       cases yl
       replace zj := hc_ HB.out zj
       replace JI := hc_ HB.out JI
       replace JH := hc_ HB.out JH
       replace JG := hc_ HB.out JG
       replace JF := hc_ HB.out JF
       replace JE := hc_ HB.out JE
       replace JD := hc_ HB.out JD
       have Qt := ak yn
       have QQ := ak ym
       clear yn ym
       have XE := ak Zm
       have qaO := ak Zj
       clear Zm Zj
       have XD := ak Zl
       have qaN := ak Zi
       clear Zl Zi
       have XC := ak Zk
       have qaM := ak Zh
       clear Zk Zh
       replace ju := eq_true ju
       replace jt := eq_true jt
       go_wp2_with (first | ((with_reducible refine gate_callee (f := 13) rfl ?_); refine goesL_ (some 23) rfl rfl Try.func13 (by kernel_rfl) rfl #[.agg #[.slice Yi ((jl l0 qh).f0.f0).length Yd, .int .i64 ((jl l0 qh).f1), .int .i64 ((jl l0 qh).f2), .int .i64 ((jl l0 qh).f3), .slice qav ((jl l0 qh).f4.f0).length qaq, .slice qau ((jl l0 qh).f5).length qap, .slice qat ((jl l0 qh).f6).length qao], .int .i64 qa2] rfl (by first | rfl | (simp only [List.map_toArray, List.map_cons, List.map_nil]; first | done | rfl)) ?_; (with_reducible refine (YE.calls k1 _ _ ((jl l0 qh).f0.f0) ((jl l0 qh).f1) ((jl l0 qh).f2) ((jl l0 qh).f3) _ _ ((jl l0 qh).f4.f0) _ _ ((jl l0 qh).f5) _ _ ((jl l0 qh).f6) qa2 qG _ ?qk ?qj ?qw ?qy ?zK ?yz ?yy ?yx A6.out).mono ?_); (case qk => exact cw Qt.out HB.out); (case qj => exact QQ.out); (case qw => exact cw XE.out HB.out); (case qy => exact qaO.out); (case zK => exact cw XD.out HB.out); (case yz => exact qaN.out); (case yy => exact cw XC.out HB.out); (case yx => exact qaM.out); rintro e w8 ⟨rfl, hb⟩; refine ⟨_, rfl, ?_⟩; replace HB := ak (below_step (bw HB.out) hb); (try clear hb)))
       go_ret
       exact ⟨by first | rfl | (simp [errW_none, errW_some] <;> rfl) | (simp [*, errW_none, errW_some] <;> rfl), bw HB.out⟩
      ·rw [if_neg c7] at H
       have c7b0 : decide (qG < 0) = false := decide_eq_false c7
       clear c7
       have H' := ak H
       clear H
       have ju : 0 ≤ (qh : Int) := of_decide_eq_true (by first | (with_reducible assumption) | assumption)
       have jt : qh < (l0.length : Int) := of_decide_eq_true (by first | (with_reducible assumption) | assumption)
       obtain ⟨ja, Yi, Yd, qav, qaq, qau, qap, qat, qao, yl, zj, JI, JH, JG, JF, JE, JD, ym, yn, Zj, Zm, Zi, Zl, Zh, Zk⟩ := qma HR0.out qh ju jt
       cases yl
       replace zj := hc_ HB.out zj
       replace JI := hc_ HB.out JI
       replace JH := hc_ HB.out JH
       replace JG := hc_ HB.out JG
       replace JF := hc_ HB.out JF
       replace JE := hc_ HB.out JE
       replace JD := hc_ HB.out JD
       have Qt := ak yn
       have QQ := ak ym
       clear yn ym
       have XE := ak Zm
       have qaO := ak Zj
       clear Zm Zj
       have XD := ak Zl
       have qaN := ak Zi
       clear Zl Zi
       have XC := ak Zk
       have qaM := ak Zh
       clear Zk Zh
       replace ju := eq_true ju
       replace jt := eq_true jt
       go_wp2_with (first | ((with_reducible refine gate_callee (f := 13) rfl ?_); refine goesL_ (some 23) rfl rfl Try.func13 (by kernel_rfl) rfl #[.agg #[.slice Yi ((jl l0 qh).f0.f0).length Yd, .int .i64 ((jl l0 qh).f1), .int .i64 ((jl l0 qh).f2), .int .i64 ((jl l0 qh).f3), .slice qav ((jl l0 qh).f4.f0).length qaq, .slice qau ((jl l0 qh).f5).length qap, .slice qat ((jl l0 qh).f6).length qao], .int .i64 qa2] rfl (by first | rfl | (simp only [List.map_toArray, List.map_cons, List.map_nil]; first | done | rfl)) ?_; (with_reducible refine (YE.calls k1 _ _ ((jl l0 qh).f0.f0) ((jl l0 qh).f1) ((jl l0 qh).f2) ((jl l0 qh).f3) _ _ ((jl l0 qh).f4.f0) _ _ ((jl l0 qh).f5) _ _ ((jl l0 qh).f6) qa2 qG _ ?qk ?qj ?qw ?qy ?zK ?yz ?yy ?yx A6.out).mono ?_); (case qk => exact cw Qt.out HB.out); (case qj => exact QQ.out); (case qw => exact cw XE.out HB.out); (case qy => exact qaO.out); (case zK => exact cw XD.out HB.out); (case yz => exact qaN.out); (case yy => exact cw XC.out HB.out); (case yx => exact qaM.out); rintro e w9 ⟨rfl, hb⟩; refine ⟨_, rfl, ?_⟩; replace HB := ak (below_step (bw HB.out) hb); (try clear hb)))
       go_roundg k1
       case measure => have := HK1.out; omega
       case rel => exact ⟨(qG), (wrap64 (qh + 1)), (by first | rfl | (simp; done) | (simp [*]; done)), (by first | rfl | (simp; done) | (simp [*]; done)), H', ⟨by have := HK1.out; omega⟩, ⟨bw HB.out⟩⟩
     ·rw [if_neg c5] at H
      exact absurd H (by simp)
    ·rw [if_neg c4] at H
     have c4b0 : decide (qh < (l0.length : Int)) = false := decide_eq_false c4
     clear c4
     obtain rfl := Option.some.inj H
     go_wp2
     go_ret
     exact ⟨by first | rfl | (simp [errW_none, errW_some] <;> rfl) | (simp [*, errW_none, errW_some] <;> rfl), bw HB.out⟩


/-! ### ZZ: function 34 -/
def ZZ.f (k : Nat) (qd : List (List Int)) (qb : List (S28)) (a1 : Int) : Option (Int) := (zl.f k qd a1).bind fun qG => (if qG < 0 then (some (-1)) else ((zL.f k qb qG).bind fun qx => (if qx < 0 then (some (-1)) else (some qx))))
set_option maxHeartbeats 8000000 in
set_option maxRecDepth 100000 in
theorem ZZ.calls (k : Nat) (qq : Option Addr) (qp : Nat) (qd : List (List Int)) (jA : Option Addr) (je : Nat) (qb : List (S28)) (a1 : Int) (r : Int) (w : World) (jd : Kd.C (Kd.slice 5 (Kd.int .u8)) w qq qd.length qd) (jg : qd.length ≤ qp) (QR : Kd.C k28 w jA qb.length qb) (Jn : qb.length ≤ je) (h : ZZ.f k qd qb a1 = some r) :
  Calls Try.prog 34 #[.agg #[.slice qq qd.length qp, .slice jA qb.length je], .int .i64 a1] w fun e w' => e = .returned (.int .i64 r) ∧ Below w.heap.size w w' := by
 have qtZ := Try.underlying54
 have qlv := Try.underlying24
 have qW := ak jd
 have jb := ak jg
 clear jd jg
 have yB := ak QR
 have QJ := ak Jn
 clear QR Jn
 have HB := ak (Below.refl w.heap.size w)
 have H : ((zl.f k qd a1).bind fun qG => (if qG < 0 then (some (-1)) else ((zL.f k qb qG).bind fun qx => (if qx < 0 then (some (-1)) else (some qx))))) = some r := h
 clear h
 replace H := Option.bind_eq_some_iff.mp H
 obtain ⟨qG, A30, H⟩ := H
 replace H : (if qG < 0 then (some (-1)) else ((zL.f k qb qG).bind fun qx => (if qx < 0 then (some (-1)) else (some qx)))) = some r := H
 have A3 := ak A30
 clear A30
 by_cases c4 : qG < 0
 ·rw [if_pos c4] at H
  have c4b0 : decide (qG < 0) = true := decide_eq_true c4
  clear c4
  obtain rfl := Option.some.inj H
  go_enter Try.func34, Try.ntmps34
  go_wp2_with (first | ((with_reducible refine gate_dst (N := 2) rfl ?_); refine boxed (N := 2) rfl rfl (cs := #[.slice qq qd.length qp, .slice jA qb.length je]) (t := 54) HB.out (by first | (go_simp; done) | (go_simp; rfl)) ?_; clear HB; intro qi w5 hg HB qc qm hb; have jD := qm; clear hb hg; obtain ⟨qdf, qgp, qdd, qgl⟩ := cells2 qc.out) | ((with_reducible refine gate_callee (f := 39) rfl ?_); refine goesL_ (some 8) rfl rfl Try.func39 (by kernel_rfl) rfl #[.agg #[.slice qq qd.length qp], .int .i64 a1] rfl (by first | rfl | (simp only [List.map_toArray, List.map_cons, List.map_nil]; first | done | rfl)) ?_; (with_reducible refine (zl.calls k _ _ qd a1 qG _ ?qk ?qj A3.out).mono ?_); (case qk => exact cw qW.out HB.out); (case qj => exact jb.out); rintro e w7 ⟨rfl, hb⟩; refine ⟨_, rfl, ?_⟩; replace qc := ak (blk_below (bk qc.out) hb); replace HB := ak (below_step (bw HB.out) hb); (try clear hb)))
  go_ret
  exact ⟨by first | rfl | (simp [errW_none, errW_some] <;> rfl) | (simp [*, errW_none, errW_some] <;> rfl), bw HB.out⟩
 ·rw [if_neg c4] at H
  have c4b0 : decide (qG < 0) = false := decide_eq_false c4
  clear c4
  replace H := Option.bind_eq_some_iff.mp H
  obtain ⟨qx, A80, H⟩ := H
  replace H : (if qx < 0 then (some (-1)) else (some qx)) = some r := H
  have A8 := ak A80
  clear A80
  by_cases c9 : qx < 0
  ·rw [if_pos c9] at H
   have c9b0 : decide (qx < 0) = true := decide_eq_true c9
   clear c9
   obtain rfl := Option.some.inj H
   go_enter Try.func34, Try.ntmps34
   go_wp2_with (first | ((with_reducible refine gate_dst (N := 2) rfl ?_); refine boxed (N := 2) rfl rfl (cs := #[.slice qq qd.length qp, .slice jA qb.length je]) (t := 54) HB.out (by first | (go_simp; done) | (go_simp; rfl)) ?_; clear HB; intro qi w10 hg HB qc qm hb; have jD := qm; clear hb hg; obtain ⟨JZ, Yl, JY, Yk⟩ := cells2 qc.out) | ((with_reducible refine gate_callee (f := 39) rfl ?_); refine goesL_ (some 8) rfl rfl Try.func39 (by kernel_rfl) rfl #[.agg #[.slice qq qd.length qp], .int .i64 a1] rfl (by first | rfl | (simp only [List.map_toArray, List.map_cons, List.map_nil]; first | done | rfl)) ?_; (with_reducible refine (zl.calls k _ _ qd a1 qG _ ?qk ?qj A3.out).mono ?_); (case qk => exact cw qW.out HB.out); (case qj => exact jb.out); rintro e w12 ⟨rfl, hb⟩; refine ⟨_, rfl, ?_⟩; replace qc := ak (blk_below (bk qc.out) hb); replace HB := ak (below_step (bw HB.out) hb); (try clear hb); obtain ⟨QN, JO, QM, JN⟩ := cells2 qc.out) | ((with_reducible refine gate_callee (f := 95) rfl ?_); refine goesL_ (some 14) rfl rfl Try.func95 (by kernel_rfl) rfl #[.slice jA qb.length je, .int .i64 qG] rfl (by first | rfl | (simp only [List.map_toArray, List.map_cons, List.map_nil]; first | done | rfl)) ?_; (with_reducible refine (zL.calls k _ _ qb qG qx _ ?qk ?qj A8.out).mono ?_); (case qk => exact cw yB.out HB.out); (case qj => exact QJ.out); rintro e w14 ⟨rfl, hb⟩; refine ⟨_, rfl, ?_⟩; replace qc := ak (blk_below (bk qc.out) hb); replace HB := ak (below_step (bw HB.out) hb); (try clear hb)))
   go_ret
   exact ⟨by first | rfl | (simp [errW_none, errW_some] <;> rfl) | (simp [*, errW_none, errW_some] <;> rfl), bw HB.out⟩
  ·rw [if_neg c9] at H
   have c9b0 : decide (qx < 0) = false := decide_eq_false c9
   clear c9
   obtain rfl := Option.some.inj H
   go_enter Try.func34, Try.ntmps34
   go_wp2_with (first | ((with_reducible refine gate_dst (N := 2) rfl ?_); refine boxed (N := 2) rfl rfl (cs := #[.slice qq qd.length qp, .slice jA qb.length je]) (t := 54) HB.out (by first | (go_simp; done) | (go_simp; rfl)) ?_; clear HB; intro qi w15 hg HB qc qm hb; have jD := qm; clear hb hg; obtain ⟨YV, Xw, YS, Xq⟩ := cells2 qc.out) | ((with_reducible refine gate_callee (f := 39) rfl ?_); refine goesL_ (some 8) rfl rfl Try.func39 (by kernel_rfl) rfl #[.agg #[.slice qq qd.length qp], .int .i64 a1] rfl (by first | rfl | (simp only [List.map_toArray, List.map_cons, List.map_nil]; first | done | rfl)) ?_; (with_reducible refine (zl.calls k _ _ qd a1 qG _ ?qk ?qj A3.out).mono ?_); (case qk => exact cw qW.out HB.out); (case qj => exact jb.out); rintro e w17 ⟨rfl, hb⟩; refine ⟨_, rfl, ?_⟩; replace qc := ak (blk_below (bk qc.out) hb); replace HB := ak (below_step (bw HB.out) hb); (try clear hb); obtain ⟨YU, YT, YR, YQ⟩ := cells2 qc.out) | ((with_reducible refine gate_callee (f := 95) rfl ?_); refine goesL_ (some 14) rfl rfl Try.func95 (by kernel_rfl) rfl #[.slice jA qb.length je, .int .i64 qG] rfl (by first | rfl | (simp only [List.map_toArray, List.map_cons, List.map_nil]; first | done | rfl)) ?_; (with_reducible refine (zL.calls k _ _ qb qG qx _ ?qk ?qj A8.out).mono ?_); (case qk => exact cw yB.out HB.out); (case qj => exact QJ.out); rintro e w19 ⟨rfl, hb⟩; refine ⟨_, rfl, ?_⟩; replace qc := ak (blk_below (bk qc.out) hb); replace HB := ak (below_step (bw HB.out) hb); (try clear hb)))
   go_ret
   exact ⟨by first | rfl | (simp [errW_none, errW_some] <;> rfl) | (simp [*, errW_none, errW_some] <;> rfl), bw HB.out⟩


/-! ### jV: function 26 -/
def jV.l0 : Nat → List Int → List Int → Int → Option (List Int)
 | 0, _, _, _ => none
 | k + 1, x0, x3, x4 => if x4 < (x0.length : Int) then (if 0 ≤ x4 then (if x4 < (x3.length : Int) then (jV.l0 k x0 (x3.set (x4 : Int).toNat (rd x0 x4)) (wrap64 (x4 + 1))) else (none)) else (none)) else (some x3)
def jV.f (k : Nat) (l0 : List Int) : Option (List Int) := if 0 ≤ (l0.length : Int) then (if ((l0.length : Int) : Int).toNat ≤ 281474976710656 then (jV.l0 k l0 (List.replicate ((l0.length : Int) : Int).toNat 0) 0) else (none)) else (none)
set_option maxHeartbeats 8000000 in
set_option maxRecDepth 100000 in
theorem jV.calls (k : Nat) (A0 : Option Addr) (c0 : Nat) (l0 : List Int) (r : List Int) (w : World) (hr0 : Kd.C (Kd.int .u8) w A0 l0.length l0) (hc0 : l0.length ≤ c0) (h : jV.f k l0 = some r) :
  Calls Try.prog 26 #[.slice A0 l0.length c0] w fun e w' => ∃ v0_ : Value, e = .returned (v0_) ∧ Kd.R (Kd.int .u8) 5 w' w.heap.size (fun _ => True) v0_ r ∧ Below w.heap.size w w' := by
 have HR0 := ak hr0
 have HC0 := ak hc0
 clear hr0 hc0
 have HB := ak (Below.refl w.heap.size w)
 have H : (if 0 ≤ (l0.length : Int) then (if ((l0.length : Int) : Int).toNat ≤ 281474976710656 then (jV.l0 k l0 (List.replicate ((l0.length : Int) : Int).toNat 0) 0) else (none)) else (none)) = some r := h
 clear h
 by_cases c2 : 0 ≤ (l0.length : Int)
 ·rw [if_pos c2] at H
  have c2b0 := eq_true c2
  have c2b1 : decide (0 ≤ (l0.length : Int)) = true := decide_eq_true c2
  clear c2
  by_cases c3 : ((l0.length : Int) : Int).toNat ≤ 281474976710656
  ·rw [if_pos c3] at H
   have c3b0 := eq_true c3
   have c3b1 : decide (((l0.length : Int) : Int).toNat ≤ 281474976710656) = true := decide_eq_true c3
   clear c3
   obtain ⟨ZH, yQ⟩ : ∃ y_ : List Int, y_ = (List.replicate ((l0.length : Int) : Int).toNat 0) := ⟨_, rfl⟩
   replace H : (jV.l0 k l0 ZH 0) = some r := by first | (rw [yQ]; with_reducible exact H) | (have H2_ := (Option.bind_some _ _).symm.trans H; rw [yQ]; with_reducible exact H2_) | (have H2_ := (Option.bind_some _ _).symm.trans H; with_reducible exact H2_) | with_reducible exact H | (rw [yQ]; exact H) | exact H
   have Ya := ak yQ
   clear yQ
   have H' := ak H
   clear H
   go_enter Try.func26, Try.ntmps26
   go_wp2_with (first | ((with_reducible refine gate_dst (N := 7) rfl ?_); refine Kd.R_make (Kd.int .u8) _ 5 rfl (N := 7) rfl 25 _ _ rfl (l0.length : Int) rfl rfl Try.underlying25 (.int .u8 0) 1 XJ rfl (by decide) (by omega) 0 (ok := fun _ => True) (okp := fun _ => True) rfl (fun _ hk => hk) trivial (of_decide_eq_true (by first | (with_reducible assumption) | assumption)) (Nat.le_trans (Nat.mul_le_mul_right _ (of_decide_eq_true (by first | (with_reducible assumption) | assumption) : (l0.length : Int).toNat ≤ 281474976710656)) (by omega)) (Below.refl _ _) (Nat.le_refl _) ?_; intro qaP w4 ho5 hb hg_ hnew_; clear hg_ hnew_; (first | rw [← Ya.out] at ho5 | (simp only [Int.reduceToNat] at ho5; rw [← Ya.out] at ho5)); have Zu := ak (Kd.R_lower ho5 (below_size (bw HB.out))); replace HB := ak (below_step (bw HB.out) hb); clear hb ho5))
   go_loopg [4] k (fun kq v4 w' => ∃ (jE : List Int) (qV : Int), v4 = .int .i64 qV ∧ Aside0 (jV.l0 kq l0 jE qV = some r) ∧ Aside0 (kq ≤ k) ∧ Aside0 (Kd.R (Kd.int .u8) 5 w' w.heap.size (fun _ => True) qaP jE) ∧ Aside0 (Below w.heap.size w w'))
   case atStart => exact ⟨(ZH), (0), (by first | rfl | (simp; done) | (simp [*]; done)), H', ⟨Nat.le_refl _⟩, ⟨rw_ Zu.out⟩, ⟨bw HB.out⟩⟩
   case round =>
    clear H'
    try clear c2
    try clear c2b0
    try clear c2b1
    try clear p2
    try clear c3
    try clear c3b0
    try clear c3b1
    obtain ⟨jE, qV, rfl, HA, HK1, HO_3, HB⟩ := hrel
    cases gk with
    | zero => exact absurd HA.out (by simp [jV.l0])
    | succ k1 =>
     have H := HA.out
     clear HA
     simp only [jV.l0] at H
     by_cases c6 : qV < (l0.length : Int)
     ·rw [if_pos c6] at H
      have c6b0 : decide (qV < (l0.length : Int)) = true := decide_eq_true c6
      clear c6
      by_cases c7 : 0 ≤ qV
      ·rw [if_pos c7] at H
       have c7b0 : decide (0 ≤ qV) = true := decide_eq_true c7
       clear c7
       by_cases c8 : qV < (jE.length : Int)
       ·rw [if_pos c8] at H
        have c8b0 : decide (qV < (jE.length : Int)) = true := decide_eq_true c8
        clear c8
        obtain ⟨qh1, qb1⟩ : ∃ y_ : List Int, y_ = (jE.set (qV : Int).toNat (rd l0 qV)) := ⟨_, rfl⟩
        replace H : (jV.l0 k1 l0 qh1 (wrap64 (qV + 1))) = some r := by first | (rw [qb1]; with_reducible exact H) | (have H2_ := (Option.bind_some _ _).symm.trans H; rw [qb1]; with_reducible exact H2_) | (have H2_ := (Option.bind_some _ _).symm.trans H; with_reducible exact H2_) | with_reducible exact H | (rw [qb1]; exact H) | exact H
        have qoD := ak qb1
        clear qb1
        have H' := ak H
        clear H
        have yt : 0 ≤ (qV : Int) := of_decide_eq_true (by first | (with_reducible assumption) | assumption)
        have yr : qV < (l0.length : Int) := of_decide_eq_true (by first | (with_reducible assumption) | assumption)
        obtain ⟨zp, Yt, zC⟩ := Kd.at_int HR0.out qV yt yr
        cases Yt
        replace zC := hc_ HB.out zC
        replace yt := eq_true yt
        replace yr := eq_true yr
        have p9 : 0 ≤ (qV : Int) := of_decide_eq_true (by first | (with_reducible assumption) | assumption)
        have q9 : (qV : Int) < ((jE.length : Int) : Int) := of_decide_eq_true (by first | (with_reducible assumption) | assumption)
        obtain ⟨go9, co9, eo9, gb9, gl9, cl9, HG9⟩ := Kd.R_form HO_3.out (by omega)
        (first | cases eo9 | (injection eo9 with ea_ en_ ec_; (first | subst ea_ | (injection ea_ with ea_; subst ea_)); subst ec_; clear en_))
        have GB9 := ak gb9
        have GG9 := ak HG9
        clear gb9 gl9 HG9
        obtain ⟨quZ, qvh⟩ := Kd.R_celln 0 HO_3.out (qV : Int) p9 q9
        replace p9 := eq_true p9
        replace q9 := eq_true q9
        have qh9 := Kd.R_putg HO_3.out (qV : Int) (rd l0 qV)
        go_wp2_with (first | ((with_reducible refine gate_store (t := 5) (p := 20) rfl ?_); refine store_event (t := 5) (p := 20) (v := ?vo_w11) (w1 := (wr.setCell ⟨go9, (qV : Int).toNat, none⟩ (.int .u8 (rd l0 qV)))) ?hg ?ho ?hn ?hr ?_; (case ho => rfl); (case hg => rfl); (case hn => rfl); (case hr => first | (go_simp; done) | (go_simp; rfl)); intro w11 hw; have hg : wr.grownBy w11 (some go9) := (by rw [hw]; exact qh9.2); have hp_ : Kd.R (Kd.int .u8) 5 w11 w.heap.size (fun _ => True) (.slice (some ⟨go9, 0, none⟩) jE.length co9) qh1 := (by rw [hw, qoD.out]; exact qh9.1); clear qh9; replace HO_3 := ak (hp_); replace HB := ak ((by rw [hw]; exact below_set (HB.out) GB9.out : Below w.heap.size w w11)); clear hg hw hp_))
        go_roundg k1
        case measure => have := HK1.out; omega
        case rel => exact ⟨(qh1), (wrap64 (qV + 1)), (by first | rfl | (simp; done) | (simp [*]; done)), H', ⟨by have := HK1.out; omega⟩, ⟨rw_ HO_3.out⟩, ⟨bw HB.out⟩⟩
       ·rw [if_neg c8] at H
        exact absurd H (by simp)
      ·rw [if_neg c7] at H
       exact absurd H (by simp)
     ·rw [if_neg c6] at H
      have c6b0 : decide (qV < (l0.length : Int)) = false := decide_eq_false c6
      clear c6
      obtain rfl := Option.some.inj H
      go_wp2
      go_ret
      exact ⟨_, by first | rfl | (simp [errW_none, errW_some] <;> rfl) | (simp [*, errW_none, errW_some] <;> rfl), rw_ HO_3.out, bw HB.out⟩
  ·rw [if_neg c3] at H
   exact absurd H (by simp)
 ·rw [if_neg c2] at H
  exact absurd H (by simp)


/-! ### zg: function 107 -/
def zg.l0 : Nat → List (List Int) → List (List Int) → Int → Option ((List (List Int)))
 | 0, _, _, _ => none
 | k + 1, x0, x3, x4 => if x4 < (x0.length : Int) then (if 0 ≤ x4 then ((jV.f k (qP x0 x4)).bind fun qS => (if x4 < (x3.length : Int) then (zg.l0 k x0 (x3.set (x4 : Int).toNat qS) (wrap64 (x4 + 1))) else (none))) else (none)) else (some x3)
def zg.f (k : Nat) (l0 : List (List Int)) : Option ((List (List Int))) := if 0 ≤ (l0.length : Int) then (if ((l0.length : Int) : Int).toNat ≤ 11728124029610 then (zg.l0 k l0 (List.replicate ((l0.length : Int) : Int).toNat []) 0) else (none)) else (none)
set_option maxHeartbeats 8000000 in
set_option maxRecDepth 100000 in
theorem zg.calls (k : Nat) (A0 : Option Addr) (c0 : Nat) (l0 : List (List Int)) (r : List (List Int)) (w : World) (hr0 : Kd.C (Kd.slice 5 (Kd.int .u8)) w A0 l0.length l0) (hc0 : l0.length ≤ c0) (h : zg.f k l0 = some r) :
  Calls Try.prog 107 #[.slice A0 l0.length c0] w fun e w' => ∃ v0_ : Value, e = .returned (v0_) ∧ Kd.S (Kd.slice 5 (Kd.int .u8)) 25 w' w.heap.size (fun _ => True) v0_ r ∧ Below w.heap.size w w' := by
 have HR0 := ak hr0
 have HC0 := ak hc0
 clear hr0 hc0
 have HB := ak (Below.refl w.heap.size w)
 have H : (if 0 ≤ (l0.length : Int) then (if ((l0.length : Int) : Int).toNat ≤ 11728124029610 then (zg.l0 k l0 (List.replicate ((l0.length : Int) : Int).toNat []) 0) else (none)) else (none)) = some r := h
 clear h
 by_cases c2 : 0 ≤ (l0.length : Int)
 ·rw [if_pos c2] at H
  have c2b0 := eq_true c2
  have c2b1 : decide (0 ≤ (l0.length : Int)) = true := decide_eq_true c2
  clear c2
  by_cases c3 : ((l0.length : Int) : Int).toNat ≤ 11728124029610
  ·rw [if_pos c3] at H
   have c3b0 := eq_true c3
   have c3b1 : decide (((l0.length : Int) : Int).toNat ≤ 11728124029610) = true := decide_eq_true c3
   clear c3
   obtain ⟨ZH, yQ⟩ : ∃ y_ : List (List Int), y_ = (List.replicate ((l0.length : Int) : Int).toNat []) := ⟨_, rfl⟩
   replace H : (zg.l0 k l0 ZH 0) = some r := by first | (rw [yQ]; with_reducible exact H) | (have H2_ := (Option.bind_some _ _).symm.trans H; rw [yQ]; with_reducible exact H2_) | (have H2_ := (Option.bind_some _ _).symm.trans H; with_reducible exact H2_) | with_reducible exact H | (rw [yQ]; exact H) | exact H
   have Ya := ak yQ
   clear yQ
   have H' := ak H
   clear H
   go_enter Try.func107, Try.ntmps107
   go_wp2_with (first | ((with_reducible refine gate_dst (N := 7) rfl ?_); refine Kd.S_make (Kd.slice 5 (Kd.int .u8)) _ 25 rfl (N := 7) rfl 22 _ _ rfl (l0.length : Int) rfl rfl Try.underlying22 (.slice none 0 0) 24 qlt rfl (by decide) (by omega) [] (ok := fun _ => True) (okp := fun _ => True) ⟨_, rfl, Kd.R_nil _ _ _ _ _⟩ (fun _ hk => hk) trivial (of_decide_eq_true (by first | (with_reducible assumption) | assumption)) (Nat.le_trans (Nat.mul_le_mul_right _ (of_decide_eq_true (by first | (with_reducible assumption) | assumption) : (l0.length : Int).toNat ≤ 11728124029610)) (by omega)) (Below.refl _ _) (Nat.le_refl _) ?_; intro qaP w4 ho5 hb hg_ hnew_; clear hg_ hnew_; (first | rw [← Ya.out] at ho5 | (simp only [Int.reduceToNat] at ho5; rw [← Ya.out] at ho5)); have Zu := ak (Kd.S_lower ho5 (below_size (bw HB.out))); replace HB := ak (below_step (bw HB.out) hb); clear hb ho5))
   go_loopg [4] k (fun kq v4 w' => ∃ (jE : List (List Int)) (qV : Int), v4 = .int .i64 qV ∧ Aside0 (zg.l0 kq l0 jE qV = some r) ∧ Aside0 (kq ≤ k) ∧ Aside0 (Kd.S (Kd.slice 5 (Kd.int .u8)) 25 w' w.heap.size (fun _ => True) qaP jE) ∧ Aside0 (Below w.heap.size w w'))
   case atStart => exact ⟨(ZH), (0), (by first | rfl | (simp; done) | (simp [*]; done)), H', ⟨Nat.le_refl _⟩, ⟨sw Zu.out⟩, ⟨bw HB.out⟩⟩
   case round =>
    clear H'
    try clear c1
    try clear c2
    try clear c2b0
    try clear c2b1
    try clear p2
    try clear c3
    try clear c3b0
    try clear c3b1
    obtain ⟨jE, qV, rfl, HA, HK1, HO_3, HB⟩ := hrel
    cases gk with
    | zero => exact absurd HA.out (by simp [zg.l0])
    | succ k1 =>
     have H := HA.out
     clear HA
     simp only [zg.l0] at H
     by_cases c6 : qV < (l0.length : Int)
     ·rw [if_pos c6] at H
      have c6b0 : decide (qV < (l0.length : Int)) = true := decide_eq_true c6
      clear c6
      by_cases c7 : 0 ≤ qV
      ·rw [if_pos c7] at H
       have c7b0 : decide (0 ≤ qV) = true := decide_eq_true c7
       clear c7
       replace H := Option.bind_eq_some_iff.mp H
       obtain ⟨qS, A80, H⟩ := H
       replace H : (if qV < (jE.length : Int) then (zg.l0 k1 l0 (jE.set (qV : Int).toNat qS) (wrap64 (qV + 1))) else (none)) = some r := H
       have A8 := ak A80
       clear A80
       by_cases c9 : qV < (jE.length : Int)
       ·rw [if_pos c9] at H
        have c9b0 : decide (qV < (jE.length : Int)) = true := decide_eq_true c9
        clear c9
        obtain ⟨qo8, qim⟩ : ∃ y_ : List (List Int), y_ = (jE.set (qV : Int).toNat qS) := ⟨_, rfl⟩
        replace H : (zg.l0 k1 l0 qo8 (wrap64 (qV + 1))) = some r := by first | (rw [qim]; with_reducible exact H) | (have H2_ := (Option.bind_some _ _).symm.trans H; rw [qim]; with_reducible exact H2_) | (have H2_ := (Option.bind_some _ _).symm.trans H; with_reducible exact H2_) | with_reducible exact H | (rw [qim]; exact H) | exact H
        have qvr := ak qim
        clear qim
        have H' := ak H
        clear H
        have yt : 0 ≤ (qV : Int) := of_decide_eq_true (by first | (with_reducible assumption) | assumption)
        have yr : qV < (l0.length : Int) := of_decide_eq_true (by first | (with_reducible assumption) | assumption)
        obtain ⟨zp, zR, zQ, Yt, zC, QY, Jh⟩ := Ju HR0.out qV yt yr
        cases Yt
        replace zC := hc_ HB.out zC
        have yc := ak Jh
        have yd := ak QY
        clear Jh QY
        replace yt := eq_true yt
        replace yr := eq_true yr
        go_wp2_with (first | ((with_reducible refine gate_callee (f := 26) rfl ?_); refine goesL_ (some 20) rfl rfl Try.func26 (by kernel_rfl) rfl #[.slice zR (qP l0 qV).length zQ] rfl (by first | rfl | (simp only [List.map_toArray, List.map_cons, List.map_nil]; first | done | rfl)) ?_; (with_reducible refine (jV.calls k1 _ _ (qP l0 qV) qS _ ?qk ?qj A8.out).mono ?_); (case qk => exact cw yc.out HB.out); (case qj => exact yd.out); rintro e w11 ⟨qd5, rfl, ho0, hb⟩; refine ⟨_, rfl, ?_⟩; replace HO_3 := ak (Kd.S_elder' (sw HO_3.out) (Kd.R_base ho0) hb); have yp := ak (Kd.R_lower ho0 (below_size (bw HB.out))); replace HB := ak (below_step (bw HB.out) hb); (try clear hb); (try clear ho0); have p10 : 0 ≤ (qV : Int) := of_decide_eq_true (by first | (with_reducible assumption) | assumption); have q10 : (qV : Int) < ((jE.length : Int) : Int) := of_decide_eq_true (by first | (with_reducible assumption) | assumption); obtain ⟨Zf, qgb, qh6, ql7, qpm, qwf, qmb⟩ := Kd.S_form HO_3.out (by omega); (first | cases qh6 | (injection qh6 with ea_ en_ ec_; (first | subst ea_ | (injection ea_ with ea_; subst ea_)); subst ec_; clear en_)); have qgf := ak ql7; have qwl := ak qmb; clear ql7 qpm qmb; obtain ⟨_, qwh, qox, ql6, qb8, qb5, _, _⟩ := Kd.S_elem HO_3.out [] (qV : Int) p10 q10; obtain ⟨qoR, rfl, qus⟩ := ql6; have qoS := qb8 0 _ rfl; have qoY := qb5 0; (try simp only [show ((Kd.slice 5 (Kd.int .u8))).sz = 1 from rfl, Nat.mul_one, Nat.add_zero] at qoS); (try simp only [show ((Kd.slice 5 (Kd.int .u8))).sz = 1 from rfl, Nat.mul_one, Nat.add_zero] at qoY); (try clear qox); (try clear qb8); (try clear qb5); (try clear ql6); replace p10 := eq_true p10; replace q10 := eq_true q10; have n_ := ak (Kd.S_mono (ok' := (fun k_ => some k_ ≠ (qd5 : Value).ownBlock)) HO_3.out (fun k_ hk => hk.2)); clear HO_3; have HO_3 := n_; clear n_; have qoG := ak (show Kd.S (Kd.slice 5 (Kd.int .u8)) 25 w11 w.heap.size (fun k_ => ((fun _ => True)) k_ ∧ ¬ ((fun k_ => some k_ = (qd5 : Value).ownBlock)) k_) (.slice (some ⟨Zf, 0, none⟩) jE.length qgb) jE from (by (with_reducible repeat (first | apply Kd.S_alloc | apply Kd.S_drewN | apply Kd.S_drew)); exact Kd.S_mono HO_3.out (fun k_ hk => ⟨trivial, fun e_ => hk e_⟩))); obtain ⟨qDq, qwg, qlj, ql5, qa0, qb4, qt0, qup⟩ := Kd.S_elem qoG.out [] (qV : Int) (of_decide_eq_true (by first | (with_reducible assumption) | assumption)) (by have h_ : (qV : Int) < ((jE.length : Int) : Int) := of_decide_eq_true (by first | (with_reducible assumption) | assumption); first | exact h_ | (have e_ := (Kd.S_reads' HO_3.out).1; omega) | simpa using h_); obtain ⟨qtL, rfl, qur⟩ := ql5; have qgy := Kd.S_seg qup (of_decide_eq_true (by first | (with_reducible assumption) | assumption)) (by have h_ : (qV : Int) < ((jE.length : Int) : Int) := of_decide_eq_true (by first | (with_reducible assumption) | assumption); first | exact h_ | (have e_ := (Kd.S_reads' HO_3.out).1; omega) | simpa using h_) (seg := [qd5]) (j := 0) (show 1 ≤ 1 from by decide) (x' := qS) (Kd.M_row (Kd.R_mono (Kd.R_tight rfl (Kd.R_mono (ok' := fun k_ => ((fun _ => True)) k_ ∧ k_ ≠ Zf) (Kd.R_apart' (yp.out) (Kd.S_typed HO_3.out) (by decide)) (fun k_ hk => ⟨trivial, fun e_ => (hk.2) (by rw [e_]; rfl)⟩))) (fun _ h_ => Or.inr (h_)))) (fun _ hk => hk) (fun k_ hk_ => ((Kd.R_mono (ok' := fun k_ => ((fun _ => True)) k_ ∧ k_ ≠ Zf) (Kd.R_apart' (yp.out) (Kd.S_typed HO_3.out) (by decide)) (fun k_ hk => ⟨trivial, fun e_ => (hk.2) (by rw [e_]; rfl)⟩))).1 k_ hk_.symm); have qlu := qa0 0 _ rfl; (try simp only [show ((Kd.slice 5 (Kd.int .u8))).sz = 1 from rfl, Nat.mul_one, Nat.add_zero] at qlu); have qlQ := qb4 0; (try simp only [show ((Kd.slice 5 (Kd.int .u8))).sz = 1 from rfl, Nat.mul_one, Nat.add_zero] at qlQ); (try clear qlj); (try clear qa0); (try clear qb4); (try clear ql5); (try clear qt0); (try clear qup); (try simp only [show ((Kd.slice 5 (Kd.int .u8))).sz = 1 from rfl, Nat.mul_one, Nat.add_zero] at qgy)) | ((with_reducible refine gate_store (t := 25) (p := 21) rfl ?_); refine store_event (t := 25) (p := 21) (v := ?vo_w13) (w1 := (w11.setCell ⟨Zf, (qV : Int).toNat, none⟩ (qd5))) ?hg ?ho ?hn ?hr ?_; (case ho => rfl); (case hg => rfl); (case hn => rfl); (case hr => first | (go_simp; done) | (go_simp; rfl) | ((first | (obtain ⟨A_, c_, e_⟩ := Kd.R_slice yp.out; rw [e_]) | (obtain ⟨A_, c_, e_⟩ := Kd.S_slice yp.out; rw [e_])); first | (go_simp; done) | (go_simp; rfl))); intro w13 hw; have hg : w11.grownBy w13 (some Zf) := (by rw [hw]; exact qgy.2); have hp_ : Kd.S (Kd.slice 5 (Kd.int .u8)) 25 w13 w.heap.size (fun _ => True) (.slice (some ⟨Zf, 0, none⟩) jE.length qgb) qo8 := (by rw [hw, qvr.out]; exact qgy.1); clear qgy; replace HO_3 := ak (hp_); replace HB := ak ((by rw [hw]; exact below_set (HB.out) qgf.out : Below w.heap.size w w13)); clear yp; clear hg hw hp_))
        go_roundg k1
        case measure => have := HK1.out; omega
        case rel => exact ⟨(qo8), (wrap64 (qV + 1)), (by first | rfl | (simp; done) | (simp [*]; done)), H', ⟨by have := HK1.out; omega⟩, ⟨sw HO_3.out⟩, ⟨bw HB.out⟩⟩
       ·rw [if_neg c9] at H
        exact absurd H (by simp)
      ·rw [if_neg c7] at H
       exact absurd H (by simp)
     ·rw [if_neg c6] at H
      have c6b0 : decide (qV < (l0.length : Int)) = false := decide_eq_false c6
      clear c6
      obtain rfl := Option.some.inj H
      go_wp2
      go_ret
      exact ⟨_, by first | rfl | (simp [errW_none, errW_some] <;> rfl) | (simp [*, errW_none, errW_some] <;> rfl), sw HO_3.out, bw HB.out⟩
  ·rw [if_neg c3] at H
   exact absurd H (by simp)
 ·rw [if_neg c2] at H
  exact absurd H (by simp)


/-! ### yL: function 41 -/
def yL.f (k : Nat) (qd : List (List Int)) : Option ((List (List Int))) := (zg.f k qd).bind fun qK => (some qK)
set_option maxHeartbeats 8000000 in
set_option maxRecDepth 100000 in
theorem yL.calls (k : Nat) (qq : Option Addr) (qp : Nat) (qd : List (List Int)) (r : List (List Int)) (w : World) (jd : Kd.C (Kd.slice 5 (Kd.int .u8)) w qq qd.length qd) (jg : qd.length ≤ qp) (h : yL.f k qd = some r) :
  Calls Try.prog 41 #[.agg #[.slice qq qd.length qp]] w fun e w' => ∃ v0_ : Value, e = .returned (.agg #[v0_]) ∧ Kd.S (Kd.slice 5 (Kd.int .u8)) 25 w' w.heap.size (fun _ => True) v0_ r ∧ Below w.heap.size w w' := by
 have qlv := Try.underlying24
 have Ys := Try.underlying31
 have qW := ak jd
 have jb := ak jg
 clear jd jg
 have HB := ak (Below.refl w.heap.size w)
 have H : ((zg.f k qd).bind fun qK => (some qK)) = some r := h
 clear h
 replace H := Option.bind_eq_some_iff.mp H
 obtain ⟨qK, A20, H⟩ := H
 replace H : (some qK) = some r := H
 have A2 := ak A20
 clear A20
 obtain rfl := Option.some.inj H
 go_enter Try.func41, Try.ntmps41
 go_wp2_with (first | ((with_reducible refine gate_dst (N := 1) rfl ?_); refine boxed (N := 1) rfl rfl (cs := #[.slice qq qd.length qp]) (t := 24) HB.out (by first | (go_simp; done) | (go_simp; rfl)) ?_; clear HB; intro qi w3 hg HB qc qm hb; have jD := qm; clear hb hg) | ((with_reducible refine gate_dst (N := 2) rfl ?_); refine box_event ?hg (N := 2) ?hd (cs := #[.slice none 0 0]) (t := 31) ?hr ?_; (case hd => rfl); (case hg => rfl); (case hr => first | (go_simp; done) | (go_simp; rfl)); intro qg hg w4 hbox hb; have qf := ak (hbox); have QS := ak ((by rw [hg]; exact (below_size (by repeat (first | exact bw HB.out | refine below_set ?_ qm.out))) : w.heap.size ≤ qg)); have ji := ak ((by rw [hg]; exact (below_size (by repeat (first | exact bw HB.out | refine below_set ?_ qm.out))) : w.heap.size ≤ qg)); replace HB := ak (below_step (by repeat (first | exact bw HB.out | refine below_set ?_ qm.out)) hb); have qO := ak ((by rw [hg]; exact Nat.ne_of_lt (blk_lt (bk qc.out)) : qi ≠ qg)); have qN := ak ((by rw [hg]; exact Nat.ne_of_gt (blk_lt (bk qc.out)) : qg ≠ qi)); replace qc := ak (blk_below (bk qc.out) hb); clear hb hbox hg) | ((with_reducible refine gate_dst (N := 3) rfl ?_); refine box_event ?hg (N := 3) ?hd (cs := #[.slice none 0 0]) (t := 31) ?hr ?_; (case hd => rfl); (case hg => rfl); (case hr => first | (go_simp; done) | (go_simp; rfl)); intro zW hg w5 hbox hb; have yC := ak (hbox); have qpZ := ak ((by rw [hg]; exact (below_size (by repeat (first | exact bw HB.out | refine below_set ?_ qm.out | refine below_set ?_ ji.out))) : w.heap.size ≤ zW)); have ZB := ak ((by rw [hg]; exact (below_size (by repeat (first | exact bw HB.out | refine below_set ?_ qm.out | refine below_set ?_ ji.out))) : w.heap.size ≤ zW)); replace HB := ak (below_step (by repeat (first | exact bw HB.out | refine below_set ?_ qm.out | refine below_set ?_ ji.out)) hb); have ZE := ak ((by rw [hg]; exact Nat.ne_of_lt (blk_lt (bk qc.out)) : qi ≠ zW)); have qdh := ak ((by rw [hg]; exact Nat.ne_of_gt (blk_lt (bk qc.out)) : zW ≠ qi)); replace qc := ak (blk_below (bk qc.out) hb); have Jv := ak ((by rw [hg]; exact Nat.ne_of_lt (blk_lt (bk qf.out)) : qg ≠ zW)); have qdg := ak ((by rw [hg]; exact Nat.ne_of_gt (blk_lt (bk qf.out)) : zW ≠ qg)); replace qf := ak (blk_below (bk qf.out) hb); clear hb hbox hg; have qt2 := qO.out; have qt1 := qN.out; have qou := ZE.out; have qos := qdh.out; obtain ⟨qam, qal⟩ := cells1 qc.out) | ((with_reducible refine gate_callee (f := 107) rfl ?_); refine goesL_ (some 6) rfl rfl Try.func107 (by kernel_rfl) rfl #[.slice qq qd.length qp] rfl (by first | rfl | (simp only [List.map_toArray, List.map_cons, List.map_nil]; first | done | rfl)) ?_; (with_reducible refine (zg.calls k _ _ qd qK _ ?qk ?qj A2.out).mono ?_); (case qk => exact cw qW.out HB.out); (case qj => exact jb.out); rintro e w9 ⟨qh2, rfl, ho0, hb⟩; refine ⟨_, rfl, ?_⟩; have Qf := ak (Kd.S_lower ho0 (below_size (by repeat (first | exact bw HB.out | refine below_set ?_ qm.out | refine below_set ?_ ji.out | refine below_set ?_ ZB.out)))); replace qc := ak (blk_below (bk qc.out) hb); replace qf := ak (blk_below (bk qf.out) hb); replace yC := ak (blk_below (bk yC.out) hb); replace HB := ak (below_step (by repeat (first | exact bw HB.out | refine below_set ?_ qm.out | refine below_set ?_ ji.out | refine below_set ?_ ZB.out)) hb); (try clear hb); (try clear ho0); obtain ⟨qpD, qgb, qh6⟩ := Kd.S_slice Qf.out; subst qh6; have qEk := qdg.out; have qDS := Jv.out; obtain ⟨qcX, qcC⟩ := cells1 yC.out; obtain ⟨QN, QM⟩ := cells1 qf.out))
 refine bodyPost_ret (results_cell_row rfl _ _ qg 31 #[.slice qpD qK.length qgb] (0, 0) _ rfl (by (with_reducible repeat (first | refine blk_drewN ?_ _ | refine blk_drew ?_ | refine blk_alloc ?_ _)); refine blk_put (cs := #[.slice none 0 0]) ?_ 0 _ rfl; (with_reducible repeat (first | refine blk_drewN ?_ _ | refine blk_drew ?_ | refine blk_alloc ?_ _)); refine blk_far ?_ Jv.out _; (with_reducible repeat (first | refine blk_drewN ?_ _ | refine blk_drew ?_ | refine blk_alloc ?_ _)); exact qf.out) Try.underlying31 rfl (by kernel_rfl)) rfl ?_
 exact ⟨_, by first | rfl | (simp [errW_none, errW_some] <;> rfl) | (simp [*, errW_none, errW_some] <;> rfl), by (with_reducible repeat (first | apply Kd.S_alloc | apply Kd.S_drewN | apply Kd.S_drew)); exact Kd.S_mono (Kd.S_far (p := ⟨qg, 0, none⟩) (Kd.S_far (p := ⟨zW, 0, none⟩) (Kd.S_types (Kd.S_types Qf.out yC.out (by decide)) qf.out (by decide)) (fun _ hk => hk.1.2) (.slice qpD qK.length qgb)) (fun _ hk => hk.2) (.slice qpD qK.length qgb)) (fun _ hk => trivial), by repeat (first | exact bw HB.out | refine below_set ?_ qm.out | refine below_set ?_ ji.out | refine below_set ?_ ZB.out)⟩


/-! ### zA: function 62 -/
def zA.l0 : Nat → List Int → List Int → Int → Option (List Int)
 | 0, _, _, _ => none
 | k + 1, x0, x3, x4 => if x4 < (x0.length : Int) then (if 0 ≤ x4 then (if x4 < (x3.length : Int) then (zA.l0 k x0 (x3.set (x4 : Int).toNat (rd x0 x4)) (wrap64 (x4 + 1))) else (none)) else (none)) else (some x3)
def zA.f (k : Nat) (l0 : List Int) : Option (List Int) := if 0 ≤ (l0.length : Int) then (if ((l0.length : Int) : Int).toNat ≤ 35184372088832 then (zA.l0 k l0 (List.replicate ((l0.length : Int) : Int).toNat 0) 0) else (none)) else (none)
set_option maxHeartbeats 8000000 in
set_option maxRecDepth 100000 in
theorem zA.calls (k : Nat) (A0 : Option Addr) (c0 : Nat) (l0 : List Int) (r : List Int) (w : World) (hr0 : Kd.C (Kd.int .i64) w A0 l0.length l0) (hc0 : l0.length ≤ c0) (h : zA.f k l0 = some r) :
  Calls Try.prog 62 #[.slice A0 l0.length c0] w fun e w' => ∃ v0_ : Value, e = .returned (v0_) ∧ Kd.R (Kd.int .i64) 3 w' w.heap.size (fun _ => True) v0_ r ∧ Below w.heap.size w w' := by
 have HR0 := ak hr0
 have HC0 := ak hc0
 clear hr0 hc0
 have HB := ak (Below.refl w.heap.size w)
 have H : (if 0 ≤ (l0.length : Int) then (if ((l0.length : Int) : Int).toNat ≤ 35184372088832 then (zA.l0 k l0 (List.replicate ((l0.length : Int) : Int).toNat 0) 0) else (none)) else (none)) = some r := h
 clear h
 by_cases c2 : 0 ≤ (l0.length : Int)
 ·rw [if_pos c2] at H
  have c2b0 := eq_true c2
  have c2b1 : decide (0 ≤ (l0.length : Int)) = true := decide_eq_true c2
  clear c2
  by_cases c3 : ((l0.length : Int) : Int).toNat ≤ 35184372088832
  ·rw [if_pos c3] at H
   have c3b0 := eq_true c3
   have c3b1 : decide (((l0.length : Int) : Int).toNat ≤ 35184372088832) = true := decide_eq_true c3
   clear c3
   obtain ⟨ZH, yQ⟩ : ∃ y_ : List Int, y_ = (List.replicate ((l0.length : Int) : Int).toNat 0) := ⟨_, rfl⟩
   replace H : (zA.l0 k l0 ZH 0) = some r := by first | (rw [yQ]; with_reducible exact H) | (have H2_ := (Option.bind_some _ _).symm.trans H; rw [yQ]; with_reducible exact H2_) | (have H2_ := (Option.bind_some _ _).symm.trans H; with_reducible exact H2_) | with_reducible exact H | (rw [yQ]; exact H) | exact H
   have Ya := ak yQ
   clear yQ
   have H' := ak H
   clear H
   go_enter Try.func62, Try.ntmps62
   go_wp2_with (first | ((with_reducible refine gate_dst (N := 7) rfl ?_); refine Kd.R_make (Kd.int .i64) _ 3 rfl (N := 7) rfl 26 _ _ rfl (l0.length : Int) rfl rfl Try.underlying26 (.int .i64 0) 8 quY rfl (by decide) (by omega) 0 (ok := fun _ => True) (okp := fun _ => True) rfl (fun _ hk => hk) trivial (of_decide_eq_true (by first | (with_reducible assumption) | assumption)) (Nat.le_trans (Nat.mul_le_mul_right _ (of_decide_eq_true (by first | (with_reducible assumption) | assumption) : (l0.length : Int).toNat ≤ 35184372088832)) (by omega)) (Below.refl _ _) (Nat.le_refl _) ?_; intro qaP w4 ho5 hb hg_ hnew_; clear hg_ hnew_; (first | rw [← Ya.out] at ho5 | (simp only [Int.reduceToNat] at ho5; rw [← Ya.out] at ho5)); have Zu := ak (Kd.R_lower ho5 (below_size (bw HB.out))); replace HB := ak (below_step (bw HB.out) hb); clear hb ho5))
   go_loopg [4] k (fun kq v4 w' => ∃ (jE : List Int) (qV : Int), v4 = .int .i64 qV ∧ Aside0 (zA.l0 kq l0 jE qV = some r) ∧ Aside0 (kq ≤ k) ∧ Aside0 (Kd.R (Kd.int .i64) 3 w' w.heap.size (fun _ => True) qaP jE) ∧ Aside0 (Below w.heap.size w w'))
   case atStart => exact ⟨(ZH), (0), (by first | rfl | (simp; done) | (simp [*]; done)), H', ⟨Nat.le_refl _⟩, ⟨rw_ Zu.out⟩, ⟨bw HB.out⟩⟩
   case round =>
    clear H'
    try clear c2
    try clear c2b0
    try clear c2b1
    try clear p2
    try clear c3
    try clear c3b0
    try clear c3b1
    obtain ⟨jE, qV, rfl, HA, HK1, HO_3, HB⟩ := hrel
    cases gk with
    | zero => exact absurd HA.out (by simp [zA.l0])
    | succ k1 =>
     have H := HA.out
     clear HA
     simp only [zA.l0] at H
     by_cases c6 : qV < (l0.length : Int)
     ·rw [if_pos c6] at H
      have c6b0 : decide (qV < (l0.length : Int)) = true := decide_eq_true c6
      clear c6
      by_cases c7 : 0 ≤ qV
      ·rw [if_pos c7] at H
       have c7b0 : decide (0 ≤ qV) = true := decide_eq_true c7
       clear c7
       by_cases c8 : qV < (jE.length : Int)
       ·rw [if_pos c8] at H
        have c8b0 : decide (qV < (jE.length : Int)) = true := decide_eq_true c8
        clear c8
        obtain ⟨qh1, qb1⟩ : ∃ y_ : List Int, y_ = (jE.set (qV : Int).toNat (rd l0 qV)) := ⟨_, rfl⟩
        replace H : (zA.l0 k1 l0 qh1 (wrap64 (qV + 1))) = some r := by first | (rw [qb1]; with_reducible exact H) | (have H2_ := (Option.bind_some _ _).symm.trans H; rw [qb1]; with_reducible exact H2_) | (have H2_ := (Option.bind_some _ _).symm.trans H; with_reducible exact H2_) | with_reducible exact H | (rw [qb1]; exact H) | exact H
        have qoD := ak qb1
        clear qb1
        have H' := ak H
        clear H
        have yt : 0 ≤ (qV : Int) := of_decide_eq_true (by first | (with_reducible assumption) | assumption)
        have yr : qV < (l0.length : Int) := of_decide_eq_true (by first | (with_reducible assumption) | assumption)
        obtain ⟨zp, Yt, zC⟩ := Kd.at_int HR0.out qV yt yr
        cases Yt
        replace zC := hc_ HB.out zC
        replace yt := eq_true yt
        replace yr := eq_true yr
        have p9 : 0 ≤ (qV : Int) := of_decide_eq_true (by first | (with_reducible assumption) | assumption)
        have q9 : (qV : Int) < ((jE.length : Int) : Int) := of_decide_eq_true (by first | (with_reducible assumption) | assumption)
        obtain ⟨go9, co9, eo9, gb9, gl9, cl9, HG9⟩ := Kd.R_form HO_3.out (by omega)
        (first | cases eo9 | (injection eo9 with ea_ en_ ec_; (first | subst ea_ | (injection ea_ with ea_; subst ea_)); subst ec_; clear en_))
        have GB9 := ak gb9
        have GG9 := ak HG9
        clear gb9 gl9 HG9
        obtain ⟨quZ, qvh⟩ := Kd.R_celln 0 HO_3.out (qV : Int) p9 q9
        replace p9 := eq_true p9
        replace q9 := eq_true q9
        have qh9 := Kd.R_putg HO_3.out (qV : Int) (rd l0 qV)
        go_wp2_with (first | ((with_reducible refine gate_store (t := 3) (p := 20) rfl ?_); refine store_event (t := 3) (p := 20) (v := ?vo_w11) (w1 := (wr.setCell ⟨go9, (qV : Int).toNat, none⟩ (.int .i64 (rd l0 qV)))) ?hg ?ho ?hn ?hr ?_; (case ho => rfl); (case hg => rfl); (case hn => rfl); (case hr => first | (go_simp; done) | (go_simp; rfl)); intro w11 hw; have hg : wr.grownBy w11 (some go9) := (by rw [hw]; exact qh9.2); have hp_ : Kd.R (Kd.int .i64) 3 w11 w.heap.size (fun _ => True) (.slice (some ⟨go9, 0, none⟩) jE.length co9) qh1 := (by rw [hw, qoD.out]; exact qh9.1); clear qh9; replace HO_3 := ak (hp_); replace HB := ak ((by rw [hw]; exact below_set (HB.out) GB9.out : Below w.heap.size w w11)); clear hg hw hp_))
        go_roundg k1
        case measure => have := HK1.out; omega
        case rel => exact ⟨(qh1), (wrap64 (qV + 1)), (by first | rfl | (simp; done) | (simp [*]; done)), H', ⟨by have := HK1.out; omega⟩, ⟨rw_ HO_3.out⟩, ⟨bw HB.out⟩⟩
       ·rw [if_neg c8] at H
        exact absurd H (by simp)
      ·rw [if_neg c7] at H
       exact absurd H (by simp)
     ·rw [if_neg c6] at H
      have c6b0 : decide (qV < (l0.length : Int)) = false := decide_eq_false c6
      clear c6
      obtain rfl := Option.some.inj H
      go_wp2
      go_ret
      exact ⟨_, by first | rfl | (simp [errW_none, errW_some] <;> rfl) | (simp [*, errW_none, errW_some] <;> rfl), rw_ HO_3.out, bw HB.out⟩
  ·rw [if_neg c3] at H
   exact absurd H (by simp)
 ·rw [if_neg c2] at H
  exact absurd H (by simp)


/-! ### XF: function 15 -/
def XF.f (k : Nat) (qd : List (List Int)) (qu : Int) (qH : Int) (qF : Int) (qA : List (List Int)) (qt : List Int) (qo : List Int) : Option ((List (List Int)) × Int × Int × Int × (List (List Int)) × List Int × List Int) := (yL.f k qd).bind fun qK => ((yL.f k qA).bind fun zN => ((jV.f k qt).bind fun jS => ((zA.f k qo).bind fun yV => (some (qK, qu, qH, qF, zN, jS, yV)))))
set_option maxHeartbeats 8000000 in
set_option maxRecDepth 100000 in
theorem XF.calls (k : Nat) (qq : Option Addr) (qp : Nat) (qd : List (List Int)) (qu : Int) (qH : Int) (qF : Int) (jC : Option Addr) (jB : Nat) (qA : List (List Int)) (jK : Option Addr) (jJ : Nat) (qt : List Int) (jM : Option Addr) (jL : Nat) (qo : List Int) (r1 : List (List Int)) (r2 : Int) (r3 : Int) (r4 : Int) (r5 : List (List Int)) (r6 : List Int) (r7 : List Int) (w : World) (jd : Kd.C (Kd.slice 5 (Kd.int .u8)) w qq qd.length qd) (jg : qd.length ≤ qp) (QF : Kd.C (Kd.slice 5 (Kd.int .u8)) w jC qA.length qA) (QI : qA.length ≤ jB) (QE : Kd.C (Kd.int .u8) w jK qt.length qt) (QH : qt.length ≤ jJ) (QD : Kd.C (Kd.int .i64) w jM qo.length qo) (QG : qo.length ≤ jL) (h : XF.f k qd qu qH qF qA qt qo = some (r1, r2, r3, r4, r5, r6, r7)) :
  Calls Try.prog 15 #[.agg #[.slice qq qd.length qp, .int .i64 qu, .int .i64 qH, .int .i64 qF, .slice jC qA.length jB, .slice jK qt.length jJ, .slice jM qo.length jL]] w fun e w' => ∃ v0_ v4_ v5_ v6_ : Value, e = .returned (.agg #[v0_, .int .i64 r2, .int .i64 r3, .int .i64 r4, v4_, v5_, v6_]) ∧ Kd.S (Kd.slice 5 (Kd.int .u8)) 25 w' w.heap.size (fun k_ => some k_ ≠ (v4_ : Value).ownBlock ∧ some k_ ≠ (v5_ : Value).ownBlock) v0_ r1 ∧ Kd.S (Kd.slice 5 (Kd.int .u8)) 25 w' w.heap.size (fun k_ => some k_ ≠ (v0_ : Value).ownBlock ∧ some k_ ≠ (v5_ : Value).ownBlock) v4_ r5 ∧ Kd.R (Kd.int .u8) 5 w' w.heap.size (fun _ => True) v5_ r6 ∧ Kd.R (Kd.int .i64) 3 w' w.heap.size (fun _ => True) v6_ r7 ∧ Below w.heap.size w w' := by
 have qpj := Try.underlying28
 have qak := Try.underlying33
 have qlv := Try.underlying24
 have Ys := Try.underlying31
 have qW := ak jd
 have jb := ak jg
 clear jd jg
 have Jo := ak QF
 have Jp := ak QI
 clear QF QI
 have ZF := ak QE
 have Yp := ak QH
 clear QE QH
 have Qd := ak QD
 have YP := ak QG
 clear QD QG
 have HB := ak (Below.refl w.heap.size w)
 have H : ((yL.f k qd).bind fun qK => ((yL.f k qA).bind fun zN => ((jV.f k qt).bind fun jS => ((zA.f k qo).bind fun yV => (some (qK, qu, qH, qF, zN, jS, yV)))))) = some (r1, r2, r3, r4, r5, r6, r7) := h
 clear h
 replace H := Option.bind_eq_some_iff.mp H
 obtain ⟨qK, A20, H⟩ := H
 replace H : ((yL.f k qA).bind fun zN => ((jV.f k qt).bind fun jS => ((zA.f k qo).bind fun yV => (some (qK, qu, qH, qF, zN, jS, yV))))) = some (r1, r2, r3, r4, r5, r6, r7) := H
 have A2 := ak A20
 clear A20
 replace H := Option.bind_eq_some_iff.mp H
 obtain ⟨zN, A30, H⟩ := H
 replace H : ((jV.f k qt).bind fun jS => ((zA.f k qo).bind fun yV => (some (qK, qu, qH, qF, zN, jS, yV)))) = some (r1, r2, r3, r4, r5, r6, r7) := H
 have A3 := ak A30
 clear A30
 replace H := Option.bind_eq_some_iff.mp H
 obtain ⟨jS, A40, H⟩ := H
 replace H : ((zA.f k qo).bind fun yV => (some (qK, qu, qH, qF, zN, jS, yV))) = some (r1, r2, r3, r4, r5, r6, r7) := H
 have A4 := ak A40
 clear A40
 replace H := Option.bind_eq_some_iff.mp H
 obtain ⟨yV, A50, H⟩ := H
 replace H : (some (qK, qu, qH, qF, zN, jS, yV)) = some (r1, r2, r3, r4, r5, r6, r7) := H
 have A5 := ak A50
 clear A50
 simp only [Option.some.injEq, Prod.mk.injEq] at H
 obtain ⟨rfl, rfl, rfl, rfl, rfl, rfl, rfl⟩ := H
 go_enter Try.func15, Try.ntmps15
 go_wp2_with (first | ((with_reducible refine gate_dst (N := 1) rfl ?_); refine boxed (N := 1) rfl rfl (cs := #[.slice qq qd.length qp, .int .i64 qu, .int .i64 qH, .int .i64 qF, .slice jC qA.length jB, .slice jK qt.length jJ, .slice jM qo.length jL]) (t := 28) HB.out (by first | (go_simp; done) | (go_simp; rfl)) ?_; clear HB; intro qi w6 hg HB qc qm hb; have jD := qm; clear hb hg) | ((with_reducible refine gate_dst (N := 2) rfl ?_); refine box_event ?hg (N := 2) ?hd (cs := #[.slice none 0 0, .int .i64 0, .int .i64 0, .int .i64 0, .slice none 0 0, .slice none 0 0, .slice none 0 0]) (t := 33) ?hr ?_; (case hd => rfl); (case hg => rfl); (case hr => first | (go_simp; done) | (go_simp; rfl)); intro qg hg w7 hbox hb; have qf := ak (hbox); have QS := ak ((by rw [hg]; exact (below_size (by repeat (first | exact bw HB.out | refine below_set ?_ qm.out))) : w.heap.size ≤ qg)); have ji := ak ((by rw [hg]; exact (below_size (by repeat (first | exact bw HB.out | refine below_set ?_ qm.out))) : w.heap.size ≤ qg)); replace HB := ak (below_step (by repeat (first | exact bw HB.out | refine below_set ?_ qm.out)) hb); have qO := ak ((by rw [hg]; exact Nat.ne_of_lt (blk_lt (bk qc.out)) : qi ≠ qg)); have qN := ak ((by rw [hg]; exact Nat.ne_of_gt (blk_lt (bk qc.out)) : qg ≠ qi)); replace qc := ak (blk_below (bk qc.out) hb); clear hb hbox hg) | ((with_reducible refine gate_dst (N := 3) rfl ?_); refine box_event ?hg (N := 3) ?hd (cs := #[.slice none 0 0, .int .i64 0, .int .i64 0, .int .i64 0, .slice none 0 0, .slice none 0 0, .slice none 0 0]) (t := 33) ?hr ?_; (case hd => rfl); (case hg => rfl); (case hr => first | (go_simp; done) | (go_simp; rfl)); intro zW hg w8 hbox hb; have yC := ak (hbox); have qpZ := ak ((by rw [hg]; exact (below_size (by repeat (first | exact bw HB.out | refine below_set ?_ qm.out | refine below_set ?_ ji.out))) : w.heap.size ≤ zW)); have ZB := ak ((by rw [hg]; exact (below_size (by repeat (first | exact bw HB.out | refine below_set ?_ qm.out | refine below_set ?_ ji.out))) : w.heap.size ≤ zW)); replace HB := ak (below_step (by repeat (first | exact bw HB.out | refine below_set ?_ qm.out | refine below_set ?_ ji.out)) hb); have ZE := ak ((by rw [hg]; exact Nat.ne_of_lt (blk_lt (bk qc.out)) : qi ≠ zW)); have qdh := ak ((by rw [hg]; exact Nat.ne_of_gt (blk_lt (bk qc.out)) : zW ≠ qi)); replace qc := ak (blk_below (bk qc.out) hb); have Jv := ak ((by rw [hg]; exact Nat.ne_of_lt (blk_lt (bk qf.out)) : qg ≠ zW)); have qdg := ak ((by rw [hg]; exact Nat.ne_of_gt (blk_lt (bk qf.out)) : zW ≠ qg)); replace qf := ak (blk_below (bk qf.out) hb); clear hb hbox hg; have qvM := qO.out; have qvK := qN.out; have qpP := ZE.out; have qpM := qdh.out; obtain ⟨JZ, Yl, qbS, qbR, qbQ, qbP, qbO, JY, Yk, qbA, qbz, qby, qbx, qbw⟩ := cells7 qc.out) | ((with_reducible refine gate_callee (f := 41) rfl ?_); refine goesL_ (some 6) rfl rfl Try.func41 (by kernel_rfl) rfl #[.agg #[.slice qq qd.length qp]] rfl (by first | rfl | (simp only [List.map_toArray, List.map_cons, List.map_nil]; first | done | rfl)) ?_; (with_reducible refine (yL.calls k _ _ qd qK _ ?qk ?qj A2.out).mono ?_); (case qk => exact cw qW.out HB.out); (case qj => exact jb.out); rintro e w12 ⟨qh2, rfl, ho0, hb⟩; refine ⟨_, rfl, ?_⟩; have Qf := ak (Kd.S_lower ho0 (below_size (by repeat (first | exact bw HB.out | refine below_set ?_ qm.out | refine below_set ?_ ji.out | refine below_set ?_ ZB.out)))); replace qc := ak (blk_below (bk qc.out) hb); replace qf := ak (blk_below (bk qf.out) hb); replace yC := ak (blk_below (bk yC.out) hb); replace HB := ak (below_step (by repeat (first | exact bw HB.out | refine below_set ?_ qm.out | refine below_set ?_ ji.out | refine below_set ?_ ZB.out)) hb); (try clear hb); (try clear ho0); obtain ⟨Xk, Xj, qv2⟩ := Kd.S_slice Qf.out; subst qv2; have qEi := qdg.out; have qDQ := Jv.out; obtain ⟨qcR, qcQ, qkL, qkK, qkJ, qkI, qkH, qcw, qcv, qjS, qjR, qjQ, qjP, qjO⟩ := cells7 yC.out; obtain ⟨YV, Xw, qbN, qbM, qbL, qbK, qbJ, YS, Xq, qbv, qbu, qbt, qbs, qbr⟩ := cells7 qc.out) | ((with_reducible refine gate_callee (f := 41) rfl ?_); refine goesL_ (some 19) rfl rfl Try.func41 (by kernel_rfl) rfl #[.agg #[.slice jC qA.length jB]] rfl (by first | rfl | (simp only [List.map_toArray, List.map_cons, List.map_nil]; first | done | rfl)) ?_; (with_reducible refine (yL.calls k _ _ qA zN _ ?qk ?qj A3.out).mono ?_); (case qk => exact Kd.C_below Jo.out (by repeat (first | exact bw HB.out | refine below_set ?_ qm.out | refine below_set ?_ ji.out | refine below_set ?_ ZB.out))); (case qj => exact Jp.out); rintro e w17 ⟨qpc, rfl, ho0, hb⟩; refine ⟨_, rfl, ?_⟩; have Xd := ak (Kd.S_lower (Kd.S_new' ho0 (Kd.S_lt (by (with_reducible repeat (first | apply Kd.S_alloc | apply Kd.S_drewN | apply Kd.S_drew)); exact (Kd.S_mono (Kd.S_far (p := ⟨zW, 3, none⟩) (Kd.S_far (p := ⟨zW, 2, none⟩) (Kd.S_far (p := ⟨zW, 1, none⟩) (Kd.S_far (p := ⟨zW, 0, none⟩) (Kd.S_types Qf.out yC.out (by decide)) (fun _ hk => hk.2) (.slice Xk qK.length Xj)) (fun _ hk => hk.2) (.int .i64 qu)) (fun _ hk => hk.2) (.int .i64 qH)) (fun _ hk => hk.2) (.int .i64 qF)) (fun _ h_ => h_.1))))) (below_size (by repeat (first | exact bw HB.out | refine below_set ?_ qm.out | refine below_set ?_ ji.out | refine below_set ?_ ZB.out)))); replace Qf := ak (Kd.S_elder' (by (with_reducible repeat (first | apply Kd.S_alloc | apply Kd.S_drewN | apply Kd.S_drew)); exact (Kd.S_mono (Kd.S_far (p := ⟨zW, 3, none⟩) (Kd.S_far (p := ⟨zW, 2, none⟩) (Kd.S_far (p := ⟨zW, 1, none⟩) (Kd.S_far (p := ⟨zW, 0, none⟩) (Kd.S_types Qf.out yC.out (by decide)) (fun _ hk => hk.2) (.slice Xk qK.length Xj)) (fun _ hk => hk.2) (.int .i64 qu)) (fun _ hk => hk.2) (.int .i64 qH)) (fun _ hk => hk.2) (.int .i64 qF)) (fun _ h_ => h_.1))) (Kd.S_base ho0) hb); replace qc := ak (blk_below (g := qi) (o := .cells #[.slice qq qd.length qp, .int .i64 qu, .int .i64 qH, .int .i64 qF, .slice jC qA.length jB, .slice jK qt.length jJ, .slice jM qo.length jL] 28 (0, 0)) (by (with_reducible repeat (first | refine blk_drewN ?_ _ | refine blk_drew ?_ | refine blk_alloc ?_ _)); refine blk_far ?_ ZE.out _; (with_reducible repeat (first | refine blk_drewN ?_ _ | refine blk_drew ?_ | refine blk_alloc ?_ _)); refine blk_far ?_ ZE.out _; (with_reducible repeat (first | refine blk_drewN ?_ _ | refine blk_drew ?_ | refine blk_alloc ?_ _)); refine blk_far ?_ ZE.out _; (with_reducible repeat (first | refine blk_drewN ?_ _ | refine blk_drew ?_ | refine blk_alloc ?_ _)); refine blk_far ?_ ZE.out _; (with_reducible repeat (first | refine blk_drewN ?_ _ | refine blk_drew ?_ | refine blk_alloc ?_ _)); exact qc.out) hb); replace qf := ak (blk_below (g := qg) (o := .cells #[.slice none 0 0, .int .i64 0, .int .i64 0, .int .i64 0, .slice none 0 0, .slice none 0 0, .slice none 0 0] 33 (0, 0)) (by (with_reducible repeat (first | refine blk_drewN ?_ _ | refine blk_drew ?_ | refine blk_alloc ?_ _)); refine blk_far ?_ Jv.out _; (with_reducible repeat (first | refine blk_drewN ?_ _ | refine blk_drew ?_ | refine blk_alloc ?_ _)); refine blk_far ?_ Jv.out _; (with_reducible repeat (first | refine blk_drewN ?_ _ | refine blk_drew ?_ | refine blk_alloc ?_ _)); refine blk_far ?_ Jv.out _; (with_reducible repeat (first | refine blk_drewN ?_ _ | refine blk_drew ?_ | refine blk_alloc ?_ _)); refine blk_far ?_ Jv.out _; (with_reducible repeat (first | refine blk_drewN ?_ _ | refine blk_drew ?_ | refine blk_alloc ?_ _)); exact qf.out) hb); replace yC := ak (blk_below (g := zW) (o := .cells #[.slice Xk qK.length Xj, .int .i64 qu, .int .i64 qH, .int .i64 qF, .slice none 0 0, .slice none 0 0, .slice none 0 0] 33 (0, 0)) (by (with_reducible repeat (first | refine blk_drewN ?_ _ | refine blk_drew ?_ | refine blk_alloc ?_ _)); refine blk_put (cs := #[.slice Xk qK.length Xj, .int .i64 qu, .int .i64 qH, .int .i64 0, .slice none 0 0, .slice none 0 0, .slice none 0 0]) ?_ 3 _ rfl; (with_reducible repeat (first | refine blk_drewN ?_ _ | refine blk_drew ?_ | refine blk_alloc ?_ _)); refine blk_put (cs := #[.slice Xk qK.length Xj, .int .i64 qu, .int .i64 0, .int .i64 0, .slice none 0 0, .slice none 0 0, .slice none 0 0]) ?_ 2 _ rfl; (with_reducible repeat (first | refine blk_drewN ?_ _ | refine blk_drew ?_ | refine blk_alloc ?_ _)); refine blk_put (cs := #[.slice Xk qK.length Xj, .int .i64 0, .int .i64 0, .int .i64 0, .slice none 0 0, .slice none 0 0, .slice none 0 0]) ?_ 1 _ rfl; (with_reducible repeat (first | refine blk_drewN ?_ _ | refine blk_drew ?_ | refine blk_alloc ?_ _)); refine blk_put (cs := #[.slice none 0 0, .int .i64 0, .int .i64 0, .int .i64 0, .slice none 0 0, .slice none 0 0, .slice none 0 0]) ?_ 0 _ rfl; (with_reducible repeat (first | refine blk_drewN ?_ _ | refine blk_drew ?_ | refine blk_alloc ?_ _)); exact yC.out) hb); replace HB := ak (below_step (by repeat (first | exact bw HB.out | refine below_set ?_ qm.out | refine below_set ?_ ji.out | refine below_set ?_ ZB.out)) hb); (try clear hb); (try clear ho0); obtain ⟨qdl, qdk, qv1⟩ := Kd.S_slice Xd.out; subst qv1; obtain ⟨qht, qoh, qtx, qtw, qtv, qtu, qtt, qha, qnp, qrS, qrR, qrQ, qrP, qrO⟩ := cells7 yC.out; obtain ⟨qaI, qcK, qd0, qdZ, qdY, qdX, qdW, qaG, qcp, qdK, qdJ, qdI, qdH, qdG⟩ := cells7 qc.out) | ((with_reducible refine gate_callee (f := 26) rfl ?_); refine goesL_ (some 23) rfl rfl Try.func26 (by kernel_rfl) rfl #[.slice jK qt.length jJ] rfl (by first | rfl | (simp only [List.map_toArray, List.map_cons, List.map_nil]; first | done | rfl)) ?_; (with_reducible refine (jV.calls k _ _ qt jS _ ?qk ?qj A4.out).mono ?_); (case qk => exact Kd.C_below ZF.out (by repeat (first | exact bw HB.out | refine below_set ?_ qm.out | refine below_set ?_ ji.out | refine below_set ?_ ZB.out))); (case qj => exact Yp.out); rintro e w21 ⟨qpa, rfl, ho0, hb⟩; refine ⟨_, rfl, ?_⟩; replace Qf := ak (Kd.S_elder' (by (with_reducible repeat (first | apply Kd.S_alloc | apply Kd.S_drewN | apply Kd.S_drew)); exact (Kd.S_mono (Kd.S_far (p := ⟨zW, 4, none⟩) (Kd.S_types Qf.out yC.out (by decide)) (fun _ hk => hk.2) (.slice qdl zN.length qdk)) (fun _ h_ => h_.1))) (Kd.R_base ho0) hb); replace Xd := ak (Kd.S_elder' (by (with_reducible repeat (first | apply Kd.S_alloc | apply Kd.S_drewN | apply Kd.S_drew)); exact (Kd.S_mono (Kd.S_far (p := ⟨zW, 4, none⟩) (Kd.S_types Xd.out yC.out (by decide)) (fun _ hk => hk.2) (.slice qdl zN.length qdk)) (fun _ h_ => h_.1))) (Kd.R_base ho0) hb); have Qe := ak (Kd.R_lower ho0 (below_size (by repeat (first | exact bw HB.out | refine below_set ?_ qm.out | refine below_set ?_ ji.out | refine below_set ?_ ZB.out)))); replace qc := ak (blk_below (g := qi) (o := .cells #[.slice qq qd.length qp, .int .i64 qu, .int .i64 qH, .int .i64 qF, .slice jC qA.length jB, .slice jK qt.length jJ, .slice jM qo.length jL] 28 (0, 0)) (by (with_reducible repeat (first | refine blk_drewN ?_ _ | refine blk_drew ?_ | refine blk_alloc ?_ _)); refine blk_far ?_ ZE.out _; (with_reducible repeat (first | refine blk_drewN ?_ _ | refine blk_drew ?_ | refine blk_alloc ?_ _)); exact qc.out) hb); replace qf := ak (blk_below (g := qg) (o := .cells #[.slice none 0 0, .int .i64 0, .int .i64 0, .int .i64 0, .slice none 0 0, .slice none 0 0, .slice none 0 0] 33 (0, 0)) (by (with_reducible repeat (first | refine blk_drewN ?_ _ | refine blk_drew ?_ | refine blk_alloc ?_ _)); refine blk_far ?_ Jv.out _; (with_reducible repeat (first | refine blk_drewN ?_ _ | refine blk_drew ?_ | refine blk_alloc ?_ _)); exact qf.out) hb); replace yC := ak (blk_below (g := zW) (o := .cells #[.slice Xk qK.length Xj, .int .i64 qu, .int .i64 qH, .int .i64 qF, .slice qdl zN.length qdk, .slice none 0 0, .slice none 0 0] 33 (0, 0)) (by (with_reducible repeat (first | refine blk_drewN ?_ _ | refine blk_drew ?_ | refine blk_alloc ?_ _)); refine blk_put (cs := #[.slice Xk qK.length Xj, .int .i64 qu, .int .i64 qH, .int .i64 qF, .slice none 0 0, .slice none 0 0, .slice none 0 0]) ?_ 4 _ rfl; (with_reducible repeat (first | refine blk_drewN ?_ _ | refine blk_drew ?_ | refine blk_alloc ?_ _)); exact yC.out) hb); replace HB := ak (below_step (by repeat (first | exact bw HB.out | refine below_set ?_ qm.out | refine below_set ?_ ji.out | refine below_set ?_ ZB.out)) hb); (try clear hb); (try clear ho0); obtain ⟨qeF, qeA, qvZ⟩ := Kd.R_slice Qe.out; subst qvZ; obtain ⟨qdV, qhs, qoe, qod, qoc, qob, qoa, qdF, qg9, qnm, qnl, qnk, qnj, qni⟩ := cells7 yC.out; obtain ⟨qfY, qhr, qkF, qkE, qkD, qkC, qkB, qfF, qg8, qjM, qjL, qjK, qjJ, qjI⟩ := cells7 qc.out) | ((with_reducible refine gate_callee (f := 62) rfl ?_); refine goesL_ (some 27) rfl rfl Try.func62 (by kernel_rfl) rfl #[.slice jM qo.length jL] rfl (by first | rfl | (simp only [List.map_toArray, List.map_cons, List.map_nil]; first | done | rfl)) ?_; (with_reducible refine (zA.calls k _ _ qo yV _ ?qk ?qj A5.out).mono ?_); (case qk => exact Kd.C_below Qd.out (by repeat (first | exact bw HB.out | refine below_set ?_ qm.out | refine below_set ?_ ji.out | refine below_set ?_ ZB.out))); (case qj => exact YP.out); rintro e w25 ⟨qo9, rfl, ho0, hb⟩; refine ⟨_, rfl, ?_⟩; replace Qf := ak (Kd.S_below (by (with_reducible repeat (first | apply Kd.S_alloc | apply Kd.S_drewN | apply Kd.S_drew)); exact (Kd.S_mono (Kd.S_far (p := ⟨zW, 5, none⟩) (Kd.S_types Qf.out yC.out (by decide)) (fun _ hk => hk.2) (.slice qeF jS.length qeA)) (fun _ h_ => h_.1))) hb); replace Xd := ak (Kd.S_below (by (with_reducible repeat (first | apply Kd.S_alloc | apply Kd.S_drewN | apply Kd.S_drew)); exact (Kd.S_mono (Kd.S_far (p := ⟨zW, 5, none⟩) (Kd.S_types Xd.out yC.out (by decide)) (fun _ hk => hk.2) (.slice qeF jS.length qeA)) (fun _ h_ => h_.1))) hb); replace Qe := ak (Kd.R_below (by (with_reducible repeat (first | apply Kd.R_alloc | apply Kd.R_drewN | apply Kd.R_drew)); exact (Kd.R_mono (Kd.R_far (p := ⟨zW, 5, none⟩) (Kd.R_types Qe.out yC.out (by decide)) (fun _ hk => hk.2) (.slice qeF jS.length qeA)) (fun _ h_ => h_.1))) hb); have JT := ak (Kd.R_lower ho0 (below_size (by repeat (first | exact bw HB.out | refine below_set ?_ qm.out | refine below_set ?_ ji.out | refine below_set ?_ ZB.out)))); replace qc := ak (blk_below (g := qi) (o := .cells #[.slice qq qd.length qp, .int .i64 qu, .int .i64 qH, .int .i64 qF, .slice jC qA.length jB, .slice jK qt.length jJ, .slice jM qo.length jL] 28 (0, 0)) (by (with_reducible repeat (first | refine blk_drewN ?_ _ | refine blk_drew ?_ | refine blk_alloc ?_ _)); refine blk_far ?_ ZE.out _; (with_reducible repeat (first | refine blk_drewN ?_ _ | refine blk_drew ?_ | refine blk_alloc ?_ _)); exact qc.out) hb); replace qf := ak (blk_below (g := qg) (o := .cells #[.slice none 0 0, .int .i64 0, .int .i64 0, .int .i64 0, .slice none 0 0, .slice none 0 0, .slice none 0 0] 33 (0, 0)) (by (with_reducible repeat (first | refine blk_drewN ?_ _ | refine blk_drew ?_ | refine blk_alloc ?_ _)); refine blk_far ?_ Jv.out _; (with_reducible repeat (first | refine blk_drewN ?_ _ | refine blk_drew ?_ | refine blk_alloc ?_ _)); exact qf.out) hb); replace yC := ak (blk_below (g := zW) (o := .cells #[.slice Xk qK.length Xj, .int .i64 qu, .int .i64 qH, .int .i64 qF, .slice qdl zN.length qdk, .slice qeF jS.length qeA, .slice none 0 0] 33 (0, 0)) (by (with_reducible repeat (first | refine blk_drewN ?_ _ | refine blk_drew ?_ | refine blk_alloc ?_ _)); refine blk_put (cs := #[.slice Xk qK.length Xj, .int .i64 qu, .int .i64 qH, .int .i64 qF, .slice qdl zN.length qdk, .slice none 0 0, .slice none 0 0]) ?_ 5 _ rfl; (with_reducible repeat (first | refine blk_drewN ?_ _ | refine blk_drew ?_ | refine blk_alloc ?_ _)); exact yC.out) hb); replace HB := ak (below_step (by repeat (first | exact bw HB.out | refine below_set ?_ qm.out | refine below_set ?_ ji.out | refine below_set ?_ ZB.out)) hb); (try clear hb); (try clear ho0); obtain ⟨qc6, qc2, qpn⟩ := Kd.R_slice JT.out; subst qpn; obtain ⟨qku, qkt, qn9, qn8, qn7, qn6, qn5, qjB, qjA, qnh, qng, qnf, qne, qnd⟩ := cells7 yC.out; obtain ⟨qhp, qho, qn4, qn3, qn2, qn1, qn0, qg6, qg5, qnc, qnb, qna, qm9, qm8⟩ := cells7 qf.out))
 refine bodyPost_ret (results_cell_row rfl _ _ qg 33 #[.slice Xk qK.length Xj, .int .i64 qu, .int .i64 qH, .int .i64 qF, .slice qdl zN.length qdk, .slice qeF jS.length qeA, .slice qc6 yV.length qc2] (0, 0) _ rfl (by (with_reducible repeat (first | refine blk_drewN ?_ _ | refine blk_drew ?_ | refine blk_alloc ?_ _)); refine blk_put (cs := #[.slice Xk qK.length Xj, .int .i64 qu, .int .i64 qH, .int .i64 qF, .slice qdl zN.length qdk, .slice qeF jS.length qeA, .slice none 0 0]) ?_ 6 _ rfl; (with_reducible repeat (first | refine blk_drewN ?_ _ | refine blk_drew ?_ | refine blk_alloc ?_ _)); refine blk_put (cs := #[.slice Xk qK.length Xj, .int .i64 qu, .int .i64 qH, .int .i64 qF, .slice qdl zN.length qdk, .slice none 0 0, .slice none 0 0]) ?_ 5 _ rfl; (with_reducible repeat (first | refine blk_drewN ?_ _ | refine blk_drew ?_ | refine blk_alloc ?_ _)); refine blk_put (cs := #[.slice Xk qK.length Xj, .int .i64 qu, .int .i64 qH, .int .i64 qF, .slice none 0 0, .slice none 0 0, .slice none 0 0]) ?_ 4 _ rfl; (with_reducible repeat (first | refine blk_drewN ?_ _ | refine blk_drew ?_ | refine blk_alloc ?_ _)); refine blk_put (cs := #[.slice Xk qK.length Xj, .int .i64 qu, .int .i64 qH, .int .i64 0, .slice none 0 0, .slice none 0 0, .slice none 0 0]) ?_ 3 _ rfl; (with_reducible repeat (first | refine blk_drewN ?_ _ | refine blk_drew ?_ | refine blk_alloc ?_ _)); refine blk_put (cs := #[.slice Xk qK.length Xj, .int .i64 qu, .int .i64 0, .int .i64 0, .slice none 0 0, .slice none 0 0, .slice none 0 0]) ?_ 2 _ rfl; (with_reducible repeat (first | refine blk_drewN ?_ _ | refine blk_drew ?_ | refine blk_alloc ?_ _)); refine blk_put (cs := #[.slice Xk qK.length Xj, .int .i64 0, .int .i64 0, .int .i64 0, .slice none 0 0, .slice none 0 0, .slice none 0 0]) ?_ 1 _ rfl; (with_reducible repeat (first | refine blk_drewN ?_ _ | refine blk_drew ?_ | refine blk_alloc ?_ _)); refine blk_put (cs := #[.slice none 0 0, .int .i64 0, .int .i64 0, .int .i64 0, .slice none 0 0, .slice none 0 0, .slice none 0 0]) ?_ 0 _ rfl; (with_reducible repeat (first | refine blk_drewN ?_ _ | refine blk_drew ?_ | refine blk_alloc ?_ _)); refine blk_far ?_ Jv.out _; (with_reducible repeat (first | refine blk_drewN ?_ _ | refine blk_drew ?_ | refine blk_alloc ?_ _)); exact qf.out) Try.underlying33 rfl (by kernel_rfl)) rfl ?_
 exact ⟨_, _, _, _, by first | rfl | (simp [errW_none, errW_some] <;> rfl) | (simp [*, errW_none, errW_some] <;> rfl), by (with_reducible repeat (first | apply Kd.S_alloc | apply Kd.S_drewN | apply Kd.S_drew)); exact Kd.S_mono (Kd.S_far (p := ⟨qg, 6, none⟩) (Kd.S_far (p := ⟨qg, 5, none⟩) (Kd.S_far (p := ⟨qg, 4, none⟩) (Kd.S_far (p := ⟨qg, 3, none⟩) (Kd.S_far (p := ⟨qg, 2, none⟩) (Kd.S_far (p := ⟨qg, 1, none⟩) (Kd.S_far (p := ⟨qg, 0, none⟩) (Kd.S_far (p := ⟨zW, 6, none⟩) (Kd.S_types (Kd.S_types Qf.out yC.out (by decide)) qf.out (by decide)) (fun _ hk => hk.1.2) (.slice qc6 yV.length qc2)) (fun _ hk => hk.2) (.slice Xk qK.length Xj)) (fun _ hk => hk.2) (.int .i64 qu)) (fun _ hk => hk.2) (.int .i64 qH)) (fun _ hk => hk.2) (.int .i64 qF)) (fun _ hk => hk.2) (.slice qdl zN.length qdk)) (fun _ hk => hk.2) (.slice qeF jS.length qeA)) (fun _ hk => hk.2) (.slice qc6 yV.length qc2)) (fun _ hk => ⟨hk.1.1.1.2, hk.1.1.2⟩), by (with_reducible repeat (first | apply Kd.S_alloc | apply Kd.S_drewN | apply Kd.S_drew)); exact Kd.S_mono (Kd.S_far (p := ⟨qg, 6, none⟩) (Kd.S_far (p := ⟨qg, 5, none⟩) (Kd.S_far (p := ⟨qg, 4, none⟩) (Kd.S_far (p := ⟨qg, 3, none⟩) (Kd.S_far (p := ⟨qg, 2, none⟩) (Kd.S_far (p := ⟨qg, 1, none⟩) (Kd.S_far (p := ⟨qg, 0, none⟩) (Kd.S_far (p := ⟨zW, 6, none⟩) (Kd.S_types (Kd.S_types Xd.out yC.out (by decide)) qf.out (by decide)) (fun _ hk => hk.1.2) (.slice qc6 yV.length qc2)) (fun _ hk => hk.2) (.slice Xk qK.length Xj)) (fun _ hk => hk.2) (.int .i64 qu)) (fun _ hk => hk.2) (.int .i64 qH)) (fun _ hk => hk.2) (.int .i64 qF)) (fun _ hk => hk.2) (.slice qdl zN.length qdk)) (fun _ hk => hk.2) (.slice qeF jS.length qeA)) (fun _ hk => hk.2) (.slice qc6 yV.length qc2)) (fun _ hk => ⟨hk.1.1.1.2, hk.1.1.2⟩), by (with_reducible repeat (first | apply Kd.R_alloc | apply Kd.R_drewN | apply Kd.R_drew)); exact Kd.R_mono (Kd.R_far (p := ⟨qg, 6, none⟩) (Kd.R_far (p := ⟨qg, 5, none⟩) (Kd.R_far (p := ⟨qg, 4, none⟩) (Kd.R_far (p := ⟨qg, 3, none⟩) (Kd.R_far (p := ⟨qg, 2, none⟩) (Kd.R_far (p := ⟨qg, 1, none⟩) (Kd.R_far (p := ⟨qg, 0, none⟩) (Kd.R_far (p := ⟨zW, 6, none⟩) (Kd.R_types (Kd.R_types Qe.out yC.out (by decide)) qf.out (by decide)) (fun _ hk => hk.1.2) (.slice qc6 yV.length qc2)) (fun _ hk => hk.2) (.slice Xk qK.length Xj)) (fun _ hk => hk.2) (.int .i64 qu)) (fun _ hk => hk.2) (.int .i64 qH)) (fun _ hk => hk.2) (.int .i64 qF)) (fun _ hk => hk.2) (.slice qdl zN.length qdk)) (fun _ hk => hk.2) (.slice qeF jS.length qeA)) (fun _ hk => hk.2) (.slice qc6 yV.length qc2)) (fun _ hk => trivial), by (with_reducible repeat (first | apply Kd.R_alloc | apply Kd.R_drewN | apply Kd.R_drew)); exact Kd.R_mono (Kd.R_far (p := ⟨qg, 6, none⟩) (Kd.R_far (p := ⟨qg, 5, none⟩) (Kd.R_far (p := ⟨qg, 4, none⟩) (Kd.R_far (p := ⟨qg, 3, none⟩) (Kd.R_far (p := ⟨qg, 2, none⟩) (Kd.R_far (p := ⟨qg, 1, none⟩) (Kd.R_far (p := ⟨qg, 0, none⟩) (Kd.R_far (p := ⟨zW, 6, none⟩) (Kd.R_types (Kd.R_types JT.out yC.out (by decide)) qf.out (by decide)) (fun _ hk => hk.1.2) (.slice qc6 yV.length qc2)) (fun _ hk => hk.2) (.slice Xk qK.length Xj)) (fun _ hk => hk.2) (.int .i64 qu)) (fun _ hk => hk.2) (.int .i64 qH)) (fun _ hk => hk.2) (.int .i64 qF)) (fun _ hk => hk.2) (.slice qdl zN.length qdk)) (fun _ hk => hk.2) (.slice qeF jS.length qeA)) (fun _ hk => hk.2) (.slice qc6 yV.length qc2)) (fun _ hk => trivial), by repeat (first | exact bw HB.out | refine below_set ?_ qm.out | refine below_set ?_ ji.out | refine below_set ?_ ZB.out)⟩


/-! ### zP: function 99 -/
def zP.l0 : Nat → List (S28) → List (S33) → Int → Option ((List (S33)))
 | 0, _, _, _ => none
 | k + 1, x0, x3, x4 => if x4 < (x0.length : Int) then (if 0 ≤ x4 then ((XF.f k ((jl x0 x4).f0.f0) ((jl x0 x4).f1) ((jl x0 x4).f2) ((jl x0 x4).f3) ((jl x0 x4).f4.f0) ((jl x0 x4).f5) ((jl x0 x4).f6)).bind fun qgc => (if x4 < (x3.length : Int) then (zP.l0 k x0 (x3.set (x4 : Int).toNat (⟨(⟨qgc.1⟩ : S31), qgc.2.1, qgc.2.2.1, qgc.2.2.2.1, (⟨qgc.2.2.2.2.1⟩ : S31), qgc.2.2.2.2.2.1, qgc.2.2.2.2.2.2⟩ : S33)) (wrap64 (x4 + 1))) else (none))) else (none)) else (some x3)
def zP.f (k : Nat) (l0 : List (S28)) : Option ((List (S33))) := if 0 ≤ (l0.length : Int) then (if ((l0.length : Int) : Int).toNat ≤ 2345624805922 then (zP.l0 k l0 (List.replicate ((l0.length : Int) : Int).toNat z33) 0) else (none)) else (none)
set_option maxHeartbeats 8000000 in
set_option maxRecDepth 100000 in
theorem zP.calls (k : Nat) (A0 : Option Addr) (c0 : Nat) (l0 : List (S28)) (r : List (S33)) (w : World) (hr0 : Kd.C k28 w A0 l0.length l0) (hc0 : l0.length ≤ c0) (h : zP.f k l0 = some r) :
  Calls Try.prog 99 #[.slice A0 l0.length c0] w fun e w' => ∃ v0_ : Value, e = .returned (v0_) ∧ Kd.R k33 33 w' w.heap.size (fun _ => True) v0_ r ∧ Below w.heap.size w w' := by
 have qpj := Try.underlying28
 have qak := Try.underlying33
 have HR0 := ak hr0
 have HC0 := ak hc0
 clear hr0 hc0
 have HB := ak (Below.refl w.heap.size w)
 have H : (if 0 ≤ (l0.length : Int) then (if ((l0.length : Int) : Int).toNat ≤ 2345624805922 then (zP.l0 k l0 (List.replicate ((l0.length : Int) : Int).toNat z33) 0) else (none)) else (none)) = some r := h
 clear h
 by_cases c2 : 0 ≤ (l0.length : Int)
 ·rw [if_pos c2] at H
  have c2b0 := eq_true c2
  have c2b1 : decide (0 ≤ (l0.length : Int)) = true := decide_eq_true c2
  clear c2
  by_cases c3 : ((l0.length : Int) : Int).toNat ≤ 2345624805922
  ·rw [if_pos c3] at H
   have c3b0 := eq_true c3
   have c3b1 : decide (((l0.length : Int) : Int).toNat ≤ 2345624805922) = true := decide_eq_true c3
   clear c3
   obtain ⟨ZH, yQ⟩ : ∃ y_ : List (S33), y_ = (List.replicate ((l0.length : Int) : Int).toNat z33) := ⟨_, rfl⟩
   replace H : (zP.l0 k l0 ZH 0) = some r := by first | (rw [yQ]; with_reducible exact H) | (have H2_ := (Option.bind_some _ _).symm.trans H; rw [yQ]; with_reducible exact H2_) | (have H2_ := (Option.bind_some _ _).symm.trans H; with_reducible exact H2_) | with_reducible exact H | (rw [yQ]; exact H) | exact H
   have Ya := ak yQ
   clear yQ
   have H' := ak H
   clear H
   go_enter Try.func99, Try.ntmps99
   go_wp2_with (first | ((with_reducible refine gate_dst (N := 7) rfl ?_); refine Kd.R_make k33 _ 33 rfl (N := 7) rfl 57 _ _ rfl (l0.length : Int) rfl rfl Try.underlying57 (.agg #[(.slice none 0 0), (.int .i64 0), (.int .i64 0), (.int .i64 0), (.slice none 0 0), (.slice none 0 0), (.slice none 0 0)]) 120 qgj rfl (by decide) (by omega) z33 (ok := fun _ => True) (okp := fun _ => True) (k33_mkM _ _ _ z33 (Kd.R_nil _ _ _ _ _) (Kd.R_nil _ _ _ _ _) (Kd.R_nil _ _ _ _ _) (Kd.R_nil _ _ _ _ _)) (fun _ hk => hk) trivial (of_decide_eq_true (by first | (with_reducible assumption) | assumption)) (Nat.le_trans (Nat.mul_le_mul_right _ (of_decide_eq_true (by first | (with_reducible assumption) | assumption) : (l0.length : Int).toNat ≤ 2345624805922)) (by omega)) (Below.refl _ _) (Nat.le_refl _) ?_; intro qaP w4 ho5 hb hg_ hnew_; clear hg_ hnew_; (first | rw [← Ya.out] at ho5 | (simp only [Int.reduceToNat] at ho5; rw [← Ya.out] at ho5)); have Zu := ak (Kd.R_lower ho5 (below_size (bw HB.out))); replace HB := ak (below_step (bw HB.out) hb); clear hb ho5))
   go_loopg [4] k (fun kq v4 w' => ∃ (jE : List (S33)) (qV : Int), v4 = .int .i64 qV ∧ Aside0 (zP.l0 kq l0 jE qV = some r) ∧ Aside0 (kq ≤ k) ∧ Aside0 (Kd.R k33 33 w' w.heap.size (fun _ => True) qaP jE) ∧ Aside0 (Below w.heap.size w w'))
   case atStart => exact ⟨(ZH), (0), (by first | rfl | (simp; done) | (simp [*]; done)), H', ⟨Nat.le_refl _⟩, ⟨rw_ Zu.out⟩, ⟨bw HB.out⟩⟩
   case round =>
    clear H'
    try clear c2
    try clear c2b0
    try clear c2b1
    try clear p2
    try clear c3
    try clear c3b0
    try clear c3b1
    obtain ⟨jE, qV, rfl, HA, HK1, HO_3, HB⟩ := hrel
    cases gk with
    | zero => exact absurd HA.out (by simp [zP.l0])
    | succ k1 =>
     have H := HA.out
     clear HA
     simp only [zP.l0] at H
     by_cases c6 : qV < (l0.length : Int)
     ·rw [if_pos c6] at H
      have c6b0 : decide (qV < (l0.length : Int)) = true := decide_eq_true c6
      clear c6
      by_cases c7 : 0 ≤ qV
      ·rw [if_pos c7] at H
       have c7b0 : decide (0 ≤ qV) = true := decide_eq_true c7
       clear c7
       replace H := Option.bind_eq_some_iff.mp H
       obtain ⟨⟨qS, jQ, zq, jS, zb, XY, JC⟩, A80, H⟩ := H
       replace H : (if qV < (jE.length : Int) then (zP.l0 k1 l0 (jE.set (qV : Int).toNat (⟨(⟨qS⟩ : S31), jQ, zq, jS, (⟨zb⟩ : S31), XY, JC⟩ : S33)) (wrap64 (qV + 1))) else (none)) = some r := H
       have A8 := ak A80
       clear A80
       by_cases c9 : qV < (jE.length : Int)
       ·rw [if_pos c9] at H
        have c9b0 : decide (qV < (jE.length : Int)) = true := decide_eq_true c9
        clear c9
        obtain ⟨Xf, qbX⟩ : ∃ y_ : List (S33), y_ = (jE.set (qV : Int).toNat (⟨(⟨qS⟩ : S31), jQ, zq, jS, (⟨zb⟩ : S31), XY, JC⟩ : S33)) := ⟨_, rfl⟩
        replace H : (zP.l0 k1 l0 Xf (wrap64 (qV + 1))) = some r := by first | (rw [qbX]; with_reducible exact H) | (have H2_ := (Option.bind_some _ _).symm.trans H; rw [qbX]; with_reducible exact H2_) | (have H2_ := (Option.bind_some _ _).symm.trans H; with_reducible exact H2_) | with_reducible exact H | (rw [qbX]; exact H) | exact H
        have qll := ak qbX
        clear qbX
        have H' := ak H
        clear H
        have yt : 0 ≤ (qV : Int) := of_decide_eq_true (by first | (with_reducible assumption) | assumption)
        have yr : qV < (l0.length : Int) := of_decide_eq_true (by first | (with_reducible assumption) | assumption)
        obtain ⟨zp, zR, zQ, QA, Qs, Qz, Qr, Qy, Qq, Yt, zC, qeO, qeN, qeM, qeL, qeK, qeJ, QY, Jh, qff, qfr, qfe, qfq, qfd, qfp⟩ := qma HR0.out qV yt yr
        cases Yt
        replace zC := hc_ HB.out zC
        replace qeO := hc_ HB.out qeO
        replace qeN := hc_ HB.out qeN
        replace qeM := hc_ HB.out qeM
        replace qeL := hc_ HB.out qeL
        replace qeK := hc_ HB.out qeK
        replace qeJ := hc_ HB.out qeJ
        have yc := ak Jh
        have yd := ak QY
        clear Jh QY
        have qhG := ak qfr
        have qhV := ak qff
        clear qfr qff
        have qhF := ak qfq
        have qhU := ak qfe
        clear qfq qfe
        have qhE := ak qfp
        have qhT := ak qfd
        clear qfp qfd
        replace yt := eq_true yt
        replace yr := eq_true yr
        go_wp2_with (first | ((with_reducible refine gate_callee (f := 15) rfl ?_); refine goesL_ (some 20) rfl rfl Try.func15 (by kernel_rfl) rfl #[.agg #[.slice zR ((jl l0 qV).f0.f0).length zQ, .int .i64 ((jl l0 qV).f1), .int .i64 ((jl l0 qV).f2), .int .i64 ((jl l0 qV).f3), .slice QA ((jl l0 qV).f4.f0).length Qs, .slice Qz ((jl l0 qV).f5).length Qr, .slice Qy ((jl l0 qV).f6).length Qq]] rfl (by first | rfl | (simp only [List.map_toArray, List.map_cons, List.map_nil]; first | done | rfl)) ?_; (with_reducible refine (XF.calls k1 _ _ ((jl l0 qV).f0.f0) ((jl l0 qV).f1) ((jl l0 qV).f2) ((jl l0 qV).f3) _ _ ((jl l0 qV).f4.f0) _ _ ((jl l0 qV).f5) _ _ ((jl l0 qV).f6) qS jQ zq jS zb XY JC _ ?qk ?qj ?qw ?qy ?zK ?yz ?yy ?yx A8.out).mono ?_); (case qk => exact cw yc.out HB.out); (case qj => exact yd.out); (case qw => exact cw qhG.out HB.out); (case qy => exact qhV.out); (case zK => exact cw qhF.out HB.out); (case yz => exact qhU.out); (case yy => exact cw qhE.out HB.out); (case yx => exact qhT.out); rintro e w11 ⟨qd5, qiF, qlp, qok, rfl, ho0, ho1, ho2, ho3, hb⟩; refine ⟨_, rfl, ?_⟩; replace HO_3 := ak (Kd.R_mono (Kd.R_told (Kd.R_told (Kd.R_told (Kd.R_told (Kd.R_old (rw_ HO_3.out) hb) (Kd.S_base ho0)) (Kd.S_base ho1)) (Kd.R_base ho2)) (Kd.R_base ho3)) (fun _ h_ => h_.1)); have yp := ak (Kd.S_lower ho0 (below_size (bw HB.out))); have qda := ak (Kd.S_lower ho1 (below_size (bw HB.out))); have qex := ak (Kd.R_lower ho2 (below_size (bw HB.out))); have qhJ := ak (Kd.R_lower ho3 (below_size (bw HB.out))); replace HB := ak (below_step (bw HB.out) hb); (try clear hb); (try clear ho0); (try clear ho1); (try clear ho2); (try clear ho3); have p10 : 0 ≤ (qV : Int) := of_decide_eq_true (by first | (with_reducible assumption) | assumption); have q10 : (qV : Int) < ((jE.length : Int) : Int) := of_decide_eq_true (by first | (with_reducible assumption) | assumption); obtain ⟨Zf, qgb, qh6, ql7, qpm, qwf, qmb⟩ := Kd.R_form HO_3.out (by omega); (first | cases qh6 | (injection qh6 with ea_ en_ ec_; (first | subst ea_ | (injection ea_ with ea_; subst ea_)); subst ec_; clear en_)); have qgf := ak ql7; have qwl := ak qmb; clear ql7 qpm qmb; obtain ⟨qwh, qox, ql6, qb8, qb5⟩ := Kd.R_elem HO_3.out z33 (qV : Int) p10 q10; obtain ⟨qoR, qtO, qtN, qtM, rfl, qus, qDe, qDd, qDc⟩ := k33_openM ql6; have qoS : w11.cell? ⟨Zf, (qV : Int).toNat * 7, none⟩ = some (qoR) := qb8 0 _ rfl; have qCE : w11.cell? ⟨Zf, (qV : Int).toNat * 7 + 1, none⟩ = some (.int .i64 ((qa jE qV).f1)) := qb8 1 _ rfl; have qCD : w11.cell? ⟨Zf, (qV : Int).toNat * 7 + 2, none⟩ = some (.int .i64 ((qa jE qV).f2)) := qb8 2 _ rfl; have qCC : w11.cell? ⟨Zf, (qV : Int).toNat * 7 + 3, none⟩ = some (.int .i64 ((qa jE qV).f3)) := qb8 3 _ rfl; have qCB : w11.cell? ⟨Zf, (qV : Int).toNat * 7 + 4, none⟩ = some (qtO) := qb8 4 _ rfl; have qCA : w11.cell? ⟨Zf, (qV : Int).toNat * 7 + 5, none⟩ = some (qtN) := qb8 5 _ rfl; have qCz : w11.cell? ⟨Zf, (qV : Int).toNat * 7 + 6, none⟩ = some (qtM) := qb8 6 _ rfl; have qoY : w11.frozen? ⟨Zf, (qV : Int).toNat * 7, none⟩ = false := qb5 0; have qCW : w11.frozen? ⟨Zf, (qV : Int).toNat * 7 + 1, none⟩ = false := qb5 1; have qCV : w11.frozen? ⟨Zf, (qV : Int).toNat * 7 + 2, none⟩ = false := qb5 2; have qCU : w11.frozen? ⟨Zf, (qV : Int).toNat * 7 + 3, none⟩ = false := qb5 3; have qCT : w11.frozen? ⟨Zf, (qV : Int).toNat * 7 + 4, none⟩ = false := qb5 4; have qCS : w11.frozen? ⟨Zf, (qV : Int).toNat * 7 + 5, none⟩ = false := qb5 5; have qCR : w11.frozen? ⟨Zf, (qV : Int).toNat * 7 + 6, none⟩ = false := qb5 6; (try clear qox); (try clear qb8); (try clear qb5); (try clear ql6); replace p10 := eq_true p10; replace q10 := eq_true q10; have n_ := ak (Kd.R_mono (ok' := (fun k_ => some k_ ≠ (qd5 : Value).ownBlock ∧ some k_ ≠ (qiF : Value).ownBlock ∧ some k_ ≠ (qlp : Value).ownBlock ∧ some k_ ≠ (qok : Value).ownBlock)) HO_3.out (fun k_ hk => ⟨hk.1.1.1.2, ⟨hk.1.1.2, ⟨hk.1.2, hk.2⟩⟩⟩)); clear HO_3; have HO_3 := n_; clear n_; have qoG := ak (show Kd.R k33 33 w11 w.heap.size (fun _ => True) (.slice (some ⟨Zf, 0, none⟩) jE.length qgb) jE from (by (with_reducible repeat (first | apply Kd.R_alloc | apply Kd.R_drewN | apply Kd.R_drew)); exact Kd.R_mono HO_3.out (fun _ hk => trivial))); obtain ⟨qwg, qlj, ql5, qa0, qb4⟩ := Kd.R_elem qoG.out z33 (qV : Int) (of_decide_eq_true (by first | (with_reducible assumption) | assumption)) (by have h_ : (qV : Int) < ((jE.length : Int) : Int) := of_decide_eq_true (by first | (with_reducible assumption) | assumption); first | exact h_ | (have e_ := (Kd.R_reads' HO_3.out).1; omega) | simpa using h_); obtain ⟨qtL, qCy, qCx, qCw, rfl, qur, qDb, qDa, qC9⟩ := k33_openM ql5; have qgy := Kd.R_seg qoG.out (qV : Int) (of_decide_eq_true (by first | (with_reducible assumption) | assumption)) (by have h_ : (qV : Int) < ((jE.length : Int) : Int) := of_decide_eq_true (by first | (with_reducible assumption) | assumption); first | exact h_ | (have e_ := (Kd.R_reads' HO_3.out).1; omega) | simpa using h_) (seg := [qd5, .int .i64 jQ, .int .i64 zq, .int .i64 jS, qiF, qlp, qok]) (j := 0) qlj qa0 (show 7 ≤ 7 from by decide) (x' := (⟨(⟨qS⟩ : S31), jQ, zq, jS, (⟨zb⟩ : S31), XY, JC⟩ : S33)) (k33_mkM _ _ _ (⟨(⟨qS⟩ : S31), jQ, zq, jS, (⟨zb⟩ : S31), XY, JC⟩ : S33) (Kd.R_mono (Kd.R_apart' ((Kd.S_R yp.out)) (Kd.R_typed HO_3.out) (by decide)) (fun k_ hk => ⟨trivial, fun e_ => (hk.2) (by rw [e_]; rfl)⟩)) (Kd.R_mono (Kd.R_apart' ((Kd.S_R qda.out)) (Kd.R_typed HO_3.out) (by decide)) (fun k_ hk => ⟨trivial, fun e_ => (hk.2) (by rw [e_]; rfl)⟩)) (Kd.R_mono (Kd.R_apart' (qex.out) (Kd.R_typed HO_3.out) (by decide)) (fun k_ hk => ⟨trivial, fun e_ => (hk.2) (by rw [e_]; rfl)⟩)) (Kd.R_mono (Kd.R_apart' (qhJ.out) (Kd.R_typed HO_3.out) (by decide)) (fun k_ hk => ⟨trivial, fun e_ => (hk.2) (by rw [e_]; rfl)⟩))) (fun _ hk => hk); have qlu := qa0 0 _ rfl; (try simp only [show (k33).sz = 7 from rfl, Nat.mul_one, Nat.add_zero] at qlu); have qlQ := qb4 0; (try simp only [show (k33).sz = 7 from rfl, Nat.mul_one, Nat.add_zero] at qlQ); have qtY := qa0 1 _ rfl; (try simp only [show (k33).sz = 7 from rfl, Nat.mul_one, Nat.add_zero] at qtY); have que := qb4 1; (try simp only [show (k33).sz = 7 from rfl, Nat.mul_one, Nat.add_zero] at que); have qtX := qa0 2 _ rfl; (try simp only [show (k33).sz = 7 from rfl, Nat.mul_one, Nat.add_zero] at qtX); have qud := qb4 2; (try simp only [show (k33).sz = 7 from rfl, Nat.mul_one, Nat.add_zero] at qud); have qtW := qa0 3 _ rfl; (try simp only [show (k33).sz = 7 from rfl, Nat.mul_one, Nat.add_zero] at qtW); have quc := qb4 3; (try simp only [show (k33).sz = 7 from rfl, Nat.mul_one, Nat.add_zero] at quc); have qtV := qa0 4 _ rfl; (try simp only [show (k33).sz = 7 from rfl, Nat.mul_one, Nat.add_zero] at qtV); have qub := qb4 4; (try simp only [show (k33).sz = 7 from rfl, Nat.mul_one, Nat.add_zero] at qub); have qtU := qa0 5 _ rfl; (try simp only [show (k33).sz = 7 from rfl, Nat.mul_one, Nat.add_zero] at qtU); have qua := qb4 5; (try simp only [show (k33).sz = 7 from rfl, Nat.mul_one, Nat.add_zero] at qua); have qtT := qa0 6 _ rfl; (try simp only [show (k33).sz = 7 from rfl, Nat.mul_one, Nat.add_zero] at qtT); have qt9 := qb4 6; (try simp only [show (k33).sz = 7 from rfl, Nat.mul_one, Nat.add_zero] at qt9); (try clear qlj); (try clear qa0); (try clear qb4); (try clear ql5)) | ((with_reducible refine gate_store (t := 33) (p := 21) rfl ?_); refine store_event (t := 33) (p := 21) (v := ?vo_w13) (w1 := (((((((w11.setCell ⟨Zf, (qV : Int).toNat * 7, none⟩ (qd5)).setCell ⟨Zf, (qV : Int).toNat * 7 + 1, none⟩ (.int .i64 jQ)).setCell ⟨Zf, (qV : Int).toNat * 7 + 2, none⟩ (.int .i64 zq)).setCell ⟨Zf, (qV : Int).toNat * 7 + 3, none⟩ (.int .i64 jS)).setCell ⟨Zf, (qV : Int).toNat * 7 + 4, none⟩ (qiF)).setCell ⟨Zf, (qV : Int).toNat * 7 + 5, none⟩ (qlp)).setCell ⟨Zf, (qV : Int).toNat * 7 + 6, none⟩ (qok))) ?hg ?ho ?hn ?hr ?_; (case ho => rfl); (case hg => rfl); (case hn => rfl); (case hr => first | (go_simp; done) | (go_simp; rfl) | ((first | (obtain ⟨A_, c_, e_⟩ := Kd.R_slice yp.out; rw [e_]) | (obtain ⟨A_, c_, e_⟩ := Kd.S_slice yp.out; rw [e_])); (first | (obtain ⟨A_, c_, e_⟩ := Kd.R_slice qda.out; rw [e_]) | (obtain ⟨A_, c_, e_⟩ := Kd.S_slice qda.out; rw [e_])); (first | (obtain ⟨A_, c_, e_⟩ := Kd.R_slice qex.out; rw [e_]) | (obtain ⟨A_, c_, e_⟩ := Kd.S_slice qex.out; rw [e_])); (first | (obtain ⟨A_, c_, e_⟩ := Kd.R_slice qhJ.out; rw [e_]) | (obtain ⟨A_, c_, e_⟩ := Kd.S_slice qhJ.out; rw [e_])); first | (go_simp; done) | (go_simp; rfl))); intro w13 hw; have hg : w11.grownBy w13 (some Zf) := (by rw [hw]; exact qgy.2); have hp_ : Kd.R k33 33 w13 w.heap.size (fun _ => True) (.slice (some ⟨Zf, 0, none⟩) jE.length qgb) Xf := (by rw [hw, qll.out]; exact qgy.1); clear qgy; replace HO_3 := ak (hp_); replace HB := ak ((by rw [hw]; exact below_set (below_set (below_set (below_set (below_set (below_set (below_set (HB.out) qgf.out) qgf.out) qgf.out) qgf.out) qgf.out) qgf.out) qgf.out : Below w.heap.size w w13)); clear yp qda qex qhJ; clear hg hw hp_))
        go_roundg k1
        case measure => have := HK1.out; omega
        case rel => exact ⟨(Xf), (wrap64 (qV + 1)), (by first | rfl | (simp; done) | (simp [*]; done)), H', ⟨by have := HK1.out; omega⟩, ⟨rw_ HO_3.out⟩, ⟨bw HB.out⟩⟩
       ·rw [if_neg c9] at H
        exact absurd H (by simp)
      ·rw [if_neg c7] at H
       exact absurd H (by simp)
     ·rw [if_neg c6] at H
      have c6b0 : decide (qV < (l0.length : Int)) = false := decide_eq_false c6
      clear c6
      obtain rfl := Option.some.inj H
      go_wp2
      go_ret
      exact ⟨_, by first | rfl | (simp [errW_none, errW_some] <;> rfl) | (simp [*, errW_none, errW_some] <;> rfl), rw_ HO_3.out, bw HB.out⟩
  ·rw [if_neg c3] at H
   exact absurd H (by simp)
 ·rw [if_neg c2] at H
  exact absurd H (by simp)


/-! ### zz: function 36 -/
def zz.f (k : Nat) (qd : List (List Int)) (qb : List (S28)) : Option ((List (List Int)) × (List (S33))) := (yL.f k qd).bind fun qK => ((zP.f k qb).bind fun zN => (some (qK, zN)))
set_option maxHeartbeats 8000000 in
set_option maxRecDepth 100000 in
theorem zz.calls (k : Nat) (qq : Option Addr) (qp : Nat) (qd : List (List Int)) (jA : Option Addr) (je : Nat) (qb : List (S28)) (r1 : List (List Int)) (r2 : List (S33)) (w : World) (jd : Kd.C (Kd.slice 5 (Kd.int .u8)) w qq qd.length qd) (jg : qd.length ≤ qp) (QR : Kd.C k28 w jA qb.length qb) (Jn : qb.length ≤ je) (h : zz.f k qd qb = some (r1, r2)) :
  Calls Try.prog 36 #[.agg #[.slice qq qd.length qp, .slice jA qb.length je]] w fun e w' => ∃ v0_ v1_ : Value, e = .returned (.agg #[v0_, v1_]) ∧ Kd.S (Kd.slice 5 (Kd.int .u8)) 25 w' w.heap.size (fun _ => True) v0_ r1 ∧ Kd.R k33 33 w' w.heap.size (fun k_ => some k_ ≠ (v0_ : Value).ownBlock) v1_ r2 ∧ Below w.heap.size w w' := by
 have qtZ := Try.underlying54
 have qez := Try.underlying59
 have qlv := Try.underlying24
 have Ys := Try.underlying31
 have qW := ak jd
 have jb := ak jg
 clear jd jg
 have yB := ak QR
 have QJ := ak Jn
 clear QR Jn
 have HB := ak (Below.refl w.heap.size w)
 have H : ((yL.f k qd).bind fun qK => ((zP.f k qb).bind fun zN => (some (qK, zN)))) = some (r1, r2) := h
 clear h
 replace H := Option.bind_eq_some_iff.mp H
 obtain ⟨qK, A20, H⟩ := H
 replace H : ((zP.f k qb).bind fun zN => (some (qK, zN))) = some (r1, r2) := H
 have A2 := ak A20
 clear A20
 replace H := Option.bind_eq_some_iff.mp H
 obtain ⟨zN, A30, H⟩ := H
 replace H : (some (qK, zN)) = some (r1, r2) := H
 have A3 := ak A30
 clear A30
 simp only [Option.some.injEq, Prod.mk.injEq] at H
 obtain ⟨rfl, rfl⟩ := H
 go_enter Try.func36, Try.ntmps36
 go_wp2_with (first | ((with_reducible refine gate_dst (N := 1) rfl ?_); refine boxed (N := 1) rfl rfl (cs := #[.slice qq qd.length qp, .slice jA qb.length je]) (t := 54) HB.out (by first | (go_simp; done) | (go_simp; rfl)) ?_; clear HB; intro qi w4 hg HB qc qm hb; have jD := qm; clear hb hg) | ((with_reducible refine gate_dst (N := 2) rfl ?_); refine box_event ?hg (N := 2) ?hd (cs := #[.slice none 0 0, .slice none 0 0]) (t := 59) ?hr ?_; (case hd => rfl); (case hg => rfl); (case hr => first | (go_simp; done) | (go_simp; rfl)); intro qg hg w5 hbox hb; have qf := ak (hbox); have QS := ak ((by rw [hg]; exact (below_size (by repeat (first | exact bw HB.out | refine below_set ?_ qm.out))) : w.heap.size ≤ qg)); have ji := ak ((by rw [hg]; exact (below_size (by repeat (first | exact bw HB.out | refine below_set ?_ qm.out))) : w.heap.size ≤ qg)); replace HB := ak (below_step (by repeat (first | exact bw HB.out | refine below_set ?_ qm.out)) hb); have qO := ak ((by rw [hg]; exact Nat.ne_of_lt (blk_lt (bk qc.out)) : qi ≠ qg)); have qN := ak ((by rw [hg]; exact Nat.ne_of_gt (blk_lt (bk qc.out)) : qg ≠ qi)); replace qc := ak (blk_below (bk qc.out) hb); clear hb hbox hg) | ((with_reducible refine gate_dst (N := 3) rfl ?_); refine box_event ?hg (N := 3) ?hd (cs := #[.slice none 0 0, .slice none 0 0]) (t := 59) ?hr ?_; (case hd => rfl); (case hg => rfl); (case hr => first | (go_simp; done) | (go_simp; rfl)); intro zW hg w6 hbox hb; have yC := ak (hbox); have qpZ := ak ((by rw [hg]; exact (below_size (by repeat (first | exact bw HB.out | refine below_set ?_ qm.out | refine below_set ?_ ji.out))) : w.heap.size ≤ zW)); have ZB := ak ((by rw [hg]; exact (below_size (by repeat (first | exact bw HB.out | refine below_set ?_ qm.out | refine below_set ?_ ji.out))) : w.heap.size ≤ zW)); replace HB := ak (below_step (by repeat (first | exact bw HB.out | refine below_set ?_ qm.out | refine below_set ?_ ji.out)) hb); have ZE := ak ((by rw [hg]; exact Nat.ne_of_lt (blk_lt (bk qc.out)) : qi ≠ zW)); have qdh := ak ((by rw [hg]; exact Nat.ne_of_gt (blk_lt (bk qc.out)) : zW ≠ qi)); replace qc := ak (blk_below (bk qc.out) hb); have Jv := ak ((by rw [hg]; exact Nat.ne_of_lt (blk_lt (bk qf.out)) : qg ≠ zW)); have qdg := ak ((by rw [hg]; exact Nat.ne_of_gt (blk_lt (bk qf.out)) : zW ≠ qg)); replace qf := ak (blk_below (bk qf.out) hb); clear hb hbox hg; have qou := qO.out; have qos := qN.out; have qvN := ZE.out; have qvL := qdh.out; obtain ⟨Js, Zo, Jr, Zn⟩ := cells2 qc.out) | ((with_reducible refine gate_callee (f := 41) rfl ?_); refine goesL_ (some 6) rfl rfl Try.func41 (by kernel_rfl) rfl #[.agg #[.slice qq qd.length qp]] rfl (by first | rfl | (simp only [List.map_toArray, List.map_cons, List.map_nil]; first | done | rfl)) ?_; (with_reducible refine (yL.calls k _ _ qd qK _ ?qk ?qj A2.out).mono ?_); (case qk => exact cw qW.out HB.out); (case qj => exact jb.out); rintro e w10 ⟨qh2, rfl, ho0, hb⟩; refine ⟨_, rfl, ?_⟩; have Qf := ak (Kd.S_lower ho0 (below_size (by repeat (first | exact bw HB.out | refine below_set ?_ qm.out | refine below_set ?_ ji.out | refine below_set ?_ ZB.out)))); replace qc := ak (blk_below (bk qc.out) hb); replace qf := ak (blk_below (bk qf.out) hb); replace yC := ak (blk_below (bk yC.out) hb); replace HB := ak (below_step (by repeat (first | exact bw HB.out | refine below_set ?_ qm.out | refine below_set ?_ ji.out | refine below_set ?_ ZB.out)) hb); (try clear hb); (try clear ho0); obtain ⟨qgA, qeB, qpp⟩ := Kd.S_slice Qf.out; subst qpp; have qpO := qdg.out; have qpL := Jv.out; obtain ⟨QN, JO, QM, JN⟩ := cells2 yC.out; obtain ⟨XW, qaJ, XU, qaH⟩ := cells2 qc.out) | ((with_reducible refine gate_callee (f := 99) rfl ?_); refine goesL_ (some 10) rfl rfl Try.func99 (by kernel_rfl) rfl #[.slice jA qb.length je] rfl (by first | rfl | (simp only [List.map_toArray, List.map_cons, List.map_nil]; first | done | rfl)) ?_; (with_reducible refine (zP.calls k _ _ qb zN _ ?qk ?qj A3.out).mono ?_); (case qk => exact Kd.C_below yB.out (by repeat (first | exact bw HB.out | refine below_set ?_ qm.out | refine below_set ?_ ji.out | refine below_set ?_ ZB.out))); (case qj => exact QJ.out); rintro e w15 ⟨qpc, rfl, ho0, hb⟩; refine ⟨_, rfl, ?_⟩; have Xd := ak (Kd.R_lower (Kd.R_new' ho0 (Kd.S_lt (by (with_reducible repeat (first | apply Kd.S_alloc | apply Kd.S_drewN | apply Kd.S_drew)); exact (Kd.S_mono (Kd.S_far (p := ⟨zW, 0, none⟩) (Kd.S_types Qf.out yC.out (by decide)) (fun _ hk => hk.2) (.slice qgA qK.length qeB)) (fun _ h_ => h_.1))))) (below_size (by repeat (first | exact bw HB.out | refine below_set ?_ qm.out | refine below_set ?_ ji.out | refine below_set ?_ ZB.out)))); replace Qf := ak (Kd.S_below (by (with_reducible repeat (first | apply Kd.S_alloc | apply Kd.S_drewN | apply Kd.S_drew)); exact (Kd.S_mono (Kd.S_far (p := ⟨zW, 0, none⟩) (Kd.S_types Qf.out yC.out (by decide)) (fun _ hk => hk.2) (.slice qgA qK.length qeB)) (fun _ h_ => h_.1))) hb); replace qc := ak (blk_below (g := qi) (o := .cells #[.slice qq qd.length qp, .slice jA qb.length je] 54 (0, 0)) (by (with_reducible repeat (first | refine blk_drewN ?_ _ | refine blk_drew ?_ | refine blk_alloc ?_ _)); refine blk_far ?_ ZE.out _; (with_reducible repeat (first | refine blk_drewN ?_ _ | refine blk_drew ?_ | refine blk_alloc ?_ _)); exact qc.out) hb); replace qf := ak (blk_below (g := qg) (o := .cells #[.slice none 0 0, .slice none 0 0] 59 (0, 0)) (by (with_reducible repeat (first | refine blk_drewN ?_ _ | refine blk_drew ?_ | refine blk_alloc ?_ _)); refine blk_far ?_ Jv.out _; (with_reducible repeat (first | refine blk_drewN ?_ _ | refine blk_drew ?_ | refine blk_alloc ?_ _)); exact qf.out) hb); replace yC := ak (blk_below (g := zW) (o := .cells #[.slice qgA qK.length qeB, .slice none 0 0] 59 (0, 0)) (by (with_reducible repeat (first | refine blk_drewN ?_ _ | refine blk_drew ?_ | refine blk_alloc ?_ _)); refine blk_put (cs := #[.slice none 0 0, .slice none 0 0]) ?_ 0 _ rfl; (with_reducible repeat (first | refine blk_drewN ?_ _ | refine blk_drew ?_ | refine blk_alloc ?_ _)); exact yC.out) hb); replace HB := ak (below_step (by repeat (first | exact bw HB.out | refine below_set ?_ qm.out | refine below_set ?_ ji.out | refine below_set ?_ ZB.out)) hb); (try clear hb); (try clear ho0); obtain ⟨qia, qh7, qoz⟩ := Kd.R_slice Xd.out; subst qoz; obtain ⟨qkG, qoi, qjN, qnq⟩ := cells2 yC.out; obtain ⟨YU, YT, YR, YQ⟩ := cells2 qf.out))
 refine bodyPost_ret (results_cell_row rfl _ _ qg 59 #[.slice qgA qK.length qeB, .slice qia zN.length qh7] (0, 0) _ rfl (by (with_reducible repeat (first | refine blk_drewN ?_ _ | refine blk_drew ?_ | refine blk_alloc ?_ _)); refine blk_put (cs := #[.slice qgA qK.length qeB, .slice none 0 0]) ?_ 1 _ rfl; (with_reducible repeat (first | refine blk_drewN ?_ _ | refine blk_drew ?_ | refine blk_alloc ?_ _)); refine blk_put (cs := #[.slice none 0 0, .slice none 0 0]) ?_ 0 _ rfl; (with_reducible repeat (first | refine blk_drewN ?_ _ | refine blk_drew ?_ | refine blk_alloc ?_ _)); refine blk_far ?_ Jv.out _; (with_reducible repeat (first | refine blk_drewN ?_ _ | refine blk_drew ?_ | refine blk_alloc ?_ _)); exact qf.out) Try.underlying59 rfl (by kernel_rfl)) rfl ?_
 exact ⟨_, _, by first | rfl | (simp [errW_none, errW_some] <;> rfl) | (simp [*, errW_none, errW_some] <;> rfl), by (with_reducible repeat (first | apply Kd.S_alloc | apply Kd.S_drewN | apply Kd.S_drew)); exact Kd.S_mono (Kd.S_far (p := ⟨qg, 1, none⟩) (Kd.S_far (p := ⟨qg, 0, none⟩) (Kd.S_far (p := ⟨zW, 1, none⟩) (Kd.S_types (Kd.S_types Qf.out yC.out (by decide)) qf.out (by decide)) (fun _ hk => hk.1.2) (.slice qia zN.length qh7)) (fun _ hk => hk.2) (.slice qgA qK.length qeB)) (fun _ hk => hk.2) (.slice qia zN.length qh7)) (fun _ hk => trivial), by (with_reducible repeat (first | apply Kd.R_alloc | apply Kd.R_drewN | apply Kd.R_drew)); exact Kd.R_mono (Kd.R_far (p := ⟨qg, 1, none⟩) (Kd.R_far (p := ⟨qg, 0, none⟩) (Kd.R_far (p := ⟨zW, 1, none⟩) (Kd.R_types (Kd.R_types Xd.out yC.out (by decide)) qf.out (by decide)) (fun _ hk => hk.1.2) (.slice qia zN.length qh7)) (fun _ hk => hk.2) (.slice qgA qK.length qeB)) (fun _ hk => hk.2) (.slice qia zN.length qh7)) (fun _ hk => hk.1.1.2), by repeat (first | exact bw HB.out | refine below_set ?_ qm.out | refine below_set ?_ ji.out | refine below_set ?_ ZB.out)⟩


/-! ### jx: function 28 -/
def jx.l0 : Nat → List Int → List Int → Int → Option (Bool)
 | 0, _, _, _ => none
 | k + 1, x0, x1, x5 => if x5 < (x0.length : Int) then (if 0 ≤ x5 then (if x5 < (x1.length : Int) then (if (rd x0 x5) = (rd x1 x5) then (jx.l0 k x0 x1 (wrap64 (x5 + 1))) else (some false)) else (none)) else (none)) else (some true)
def jx.f (k : Nat) (l0 : List Int) (l1 : List Int) : Option (Bool) := if (l0.length : Int) = (l1.length : Int) then (jx.l0 k l0 l1 0) else (some false)
set_option maxHeartbeats 8000000 in
set_option maxRecDepth 100000 in
theorem jx.calls (k : Nat) (A0 : Option Addr) (c0 : Nat) (l0 : List Int) (A1 : Option Addr) (c1 : Nat) (l1 : List Int) (r : Bool) (w : World) (hr0 : Kd.C (Kd.int .u8) w A0 l0.length l0) (hc0 : l0.length ≤ c0) (hr1 : Kd.C (Kd.int .u8) w A1 l1.length l1) (hc1 : l1.length ≤ c1) (h : jx.f k l0 l1 = some r) :
  Calls Try.prog 28 #[.slice A0 l0.length c0, .slice A1 l1.length c1] w fun e w' => e = .returned (.bool r) ∧ Drawn0 w w' := by
 have HR0 := ak hr0
 have HC0 := ak hc0
 clear hr0 hc0
 have HR1 := ak hr1
 have HC1 := ak hc1
 clear hr1 hc1
 have H : (if (l0.length : Int) = (l1.length : Int) then (jx.l0 k l0 l1 0) else (some false)) = some r := h
 clear h
 by_cases c3 : (l0.length : Int) = (l1.length : Int)
 ·rw [if_pos c3] at H
  have c3b0 : ((l0.length : Int) == (l1.length : Int)) = true := beq_iff_eq.mpr c3
  have c3b1 : ((l0.length : Int) != (l1.length : Int)) = false := bne_eq_false_iff_eq.mpr c3
  have c3b2 : (l0.length == l1.length) = true := by first | simpa using c3 | (simp at c3 ⊢; omega)
  clear c3
  have H' := ak H
  clear H
  go_enter Try.func28, Try.ntmps28
  go_wp2
  repeat (go_quiet (fail); try go_wp2)
  go_loopg [5] k (fun kq v5 w' => ∃ (qh : Int), v5 = .int .i64 qh ∧ Aside0 (jx.l0 kq l0 l1 qh = some r) ∧ Aside0 (kq ≤ k) ∧ Drawn0 w w')
  case atStart => exact ⟨(0), (by first | rfl | (simp; done) | (simp [*]; done)), H', ⟨Nat.le_refl _⟩, by repeat (first | exact Drawn0.refl _ | apply Drawn0.step)⟩
  case round =>
   clear H'
   try clear c1
   try clear c2
   try clear p2
   try clear c3
   try clear c3b0
   try clear c3b1
   try clear c3b2
   obtain ⟨qh, rfl, HA, HK1, ⟨m1, rfl⟩⟩ := hrel
   cases gk with
   | zero => exact absurd HA.out (by simp [jx.l0])
   | succ k1 =>
    have H := HA.out
    clear HA
    simp only [jx.l0] at H
    by_cases c4 : qh < (l0.length : Int)
    ·rw [if_pos c4] at H
     have c4b0 : decide (qh < (l0.length : Int)) = true := decide_eq_true c4
     clear c4
     by_cases c5 : 0 ≤ qh
     ·rw [if_pos c5] at H
      have c5b0 : decide (0 ≤ qh) = true := decide_eq_true c5
      clear c5
      by_cases c6 : qh < (l1.length : Int)
      ·rw [if_pos c6] at H
       have c6b0 : decide (qh < (l1.length : Int)) = true := decide_eq_true c6
       clear c6
       by_cases c7 : (rd l0 qh) = (rd l1 qh)
       ·rw [if_pos c7] at H
        have c7b0 : ((rd l0 qh) == (rd l1 qh)) = true := beq_iff_eq.mpr c7
        have c7b1 : ((rd l0 qh) != (rd l1 qh)) = false := bne_eq_false_iff_eq.mpr c7
        clear c7
        have H' := ak H
        clear H
        have ju : 0 ≤ (qh : Int) := of_decide_eq_true (by first | (with_reducible assumption) | assumption)
        have jt : qh < (l0.length : Int) := of_decide_eq_true (by first | (with_reducible assumption) | assumption)
        obtain ⟨ja, yl, zj⟩ := Kd.at_int HR0.out qh ju jt
        cases yl
        replace ju := eq_true ju
        replace jt := eq_true jt
        have zw : 0 ≤ (qh : Int) := of_decide_eq_true (by first | (with_reducible assumption) | assumption)
        have zu : qh < (l1.length : Int) := of_decide_eq_true (by first | (with_reducible assumption) | assumption)
        obtain ⟨zM, JU, zS⟩ := Kd.at_int HR1.out qh zw zu
        cases JU
        replace zw := eq_true zw
        replace zu := eq_true zu
        go_wp2
        repeat (go_quiet (fail); try go_wp2)
        go_roundg k1
        case measure => have := HK1.out; omega
        case rel => exact ⟨(wrap64 (qh + 1)), (by first | rfl | (simp; done) | (simp [*]; done)), H', ⟨by have := HK1.out; omega⟩, by repeat (first | exact Drawn0.refl _ | apply Drawn0.step)⟩
       ·rw [if_neg c7] at H
        have c7b0 : ((rd l0 qh) == (rd l1 qh)) = false := beq_eq_false_iff_ne.mpr c7
        have c7b1 : ((rd l0 qh) != (rd l1 qh)) = true := bne_iff_ne.mpr c7
        obtain rfl := Option.some.inj H
        have ju : 0 ≤ (qh : Int) := of_decide_eq_true (by first | (with_reducible assumption) | assumption)
        have jt : qh < (l0.length : Int) := of_decide_eq_true (by first | (with_reducible assumption) | assumption)
        obtain ⟨ja, yl, zj⟩ := Kd.at_int HR0.out qh ju jt
        cases yl
        replace ju := eq_true ju
        replace jt := eq_true jt
        have zw : 0 ≤ (qh : Int) := of_decide_eq_true (by first | (with_reducible assumption) | assumption)
        have zu : qh < (l1.length : Int) := of_decide_eq_true (by first | (with_reducible assumption) | assumption)
        obtain ⟨zM, JU, zS⟩ := Kd.at_int HR1.out qh zw zu
        cases JU
        replace zw := eq_true zw
        replace zu := eq_true zu
        go_wp2
        repeat (go_quiet (fail); try go_wp2)
        go_ret
        exact ⟨by first | rfl | (simp; done) | (simp [*]; done), by repeat (first | exact Drawn0.refl _ | apply Drawn0.step)⟩
      ·rw [if_neg c6] at H
       exact absurd H (by simp)
     ·rw [if_neg c5] at H
      exact absurd H (by simp)
    ·rw [if_neg c4] at H
     have c4b0 : decide (qh < (l0.length : Int)) = false := decide_eq_false c4
     clear c4
     obtain rfl := Option.some.inj H
     go_wp2
     repeat (go_quiet (fail); try go_wp2)
     go_ret
     exact ⟨by first | rfl | (simp; done) | (simp [*]; done), by repeat (first | exact Drawn0.refl _ | apply Drawn0.step)⟩
 ·rw [if_neg c3] at H
  have c3b0 : ((l0.length : Int) == (l1.length : Int)) = false := beq_eq_false_iff_ne.mpr c3
  have c3b1 : ((l0.length : Int) != (l1.length : Int)) = true := bne_iff_ne.mpr c3
  have c3b2 : (l0.length == l1.length) = false := by first | simpa using c3 | (simp at c3 ⊢; omega)
  obtain rfl := Option.some.inj H
  go_enter Try.func28, Try.ntmps28
  go_wp2
  repeat (go_quiet (fail); try go_wp2)
  go_ret
  exact ⟨by first | rfl | (simp; done) | (simp [*]; done), by repeat (first | exact Drawn0.refl _ | apply Drawn0.step)⟩


/-! ### zh: function 109 -/
def zh.l0 : Nat → List (List Int) → List (List Int) → Int → Option (Bool)
 | 0, _, _, _ => none
 | k + 1, x0, x1, x5 => if x5 < (x0.length : Int) then (if 0 ≤ x5 then (if x5 < (x1.length : Int) then ((jx.f k (qP x0 x5) (qP x1 x5)).bind fun qx => (if qx = true then (zh.l0 k x0 x1 (wrap64 (x5 + 1))) else (some false))) else (none)) else (none)) else (some true)
def zh.f (k : Nat) (l0 : List (List Int)) (l1 : List (List Int)) : Option (Bool) := if (l0.length : Int) = (l1.length : Int) then (zh.l0 k l0 l1 0) else (some false)
set_option maxHeartbeats 8000000 in
set_option maxRecDepth 100000 in
theorem zh.calls (k : Nat) (A0 : Option Addr) (c0 : Nat) (l0 : List (List Int)) (A1 : Option Addr) (c1 : Nat) (l1 : List (List Int)) (r : Bool) (w : World) (hr0 : Kd.C (Kd.slice 5 (Kd.int .u8)) w A0 l0.length l0) (hc0 : l0.length ≤ c0) (hr1 : Kd.C (Kd.slice 5 (Kd.int .u8)) w A1 l1.length l1) (hc1 : l1.length ≤ c1) (h : zh.f k l0 l1 = some r) :
  Calls Try.prog 109 #[.slice A0 l0.length c0, .slice A1 l1.length c1] w fun e w' => e = .returned (.bool r) ∧ Drawn0 w w' := by
 have HR0 := ak hr0
 have HC0 := ak hc0
 clear hr0 hc0
 have HR1 := ak hr1
 have HC1 := ak hc1
 clear hr1 hc1
 have H : (if (l0.length : Int) = (l1.length : Int) then (zh.l0 k l0 l1 0) else (some false)) = some r := h
 clear h
 by_cases c3 : (l0.length : Int) = (l1.length : Int)
 ·rw [if_pos c3] at H
  have c3b0 : ((l0.length : Int) == (l1.length : Int)) = true := beq_iff_eq.mpr c3
  have c3b1 : ((l0.length : Int) != (l1.length : Int)) = false := bne_eq_false_iff_eq.mpr c3
  have c3b2 : (l0.length == l1.length) = true := by first | simpa using c3 | (simp at c3 ⊢; omega)
  clear c3
  have H' := ak H
  clear H
  go_enter Try.func109, Try.ntmps109
  go_wp2
  repeat (go_quiet (fail); try go_wp2)
  go_loopg [5] k (fun kq v5 w' => ∃ (qh : Int), v5 = .int .i64 qh ∧ Aside0 (zh.l0 kq l0 l1 qh = some r) ∧ Aside0 (kq ≤ k) ∧ Drawn0 w w')
  case atStart => exact ⟨(0), (by first | rfl | (simp; done) | (simp [*]; done)), H', ⟨Nat.le_refl _⟩, by repeat (first | exact Drawn0.refl _ | apply Drawn0.step)⟩
  case round =>
   clear H'
   try clear c1
   try clear p2
   try clear c3
   try clear c3b0
   try clear c3b1
   try clear c3b2
   obtain ⟨qh, rfl, HA, HK1, ⟨m1, rfl⟩⟩ := hrel
   cases gk with
   | zero => exact absurd HA.out (by simp [zh.l0])
   | succ k1 =>
    have H := HA.out
    clear HA
    simp only [zh.l0] at H
    by_cases c4 : qh < (l0.length : Int)
    ·rw [if_pos c4] at H
     have c4b0 : decide (qh < (l0.length : Int)) = true := decide_eq_true c4
     clear c4
     by_cases c5 : 0 ≤ qh
     ·rw [if_pos c5] at H
      have c5b0 : decide (0 ≤ qh) = true := decide_eq_true c5
      clear c5
      by_cases c6 : qh < (l1.length : Int)
      ·rw [if_pos c6] at H
       have c6b0 : decide (qh < (l1.length : Int)) = true := decide_eq_true c6
       clear c6
       replace H := Option.bind_eq_some_iff.mp H
       obtain ⟨qx, A70, H⟩ := H
       replace H : (if qx = true then (zh.l0 k1 l0 l1 (wrap64 (qh + 1))) else (some false)) = some r := H
       have A7 := ak A70
       clear A70
       by_cases c8 : qx = true
       ·subst c8
        have H1 : (zh.l0 k1 l0 l1 (wrap64 (qh + 1))) = some r := by rw [if_pos rfl] at H; exact H
        clear H
        have H := H1
        clear H1
        have H' := ak H
        clear H
        have ju : 0 ≤ (qh : Int) := of_decide_eq_true (by first | (with_reducible assumption) | assumption)
        have jt : qh < (l0.length : Int) := of_decide_eq_true (by first | (with_reducible assumption) | assumption)
        obtain ⟨ja, Yi, Yd, yl, zj, ym, yn⟩ := Ju HR0.out qh ju jt
        cases yl
        have Qt := ak yn
        have QQ := ak ym
        clear yn ym
        replace ju := eq_true ju
        replace jt := eq_true jt
        have zw : 0 ≤ (qh : Int) := of_decide_eq_true (by first | (with_reducible assumption) | assumption)
        have zu : qh < (l1.length : Int) := of_decide_eq_true (by first | (with_reducible assumption) | assumption)
        obtain ⟨zM, Xe, Xb, JU, zS, Jc, Jl⟩ := Ju HR1.out qh zw zu
        cases JU
        have Jm := ak Jl
        have Zq := ak Jc
        clear Jl Jc
        replace zw := eq_true zw
        replace zu := eq_true zu
        go_wp2_with (first | (go_at_call 28; (with_reducible refine (jx.calls k1 _ _ (qP l0 qh) _ _ (qP l1 qh) true _ ?qk ?qj ?qw ?qy A7.out).mono ?_); (case qk => repeat (first | exact Qt.out | (with_reducible refine Kd.C_alloc ?_ _) | (with_reducible refine Kd.C_drewN ?_ _) | (with_reducible refine Kd.C_drew ?_))); (case qj => exact QQ.out); (case qw => repeat (first | exact Jm.out | (with_reducible refine Kd.C_alloc ?_ _) | (with_reducible refine Kd.C_drewN ?_ _) | (with_reducible refine Kd.C_drew ?_))); (case qy => exact Zq.out); rintro e w' ⟨rfl, ⟨nd, rfl⟩⟩; (try first | exact ⟨rfl, _, World.drewN_drewN _ _ _⟩ | exact ⟨rfl, _, Eq.trans (World.drewN_drewN _ _ _) (congrArg (World.drewN _) (Nat.add_assoc _ _ _))⟩)))
        repeat (go_quiet (first | (go_at_call 28; (with_reducible refine (jx.calls k1 _ _ (qP l0 qh) _ _ (qP l1 qh) true _ ?qk ?qj ?qw ?qy A7.out).mono ?_); (case qk => repeat (first | exact Qt.out | (with_reducible refine Kd.C_alloc ?_ _) | (with_reducible refine Kd.C_drewN ?_ _) | (with_reducible refine Kd.C_drew ?_))); (case qj => exact QQ.out); (case qw => repeat (first | exact Jm.out | (with_reducible refine Kd.C_alloc ?_ _) | (with_reducible refine Kd.C_drewN ?_ _) | (with_reducible refine Kd.C_drew ?_))); (case qy => exact Zq.out); rintro e w' ⟨rfl, ⟨nd, rfl⟩⟩; (try first | exact ⟨rfl, _, World.drewN_drewN _ _ _⟩ | exact ⟨rfl, _, Eq.trans (World.drewN_drewN _ _ _) (congrArg (World.drewN _) (Nat.add_assoc _ _ _))⟩))); try go_wp2_with (first | (go_at_call 28; (with_reducible refine (jx.calls k1 _ _ (qP l0 qh) _ _ (qP l1 qh) true _ ?qk ?qj ?qw ?qy A7.out).mono ?_); (case qk => repeat (first | exact Qt.out | (with_reducible refine Kd.C_alloc ?_ _) | (with_reducible refine Kd.C_drewN ?_ _) | (with_reducible refine Kd.C_drew ?_))); (case qj => exact QQ.out); (case qw => repeat (first | exact Jm.out | (with_reducible refine Kd.C_alloc ?_ _) | (with_reducible refine Kd.C_drewN ?_ _) | (with_reducible refine Kd.C_drew ?_))); (case qy => exact Zq.out); rintro e w' ⟨rfl, ⟨nd, rfl⟩⟩; (try first | exact ⟨rfl, _, World.drewN_drewN _ _ _⟩ | exact ⟨rfl, _, Eq.trans (World.drewN_drewN _ _ _) (congrArg (World.drewN _) (Nat.add_assoc _ _ _))⟩))))
        go_roundg k1
        case measure => have := HK1.out; omega
        case rel => exact ⟨(wrap64 (qh + 1)), (by first | rfl | (simp; done) | (simp [*]; done)), H', ⟨by have := HK1.out; omega⟩, by repeat (first | exact Drawn0.refl _ | apply Drawn0.step)⟩
       ·replace c8 := Bool.eq_false_iff.mpr c8
        subst c8
        have H1 : (some false) = some r := by rw [if_neg (show ¬ (false = true) by decide)] at H; exact H
        clear H
        have H := H1
        clear H1
        obtain rfl := Option.some.inj H
        have ju : 0 ≤ (qh : Int) := of_decide_eq_true (by first | (with_reducible assumption) | assumption)
        have jt : qh < (l0.length : Int) := of_decide_eq_true (by first | (with_reducible assumption) | assumption)
        obtain ⟨ja, Yi, Yd, yl, zj, ym, yn⟩ := Ju HR0.out qh ju jt
        cases yl
        have Qt := ak yn
        have QQ := ak ym
        clear yn ym
        replace ju := eq_true ju
        replace jt := eq_true jt
        have zw : 0 ≤ (qh : Int) := of_decide_eq_true (by first | (with_reducible assumption) | assumption)
        have zu : qh < (l1.length : Int) := of_decide_eq_true (by first | (with_reducible assumption) | assumption)
        obtain ⟨zM, Xe, Xb, JU, zS, Jc, Jl⟩ := Ju HR1.out qh zw zu
        cases JU
        have Jm := ak Jl
        have Zq := ak Jc
        clear Jl Jc
        replace zw := eq_true zw
        replace zu := eq_true zu
        go_wp2_with (first | (go_at_call 28; (with_reducible refine (jx.calls k1 _ _ (qP l0 qh) _ _ (qP l1 qh) false _ ?qk ?qj ?qw ?qy A7.out).mono ?_); (case qk => repeat (first | exact Qt.out | (with_reducible refine Kd.C_alloc ?_ _) | (with_reducible refine Kd.C_drewN ?_ _) | (with_reducible refine Kd.C_drew ?_))); (case qj => exact QQ.out); (case qw => repeat (first | exact Jm.out | (with_reducible refine Kd.C_alloc ?_ _) | (with_reducible refine Kd.C_drewN ?_ _) | (with_reducible refine Kd.C_drew ?_))); (case qy => exact Zq.out); rintro e w' ⟨rfl, ⟨nd, rfl⟩⟩; (try first | exact ⟨rfl, _, World.drewN_drewN _ _ _⟩ | exact ⟨rfl, _, Eq.trans (World.drewN_drewN _ _ _) (congrArg (World.drewN _) (Nat.add_assoc _ _ _))⟩)))
        repeat (go_quiet (first | (go_at_call 28; (with_reducible refine (jx.calls k1 _ _ (qP l0 qh) _ _ (qP l1 qh) false _ ?qk ?qj ?qw ?qy A7.out).mono ?_); (case qk => repeat (first | exact Qt.out | (with_reducible refine Kd.C_alloc ?_ _) | (with_reducible refine Kd.C_drewN ?_ _) | (with_reducible refine Kd.C_drew ?_))); (case qj => exact QQ.out); (case qw => repeat (first | exact Jm.out | (with_reducible refine Kd.C_alloc ?_ _) | (with_reducible refine Kd.C_drewN ?_ _) | (with_reducible refine Kd.C_drew ?_))); (case qy => exact Zq.out); rintro e w' ⟨rfl, ⟨nd, rfl⟩⟩; (try first | exact ⟨rfl, _, World.drewN_drewN _ _ _⟩ | exact ⟨rfl, _, Eq.trans (World.drewN_drewN _ _ _) (congrArg (World.drewN _) (Nat.add_assoc _ _ _))⟩))); try go_wp2_with (first | (go_at_call 28; (with_reducible refine (jx.calls k1 _ _ (qP l0 qh) _ _ (qP l1 qh) false _ ?qk ?qj ?qw ?qy A7.out).mono ?_); (case qk => repeat (first | exact Qt.out | (with_reducible refine Kd.C_alloc ?_ _) | (with_reducible refine Kd.C_drewN ?_ _) | (with_reducible refine Kd.C_drew ?_))); (case qj => exact QQ.out); (case qw => repeat (first | exact Jm.out | (with_reducible refine Kd.C_alloc ?_ _) | (with_reducible refine Kd.C_drewN ?_ _) | (with_reducible refine Kd.C_drew ?_))); (case qy => exact Zq.out); rintro e w' ⟨rfl, ⟨nd, rfl⟩⟩; (try first | exact ⟨rfl, _, World.drewN_drewN _ _ _⟩ | exact ⟨rfl, _, Eq.trans (World.drewN_drewN _ _ _) (congrArg (World.drewN _) (Nat.add_assoc _ _ _))⟩))))
        go_ret
        exact ⟨by first | rfl | (simp; done) | (simp [*]; done), by repeat (first | exact Drawn0.refl _ | apply Drawn0.step)⟩
      ·rw [if_neg c6] at H
       exact absurd H (by simp)
     ·rw [if_neg c5] at H
      exact absurd H (by simp)
    ·rw [if_neg c4] at H
     have c4b0 : decide (qh < (l0.length : Int)) = false := decide_eq_false c4
     clear c4
     obtain rfl := Option.some.inj H
     go_wp2
     repeat (go_quiet (fail); try go_wp2)
     go_ret
     exact ⟨by first | rfl | (simp; done) | (simp [*]; done), by repeat (first | exact Drawn0.refl _ | apply Drawn0.step)⟩
 ·rw [if_neg c3] at H
  have c3b0 : ((l0.length : Int) == (l1.length : Int)) = false := beq_eq_false_iff_ne.mpr c3
  have c3b1 : ((l0.length : Int) != (l1.length : Int)) = true := bne_iff_ne.mpr c3
  have c3b2 : (l0.length == l1.length) = false := by first | simpa using c3 | (simp at c3 ⊢; omega)
  obtain rfl := Option.some.inj H
  go_enter Try.func109, Try.ntmps109
  go_wp2
  repeat (go_quiet (fail); try go_wp2)
  go_ret
  exact ⟨by first | rfl | (simp; done) | (simp [*]; done), by repeat (first | exact Drawn0.refl _ | apply Drawn0.step)⟩


/-! ### jR: function 43 -/
def jR.f (k : Nat) (qd : List (List Int)) (qn : List (List Int)) : Option (Bool) := (zh.f k qd qn).bind fun qx => (if qx = true then (some true) else (some false))
set_option maxHeartbeats 8000000 in
set_option maxRecDepth 100000 in
theorem jR.calls (k : Nat) (qq : Option Addr) (qp : Nat) (qd : List (List Int)) (jn : Option Addr) (jm : Nat) (qn : List (List Int)) (r : Bool) (w : World) (jd : Kd.C (Kd.slice 5 (Kd.int .u8)) w qq qd.length qd) (jg : qd.length ≤ qp) (yA : Kd.C (Kd.slice 5 (Kd.int .u8)) w jn qn.length qn) (yS : qn.length ≤ jm) (h : jR.f k qd qn = some r) :
  Calls Try.prog 43 #[.agg #[.slice qq qd.length qp], .agg #[.slice jn qn.length jm]] w fun e w' => e = .returned (.bool r) ∧ Below w.heap.size w w' := by
 have Ys := Try.underlying31
 have qW := ak jd
 have jb := ak jg
 clear jd jg
 have yo := ak yA
 have yE := ak yS
 clear yA yS
 have HB := ak (Below.refl w.heap.size w)
 have H : ((zh.f k qd qn).bind fun qx => (if qx = true then (some true) else (some false))) = some r := h
 clear h
 replace H := Option.bind_eq_some_iff.mp H
 obtain ⟨qx, A30, H⟩ := H
 replace H : (if qx = true then (some true) else (some false)) = some r := H
 have A3 := ak A30
 clear A30
 by_cases c4 : qx = true
 ·subst c4
  have H1 : (some true) = some r := by rw [if_pos rfl] at H; exact H
  clear H
  have H := H1
  clear H1
  obtain rfl := Option.some.inj H
  go_enter Try.func43, Try.ntmps43
  go_wp2_with (first | ((with_reducible refine gate_dst (N := 2) rfl ?_); refine boxed (N := 2) rfl rfl (cs := #[.slice qq qd.length qp]) (t := 31) HB.out (by first | (go_simp; done) | (go_simp; rfl)) ?_; clear HB; intro qi w5 hg HB qc qm hb; have jD := qm; clear hb hg) | ((with_reducible refine gate_dst (N := 3) rfl ?_); refine box_event ?hg (N := 3) ?hd (cs := #[.slice jn qn.length jm]) (t := 31) ?hr ?_; (case hd => rfl); (case hg => rfl); (case hr => first | (go_simp; done) | (go_simp; rfl)); intro qg hg w6 hbox hb; have qf := ak (hbox); have QS := ak ((by rw [hg]; exact (below_size (bw HB.out)) : w.heap.size ≤ qg)); have ji := ak ((by rw [hg]; exact (below_size (bw HB.out)) : w.heap.size ≤ qg)); replace HB := ak (below_step (bw HB.out) hb); have qO := ak ((by rw [hg]; exact Nat.ne_of_lt (blk_lt (bk qc.out)) : qi ≠ qg)); have qN := ak ((by rw [hg]; exact Nat.ne_of_gt (blk_lt (bk qc.out)) : qg ≠ qi)); replace qc := ak (blk_below (bk qc.out) hb); clear hb hbox hg; have qou := qO.out; have qos := qN.out; obtain ⟨qam, qal⟩ := cells1 qc.out; obtain ⟨Js, Jr⟩ := cells1 qf.out) | ((with_reducible refine gate_callee (f := 109) rfl ?_); refine goesL_ (some 9) rfl rfl Try.func109 (by kernel_rfl) rfl #[.slice qq qd.length qp, .slice jn qn.length jm] rfl (by first | rfl | (simp only [List.map_toArray, List.map_cons, List.map_nil]; first | done | rfl)) ?_; (with_reducible refine (zh.calls k _ _ qd _ _ qn true _ ?qk ?qj ?qw ?qy A3.out).mono ?_); (case qk => exact cw qW.out HB.out); (case qj => exact jb.out); (case qw => exact cw yo.out HB.out); (case qy => exact yE.out); rintro e w' ⟨rfl, ⟨nd, rfl⟩⟩; refine ⟨_, rfl, ?_⟩))
  go_ret
  exact ⟨by first | rfl | (simp [errW_none, errW_some] <;> rfl) | (simp [*, errW_none, errW_some] <;> rfl), bw HB.out⟩
 ·replace c4 := Bool.eq_false_iff.mpr c4
  subst c4
  have H1 : (some false) = some r := by rw [if_neg (show ¬ (false = true) by decide)] at H; exact H
  clear H
  have H := H1
  clear H1
  obtain rfl := Option.some.inj H
  go_enter Try.func43, Try.ntmps43
  go_wp2_with (first | ((with_reducible refine gate_dst (N := 2) rfl ?_); refine boxed (N := 2) rfl rfl (cs := #[.slice qq qd.length qp]) (t := 31) HB.out (by first | (go_simp; done) | (go_simp; rfl)) ?_; clear HB; intro qi w10 hg HB qc qm hb; have jD := qm; clear hb hg) | ((with_reducible refine gate_dst (N := 3) rfl ?_); refine box_event ?hg (N := 3) ?hd (cs := #[.slice jn qn.length jm]) (t := 31) ?hr ?_; (case hd => rfl); (case hg => rfl); (case hr => first | (go_simp; done) | (go_simp; rfl)); intro qg hg w11 hbox hb; have qf := ak (hbox); have QS := ak ((by rw [hg]; exact (below_size (bw HB.out)) : w.heap.size ≤ qg)); have ji := ak ((by rw [hg]; exact (below_size (bw HB.out)) : w.heap.size ≤ qg)); replace HB := ak (below_step (bw HB.out) hb); have qO := ak ((by rw [hg]; exact Nat.ne_of_lt (blk_lt (bk qc.out)) : qi ≠ qg)); have qN := ak ((by rw [hg]; exact Nat.ne_of_gt (blk_lt (bk qc.out)) : qg ≠ qi)); replace qc := ak (blk_below (bk qc.out) hb); clear hb hbox hg; have qpO := qO.out; have qpL := qN.out; obtain ⟨QN, QM⟩ := cells1 qc.out; obtain ⟨XW, XU⟩ := cells1 qf.out) | ((with_reducible refine gate_callee (f := 109) rfl ?_); refine goesL_ (some 9) rfl rfl Try.func109 (by kernel_rfl) rfl #[.slice qq qd.length qp, .slice jn qn.length jm] rfl (by first | rfl | (simp only [List.map_toArray, List.map_cons, List.map_nil]; first | done | rfl)) ?_; (with_reducible refine (zh.calls k _ _ qd _ _ qn false _ ?qk ?qj ?qw ?qy A3.out).mono ?_); (case qk => exact cw qW.out HB.out); (case qj => exact jb.out); (case qw => exact cw yo.out HB.out); (case qy => exact yE.out); rintro e w' ⟨rfl, ⟨nd, rfl⟩⟩; refine ⟨_, rfl, ?_⟩))
  go_ret
  exact ⟨by first | rfl | (simp [errW_none, errW_some] <;> rfl) | (simp [*, errW_none, errW_some] <;> rfl), bw HB.out⟩


/-! ### zn: function 65 -/
def zn.l0 : Nat → List Int → List Int → Int → Option (Bool)
 | 0, _, _, _ => none
 | k + 1, x0, x1, x5 => if x5 < (x0.length : Int) then (if 0 ≤ x5 then (if x5 < (x1.length : Int) then (if (rd x0 x5) = (rd x1 x5) then (zn.l0 k x0 x1 (wrap64 (x5 + 1))) else (some false)) else (none)) else (none)) else (some true)
def zn.f (k : Nat) (l0 : List Int) (l1 : List Int) : Option (Bool) := if (l0.length : Int) = (l1.length : Int) then (zn.l0 k l0 l1 0) else (some false)
set_option maxHeartbeats 8000000 in
set_option maxRecDepth 100000 in
theorem zn.calls (k : Nat) (A0 : Option Addr) (c0 : Nat) (l0 : List Int) (A1 : Option Addr) (c1 : Nat) (l1 : List Int) (r : Bool) (w : World) (hr0 : Kd.C (Kd.int .i64) w A0 l0.length l0) (hc0 : l0.length ≤ c0) (hr1 : Kd.C (Kd.int .i64) w A1 l1.length l1) (hc1 : l1.length ≤ c1) (h : zn.f k l0 l1 = some r) :
  Calls Try.prog 65 #[.slice A0 l0.length c0, .slice A1 l1.length c1] w fun e w' => e = .returned (.bool r) ∧ Drawn0 w w' := by
 have HR0 := ak hr0
 have HC0 := ak hc0
 clear hr0 hc0
 have HR1 := ak hr1
 have HC1 := ak hc1
 clear hr1 hc1
 have H : (if (l0.length : Int) = (l1.length : Int) then (zn.l0 k l0 l1 0) else (some false)) = some r := h
 clear h
 by_cases c3 : (l0.length : Int) = (l1.length : Int)
 ·rw [if_pos c3] at H
  have c3b0 : ((l0.length : Int) == (l1.length : Int)) = true := beq_iff_eq.mpr c3
  have c3b1 : ((l0.length : Int) != (l1.length : Int)) = false := bne_eq_false_iff_eq.mpr c3
  have c3b2 : (l0.length == l1.length) = true := by first | simpa using c3 | (simp at c3 ⊢; omega)
  clear c3
  have H' := ak H
  clear H
  go_enter Try.func65, Try.ntmps65
  go_wp2
  repeat (go_quiet (fail); try go_wp2)
  go_loopg [5] k (fun kq v5 w' => ∃ (qh : Int), v5 = .int .i64 qh ∧ Aside0 (zn.l0 kq l0 l1 qh = some r) ∧ Aside0 (kq ≤ k) ∧ Drawn0 w w')
  case atStart => exact ⟨(0), (by first | rfl | (simp; done) | (simp [*]; done)), H', ⟨Nat.le_refl _⟩, by repeat (first | exact Drawn0.refl _ | apply Drawn0.step)⟩
  case round =>
   clear H'
   try clear c1
   try clear p2
   try clear c3
   try clear c3b0
   try clear c3b1
   try clear c3b2
   obtain ⟨qh, rfl, HA, HK1, ⟨m1, rfl⟩⟩ := hrel
   cases gk with
   | zero => exact absurd HA.out (by simp [zn.l0])
   | succ k1 =>
    have H := HA.out
    clear HA
    simp only [zn.l0] at H
    by_cases c4 : qh < (l0.length : Int)
    ·rw [if_pos c4] at H
     have c4b0 : decide (qh < (l0.length : Int)) = true := decide_eq_true c4
     clear c4
     by_cases c5 : 0 ≤ qh
     ·rw [if_pos c5] at H
      have c5b0 : decide (0 ≤ qh) = true := decide_eq_true c5
      clear c5
      by_cases c6 : qh < (l1.length : Int)
      ·rw [if_pos c6] at H
       have c6b0 : decide (qh < (l1.length : Int)) = true := decide_eq_true c6
       clear c6
       by_cases c7 : (rd l0 qh) = (rd l1 qh)
       ·rw [if_pos c7] at H
        have c7b0 : ((rd l0 qh) == (rd l1 qh)) = true := beq_iff_eq.mpr c7
        have c7b1 : ((rd l0 qh) != (rd l1 qh)) = false := bne_eq_false_iff_eq.mpr c7
        clear c7
        have H' := ak H
        clear H
        have ju : 0 ≤ (qh : Int) := of_decide_eq_true (by first | (with_reducible assumption) | assumption)
        have jt : qh < (l0.length : Int) := of_decide_eq_true (by first | (with_reducible assumption) | assumption)
        obtain ⟨ja, yl, zj⟩ := Kd.at_int HR0.out qh ju jt
        cases yl
        replace ju := eq_true ju
        replace jt := eq_true jt
        have zw : 0 ≤ (qh : Int) := of_decide_eq_true (by first | (with_reducible assumption) | assumption)
        have zu : qh < (l1.length : Int) := of_decide_eq_true (by first | (with_reducible assumption) | assumption)
        obtain ⟨zM, JU, zS⟩ := Kd.at_int HR1.out qh zw zu
        cases JU
        replace zw := eq_true zw
        replace zu := eq_true zu
        go_wp2
        repeat (go_quiet (fail); try go_wp2)
        go_roundg k1
        case measure => have := HK1.out; omega
        case rel => exact ⟨(wrap64 (qh + 1)), (by first | rfl | (simp; done) | (simp [*]; done)), H', ⟨by have := HK1.out; omega⟩, by repeat (first | exact Drawn0.refl _ | apply Drawn0.step)⟩
       ·rw [if_neg c7] at H
        have c7b0 : ((rd l0 qh) == (rd l1 qh)) = false := beq_eq_false_iff_ne.mpr c7
        have c7b1 : ((rd l0 qh) != (rd l1 qh)) = true := bne_iff_ne.mpr c7
        obtain rfl := Option.some.inj H
        have ju : 0 ≤ (qh : Int) := of_decide_eq_true (by first | (with_reducible assumption) | assumption)
        have jt : qh < (l0.length : Int) := of_decide_eq_true (by first | (with_reducible assumption) | assumption)
        obtain ⟨ja, yl, zj⟩ := Kd.at_int HR0.out qh ju jt
        cases yl
        replace ju := eq_true ju
        replace jt := eq_true jt
        have zw : 0 ≤ (qh : Int) := of_decide_eq_true (by first | (with_reducible assumption) | assumption)
        have zu : qh < (l1.length : Int) := of_decide_eq_true (by first | (with_reducible assumption) | assumption)
        obtain ⟨zM, JU, zS⟩ := Kd.at_int HR1.out qh zw zu
        cases JU
        replace zw := eq_true zw
        replace zu := eq_true zu
        go_wp2
        repeat (go_quiet (fail); try go_wp2)
        go_ret
        exact ⟨by first | rfl | (simp; done) | (simp [*]; done), by repeat (first | exact Drawn0.refl _ | apply Drawn0.step)⟩
      ·rw [if_neg c6] at H
       exact absurd H (by simp)
     ·rw [if_neg c5] at H
      exact absurd H (by simp)
    ·rw [if_neg c4] at H
     have c4b0 : decide (qh < (l0.length : Int)) = false := decide_eq_false c4
     clear c4
     obtain rfl := Option.some.inj H
     go_wp2
     repeat (go_quiet (fail); try go_wp2)
     go_ret
     exact ⟨by first | rfl | (simp; done) | (simp [*]; done), by repeat (first | exact Drawn0.refl _ | apply Drawn0.step)⟩
 ·rw [if_neg c3] at H
  have c3b0 : ((l0.length : Int) == (l1.length : Int)) = false := beq_eq_false_iff_ne.mpr c3
  have c3b1 : ((l0.length : Int) != (l1.length : Int)) = true := bne_iff_ne.mpr c3
  have c3b2 : (l0.length == l1.length) = false := by first | simpa using c3 | (simp at c3 ⊢; omega)
  obtain rfl := Option.some.inj H
  go_enter Try.func65, Try.ntmps65
  go_wp2
  repeat (go_quiet (fail); try go_wp2)
  go_ret
  exact ⟨by first | rfl | (simp; done) | (simp [*]; done), by repeat (first | exact Drawn0.refl _ | apply Drawn0.step)⟩


/-! ### YZ: function 17 -/
def YZ.f (k : Nat) (qd : List (List Int)) (qu : Int) (qH : Int) (qF : Int) (qA : List (List Int)) (qt : List Int) (qo : List Int) (qn : List (List Int)) (zO : Int) (yv : Int) (yu : Int) (zG : List (List Int)) (zF : List Int) (zE : List Int) : Option (Bool) := (jR.f k qd qn).bind fun qx => (if qx = true then (if qu = zO then (if qH = yv then (if qF = yu then ((jR.f k qA zG).bind fun qK => (if qK = true then ((jx.f k qt zF).bind fun qS => (if qS = true then ((zn.f k qo zE).bind fun zy => (if zy = true then (some true) else (some false))) else (some false))) else (some false))) else (some false)) else (some false)) else (some false)) else (some false))
set_option maxHeartbeats 8000000 in
set_option maxRecDepth 100000 in
theorem YZ.calls (k : Nat) (qq : Option Addr) (qp : Nat) (qd : List (List Int)) (qu : Int) (qH : Int) (qF : Int) (jC : Option Addr) (jB : Nat) (qA : List (List Int)) (jK : Option Addr) (jJ : Nat) (qt : List Int) (jM : Option Addr) (jL : Nat) (qo : List Int) (jn : Option Addr) (jm : Nat) (qn : List (List Int)) (zO : Int) (yv : Int) (yu : Int) (ZY : Option Addr) (ZX : Nat) (zG : List (List Int)) (Yh : Option Addr) (Yc : Nat) (zF : List Int) (Yv : Option Addr) (Yu : Nat) (zE : List Int) (r : Bool) (w : World) (jd : Kd.C (Kd.slice 5 (Kd.int .u8)) w qq qd.length qd) (jg : qd.length ≤ qp) (QF : Kd.C (Kd.slice 5 (Kd.int .u8)) w jC qA.length qA) (QI : qA.length ≤ jB) (QE : Kd.C (Kd.int .u8) w jK qt.length qt) (QH : qt.length ≤ jJ) (QD : Kd.C (Kd.int .i64) w jM qo.length qo) (QG : qo.length ≤ jL) (yA : Kd.C (Kd.slice 5 (Kd.int .u8)) w jn qn.length qn) (yS : qn.length ≤ jm) (qeq : Kd.C (Kd.slice 5 (Kd.int .u8)) w ZY zG.length zG) (qet : zG.length ≤ ZX) (qep : Kd.C (Kd.int .u8) w Yh zF.length zF) (qes : zF.length ≤ Yc) (qeo : Kd.C (Kd.int .i64) w Yv zE.length zE) (qer : zE.length ≤ Yu) (h : YZ.f k qd qu qH qF qA qt qo qn zO yv yu zG zF zE = some r) :
  Calls Try.prog 17 #[.agg #[.slice qq qd.length qp, .int .i64 qu, .int .i64 qH, .int .i64 qF, .slice jC qA.length jB, .slice jK qt.length jJ, .slice jM qo.length jL], .agg #[.slice jn qn.length jm, .int .i64 zO, .int .i64 yv, .int .i64 yu, .slice ZY zG.length ZX, .slice Yh zF.length Yc, .slice Yv zE.length Yu]] w fun e w' => e = .returned (.bool r) ∧ Below w.heap.size w w' := by
 have qak := Try.underlying33
 have Ys := Try.underlying31
 have qW := ak jd
 have jb := ak jg
 clear jd jg
 have Jo := ak QF
 have Jp := ak QI
 clear QF QI
 have ZF := ak QE
 have Yp := ak QH
 clear QE QH
 have Qd := ak QD
 have YP := ak QG
 clear QD QG
 have yo := ak yA
 have yE := ak yS
 clear yA yS
 have qew := ak qeq
 have qey := ak qet
 clear qeq qet
 have qgd := ak qep
 have qge := ak qes
 clear qep qes
 have qhD := ak qeo
 have qhS := ak qer
 clear qeo qer
 have HB := ak (Below.refl w.heap.size w)
 have H : ((jR.f k qd qn).bind fun qx => (if qx = true then (if qu = zO then (if qH = yv then (if qF = yu then ((jR.f k qA zG).bind fun qK => (if qK = true then ((jx.f k qt zF).bind fun qS => (if qS = true then ((zn.f k qo zE).bind fun zy => (if zy = true then (some true) else (some false))) else (some false))) else (some false))) else (some false)) else (some false)) else (some false)) else (some false))) = some r := h
 clear h
 replace H := Option.bind_eq_some_iff.mp H
 obtain ⟨qx, A30, H⟩ := H
 replace H : (if qx = true then (if qu = zO then (if qH = yv then (if qF = yu then ((jR.f k qA zG).bind fun qK => (if qK = true then ((jx.f k qt zF).bind fun qS => (if qS = true then ((zn.f k qo zE).bind fun zy => (if zy = true then (some true) else (some false))) else (some false))) else (some false))) else (some false)) else (some false)) else (some false)) else (some false)) = some r := H
 have A3 := ak A30
 clear A30
 by_cases c4 : qx = true
 ·subst c4
  have H1 : (if qu = zO then (if qH = yv then (if qF = yu then ((jR.f k qA zG).bind fun qK => (if qK = true then ((jx.f k qt zF).bind fun qS => (if qS = true then ((zn.f k qo zE).bind fun zy => (if zy = true then (some true) else (some false))) else (some false))) else (some false))) else (some false)) else (some false)) else (some false)) = some r := by rw [if_pos rfl] at H; exact H
  clear H
  have H := H1
  clear H1
  by_cases c5 : qu = zO
  ·rw [if_pos c5] at H
   have c5b0 : (qu == zO) = true := beq_iff_eq.mpr c5
   have c5b1 : (qu != zO) = false := bne_eq_false_iff_eq.mpr c5
   clear c5
   by_cases c6 : qH = yv
   ·rw [if_pos c6] at H
    have c6b0 : (qH == yv) = true := beq_iff_eq.mpr c6
    have c6b1 : (qH != yv) = false := bne_eq_false_iff_eq.mpr c6
    clear c6
    by_cases c7 : qF = yu
    ·rw [if_pos c7] at H
     have c7b0 : (qF == yu) = true := beq_iff_eq.mpr c7
     have c7b1 : (qF != yu) = false := bne_eq_false_iff_eq.mpr c7
     clear c7
     replace H := Option.bind_eq_some_iff.mp H
     obtain ⟨qK, A80, H⟩ := H
     replace H : (if qK = true then ((jx.f k qt zF).bind fun qS => (if qS = true then ((zn.f k qo zE).bind fun zy => (if zy = true then (some true) else (some false))) else (some false))) else (some false)) = some r := H
     have A8 := ak A80
     clear A80
     by_cases c9 : qK = true
     ·subst c9
      have H1 : ((jx.f k qt zF).bind fun qS => (if qS = true then ((zn.f k qo zE).bind fun zy => (if zy = true then (some true) else (some false))) else (some false))) = some r := by rw [if_pos rfl] at H; exact H
      clear H
      have H := H1
      clear H1
      replace H := Option.bind_eq_some_iff.mp H
      obtain ⟨qS, qen, H⟩ := H
      replace H : (if qS = true then ((zn.f k qo zE).bind fun zy => (if zy = true then (some true) else (some false))) else (some false)) = some r := H
      have A10 := ak qen
      clear qen
      by_cases c11 : qS = true
      ·subst c11
       have H1 : ((zn.f k qo zE).bind fun zy => (if zy = true then (some true) else (some false))) = some r := by rw [if_pos rfl] at H; exact H
       clear H
       have H := H1
       clear H1
       replace H := Option.bind_eq_some_iff.mp H
       obtain ⟨zy, qej, H⟩ := H
       replace H : (if zy = true then (some true) else (some false)) = some r := H
       have A12 := ak qej
       clear qej
       by_cases c13 : zy = true
       ·subst c13
        have H1 : (some true) = some r := by rw [if_pos rfl] at H; exact H
        clear H
        have H := H1
        clear H1
        obtain rfl := Option.some.inj H
        go_enter Try.func17, Try.ntmps17
        go_wp2_with (first | ((with_reducible refine gate_dst (N := 2) rfl ?_); refine boxed (N := 2) rfl rfl (cs := #[.slice qq qd.length qp, .int .i64 qu, .int .i64 qH, .int .i64 qF, .slice jC qA.length jB, .slice jK qt.length jJ, .slice jM qo.length jL]) (t := 33) HB.out (by first | (go_simp; done) | (go_simp; rfl)) ?_; clear HB; intro qi w14 hg HB qc qm hb; have jD := qm; clear hb hg) | ((with_reducible refine gate_dst (N := 3) rfl ?_); refine box_event ?hg (N := 3) ?hd (cs := #[.slice jn qn.length jm, .int .i64 zO, .int .i64 yv, .int .i64 yu, .slice ZY zG.length ZX, .slice Yh zF.length Yc, .slice Yv zE.length Yu]) (t := 33) ?hr ?_; (case hd => rfl); (case hg => rfl); (case hr => first | (go_simp; done) | (go_simp; rfl)); intro qg hg w15 hbox hb; have qf := ak (hbox); have QS := ak ((by rw [hg]; exact (below_size (bw HB.out)) : w.heap.size ≤ qg)); have ji := ak ((by rw [hg]; exact (below_size (bw HB.out)) : w.heap.size ≤ qg)); replace HB := ak (below_step (bw HB.out) hb); have qO := ak ((by rw [hg]; exact Nat.ne_of_lt (blk_lt (bk qc.out)) : qi ≠ qg)); have qN := ak ((by rw [hg]; exact Nat.ne_of_gt (blk_lt (bk qc.out)) : qg ≠ qi)); replace qc := ak (blk_below (bk qc.out) hb); clear hb hbox hg; have qEg := qO.out; have qDO := qN.out; obtain ⟨qkG, qoi, qtC, qtB, qtA, qtz, qty, qjN, qnq, qrX, qrW, qrV, qrU, qrT⟩ := cells7 qc.out; obtain ⟨YU, YT, qcP, qcO, qcN, qcM, qcL, YR, YQ, qcu, qct, qcs, qcr, qcq⟩ := cells7 qf.out) | ((with_reducible refine gate_callee (f := 43) rfl ?_); refine goesL_ (some 9) rfl rfl Try.func43 (by kernel_rfl) rfl #[.agg #[.slice qq qd.length qp], .agg #[.slice jn qn.length jm]] rfl (by first | rfl | (simp only [List.map_toArray, List.map_cons, List.map_nil]; first | done | rfl)) ?_; (with_reducible refine (jR.calls k _ _ qd _ _ qn true _ ?qk ?qj ?qw ?qy A3.out).mono ?_); (case qk => exact cw qW.out HB.out); (case qj => exact jb.out); (case qw => exact cw yo.out HB.out); (case qy => exact yE.out); rintro e w19 ⟨rfl, hb⟩; refine ⟨_, rfl, ?_⟩; replace qc := ak (blk_below (bk qc.out) hb); replace qf := ak (blk_below (bk qf.out) hb); replace HB := ak (below_step (bw HB.out) hb); (try clear hb); obtain ⟨qaI, qcK, qd0, qdZ, qdY, qdX, qdW, qaG, qcp, qdK, qdJ, qdI, qdH, qdG⟩ := cells7 qc.out; obtain ⟨qog, qof, qts, qtr, qtq, qtp, qto, qno, qnn, qrN, qrM, qrL, qrK, qrJ⟩ := cells7 qf.out) | ((with_reducible refine gate_callee (f := 43) rfl ?_); refine goesL_ (some 30) rfl rfl Try.func43 (by kernel_rfl) rfl #[.agg #[.slice jC qA.length jB], .agg #[.slice ZY zG.length ZX]] rfl (by first | rfl | (simp only [List.map_toArray, List.map_cons, List.map_nil]; first | done | rfl)) ?_; (with_reducible refine (jR.calls k _ _ qA _ _ zG true _ ?qk ?qj ?qw ?qy A8.out).mono ?_); (case qk => exact cw Jo.out HB.out); (case qj => exact Jp.out); (case qw => exact cw qew.out HB.out); (case qy => exact qey.out); rintro e w22 ⟨rfl, hb⟩; refine ⟨_, rfl, ?_⟩; replace qc := ak (blk_below (bk qc.out) hb); replace qf := ak (blk_below (bk qf.out) hb); replace HB := ak (below_step (bw HB.out) hb); (try clear hb); obtain ⟨qdV, qhs, qoe, qod, qoc, qob, qoa, qdF, qg9, qnm, qnl, qnk, qnj, qni⟩ := cells7 qc.out; obtain ⟨qfY, qhr, qkF, qkE, qkD, qkC, qkB, qfF, qg8, qjM, qjL, qjK, qjJ, qjI⟩ := cells7 qf.out) | ((with_reducible refine gate_callee (f := 28) rfl ?_); refine goesL_ (some 36) rfl rfl Try.func28 (by kernel_rfl) rfl #[.slice jK qt.length jJ, .slice Yh zF.length Yc] rfl (by first | rfl | (simp only [List.map_toArray, List.map_cons, List.map_nil]; first | done | rfl)) ?_; (with_reducible refine (jx.calls k _ _ qt _ _ zF true _ ?qk ?qj ?qw ?qy A10.out).mono ?_); (case qk => exact cw ZF.out HB.out); (case qj => exact Yp.out); (case qw => exact cw qgd.out HB.out); (case qy => exact qge.out); rintro e w' ⟨rfl, ⟨nd, rfl⟩⟩; refine ⟨_, rfl, ?_⟩) | ((with_reducible refine gate_callee (f := 65) rfl ?_); refine goesL_ (some 42) rfl rfl Try.func65 (by kernel_rfl) rfl #[.slice jM qo.length jL, .slice Yv zE.length Yu] rfl (by first | rfl | (simp only [List.map_toArray, List.map_cons, List.map_nil]; first | done | rfl)) ?_; (with_reducible refine (zn.calls k _ _ qo _ _ zE true _ ?qk ?qj ?qw ?qy A12.out).mono ?_); (case qk => repeat (first | exact (Kd.C_below Qd.out (bw HB.out)) | (with_reducible refine Kd.C_alloc ?_ _) | (with_reducible refine Kd.C_drewN ?_ _) | (with_reducible refine Kd.C_drew ?_))); (case qj => exact YP.out); (case qw => repeat (first | exact (Kd.C_below qhD.out (bw HB.out)) | (with_reducible refine Kd.C_alloc ?_ _) | (with_reducible refine Kd.C_drewN ?_ _) | (with_reducible refine Kd.C_drew ?_))); (case qy => exact qhS.out); rintro e w' ⟨rfl, ⟨nd, rfl⟩⟩; refine ⟨_, rfl, ?_⟩))
        go_ret
        exact ⟨by first | rfl | (simp [errW_none, errW_some] <;> rfl) | (simp [*, errW_none, errW_some] <;> rfl), bw HB.out⟩
       ·replace c13 := Bool.eq_false_iff.mpr c13
        subst c13
        have H1 : (some false) = some r := by rw [if_neg (show ¬ (false = true) by decide)] at H; exact H
        clear H
        have H := H1
        clear H1
        obtain rfl := Option.some.inj H
        go_enter Try.func17, Try.ntmps17
        go_wp2_with (first | ((with_reducible refine gate_dst (N := 2) rfl ?_); refine boxed (N := 2) rfl rfl (cs := #[.slice qq qd.length qp, .int .i64 qu, .int .i64 qH, .int .i64 qF, .slice jC qA.length jB, .slice jK qt.length jJ, .slice jM qo.length jL]) (t := 33) HB.out (by first | (go_simp; done) | (go_simp; rfl)) ?_; clear HB; intro qi w25 hg HB qc qm hb; have jD := qm; clear hb hg) | ((with_reducible refine gate_dst (N := 3) rfl ?_); refine box_event ?hg (N := 3) ?hd (cs := #[.slice jn qn.length jm, .int .i64 zO, .int .i64 yv, .int .i64 yu, .slice ZY zG.length ZX, .slice Yh zF.length Yc, .slice Yv zE.length Yu]) (t := 33) ?hr ?_; (case hd => rfl); (case hg => rfl); (case hr => first | (go_simp; done) | (go_simp; rfl)); intro qg hg w26 hbox hb; have qf := ak (hbox); have QS := ak ((by rw [hg]; exact (below_size (bw HB.out)) : w.heap.size ≤ qg)); have ji := ak ((by rw [hg]; exact (below_size (bw HB.out)) : w.heap.size ≤ qg)); replace HB := ak (below_step (bw HB.out) hb); have qO := ak ((by rw [hg]; exact Nat.ne_of_lt (blk_lt (bk qc.out)) : qi ≠ qg)); have qN := ak ((by rw [hg]; exact Nat.ne_of_gt (blk_lt (bk qc.out)) : qg ≠ qi)); replace qc := ak (blk_below (bk qc.out) hb); clear hb hbox hg; have qpN := qO.out; have qpK := qN.out; obtain ⟨qhp, qho, qn4, qn3, qn2, qn1, qn0, qg6, qg5, qnc, qnb, qna, qm9, qm8⟩ := cells7 qc.out; obtain ⟨qfR, qhn, qks, qkr, qkq, qkp, qko, qfy, qg4, qjz, qjy, qjx, qjw, qjv⟩ := cells7 qf.out) | ((with_reducible refine gate_callee (f := 43) rfl ?_); refine goesL_ (some 9) rfl rfl Try.func43 (by kernel_rfl) rfl #[.agg #[.slice qq qd.length qp], .agg #[.slice jn qn.length jm]] rfl (by first | rfl | (simp only [List.map_toArray, List.map_cons, List.map_nil]; first | done | rfl)) ?_; (with_reducible refine (jR.calls k _ _ qd _ _ qn true _ ?qk ?qj ?qw ?qy A3.out).mono ?_); (case qk => exact cw qW.out HB.out); (case qj => exact jb.out); (case qw => exact cw yo.out HB.out); (case qy => exact yE.out); rintro e w30 ⟨rfl, hb⟩; refine ⟨_, rfl, ?_⟩; replace qc := ak (blk_below (bk qc.out) hb); replace qf := ak (blk_below (bk qf.out) hb); replace HB := ak (below_step (bw HB.out) hb); (try clear hb); obtain ⟨qdT, qdS, qfP, qfO, qfN, qfM, qfL, qdD, qdC, qfw, qfv, qfu, qft, qfs⟩ := cells7 qc.out; obtain ⟨qbH, qbG, qbF, qbE, qbD, qbC, qbB, qbp, qbo, qbn, qbm, qbl, qbk, qbj⟩ := cells7 qf.out) | ((with_reducible refine gate_callee (f := 43) rfl ?_); refine goesL_ (some 30) rfl rfl Try.func43 (by kernel_rfl) rfl #[.agg #[.slice jC qA.length jB], .agg #[.slice ZY zG.length ZX]] rfl (by first | rfl | (simp only [List.map_toArray, List.map_cons, List.map_nil]; first | done | rfl)) ?_; (with_reducible refine (jR.calls k _ _ qA _ _ zG true _ ?qk ?qj ?qw ?qy A8.out).mono ?_); (case qk => exact cw Jo.out HB.out); (case qj => exact Jp.out); (case qw => exact cw qew.out HB.out); (case qy => exact qey.out); rintro e w33 ⟨rfl, hb⟩; refine ⟨_, rfl, ?_⟩; replace qc := ak (blk_below (bk qc.out) hb); replace qf := ak (blk_below (bk qf.out) hb); replace HB := ak (below_step (bw HB.out) hb); (try clear hb); obtain ⟨qnZ, qth, qtg, qtf, qte, qtd, qtc, qm7, qrC, qrB, qrA, qrz, qry, qrx⟩ := cells7 qc.out; obtain ⟨qcE, qcD, qdR, qdQ, qdP, qdO, qdN, qcj, qci, qdB, qdA, qdz, qdy, qdx⟩ := cells7 qf.out) | ((with_reducible refine gate_callee (f := 28) rfl ?_); refine goesL_ (some 36) rfl rfl Try.func28 (by kernel_rfl) rfl #[.slice jK qt.length jJ, .slice Yh zF.length Yc] rfl (by first | rfl | (simp only [List.map_toArray, List.map_cons, List.map_nil]; first | done | rfl)) ?_; (with_reducible refine (jx.calls k _ _ qt _ _ zF true _ ?qk ?qj ?qw ?qy A10.out).mono ?_); (case qk => exact cw ZF.out HB.out); (case qj => exact Yp.out); (case qw => exact cw qgd.out HB.out); (case qy => exact qge.out); rintro e w' ⟨rfl, ⟨nd, rfl⟩⟩; refine ⟨_, rfl, ?_⟩) | ((with_reducible refine gate_callee (f := 65) rfl ?_); refine goesL_ (some 42) rfl rfl Try.func65 (by kernel_rfl) rfl #[.slice jM qo.length jL, .slice Yv zE.length Yu] rfl (by first | rfl | (simp only [List.map_toArray, List.map_cons, List.map_nil]; first | done | rfl)) ?_; (with_reducible refine (zn.calls k _ _ qo _ _ zE false _ ?qk ?qj ?qw ?qy A12.out).mono ?_); (case qk => repeat (first | exact (Kd.C_below Qd.out (bw HB.out)) | (with_reducible refine Kd.C_alloc ?_ _) | (with_reducible refine Kd.C_drewN ?_ _) | (with_reducible refine Kd.C_drew ?_))); (case qj => exact YP.out); (case qw => repeat (first | exact (Kd.C_below qhD.out (bw HB.out)) | (with_reducible refine Kd.C_alloc ?_ _) | (with_reducible refine Kd.C_drewN ?_ _) | (with_reducible refine Kd.C_drew ?_))); (case qy => exact qhS.out); rintro e w' ⟨rfl, ⟨nd, rfl⟩⟩; refine ⟨_, rfl, ?_⟩))
        go_ret
        exact ⟨by first | rfl | (simp [errW_none, errW_some] <;> rfl) | (simp [*, errW_none, errW_some] <;> rfl), bw HB.out⟩
      ·replace c11 := Bool.eq_false_iff.mpr c11
       subst c11
       have H1 : (some false) = some r := by rw [if_neg (show ¬ (false = true) by decide)] at H; exact H
       clear H
       have H := H1
       clear H1
       obtain rfl := Option.some.inj H
       go_enter Try.func17, Try.ntmps17
       go_wp2_with (first | ((with_reducible refine gate_dst (N := 2) rfl ?_); refine boxed (N := 2) rfl rfl (cs := #[.slice qq qd.length qp, .int .i64 qu, .int .i64 qH, .int .i64 qF, .slice jC qA.length jB, .slice jK qt.length jJ, .slice jM qo.length jL]) (t := 33) HB.out (by first | (go_simp; done) | (go_simp; rfl)) ?_; clear HB; intro qi w36 hg HB qc qm hb; have jD := qm; clear hb hg) | ((with_reducible refine gate_dst (N := 3) rfl ?_); refine box_event ?hg (N := 3) ?hd (cs := #[.slice jn qn.length jm, .int .i64 zO, .int .i64 yv, .int .i64 yu, .slice ZY zG.length ZX, .slice Yh zF.length Yc, .slice Yv zE.length Yu]) (t := 33) ?hr ?_; (case hd => rfl); (case hg => rfl); (case hr => first | (go_simp; done) | (go_simp; rfl)); intro qg hg w37 hbox hb; have qf := ak (hbox); have QS := ak ((by rw [hg]; exact (below_size (bw HB.out)) : w.heap.size ≤ qg)); have ji := ak ((by rw [hg]; exact (below_size (bw HB.out)) : w.heap.size ≤ qg)); replace HB := ak (below_step (bw HB.out) hb); have qO := ak ((by rw [hg]; exact Nat.ne_of_lt (blk_lt (bk qc.out)) : qi ≠ qg)); have qN := ak ((by rw [hg]; exact Nat.ne_of_gt (blk_lt (bk qc.out)) : qg ≠ qi)); replace qc := ak (blk_below (bk qc.out) hb); clear hb hbox hg; have qvb := qO.out; have qu3 := qN.out; obtain ⟨qkl, qkk, qkj, qki, qkh, qkg, qkf, qjs, qjr, qjq, qjp, qjo, qjn, qjm⟩ := cells7 qc.out; obtain ⟨qtb, qta, qs9, qs8, qs7, qs6, qs5, qrw, qrv, qru, qrt, qrs, qrr, qrq⟩ := cells7 qf.out) | ((with_reducible refine gate_callee (f := 43) rfl ?_); refine goesL_ (some 9) rfl rfl Try.func43 (by kernel_rfl) rfl #[.agg #[.slice qq qd.length qp], .agg #[.slice jn qn.length jm]] rfl (by first | rfl | (simp only [List.map_toArray, List.map_cons, List.map_nil]; first | done | rfl)) ?_; (with_reducible refine (jR.calls k _ _ qd _ _ qn true _ ?qk ?qj ?qw ?qy A3.out).mono ?_); (case qk => exact cw qW.out HB.out); (case qj => exact jb.out); (case qw => exact cw yo.out HB.out); (case qy => exact yE.out); rintro e w41 ⟨rfl, hb⟩; refine ⟨_, rfl, ?_⟩; replace qc := ak (blk_below (bk qc.out) hb); replace qf := ak (blk_below (bk qf.out) hb); replace HB := ak (below_step (bw HB.out) hb); (try clear hb); obtain ⟨qke, qnL, qnK, qnJ, qnI, qnH, qnG, qjl, qmT, qmS, qmR, qmQ, qmP, qmO⟩ := cells7 qc.out; obtain ⟨qs4, qs3, qs2, qs1, qs0, qsZ, qsY, qrp, qro, qrn, qrm, qrl, qrk, qrj⟩ := cells7 qf.out) | ((with_reducible refine gate_callee (f := 43) rfl ?_); refine goesL_ (some 30) rfl rfl Try.func43 (by kernel_rfl) rfl #[.agg #[.slice jC qA.length jB], .agg #[.slice ZY zG.length ZX]] rfl (by first | rfl | (simp only [List.map_toArray, List.map_cons, List.map_nil]; first | done | rfl)) ?_; (with_reducible refine (jR.calls k _ _ qA _ _ zG true _ ?qk ?qj ?qw ?qy A8.out).mono ?_); (case qk => exact cw Jo.out HB.out); (case qj => exact Jp.out); (case qw => exact cw qew.out HB.out); (case qy => exact qey.out); rintro e w44 ⟨rfl, hb⟩; refine ⟨_, rfl, ?_⟩; replace qc := ak (blk_below (bk qc.out) hb); replace qf := ak (blk_below (bk qf.out) hb); replace HB := ak (below_step (bw HB.out) hb); (try clear hb); obtain ⟨qB2, qB1, qB0, qBZ, qBY, qBX, qBW, qzp, qzo, qzn, qzm, qzl, qzk, qzj⟩ := cells7 qc.out; obtain ⟨qkd, qkc, qkb, qka, qj9, qj8, qj7, qjk, qjj, qji, qjh, qjg, qjf, qje⟩ := cells7 qf.out) | ((with_reducible refine gate_callee (f := 28) rfl ?_); refine goesL_ (some 36) rfl rfl Try.func28 (by kernel_rfl) rfl #[.slice jK qt.length jJ, .slice Yh zF.length Yc] rfl (by first | rfl | (simp only [List.map_toArray, List.map_cons, List.map_nil]; first | done | rfl)) ?_; (with_reducible refine (jx.calls k _ _ qt _ _ zF false _ ?qk ?qj ?qw ?qy A10.out).mono ?_); (case qk => exact cw ZF.out HB.out); (case qj => exact Yp.out); (case qw => exact cw qgd.out HB.out); (case qy => exact qge.out); rintro e w' ⟨rfl, ⟨nd, rfl⟩⟩; refine ⟨_, rfl, ?_⟩))
       go_ret
       exact ⟨by first | rfl | (simp [errW_none, errW_some] <;> rfl) | (simp [*, errW_none, errW_some] <;> rfl), bw HB.out⟩
     ·replace c9 := Bool.eq_false_iff.mpr c9
      subst c9
      have H1 : (some false) = some r := by rw [if_neg (show ¬ (false = true) by decide)] at H; exact H
      clear H
      have H := H1
      clear H1
      obtain rfl := Option.some.inj H
      go_enter Try.func17, Try.ntmps17
      go_wp2_with (first | ((with_reducible refine gate_dst (N := 2) rfl ?_); refine boxed (N := 2) rfl rfl (cs := #[.slice qq qd.length qp, .int .i64 qu, .int .i64 qH, .int .i64 qF, .slice jC qA.length jB, .slice jK qt.length jJ, .slice jM qo.length jL]) (t := 33) HB.out (by first | (go_simp; done) | (go_simp; rfl)) ?_; clear HB; intro qi w47 hg HB qc qm hb; have jD := qm; clear hb hg) | ((with_reducible refine gate_dst (N := 3) rfl ?_); refine box_event ?hg (N := 3) ?hd (cs := #[.slice jn qn.length jm, .int .i64 zO, .int .i64 yv, .int .i64 yu, .slice ZY zG.length ZX, .slice Yh zF.length Yc, .slice Yv zE.length Yu]) (t := 33) ?hr ?_; (case hd => rfl); (case hg => rfl); (case hr => first | (go_simp; done) | (go_simp; rfl)); intro qg hg w48 hbox hb; have qf := ak (hbox); have QS := ak ((by rw [hg]; exact (below_size (bw HB.out)) : w.heap.size ≤ qg)); have ji := ak ((by rw [hg]; exact (below_size (bw HB.out)) : w.heap.size ≤ qg)); replace HB := ak (below_step (bw HB.out) hb); have qO := ak ((by rw [hg]; exact Nat.ne_of_lt (blk_lt (bk qc.out)) : qi ≠ qg)); have qN := ak ((by rw [hg]; exact Nat.ne_of_gt (blk_lt (bk qc.out)) : qg ≠ qi)); replace qc := ak (blk_below (bk qc.out) hb); clear hb hbox hg; have qva := qO.out; have qu2 := qN.out; obtain ⟨qsX, qBH, qBG, qBF, qBE, qBD, qBC, qri, qy4, qy3, qy2, qy1, qy0, qyZ⟩ := cells7 qc.out; obtain ⟨qBB, qBA, qBz, qBy, qBx, qBw, qBv, qyY, qyX, qyW, qyV, qyU, qyT, qyS⟩ := cells7 qf.out) | ((with_reducible refine gate_callee (f := 43) rfl ?_); refine goesL_ (some 9) rfl rfl Try.func43 (by kernel_rfl) rfl #[.agg #[.slice qq qd.length qp], .agg #[.slice jn qn.length jm]] rfl (by first | rfl | (simp only [List.map_toArray, List.map_cons, List.map_nil]; first | done | rfl)) ?_; (with_reducible refine (jR.calls k _ _ qd _ _ qn true _ ?qk ?qj ?qw ?qy A3.out).mono ?_); (case qk => exact cw qW.out HB.out); (case qj => exact jb.out); (case qw => exact cw yo.out HB.out); (case qy => exact yE.out); rintro e w52 ⟨rfl, hb⟩; refine ⟨_, rfl, ?_⟩; replace qc := ak (blk_below (bk qc.out) hb); replace qf := ak (blk_below (bk qf.out) hb); replace HB := ak (below_step (bw HB.out) hb); (try clear hb); obtain ⟨qnF, qnE, qsW, qsV, qsU, qsT, qsS, qmN, qmM, qrh, qrg, qrf, qre, qrd⟩ := cells7 qc.out; obtain ⟨qsR, qsQ, qsP, qsO, qsN, qsM, qsL, qrc, qrb, qra, qq9, qq8, qq7, qq6⟩ := cells7 qf.out) | ((with_reducible refine gate_callee (f := 43) rfl ?_); refine goesL_ (some 30) rfl rfl Try.func43 (by kernel_rfl) rfl #[.agg #[.slice jC qA.length jB], .agg #[.slice ZY zG.length ZX]] rfl (by first | rfl | (simp only [List.map_toArray, List.map_cons, List.map_nil]; first | done | rfl)) ?_; (with_reducible refine (jR.calls k _ _ qA _ _ zG false _ ?qk ?qj ?qw ?qy A8.out).mono ?_); (case qk => exact cw Jo.out HB.out); (case qj => exact Jp.out); (case qw => exact cw qew.out HB.out); (case qy => exact qey.out); rintro e w55 ⟨rfl, hb⟩; refine ⟨_, rfl, ?_⟩; replace qc := ak (blk_below (bk qc.out) hb); replace qf := ak (blk_below (bk qf.out) hb); replace HB := ak (below_step (bw HB.out) hb); (try clear hb)))
      go_ret
      exact ⟨by first | rfl | (simp [errW_none, errW_some] <;> rfl) | (simp [*, errW_none, errW_some] <;> rfl), bw HB.out⟩
    ·rw [if_neg c7] at H
     have c7b0 : (qF == yu) = false := beq_eq_false_iff_ne.mpr c7
     have c7b1 : (qF != yu) = true := bne_iff_ne.mpr c7
     obtain rfl := Option.some.inj H
     go_enter Try.func17, Try.ntmps17
     go_wp2_with (first | ((with_reducible refine gate_dst (N := 2) rfl ?_); refine boxed (N := 2) rfl rfl (cs := #[.slice qq qd.length qp, .int .i64 qu, .int .i64 qH, .int .i64 qF, .slice jC qA.length jB, .slice jK qt.length jJ, .slice jM qo.length jL]) (t := 33) HB.out (by first | (go_simp; done) | (go_simp; rfl)) ?_; clear HB; intro qi w56 hg HB qc qm hb; have jD := qm; clear hb hg) | ((with_reducible refine gate_dst (N := 3) rfl ?_); refine box_event ?hg (N := 3) ?hd (cs := #[.slice jn qn.length jm, .int .i64 zO, .int .i64 yv, .int .i64 yu, .slice ZY zG.length ZX, .slice Yh zF.length Yc, .slice Yv zE.length Yu]) (t := 33) ?hr ?_; (case hd => rfl); (case hg => rfl); (case hr => first | (go_simp; done) | (go_simp; rfl)); intro qg hg w57 hbox hb; have qf := ak (hbox); have QS := ak ((by rw [hg]; exact (below_size (bw HB.out)) : w.heap.size ≤ qg)); have ji := ak ((by rw [hg]; exact (below_size (bw HB.out)) : w.heap.size ≤ qg)); replace HB := ak (below_step (bw HB.out) hb); have qO := ak ((by rw [hg]; exact Nat.ne_of_lt (blk_lt (bk qc.out)) : qi ≠ qg)); have qN := ak ((by rw [hg]; exact Nat.ne_of_gt (blk_lt (bk qc.out)) : qg ≠ qi)); replace qc := ak (blk_below (bk qc.out) hb); clear hb hbox hg; have qu9 := qO.out; have qu1 := qN.out; obtain ⟨qsB, qsA, qsz, qsy, qsx, qsw, qsv, qqW, qqV, qqU, qqT, qqS, qqR, qqQ⟩ := cells7 qc.out; obtain ⟨qnD, qnC, qsu, qst, qss, qsr, qsq, qmL, qmK, qqP, qqO, qqN, qqM, qqL⟩ := cells7 qf.out) | ((with_reducible refine gate_callee (f := 43) rfl ?_); refine goesL_ (some 9) rfl rfl Try.func43 (by kernel_rfl) rfl #[.agg #[.slice qq qd.length qp], .agg #[.slice jn qn.length jm]] rfl (by first | rfl | (simp only [List.map_toArray, List.map_cons, List.map_nil]; first | done | rfl)) ?_; (with_reducible refine (jR.calls k _ _ qd _ _ qn true _ ?qk ?qj ?qw ?qy A3.out).mono ?_); (case qk => exact cw qW.out HB.out); (case qj => exact jb.out); (case qw => exact cw yo.out HB.out); (case qy => exact yE.out); rintro e w61 ⟨rfl, hb⟩; refine ⟨_, rfl, ?_⟩; replace qc := ak (blk_below (bk qc.out) hb); replace qf := ak (blk_below (bk qf.out) hb); replace HB := ak (below_step (bw HB.out) hb); (try clear hb); obtain ⟨qsp, qso, qsn, qsm, qsl, qsk, qsj, qqK, qqJ, qqI, qqH, qqG, qqF, qqE⟩ := cells7 qc.out; obtain ⟨qjZ, qjY, qjX, qjW, qjV, qjU, qjT, qi6, qi5, qi4, qi3, qi2, qi0, qiZ⟩ := cells7 qf.out))
     go_ret
     exact ⟨by first | rfl | (simp [errW_none, errW_some] <;> rfl) | (simp [*, errW_none, errW_some] <;> rfl), bw HB.out⟩
   ·rw [if_neg c6] at H
    have c6b0 : (qH == yv) = false := beq_eq_false_iff_ne.mpr c6
    have c6b1 : (qH != yv) = true := bne_iff_ne.mpr c6
    obtain rfl := Option.some.inj H
    go_enter Try.func17, Try.ntmps17
    go_wp2_with (first | ((with_reducible refine gate_dst (N := 2) rfl ?_); refine boxed (N := 2) rfl rfl (cs := #[.slice qq qd.length qp, .int .i64 qu, .int .i64 qH, .int .i64 qF, .slice jC qA.length jB, .slice jK qt.length jJ, .slice jM qo.length jL]) (t := 33) HB.out (by first | (go_simp; done) | (go_simp; rfl)) ?_; clear HB; intro qi w64 hg HB qc qm hb; have jD := qm; clear hb hg) | ((with_reducible refine gate_dst (N := 3) rfl ?_); refine box_event ?hg (N := 3) ?hd (cs := #[.slice jn qn.length jm, .int .i64 zO, .int .i64 yv, .int .i64 yu, .slice ZY zG.length ZX, .slice Yh zF.length Yc, .slice Yv zE.length Yu]) (t := 33) ?hr ?_; (case hd => rfl); (case hg => rfl); (case hr => first | (go_simp; done) | (go_simp; rfl)); intro qg hg w65 hbox hb; have qf := ak (hbox); have QS := ak ((by rw [hg]; exact (below_size (bw HB.out)) : w.heap.size ≤ qg)); have ji := ak ((by rw [hg]; exact (below_size (bw HB.out)) : w.heap.size ≤ qg)); replace HB := ak (below_step (bw HB.out) hb); have qO := ak ((by rw [hg]; exact Nat.ne_of_lt (blk_lt (bk qc.out)) : qi ≠ qg)); have qN := ak ((by rw [hg]; exact Nat.ne_of_gt (blk_lt (bk qc.out)) : qg ≠ qi)); replace qc := ak (blk_below (bk qc.out) hb); clear hb hbox hg; have qu8 := qO.out; have qu0 := qN.out; obtain ⟨qsi, qsh, qsg, qsf, qse, qsd, qsc, qqD, qqC, qqB, qqA, qqz, qqy, qqx⟩ := cells7 qc.out; obtain ⟨qnz, qny, qsb, qsa, qr9, qr8, qr7, qmH, qmG, qqw, qqv, qqu, qqt, qqs⟩ := cells7 qf.out) | ((with_reducible refine gate_callee (f := 43) rfl ?_); refine goesL_ (some 9) rfl rfl Try.func43 (by kernel_rfl) rfl #[.agg #[.slice qq qd.length qp], .agg #[.slice jn qn.length jm]] rfl (by first | rfl | (simp only [List.map_toArray, List.map_cons, List.map_nil]; first | done | rfl)) ?_; (with_reducible refine (jR.calls k _ _ qd _ _ qn true _ ?qk ?qj ?qw ?qy A3.out).mono ?_); (case qk => exact cw qW.out HB.out); (case qj => exact jb.out); (case qw => exact cw yo.out HB.out); (case qy => exact yE.out); rintro e w69 ⟨rfl, hb⟩; refine ⟨_, rfl, ?_⟩; replace qc := ak (blk_below (bk qc.out) hb); replace qf := ak (blk_below (bk qf.out) hb); replace HB := ak (below_step (bw HB.out) hb); (try clear hb); obtain ⟨qr4, qr3, qr2, qr1, qr0, qrZ, qrY, qqp, qqo, qqn, qqm, qql, qqk, qqj⟩ := cells7 qc.out; obtain ⟨qnx, qnw, qnv, qnu, qnt, qns, qnr, qmF, qmE, qmD, qmC, qmB, qmA, qmz⟩ := cells7 qf.out))
    go_ret
    exact ⟨by first | rfl | (simp [errW_none, errW_some] <;> rfl) | (simp [*, errW_none, errW_some] <;> rfl), bw HB.out⟩
  ·rw [if_neg c5] at H
   have c5b0 : (qu == zO) = false := beq_eq_false_iff_ne.mpr c5
   have c5b1 : (qu != zO) = true := bne_iff_ne.mpr c5
   obtain rfl := Option.some.inj H
   go_enter Try.func17, Try.ntmps17
   go_wp2_with (first | ((with_reducible refine gate_dst (N := 2) rfl ?_); refine boxed (N := 2) rfl rfl (cs := #[.slice qq qd.length qp, .int .i64 qu, .int .i64 qH, .int .i64 qF, .slice jC qA.length jB, .slice jK qt.length jJ, .slice jM qo.length jL]) (t := 33) HB.out (by first | (go_simp; done) | (go_simp; rfl)) ?_; clear HB; intro qi w72 hg HB qc qm hb; have jD := qm; clear hb hg) | ((with_reducible refine gate_dst (N := 3) rfl ?_); refine box_event ?hg (N := 3) ?hd (cs := #[.slice jn qn.length jm, .int .i64 zO, .int .i64 yv, .int .i64 yu, .slice ZY zG.length ZX, .slice Yh zF.length Yc, .slice Yv zE.length Yu]) (t := 33) ?hr ?_; (case hd => rfl); (case hg => rfl); (case hr => first | (go_simp; done) | (go_simp; rfl)); intro qg hg w73 hbox hb; have qf := ak (hbox); have QS := ak ((by rw [hg]; exact (below_size (bw HB.out)) : w.heap.size ≤ qg)); have ji := ak ((by rw [hg]; exact (below_size (bw HB.out)) : w.heap.size ≤ qg)); replace HB := ak (below_step (bw HB.out) hb); have qO := ak ((by rw [hg]; exact Nat.ne_of_lt (blk_lt (bk qc.out)) : qi ≠ qg)); have qN := ak ((by rw [hg]; exact Nat.ne_of_gt (blk_lt (bk qc.out)) : qg ≠ qi)); replace qc := ak (blk_below (bk qc.out) hb); clear hb hbox hg; have qDX := qO.out; have qDv := qN.out; obtain ⟨qAJ, qAI, qAH, qAG, qAF, qAE, qAD, qx6, qx5, qx4, qx3, qx2, qx1, qx0⟩ := cells7 qc.out; obtain ⟨qAC, qAB, qAA, qAz, qAy, qAx, qAw, qxZ, qxY, qxX, qxW, qxV, qxU, qxT⟩ := cells7 qf.out) | ((with_reducible refine gate_callee (f := 43) rfl ?_); refine goesL_ (some 9) rfl rfl Try.func43 (by kernel_rfl) rfl #[.agg #[.slice qq qd.length qp], .agg #[.slice jn qn.length jm]] rfl (by first | rfl | (simp only [List.map_toArray, List.map_cons, List.map_nil]; first | done | rfl)) ?_; (with_reducible refine (jR.calls k _ _ qd _ _ qn true _ ?qk ?qj ?qw ?qy A3.out).mono ?_); (case qk => exact cw qW.out HB.out); (case qj => exact jb.out); (case qw => exact cw yo.out HB.out); (case qy => exact yE.out); rintro e w77 ⟨rfl, hb⟩; refine ⟨_, rfl, ?_⟩; replace qc := ak (blk_below (bk qc.out) hb); replace qf := ak (blk_below (bk qf.out) hb); replace HB := ak (below_step (bw HB.out) hb); (try clear hb); obtain ⟨qAv, qAu, qAt, qAs, qAr, qAq, qAp, qxS, qxR, qxQ, qxP, qxO, qxN, qxM⟩ := cells7 qc.out; obtain ⟨qAo, qAn, qAm, qAl, qAk, qAj, qAi, qxL, qxK, qxJ, qxI, qxH, qxG, qxF⟩ := cells7 qf.out))
   go_ret
   exact ⟨by first | rfl | (simp [errW_none, errW_some] <;> rfl) | (simp [*, errW_none, errW_some] <;> rfl), bw HB.out⟩
 ·replace c4 := Bool.eq_false_iff.mpr c4
  subst c4
  have H1 : (some false) = some r := by rw [if_neg (show ¬ (false = true) by decide)] at H; exact H
  clear H
  have H := H1
  clear H1
  obtain rfl := Option.some.inj H
  go_enter Try.func17, Try.ntmps17
  go_wp2_with (first | ((with_reducible refine gate_dst (N := 2) rfl ?_); refine boxed (N := 2) rfl rfl (cs := #[.slice qq qd.length qp, .int .i64 qu, .int .i64 qH, .int .i64 qF, .slice jC qA.length jB, .slice jK qt.length jJ, .slice jM qo.length jL]) (t := 33) HB.out (by first | (go_simp; done) | (go_simp; rfl)) ?_; clear HB; intro qi w80 hg HB qc qm hb; have jD := qm; clear hb hg) | ((with_reducible refine gate_dst (N := 3) rfl ?_); refine box_event ?hg (N := 3) ?hd (cs := #[.slice jn qn.length jm, .int .i64 zO, .int .i64 yv, .int .i64 yu, .slice ZY zG.length ZX, .slice Yh zF.length Yc, .slice Yv zE.length Yu]) (t := 33) ?hr ?_; (case hd => rfl); (case hg => rfl); (case hr => first | (go_simp; done) | (go_simp; rfl)); intro qg hg w81 hbox hb; have qf := ak (hbox); have QS := ak ((by rw [hg]; exact (below_size (bw HB.out)) : w.heap.size ≤ qg)); have ji := ak ((by rw [hg]; exact (below_size (bw HB.out)) : w.heap.size ≤ qg)); replace HB := ak (below_step (bw HB.out) hb); have qO := ak ((by rw [hg]; exact Nat.ne_of_lt (blk_lt (bk qc.out)) : qi ≠ qg)); have qN := ak ((by rw [hg]; exact Nat.ne_of_gt (blk_lt (bk qc.out)) : qg ≠ qi)); replace qc := ak (blk_below (bk qc.out) hb); clear hb hbox hg; have qDV := qO.out; have qDt := qN.out; obtain ⟨qz8, qz7, qz6, qz5, qz4, qz3, qz2, qxv, qxu, qxt, qxs, qxr, qxq, qxp⟩ := cells7 qc.out; obtain ⟨qz1, qz0, qzZ, qzY, qzX, qzW, qzV, qxo, qxn, qxm, qxl, qxk, qxj, qxi⟩ := cells7 qf.out) | ((with_reducible refine gate_callee (f := 43) rfl ?_); refine goesL_ (some 9) rfl rfl Try.func43 (by kernel_rfl) rfl #[.agg #[.slice qq qd.length qp], .agg #[.slice jn qn.length jm]] rfl (by first | rfl | (simp only [List.map_toArray, List.map_cons, List.map_nil]; first | done | rfl)) ?_; (with_reducible refine (jR.calls k _ _ qd _ _ qn false _ ?qk ?qj ?qw ?qy A3.out).mono ?_); (case qk => exact cw qW.out HB.out); (case qj => exact jb.out); (case qw => exact cw yo.out HB.out); (case qy => exact yE.out); rintro e w85 ⟨rfl, hb⟩; refine ⟨_, rfl, ?_⟩; replace qc := ak (blk_below (bk qc.out) hb); replace qf := ak (blk_below (bk qf.out) hb); replace HB := ak (below_step (bw HB.out) hb); (try clear hb)))
  go_ret
  exact ⟨by first | rfl | (simp [errW_none, errW_some] <;> rfl) | (simp [*, errW_none, errW_some] <;> rfl), bw HB.out⟩


/-! ### jF: function 104 -/
def jF.l0 : Nat → List (S33) → List (S33) → Int → Option (Bool)
 | 0, _, _, _ => none
 | k + 1, x0, x1, x5 => if x5 < (x0.length : Int) then (if 0 ≤ x5 then (if x5 < (x1.length : Int) then ((YZ.f k ((qa x0 x5).f0.f0) ((qa x0 x5).f1) ((qa x0 x5).f2) ((qa x0 x5).f3) ((qa x0 x5).f4.f0) ((qa x0 x5).f5) ((qa x0 x5).f6) ((qa x1 x5).f0.f0) ((qa x1 x5).f1) ((qa x1 x5).f2) ((qa x1 x5).f3) ((qa x1 x5).f4.f0) ((qa x1 x5).f5) ((qa x1 x5).f6)).bind fun qx => (if qx = true then (jF.l0 k x0 x1 (wrap64 (x5 + 1))) else (some false))) else (none)) else (none)) else (some true)
def jF.f (k : Nat) (l0 : List (S33)) (l1 : List (S33)) : Option (Bool) := if (l0.length : Int) = (l1.length : Int) then (jF.l0 k l0 l1 0) else (some false)
def jF.T6 : Bool × List (List Nat × List Nat) := (true, [([], []), ([], []), ([0, 1], [0, 1]), ([2], [2]), ([], []), ([], []), ([4, 5], [4, 5]), ([6], [6]), ([3, 7], [3, 7]), ([8], [8])])
def jF.B6 : List Nat := [0, 0, 3, 7, 0, 0, 48, 112, 255, 511]
theorem jF.tab6 : rtab .any (opsOf Try.f104 6) = jF.T6 := by kernel_rfl
theorem jF.bits6 : waitsOk jF.T6.2 jF.B6 = true := by kernel_rfl
set_option maxHeartbeats 8000000 in
set_option maxRecDepth 100000 in
theorem jF.calls (k : Nat) (A0 : Option Addr) (c0 : Nat) (l0 : List (S33)) (A1 : Option Addr) (c1 : Nat) (l1 : List (S33)) (r : Bool) (w : World) (hr0 : Kd.C k33 w A0 l0.length l0) (hc0 : l0.length ≤ c0) (hr1 : Kd.C k33 w A1 l1.length l1) (hc1 : l1.length ≤ c1) (h : jF.f k l0 l1 = some r) :
  Calls Try.prog 104 #[.slice A0 l0.length c0, .slice A1 l1.length c1] w fun e w' => e = .returned (.bool r) ∧ Below w.heap.size w w' := by
 have qak := Try.underlying33
 have HR0 := ak hr0
 have HC0 := ak hc0
 clear hr0 hc0
 have HR1 := ak hr1
 have HC1 := ak hc1
 clear hr1 hc1
 have HB := ak (Below.refl w.heap.size w)
 have H : (if (l0.length : Int) = (l1.length : Int) then (jF.l0 k l0 l1 0) else (some false)) = some r := h
 clear h
 by_cases c3 : (l0.length : Int) = (l1.length : Int)
 ·rw [if_pos c3] at H
  have c3b0 : ((l0.length : Int) == (l1.length : Int)) = true := beq_iff_eq.mpr c3
  have c3b1 : ((l0.length : Int) != (l1.length : Int)) = false := bne_eq_false_iff_eq.mpr c3
  have c3b2 : (l0.length == l1.length) = true := by first | simpa using c3 | (simp at c3 ⊢; omega)
  clear c3
  have H' := ak H
  clear H
  go_enter Try.func104, Try.ntmps104
  go_wp2
  go_loopg [5] k (fun kq v5 w' => ∃ (qh : Int), v5 = .int .i64 qh ∧ Aside0 (jF.l0 kq l0 l1 qh = some r) ∧ Aside0 (kq ≤ k) ∧ Aside0 (Below w.heap.size w w'))
  case atStart => exact ⟨(0), (by first | rfl | (simp; done) | (simp [*]; done)), H', ⟨Nat.le_refl _⟩, ⟨bw HB.out⟩⟩
  case round =>
   clear H'
   try clear c1
   try clear p2
   try clear c3
   try clear c3b0
   try clear c3b1
   try clear c3b2
   obtain ⟨qh, rfl, HA, HK1, HB⟩ := hrel
   cases gk with
   | zero => exact absurd HA.out (by simp [jF.l0])
   | succ k1 =>
    have H := HA.out
    clear HA
    simp only [jF.l0] at H
    by_cases c4 : qh < (l0.length : Int)
    ·rw [if_pos c4] at H
     have c4b0 : decide (qh < (l0.length : Int)) = true := decide_eq_true c4
     clear c4
     by_cases c5 : 0 ≤ qh
     ·rw [if_pos c5] at H
      have c5b0 : decide (0 ≤ qh) = true := decide_eq_true c5
      clear c5
      by_cases c6 : qh < (l1.length : Int)
      ·rw [if_pos c6] at H
       have c6b0 : decide (qh < (l1.length : Int)) = true := decide_eq_true c6
       clear c6
       replace H := Option.bind_eq_some_iff.mp H
       obtain ⟨qx, A70, H⟩ := H
       replace H : (if qx = true then (jF.l0 k1 l0 l1 (wrap64 (qh + 1))) else (some false)) = some r := H
       have A7 := ak A70
       clear A70
       by_cases c8 : qx = true
       ·subst c8
        have H1 : (jF.l0 k1 l0 l1 (wrap64 (qh + 1))) = some r := by rw [if_pos rfl] at H; exact H
        clear H
        have H := H1
        clear H1
        have H' := ak H
        clear H
        try go_wp2
        have n0_ := ak (below_drew1 HB.out)
        clear HB
        have HB := n0_
        clear n0_
        have ju : 0 ≤ (qh : Int) := of_decide_eq_true (by first | (with_reducible assumption) | assumption)
        have jt : qh < (l0.length : Int) := of_decide_eq_true (by first | (with_reducible assumption) | assumption)
        obtain ⟨ja, Yi, Yd, qav, qaq, qau, qap, qat, qao, yl, zj, JI, JH, JG, JF, JE, JD, ym, yn, Zj, Zm, Zi, Zl, Zh, Zk⟩ := Qi HR0.out qh ju jt
        have qeX := JD
        have qeY := JE
        have qeZ := JF
        have qe0 := JG
        have qe1 := JH
        have qe2 := JI
        have qe3 := zj
        cases yl
        replace zj := hc_ HB.out zj
        replace JI := hc_ HB.out JI
        replace JH := hc_ HB.out JH
        replace JG := hc_ HB.out JG
        replace JF := hc_ HB.out JF
        replace JE := hc_ HB.out JE
        replace JD := hc_ HB.out JD
        have Qt := ak yn
        have QQ := ak ym
        clear yn ym
        have XE := ak Zm
        have qaO := ak Zj
        clear Zm Zj
        have XD := ak Zl
        have qaN := ak Zi
        clear Zl Zi
        have XC := ak Zk
        have qaM := ak Zh
        clear Zk Zh
        replace ju := eq_true ju
        replace jt := eq_true jt
        have zw : 0 ≤ (qh : Int) := of_decide_eq_true (by first | (with_reducible assumption) | assumption)
        have zu : qh < (l1.length : Int) := of_decide_eq_true (by first | (with_reducible assumption) | assumption)
        obtain ⟨zM, Xe, Xb, qem, qed, qel, qec, qek, qeb, JU, zS, ZS, ZR, ZQ, ZP, ZO, ZN, Jc, Jl, qbf, qbi, qbe, qbh, qbd, qbg⟩ := Qi HR1.out qh zw zu
        have qa6 := ZN
        have qa7 := ZO
        have qa8 := ZP
        have qa9 := ZQ
        have qba := ZR
        have qbb := ZS
        have qbc := zS
        cases JU
        replace zS := hc_ HB.out zS
        replace ZS := hc_ HB.out ZS
        replace ZR := hc_ HB.out ZR
        replace ZQ := hc_ HB.out ZQ
        replace ZP := hc_ HB.out ZP
        replace ZO := hc_ HB.out ZO
        replace ZN := hc_ HB.out ZN
        have Jm := ak Jl
        have Zq := ak Jc
        clear Jl Jc
        have qc5 := ak qbi
        have qhY := ak qbf
        clear qbi qbf
        have qc4 := ak qbh
        have qhX := ak qbe
        clear qbh qbe
        have qc3 := ak qbg
        have qhW := ak qbd
        clear qbg qbd
        replace zw := eq_true zw
        replace zu := eq_true zu
        refine start_ (n := 10) (S := fun w' => w'.cell? (ja.add ((qh).toNat * 7)) = some (.slice Yi ((qa l0 qh).f0.f0).length Yd) ∧ w'.cell? ⟨(ja.add ((qh).toNat * 7)).block, (ja.add ((qh).toNat * 7)).off + 1, none⟩ = some (.int .i64 ((qa l0 qh).f1)) ∧ w'.cell? ⟨(ja.add ((qh).toNat * 7)).block, (ja.add ((qh).toNat * 7)).off + 2, none⟩ = some (.int .i64 ((qa l0 qh).f2)) ∧ w'.cell? ⟨(ja.add ((qh).toNat * 7)).block, (ja.add ((qh).toNat * 7)).off + 3, none⟩ = some (.int .i64 ((qa l0 qh).f3)) ∧ w'.cell? ⟨(ja.add ((qh).toNat * 7)).block, (ja.add ((qh).toNat * 7)).off + 4, none⟩ = some (.slice qav ((qa l0 qh).f4.f0).length qaq) ∧ w'.cell? ⟨(ja.add ((qh).toNat * 7)).block, (ja.add ((qh).toNat * 7)).off + 5, none⟩ = some (.slice qau ((qa l0 qh).f5).length qap) ∧ w'.cell? ⟨(ja.add ((qh).toNat * 7)).block, (ja.add ((qh).toNat * 7)).off + 6, none⟩ = some (.slice qat ((qa l0 qh).f6).length qao) ∧ w'.cell? (zM.add ((qh).toNat * 7)) = some (.slice Xe ((qa l1 qh).f0.f0).length Xb) ∧ w'.cell? ⟨(zM.add ((qh).toNat * 7)).block, (zM.add ((qh).toNat * 7)).off + 1, none⟩ = some (.int .i64 ((qa l1 qh).f1)) ∧ w'.cell? ⟨(zM.add ((qh).toNat * 7)).block, (zM.add ((qh).toNat * 7)).off + 2, none⟩ = some (.int .i64 ((qa l1 qh).f2)) ∧ w'.cell? ⟨(zM.add ((qh).toNat * 7)).block, (zM.add ((qh).toNat * 7)).off + 3, none⟩ = some (.int .i64 ((qa l1 qh).f3)) ∧ w'.cell? ⟨(zM.add ((qh).toNat * 7)).block, (zM.add ((qh).toNat * 7)).off + 4, none⟩ = some (.slice qem ((qa l1 qh).f4.f0).length qed) ∧ w'.cell? ⟨(zM.add ((qh).toNat * 7)).block, (zM.add ((qh).toNat * 7)).off + 5, none⟩ = some (.slice qel ((qa l1 qh).f5).length qec) ∧ w'.cell? ⟨(zM.add ((qh).toNat * 7)).block, (zM.add ((qh).toNat * 7)).off + 6, none⟩ = some (.slice qek ((qa l1 qh).f6).length qeb)) (ds := []) (bA 10 0) (by kernel_rfl) rfl rfl ⟨(hc_ HB.out qe3), (hc_ HB.out qe2), (hc_ HB.out qe1), (hc_ HB.out qe0), (hc_ HB.out qeZ), (hc_ HB.out qeY), (hc_ HB.out qeX), (hc_ HB.out qbc), (hc_ HB.out qbb), (hc_ HB.out qba), (hc_ HB.out qa9), (hc_ HB.out qa8), (hc_ HB.out qa7), (hc_ HB.out qa6)⟩ (fun hHeld => ?_); refine with_tabW jF.tab6 jF.bits6 (fun HT_ HW_ => ?_)
        generalize wr.drew = w9 at HB Qt XE XD XC Jm qc5 qc4 qc3 zj JI JH JG JF JE JD zS ZS ZR ZQ ZP ZO ZN hHeld ⊢
        refine pu_ HT_ 0 17 (bA 10 1) (v := ?_) (a' := ?_) rfl rfl (by kernel_rfl) (fun _ _ _ h => h) (by rfl) ?_ ?_ ?_; rotate_left; intro w'; go_simp; with_reducible rfl; rotate_left; go_simp; rfl
        refine pu_ HT_ 1 18 (bA 10 3) (v := ?_) (a' := ?_) rfl rfl (by kernel_rfl) (fun _ _ _ h => h) (by rfl) ?_ ?_ ?_; rotate_left; intro w'; go_simp; with_reducible rfl; rotate_left; go_simp; rfl
        refine pu_ HT_ 2 19 (bA 10 7) (v := ?_) (a' := ?_) rfl rfl (by kernel_rfl) (fun _ _ _ h => h) (by rfl) ?_ ?_ ?_; rotate_left; intro w'; go_simp; with_reducible rfl; rotate_left; go_simp; rfl
        refine pu_ HT_ 4 21 (bA 10 23) (v := ?_) (a' := ?_) rfl rfl (by kernel_rfl) (fun _ _ _ h => h) (by rfl) ?_ ?_ ?_; rotate_left; intro w'; go_simp; with_reducible rfl; rotate_left; go_simp; rfl
        refine pu_ HT_ 5 22 (bA 10 55) (v := ?_) (a' := ?_) rfl rfl (by kernel_rfl) (fun _ _ _ h => h) (by rfl) ?_ ?_ ?_; rotate_left; intro w'; go_simp; with_reducible rfl; rotate_left; go_simp; rfl
        refine pu_ HT_ 6 23 (bA 10 119) (v := ?_) (a' := ?_) rfl rfl (by kernel_rfl) (fun _ _ _ h => h) (by rfl) ?_ ?_ ?_; rotate_left; intro w'; go_simp; with_reducible rfl; rotate_left; go_simp; rfl
        refine take_ (i := 3) (N := some 20) (v := ?_) (a' := ?_) (bA 10 127) rfl rfl (take_ofW HT_.out HW_.out (by kernel_rfl)) (fun _ _ _ h => h) (Or.inl ⟨by rfl, ?_⟩) hHeld ?_ ?_
        rotate_left; rintro w' ⟨s0, s1, s2, s3, s4, s5, s6, s7, s8, s9, s10, s11, s12, s13⟩; go_simp; with_reducible rfl; rotate_left; go_simp; rfl
        refine take_ (i := 7) (N := some 24) (v := ?_) (a' := ?_) (bA 10 255) rfl rfl (take_ofW HT_.out HW_.out (by kernel_rfl)) (fun _ _ _ h => h) (Or.inl ⟨by rfl, ?_⟩) hHeld ?_ ?_
        rotate_left; rintro w' ⟨s0, s1, s2, s3, s4, s5, s6, s7, s8, s9, s10, s11, s12, s13⟩; go_simp; with_reducible rfl; rotate_left; go_simp; rfl
        refine one_ (i := 8) (N := some 25) (bA 10 511) rfl rfl (one_of HT_.out (by kernel_rfl)) (by decide) (fun K hK => ?_)
        refine goes_ Try.func17 (by kernel_rfl) rfl #[.agg #[.slice Yi ((qa l0 qh).f0.f0).length Yd, .int .i64 ((qa l0 qh).f1), .int .i64 ((qa l0 qh).f2), .int .i64 ((qa l0 qh).f3), .slice qav ((qa l0 qh).f4.f0).length qaq, .slice qau ((qa l0 qh).f5).length qap, .slice qat ((qa l0 qh).f6).length qao], .agg #[.slice Xe ((qa l1 qh).f0.f0).length Xb, .int .i64 ((qa l1 qh).f1), .int .i64 ((qa l1 qh).f2), .int .i64 ((qa l1 qh).f3), .slice qem ((qa l1 qh).f4.f0).length qed, .slice qel ((qa l1 qh).f5).length qec, .slice qek ((qa l1 qh).f6).length qeb]] (by rfl) rfl rfl (by first | rfl | (simp only [List.map_toArray, List.map_cons, List.map_nil]; first | done | rfl)) ?_
        with_reducible refine (YZ.calls k1 _ _ ((qa l0 qh).f0.f0) ((qa l0 qh).f1) ((qa l0 qh).f2) ((qa l0 qh).f3) _ _ ((qa l0 qh).f4.f0) _ _ ((qa l0 qh).f5) _ _ ((qa l0 qh).f6) _ _ ((qa l1 qh).f0.f0) ((qa l1 qh).f1) ((qa l1 qh).f2) ((qa l1 qh).f3) _ _ ((qa l1 qh).f4.f0) _ _ ((qa l1 qh).f5) _ _ ((qa l1 qh).f6) true _ ?qk ?qj ?qw ?qy ?zK ?yz ?yy ?yx ?qbW ?qah ?qag ?qaf ?qae ?qad ?qac ?qab A7.out).mono ?_
        (case qk => exact cw Qt.out HB.out)
        (case qj => exact QQ.out)
        (case qw => exact cw XE.out HB.out)
        (case qy => exact qaO.out)
        (case zK => exact cw XD.out HB.out)
        (case yz => exact qaN.out)
        (case yy => exact cw XC.out HB.out)
        (case yx => exact qaM.out)
        (case qbW => exact cw Jm.out HB.out)
        (case qah => exact Zq.out)
        (case qag => exact cw qc5.out HB.out)
        (case qaf => exact qhY.out)
        (case qae => exact cw qc4.out HB.out)
        (case qad => exact qhX.out)
        (case qac => exact cw qc3.out HB.out)
        (case qab => exact qhW.out)
        rintro e w10 ⟨rfl, hb⟩
        refine ⟨_, rfl, ?_⟩
        have n0_ := ak (below_step (bw HB.out) hb)
        clear HB
        have HB := n0_
        clear n0_
        (try clear hb)
        (try clear hb2)
        (try clear hk)
        (try clear hi)
        refine hK.out _ _ ⟨(hc_ HB.out qe3), (hc_ HB.out qe2), (hc_ HB.out qe1), (hc_ HB.out qe0), (hc_ HB.out qeZ), (hc_ HB.out qeY), (hc_ HB.out qeX), (hc_ HB.out qbc), (hc_ HB.out qbb), (hc_ HB.out qba), (hc_ HB.out qa9), (hc_ HB.out qa8), (hc_ HB.out qa7), (hc_ HB.out qa6)⟩ (fun hHeld => ?_)
        clear hK K
        refine norm_ (a' := ?_) ?_ ?_; rotate_left; go_simp; rfl
        refine pu_ HT_ 9 26 (bA 10 1023) (v := ?_) (a' := ?_) rfl rfl (by kernel_rfl) (fun _ _ _ h => h) (by rfl) ?_ ?_ ?_; rotate_left; intro w'; go_simp; with_reducible rfl; rotate_left; go_simp; rfl
        refine done_ (done_of HT_.out (by kernel_rfl)) ?_
        try go_wp2
        go_roundg k1
        case measure => have := HK1.out; omega
        case rel => exact ⟨(wrap64 (qh + 1)), (by first | rfl | (simp; done) | (simp [*]; done)), H', ⟨by have := HK1.out; omega⟩, ⟨bw HB.out⟩⟩
       ·replace c8 := Bool.eq_false_iff.mpr c8
        subst c8
        have H1 : (some false) = some r := by rw [if_neg (show ¬ (false = true) by decide)] at H; exact H
        clear H
        have H := H1
        clear H1
        obtain rfl := Option.some.inj H
        try go_wp2
        have n0_ := ak (below_drew1 HB.out)
        clear HB
        have HB := n0_
        clear n0_
        have ju : 0 ≤ (qh : Int) := of_decide_eq_true (by first | (with_reducible assumption) | assumption)
        have jt : qh < (l0.length : Int) := of_decide_eq_true (by first | (with_reducible assumption) | assumption)
        obtain ⟨ja, Yi, Yd, qav, qaq, qau, qap, qat, qao, yl, zj, JI, JH, JG, JF, JE, JD, ym, yn, Zj, Zm, Zi, Zl, Zh, Zk⟩ := Qi HR0.out qh ju jt
        have qeX := JD
        have qeY := JE
        have qeZ := JF
        have qe0 := JG
        have qe1 := JH
        have qe2 := JI
        have qe3 := zj
        cases yl
        replace zj := hc_ HB.out zj
        replace JI := hc_ HB.out JI
        replace JH := hc_ HB.out JH
        replace JG := hc_ HB.out JG
        replace JF := hc_ HB.out JF
        replace JE := hc_ HB.out JE
        replace JD := hc_ HB.out JD
        have Qt := ak yn
        have QQ := ak ym
        clear yn ym
        have XE := ak Zm
        have qaO := ak Zj
        clear Zm Zj
        have XD := ak Zl
        have qaN := ak Zi
        clear Zl Zi
        have XC := ak Zk
        have qaM := ak Zh
        clear Zk Zh
        replace ju := eq_true ju
        replace jt := eq_true jt
        have zw : 0 ≤ (qh : Int) := of_decide_eq_true (by first | (with_reducible assumption) | assumption)
        have zu : qh < (l1.length : Int) := of_decide_eq_true (by first | (with_reducible assumption) | assumption)
        obtain ⟨zM, Xe, Xb, qem, qed, qel, qec, qek, qeb, JU, zS, ZS, ZR, ZQ, ZP, ZO, ZN, Jc, Jl, qbf, qbi, qbe, qbh, qbd, qbg⟩ := Qi HR1.out qh zw zu
        have qa6 := ZN
        have qa7 := ZO
        have qa8 := ZP
        have qa9 := ZQ
        have qba := ZR
        have qbb := ZS
        have qbc := zS
        cases JU
        replace zS := hc_ HB.out zS
        replace ZS := hc_ HB.out ZS
        replace ZR := hc_ HB.out ZR
        replace ZQ := hc_ HB.out ZQ
        replace ZP := hc_ HB.out ZP
        replace ZO := hc_ HB.out ZO
        replace ZN := hc_ HB.out ZN
        have Jm := ak Jl
        have Zq := ak Jc
        clear Jl Jc
        have qc5 := ak qbi
        have qhY := ak qbf
        clear qbi qbf
        have qc4 := ak qbh
        have qhX := ak qbe
        clear qbh qbe
        have qc3 := ak qbg
        have qhW := ak qbd
        clear qbg qbd
        replace zw := eq_true zw
        replace zu := eq_true zu
        refine start_ (n := 10) (S := fun w' => w'.cell? (ja.add ((qh).toNat * 7)) = some (.slice Yi ((qa l0 qh).f0.f0).length Yd) ∧ w'.cell? ⟨(ja.add ((qh).toNat * 7)).block, (ja.add ((qh).toNat * 7)).off + 1, none⟩ = some (.int .i64 ((qa l0 qh).f1)) ∧ w'.cell? ⟨(ja.add ((qh).toNat * 7)).block, (ja.add ((qh).toNat * 7)).off + 2, none⟩ = some (.int .i64 ((qa l0 qh).f2)) ∧ w'.cell? ⟨(ja.add ((qh).toNat * 7)).block, (ja.add ((qh).toNat * 7)).off + 3, none⟩ = some (.int .i64 ((qa l0 qh).f3)) ∧ w'.cell? ⟨(ja.add ((qh).toNat * 7)).block, (ja.add ((qh).toNat * 7)).off + 4, none⟩ = some (.slice qav ((qa l0 qh).f4.f0).length qaq) ∧ w'.cell? ⟨(ja.add ((qh).toNat * 7)).block, (ja.add ((qh).toNat * 7)).off + 5, none⟩ = some (.slice qau ((qa l0 qh).f5).length qap) ∧ w'.cell? ⟨(ja.add ((qh).toNat * 7)).block, (ja.add ((qh).toNat * 7)).off + 6, none⟩ = some (.slice qat ((qa l0 qh).f6).length qao) ∧ w'.cell? (zM.add ((qh).toNat * 7)) = some (.slice Xe ((qa l1 qh).f0.f0).length Xb) ∧ w'.cell? ⟨(zM.add ((qh).toNat * 7)).block, (zM.add ((qh).toNat * 7)).off + 1, none⟩ = some (.int .i64 ((qa l1 qh).f1)) ∧ w'.cell? ⟨(zM.add ((qh).toNat * 7)).block, (zM.add ((qh).toNat * 7)).off + 2, none⟩ = some (.int .i64 ((qa l1 qh).f2)) ∧ w'.cell? ⟨(zM.add ((qh).toNat * 7)).block, (zM.add ((qh).toNat * 7)).off + 3, none⟩ = some (.int .i64 ((qa l1 qh).f3)) ∧ w'.cell? ⟨(zM.add ((qh).toNat * 7)).block, (zM.add ((qh).toNat * 7)).off + 4, none⟩ = some (.slice qem ((qa l1 qh).f4.f0).length qed) ∧ w'.cell? ⟨(zM.add ((qh).toNat * 7)).block, (zM.add ((qh).toNat * 7)).off + 5, none⟩ = some (.slice qel ((qa l1 qh).f5).length qec) ∧ w'.cell? ⟨(zM.add ((qh).toNat * 7)).block, (zM.add ((qh).toNat * 7)).off + 6, none⟩ = some (.slice qek ((qa l1 qh).f6).length qeb)) (ds := []) (bA 10 0) (by kernel_rfl) rfl rfl ⟨(hc_ HB.out qe3), (hc_ HB.out qe2), (hc_ HB.out qe1), (hc_ HB.out qe0), (hc_ HB.out qeZ), (hc_ HB.out qeY), (hc_ HB.out qeX), (hc_ HB.out qbc), (hc_ HB.out qbb), (hc_ HB.out qba), (hc_ HB.out qa9), (hc_ HB.out qa8), (hc_ HB.out qa7), (hc_ HB.out qa6)⟩ (fun hHeld => ?_); refine with_tabW jF.tab6 jF.bits6 (fun HT_ HW_ => ?_)
        generalize wr.drew = w11 at HB Qt XE XD XC Jm qc5 qc4 qc3 zj JI JH JG JF JE JD zS ZS ZR ZQ ZP ZO ZN hHeld ⊢
        refine pu_ HT_ 0 17 (bA 10 1) (v := ?_) (a' := ?_) rfl rfl (by kernel_rfl) (fun _ _ _ h => h) (by rfl) ?_ ?_ ?_; rotate_left; intro w'; go_simp; with_reducible rfl; rotate_left; go_simp; rfl
        refine pu_ HT_ 1 18 (bA 10 3) (v := ?_) (a' := ?_) rfl rfl (by kernel_rfl) (fun _ _ _ h => h) (by rfl) ?_ ?_ ?_; rotate_left; intro w'; go_simp; with_reducible rfl; rotate_left; go_simp; rfl
        refine pu_ HT_ 2 19 (bA 10 7) (v := ?_) (a' := ?_) rfl rfl (by kernel_rfl) (fun _ _ _ h => h) (by rfl) ?_ ?_ ?_; rotate_left; intro w'; go_simp; with_reducible rfl; rotate_left; go_simp; rfl
        refine pu_ HT_ 4 21 (bA 10 23) (v := ?_) (a' := ?_) rfl rfl (by kernel_rfl) (fun _ _ _ h => h) (by rfl) ?_ ?_ ?_; rotate_left; intro w'; go_simp; with_reducible rfl; rotate_left; go_simp; rfl
        refine pu_ HT_ 5 22 (bA 10 55) (v := ?_) (a' := ?_) rfl rfl (by kernel_rfl) (fun _ _ _ h => h) (by rfl) ?_ ?_ ?_; rotate_left; intro w'; go_simp; with_reducible rfl; rotate_left; go_simp; rfl
        refine pu_ HT_ 6 23 (bA 10 119) (v := ?_) (a' := ?_) rfl rfl (by kernel_rfl) (fun _ _ _ h => h) (by rfl) ?_ ?_ ?_; rotate_left; intro w'; go_simp; with_reducible rfl; rotate_left; go_simp; rfl
        refine take_ (i := 3) (N := some 20) (v := ?_) (a' := ?_) (bA 10 127) rfl rfl (take_ofW HT_.out HW_.out (by kernel_rfl)) (fun _ _ _ h => h) (Or.inl ⟨by rfl, ?_⟩) hHeld ?_ ?_
        rotate_left; rintro w' ⟨s0, s1, s2, s3, s4, s5, s6, s7, s8, s9, s10, s11, s12, s13⟩; go_simp; with_reducible rfl; rotate_left; go_simp; rfl
        refine take_ (i := 7) (N := some 24) (v := ?_) (a' := ?_) (bA 10 255) rfl rfl (take_ofW HT_.out HW_.out (by kernel_rfl)) (fun _ _ _ h => h) (Or.inl ⟨by rfl, ?_⟩) hHeld ?_ ?_
        rotate_left; rintro w' ⟨s0, s1, s2, s3, s4, s5, s6, s7, s8, s9, s10, s11, s12, s13⟩; go_simp; with_reducible rfl; rotate_left; go_simp; rfl
        refine one_ (i := 8) (N := some 25) (bA 10 511) rfl rfl (one_of HT_.out (by kernel_rfl)) (by decide) (fun K hK => ?_)
        refine goes_ Try.func17 (by kernel_rfl) rfl #[.agg #[.slice Yi ((qa l0 qh).f0.f0).length Yd, .int .i64 ((qa l0 qh).f1), .int .i64 ((qa l0 qh).f2), .int .i64 ((qa l0 qh).f3), .slice qav ((qa l0 qh).f4.f0).length qaq, .slice qau ((qa l0 qh).f5).length qap, .slice qat ((qa l0 qh).f6).length qao], .agg #[.slice Xe ((qa l1 qh).f0.f0).length Xb, .int .i64 ((qa l1 qh).f1), .int .i64 ((qa l1 qh).f2), .int .i64 ((qa l1 qh).f3), .slice qem ((qa l1 qh).f4.f0).length qed, .slice qel ((qa l1 qh).f5).length qec, .slice qek ((qa l1 qh).f6).length qeb]] (by rfl) rfl rfl (by first | rfl | (simp only [List.map_toArray, List.map_cons, List.map_nil]; first | done | rfl)) ?_
        with_reducible refine (YZ.calls k1 _ _ ((qa l0 qh).f0.f0) ((qa l0 qh).f1) ((qa l0 qh).f2) ((qa l0 qh).f3) _ _ ((qa l0 qh).f4.f0) _ _ ((qa l0 qh).f5) _ _ ((qa l0 qh).f6) _ _ ((qa l1 qh).f0.f0) ((qa l1 qh).f1) ((qa l1 qh).f2) ((qa l1 qh).f3) _ _ ((qa l1 qh).f4.f0) _ _ ((qa l1 qh).f5) _ _ ((qa l1 qh).f6) false _ ?qk ?qj ?qw ?qy ?zK ?yz ?yy ?yx ?qbW ?qah ?qag ?qaf ?qae ?qad ?qac ?qab A7.out).mono ?_
        (case qk => exact cw Qt.out HB.out)
        (case qj => exact QQ.out)
        (case qw => exact cw XE.out HB.out)
        (case qy => exact qaO.out)
        (case zK => exact cw XD.out HB.out)
        (case yz => exact qaN.out)
        (case yy => exact cw XC.out HB.out)
        (case yx => exact qaM.out)
        (case qbW => exact cw Jm.out HB.out)
        (case qah => exact Zq.out)
        (case qag => exact cw qc5.out HB.out)
        (case qaf => exact qhY.out)
        (case qae => exact cw qc4.out HB.out)
        (case qad => exact qhX.out)
        (case qac => exact cw qc3.out HB.out)
        (case qab => exact qhW.out)
        rintro e w12 ⟨rfl, hb⟩
        refine ⟨_, rfl, ?_⟩
        have n0_ := ak (below_step (bw HB.out) hb)
        clear HB
        have HB := n0_
        clear n0_
        (try clear hb)
        (try clear hb2)
        (try clear hk)
        (try clear hi)
        refine hK.out _ _ ⟨(hc_ HB.out qe3), (hc_ HB.out qe2), (hc_ HB.out qe1), (hc_ HB.out qe0), (hc_ HB.out qeZ), (hc_ HB.out qeY), (hc_ HB.out qeX), (hc_ HB.out qbc), (hc_ HB.out qbb), (hc_ HB.out qba), (hc_ HB.out qa9), (hc_ HB.out qa8), (hc_ HB.out qa7), (hc_ HB.out qa6)⟩ (fun hHeld => ?_)
        clear hK K
        refine norm_ (a' := ?_) ?_ ?_; rotate_left; go_simp; rfl
        refine pu_ HT_ 9 26 (bA 10 1023) (v := ?_) (a' := ?_) rfl rfl (by kernel_rfl) (fun _ _ _ h => h) (by rfl) ?_ ?_ ?_; rotate_left; intro w'; go_simp; with_reducible rfl; rotate_left; go_simp; rfl
        refine done_ (done_of HT_.out (by kernel_rfl)) ?_
        try go_wp2
        go_ret
        exact ⟨by first | rfl | (simp [errW_none, errW_some] <;> rfl) | (simp [*, errW_none, errW_some] <;> rfl), bw HB.out⟩
      ·rw [if_neg c6] at H
       exact absurd H (by simp)
     ·rw [if_neg c5] at H
      exact absurd H (by simp)
    ·rw [if_neg c4] at H
     have c4b0 : decide (qh < (l0.length : Int)) = false := decide_eq_false c4
     clear c4
     obtain rfl := Option.some.inj H
     go_wp2
     go_ret
     exact ⟨by first | rfl | (simp [errW_none, errW_some] <;> rfl) | (simp [*, errW_none, errW_some] <;> rfl), bw HB.out⟩
 ·rw [if_neg c3] at H
  have c3b0 : ((l0.length : Int) == (l1.length : Int)) = false := beq_eq_false_iff_ne.mpr c3
  have c3b1 : ((l0.length : Int) != (l1.length : Int)) = true := bne_iff_ne.mpr c3
  have c3b2 : (l0.length == l1.length) = false := by first | simpa using c3 | (simp at c3 ⊢; omega)
  obtain rfl := Option.some.inj H
  go_enter Try.func104, Try.ntmps104
  go_wp2
  go_ret
  exact ⟨by first | rfl | (simp [errW_none, errW_some] <;> rfl) | (simp [*, errW_none, errW_some] <;> rfl), bw HB.out⟩


end Go.Proofs.Ytagedmajlppohaa.Q
