/- Printed by a program of this session (wip/myprint.py), which drives the kit's printer: functions and what their calls do. -/
import Derived.Test.YtagedmajlppohaaProg
import Derived.Below
import Derived.Deep.Draws
import Derived.Deep.AppendLies
import Derived.Maps.AppendAt
import Derived.OwnWalk
import Derived.Laws.BytesArg
import Derived.Laws.MakeOwn
import Derived.Laws.OwnMore
import Derived.Deep.OwnRows
import Derived.Tactics
import Derived.Lib.ConvBytes
import Derived.Laws.Slices
import Derived.WalkKit
import Derived.KernelRfl
import Derived.RowKit3
import Derived.Deep.LoopGhost
import Derived.Deep.QuietTactic
import Derived.BigQuiet
import Derived.WideLaws
import Derived.Deep.DeepCutAuto
import Derived.Deep.CutBlock
import Derived.Deep.RegionHeld3
import Derived.Laws.Rows
import Derived.Lib.AppendStr
import Derived.ArgAppend
import Derived.Laws.IdiomCopy
import Derived.OrdersHeld
import Derived.Laws.BitsLemmas
import Derived.RowKit
import Derived.WalkSpells
import Derived.WalkLawsBesides
import Derived.Shelf.Abstract
import Derived.Test.YtagedmajlppohaaVFnExactCacheOk
import Derived.Deep.DrawnRows
namespace Go.Proofs.Ytagedmajlppohaa.Q
open Go.RowKit Go Go.Proofs.YtagedmajlppohaaW.PrintWords Go.Proofs.YtagedmajlppohaaW.PrintLast Go.Proofs.YtagedmajlppohaaW.PrintMore
attribute [local go_sem] min2_int min_two
set_option linter.unusedVariables false
set_option linter.unusedSimpArgs false

theorem qxb : (Try.prog.info? 3).map (fun i => (i.zero, i.size, i.bytes)) = some (some (.int .i64 0), 1, 8) := by kernel_rfl
theorem qaQ : (Try.prog.info? 5).map (fun i => (i.zero, i.size, i.bytes)) = some (some (.int .u8 0), 1, 1) := by kernel_rfl
theorem qv0 : (Try.prog.info? 25).map (fun i => (i.zero, i.size, i.bytes)) = some (some (.slice none 0 0), 1, 24) := by kernel_rfl
theorem qvZ : (Try.prog.info? 33).map (fun i => (i.zero, i.size, i.bytes)) = some (some (.agg #[(.slice none 0 0), (.int .i64 0), (.int .i64 0), (.int .i64 0), (.slice none 0 0), (.slice none 0 0), (.slice none 0 0)]), 7, 120) := by kernel_rfl
theorem qeM : (Try.prog.info? 141).map (fun i => (i.zero, i.size, i.bytes)) = some (some (.agg #[(.slice none 0 0), (.int .i64 0), (.int .i64 0), (.slice none 0 0), (.int .i64 0), (.int .i64 0), (.int .i64 0)]), 7, 88) := by kernel_rfl
-- the values' own types
/-! #### struct type 7 -/
/-! #### struct type 8 -/
/-! #### struct type 13 -/
/-! #### struct type 14 -/
def je (xs : List (List Int)) (i : Int) : (List Int) := xs.getD i.toNat ([] : List Int)
theorem qhd {w : World} {A : Option Addr} {n : Nat} {xs : List (List Int)} (h : Kd.C (Kd.slice 5 (Kd.int .u8)) w A n xs) (i : Int) (h0 : 0 ≤ i) (h1 : i < n) : ∃ ad A0 c0, A = some ad ∧ w.cell? (ad.add i.toNat) = some (.slice A0 (je xs i).length c0) ∧ (je xs i).length ≤ c0 ∧ (Kd.int .u8).C w A0 (je xs i).length (je xs i) := by
  obtain ⟨ad, c, e, _, hK, hc0⟩ := Kd.C_get h ([] : List Int) i h0 h1;have hc : ∀ j u, c[j]? = some u → w.cell? (ad.add (i.toNat * 1 + j)) = some u := hc0;obtain ⟨A0, c0, rfl, l0, g0⟩ := hK;exact ⟨ad, A0, c0, e, by have hq := hc 0 _ rfl; rwa [Nat.mul_one, Nat.add_zero] at hq, l0, g0⟩

/-! #### struct type 23 -/
/-! #### struct type 24 -/
structure S24 where
  f0 : (List (List Int))
def z24 : S24 := ⟨([] : List (List Int))⟩
def k24 : Kd S24 := Kd.iso (Kd.slice 25 (Kd.slice 5 (Kd.int .u8))) (fun x : S24 => x.f0)
theorem k24_open {w : World} {x : S24} {cs : List Value} (h : k24.K w x cs) : ∃ A0 c0, cs = [.slice A0 x.f0.length c0] ∧ x.f0.length ≤ c0 ∧ (Kd.slice 5 (Kd.int .u8)).C w A0 x.f0.length x.f0 := by
  obtain ⟨A0, c0, rfl, l0, g0⟩ := h;exact ⟨A0, c0, rfl, l0, g0⟩
/-! #### struct type 27 -/
/-! #### struct type 28 -/
structure S28 where
  f0 : S24
  f1 : Int
  f2 : Int
  f3 : Int
  f4 : S24
  f5 : (List Int)
  f6 : (List Int)
def z28 : S28 := ⟨z24, (0 : Int), (0 : Int), (0 : Int), z24, ([] : List Int), ([] : List Int)⟩
def k28 : Kd S28 := Kd.iso (Kd.pair k24 (Kd.pair (Kd.int .i64) (Kd.pair (Kd.int .i64) (Kd.pair (Kd.int .i64) (Kd.pair k24 (Kd.pair (Kd.slice 5 (Kd.int .u8)) (Kd.slice 3 (Kd.int .i64)))))))) (fun x : S28 => (x.f0, x.f1, x.f2, x.f3, x.f4, x.f5, x.f6))
theorem k28_open {w : World} {x : S28} {cs : List Value} (h : k28.K w x cs) : ∃ A0 c0 A4 c4 A5 c5 A6 c6, cs = [.slice A0 x.f0.f0.length c0, .int .i64 x.f1, .int .i64 x.f2, .int .i64 x.f3, .slice A4 x.f4.f0.length c4, .slice A5 x.f5.length c5, .slice A6 x.f6.length c6] ∧ x.f0.f0.length ≤ c0 ∧ (Kd.slice 5 (Kd.int .u8)).C w A0 x.f0.f0.length x.f0.f0 ∧ x.f4.f0.length ≤ c4 ∧ (Kd.slice 5 (Kd.int .u8)).C w A4 x.f4.f0.length x.f4.f0 ∧ x.f5.length ≤ c5 ∧ (Kd.int .u8).C w A5 x.f5.length x.f5 ∧ x.f6.length ≤ c6 ∧ (Kd.int .i64).C w A6 x.f6.length x.f6 := by
  obtain ⟨_, _, rfl, s0, ⟨_, _, rfl, rfl, ⟨_, _, rfl, rfl, ⟨_, _, rfl, rfl, ⟨_, _, rfl, s4, ⟨_, _, rfl, ⟨A5, c5, rfl, l5, g5⟩, ⟨A6, c6, rfl, l6, g6⟩⟩⟩⟩⟩⟩⟩ := h;obtain ⟨A0, c0, rfl, l0, g0⟩ := k24_open s0;obtain ⟨A4, c4, rfl, l4, g4⟩ := k24_open s4;exact ⟨A0, c0, A4, c4, A5, c5, A6, c6, rfl, l0, g0, l4, g4, l5, g5, l6, g6⟩
def jn (xs : List S28) (i : Int) : S28 := xs.getD i.toNat z28
theorem qwY {w : World} {A : Option Addr} {n : Nat} {xs : List S28} (h : Kd.C k28 w A n xs) (i : Int) (h0 : 0 ≤ i) (h1 : i < n) : ∃ ad A0 c0 A4 c4 A5 c5 A6 c6, A = some ad ∧ w.cell? (ad.add (i.toNat * 7)) = some (.slice A0 (jn xs i).f0.f0.length c0) ∧ w.cell? ⟨(ad.add (i.toNat * 7)).block, (ad.add (i.toNat * 7)).off + 1, none⟩ = some (.int .i64 (jn xs i).f1) ∧ w.cell? ⟨(ad.add (i.toNat * 7)).block, (ad.add (i.toNat * 7)).off + 2, none⟩ = some (.int .i64 (jn xs i).f2) ∧ w.cell? ⟨(ad.add (i.toNat * 7)).block, (ad.add (i.toNat * 7)).off + 3, none⟩ = some (.int .i64 (jn xs i).f3) ∧ w.cell? ⟨(ad.add (i.toNat * 7)).block, (ad.add (i.toNat * 7)).off + 4, none⟩ = some (.slice A4 (jn xs i).f4.f0.length c4) ∧ w.cell? ⟨(ad.add (i.toNat * 7)).block, (ad.add (i.toNat * 7)).off + 5, none⟩ = some (.slice A5 (jn xs i).f5.length c5) ∧ w.cell? ⟨(ad.add (i.toNat * 7)).block, (ad.add (i.toNat * 7)).off + 6, none⟩ = some (.slice A6 (jn xs i).f6.length c6) ∧ (jn xs i).f0.f0.length ≤ c0 ∧ (Kd.slice 5 (Kd.int .u8)).C w A0 (jn xs i).f0.f0.length (jn xs i).f0.f0 ∧ (jn xs i).f4.f0.length ≤ c4 ∧ (Kd.slice 5 (Kd.int .u8)).C w A4 (jn xs i).f4.f0.length (jn xs i).f4.f0 ∧ (jn xs i).f5.length ≤ c5 ∧ (Kd.int .u8).C w A5 (jn xs i).f5.length (jn xs i).f5 ∧ (jn xs i).f6.length ≤ c6 ∧ (Kd.int .i64).C w A6 (jn xs i).f6.length (jn xs i).f6 := by
  obtain ⟨ad, c, e, _, hK, hc0⟩ := Kd.C_get h z28 i h0 h1;have hc : ∀ j u, c[j]? = some u → w.cell? (ad.add (i.toNat * 7 + j)) = some u := hc0;obtain ⟨A0, c0, A4, c4, A5, c5, A6, c6, rfl, l0, g0, l4, g4, l5, g5, l6, g6⟩ := k28_open hK;exact ⟨ad, A0, c0, A4, c4, A5, c5, A6, c6, e, hc 0 _ rfl, by rw [← add_field _ _ 1 (by omega)]; exact hc 1 _ rfl, by rw [← add_field _ _ 2 (by omega)]; exact hc 2 _ rfl, by rw [← add_field _ _ 3 (by omega)]; exact hc 3 _ rfl, by rw [← add_field _ _ 4 (by omega)]; exact hc 4 _ rfl, by rw [← add_field _ _ 5 (by omega)]; exact hc 5 _ rfl, by rw [← add_field _ _ 6 (by omega)]; exact hc 6 _ rfl, l0, g0, l4, g4, l5, g5, l6, g6⟩

/-! #### struct type 31 -/
structure S31 where
  f0 : (List (List Int))
def z31 : S31 := ⟨([] : List (List Int))⟩
def k31 : Kd S31 := Kd.iso (Kd.slice 25 (Kd.slice 5 (Kd.int .u8))) (fun x : S31 => x.f0)
theorem k31_open {w : World} {x : S31} {cs : List Value} (h : k31.K w x cs) : ∃ A0 c0, cs = [.slice A0 x.f0.length c0] ∧ x.f0.length ≤ c0 ∧ (Kd.slice 5 (Kd.int .u8)).C w A0 x.f0.length x.f0 := by
  obtain ⟨A0, c0, rfl, l0, g0⟩ := h;exact ⟨A0, c0, rfl, l0, g0⟩
theorem k31_openM {w : World} {base : Nat} {ok : Nat → Prop} {x : S31} {cs : List Value} (h : k31.M w base ok x cs) : ∃ v0, cs = [v0] ∧ (Kd.slice 5 (Kd.int .u8)).R 25 w base ok v0 x.f0 := by
  obtain ⟨v0, rfl, g0⟩ := h;exact ⟨v0, rfl, g0⟩
theorem k31_mkM (w : World) (base : Nat) (ok : Nat → Prop) (x : S31) {v0 : Value} (g0 : (Kd.slice 5 (Kd.int .u8)).R 25 w base ok v0 x.f0) : k31.M w base ok x [v0] := ⟨v0, rfl, g0⟩
/-! #### struct type 32 -/
/-! #### struct type 33 -/
structure S33 where
  f0 : S31
  f1 : Int
  f2 : Int
  f3 : Int
  f4 : S31
  f5 : (List Int)
  f6 : (List Int)
def z33 : S33 := ⟨z31, (0 : Int), (0 : Int), (0 : Int), z31, ([] : List Int), ([] : List Int)⟩
def k33 : Kd S33 := Kd.iso (Kd.pair k31 (Kd.pair (Kd.int .i64) (Kd.pair (Kd.int .i64) (Kd.pair (Kd.int .i64) (Kd.pair k31 (Kd.pair (Kd.slice 5 (Kd.int .u8)) (Kd.slice 3 (Kd.int .i64)))))))) (fun x : S33 => (x.f0, x.f1, x.f2, x.f3, x.f4, x.f5, x.f6))
theorem k33_open {w : World} {x : S33} {cs : List Value} (h : k33.K w x cs) : ∃ A0 c0 A4 c4 A5 c5 A6 c6, cs = [.slice A0 x.f0.f0.length c0, .int .i64 x.f1, .int .i64 x.f2, .int .i64 x.f3, .slice A4 x.f4.f0.length c4, .slice A5 x.f5.length c5, .slice A6 x.f6.length c6] ∧ x.f0.f0.length ≤ c0 ∧ (Kd.slice 5 (Kd.int .u8)).C w A0 x.f0.f0.length x.f0.f0 ∧ x.f4.f0.length ≤ c4 ∧ (Kd.slice 5 (Kd.int .u8)).C w A4 x.f4.f0.length x.f4.f0 ∧ x.f5.length ≤ c5 ∧ (Kd.int .u8).C w A5 x.f5.length x.f5 ∧ x.f6.length ≤ c6 ∧ (Kd.int .i64).C w A6 x.f6.length x.f6 := by
  obtain ⟨_, _, rfl, s0, ⟨_, _, rfl, rfl, ⟨_, _, rfl, rfl, ⟨_, _, rfl, rfl, ⟨_, _, rfl, s4, ⟨_, _, rfl, ⟨A5, c5, rfl, l5, g5⟩, ⟨A6, c6, rfl, l6, g6⟩⟩⟩⟩⟩⟩⟩ := h;obtain ⟨A0, c0, rfl, l0, g0⟩ := k31_open s0;obtain ⟨A4, c4, rfl, l4, g4⟩ := k31_open s4;exact ⟨A0, c0, A4, c4, A5, c5, A6, c6, rfl, l0, g0, l4, g4, l5, g5, l6, g6⟩
theorem k33_openM {w : World} {base : Nat} {ok : Nat → Prop} {x : S33} {cs : List Value} (h : k33.M w base ok x cs) : ∃ v0 v4 v5 v6, cs = [v0, .int .i64 x.f1, .int .i64 x.f2, .int .i64 x.f3, v4, v5, v6] ∧ (Kd.slice 5 (Kd.int .u8)).R 25 w base ok v0 x.f0.f0 ∧ (Kd.slice 5 (Kd.int .u8)).R 25 w base ok v4 x.f4.f0 ∧ (Kd.int .u8).R 5 w base ok v5 x.f5 ∧ (Kd.int .i64).R 3 w base ok v6 x.f6 := by
  obtain ⟨_, _, rfl, s0, ⟨_, _, rfl, rfl, ⟨_, _, rfl, rfl, ⟨_, _, rfl, rfl, ⟨_, _, rfl, s4, ⟨_, _, rfl, ⟨v5, rfl, g5⟩, ⟨v6, rfl, g6⟩⟩⟩⟩⟩⟩⟩ := h;obtain ⟨v0, rfl, g0⟩ := k31_openM s0;obtain ⟨v4, rfl, g4⟩ := k31_openM s4;exact ⟨v0, v4, v5, v6, rfl, g0, g4, g5, g6⟩
theorem k33_mkM (w : World) (base : Nat) (ok : Nat → Prop) (x : S33) {v0 : Value} (g0 : (Kd.slice 5 (Kd.int .u8)).R 25 w base ok v0 x.f0.f0) {v4 : Value} (g4 : (Kd.slice 5 (Kd.int .u8)).R 25 w base ok v4 x.f4.f0) {v5 : Value} (g5 : (Kd.int .u8).R 5 w base ok v5 x.f5) {v6 : Value} (g6 : (Kd.int .i64).R 3 w base ok v6 x.f6) : k33.M w base ok x [v0, .int .i64 x.f1, .int .i64 x.f2, .int .i64 x.f3, v4, v5, v6] := ⟨[v0], [.int .i64 x.f1, .int .i64 x.f2, .int .i64 x.f3, v4, v5, v6], rfl, (k31_mkM w base ok x.f0 g0), ⟨[.int .i64 x.f1], [.int .i64 x.f2, .int .i64 x.f3, v4, v5, v6], rfl, rfl, ⟨[.int .i64 x.f2], [.int .i64 x.f3, v4, v5, v6], rfl, rfl, ⟨[.int .i64 x.f3], [v4, v5, v6], rfl, rfl, ⟨[v4], [v5, v6], rfl, (k31_mkM w base ok x.f4 g4), ⟨[v5], [v6], rfl, ⟨v5, rfl, g5⟩, ⟨v6, rfl, g6⟩⟩⟩⟩⟩⟩⟩
def qb (xs : List S33) (i : Int) : S33 := xs.getD i.toNat z33
theorem yu {w : World} {A : Option Addr} {n : Nat} {xs : List S33} (h : Kd.C k33 w A n xs) (i : Int) (h0 : 0 ≤ i) (h1 : i < n) : ∃ ad A0 c0 A4 c4 A5 c5 A6 c6, A = some ad ∧ w.cell? (ad.add (i.toNat * 7)) = some (.slice A0 (qb xs i).f0.f0.length c0) ∧ w.cell? ⟨(ad.add (i.toNat * 7)).block, (ad.add (i.toNat * 7)).off + 1, none⟩ = some (.int .i64 (qb xs i).f1) ∧ w.cell? ⟨(ad.add (i.toNat * 7)).block, (ad.add (i.toNat * 7)).off + 2, none⟩ = some (.int .i64 (qb xs i).f2) ∧ w.cell? ⟨(ad.add (i.toNat * 7)).block, (ad.add (i.toNat * 7)).off + 3, none⟩ = some (.int .i64 (qb xs i).f3) ∧ w.cell? ⟨(ad.add (i.toNat * 7)).block, (ad.add (i.toNat * 7)).off + 4, none⟩ = some (.slice A4 (qb xs i).f4.f0.length c4) ∧ w.cell? ⟨(ad.add (i.toNat * 7)).block, (ad.add (i.toNat * 7)).off + 5, none⟩ = some (.slice A5 (qb xs i).f5.length c5) ∧ w.cell? ⟨(ad.add (i.toNat * 7)).block, (ad.add (i.toNat * 7)).off + 6, none⟩ = some (.slice A6 (qb xs i).f6.length c6) ∧ (qb xs i).f0.f0.length ≤ c0 ∧ (Kd.slice 5 (Kd.int .u8)).C w A0 (qb xs i).f0.f0.length (qb xs i).f0.f0 ∧ (qb xs i).f4.f0.length ≤ c4 ∧ (Kd.slice 5 (Kd.int .u8)).C w A4 (qb xs i).f4.f0.length (qb xs i).f4.f0 ∧ (qb xs i).f5.length ≤ c5 ∧ (Kd.int .u8).C w A5 (qb xs i).f5.length (qb xs i).f5 ∧ (qb xs i).f6.length ≤ c6 ∧ (Kd.int .i64).C w A6 (qb xs i).f6.length (qb xs i).f6 := by
  obtain ⟨ad, c, e, _, hK, hc0⟩ := Kd.C_get h z33 i h0 h1;have hc : ∀ j u, c[j]? = some u → w.cell? (ad.add (i.toNat * 7 + j)) = some u := hc0;obtain ⟨A0, c0, A4, c4, A5, c5, A6, c6, rfl, l0, g0, l4, g4, l5, g5, l6, g6⟩ := k33_open hK;exact ⟨ad, A0, c0, A4, c4, A5, c5, A6, c6, e, hc 0 _ rfl, by rw [← add_field _ _ 1 (by omega)]; exact hc 1 _ rfl, by rw [← add_field _ _ 2 (by omega)]; exact hc 2 _ rfl, by rw [← add_field _ _ 3 (by omega)]; exact hc 3 _ rfl, by rw [← add_field _ _ 4 (by omega)]; exact hc 4 _ rfl, by rw [← add_field _ _ 5 (by omega)]; exact hc 5 _ rfl, by rw [← add_field _ _ 6 (by omega)]; exact hc 6 _ rfl, l0, g0, l4, g4, l5, g5, l6, g6⟩

/-! #### struct type 53 -/
/-! #### struct type 54 -/
/-! #### struct type 58 -/
/-! #### struct type 59 -/
/-! #### struct type 190 -/
structure Yt where
  f0 : S24
  f1 : Int
  f2 : Int
  f3 : (List S28)
  f4 : Int
  f5 : Int
  f6 : Int
def qvN : Yt := ⟨z24, (0 : Int), (0 : Int), ([] : List S28), (0 : Int), (0 : Int), (0 : Int)⟩
def qbG : Kd Yt := Kd.iso (Kd.pair k24 (Kd.pair (Kd.int .i64) (Kd.pair (Kd.int .i64) (Kd.pair (Kd.slice 28 k28) (Kd.pair (Kd.int .i64) (Kd.pair (Kd.int .i64) (Kd.int .i64))))))) (fun x : Yt => (x.f0, x.f1, x.f2, x.f3, x.f4, x.f5, x.f6))
theorem k190_open {w : World} {x : Yt} {cs : List Value} (h : qbG.K w x cs) : ∃ A0 c0 A3 c3, cs = [.slice A0 x.f0.f0.length c0, .int .i64 x.f1, .int .i64 x.f2, .slice A3 x.f3.length c3, .int .i64 x.f4, .int .i64 x.f5, .int .i64 x.f6] ∧ x.f0.f0.length ≤ c0 ∧ (Kd.slice 5 (Kd.int .u8)).C w A0 x.f0.f0.length x.f0.f0 ∧ x.f3.length ≤ c3 ∧ k28.C w A3 x.f3.length x.f3 := by
  obtain ⟨_, _, rfl, s0, ⟨_, _, rfl, rfl, ⟨_, _, rfl, rfl, ⟨_, _, rfl, ⟨A3, c3, rfl, l3, g3⟩, ⟨_, _, rfl, rfl, ⟨_, _, rfl, rfl, rfl⟩⟩⟩⟩⟩⟩ := h;obtain ⟨A0, c0, rfl, l0, g0⟩ := k24_open s0;exact ⟨A0, c0, A3, c3, rfl, l0, g0, l3, g3⟩
def jq (xs : List Yt) (i : Int) : Yt := xs.getD i.toNat qvN
theorem qvF {w : World} {A : Option Addr} {n : Nat} {xs : List Yt} (h : Kd.C qbG w A n xs) (i : Int) (h0 : 0 ≤ i) (h1 : i < n) : ∃ ad A0 c0 A3 c3, A = some ad ∧ w.cell? (ad.add (i.toNat * 7)) = some (.slice A0 (jq xs i).f0.f0.length c0) ∧ w.cell? ⟨(ad.add (i.toNat * 7)).block, (ad.add (i.toNat * 7)).off + 1, none⟩ = some (.int .i64 (jq xs i).f1) ∧ w.cell? ⟨(ad.add (i.toNat * 7)).block, (ad.add (i.toNat * 7)).off + 2, none⟩ = some (.int .i64 (jq xs i).f2) ∧ w.cell? ⟨(ad.add (i.toNat * 7)).block, (ad.add (i.toNat * 7)).off + 3, none⟩ = some (.slice A3 (jq xs i).f3.length c3) ∧ w.cell? ⟨(ad.add (i.toNat * 7)).block, (ad.add (i.toNat * 7)).off + 4, none⟩ = some (.int .i64 (jq xs i).f4) ∧ w.cell? ⟨(ad.add (i.toNat * 7)).block, (ad.add (i.toNat * 7)).off + 5, none⟩ = some (.int .i64 (jq xs i).f5) ∧ w.cell? ⟨(ad.add (i.toNat * 7)).block, (ad.add (i.toNat * 7)).off + 6, none⟩ = some (.int .i64 (jq xs i).f6) ∧ (jq xs i).f0.f0.length ≤ c0 ∧ (Kd.slice 5 (Kd.int .u8)).C w A0 (jq xs i).f0.f0.length (jq xs i).f0.f0 ∧ (jq xs i).f3.length ≤ c3 ∧ k28.C w A3 (jq xs i).f3.length (jq xs i).f3 := by
  obtain ⟨ad, c, e, _, hK, hc0⟩ := Kd.C_get h qvN i h0 h1;have hc : ∀ j u, c[j]? = some u → w.cell? (ad.add (i.toNat * 7 + j)) = some u := hc0;obtain ⟨A0, c0, A3, c3, rfl, l0, g0, l3, g3⟩ := k190_open hK;exact ⟨ad, A0, c0, A3, c3, e, hc 0 _ rfl, by rw [← add_field _ _ 1 (by omega)]; exact hc 1 _ rfl, by rw [← add_field _ _ 2 (by omega)]; exact hc 2 _ rfl, by rw [← add_field _ _ 3 (by omega)]; exact hc 3 _ rfl, by rw [← add_field _ _ 4 (by omega)]; exact hc 4 _ rfl, by rw [← add_field _ _ 5 (by omega)]; exact hc 5 _ rfl, by rw [← add_field _ _ 6 (by omega)]; exact hc 6 _ rfl, l0, g0, l3, g3⟩

/-! #### struct type 73 -/
/-! #### struct type 74 -/
structure S74 where
  f0 : Int
  f1 : Int
  f2 : (List Yt)
def k74 : Kd S74 := Kd.iso (Kd.pair (Kd.int .i64) (Kd.pair (Kd.int .i64) (Kd.slice 190 qbG))) (fun x : S74 => (x.f0, x.f1, x.f2))
theorem k74_open {w : World} {x : S74} {cs : List Value} (h : k74.K w x cs) : ∃ A2 c2, cs = [.int .i64 x.f0, .int .i64 x.f1, .slice A2 x.f2.length c2] ∧ x.f2.length ≤ c2 ∧ qbG.C w A2 x.f2.length x.f2 := by
  obtain ⟨_, _, rfl, rfl, ⟨_, _, rfl, rfl, ⟨A2, c2, rfl, l2, g2⟩⟩⟩ := h;exact ⟨A2, c2, rfl, l2, g2⟩
/-! #### struct type 141 -/
structure zy where
  f0 : S31
  f1 : Int
  f2 : Int
  f3 : (List S33)
  f4 : Int
  f5 : Int
  f6 : Int
def qbe : zy := ⟨z31, (0 : Int), (0 : Int), ([] : List S33), (0 : Int), (0 : Int), (0 : Int)⟩
def yR : Kd zy := Kd.iso (Kd.pair k31 (Kd.pair (Kd.int .i64) (Kd.pair (Kd.int .i64) (Kd.pair (Kd.slice 33 k33) (Kd.pair (Kd.int .i64) (Kd.pair (Kd.int .i64) (Kd.int .i64))))))) (fun x : zy => (x.f0, x.f1, x.f2, x.f3, x.f4, x.f5, x.f6))
theorem k141_open {w : World} {x : zy} {cs : List Value} (h : yR.K w x cs) : ∃ A0 c0 A3 c3, cs = [.slice A0 x.f0.f0.length c0, .int .i64 x.f1, .int .i64 x.f2, .slice A3 x.f3.length c3, .int .i64 x.f4, .int .i64 x.f5, .int .i64 x.f6] ∧ x.f0.f0.length ≤ c0 ∧ (Kd.slice 5 (Kd.int .u8)).C w A0 x.f0.f0.length x.f0.f0 ∧ x.f3.length ≤ c3 ∧ k33.C w A3 x.f3.length x.f3 := by
  obtain ⟨_, _, rfl, s0, ⟨_, _, rfl, rfl, ⟨_, _, rfl, rfl, ⟨_, _, rfl, ⟨A3, c3, rfl, l3, g3⟩, ⟨_, _, rfl, rfl, ⟨_, _, rfl, rfl, rfl⟩⟩⟩⟩⟩⟩ := h;obtain ⟨A0, c0, rfl, l0, g0⟩ := k31_open s0;exact ⟨A0, c0, A3, c3, rfl, l0, g0, l3, g3⟩
theorem k141_openM {w : World} {base : Nat} {ok : Nat → Prop} {x : zy} {cs : List Value} (h : yR.M w base ok x cs) : ∃ v0 v3, cs = [v0, .int .i64 x.f1, .int .i64 x.f2, v3, .int .i64 x.f4, .int .i64 x.f5, .int .i64 x.f6] ∧ (Kd.slice 5 (Kd.int .u8)).R 25 w base ok v0 x.f0.f0 ∧ k33.R 33 w base ok v3 x.f3 := by
  obtain ⟨_, _, rfl, s0, ⟨_, _, rfl, rfl, ⟨_, _, rfl, rfl, ⟨_, _, rfl, ⟨v3, rfl, g3⟩, ⟨_, _, rfl, rfl, ⟨_, _, rfl, rfl, rfl⟩⟩⟩⟩⟩⟩ := h;obtain ⟨v0, rfl, g0⟩ := k31_openM s0;exact ⟨v0, v3, rfl, g0, g3⟩
theorem k141_mkM (w : World) (base : Nat) (ok : Nat → Prop) (x : zy) {v0 : Value} (g0 : (Kd.slice 5 (Kd.int .u8)).R 25 w base ok v0 x.f0.f0) {v3 : Value} (g3 : k33.R 33 w base ok v3 x.f3) : yR.M w base ok x [v0, .int .i64 x.f1, .int .i64 x.f2, v3, .int .i64 x.f4, .int .i64 x.f5, .int .i64 x.f6] := ⟨[v0], [.int .i64 x.f1, .int .i64 x.f2, v3, .int .i64 x.f4, .int .i64 x.f5, .int .i64 x.f6], rfl, (k31_mkM w base ok x.f0 g0), ⟨[.int .i64 x.f1], [.int .i64 x.f2, v3, .int .i64 x.f4, .int .i64 x.f5, .int .i64 x.f6], rfl, rfl, ⟨[.int .i64 x.f2], [v3, .int .i64 x.f4, .int .i64 x.f5, .int .i64 x.f6], rfl, rfl, ⟨[v3], [.int .i64 x.f4, .int .i64 x.f5, .int .i64 x.f6], rfl, ⟨v3, rfl, g3⟩, ⟨[.int .i64 x.f4], [.int .i64 x.f5, .int .i64 x.f6], rfl, rfl, ⟨[.int .i64 x.f5], [.int .i64 x.f6], rfl, rfl, rfl⟩⟩⟩⟩⟩⟩
def qa (xs : List zy) (i : Int) : zy := xs.getD i.toNat qbe
theorem qkS {w : World} {A : Option Addr} {n : Nat} {xs : List zy} (h : Kd.C yR w A n xs) (i : Int) (h0 : 0 ≤ i) (h1 : i < n) : ∃ ad A0 c0 A3 c3, A = some ad ∧ w.cell? (ad.add (i.toNat * 7)) = some (.slice A0 (qa xs i).f0.f0.length c0) ∧ w.cell? ⟨(ad.add (i.toNat * 7)).block, (ad.add (i.toNat * 7)).off + 1, none⟩ = some (.int .i64 (qa xs i).f1) ∧ w.cell? ⟨(ad.add (i.toNat * 7)).block, (ad.add (i.toNat * 7)).off + 2, none⟩ = some (.int .i64 (qa xs i).f2) ∧ w.cell? ⟨(ad.add (i.toNat * 7)).block, (ad.add (i.toNat * 7)).off + 3, none⟩ = some (.slice A3 (qa xs i).f3.length c3) ∧ w.cell? ⟨(ad.add (i.toNat * 7)).block, (ad.add (i.toNat * 7)).off + 4, none⟩ = some (.int .i64 (qa xs i).f4) ∧ w.cell? ⟨(ad.add (i.toNat * 7)).block, (ad.add (i.toNat * 7)).off + 5, none⟩ = some (.int .i64 (qa xs i).f5) ∧ w.cell? ⟨(ad.add (i.toNat * 7)).block, (ad.add (i.toNat * 7)).off + 6, none⟩ = some (.int .i64 (qa xs i).f6) ∧ (qa xs i).f0.f0.length ≤ c0 ∧ (Kd.slice 5 (Kd.int .u8)).C w A0 (qa xs i).f0.f0.length (qa xs i).f0.f0 ∧ (qa xs i).f3.length ≤ c3 ∧ k33.C w A3 (qa xs i).f3.length (qa xs i).f3 := by
  obtain ⟨ad, c, e, _, hK, hc0⟩ := Kd.C_get h qbe i h0 h1;have hc : ∀ j u, c[j]? = some u → w.cell? (ad.add (i.toNat * 7 + j)) = some u := hc0;obtain ⟨A0, c0, A3, c3, rfl, l0, g0, l3, g3⟩ := k141_open hK;exact ⟨ad, A0, c0, A3, c3, e, hc 0 _ rfl, by rw [← add_field _ _ 1 (by omega)]; exact hc 1 _ rfl, by rw [← add_field _ _ 2 (by omega)]; exact hc 2 _ rfl, by rw [← add_field _ _ 3 (by omega)]; exact hc 3 _ rfl, by rw [← add_field _ _ 4 (by omega)]; exact hc 4 _ rfl, by rw [← add_field _ _ 5 (by omega)]; exact hc 5 _ rfl, by rw [← add_field _ _ 6 (by omega)]; exact hc 6 _ rfl, l0, g0, l3, g3⟩

/-! #### struct type 78 -/
/-! #### struct type 79 -/
/-! #### struct type 195 -/
/-! #### struct type 198 -/
/-! #### struct type 85 -/
/-! #### struct type 86 -/
/-! #### struct type 200 -/
/-! #### struct type 205 -/
/-! #### struct type 91 -/
/-! #### struct type 92 -/
/-! #### struct type 122 -/
/-! #### struct type 123 -/
/-! #### struct type 140 -/
/-! #### struct type 179 -/
/-! #### struct type 180 -/
/-! #### struct type 189 -/
/-! #### struct type 194 -/
/-! #### struct type 197 -/
/-! #### struct type 199 -/
/-! #### struct type 204 -/
/-- One world is another one with blocks made and draws taken. -/
def Gr (A W : World) : Prop := Below A.heap.size A W
instance Gr.refl_ (A : World) : Nonempty (Gr A A) := ⟨Below.refl _ _⟩
instance Gr.alloc_ (A W : World) (o : Obj) [h : Nonempty (Gr A W)] : Nonempty (Gr A (W.alloc o)) := h.elim fun h => ⟨below_alloc h o⟩
instance Gr.drew_ (A W : World) [h : Nonempty (Gr A W)] : Nonempty (Gr A W.drew) := h.elim fun h => ⟨below_drew h⟩
instance Gr.drewN_ (A W : World) (n : Nat) [h : Nonempty (Gr A W)] : Nonempty (Gr A (W.drewN n)) := h.elim fun h => ⟨pw_below_drewN h n⟩
section
variable {α : Type} {d : Kd α} {e base n : Nat} {ok : Nat → Prop} {w W W' : World} {v : Value} {xs : List α} {A : Option Addr}
theorem bw (h : Below w.heap.size w W) [g : Nonempty (Gr W W')] : Below w.heap.size w W' := g.elim fun g => below_step h g
theorem bk {g : Nat} {o : Obj} (h : W.heap[g]? = some o) [k : Nonempty (Gr W W')] : W'.heap[g]? = some o := k.elim fun k => blk_below h k
theorem cw (h : d.C w A n xs) (hb : Below w.heap.size w W) [g : Nonempty (Gr W W')] : d.C W' A n xs := Kd.C_below h (bw hb)
theorem rw_ (h : d.R e W base ok v xs) [g : Nonempty (Gr W W')] : d.R e W' base ok v xs := g.elim fun g => Kd.R_below h g
theorem sw (h : d.S e W base ok v xs) [g : Nonempty (Gr W W')] : d.S e W' base ok v xs := g.elim fun g => Kd.S_below h g
end
section
variable {W : World} {g t : Nat} {a b c d e f x y z : Value}
theorem cells1 (h : W.heap[g]? = some (.cells #[a] t (0, 0))) : W.cell? ⟨g, 0, none⟩ = some a ∧ W.frozen? ⟨g, 0, none⟩ = false := ⟨(blk_cell h 0).trans rfl, blk_frozen h 0⟩
theorem cells7 (h : W.heap[g]? = some (.cells #[a, b, c, d, e, f, x] t (0, 0))) : W.cell? ⟨g, 0, none⟩ = some a ∧ W.cell? ⟨g, 1, none⟩ = some b ∧ W.cell? ⟨g, 2, none⟩ = some c ∧ W.cell? ⟨g, 3, none⟩ = some d ∧ W.cell? ⟨g, 4, none⟩ = some e ∧ W.cell? ⟨g, 5, none⟩ = some f ∧ W.cell? ⟨g, 6, none⟩ = some x ∧ W.frozen? ⟨g, 0, none⟩ = false ∧ W.frozen? ⟨g, 1, none⟩ = false ∧ W.frozen? ⟨g, 2, none⟩ = false ∧ W.frozen? ⟨g, 3, none⟩ = false ∧ W.frozen? ⟨g, 4, none⟩ = false ∧ W.frozen? ⟨g, 5, none⟩ = false ∧ W.frozen? ⟨g, 6, none⟩ = false :=
  ⟨(blk_cell h 0).trans rfl, (blk_cell h 1).trans rfl, (blk_cell h 2).trans rfl, (blk_cell h 3).trans rfl, (blk_cell h 4).trans rfl, (blk_cell h 5).trans rfl, (blk_cell h 6).trans rfl, blk_frozen h 0, blk_frozen h 1, blk_frozen h 2, blk_frozen h 3, blk_frozen h 4, blk_frozen h 5, blk_frozen h 6⟩
end
section
variable {P : Program} {ops : Array Oper} {rest : List Oper} {o : Oper} {a : Act} {Q : Exit → Act → World → Prop}
/-- A struct's variable is made. -/
theorem boxed {w W0 W : World} {N : Tmp} (_hN : o.dst = some N) (hgd : o.guard = none) {cs : Array Value} {t : TypeId} (hB : Below w.heap.size w W0) [gr : Nonempty (Gr W0 W)]
    (hrun : (execOp a.eval o).run P W = .ok (.value (.pointer (some ⟨W.heap.size, 0, none⟩))) (W.alloc (.cells cs t (0, 0))))
    (h : ∀ g, ∀ w1, g = W.heap.size → Aside0 (Below w.heap.size w w1) → Aside0 (w1.heap[g]? = some (.cells cs t (0, 0))) → Aside0 (w.heap.size ≤ g) → Below W.heap.size W w1 → wpList P ops Q rest (a.put o.dst (.pointer (some ⟨g, 0, none⟩))) w1) : wpList P ops Q (o :: rest) a W := by
  have hB' : Below w.heap.size w W := bw hB;exact box_event hgd _hN hrun (fun g hg w1 hbox hb => h g w1 hg ⟨below_step hB' hb⟩ ⟨hbox⟩ ⟨by rw [hg]; exact hB'.size⟩ hb)
end
section
variable {α : Type} {d : Kd α} {e base g k t : Nat} {ok : Nat → Prop} {W : World} {v : Value} {xs : List α} {cs : Array Value} {l : List Nat}
end
/-- Which operations of a region are done: n places, told by a number's bits. -/
def bA (n m : Nat) : Array Bool := ((List.range n).map fun i => m.testBit i).toArray
section
variable {α : Type} {d : Kd α} {e base g g' t : Nat} {ok : Nat → Prop} {W W1 : World} {v : Value} {xs : List α} {cs : Array Value} {fr : Nat × Nat}
theorem qrX {v0 v1 : Value} (hn : g ≠ g') (h : W.heap[g]? = some (.cells cs t (0, 0))) [k : Nonempty (Gr W W1)] : ((W1.setCell ⟨g', 0, none⟩ v0).setCell ⟨g', 1, none⟩ v1).heap[g]? = some (.cells cs t (0, 0)) := (blk_far (blk_far (bk h) hn _) hn _)
theorem far3R {v0 v1 v2 : Value} (h : Kd.R d e W base ok v xs) [k : Nonempty (Gr W W1)] (hb : W1.heap[g]? = some (.cells cs t (0, 0))) (ht : ∀ q, q ∈ e :: d.E → q ≠ t) : Kd.R d e (((W1.setCell ⟨g, 0, none⟩ v0).setCell ⟨g, 1, none⟩ v1).setCell ⟨g, 2, none⟩ v2) base ok v xs :=
  Kd.R_mono (Kd.R_far (p := ⟨g, 2, none⟩) (Kd.R_far (p := ⟨g, 1, none⟩) (Kd.R_far (p := ⟨g, 0, none⟩) (Kd.R_types (rw_ h) hb ht) (fun _ hk => hk.2) _) (fun _ hk => hk.2) _) (fun _ hk => hk.2) _) (fun _ h_ => h_.1)
theorem far3S {v0 v1 v2 : Value} (h : Kd.S d e W base ok v xs) [k : Nonempty (Gr W W1)] (hb : W1.heap[g]? = some (.cells cs t (0, 0))) (ht : ∀ q, q ∈ e :: d.E → q ≠ t) : Kd.S d e (((W1.setCell ⟨g, 0, none⟩ v0).setCell ⟨g, 1, none⟩ v1).setCell ⟨g, 2, none⟩ v2) base ok v xs :=
  Kd.S_mono (Kd.S_far (p := ⟨g, 2, none⟩) (Kd.S_far (p := ⟨g, 1, none⟩) (Kd.S_far (p := ⟨g, 0, none⟩) (Kd.S_types (sw h) hb ht) (fun _ hk => hk.2) _) (fun _ hk => hk.2) _) (fun _ hk => hk.2) _) (fun _ h_ => h_.1)
theorem qqN {v0 v1 v2 : Value} (hn : g ≠ g') (h : W.heap[g]? = some (.cells cs t (0, 0))) [k : Nonempty (Gr W W1)] : (((W1.setCell ⟨g', 0, none⟩ v0).setCell ⟨g', 1, none⟩ v1).setCell ⟨g', 2, none⟩ v2).heap[g]? = some (.cells cs t (0, 0)) := (blk_far (blk_far (blk_far (bk h) hn _) hn _) hn _)
theorem qxB {v0 v1 v2 z0 z1 z2 : Value} (h : W.heap[g]? = some (.cells #[z0, z1, z2] t (0, 0))) [k : Nonempty (Gr W W1)] : (((W1.setCell ⟨g, 0, none⟩ v0).setCell ⟨g, 1, none⟩ v1).setCell ⟨g, 2, none⟩ v2).heap[g]? = some (.cells #[v0, v1, v2] t (0, 0)) := (blk_put (cs' := #[v0, v1, v2]) (blk_put (cs' := #[v0, v1, z2]) (blk_put (cs' := #[v0, z1, z2]) (bk h) 0 v0 rfl) 1 v1 rfl) 2 v2 rfl)
theorem XO {v0 v1 v2 v3 v4 v5 v6 : Value} (hn : g ≠ g') (h : W.heap[g]? = some (.cells cs t (0, 0))) [k : Nonempty (Gr W W1)] : (((((((W1.setCell ⟨g', 0, none⟩ v0).setCell ⟨g', 1, none⟩ v1).setCell ⟨g', 2, none⟩ v2).setCell ⟨g', 3, none⟩ v3).setCell ⟨g', 4, none⟩ v4).setCell ⟨g', 5, none⟩ v5).setCell ⟨g', 6, none⟩ v6).heap[g]? = some (.cells cs t (0, 0)) := (blk_far (blk_far (blk_far (blk_far (blk_far (blk_far (blk_far (bk h) hn _) hn _) hn _) hn _) hn _) hn _) hn _)
theorem ZZ {v0 v1 v2 v3 v4 v5 v6 z0 z1 z2 z3 z4 z5 z6 : Value} (h : W.heap[g]? = some (.cells #[z0, z1, z2, z3, z4, z5, z6] t (0, 0))) [k : Nonempty (Gr W W1)] : (((((((W1.setCell ⟨g, 0, none⟩ v0).setCell ⟨g, 1, none⟩ v1).setCell ⟨g, 2, none⟩ v2).setCell ⟨g, 3, none⟩ v3).setCell ⟨g, 4, none⟩ v4).setCell ⟨g, 5, none⟩ v5).setCell ⟨g, 6, none⟩ v6).heap[g]? = some (.cells #[v0, v1, v2, v3, v4, v5, v6] t (0, 0)) := (blk_put (cs' := #[v0, v1, v2, v3, v4, v5, v6]) (blk_put (cs' := #[v0, v1, v2, v3, v4, v5, z6]) (blk_put (cs' := #[v0, v1, v2, v3, v4, z5, z6]) (blk_put (cs' := #[v0, v1, v2, v3, z4, z5, z6]) (blk_put (cs' := #[v0, v1, v2, z3, z4, z5, z6]) (blk_put (cs' := #[v0, v1, z2, z3, z4, z5, z6]) (blk_put (cs' := #[v0, z1, z2, z3, z4, z5, z6]) (bk h) 0 v0 rfl) 1 v1 rfl) 2 v2 rfl) 3 v3 rfl) 4 v4 rfl) 5 v5 rfl) 6 v6 rfl)
end

section
variable {α β : Type} {A B r : Option α}
theorem bnd {o : Option β} {f : β → Option α} {r : α} (h : o.bind f = some r) : ∃ x, Aside0 (o = some x) ∧ f x = some r := (Option.bind_eq_some_iff.mp h).elim fun x h => ⟨x, ⟨h.1⟩, h.2⟩
theorem bnS {x : β} {f : β → Option α} (h : (some x).bind f = r) : f x = r := h
theorem ib {t : Bool} (h : (if t = true then A else B) = r) : (t = true ∧ A = r) ∨ (t = false ∧ B = r) := by cases t; exact .inr ⟨rfl, h⟩; exact .inl ⟨rfl, h⟩
theorem ibN {t : Bool} {r : α} (h : (if t = true then A else none) = some r) : t = true ∧ A = some r := by cases t; cases h; exact ⟨rfl, h⟩
section
variable {p : Prop} [Decidable p]
theorem iq (h : (if p then A else B) = r) : (p ∧ A = r) ∨ (¬ p ∧ B = r) := by
  by_cases c : p
  · exact .inl ⟨c, by rwa [if_pos c] at h⟩
  · exact .inr ⟨c, by rwa [if_neg c] at h⟩
theorem iqN {r : α} (h : (if p then A else none) = some r) : p ∧ A = some r := by
  obtain h | h := iq h
  · exact h
  · cases h.2
theorem ip (h : (if p then A else B) = r) : (decide p = true ∧ A = r) ∨ (decide p = false ∧ B = r) := (iq h).imp (fun h => ⟨decide_eq_true h.1, h.2⟩) (fun h => ⟨decide_eq_false h.1, h.2⟩)
theorem ipN {r : α} (h : (if p then A else none) = some r) : decide p = true ∧ A = some r := ⟨decide_eq_true (iqN h).1, (iqN h).2⟩
theorem ipE {r : α} (h : (if p then A else none) = some r) : p = True ∧ decide p = true ∧ A = some r := ⟨eq_true (iqN h).1, decide_eq_true (iqN h).1, (iqN h).2⟩
end
section
variable {a b : Int}
theorem ig (h : (if a > b then A else B) = r) : (decide (b < a) = true ∧ A = r) ∨ (decide (b < a) = false ∧ B = r) := ip h
theorem ih (h : (if a ≥ b then A else B) = r) : (decide (b ≤ a) = true ∧ A = r) ∨ (decide (b ≤ a) = false ∧ B = r) := ip h
end
section
variable {τ : Type} [BEq τ] [LawfulBEq τ] {a b : τ} [Decidable (a = b)]
theorem ie (h : (if a = b then A else B) = r) : ((a == b) = true ∧ (a != b) = false ∧ A = r) ∨ ((a == b) = false ∧ (a != b) = true ∧ B = r) := (iq h).imp (fun h => ⟨beq_iff_eq.mpr h.1, bne_eq_false_iff_eq.mpr h.1, h.2⟩) (fun h => ⟨beq_eq_false_iff_ne.mpr h.1, bne_iff_ne.mpr h.1, h.2⟩)
end
end
theorem lnT {a b : Nat} (h : ((a : Int) == (b : Int)) = true) : (a == b) = true := by have := beq_iff_eq.mp h; exact beq_iff_eq.mpr (by omega)
theorem lnF {a b : Nat} (h : ((a : Int) == (b : Int)) = false) : (a == b) = false := by have := beq_eq_false_iff_ne.mp h; exact beq_eq_false_iff_ne.mpr (by omega)
section
variable {α : Type} {d : Kd α} {e base n g t : Nat} {ok : Nat → Prop} {w W W' W2 : World} {v : Value} {xs : List α} {A : Option Addr} {o : Obj}
theorem ak {p : Prop} (h : p) : Aside0 p := ⟨h⟩
theorem cv (h : Aside0 (d.C w A n xs)) (hb : Aside0 (Below w.heap.size w W)) [Nonempty (Gr W W')] : d.C W' A n xs := cw h.out hb.out
theorem cd (h : Aside0 (d.C w A n xs)) [g : Nonempty (Gr w W')] : d.C W' A n xs := g.elim fun g => Kd.C_below h.out g
theorem b1 (h : Aside0 (W.heap[g]? = some o)) [Nonempty (Gr W W')] (hb : Below W'.heap.size W' W2) : Aside0 (W2.heap[g]? = some o) := ⟨blk_below (bk h.out) hb⟩
theorem b2 (h : Aside0 (Below w.heap.size w W)) [Nonempty (Gr W W')] (hb : Below W'.heap.size W' W2) : Aside0 (Below w.heap.size w W2) := ⟨below_step (bw h.out) hb⟩
theorem b2s (h : Below w.heap.size w W) (hb : Below W.heap.size W W2) : Aside0 (Below w.heap.size w W2) := ⟨below_step h hb⟩
theorem b3s (hg : g = W.heap.size) (h : Below w.heap.size w W) : Aside0 (w.heap.size ≤ g) := ⟨by rw [hg]; exact below_size h⟩
theorem b4 {g1 : Nat} (hg : g = W'.heap.size) (h : Aside0 (W.heap[g1]? = some o)) [Nonempty (Gr W W')] : Aside0 (g1 ≠ g) := ⟨by rw [hg]; exact Nat.ne_of_lt (blk_lt (bk h.out))⟩
theorem b5 {g1 : Nat} (hg : g = W'.heap.size) (h : Aside0 (W.heap[g1]? = some o)) [Nonempty (Gr W W')] : Aside0 (g ≠ g1) := ⟨by rw [hg]; exact Nat.ne_of_gt (blk_lt (bk h.out))⟩
end
/-- What was is still as it was: through stores into blocks that were made since. -/
theorem bs {p : Prop} (h : p := by repeat (first | (with_reducible refine below_set ?_ (Aside0.out (by with_reducible assumption))) | exact bw HB.out)) : p := h
theorem o1 {p : Prop} (h : p := by first | rfl | (simp [errW_none, errW_some] <;> rfl) | (simp [*, errW_none, errW_some] <;> rfl)) : p := h
theorem o2 {p : Prop} (h : p := by first | rfl | (simp; done) | (simp [*]; done)) : p := h
theorem od {p : Prop} (h : p := by repeat (first | exact Drawn0.refl _ | apply Drawn0.step)) : p := h
theorem kq {p : Prop} (h : p := by (repeat' apply And.intro) <;> first | (with_reducible assumption) | exact (blk_cell (Aside0.out (by with_reducible assumption)) _).trans rfl | exact pw_cell_below HB.out (by with_reducible assumption)) : p := h
theorem o3 {p : Prop} (h : p := by first | omega | exact Nat.le_refl _) : p := h
section
variable {P : Program} {ops : Array Oper} {rest : List Oper} {oi : Oper} {a : Act} {Q : Exit → Act → World → Prop}
/-- A call. -/
theorem glG {w : World} (N : Tmp) (hd : oi.dst = some N) {f : FuncId} {fn : Func} {zs : Array Operand} {ts : Array TypeId} (hop : oi.op = .call { callee := .value (.func f), args := zs, argTypes := ts }) (hf : P.funcs[f]? = some fn) {args : Array Value} {R : Ending → World → Prop} (hc : Calls P f args w R)
    (h : ∀ e w', R e w' → ∃ v, e = .returned v ∧ wpList P ops Q rest (a.put (some N) v) w') (hg : oi.guard = none := by rfl)
    (hname : (fn.name == "runtime.NumGoroutine") = false := by kernel_rfl) (hb : fn.body.isSome = true := by rfl)
    (hargs : zs.map a.eval = args := by (try simp only [List.map_toArray, List.map_cons, List.map_nil]); first | done | rfl | (simp only [List.length_drop, List.length_take]; rfl)) : wpList P ops Q (oi :: rest) a w :=
  goesL_ (some N) hd hg hf hname hb args hop hargs (hc.mono h)
theorem glD {w : World} (N : Tmp) (hd : oi.dst = some N) {f : FuncId} {fn : Func} {zs : Array Operand} {ts : Array TypeId} (hop : oi.op = .call { callee := .value (.func f), args := zs, argTypes := ts }) (hf : P.funcs[f]? = some fn) {args : Array Value} {v : Value} (hc : Calls P f args w fun e w' => e = .returned v ∧ Drawn0 w w')
    (h : ∀ nd, wpList P ops Q rest (a.put (some N) v) (w.drewN nd)) (hg : oi.guard = none := by rfl)
    (hname : (fn.name == "runtime.NumGoroutine") = false := by kernel_rfl) (hb : fn.body.isSome = true := by rfl)
    (hargs : zs.map a.eval = args := by (try simp only [List.map_toArray, List.map_cons, List.map_nil]); first | done | rfl | (simp only [List.length_drop, List.length_take]; rfl)) : wpList P ops Q (oi :: rest) a w :=
  goesL_ (some N) hd hg hf hname hb args hop hargs (hc.mono fun e w' h2 => ⟨v, h2.1, by obtain ⟨nd, rfl⟩ := h2.2; exact h nd⟩)
theorem glB {w : World} (N : Tmp) (hd : oi.dst = some N) {f : FuncId} {fn : Func} {zs : Array Operand} {ts : Array TypeId} (hop : oi.op = .call { callee := .value (.func f), args := zs, argTypes := ts }) (hf : P.funcs[f]? = some fn) {args : Array Value} {v : Value} (hc : Calls P f args w fun e w' => e = .returned v ∧ Below w.heap.size w w')
    (h : ∀ w', Below w.heap.size w w' → wpList P ops Q rest (a.put (some N) v) w') (hg : oi.guard = none := by rfl)
    (hname : (fn.name == "runtime.NumGoroutine") = false := by kernel_rfl) (hb : fn.body.isSome = true := by rfl)
    (hargs : zs.map a.eval = args := by (try simp only [List.map_toArray, List.map_cons, List.map_nil]); first | done | rfl | (simp only [List.length_drop, List.length_take]; rfl)) : wpList P ops Q (oi :: rest) a w :=
  goesL_ (some N) hd hg hf hname hb args hop hargs (hc.mono fun e w' h2 => ⟨v, h2.1, h w' h2.2⟩)
end
section
variable {P : Program} {ops : Array Oper} {oi : Oper} {Q : Exit → Act → World → Prop} {md : Region.Mode} {S : World → Prop} {ds : List Nat} {T : Bool × List (List Nat × List Nat)} {n m fuel : Nat} {a a' : Act} {w : World}
/-- Steps of a region: one that yields a value; one that is not wanted; a load; a call. -/
theorem pu (hT : Aside0 (rtab md ops = T)) (i : Nat) {N : Nat} {v : Value} (h : wpAnyLast P md ops Q S ds fuel (bA n (m + 2 ^ i)) a' w) (hi : ops[i]? = some oi := by rfl) (hN : oi.dst = some N := by rfl)
    (hc : anyT T (bA n m).toList (bA n (m + 2 ^ i)).toList i = true := by kernel_rfl) (hw : Region.wanted oi (yielded ops a.tmps) = true := by rfl)
    (hy : ∀ w, (execOp a.eval oi).run P w = .ok (.value v) w := by intro w'; go_simp; with_reducible rfl) (ha : a.put (some N) v = a' := by go_simp; rfl)
    (hQ : ∀ c a w, Q (.panic c) (a.put oi.dst v) w → Q (.panic c) a w := by exact fun _ _ _ h => h) : wpAnyLast P md ops Q S ds (fuel + 1) (bA n m) a w :=
  pure_ (i := i) _ hi hN (any_of hT.out hc) hQ (.inl ⟨hw, hy⟩) ha h
theorem sk (hT : Aside0 (rtab md ops = T)) (i : Nat) {N : Nat} (h : wpAnyLast P md ops Q S ds fuel (bA n (m + 2 ^ i)) a' w) (hi : ops[i]? = some oi := by rfl) (hN : oi.dst = some N := by rfl)
    (hc : anyT T (bA n m).toList (bA n (m + 2 ^ i)).toList i = true := by kernel_rfl) (hw : Region.wanted oi (yielded ops a.tmps) = false := by rfl) (ha : a.put (some N) undef = a' := by go_simp; rfl)
    (hQ : ∀ c a w, Q (.panic c) (a.put oi.dst undef) w → Q (.panic c) a w := by exact fun _ _ _ h => h) : wpAnyLast P md ops Q S ds (fuel + 1) (bA n m) a w :=
  pure_ (i := i) _ hi hN (any_of hT.out hc) hQ (.inr ⟨hw, rfl⟩) ha h
theorem ta {B : List Nat} (hT : Aside0 (rtab md ops = T)) (hB : Aside0 (waitsOk T.2 B = true)) (hS : S w) (i : Nat) {N : Nat} {v : Value} (h : wpAnyLast P md ops Q S ds fuel (bA n (m + 2 ^ i)) a' w) (hi : ops[i]? = some oi := by rfl) (hN : oi.dst = some N := by rfl)
    (hc : takeW T B ds (bA n m).toList (bA n (m + 2 ^ i)).toList i = true := by kernel_rfl) (hw : Region.wanted oi (yielded ops a.tmps) = true := by rfl)
    (hy : ∀ w, S w → (execOp a.eval oi).run P w = .ok (.value v) w := by intro w' hS; (repeat (obtain ⟨_, hS⟩ := hS)); go_simp; with_reducible rfl) (ha : a.put (some N) v = a' := by go_simp; rfl)
    (hQ : ∀ c a w, Q (.panic c) (a.put oi.dst v) w → Q (.panic c) a w := by exact fun _ _ _ h => h) : wpAnyLast P md ops Q S ds (fuel + 1) (bA n m) a w :=
  take_ (i := i) _ hi hN (take_ofW hT.out hB.out hc) hQ (.inl ⟨hw, hy⟩) hS ha h
theorem on (hT : Aside0 (rtab md ops = T)) (i : Nat) {N : Option Tmp}
    (h : ∀ K : Act → World → Prop, Shut (∀ a' w', S w' → (S w' → wpAnyLast P md ops Q S ds fuel (bA n (m + 2 ^ i)) a' w') → K a' w') → if Region.wanted oi (yielded ops a.tmps) = true then Oper.wp P oi a w K Q else K (a.put N undef) w)
    (hi : ops[i]? = some oi := by rfl) (hN : oi.dst = N := by rfl) (hc : (readyT T.2 (bA n m).toList == [i] && (bA n m).toList.set i true == (bA n (m + 2 ^ i)).toList) = true := by kernel_rfl) (hd : i ∉ ds := by decide) : wpAnyLast P md ops Q S ds (fuel + 1) (bA n m) a w :=
  one_ (i := i) _ hi hN (one_of hT.out hc) hd h
theorem gsG {K : Act → World → Prop} {f : FuncId} {fn : Func} (hf : P.funcs[f]? = some fn) {zs : Array Operand} {ts : Array TypeId} {args : Array Value} {N : Option Tmp} {R : Ending → World → Prop} (hc : Calls P f args w R)
    (h : ∀ e w', R e w' → ∃ v, e = .returned v ∧ K (a.put N v) w') (hop : oi.op = .call { callee := .value (.func f), args := zs, argTypes := ts } := by rfl) (hN : oi.dst = N := by rfl) (hw : Region.wanted oi (yielded ops a.tmps) = true := by rfl)
    (hname : (fn.name == "runtime.NumGoroutine") = false := by kernel_rfl) (hb : fn.body.isSome = true := by rfl)
    (hargs : zs.map a.eval = args := by (try simp only [List.map_toArray, List.map_cons, List.map_nil]); first | done | rfl | (simp only [List.length_drop, List.length_take]; rfl)) : if Region.wanted oi (yielded ops a.tmps) = true then Oper.wp P oi a w K Q else K (a.put N undef) w :=
  goes_ hf hname hb args hw hN hop hargs (hc.mono h)
theorem gsB {K : Act → World → Prop} {f : FuncId} {fn : Func} (hf : P.funcs[f]? = some fn) {zs : Array Operand} {ts : Array TypeId} {args : Array Value} {N : Option Tmp} {v : Value} (hc : Calls P f args w fun e w' => e = .returned v ∧ Below w.heap.size w w')
    (h : ∀ w', Below w.heap.size w w' → K (a.put N v) w') (hop : oi.op = .call { callee := .value (.func f), args := zs, argTypes := ts } := by rfl) (hN : oi.dst = N := by rfl) (hw : Region.wanted oi (yielded ops a.tmps) = true := by rfl)
    (hname : (fn.name == "runtime.NumGoroutine") = false := by kernel_rfl) (hb : fn.body.isSome = true := by rfl)
    (hargs : zs.map a.eval = args := by (try simp only [List.map_toArray, List.map_cons, List.map_nil]); first | done | rfl | (simp only [List.length_drop, List.length_take]; rfl)) : if Region.wanted oi (yielded ops a.tmps) = true then Oper.wp P oi a w K Q else K (a.put N undef) w :=
  goes_ hf hname hb args hw hN hop hargs (hc.mono fun e w' h2 => ⟨v, h2.1, h w' h2.2⟩)
theorem kp {p : Prop} (h : p := by (have h_ := hHeld); (repeat (obtain ⟨_, h_⟩ := h_)); ((repeat' apply And.intro) <;> exact pw_cell_below hb (by with_reducible assumption))) : p := h
end
section
variable {P : Program} {ops : Array Oper} {rest : List Oper} {o : Oper} {a : Act} {Q : Exit → Act → World → Prop}
/-- A struct's variable is made. -/
theorem bxe {W : World} {N : Tmp} (hd : o.dst = some N) {cs : Array Value} {t : TypeId}
    (h : ∀ g, g = W.heap.size → ∀ w1, w1.heap[g]? = some (.cells cs t (0, 0)) → Below W.heap.size W w1 → wpList P ops Q rest (a.put o.dst (.pointer (some ⟨g, 0, none⟩))) w1) (hgd : o.guard = none := by rfl)
    (hrun : (execOp a.eval o).run P W = .ok (.value (.pointer (some ⟨W.heap.size, 0, none⟩))) (W.alloc (.cells cs t (0, 0))) := by first | (go_simp; done) | (go_simp; rfl)) : wpList P ops Q (o :: rest) a W := box_event hgd hd hrun h
theorem bxd {w W0 W : World} {N : Tmp} (hd : o.dst = some N) {cs : Array Value} {t : TypeId} (hB : Aside0 (Below w.heap.size w W0)) [gr : Nonempty (Gr W0 W)]
    (h : ∀ g, ∀ w1, g = W.heap.size → Aside0 (Below w.heap.size w w1) → Aside0 (w1.heap[g]? = some (.cells cs t (0, 0))) → Aside0 (w.heap.size ≤ g) → Below W.heap.size W w1 → wpList P ops Q rest (a.put o.dst (.pointer (some ⟨g, 0, none⟩))) w1) (hgd : o.guard = none := by rfl)
    (hrun : (execOp a.eval o).run P W = .ok (.value (.pointer (some ⟨W.heap.size, 0, none⟩))) (W.alloc (.cells cs t (0, 0))) := by first | (go_simp; done) | (go_simp; rfl)) : wpList P ops Q (o :: rest) a W := boxed hd hgd hB.out hrun h
end
theorem el_int {k : IntKind} {xs : List Int} {w W : World} {A : Option Addr} {n : Nat} (h : Aside0 (Kd.C (Kd.int k) w A n xs)) (hb : Aside0 (Below w.heap.size w W)) (i : Int) (h0 : decide (0 ≤ i) = true := by first | (with_reducible assumption) | assumption) (h1 : decide (i < n) = true := by first | (with_reducible assumption) | assumption) : ∃ ad, A = some ad ∧ W.cell? (ad.add i.toNat) = some (.int k (rd xs i)) ∧ (0 ≤ i) = True ∧ (i < n) = True := by
  obtain ⟨ad, e, x0⟩ := Kd.at_int h.out i (of_decide_eq_true h0) (of_decide_eq_true h1);exact ⟨ad, e, pw_cell_below hb.out x0, eq_true (of_decide_eq_true h0), eq_true (of_decide_eq_true h1)⟩
theorem el0_int {k : IntKind} {xs : List Int} {w : World} {A : Option Addr} {n : Nat} (h : Aside0 (Kd.C (Kd.int k) w A n xs)) (i : Int) (h0 : decide (0 ≤ i) = true := by first | (with_reducible assumption) | assumption) (h1 : decide (i < n) = true := by first | (with_reducible assumption) | assumption) : ∃ ad, A = some ad ∧ w.cell? (ad.add i.toNat) = some (.int k (rd xs i)) ∧ (0 ≤ i) = True ∧ (i < n) = True := by
  obtain ⟨ad, e, x0⟩ := Kd.at_int h.out i (of_decide_eq_true h0) (of_decide_eq_true h1);exact ⟨ad, e, x0, eq_true (of_decide_eq_true h0), eq_true (of_decide_eq_true h1)⟩
theorem el20_int {k : IntKind} {xs : List Int} {w : World} {ad : Addr} {n : Nat} (h : Aside0 (Kd.C (Kd.int k) w (some ad) n xs)) (i : Int) (h0 : decide (0 ≤ i) = true := by first | (with_reducible assumption) | assumption) (h1 : decide (i < n) = true := by first | (with_reducible assumption) | assumption) : w.cell? (ad.add i.toNat) = some (.int k (rd xs i)) ∧ (0 ≤ i) = True ∧ (i < n) = True := by
  obtain ⟨ad', e, x0⟩ := Kd.at_int h.out i (of_decide_eq_true h0) (of_decide_eq_true h1);obtain rfl := Option.some.inj e;exact ⟨x0, eq_true (of_decide_eq_true h0), eq_true (of_decide_eq_true h1)⟩
theorem el_L10 {xs : List (List Int)} {w W : World} {A : Option Addr} {n : Nat} (h : Aside0 (Kd.C (Kd.slice 5 (Kd.int .u8)) w A n xs)) (hb : Aside0 (Below w.heap.size w W)) (i : Int) (h0 : decide (0 ≤ i) = true := by first | (with_reducible assumption) | assumption) (h1 : decide (i < n) = true := by first | (with_reducible assumption) | assumption) : ∃ ad A0 c0, A = some ad ∧ W.cell? (ad.add i.toNat) = some (.slice A0 (je xs i).length c0) ∧ Aside0 ((je xs i).length ≤ c0) ∧ Aside0 ((Kd.int .u8).C w A0 (je xs i).length (je xs i)) ∧ (0 ≤ i) = True ∧ (i < n) = True := by
  obtain ⟨ad, A0, c0, e, x0, y0, y1⟩ := qhd h.out i (of_decide_eq_true h0) (of_decide_eq_true h1);exact ⟨ad, A0, c0, e, pw_cell_below hb.out x0, ⟨y0⟩, ⟨y1⟩, eq_true (of_decide_eq_true h0), eq_true (of_decide_eq_true h1)⟩
theorem el0_L10 {xs : List (List Int)} {w : World} {A : Option Addr} {n : Nat} (h : Aside0 (Kd.C (Kd.slice 5 (Kd.int .u8)) w A n xs)) (i : Int) (h0 : decide (0 ≤ i) = true := by first | (with_reducible assumption) | assumption) (h1 : decide (i < n) = true := by first | (with_reducible assumption) | assumption) : ∃ ad A0 c0, A = some ad ∧ w.cell? (ad.add i.toNat) = some (.slice A0 (je xs i).length c0) ∧ Aside0 ((je xs i).length ≤ c0) ∧ Aside0 ((Kd.int .u8).C w A0 (je xs i).length (je xs i)) ∧ (0 ≤ i) = True ∧ (i < n) = True := by
  obtain ⟨ad, A0, c0, e, x0, y0, y1⟩ := qhd h.out i (of_decide_eq_true h0) (of_decide_eq_true h1);exact ⟨ad, A0, c0, e, x0, ⟨y0⟩, ⟨y1⟩, eq_true (of_decide_eq_true h0), eq_true (of_decide_eq_true h1)⟩
theorem el_T28 {xs : List S28} {w W : World} {A : Option Addr} {n : Nat} (h : Aside0 (Kd.C k28 w A n xs)) (hb : Aside0 (Below w.heap.size w W)) (i : Int) (h0 : decide (0 ≤ i) = true := by first | (with_reducible assumption) | assumption) (h1 : decide (i < n) = true := by first | (with_reducible assumption) | assumption) : ∃ ad A0 c0 A4 c4 A5 c5 A6 c6, A = some ad ∧ W.cell? (ad.add (i.toNat * 7)) = some (.slice A0 (jn xs i).f0.f0.length c0) ∧ W.cell? ⟨(ad.add (i.toNat * 7)).block, (ad.add (i.toNat * 7)).off + 1, none⟩ = some (.int .i64 (jn xs i).f1) ∧ W.cell? ⟨(ad.add (i.toNat * 7)).block, (ad.add (i.toNat * 7)).off + 2, none⟩ = some (.int .i64 (jn xs i).f2) ∧ W.cell? ⟨(ad.add (i.toNat * 7)).block, (ad.add (i.toNat * 7)).off + 3, none⟩ = some (.int .i64 (jn xs i).f3) ∧ W.cell? ⟨(ad.add (i.toNat * 7)).block, (ad.add (i.toNat * 7)).off + 4, none⟩ = some (.slice A4 (jn xs i).f4.f0.length c4) ∧ W.cell? ⟨(ad.add (i.toNat * 7)).block, (ad.add (i.toNat * 7)).off + 5, none⟩ = some (.slice A5 (jn xs i).f5.length c5) ∧ W.cell? ⟨(ad.add (i.toNat * 7)).block, (ad.add (i.toNat * 7)).off + 6, none⟩ = some (.slice A6 (jn xs i).f6.length c6) ∧ Aside0 ((jn xs i).f0.f0.length ≤ c0) ∧ Aside0 ((Kd.slice 5 (Kd.int .u8)).C w A0 (jn xs i).f0.f0.length (jn xs i).f0.f0) ∧ Aside0 ((jn xs i).f4.f0.length ≤ c4) ∧ Aside0 ((Kd.slice 5 (Kd.int .u8)).C w A4 (jn xs i).f4.f0.length (jn xs i).f4.f0) ∧ Aside0 ((jn xs i).f5.length ≤ c5) ∧ Aside0 ((Kd.int .u8).C w A5 (jn xs i).f5.length (jn xs i).f5) ∧ Aside0 ((jn xs i).f6.length ≤ c6) ∧ Aside0 ((Kd.int .i64).C w A6 (jn xs i).f6.length (jn xs i).f6) ∧ (0 ≤ i) = True ∧ (i < n) = True := by
  obtain ⟨ad, A0, c0, A4, c4, A5, c5, A6, c6, e, x0, x1, x2, x3, x4, x5, x6, y0, y1, y2, y3, y4, y5, y6, y7⟩ := qwY h.out i (of_decide_eq_true h0) (of_decide_eq_true h1);exact ⟨ad, A0, c0, A4, c4, A5, c5, A6, c6, e, pw_cell_below hb.out x0, pw_cell_below hb.out x1, pw_cell_below hb.out x2, pw_cell_below hb.out x3, pw_cell_below hb.out x4, pw_cell_below hb.out x5, pw_cell_below hb.out x6, ⟨y0⟩, ⟨y1⟩, ⟨y2⟩, ⟨y3⟩, ⟨y4⟩, ⟨y5⟩, ⟨y6⟩, ⟨y7⟩, eq_true (of_decide_eq_true h0), eq_true (of_decide_eq_true h1)⟩
theorem el_T33 {xs : List S33} {w W : World} {A : Option Addr} {n : Nat} (h : Aside0 (Kd.C k33 w A n xs)) (hb : Aside0 (Below w.heap.size w W)) (i : Int) (h0 : decide (0 ≤ i) = true := by first | (with_reducible assumption) | assumption) (h1 : decide (i < n) = true := by first | (with_reducible assumption) | assumption) : ∃ ad A0 c0 A4 c4 A5 c5 A6 c6, A = some ad ∧ W.cell? (ad.add (i.toNat * 7)) = some (.slice A0 (qb xs i).f0.f0.length c0) ∧ W.cell? ⟨(ad.add (i.toNat * 7)).block, (ad.add (i.toNat * 7)).off + 1, none⟩ = some (.int .i64 (qb xs i).f1) ∧ W.cell? ⟨(ad.add (i.toNat * 7)).block, (ad.add (i.toNat * 7)).off + 2, none⟩ = some (.int .i64 (qb xs i).f2) ∧ W.cell? ⟨(ad.add (i.toNat * 7)).block, (ad.add (i.toNat * 7)).off + 3, none⟩ = some (.int .i64 (qb xs i).f3) ∧ W.cell? ⟨(ad.add (i.toNat * 7)).block, (ad.add (i.toNat * 7)).off + 4, none⟩ = some (.slice A4 (qb xs i).f4.f0.length c4) ∧ W.cell? ⟨(ad.add (i.toNat * 7)).block, (ad.add (i.toNat * 7)).off + 5, none⟩ = some (.slice A5 (qb xs i).f5.length c5) ∧ W.cell? ⟨(ad.add (i.toNat * 7)).block, (ad.add (i.toNat * 7)).off + 6, none⟩ = some (.slice A6 (qb xs i).f6.length c6) ∧ Aside0 ((qb xs i).f0.f0.length ≤ c0) ∧ Aside0 ((Kd.slice 5 (Kd.int .u8)).C w A0 (qb xs i).f0.f0.length (qb xs i).f0.f0) ∧ Aside0 ((qb xs i).f4.f0.length ≤ c4) ∧ Aside0 ((Kd.slice 5 (Kd.int .u8)).C w A4 (qb xs i).f4.f0.length (qb xs i).f4.f0) ∧ Aside0 ((qb xs i).f5.length ≤ c5) ∧ Aside0 ((Kd.int .u8).C w A5 (qb xs i).f5.length (qb xs i).f5) ∧ Aside0 ((qb xs i).f6.length ≤ c6) ∧ Aside0 ((Kd.int .i64).C w A6 (qb xs i).f6.length (qb xs i).f6) ∧ (0 ≤ i) = True ∧ (i < n) = True := by
  obtain ⟨ad, A0, c0, A4, c4, A5, c5, A6, c6, e, x0, x1, x2, x3, x4, x5, x6, y0, y1, y2, y3, y4, y5, y6, y7⟩ := yu h.out i (of_decide_eq_true h0) (of_decide_eq_true h1);exact ⟨ad, A0, c0, A4, c4, A5, c5, A6, c6, e, pw_cell_below hb.out x0, pw_cell_below hb.out x1, pw_cell_below hb.out x2, pw_cell_below hb.out x3, pw_cell_below hb.out x4, pw_cell_below hb.out x5, pw_cell_below hb.out x6, ⟨y0⟩, ⟨y1⟩, ⟨y2⟩, ⟨y3⟩, ⟨y4⟩, ⟨y5⟩, ⟨y6⟩, ⟨y7⟩, eq_true (of_decide_eq_true h0), eq_true (of_decide_eq_true h1)⟩
theorem elw_T33 {xs : List S33} {w W : World} {A : Option Addr} {n : Nat} (h : Aside0 (Kd.C k33 w A n xs)) (hb : Aside0 (Below w.heap.size w W)) (i : Int) (h0 : decide (0 ≤ i) = true := by first | (with_reducible assumption) | assumption) (h1 : decide (i < n) = true := by first | (with_reducible assumption) | assumption) : ∃ ad A0 c0 A4 c4 A5 c5 A6 c6, A = some ad ∧ w.cell? (ad.add (i.toNat * 7)) = some (.slice A0 (qb xs i).f0.f0.length c0) ∧ w.cell? ⟨(ad.add (i.toNat * 7)).block, (ad.add (i.toNat * 7)).off + 1, none⟩ = some (.int .i64 (qb xs i).f1) ∧ w.cell? ⟨(ad.add (i.toNat * 7)).block, (ad.add (i.toNat * 7)).off + 2, none⟩ = some (.int .i64 (qb xs i).f2) ∧ w.cell? ⟨(ad.add (i.toNat * 7)).block, (ad.add (i.toNat * 7)).off + 3, none⟩ = some (.int .i64 (qb xs i).f3) ∧ w.cell? ⟨(ad.add (i.toNat * 7)).block, (ad.add (i.toNat * 7)).off + 4, none⟩ = some (.slice A4 (qb xs i).f4.f0.length c4) ∧ w.cell? ⟨(ad.add (i.toNat * 7)).block, (ad.add (i.toNat * 7)).off + 5, none⟩ = some (.slice A5 (qb xs i).f5.length c5) ∧ w.cell? ⟨(ad.add (i.toNat * 7)).block, (ad.add (i.toNat * 7)).off + 6, none⟩ = some (.slice A6 (qb xs i).f6.length c6) ∧ W.cell? (ad.add (i.toNat * 7)) = some (.slice A0 (qb xs i).f0.f0.length c0) ∧ W.cell? ⟨(ad.add (i.toNat * 7)).block, (ad.add (i.toNat * 7)).off + 1, none⟩ = some (.int .i64 (qb xs i).f1) ∧ W.cell? ⟨(ad.add (i.toNat * 7)).block, (ad.add (i.toNat * 7)).off + 2, none⟩ = some (.int .i64 (qb xs i).f2) ∧ W.cell? ⟨(ad.add (i.toNat * 7)).block, (ad.add (i.toNat * 7)).off + 3, none⟩ = some (.int .i64 (qb xs i).f3) ∧ W.cell? ⟨(ad.add (i.toNat * 7)).block, (ad.add (i.toNat * 7)).off + 4, none⟩ = some (.slice A4 (qb xs i).f4.f0.length c4) ∧ W.cell? ⟨(ad.add (i.toNat * 7)).block, (ad.add (i.toNat * 7)).off + 5, none⟩ = some (.slice A5 (qb xs i).f5.length c5) ∧ W.cell? ⟨(ad.add (i.toNat * 7)).block, (ad.add (i.toNat * 7)).off + 6, none⟩ = some (.slice A6 (qb xs i).f6.length c6) ∧ Aside0 ((qb xs i).f0.f0.length ≤ c0) ∧ Aside0 ((Kd.slice 5 (Kd.int .u8)).C w A0 (qb xs i).f0.f0.length (qb xs i).f0.f0) ∧ Aside0 ((qb xs i).f4.f0.length ≤ c4) ∧ Aside0 ((Kd.slice 5 (Kd.int .u8)).C w A4 (qb xs i).f4.f0.length (qb xs i).f4.f0) ∧ Aside0 ((qb xs i).f5.length ≤ c5) ∧ Aside0 ((Kd.int .u8).C w A5 (qb xs i).f5.length (qb xs i).f5) ∧ Aside0 ((qb xs i).f6.length ≤ c6) ∧ Aside0 ((Kd.int .i64).C w A6 (qb xs i).f6.length (qb xs i).f6) ∧ (0 ≤ i) = True ∧ (i < n) = True := by
  obtain ⟨ad, A0, c0, A4, c4, A5, c5, A6, c6, e, x0, x1, x2, x3, x4, x5, x6, y0, y1, y2, y3, y4, y5, y6, y7⟩ := yu h.out i (of_decide_eq_true h0) (of_decide_eq_true h1);exact ⟨ad, A0, c0, A4, c4, A5, c5, A6, c6, e, x0, x1, x2, x3, x4, x5, x6, pw_cell_below hb.out x0, pw_cell_below hb.out x1, pw_cell_below hb.out x2, pw_cell_below hb.out x3, pw_cell_below hb.out x4, pw_cell_below hb.out x5, pw_cell_below hb.out x6, ⟨y0⟩, ⟨y1⟩, ⟨y2⟩, ⟨y3⟩, ⟨y4⟩, ⟨y5⟩, ⟨y6⟩, ⟨y7⟩, eq_true (of_decide_eq_true h0), eq_true (of_decide_eq_true h1)⟩
theorem el2w_T33 {xs : List S33} {w W : World} {ad : Addr} {n : Nat} (h : Aside0 (Kd.C k33 w (some ad) n xs)) (hb : Aside0 (Below w.heap.size w W)) (i : Int) (h0 : decide (0 ≤ i) = true := by first | (with_reducible assumption) | assumption) (h1 : decide (i < n) = true := by first | (with_reducible assumption) | assumption) : ∃ A0 c0 A4 c4 A5 c5 A6 c6, w.cell? (ad.add (i.toNat * 7)) = some (.slice A0 (qb xs i).f0.f0.length c0) ∧ w.cell? ⟨(ad.add (i.toNat * 7)).block, (ad.add (i.toNat * 7)).off + 1, none⟩ = some (.int .i64 (qb xs i).f1) ∧ w.cell? ⟨(ad.add (i.toNat * 7)).block, (ad.add (i.toNat * 7)).off + 2, none⟩ = some (.int .i64 (qb xs i).f2) ∧ w.cell? ⟨(ad.add (i.toNat * 7)).block, (ad.add (i.toNat * 7)).off + 3, none⟩ = some (.int .i64 (qb xs i).f3) ∧ w.cell? ⟨(ad.add (i.toNat * 7)).block, (ad.add (i.toNat * 7)).off + 4, none⟩ = some (.slice A4 (qb xs i).f4.f0.length c4) ∧ w.cell? ⟨(ad.add (i.toNat * 7)).block, (ad.add (i.toNat * 7)).off + 5, none⟩ = some (.slice A5 (qb xs i).f5.length c5) ∧ w.cell? ⟨(ad.add (i.toNat * 7)).block, (ad.add (i.toNat * 7)).off + 6, none⟩ = some (.slice A6 (qb xs i).f6.length c6) ∧ W.cell? (ad.add (i.toNat * 7)) = some (.slice A0 (qb xs i).f0.f0.length c0) ∧ W.cell? ⟨(ad.add (i.toNat * 7)).block, (ad.add (i.toNat * 7)).off + 1, none⟩ = some (.int .i64 (qb xs i).f1) ∧ W.cell? ⟨(ad.add (i.toNat * 7)).block, (ad.add (i.toNat * 7)).off + 2, none⟩ = some (.int .i64 (qb xs i).f2) ∧ W.cell? ⟨(ad.add (i.toNat * 7)).block, (ad.add (i.toNat * 7)).off + 3, none⟩ = some (.int .i64 (qb xs i).f3) ∧ W.cell? ⟨(ad.add (i.toNat * 7)).block, (ad.add (i.toNat * 7)).off + 4, none⟩ = some (.slice A4 (qb xs i).f4.f0.length c4) ∧ W.cell? ⟨(ad.add (i.toNat * 7)).block, (ad.add (i.toNat * 7)).off + 5, none⟩ = some (.slice A5 (qb xs i).f5.length c5) ∧ W.cell? ⟨(ad.add (i.toNat * 7)).block, (ad.add (i.toNat * 7)).off + 6, none⟩ = some (.slice A6 (qb xs i).f6.length c6) ∧ Aside0 ((qb xs i).f0.f0.length ≤ c0) ∧ Aside0 ((Kd.slice 5 (Kd.int .u8)).C w A0 (qb xs i).f0.f0.length (qb xs i).f0.f0) ∧ Aside0 ((qb xs i).f4.f0.length ≤ c4) ∧ Aside0 ((Kd.slice 5 (Kd.int .u8)).C w A4 (qb xs i).f4.f0.length (qb xs i).f4.f0) ∧ Aside0 ((qb xs i).f5.length ≤ c5) ∧ Aside0 ((Kd.int .u8).C w A5 (qb xs i).f5.length (qb xs i).f5) ∧ Aside0 ((qb xs i).f6.length ≤ c6) ∧ Aside0 ((Kd.int .i64).C w A6 (qb xs i).f6.length (qb xs i).f6) ∧ (0 ≤ i) = True ∧ (i < n) = True := by
  obtain ⟨ad', A0, c0, A4, c4, A5, c5, A6, c6, e, x0, x1, x2, x3, x4, x5, x6, y0, y1, y2, y3, y4, y5, y6, y7⟩ := yu h.out i (of_decide_eq_true h0) (of_decide_eq_true h1);obtain rfl := Option.some.inj e;exact ⟨A0, c0, A4, c4, A5, c5, A6, c6, x0, x1, x2, x3, x4, x5, x6, pw_cell_below hb.out x0, pw_cell_below hb.out x1, pw_cell_below hb.out x2, pw_cell_below hb.out x3, pw_cell_below hb.out x4, pw_cell_below hb.out x5, pw_cell_below hb.out x6, ⟨y0⟩, ⟨y1⟩, ⟨y2⟩, ⟨y3⟩, ⟨y4⟩, ⟨y5⟩, ⟨y6⟩, ⟨y7⟩, eq_true (of_decide_eq_true h0), eq_true (of_decide_eq_true h1)⟩
theorem el_T190 {xs : List Yt} {w W : World} {A : Option Addr} {n : Nat} (h : Aside0 (Kd.C qbG w A n xs)) (hb : Aside0 (Below w.heap.size w W)) (i : Int) (h0 : decide (0 ≤ i) = true := by first | (with_reducible assumption) | assumption) (h1 : decide (i < n) = true := by first | (with_reducible assumption) | assumption) : ∃ ad A0 c0 A3 c3, A = some ad ∧ W.cell? (ad.add (i.toNat * 7)) = some (.slice A0 (jq xs i).f0.f0.length c0) ∧ W.cell? ⟨(ad.add (i.toNat * 7)).block, (ad.add (i.toNat * 7)).off + 1, none⟩ = some (.int .i64 (jq xs i).f1) ∧ W.cell? ⟨(ad.add (i.toNat * 7)).block, (ad.add (i.toNat * 7)).off + 2, none⟩ = some (.int .i64 (jq xs i).f2) ∧ W.cell? ⟨(ad.add (i.toNat * 7)).block, (ad.add (i.toNat * 7)).off + 3, none⟩ = some (.slice A3 (jq xs i).f3.length c3) ∧ W.cell? ⟨(ad.add (i.toNat * 7)).block, (ad.add (i.toNat * 7)).off + 4, none⟩ = some (.int .i64 (jq xs i).f4) ∧ W.cell? ⟨(ad.add (i.toNat * 7)).block, (ad.add (i.toNat * 7)).off + 5, none⟩ = some (.int .i64 (jq xs i).f5) ∧ W.cell? ⟨(ad.add (i.toNat * 7)).block, (ad.add (i.toNat * 7)).off + 6, none⟩ = some (.int .i64 (jq xs i).f6) ∧ Aside0 ((jq xs i).f0.f0.length ≤ c0) ∧ Aside0 ((Kd.slice 5 (Kd.int .u8)).C w A0 (jq xs i).f0.f0.length (jq xs i).f0.f0) ∧ Aside0 ((jq xs i).f3.length ≤ c3) ∧ Aside0 (k28.C w A3 (jq xs i).f3.length (jq xs i).f3) ∧ (0 ≤ i) = True ∧ (i < n) = True := by
  obtain ⟨ad, A0, c0, A3, c3, e, x0, x1, x2, x3, x4, x5, x6, y0, y1, y2, y3⟩ := qvF h.out i (of_decide_eq_true h0) (of_decide_eq_true h1);exact ⟨ad, A0, c0, A3, c3, e, pw_cell_below hb.out x0, pw_cell_below hb.out x1, pw_cell_below hb.out x2, pw_cell_below hb.out x3, pw_cell_below hb.out x4, pw_cell_below hb.out x5, pw_cell_below hb.out x6, ⟨y0⟩, ⟨y1⟩, ⟨y2⟩, ⟨y3⟩, eq_true (of_decide_eq_true h0), eq_true (of_decide_eq_true h1)⟩
theorem el_T141 {xs : List zy} {w W : World} {A : Option Addr} {n : Nat} (h : Aside0 (Kd.C yR w A n xs)) (hb : Aside0 (Below w.heap.size w W)) (i : Int) (h0 : decide (0 ≤ i) = true := by first | (with_reducible assumption) | assumption) (h1 : decide (i < n) = true := by first | (with_reducible assumption) | assumption) : ∃ ad A0 c0 A3 c3, A = some ad ∧ W.cell? (ad.add (i.toNat * 7)) = some (.slice A0 (qa xs i).f0.f0.length c0) ∧ W.cell? ⟨(ad.add (i.toNat * 7)).block, (ad.add (i.toNat * 7)).off + 1, none⟩ = some (.int .i64 (qa xs i).f1) ∧ W.cell? ⟨(ad.add (i.toNat * 7)).block, (ad.add (i.toNat * 7)).off + 2, none⟩ = some (.int .i64 (qa xs i).f2) ∧ W.cell? ⟨(ad.add (i.toNat * 7)).block, (ad.add (i.toNat * 7)).off + 3, none⟩ = some (.slice A3 (qa xs i).f3.length c3) ∧ W.cell? ⟨(ad.add (i.toNat * 7)).block, (ad.add (i.toNat * 7)).off + 4, none⟩ = some (.int .i64 (qa xs i).f4) ∧ W.cell? ⟨(ad.add (i.toNat * 7)).block, (ad.add (i.toNat * 7)).off + 5, none⟩ = some (.int .i64 (qa xs i).f5) ∧ W.cell? ⟨(ad.add (i.toNat * 7)).block, (ad.add (i.toNat * 7)).off + 6, none⟩ = some (.int .i64 (qa xs i).f6) ∧ Aside0 ((qa xs i).f0.f0.length ≤ c0) ∧ Aside0 ((Kd.slice 5 (Kd.int .u8)).C w A0 (qa xs i).f0.f0.length (qa xs i).f0.f0) ∧ Aside0 ((qa xs i).f3.length ≤ c3) ∧ Aside0 (k33.C w A3 (qa xs i).f3.length (qa xs i).f3) ∧ (0 ≤ i) = True ∧ (i < n) = True := by
  obtain ⟨ad, A0, c0, A3, c3, e, x0, x1, x2, x3, x4, x5, x6, y0, y1, y2, y3⟩ := qkS h.out i (of_decide_eq_true h0) (of_decide_eq_true h1);exact ⟨ad, A0, c0, A3, c3, e, pw_cell_below hb.out x0, pw_cell_below hb.out x1, pw_cell_below hb.out x2, pw_cell_below hb.out x3, pw_cell_below hb.out x4, pw_cell_below hb.out x5, pw_cell_below hb.out x6, ⟨y0⟩, ⟨y1⟩, ⟨y2⟩, ⟨y3⟩, eq_true (of_decide_eq_true h0), eq_true (of_decide_eq_true h1)⟩
theorem elw_T141 {xs : List zy} {w W : World} {A : Option Addr} {n : Nat} (h : Aside0 (Kd.C yR w A n xs)) (hb : Aside0 (Below w.heap.size w W)) (i : Int) (h0 : decide (0 ≤ i) = true := by first | (with_reducible assumption) | assumption) (h1 : decide (i < n) = true := by first | (with_reducible assumption) | assumption) : ∃ ad A0 c0 A3 c3, A = some ad ∧ w.cell? (ad.add (i.toNat * 7)) = some (.slice A0 (qa xs i).f0.f0.length c0) ∧ w.cell? ⟨(ad.add (i.toNat * 7)).block, (ad.add (i.toNat * 7)).off + 1, none⟩ = some (.int .i64 (qa xs i).f1) ∧ w.cell? ⟨(ad.add (i.toNat * 7)).block, (ad.add (i.toNat * 7)).off + 2, none⟩ = some (.int .i64 (qa xs i).f2) ∧ w.cell? ⟨(ad.add (i.toNat * 7)).block, (ad.add (i.toNat * 7)).off + 3, none⟩ = some (.slice A3 (qa xs i).f3.length c3) ∧ w.cell? ⟨(ad.add (i.toNat * 7)).block, (ad.add (i.toNat * 7)).off + 4, none⟩ = some (.int .i64 (qa xs i).f4) ∧ w.cell? ⟨(ad.add (i.toNat * 7)).block, (ad.add (i.toNat * 7)).off + 5, none⟩ = some (.int .i64 (qa xs i).f5) ∧ w.cell? ⟨(ad.add (i.toNat * 7)).block, (ad.add (i.toNat * 7)).off + 6, none⟩ = some (.int .i64 (qa xs i).f6) ∧ W.cell? (ad.add (i.toNat * 7)) = some (.slice A0 (qa xs i).f0.f0.length c0) ∧ W.cell? ⟨(ad.add (i.toNat * 7)).block, (ad.add (i.toNat * 7)).off + 1, none⟩ = some (.int .i64 (qa xs i).f1) ∧ W.cell? ⟨(ad.add (i.toNat * 7)).block, (ad.add (i.toNat * 7)).off + 2, none⟩ = some (.int .i64 (qa xs i).f2) ∧ W.cell? ⟨(ad.add (i.toNat * 7)).block, (ad.add (i.toNat * 7)).off + 3, none⟩ = some (.slice A3 (qa xs i).f3.length c3) ∧ W.cell? ⟨(ad.add (i.toNat * 7)).block, (ad.add (i.toNat * 7)).off + 4, none⟩ = some (.int .i64 (qa xs i).f4) ∧ W.cell? ⟨(ad.add (i.toNat * 7)).block, (ad.add (i.toNat * 7)).off + 5, none⟩ = some (.int .i64 (qa xs i).f5) ∧ W.cell? ⟨(ad.add (i.toNat * 7)).block, (ad.add (i.toNat * 7)).off + 6, none⟩ = some (.int .i64 (qa xs i).f6) ∧ Aside0 ((qa xs i).f0.f0.length ≤ c0) ∧ Aside0 ((Kd.slice 5 (Kd.int .u8)).C w A0 (qa xs i).f0.f0.length (qa xs i).f0.f0) ∧ Aside0 ((qa xs i).f3.length ≤ c3) ∧ Aside0 (k33.C w A3 (qa xs i).f3.length (qa xs i).f3) ∧ (0 ≤ i) = True ∧ (i < n) = True := by
  obtain ⟨ad, A0, c0, A3, c3, e, x0, x1, x2, x3, x4, x5, x6, y0, y1, y2, y3⟩ := qkS h.out i (of_decide_eq_true h0) (of_decide_eq_true h1);exact ⟨ad, A0, c0, A3, c3, e, x0, x1, x2, x3, x4, x5, x6, pw_cell_below hb.out x0, pw_cell_below hb.out x1, pw_cell_below hb.out x2, pw_cell_below hb.out x3, pw_cell_below hb.out x4, pw_cell_below hb.out x5, pw_cell_below hb.out x6, ⟨y0⟩, ⟨y1⟩, ⟨y2⟩, ⟨y3⟩, eq_true (of_decide_eq_true h0), eq_true (of_decide_eq_true h1)⟩
theorem el2w_T141 {xs : List zy} {w W : World} {ad : Addr} {n : Nat} (h : Aside0 (Kd.C yR w (some ad) n xs)) (hb : Aside0 (Below w.heap.size w W)) (i : Int) (h0 : decide (0 ≤ i) = true := by first | (with_reducible assumption) | assumption) (h1 : decide (i < n) = true := by first | (with_reducible assumption) | assumption) : ∃ A0 c0 A3 c3, w.cell? (ad.add (i.toNat * 7)) = some (.slice A0 (qa xs i).f0.f0.length c0) ∧ w.cell? ⟨(ad.add (i.toNat * 7)).block, (ad.add (i.toNat * 7)).off + 1, none⟩ = some (.int .i64 (qa xs i).f1) ∧ w.cell? ⟨(ad.add (i.toNat * 7)).block, (ad.add (i.toNat * 7)).off + 2, none⟩ = some (.int .i64 (qa xs i).f2) ∧ w.cell? ⟨(ad.add (i.toNat * 7)).block, (ad.add (i.toNat * 7)).off + 3, none⟩ = some (.slice A3 (qa xs i).f3.length c3) ∧ w.cell? ⟨(ad.add (i.toNat * 7)).block, (ad.add (i.toNat * 7)).off + 4, none⟩ = some (.int .i64 (qa xs i).f4) ∧ w.cell? ⟨(ad.add (i.toNat * 7)).block, (ad.add (i.toNat * 7)).off + 5, none⟩ = some (.int .i64 (qa xs i).f5) ∧ w.cell? ⟨(ad.add (i.toNat * 7)).block, (ad.add (i.toNat * 7)).off + 6, none⟩ = some (.int .i64 (qa xs i).f6) ∧ W.cell? (ad.add (i.toNat * 7)) = some (.slice A0 (qa xs i).f0.f0.length c0) ∧ W.cell? ⟨(ad.add (i.toNat * 7)).block, (ad.add (i.toNat * 7)).off + 1, none⟩ = some (.int .i64 (qa xs i).f1) ∧ W.cell? ⟨(ad.add (i.toNat * 7)).block, (ad.add (i.toNat * 7)).off + 2, none⟩ = some (.int .i64 (qa xs i).f2) ∧ W.cell? ⟨(ad.add (i.toNat * 7)).block, (ad.add (i.toNat * 7)).off + 3, none⟩ = some (.slice A3 (qa xs i).f3.length c3) ∧ W.cell? ⟨(ad.add (i.toNat * 7)).block, (ad.add (i.toNat * 7)).off + 4, none⟩ = some (.int .i64 (qa xs i).f4) ∧ W.cell? ⟨(ad.add (i.toNat * 7)).block, (ad.add (i.toNat * 7)).off + 5, none⟩ = some (.int .i64 (qa xs i).f5) ∧ W.cell? ⟨(ad.add (i.toNat * 7)).block, (ad.add (i.toNat * 7)).off + 6, none⟩ = some (.int .i64 (qa xs i).f6) ∧ Aside0 ((qa xs i).f0.f0.length ≤ c0) ∧ Aside0 ((Kd.slice 5 (Kd.int .u8)).C w A0 (qa xs i).f0.f0.length (qa xs i).f0.f0) ∧ Aside0 ((qa xs i).f3.length ≤ c3) ∧ Aside0 (k33.C w A3 (qa xs i).f3.length (qa xs i).f3) ∧ (0 ≤ i) = True ∧ (i < n) = True := by
  obtain ⟨ad', A0, c0, A3, c3, e, x0, x1, x2, x3, x4, x5, x6, y0, y1, y2, y3⟩ := qkS h.out i (of_decide_eq_true h0) (of_decide_eq_true h1);obtain rfl := Option.some.inj e;exact ⟨A0, c0, A3, c3, x0, x1, x2, x3, x4, x5, x6, pw_cell_below hb.out x0, pw_cell_below hb.out x1, pw_cell_below hb.out x2, pw_cell_below hb.out x3, pw_cell_below hb.out x4, pw_cell_below hb.out x5, pw_cell_below hb.out x6, ⟨y0⟩, ⟨y1⟩, ⟨y2⟩, ⟨y3⟩, eq_true (of_decide_eq_true h0), eq_true (of_decide_eq_true h1)⟩

/-! ### Jn: function 58 -/
def Jn.f (l0 : List Int) (a1 : Int) : Option (Int) := if (wrap64 (a1 - (l0.length : Int))) < 0 then (some (-1)) else (some (wrap64 (a1 - (l0.length : Int))))
set_option maxHeartbeats 8000000 in
set_option maxRecDepth 100000 in
theorem Jn.calls (A0 : Option Addr) (c0 : Nat) (l0 : List Int) (a1 : Int) (r : Int) (w : World) (hr0 : Kd.C (Kd.int .u8) w A0 l0.length l0) (hc0 : l0.length ≤ c0) (h : Jn.f l0 a1 = some r) :
  Calls Try.prog 58 #[.slice A0 l0.length c0, .int .i64 a1] w fun e w' => e = .returned (.int .i64 r) ∧ Drawn0 w w' := by
 have HR0 := ak hr0;have HC0 := ak hc0;clear hr0 hc0;have H : (if (wrap64 (a1 - (l0.length : Int))) < 0 then (some (-1)) else (some (wrap64 (a1 - (l0.length : Int))))) = some r := h;clear h;replace H := ip H;obtain ⟨c3b0, H⟩ | ⟨c3b0, H⟩ := H
 ·obtain rfl := Option.some.inj H;go_enter Try.func58, Try.ntmps58;go_wp2;go_ret;exact ⟨o2, od⟩
 ·obtain rfl := Option.some.inj H;go_enter Try.func58, Try.ntmps58;go_wp2;go_ret;exact ⟨o2, od⟩

/-! ### zN: function 105 -/
def zN.l0 : Nat → List (List Int) → Int → Int → Option (Int)
 | 0, _, _, _ => none
 | k + 1, x0, x1, x5 => if x5 < (x0.length : Int) then (if 0 ≤ x5 then ((Jn.f (je x0 x5) x1).bind fun ji => (if ji < 0 then (some (-1)) else (zN.l0 k x0 ji (wrap64 (x5 + 1))))) else (none)) else (some x1)
def zN.f (k : Nat) (l0 : List (List Int)) (a1 : Int) : Option (Int) := if (wrap64 (a1 - (l0.length : Int))) < 0 then (some (-1)) else (zN.l0 k l0 (wrap64 (a1 - (l0.length : Int))) 0)
set_option maxHeartbeats 8000000 in
set_option maxRecDepth 100000 in
theorem zN.calls (k : Nat) (A0 : Option Addr) (c0 : Nat) (l0 : List (List Int)) (a1 : Int) (r : Int) (w : World) (hr0 : Kd.C (Kd.slice 5 (Kd.int .u8)) w A0 l0.length l0) (hc0 : l0.length ≤ c0) (h : zN.f k l0 a1 = some r) :
  Calls Try.prog 105 #[.slice A0 l0.length c0, .int .i64 a1] w fun e w' => e = .returned (.int .i64 r) ∧ Drawn0 w w' := by
 have HR0 := ak hr0;have HC0 := ak hc0;clear hr0 hc0;have H : (if (wrap64 (a1 - (l0.length : Int))) < 0 then (some (-1)) else (zN.l0 k l0 (wrap64 (a1 - (l0.length : Int))) 0)) = some r := h;clear h;replace H := ip H;obtain ⟨c3b0, H⟩ | ⟨c3b0, H⟩ := H
 ·obtain rfl := Option.some.inj H;go_enter Try.func105, Try.ntmps105;go_wp2;go_ret;exact ⟨o2, od⟩
 ·have H' := ak H;clear H;go_enter Try.func105, Try.ntmps105;go_wp2;go_loopg [1, 5] k (fun kq v1 v5 w' => ∃ (qbf : Int) (qm : Int), v1 = .int .i64 qbf ∧ v5 = .int .i64 qm ∧ Aside0 (zN.l0 kq l0 qbf qm = some r) ∧ Aside0 (kq ≤ k) ∧ Drawn0 w w')
  case atStart => exact ⟨(wrap64 (a1 - (l0.length : Int))), (0), o2, o2, H', ⟨Nat.le_refl _⟩, od⟩
  case round =>
   clear H';(try clear c3b0)
   obtain ⟨qbf, qm, rfl, rfl, HA, HK1, ⟨m1, rfl⟩⟩ := hrel;cases gk with
   | zero => exact absurd HA.out (by simp [zN.l0])
   | succ k1 =>
    have H := HA.out;clear HA;simp only [zN.l0] at H;replace H := ip H;obtain ⟨c4b0, H⟩ | ⟨c4b0, H⟩ := H
    ·replace H := ipN H;obtain ⟨c5b0, H⟩ := H;replace H := bnd H;obtain ⟨ji, A6, H⟩ := H;replace H := ip H;obtain ⟨c7b0, H⟩ | ⟨c7b0, H⟩ := H
     ·obtain rfl := Option.some.inj H;obtain ⟨qg, Qf, Qe, rfl, zt, jZ, jx, Zg, Zf⟩ := el0_L10 HR0 qm;go_wp2_with (((with_reducible refine gate_callee (f := 58) rfl ?_);refine glD 23 rfl rfl Try.func58 (Jn.calls _ _ (je l0 qm) qbf ji _ (cd jx) jZ.out A6.out) (fun nd => ?_)));go_ret;exact ⟨o2, od⟩
     ·have H' := ak H;clear H;obtain ⟨qg, Qf, Qe, rfl, zt, jZ, jx, Zg, Zf⟩ := el0_L10 HR0 qm;go_wp2_with (((with_reducible refine gate_callee (f := 58) rfl ?_);refine glD 23 rfl rfl Try.func58 (Jn.calls _ _ (je l0 qm) qbf ji _ (cd jx) jZ.out A6.out) (fun nd => ?_)));go_roundg k1;case measure => have := HK1.out; omega
      case rel => exact ⟨(ji), (wrap64 (qm + 1)), o2, o2, H', ⟨by have := HK1.out; omega⟩, od⟩
    ·obtain rfl := Option.some.inj H;go_wp2;go_ret;exact ⟨o2, od⟩

/-! ### zM: function 39 -/
def zM.f (k : Nat) (ql : List (List Int)) (a1 : Int) : Option (Int) := (zN.f k ql a1).bind fun ji => (if ji < 0 then (some (-1)) else (some ji))
set_option maxHeartbeats 8000000 in
set_option maxRecDepth 100000 in
theorem zM.calls (k : Nat) (jH : Option Addr) (jG : Nat) (ql : List (List Int)) (a1 : Int) (r : Int) (w : World) (jJ : Kd.C (Kd.slice 5 (Kd.int .u8)) w jH ql.length ql) (jW : ql.length ≤ jG) (h : zM.f k ql a1 = some r) :
  Calls Try.prog 39 #[.agg #[.slice jH ql.length jG], .int .i64 a1] w fun e w' => e = .returned (.int .i64 r) ∧ Below w.heap.size w w' := by
 have qll := Try.underlying24;have jC := ak jJ;have jT := ak jW;clear jJ jW;have HB := ak (Below.refl w.heap.size w);have H : ((zN.f k ql a1).bind fun ji => (if ji < 0 then (some (-1)) else (some ji))) = some r := h;clear h;replace H := bnd H;obtain ⟨ji, A3, H⟩ := H;replace H := ip H;obtain ⟨c4b0, H⟩ | ⟨c4b0, H⟩ := H
 ·obtain rfl := Option.some.inj H;go_enter Try.func39, Try.ntmps39;go_wp2_with (first | ((with_reducible refine gate_dst (N := 2) rfl ?_);refine bxd (N := 2) rfl HB ?_;clear HB;intro qt w5 hg HB qc qD hb;have jK := qD;clear hb hg;obtain ⟨qg6, qgZ⟩ := cells1 qc.out) | ((with_reducible refine gate_callee (f := 105) rfl ?_);refine glD 8 rfl rfl Try.func105 (zN.calls k _ _ ql a1 ji _ (cv jC HB) jT.out A3.out) (fun nd => ?_)));go_ret;exact ⟨o1, bs⟩
 ·obtain rfl := Option.some.inj H;go_enter Try.func39, Try.ntmps39;go_wp2_with (first | ((with_reducible refine gate_dst (N := 2) rfl ?_);refine bxd (N := 2) rfl HB ?_;clear HB;intro qt w7 hg HB qc qD hb;have jK := qD;clear hb hg;obtain ⟨qdl, qdi⟩ := cells1 qc.out) | ((with_reducible refine gate_callee (f := 105) rfl ?_);refine glD 8 rfl rfl Try.func105 (zN.calls k _ _ ql a1 ji _ (cv jC HB) jT.out A3.out) (fun nd => ?_)));go_ret;exact ⟨o1, bs⟩

/-! ### Yj: function 59 -/
def Yj.f (l0 : List Int) (a1 : Int) : Option (Int) := if (wrap64 (a1 - (l0.length : Int))) < 0 then (some (-1)) else (some (wrap64 (a1 - (l0.length : Int))))
set_option maxHeartbeats 8000000 in
set_option maxRecDepth 100000 in
theorem Yj.calls (A0 : Option Addr) (c0 : Nat) (l0 : List Int) (a1 : Int) (r : Int) (w : World) (hr0 : Kd.C (Kd.int .i64) w A0 l0.length l0) (hc0 : l0.length ≤ c0) (h : Yj.f l0 a1 = some r) :
  Calls Try.prog 59 #[.slice A0 l0.length c0, .int .i64 a1] w fun e w' => e = .returned (.int .i64 r) ∧ Drawn0 w w' := by
 have HR0 := ak hr0;have HC0 := ak hc0;clear hr0 hc0;have H : (if (wrap64 (a1 - (l0.length : Int))) < 0 then (some (-1)) else (some (wrap64 (a1 - (l0.length : Int))))) = some r := h;clear h;replace H := ip H;obtain ⟨c3b0, H⟩ | ⟨c3b0, H⟩ := H
 ·obtain rfl := Option.some.inj H;go_enter Try.func59, Try.ntmps59;go_wp2;go_ret;exact ⟨o2, od⟩
 ·obtain rfl := Option.some.inj H;go_enter Try.func59, Try.ntmps59;go_wp2;go_ret;exact ⟨o2, od⟩

/-! ### Xh: function 13 -/
def Xh.f (k : Nat) (ql : List (List Int)) (qo : Int) (qV : Int) (jm : Int) (qU : List (List Int)) (qN : List Int) (qF : List Int) (a1 : Int) : Option (Int) := (zM.f k ql a1).bind fun ji => (if ji < 0 then (some (-1)) else ((zM.f k qU ji).bind fun jh => (if jh < 0 then (some (-1)) else ((Jn.f qN jh).bind fun qM => (if qM < 0 then (some (-1)) else ((Yj.f qF qM).bind fun jA => (if jA < 0 then (some (-1)) else (some jA))))))))
set_option maxHeartbeats 8000000 in
set_option maxRecDepth 100000 in
theorem Xh.calls (k : Nat) (jH : Option Addr) (jG : Nat) (ql : List (List Int)) (qo : Int) (qV : Int) (jm : Int) (QC : Option Addr) (QB : Nat) (qU : List (List Int)) (Jb : Option Addr) (QX : Nat) (qN : List Int) (Je : Option Addr) (QW : Nat) (qF : List Int) (a1 : Int) (r : Int) (w : World) (jJ : Kd.C (Kd.slice 5 (Kd.int .u8)) w jH ql.length ql) (jW : ql.length ≤ jG) (JQ : Kd.C (Kd.slice 5 (Kd.int .u8)) w QC qU.length qU) (JT : qU.length ≤ QB) (JP : Kd.C (Kd.int .u8) w Jb qN.length qN) (JS : qN.length ≤ QX) (JO : Kd.C (Kd.int .i64) w Je qF.length qF) (JR : qF.length ≤ QW) (h : Xh.f k ql qo qV jm qU qN qF a1 = some r) :
  Calls Try.prog 13 #[.agg #[.slice jH ql.length jG, .int .i64 qo, .int .i64 qV, .int .i64 jm, .slice QC qU.length QB, .slice Jb qN.length QX, .slice Je qF.length QW], .int .i64 a1] w fun e w' => e = .returned (.int .i64 r) ∧ Below w.heap.size w w' := by
 have qro := Try.underlying28;have qll := Try.underlying24;have jC := ak jJ;have jT := ak jW;clear jJ jW;have Zs := ak JQ;have Zt := ak JT;clear JQ JT;have Yl := ak JP;have Xc := ak JS;clear JP JS;have Jl := ak JO;have XT := ak JR;clear JO JR;have HB := ak (Below.refl w.heap.size w);have H : ((zM.f k ql a1).bind fun ji => (if ji < 0 then (some (-1)) else ((zM.f k qU ji).bind fun jh => (if jh < 0 then (some (-1)) else ((Jn.f qN jh).bind fun qM => (if qM < 0 then (some (-1)) else ((Yj.f qF qM).bind fun jA => (if jA < 0 then (some (-1)) else (some jA))))))))) = some r := h;clear h;replace H := bnd H;obtain ⟨ji, A3, H⟩ := H;replace H := ip H;obtain ⟨c4b0, H⟩ | ⟨c4b0, H⟩ := H
 ·obtain rfl := Option.some.inj H;go_enter Try.func13, Try.ntmps13;go_wp2_with (first | ((with_reducible refine gate_dst (N := 2) rfl ?_);refine bxd (N := 2) rfl HB ?_;clear HB;intro qt w5 hg HB qc qD hb;have jK := qD;clear hb hg;obtain ⟨qg6, qra, qq9, qwy, qwx, qww, qwv, qgZ, qq3, qq2, qwi, qwh, qwg, qwf⟩ := cells7 qc.out) | ((with_reducible refine gate_callee (f := 39) rfl ?_);refine glB 8 rfl rfl Try.func39 (zM.calls k _ _ ql a1 ji _ (cv jC HB) jT.out A3.out) (fun w7 hb => ?_);replace qc := b1 qc hb;replace HB := b2s bs hb;(try clear hb)));go_ret;exact ⟨o1, bs⟩
 ·replace H := bnd H;obtain ⟨jh, A8, H⟩ := H;replace H := ip H;obtain ⟨c9b0, H⟩ | ⟨c9b0, H⟩ := H
  ·obtain rfl := Option.some.inj H;go_enter Try.func13, Try.ntmps13;go_wp2_with (first | ((with_reducible refine gate_dst (N := 2) rfl ?_);refine bxd (N := 2) rfl HB ?_;clear HB;intro qt w10 hg HB qc qD hb;have jK := qD;clear hb hg;obtain ⟨qa7, qcb, qca, qge, qgd, qgc, qgb, qa4, qb0, qbZ, qfM, qfL, qfK, qfJ⟩ := cells7 qc.out) | ((with_reducible refine gate_callee (f := 39) rfl ?_);refine glB 8 rfl rfl Try.func39 (zM.calls k _ _ ql a1 ji _ (cv jC HB) jT.out A3.out) (fun w12 hb => ?_);replace qc := b1 qc hb;replace HB := b2s bs hb;(try clear hb);obtain ⟨qaB, qb9, qb8, qd4, qd3, qd2, qd1, qax, qbY, qbX, qdQ, qdP, qdO, qdN⟩ := cells7 qc.out) | ((with_reducible refine gate_callee (f := 39) rfl ?_);refine glB 14 rfl rfl Try.func39 (zM.calls k _ _ qU ji jh _ (cv Zs HB) Zt.out A8.out) (fun w14 hb => ?_);replace qc := b1 qc hb;replace HB := b2s bs hb;(try clear hb)));go_ret;exact ⟨o1, bs⟩
  ·replace H := bnd H;obtain ⟨qM, A15, H⟩ := H;replace H := ip H;obtain ⟨c16b0, H⟩ | ⟨c16b0, H⟩ := H
   ·obtain rfl := Option.some.inj H;go_enter Try.func13, Try.ntmps13;go_wp2_with (first | ((with_reducible refine gate_dst (N := 2) rfl ?_);refine bxd (N := 2) rfl HB ?_;clear HB;intro qt w17 hg HB qc qD hb;have jK := qD;clear hb hg;obtain ⟨qb7, qb6, qb5, qc0, qcZ, qcY, qcX, qbW, qbV, qbU, qcR, qcQ, qcP, qcO⟩ := cells7 qc.out) | ((with_reducible refine gate_callee (f := 39) rfl ?_);refine glB 8 rfl rfl Try.func39 (zM.calls k _ _ ql a1 ji _ (cv jC HB) jT.out A3.out) (fun w19 hb => ?_);replace qc := b1 qc hb;replace HB := b2s bs hb;(try clear hb);obtain ⟨qdZ, qf6, qf5, qf4, qf3, qf2, qf1, qdL, qfE, qfD, qfC, qfB, qfA, qfz⟩ := cells7 qc.out) | ((with_reducible refine gate_callee (f := 39) rfl ?_);refine glB 14 rfl rfl Try.func39 (zM.calls k _ _ qU ji jh _ (cv Zs HB) Zt.out A8.out) (fun w21 hb => ?_);replace qc := b1 qc hb;replace HB := b2s bs hb;(try clear hb);obtain ⟨qay, qa6, qa5, qb4, qb3, qb2, qb1, qau, qa3, qa2, qbT, qbS, qbR, qbQ⟩ := cells7 qc.out) | ((with_reducible refine gate_callee (f := 58) rfl ?_);refine glD 20 rfl rfl Try.func58 (Jn.calls _ _ qN jh qM _ (cv Yl HB) Xc.out A15.out) (fun nd => ?_)));go_ret;exact ⟨o1, bs⟩
   ·replace H := bnd H;obtain ⟨jA, A23, H⟩ := H;replace H := ip H;obtain ⟨c24b0, H⟩ | ⟨c24b0, H⟩ := H
    ·obtain rfl := Option.some.inj H;go_enter Try.func13, Try.ntmps13;go_wp2_with (first | ((with_reducible refine gate_dst (N := 2) rfl ?_);refine bxd (N := 2) rfl HB ?_;clear HB;intro qt w25 hg HB qc qD hb;have jK := qD;clear hb hg;obtain ⟨qih, qku, qkt, qp2, qp1, qp0, qpZ, qhH, qjI, qjH, qn7, qn6, qn5, qn4⟩ := cells7 qc.out) | ((with_reducible refine gate_callee (f := 39) rfl ?_);refine glB 8 rfl rfl Try.func39 (zM.calls k _ _ ql a1 ji _ (cv jC HB) jT.out A3.out) (fun w27 hb => ?_);replace qc := b1 qc hb;replace HB := b2s bs hb;(try clear hb);obtain ⟨qfV, qfU, qfT, qic, qib, qia, qh9, qft, qfs, qfr, qhC, qhB, qhA, qhz⟩ := cells7 qc.out) | ((with_reducible refine gate_callee (f := 39) rfl ?_);refine glB 14 rfl rfl Try.func39 (zM.calls k _ _ qU ji jh _ (cv Zs HB) Zt.out A8.out) (fun w29 hb => ?_);replace qc := b1 qc hb;replace HB := b2s bs hb;(try clear hb);obtain ⟨qh8, qks, qkr, qpY, qpX, qpW, qpV, qhy, qjG, qjF, qn3, qn2, qn1, qn0⟩ := cells7 qc.out) | ((with_reducible refine gate_callee (f := 58) rfl ?_);refine glD 20 rfl rfl Try.func58 (Jn.calls _ _ qN jh qM _ (cv Yl HB) Xc.out A15.out) (fun nd => ?_)) | ((with_reducible refine gate_callee (f := 59) rfl ?_);refine glD 26 rfl rfl Try.func59 (Yj.calls _ _ qF qM jA _ ?zA XT.out A23.out) (fun nd => ?_);(case zA => repeat (first | exact (Kd.C_below Jl.out bs) | (with_reducible refine Kd.C_alloc ?_ _) | (with_reducible refine Kd.C_drewN ?_ _) | (with_reducible refine Kd.C_drew ?_)))));go_ret;exact ⟨o1, bs⟩
    ·obtain rfl := Option.some.inj H;go_enter Try.func13, Try.ntmps13;go_wp2_with (first | ((with_reducible refine gate_dst (N := 2) rfl ?_);refine bxd (N := 2) rfl HB ?_;clear HB;intro qt w31 hg HB qc qD hb;have jK := qD;clear hb hg;obtain ⟨qdX, qdW, qdV, qdU, qdT, qdS, qdR, qdJ, qdI, qdH, qdG, qdF, qdE, qdD⟩ := cells7 qc.out) | ((with_reducible refine gate_callee (f := 39) rfl ?_);refine glB 8 rfl rfl Try.func39 (zM.calls k _ _ ql a1 ji _ (cv jC HB) jT.out A3.out) (fun w33 hb => ?_);replace qc := b1 qc hb;replace HB := b2s bs hb;(try clear hb);obtain ⟨qh7, qkq, qkp, qko, qkn, qkm, qkl, qhx, qjE, qjD, qjC, qjB, qjA, qjz⟩ := cells7 qc.out) | ((with_reducible refine gate_callee (f := 39) rfl ?_);refine glB 14 rfl rfl Try.func39 (zM.calls k _ _ qU ji jh _ (cv Zs HB) Zt.out A8.out) (fun w35 hb => ?_);replace qc := b1 qc hb;replace HB := b2s bs hb;(try clear hb);obtain ⟨qkk, qpM, qpL, qpK, qpJ, qpI, qpH, qjy, qnR, qnQ, qnP, qnO, qnN, qnM⟩ := cells7 qc.out) | ((with_reducible refine gate_callee (f := 58) rfl ?_);refine glD 20 rfl rfl Try.func58 (Jn.calls _ _ qN jh qM _ (cv Yl HB) Xc.out A15.out) (fun nd => ?_)) | ((with_reducible refine gate_callee (f := 59) rfl ?_);refine glD 26 rfl rfl Try.func59 (Yj.calls _ _ qF qM jA _ ?zA XT.out A23.out) (fun nd => ?_);(case zA => repeat (first | exact (Kd.C_below Jl.out bs) | (with_reducible refine Kd.C_alloc ?_ _) | (with_reducible refine Kd.C_drewN ?_ _) | (with_reducible refine Kd.C_drew ?_)))));go_ret;exact ⟨o1, bs⟩

/-! ### yB: function 95 -/
def yB.l0 : Nat → List (S28) → Int → Int → Option (Int)
 | 0, _, _, _ => none
 | k + 1, x0, x1, x5 => if x5 < (x0.length : Int) then (if 0 ≤ x5 then ((Xh.f k ((jn x0 x5).f0.f0) ((jn x0 x5).f1) ((jn x0 x5).f2) ((jn x0 x5).f3) ((jn x0 x5).f4.f0) ((jn x0 x5).f5) ((jn x0 x5).f6) x1).bind fun ji => (if ji < 0 then (some (-1)) else (yB.l0 k x0 ji (wrap64 (x5 + 1))))) else (none)) else (some x1)
def yB.f (k : Nat) (l0 : List (S28)) (a1 : Int) : Option (Int) := if (wrap64 (a1 - (l0.length : Int))) < 0 then (some (-1)) else (yB.l0 k l0 (wrap64 (a1 - (l0.length : Int))) 0)
set_option maxHeartbeats 8000000 in
set_option maxRecDepth 100000 in
theorem yB.calls (k : Nat) (A0 : Option Addr) (c0 : Nat) (l0 : List (S28)) (a1 : Int) (r : Int) (w : World) (hr0 : Kd.C k28 w A0 l0.length l0) (hc0 : l0.length ≤ c0) (h : yB.f k l0 a1 = some r) :
  Calls Try.prog 95 #[.slice A0 l0.length c0, .int .i64 a1] w fun e w' => e = .returned (.int .i64 r) ∧ Below w.heap.size w w' := by
 have qro := Try.underlying28;have HR0 := ak hr0;have HC0 := ak hc0;clear hr0 hc0;have HB := ak (Below.refl w.heap.size w);have H : (if (wrap64 (a1 - (l0.length : Int))) < 0 then (some (-1)) else (yB.l0 k l0 (wrap64 (a1 - (l0.length : Int))) 0)) = some r := h;clear h;replace H := ip H;obtain ⟨c3b0, H⟩ | ⟨c3b0, H⟩ := H
 ·obtain rfl := Option.some.inj H;go_enter Try.func95, Try.ntmps95;go_wp2;go_ret;exact ⟨o1, bw HB.out⟩
 ·have H' := ak H;clear H;go_enter Try.func95, Try.ntmps95;go_wp2;go_loopg [1, 5] k (fun kq v1 v5 w' => ∃ (qbf : Int) (qm : Int), v1 = .int .i64 qbf ∧ v5 = .int .i64 qm ∧ Aside0 (yB.l0 kq l0 qbf qm = some r) ∧ Aside0 (kq ≤ k) ∧ Aside0 (Below w.heap.size w w'))
  case atStart => exact ⟨(wrap64 (a1 - (l0.length : Int))), (0), o2, o2, H', ⟨Nat.le_refl _⟩, ⟨bw HB.out⟩⟩
  case round =>
   clear H';(try clear c3b0)
   obtain ⟨qbf, qm, rfl, rfl, HA, HK1, HB⟩ := hrel;cases gk with
   | zero => exact absurd HA.out (by simp [yB.l0])
   | succ k1 =>
    have H := HA.out;clear HA;simp only [yB.l0] at H;replace H := ip H;obtain ⟨c4b0, H⟩ | ⟨c4b0, H⟩ := H
    ·replace H := ipN H;obtain ⟨c5b0, H⟩ := H;replace H := bnd H;obtain ⟨ji, A6, H⟩ := H;replace H := ip H;obtain ⟨c7b0, H⟩ | ⟨c7b0, H⟩ := H
     ·obtain rfl := Option.some.inj H;obtain ⟨qg, Qf, Qe, ZE, ZB, ZD, ZA, ZC, Zz, rfl, zt, QO, QN, QM, QL, QK, QJ, jZ, jx, Jy, yA, Jx, yz, Jw, yy, Zg, Zf⟩ := el_T28 HR0 HB qm;go_wp2_with (((with_reducible refine gate_callee (f := 13) rfl ?_);refine glB 23 rfl rfl Try.func13 (Xh.calls k1 _ _ ((jn l0 qm).f0.f0) ((jn l0 qm).f1) ((jn l0 qm).f2) ((jn l0 qm).f3) _ _ ((jn l0 qm).f4.f0) _ _ ((jn l0 qm).f5) _ _ ((jn l0 qm).f6) qbf ji _ (cv jx HB) jZ.out (cv yA HB) Jy.out (cv yz HB) Jx.out (cv yy HB) Jw.out A6.out) (fun w8 hb => ?_);replace HB := b2 HB hb;(try clear hb)));go_ret;exact ⟨o1, bw HB.out⟩
     ·have H' := ak H;clear H;obtain ⟨qg, Qf, Qe, ZE, ZB, ZD, ZA, ZC, Zz, rfl, zt, QO, QN, QM, QL, QK, QJ, jZ, jx, Jy, yA, Jx, yz, Jw, yy, Zg, Zf⟩ := el_T28 HR0 HB qm;go_wp2_with (((with_reducible refine gate_callee (f := 13) rfl ?_);refine glB 23 rfl rfl Try.func13 (Xh.calls k1 _ _ ((jn l0 qm).f0.f0) ((jn l0 qm).f1) ((jn l0 qm).f2) ((jn l0 qm).f3) _ _ ((jn l0 qm).f4.f0) _ _ ((jn l0 qm).f5) _ _ ((jn l0 qm).f6) qbf ji _ (cv jx HB) jZ.out (cv yA HB) Jy.out (cv yz HB) Jx.out (cv yy HB) Jw.out A6.out) (fun w9 hb => ?_);replace HB := b2 HB hb;(try clear hb)));go_roundg k1;case measure => have := HK1.out; omega
      case rel => exact ⟨(ji), (wrap64 (qm + 1)), o2, o2, H', ⟨by have := HK1.out; omega⟩, ⟨bw HB.out⟩⟩
    ·obtain rfl := Option.some.inj H;go_wp2;go_ret;exact ⟨o1, bw HB.out⟩

/-! ### ZV: function 180 -/
def ZV.f (k : Nat) (ql : List (List Int)) (qo : Int) (qV : Int) (yX : List (S28)) (ZH : Int) (ZU : Int) (Ya : Int) (a1 : Int) : Option (Int) := (zM.f k ql a1).bind fun ji => (if ji < 0 then (some (-1)) else ((yB.f k yX ji).bind fun jh => (if jh < 0 then (some (-1)) else (some jh))))
set_option maxHeartbeats 8000000 in
set_option maxRecDepth 100000 in
theorem ZV.calls (k : Nat) (jH : Option Addr) (jG : Nat) (ql : List (List Int)) (qo : Int) (qV : Int) (qbP : Option Addr) (qbO : Nat) (yX : List (S28)) (ZH : Int) (ZU : Int) (Ya : Int) (a1 : Int) (r : Int) (w : World) (jJ : Kd.C (Kd.slice 5 (Kd.int .u8)) w jH ql.length ql) (jW : ql.length ≤ jG) (qbb : Kd.C k28 w qbP yX.length yX) (qbc : yX.length ≤ qbO) (h : ZV.f k ql qo qV yX ZH ZU Ya a1 = some r) :
  Calls Try.prog 180 #[.agg #[.slice jH ql.length jG, .int .i64 qo, .int .i64 qV, .slice qbP yX.length qbO, .int .i64 ZH, .int .i64 ZU, .int .i64 Ya], .int .i64 a1] w fun e w' => e = .returned (.int .i64 r) ∧ Below w.heap.size w w' := by
 have qqG := Try.underlying190;have qll := Try.underlying24;have jC := ak jJ;have jT := ak jW;clear jJ jW;have qbL := ak qbb;have qbM := ak qbc;clear qbb qbc;have HB := ak (Below.refl w.heap.size w);have H : ((zM.f k ql a1).bind fun ji => (if ji < 0 then (some (-1)) else ((yB.f k yX ji).bind fun jh => (if jh < 0 then (some (-1)) else (some jh))))) = some r := h;clear h;replace H := bnd H;obtain ⟨ji, A3, H⟩ := H;replace H := ip H;obtain ⟨c4b0, H⟩ | ⟨c4b0, H⟩ := H
 ·obtain rfl := Option.some.inj H;go_enter Try.func180, Try.ntmps180;go_wp2_with (first | ((with_reducible refine gate_dst (N := 2) rfl ?_);refine bxd (N := 2) rfl HB ?_;clear HB;intro qt w5 hg HB qc qD hb;have jK := qD;clear hb hg;obtain ⟨qg6, qra, qq9, qwy, qwx, qww, qwv, qgZ, qq3, qq2, qwi, qwh, qwg, qwf⟩ := cells7 qc.out) | ((with_reducible refine gate_callee (f := 39) rfl ?_);refine glB 8 rfl rfl Try.func39 (zM.calls k _ _ ql a1 ji _ (cv jC HB) jT.out A3.out) (fun w7 hb => ?_);replace qc := b1 qc hb;replace HB := b2s bs hb;(try clear hb)));go_ret;exact ⟨o1, bs⟩
 ·replace H := bnd H;obtain ⟨jh, A8, H⟩ := H;replace H := ip H;obtain ⟨c9b0, H⟩ | ⟨c9b0, H⟩ := H
  ·obtain rfl := Option.some.inj H;go_enter Try.func180, Try.ntmps180;go_wp2_with (first | ((with_reducible refine gate_dst (N := 2) rfl ?_);refine bxd (N := 2) rfl HB ?_;clear HB;intro qt w10 hg HB qc qD hb;have jK := qD;clear hb hg;obtain ⟨qa7, qcb, qca, qge, qgd, qgc, qgb, qa4, qb0, qbZ, qfM, qfL, qfK, qfJ⟩ := cells7 qc.out) | ((with_reducible refine gate_callee (f := 39) rfl ?_);refine glB 8 rfl rfl Try.func39 (zM.calls k _ _ ql a1 ji _ (cv jC HB) jT.out A3.out) (fun w12 hb => ?_);replace qc := b1 qc hb;replace HB := b2s bs hb;(try clear hb);obtain ⟨qaB, qb9, qb8, qd4, qd3, qd2, qd1, qax, qbY, qbX, qdQ, qdP, qdO, qdN⟩ := cells7 qc.out) | ((with_reducible refine gate_callee (f := 95) rfl ?_);refine glB 14 rfl rfl Try.func95 (yB.calls k _ _ yX ji jh _ (cv qbL HB) qbM.out A8.out) (fun w14 hb => ?_);replace qc := b1 qc hb;replace HB := b2s bs hb;(try clear hb)));go_ret;exact ⟨o1, bs⟩
  ·obtain rfl := Option.some.inj H;go_enter Try.func180, Try.ntmps180;go_wp2_with (first | ((with_reducible refine gate_dst (N := 2) rfl ?_);refine bxd (N := 2) rfl HB ?_;clear HB;intro qt w15 hg HB qc qD hb;have jK := qD;clear hb hg;obtain ⟨XJ, qaA, qaz, qc4, qc3, qc2, qc1, XI, qaw, qav, qcV, qcU, qcT, qcS⟩ := cells7 qc.out) | ((with_reducible refine gate_callee (f := 39) rfl ?_);refine glB 8 rfl rfl Try.func39 (zM.calls k _ _ ql a1 ji _ (cv jC HB) jT.out A3.out) (fun w17 hb => ?_);replace qc := b1 qc hb;replace HB := b2s bs hb;(try clear hb);obtain ⟨qb7, qb6, qb5, qc0, qcZ, qcY, qcX, qbW, qbV, qbU, qcR, qcQ, qcP, qcO⟩ := cells7 qc.out) | ((with_reducible refine gate_callee (f := 95) rfl ?_);refine glB 14 rfl rfl Try.func95 (yB.calls k _ _ yX ji jh _ (cv qbL HB) qbM.out A8.out) (fun w19 hb => ?_);replace qc := b1 qc hb;replace HB := b2s bs hb;(try clear hb)));go_ret;exact ⟨o1, bs⟩

/-! ### zL: function 114 -/
def zL.l0 : Nat → List (Yt) → Int → Int → Option (Int)
 | 0, _, _, _ => none
 | k + 1, x0, x1, x5 => if x5 < (x0.length : Int) then (if 0 ≤ x5 then ((ZV.f k ((jq x0 x5).f0.f0) ((jq x0 x5).f1) ((jq x0 x5).f2) ((jq x0 x5).f3) ((jq x0 x5).f4) ((jq x0 x5).f5) ((jq x0 x5).f6) x1).bind fun ji => (if ji < 0 then (some (-1)) else (zL.l0 k x0 ji (wrap64 (x5 + 1))))) else (none)) else (some x1)
def zL.f (k : Nat) (l0 : List (Yt)) (a1 : Int) : Option (Int) := if (wrap64 (a1 - (l0.length : Int))) < 0 then (some (-1)) else (zL.l0 k l0 (wrap64 (a1 - (l0.length : Int))) 0)
set_option maxHeartbeats 8000000 in
set_option maxRecDepth 100000 in
theorem zL.calls (k : Nat) (A0 : Option Addr) (c0 : Nat) (l0 : List (Yt)) (a1 : Int) (r : Int) (w : World) (hr0 : Kd.C qbG w A0 l0.length l0) (hc0 : l0.length ≤ c0) (h : zL.f k l0 a1 = some r) :
  Calls Try.prog 114 #[.slice A0 l0.length c0, .int .i64 a1] w fun e w' => e = .returned (.int .i64 r) ∧ Below w.heap.size w w' := by
 have qqG := Try.underlying190;have HR0 := ak hr0;have HC0 := ak hc0;clear hr0 hc0;have HB := ak (Below.refl w.heap.size w);have H : (if (wrap64 (a1 - (l0.length : Int))) < 0 then (some (-1)) else (zL.l0 k l0 (wrap64 (a1 - (l0.length : Int))) 0)) = some r := h;clear h;replace H := ip H;obtain ⟨c3b0, H⟩ | ⟨c3b0, H⟩ := H
 ·obtain rfl := Option.some.inj H;go_enter Try.func114, Try.ntmps114;go_wp2;go_ret;exact ⟨o1, bw HB.out⟩
 ·have H' := ak H;clear H;go_enter Try.func114, Try.ntmps114;go_wp2;go_loopg [1, 5] k (fun kq v1 v5 w' => ∃ (qbf : Int) (qm : Int), v1 = .int .i64 qbf ∧ v5 = .int .i64 qm ∧ Aside0 (zL.l0 kq l0 qbf qm = some r) ∧ Aside0 (kq ≤ k) ∧ Aside0 (Below w.heap.size w w'))
  case atStart => exact ⟨(wrap64 (a1 - (l0.length : Int))), (0), o2, o2, H', ⟨Nat.le_refl _⟩, ⟨bw HB.out⟩⟩
  case round =>
   clear H';(try clear c3b0)
   obtain ⟨qbf, qm, rfl, rfl, HA, HK1, HB⟩ := hrel;cases gk with
   | zero => exact absurd HA.out (by simp [zL.l0])
   | succ k1 =>
    have H := HA.out;clear HA;simp only [zL.l0] at H;replace H := ip H;obtain ⟨c4b0, H⟩ | ⟨c4b0, H⟩ := H
    ·replace H := ipN H;obtain ⟨c5b0, H⟩ := H;replace H := bnd H;obtain ⟨ji, A6, H⟩ := H;replace H := ip H;obtain ⟨c7b0, H⟩ | ⟨c7b0, H⟩ := H
     ·obtain rfl := Option.some.inj H;obtain ⟨qg, Qf, Qe, qhg, qhc, rfl, zt, QO, QN, QM, QL, QK, QJ, jZ, jx, qdd, qbC, Zg, Zf⟩ := el_T190 HR0 HB qm;go_wp2_with (((with_reducible refine gate_callee (f := 180) rfl ?_);refine glB 23 rfl rfl Try.func180 (ZV.calls k1 _ _ ((jq l0 qm).f0.f0) ((jq l0 qm).f1) ((jq l0 qm).f2) _ _ ((jq l0 qm).f3) ((jq l0 qm).f4) ((jq l0 qm).f5) ((jq l0 qm).f6) qbf ji _ (cv jx HB) jZ.out (cv qbC HB) qdd.out A6.out) (fun w8 hb => ?_);replace HB := b2 HB hb;(try clear hb)));go_ret;exact ⟨o1, bw HB.out⟩
     ·have H' := ak H;clear H;obtain ⟨qg, Qf, Qe, qhg, qhc, rfl, zt, QO, QN, QM, QL, QK, QJ, jZ, jx, qdd, qbC, Zg, Zf⟩ := el_T190 HR0 HB qm;go_wp2_with (((with_reducible refine gate_callee (f := 180) rfl ?_);refine glB 23 rfl rfl Try.func180 (ZV.calls k1 _ _ ((jq l0 qm).f0.f0) ((jq l0 qm).f1) ((jq l0 qm).f2) _ _ ((jq l0 qm).f3) ((jq l0 qm).f4) ((jq l0 qm).f5) ((jq l0 qm).f6) qbf ji _ (cv jx HB) jZ.out (cv qbC HB) qdd.out A6.out) (fun w9 hb => ?_);replace HB := b2 HB hb;(try clear hb)));go_roundg k1;case measure => have := HK1.out; omega
      case rel => exact ⟨(ji), (wrap64 (qm + 1)), o2, o2, H', ⟨by have := HK1.out; omega⟩, ⟨bw HB.out⟩⟩
    ·obtain rfl := Option.some.inj H;go_wp2;go_ret;exact ⟨o1, bw HB.out⟩

theorem cells3 {W : World} {g t : Nat} {v0 v1 v2 : Value} (h : W.heap[g]? = some (.cells #[v0, v1, v2] t (0, 0))) : W.cell? ⟨g, 0, none⟩ = some v0 ∧ W.cell? ⟨g, 1, none⟩ = some v1 ∧ W.cell? ⟨g, 2, none⟩ = some v2 ∧ W.frozen? ⟨g, 0, none⟩ = false ∧ W.frozen? ⟨g, 1, none⟩ = false ∧ W.frozen? ⟨g, 2, none⟩ = false :=
  ⟨(blk_cell h 0).trans rfl, (blk_cell h 1).trans rfl, (blk_cell h 2).trans rfl, blk_frozen h 0, blk_frozen h 1, blk_frozen h 2⟩
/-! ### ZX: function 48 -/
def ZX.f (k : Nat) (qX : Int) (qo : Int) (qe : List (Yt)) (a1 : Int) : Option (Int) := (zL.f k qe a1).bind fun ji => (if ji < 0 then (some (-1)) else (some ji))
set_option maxHeartbeats 8000000 in
set_option maxRecDepth 100000 in
theorem ZX.calls (k : Nat) (qX : Int) (qo : Int) (Yi : Option Addr) (zz : Nat) (qe : List (Yt)) (a1 : Int) (r : Int) (w : World) (YE : Kd.C qbG w Yi qe.length qe) (YQ : qe.length ≤ zz) (h : ZX.f k qX qo qe a1 = some r) :
  Calls Try.prog 48 #[.agg #[.int .i64 qX, .int .i64 qo, .slice Yi qe.length zz], .int .i64 a1] w fun e w' => e = .returned (.int .i64 r) ∧ Below w.heap.size w w' := by
 have qv7 := Try.underlying74;have Jh := ak YE;have Ym := ak YQ;clear YE YQ;have HB := ak (Below.refl w.heap.size w);have H : ((zL.f k qe a1).bind fun ji => (if ji < 0 then (some (-1)) else (some ji))) = some r := h;clear h;replace H := bnd H;obtain ⟨ji, A3, H⟩ := H;replace H := ip H;obtain ⟨c4b0, H⟩ | ⟨c4b0, H⟩ := H
 ·obtain rfl := Option.some.inj H;go_enter Try.func48, Try.ntmps48;go_wp2_with (first | ((with_reducible refine gate_dst (N := 2) rfl ?_);refine bxd (N := 2) rfl HB ?_;clear HB;intro qt w5 hg HB qc qD hb;have jK := qD;clear hb hg;obtain ⟨qg6, qra, qq9, qgZ, qq3, qq2⟩ := cells3 qc.out) | ((with_reducible refine gate_callee (f := 114) rfl ?_);refine glB 8 rfl rfl Try.func114 (zL.calls k _ _ qe a1 ji _ (cv Jh HB) Ym.out A3.out) (fun w7 hb => ?_);replace qc := b1 qc hb;replace HB := b2s bs hb;(try clear hb)));go_ret;exact ⟨o1, bs⟩
 ·obtain rfl := Option.some.inj H;go_enter Try.func48, Try.ntmps48;go_wp2_with (first | ((with_reducible refine gate_dst (N := 2) rfl ?_);refine bxd (N := 2) rfl HB ?_;clear HB;intro qt w8 hg HB qc qD hb;have jK := qD;clear hb hg;obtain ⟨qbJ, qdk, qdj, qbI, qdh, qdg⟩ := cells3 qc.out) | ((with_reducible refine gate_callee (f := 114) rfl ?_);refine glB 8 rfl rfl Try.func114 (zL.calls k _ _ qe a1 ji _ (cv Jh HB) Ym.out A3.out) (fun w10 hb => ?_);replace qc := b1 qc hb;replace HB := b2s bs hb;(try clear hb)));go_ret;exact ⟨o1, bs⟩

/-! ### jr: function 157 -/
mutual
def jr.j0 : Nat → List Int → Bool → Option (Bool)
 | 0, _, _ => none
 | k + 1, x0, x11 => if x11 = true then (some false) else (jr.l0 k x0 0)
def jr.l0 : Nat → List Int → Int → Option (Bool)
 | 0, _, _ => none
 | k + 1, x0, x3 => if x3 < (x0.length : Int) then (if 0 ≤ x3 then (if (rd x0 x3) ≥ 97 then (if ((rd x0 x3) ≤ 122) then (jr.l0 k x0 (wrap64 (x3 + 1))) else (if (rd x0 x3) ≥ 48 then (if ((rd x0 x3) ≤ 57) then (jr.l0 k x0 (wrap64 (x3 + 1))) else (if (rd x0 x3) = 45 then (jr.l0 k x0 (wrap64 (x3 + 1))) else (some false))) else (if (rd x0 x3) = 45 then (jr.l0 k x0 (wrap64 (x3 + 1))) else (some false)))) else (if (rd x0 x3) ≥ 48 then (if ((rd x0 x3) ≤ 57) then (jr.l0 k x0 (wrap64 (x3 + 1))) else (if (rd x0 x3) = 45 then (jr.l0 k x0 (wrap64 (x3 + 1))) else (some false))) else (if (rd x0 x3) = 45 then (jr.l0 k x0 (wrap64 (x3 + 1))) else (some false)))) else (none)) else (some true)
end
def jr.f (k : Nat) (l0 : List Int) : Option (Bool) := if (l0.length : Int) < 1 then (jr.j0 k l0 true) else (jr.j0 k l0 (decide ((l0.length : Int) > 15)))
set_option maxHeartbeats 8000000 in
set_option maxRecDepth 100000 in
theorem jr.calls (k : Nat) (A0 : Option Addr) (c0 : Nat) (l0 : List Int) (r : Bool) (w : World) (hr0 : Kd.C (Kd.int .u8) w A0 l0.length l0) (hc0 : l0.length ≤ c0) (h : jr.f k l0 = some r) :
  Calls Try.prog 157 #[.slice A0 l0.length c0] w fun e w' => e = .returned (.bool r) ∧ Drawn0 w w' := by
 have HR0 := ak hr0;have HC0 := ak hc0;clear hr0 hc0;have H : (if (l0.length : Int) < 1 then (jr.j0 k l0 true) else (jr.j0 k l0 (decide ((l0.length : Int) > 15)))) = some r := h;clear h;have HC2 := ak H;clear H;go_enter Try.func157, Try.ntmps157;go_upto_region 1 with (fail)
 go_cut [11] (fun v11 wc => ∃ (kq : Nat) (qgu : Bool), v11 = .bool qgu ∧ Aside0 (jr.j0 kq l0 qgu = some r) ∧ Aside0 (kq ≤ k) ∧ Drawn0 w wc)
 case first =>
  have H := HC2.out;clear HC2;replace H := ip H;obtain ⟨c3b0, H⟩ | ⟨c3b0, H⟩ := H
  ·have c3b1 : decide (l0.length < 1) = true := decide_eq_true (by have := of_decide_eq_true c3b0; omega);(first | rw [c3b0] | (simp only [i64_w, i32_w]; rw [c3b0]) | skip)
   have H' := ak H;clear H;go_wp2;go_meet
   case rel => exact ⟨_, (true), o2, H', ⟨o3⟩, od⟩
  ·have c3b1 : decide (l0.length < 1) = false := decide_eq_false (by have := of_decide_eq_false c3b0; omega);(first | rw [c3b0] | (simp only [i64_w, i32_w]; rw [c3b0]) | skip)
   have H' := ak H;clear H;go_wp2;go_meet
   case rel => exact ⟨_, (decide ((l0.length : Int) > 15)), o2, H', ⟨o3⟩, od⟩
 case rest =>
  clear HC2;obtain ⟨kq, qgu, rfl, HA, HJ1, ⟨mc1, rfl⟩⟩ := hcut;cases kq with
  | zero => exact absurd HA.out (by simp [jr.j0])
  | succ kj1 =>
   have H := HA.out;clear HA;simp only [jr.j0] at H;replace H := ib H;obtain ⟨rfl, H⟩ | ⟨rfl, H⟩ := H
   ·obtain rfl := Option.some.inj H;go_wp2;go_ret;exact ⟨o2, od⟩
   ·have H' := ak H;clear H;go_wp2;go_loopg [3] kj1 (fun kq v3 w' => ∃ (qd : Int), v3 = .int .i64 qd ∧ Aside0 (jr.l0 kq l0 qd = some r) ∧ Aside0 (kq ≤ kj1) ∧ Drawn0 w w')
    case atStart => exact ⟨(0), o2, H', ⟨Nat.le_refl _⟩, od⟩
    case round =>
     clear H';obtain ⟨qd, rfl, HA, HK2, ⟨m2, rfl⟩⟩ := hrel;cases gk with
     | zero => exact absurd HA.out (by simp [jr.l0])
     | succ k2 =>
      have H := HA.out;clear HA;simp only [jr.l0] at H;replace H := ip H;obtain ⟨c5b0, H⟩ | ⟨c5b0, H⟩ := H
      ·replace H := ipN H;obtain ⟨c6b0, H⟩ := H;replace H := ih H;obtain ⟨c7b0, H⟩ | ⟨c7b0, H⟩ := H
       ·replace H := ip H;obtain ⟨c8b0, H⟩ | ⟨c8b0, H⟩ := H
        ·have H' := ak H;clear H;obtain ⟨qg, rfl, zt, Zg, Zf⟩ := el0_int HR0 qd;obtain ⟨yU, Xa, YZ⟩ := el20_int HR0 qd;go_wp2;go_roundg k2;case measure => have := HJ1.out; have := HK2.out; omega
         case rel => exact ⟨(wrap64 (qd + 1)), o2, H', ⟨by have := HJ1.out; have := HK2.out; omega⟩, od⟩
        ·replace H := ih H;obtain ⟨c9b0, H⟩ | ⟨c9b0, H⟩ := H
         ·replace H := ip H;obtain ⟨c10b0, H⟩ | ⟨c10b0, H⟩ := H
          ·have H' := ak H;clear H;obtain ⟨qg, rfl, zt, Zg, Zf⟩ := el0_int HR0 qd;obtain ⟨yU, Xa, YZ⟩ := el20_int HR0 qd;obtain ⟨Zd, qcn, qcm⟩ := el20_int HR0 qd;obtain ⟨qA, yr, yq⟩ := el20_int HR0 qd;go_wp2;go_roundg k2;case measure => have := HJ1.out; have := HK2.out; omega
           case rel => exact ⟨(wrap64 (qd + 1)), o2, H', ⟨by have := HJ1.out; have := HK2.out; omega⟩, od⟩
          ·replace H := ie H;obtain ⟨c11b0, c11b1, H⟩ | ⟨c11b0, c11b1, H⟩ := H
           ·have H' := ak H;clear H;obtain ⟨qg, rfl, zt, Zg, Zf⟩ := el0_int HR0 qd;obtain ⟨yU, Xa, YZ⟩ := el20_int HR0 qd;obtain ⟨Zd, qcn, qcm⟩ := el20_int HR0 qd;obtain ⟨qA, yr, yq⟩ := el20_int HR0 qd;obtain ⟨zU, JL, JK⟩ := el20_int HR0 qd;go_wp2;go_roundg k2;case measure => have := HJ1.out; have := HK2.out; omega
            case rel => exact ⟨(wrap64 (qd + 1)), o2, H', ⟨by have := HJ1.out; have := HK2.out; omega⟩, od⟩
           ·obtain rfl := Option.some.inj H;obtain ⟨qg, rfl, zt, Zg, Zf⟩ := el0_int HR0 qd;obtain ⟨yU, Xa, YZ⟩ := el20_int HR0 qd;obtain ⟨Zd, qcn, qcm⟩ := el20_int HR0 qd;obtain ⟨qA, yr, yq⟩ := el20_int HR0 qd;obtain ⟨zU, JL, JK⟩ := el20_int HR0 qd;go_wp2;go_ret;exact ⟨o2, od⟩
         ·replace H := ie H;obtain ⟨c12b0, c12b1, H⟩ | ⟨c12b0, c12b1, H⟩ := H
          ·have H' := ak H;clear H;obtain ⟨qg, rfl, zt, Zg, Zf⟩ := el0_int HR0 qd;obtain ⟨yU, Xa, YZ⟩ := el20_int HR0 qd;obtain ⟨Zd, qcn, qcm⟩ := el20_int HR0 qd;obtain ⟨qY, Jj, Ji⟩ := el20_int HR0 qd;go_wp2;go_roundg k2;case measure => have := HJ1.out; have := HK2.out; omega
           case rel => exact ⟨(wrap64 (qd + 1)), o2, H', ⟨by have := HJ1.out; have := HK2.out; omega⟩, od⟩
          ·obtain rfl := Option.some.inj H;obtain ⟨qg, rfl, zt, Zg, Zf⟩ := el0_int HR0 qd;obtain ⟨yU, Xa, YZ⟩ := el20_int HR0 qd;obtain ⟨Zd, qcn, qcm⟩ := el20_int HR0 qd;obtain ⟨qY, Jj, Ji⟩ := el20_int HR0 qd;go_wp2;go_ret;exact ⟨o2, od⟩
       ·replace H := ih H;obtain ⟨c13b0, H⟩ | ⟨c13b0, H⟩ := H
        ·replace H := ip H;obtain ⟨c14b0, H⟩ | ⟨c14b0, H⟩ := H
         ·have H' := ak H;clear H;obtain ⟨qg, rfl, zt, Zg, Zf⟩ := el0_int HR0 qd;obtain ⟨qC, yw, yv⟩ := el20_int HR0 qd;obtain ⟨yK, qbi, qbh⟩ := el20_int HR0 qd;go_wp2;go_roundg k2;case measure => have := HJ1.out; have := HK2.out; omega
          case rel => exact ⟨(wrap64 (qd + 1)), o2, H', ⟨by have := HJ1.out; have := HK2.out; omega⟩, od⟩
         ·replace H := ie H;obtain ⟨c15b0, c15b1, H⟩ | ⟨c15b0, c15b1, H⟩ := H
          ·have H' := ak H;clear H;obtain ⟨qg, rfl, zt, Zg, Zf⟩ := el0_int HR0 qd;obtain ⟨qC, yw, yv⟩ := el20_int HR0 qd;obtain ⟨yK, qbi, qbh⟩ := el20_int HR0 qd;obtain ⟨jD, Yp, Yo⟩ := el20_int HR0 qd;go_wp2;go_roundg k2;case measure => have := HJ1.out; have := HK2.out; omega
           case rel => exact ⟨(wrap64 (qd + 1)), o2, H', ⟨by have := HJ1.out; have := HK2.out; omega⟩, od⟩
          ·obtain rfl := Option.some.inj H;obtain ⟨qg, rfl, zt, Zg, Zf⟩ := el0_int HR0 qd;obtain ⟨qC, yw, yv⟩ := el20_int HR0 qd;obtain ⟨yK, qbi, qbh⟩ := el20_int HR0 qd;obtain ⟨jD, Yp, Yo⟩ := el20_int HR0 qd;go_wp2;go_ret;exact ⟨o2, od⟩
        ·replace H := ie H;obtain ⟨c16b0, c16b1, H⟩ | ⟨c16b0, c16b1, H⟩ := H
         ·have H' := ak H;clear H;obtain ⟨qg, rfl, zt, Zg, Zf⟩ := el0_int HR0 qd;obtain ⟨qC, yw, yv⟩ := el20_int HR0 qd;obtain ⟨JI, qed, qec⟩ := el20_int HR0 qd;go_wp2;go_roundg k2;case measure => have := HJ1.out; have := HK2.out; omega
          case rel => exact ⟨(wrap64 (qd + 1)), o2, H', ⟨by have := HJ1.out; have := HK2.out; omega⟩, od⟩
         ·obtain rfl := Option.some.inj H;obtain ⟨qg, rfl, zt, Zg, Zf⟩ := el0_int HR0 qd;obtain ⟨qC, yw, yv⟩ := el20_int HR0 qd;obtain ⟨JI, qed, qec⟩ := el20_int HR0 qd;go_wp2;go_ret;exact ⟨o2, od⟩
      ·obtain rfl := Option.some.inj H;go_wp2;go_ret;exact ⟨o2, od⟩

/-! ### jo: function 76 -/
def jo.l0 : Nat → Int → List (List Int) → Option (Bool)
 | 0, _, _ => none
 | k + 1, x3, qT => if x3 < (qT.length : Int) then (if 0 ≤ x3 then ((jr.f k (je qT x3)).bind fun jh => (if jh = true then (jo.l0 k (wrap64 (x3 + 1)) qT) else (some false))) else (none)) else (some true)
def jo.f (k : Nat) (ql : List (List Int)) : Option (Bool) := if (ql.length : Int) > 6 then (some false) else (jo.l0 k 0 ql)
set_option maxHeartbeats 8000000 in
set_option maxRecDepth 100000 in
theorem jo.calls (k : Nat) (jH : Option Addr) (jG : Nat) (ql : List (List Int)) (r : Bool) (w : World) (jJ : Kd.C (Kd.slice 5 (Kd.int .u8)) w jH ql.length ql) (jW : ql.length ≤ jG) (h : jo.f k ql = some r) :
  Calls Try.prog 76 #[.agg #[.slice jH ql.length jG]] w fun e w' => e = .returned (.bool r) ∧ Below w.heap.size w w' := by
 have XB := Try.underlying31;have jC := ak jJ;have jT := ak jW;clear jJ jW;have HB := ak (Below.refl w.heap.size w);have H : (if (ql.length : Int) > 6 then (some false) else (jo.l0 k 0 ql)) = some r := h;clear h;replace H := ig H;obtain ⟨c2b0, H⟩ | ⟨c2b0, H⟩ := H
 ·have c2b1 : decide (6 < ql.length) = true := decide_eq_true (by have := of_decide_eq_true c2b0; omega);obtain rfl := Option.some.inj H;go_enter Try.func76, Try.ntmps76;go_wp2_with (((with_reducible refine gate_dst (N := 1) rfl ?_);refine bxd (N := 1) rfl HB ?_;clear HB;intro qt w3 hg HB qc qD hb;have jK := qD;clear hb hg;obtain ⟨qiT, qiS⟩ := cells1 qc.out));go_ret;exact ⟨o1, bs⟩
 ·have c2b1 : decide (6 < ql.length) = false := decide_eq_false (by have := of_decide_eq_false c2b0; omega);have H' := ak H;clear H;go_enter Try.func76, Try.ntmps76;go_wp2_with (((with_reducible refine gate_dst (N := 1) rfl ?_);refine bxd (N := 1) rfl HB ?_;clear HB;intro qt w5 hg HB qc qD hb;have jK := qD;clear hb hg;obtain ⟨qg6, qgZ⟩ := cells1 qc.out));go_loopg [3] k (fun kq v3 w' => ∃ (zd : Int), v3 = .int .i64 zd ∧ Aside0 (jo.l0 kq zd ql = some r) ∧ Aside0 (kq ≤ k) ∧ Aside0 (w'.heap[qt]? = some (.cells #[(.slice jH ql.length jG)] 31 (0, 0))) ∧ Aside0 (Below w.heap.size w w'))
  case atStart => exact ⟨(0), o2, H', ⟨Nat.le_refl _⟩, ⟨bk qc.out⟩, ⟨bs⟩⟩
  case round =>
   clear H';(try clear c2b0)
   (try clear c2b1)
   (try clear qg6)
   (try clear qgZ)
   obtain ⟨zd, rfl, HA, HK1, qc, HB⟩ := hrel;cases gk with
   | zero => exact absurd HA.out (by simp [jo.l0])
   | succ k1 =>
    have H := HA.out;clear HA;simp only [jo.l0] at H;replace H := ip H;obtain ⟨c7b0, H⟩ | ⟨c7b0, H⟩ := H
    ·replace H := ipN H;obtain ⟨c8b0, H⟩ := H;replace H := bnd H;obtain ⟨jh, A9, H⟩ := H;replace H := ib H;obtain ⟨rfl, H⟩ | ⟨rfl, H⟩ := H
     ·have H' := ak H;clear H;obtain ⟨qa7, qa4⟩ := cells1 qc.out;obtain ⟨qj, qz, qy, rfl, yU, jY, jI, Xa, YZ⟩ := el_L10 jC HB zd;go_wp2_with (((with_reducible refine gate_callee (f := 157) rfl ?_);refine glD 20 rfl rfl Try.func157 (jr.calls k1 _ _ (je ql zd) true _ (cv jI HB) jY.out A9.out) (fun nd => ?_)));go_roundg k1;case measure => have := HK1.out; omega
      case rel => exact ⟨(wrap64 (zd + 1)), o2, H', ⟨by have := HK1.out; omega⟩, ⟨bk qc.out⟩, ⟨bs⟩⟩
     ·obtain rfl := Option.some.inj H;obtain ⟨qiz, qhZ⟩ := cells1 qc.out;obtain ⟨qj, qz, qy, rfl, yU, jY, jI, Xa, YZ⟩ := el_L10 jC HB zd;go_wp2_with (((with_reducible refine gate_callee (f := 157) rfl ?_);refine glD 20 rfl rfl Try.func157 (jr.calls k1 _ _ (je ql zd) false _ (cv jI HB) jY.out A9.out) (fun nd => ?_)));go_ret;exact ⟨o1, bs⟩
    ·obtain rfl := Option.some.inj H;obtain ⟨qaB, qax⟩ := cells1 qc.out;go_wp2;go_ret;exact ⟨o1, bs⟩

/-! ### zW: function 80 -/
def zW.f (a0 : Int) : Option (Bool) := if a0 = 1 then (some true) else (if a0 = 2 then (some true) else (if a0 = 5 then (some true) else (if a0 = 6 then (some true) else (if a0 = 12 then (some true) else (if a0 = 16 then (some true) else (if a0 = 49 then (some true) else (some false)))))))
set_option maxHeartbeats 8000000 in
set_option maxRecDepth 100000 in
theorem zW.calls (a0 : Int) (r : Bool) (w : World) (h : zW.f a0 = some r) :
  Calls Try.prog 80 #[.int .i64 a0] w fun e w' => e = .returned (.bool r) ∧ Drawn0 w w' := by
 have H : (if a0 = 1 then (some true) else (if a0 = 2 then (some true) else (if a0 = 5 then (some true) else (if a0 = 6 then (some true) else (if a0 = 12 then (some true) else (if a0 = 16 then (some true) else (if a0 = 49 then (some true) else (some false)))))))) = some r := h;clear h;replace H := ie H;obtain ⟨c2b0, c2b1, H⟩ | ⟨c2b0, c2b1, H⟩ := H
 ·obtain rfl := Option.some.inj H;go_enter Try.func80, Try.ntmps80;go_wp2;go_ret;exact ⟨o2, od⟩
 ·replace H := ie H;obtain ⟨c3b0, c3b1, H⟩ | ⟨c3b0, c3b1, H⟩ := H
  ·obtain rfl := Option.some.inj H;go_enter Try.func80, Try.ntmps80;go_wp2;go_ret;exact ⟨o2, od⟩
  ·replace H := ie H;obtain ⟨c4b0, c4b1, H⟩ | ⟨c4b0, c4b1, H⟩ := H
   ·obtain rfl := Option.some.inj H;go_enter Try.func80, Try.ntmps80;go_wp2;go_ret;exact ⟨o2, od⟩
   ·replace H := ie H;obtain ⟨c5b0, c5b1, H⟩ | ⟨c5b0, c5b1, H⟩ := H
    ·obtain rfl := Option.some.inj H;go_enter Try.func80, Try.ntmps80;go_wp2;go_ret;exact ⟨o2, od⟩
    ·replace H := ie H;obtain ⟨c6b0, c6b1, H⟩ | ⟨c6b0, c6b1, H⟩ := H
     ·obtain rfl := Option.some.inj H;go_enter Try.func80, Try.ntmps80;go_wp2;go_ret;exact ⟨o2, od⟩
     ·replace H := ie H;obtain ⟨c7b0, c7b1, H⟩ | ⟨c7b0, c7b1, H⟩ := H
      ·obtain rfl := Option.some.inj H;go_enter Try.func80, Try.ntmps80;go_wp2;go_ret;exact ⟨o2, od⟩
      ·replace H := ie H;obtain ⟨c8b0, c8b1, H⟩ | ⟨c8b0, c8b1, H⟩ := H
       ·obtain rfl := Option.some.inj H;go_enter Try.func80, Try.ntmps80;go_wp2;go_ret;exact ⟨o2, od⟩
       ·obtain rfl := Option.some.inj H;go_enter Try.func80, Try.ntmps80;go_wp2;go_ret;exact ⟨o2, od⟩

/-! ### yD: function 136 -/

def yD.v (a b : List Int) : Int := if Op.bytesLess (strOfNums a).toList (strOfNums b).toList = true then -1 else if ((strOfNums a).toList == (strOfNums b).toList) = true then 0 else 1
def yD.f (l0 : List Int) (l1 : List Int) : Option Int := some (yD.v l0 l1)
set_option maxHeartbeats 8000000 in
set_option maxRecDepth 100000 in
theorem yD.calls (A0 : Option Addr) (c0 : Nat) (l0 : List Int) (A1 : Option Addr) (c1 : Nat) (l1 : List Int) (r : Int) (w : World) (hr0 : Kd.C (Kd.int .u8) w A0 l0.length l0) (hc0 : l0.length ≤ c0) (hr1 : Kd.C (Kd.int .u8) w A1 l1.length l1) (hc1 : l1.length ≤ c1) (h : yD.f l0 l1 = some r) :
  Calls Try.prog 136 #[.slice A0 l0.length c0, .slice A1 l1.length c1] w fun e w' => e = .returned (.int .i64 r) ∧ Drawn0 w w' := by
 have h0 := Kd.C_string (P := Try.prog) (A := A0) (c := c0) Try.underlying25 Try.underlying5 Try.underlying9 hr0;have h1 := Kd.C_string (P := Try.prog) (A := A1) (c := c1) Try.underlying25 Try.underlying5 Try.underlying9 hr1;have hr : yD.v l0 l1 = r := Option.some.inj h;subst hr;clear h hr0 hr1;unfold yD.v;by_cases c1 : Op.bytesLess (strOfNums l0).toList (strOfNums l1).toList = true
 ·rw [if_pos c1];go_enter Try.func136, Try.ntmps136;go_wp2;go_ret;exact ⟨rfl, Drawn0.refl _⟩
 ·rw [if_neg c1];have c1' : Op.bytesLess (strOfNums l0).toList (strOfNums l1).toList = false := by simpa using c1
  clear c1;by_cases c2 : ((strOfNums l0).toList == (strOfNums l1).toList) = true
  ·rw [if_pos c2];go_enter Try.func136, Try.ntmps136;go_wp2;go_ret;exact ⟨rfl, Drawn0.refl _⟩
  ·rw [if_neg c2];have c2' : ((strOfNums l0).toList == (strOfNums l1).toList) = false := by simpa using c2
   clear c2;go_enter Try.func136, Try.ntmps136;go_wp2;go_ret;exact ⟨rfl, Drawn0.refl _⟩

/-! ### jk: function 98 -/
mutual
def jk.l0 : Nat → Int → List (List Int) → List (List Int) → Option (Int)
 | 0, _, _, _ => none
 | k + 1, x5, qT, QI => if x5 ≤ (qT.length : Int) then (jk.j1 k x5 (decide (x5 ≤ (QI.length : Int))) qT QI) else (jk.j1 k x5 false qT QI)
def jk.j1 : Nat → Int → Bool → List (List Int) → List (List Int) → Option (Int)
 | 0, _, _, _, _ => none
 | k + 1, x5, x18, qT, QI => if x18 = true then (if 0 ≤ (wrap64 ((qT.length : Int) - x5)) then (if (wrap64 ((qT.length : Int) - x5)) < (qT.length : Int) then (if 0 ≤ (wrap64 ((QI.length : Int) - x5)) then (if (wrap64 ((QI.length : Int) - x5)) < (QI.length : Int) then ((yD.f (je qT (wrap64 ((qT.length : Int) - x5))) (je QI (wrap64 ((QI.length : Int) - x5)))).bind fun jA => (if jA = 0 then (jk.l0 k (wrap64 (x5 + 1)) qT QI) else (some jA))) else (none)) else (none)) else (none)) else (none)) else (if (qT.length : Int) = (QI.length : Int) then (some 0) else (if (qT.length : Int) < (QI.length : Int) then (some (-1)) else (some 1)))
end
def jk.f (k : Nat) (ql : List (List Int)) (qu : List (List Int)) : Option (Int) := jk.l0 k 1 ql qu
set_option maxHeartbeats 8000000 in
set_option maxRecDepth 100000 in
theorem jk.calls (k : Nat) (jH : Option Addr) (jG : Nat) (ql : List (List Int)) (Qd : Option Addr) (yY : Nat) (qu : List (List Int)) (r : Int) (w : World) (jJ : Kd.C (Kd.slice 5 (Kd.int .u8)) w jH ql.length ql) (jW : ql.length ≤ jG) (QH : Kd.C (Kd.slice 5 (Kd.int .u8)) w Qd qu.length qu) (Jg : qu.length ≤ yY) (h : jk.f k ql qu = some r) :
  Calls Try.prog 98 #[.agg #[.slice jH ql.length jG], .agg #[.slice Qd qu.length yY]] w fun e w' => e = .returned (.int .i64 r) ∧ Below w.heap.size w w' := by
 have XB := Try.underlying31;have jC := ak jJ;have jT := ak jW;clear jJ jW;have yp := ak QH;have yC := ak Jg;clear QH Jg;have HB := ak (Below.refl w.heap.size w);have H : (jk.l0 k 1 ql qu) = some r := h;clear h;have H' := ak H;clear H;go_enter Try.func98, Try.ntmps98;go_wp2_with (first | ((with_reducible refine gate_dst (N := 2) rfl ?_);(try (refine gate_guard (by rfl) ?_; dsimp only));refine bxd (N := 2) rfl HB ?_;clear HB;intro qt w3 hg HB qc qD hb;have jK := qD;clear hb hg) | ((with_reducible refine gate_dst (N := 3) rfl ?_);(try (refine gate_guard (by rfl) ?_; dsimp only));refine bxe (N := 3) rfl ?_;intro qE hg w4 hbox hb;have qi := ak (hbox);have jB := b3s hg bs;have yZ := jB;replace HB := b2s bs hb;have qx := b4 hg qc;have qw := b5 hg qc;replace qc := b1 qc hb;clear hb hbox hg));repeat (go_quiet (first | ((with_reducible refine gate_dst (N := 2) rfl ?_);(try (refine gate_guard (by rfl) ?_; dsimp only));refine bxd (N := 2) rfl HB ?_;clear HB;intro qt w3 hg HB qc qD hb;have jK := qD;clear hb hg) | ((with_reducible refine gate_dst (N := 3) rfl ?_);(try (refine gate_guard (by rfl) ?_; dsimp only));refine bxe (N := 3) rfl ?_;intro qE hg w4 hbox hb;have qi := ak (hbox);have jB := b3s hg bs;have yZ := jB;replace HB := b2s bs hb;have qx := b4 hg qc;have qw := b5 hg qc;replace qc := b1 qc hb;clear hb hbox hg)); try go_wp2_with (first | ((with_reducible refine gate_dst (N := 2) rfl ?_);(try (refine gate_guard (by rfl) ?_; dsimp only));refine bxd (N := 2) rfl HB ?_;clear HB;intro qt w3 hg HB qc qD hb;have jK := qD;clear hb hg) | ((with_reducible refine gate_dst (N := 3) rfl ?_);(try (refine gate_guard (by rfl) ?_; dsimp only));refine bxe (N := 3) rfl ?_;intro qE hg w4 hbox hb;have qi := ak (hbox);have jB := b3s hg bs;have yZ := jB;replace HB := b2s bs hb;have qx := b4 hg qc;have qw := b5 hg qc;replace qc := b1 qc hb;clear hb hbox hg)))
 go_loopg [5] k (fun kq v5 w' => ∃ (qm : Int), v5 = .int .i64 qm ∧ Aside0 (jk.l0 kq qm ql qu = some r) ∧ Aside0 (kq ≤ k) ∧ Aside0 (w'.heap[qt]? = some (.cells #[(.slice jH ql.length jG)] 31 (0, 0))) ∧ Aside0 (w'.heap[qE]? = some (.cells #[(.slice Qd qu.length yY)] 31 (0, 0))) ∧ Aside0 (Below w.heap.size w w'))
 case atStart => exact ⟨(1), o2, H', ⟨Nat.le_refl _⟩, ⟨bk qc.out⟩, ⟨bk qi.out⟩, ⟨bs⟩⟩
 case round =>
  clear H';obtain ⟨qm, rfl, HA, HK1, qc, qi, HB⟩ := hrel;cases gk with
  | zero => exact absurd HA.out (by simp [jk.l0])
  | succ k1 =>
   have H := HA.out;clear HA;simp only [jk.l0] at H;have HC5 := ak H;clear H;go_upto_region 2 with (fail)
   repeat (go_quiet (fail); go_upto_region 2 with (fail))
   go_cut [18] (fun v18 wc => ∃ (kq : Nat) (qqs : Bool), v18 = .bool qqs ∧ Aside0 (jk.j1 kq qm qqs ql qu = some r) ∧ Aside0 (kq ≤ k1) ∧ Aside0 (wc.heap[qt]? = some (.cells #[(.slice jH ql.length jG)] 31 (0, 0))) ∧ Aside0 (wc.heap[qE]? = some (.cells #[(.slice Qd qu.length yY)] 31 (0, 0))) ∧ Aside0 (Below w.heap.size w wc))
   case first =>
    have H := HC5.out;clear HC5;replace H := ip H;obtain ⟨c6b0, H⟩ | ⟨c6b0, H⟩ := H
    ·(first | rw [c6b0] | (simp only [i64_w, i32_w]; rw [c6b0]) | skip)
     have H' := ak H;clear H;have qjj := qx.out;have qji := qw.out;obtain ⟨qdl, qdi⟩ := cells1 qc.out;obtain ⟨qbJ, qbI⟩ := cells1 qi.out;go_wp2;repeat (go_quiet (fail); try go_wp2)
     go_meet
     case rel => exact ⟨_, (decide (qm ≤ (qu.length : Int))), o2, H', ⟨by have := HK1.out; first | omega | exact Nat.le_refl _⟩, ⟨bk qc.out⟩, ⟨bk qi.out⟩, ⟨bs⟩⟩
    ·(first | rw [c6b0] | (simp only [i64_w, i32_w]; rw [c6b0]) | skip)
     have H' := ak H;clear H;have qxy := qx.out;have qxp := qw.out;obtain ⟨qa7, qa4⟩ := cells1 qc.out;go_wp2;repeat (go_quiet (fail); try go_wp2)
     go_meet
     case rel => exact ⟨_, (false), o2, H', ⟨by have := HK1.out; first | omega | exact Nat.le_refl _⟩, ⟨bk qc.out⟩, ⟨bk qi.out⟩, ⟨bs⟩⟩
   case rest =>
    clear HC5;obtain ⟨kq, qqs, rfl, HA, HJ4, qc, qi, HB⟩ := hcut;cases kq with
    | zero => exact absurd HA.out (by simp [jk.j1])
    | succ kj4 =>
     have H := HA.out;clear HA;simp only [jk.j1] at H;replace H := ib H;obtain ⟨rfl, H⟩ | ⟨rfl, H⟩ := H
     ·obtain ⟨qgA, qkZ⟩ : ∃ j_ : Int, (wrap64 ((ql.length : Int) - qm)) = j_ := ⟨_, rfl⟩;(first | rw [qkZ] at H | simp only [qkZ] at H)
      have hji13w : (IntKind.i64.wrap ((ql.length : Int) - qm)) = qgA := (i64_w _).trans qkZ;replace H := ipN H;obtain ⟨c14b0, H⟩ := H;replace H := ipN H;obtain ⟨c15b0, H⟩ := H;obtain ⟨zu, qbK⟩ : ∃ j_ : Int, (wrap64 ((qu.length : Int) - qm)) = j_ := ⟨_, rfl⟩;(first | rw [qbK] at H | simp only [qbK] at H)
      have hji16w : (IntKind.i64.wrap ((qu.length : Int) - qm)) = zu := (i64_w _).trans qbK;replace H := ipN H;obtain ⟨c17b0, H⟩ := H;replace H := ipN H;obtain ⟨c18b0, H⟩ := H;replace H := bnd H;obtain ⟨jA, A19, H⟩ := H;replace H := ie H;obtain ⟨c20b0, c20b1, H⟩ | ⟨c20b0, c20b1, H⟩ := H
      ·have H' := ak H;clear H;have qxv := qx.out;have qxm := qw.out;obtain ⟨qay, qau⟩ := cells1 qc.out;obtain ⟨qqP, XE, XD, rfl, Zd, JJ, Qc, qcn, qcm⟩ := el_L10 jC HB (qgA);obtain ⟨qcW, qcN⟩ := cells1 qi.out;obtain ⟨JA, QG, QF, rfl, qA, zx, jz, yr, yq⟩ := el_L10 yp HB (zu);go_wp2_with ((go_at_call 136;(with_reducible refine (yD.calls _ _ (je ql (qgA)) _ _ (je qu (zu)) jA _ (cv Qc HB) JJ.out (cv jz HB) zx.out A19.out).mono ?_);rintro e w' ⟨rfl, ⟨nd, rfl⟩⟩;(try first | exact ⟨rfl, _, World.drewN_drewN _ _ _⟩ | exact ⟨rfl, _, Eq.trans (World.drewN_drewN _ _ _) (congrArg (World.drewN _) (Nat.add_assoc _ _ _))⟩)));repeat (go_quiet ((go_at_call 136;(with_reducible refine (yD.calls _ _ (je ql (qgA)) _ _ (je qu (zu)) jA _ (cv Qc HB) JJ.out (cv jz HB) zx.out A19.out).mono ?_);rintro e w' ⟨rfl, ⟨nd, rfl⟩⟩;(try first | exact ⟨rfl, _, World.drewN_drewN _ _ _⟩ | exact ⟨rfl, _, Eq.trans (World.drewN_drewN _ _ _) (congrArg (World.drewN _) (Nat.add_assoc _ _ _))⟩))); try go_wp2_with ((go_at_call 136;(with_reducible refine (yD.calls _ _ (je ql (qgA)) _ _ (je qu (zu)) jA _ (cv Qc HB) JJ.out (cv jz HB) zx.out A19.out).mono ?_);rintro e w' ⟨rfl, ⟨nd, rfl⟩⟩;(try first | exact ⟨rfl, _, World.drewN_drewN _ _ _⟩ | exact ⟨rfl, _, Eq.trans (World.drewN_drewN _ _ _) (congrArg (World.drewN _) (Nat.add_assoc _ _ _))⟩))))
       go_roundg kj4;case measure => have := HK1.out; have := HJ4.out; omega
       case rel => exact ⟨(wrap64 (qm + 1)), o2, H', ⟨by have := HK1.out; have := HJ4.out; omega⟩, ⟨bk qc.out⟩, ⟨bk qi.out⟩, ⟨bs⟩⟩
      ·obtain rfl := Option.some.inj H;have qxt := qx.out;have qxk := qw.out;obtain ⟨qii, qhI⟩ := cells1 qc.out;obtain ⟨qqP, XE, XD, rfl, Zd, JJ, Qc, qcn, qcm⟩ := el_L10 jC HB (qgA);obtain ⟨qih, qhH⟩ := cells1 qi.out;obtain ⟨JA, QG, QF, rfl, qA, zx, jz, yr, yq⟩ := el_L10 yp HB (zu);go_wp2_with ((go_at_call 136;(with_reducible refine (yD.calls _ _ (je ql (qgA)) _ _ (je qu (zu)) jA _ (cv Qc HB) JJ.out (cv jz HB) zx.out A19.out).mono ?_);rintro e w' ⟨rfl, ⟨nd, rfl⟩⟩;(try first | exact ⟨rfl, _, World.drewN_drewN _ _ _⟩ | exact ⟨rfl, _, Eq.trans (World.drewN_drewN _ _ _) (congrArg (World.drewN _) (Nat.add_assoc _ _ _))⟩)));repeat (go_quiet ((go_at_call 136;(with_reducible refine (yD.calls _ _ (je ql (qgA)) _ _ (je qu (zu)) jA _ (cv Qc HB) JJ.out (cv jz HB) zx.out A19.out).mono ?_);rintro e w' ⟨rfl, ⟨nd, rfl⟩⟩;(try first | exact ⟨rfl, _, World.drewN_drewN _ _ _⟩ | exact ⟨rfl, _, Eq.trans (World.drewN_drewN _ _ _) (congrArg (World.drewN _) (Nat.add_assoc _ _ _))⟩))); try go_wp2_with ((go_at_call 136;(with_reducible refine (yD.calls _ _ (je ql (qgA)) _ _ (je qu (zu)) jA _ (cv Qc HB) JJ.out (cv jz HB) zx.out A19.out).mono ?_);rintro e w' ⟨rfl, ⟨nd, rfl⟩⟩;(try first | exact ⟨rfl, _, World.drewN_drewN _ _ _⟩ | exact ⟨rfl, _, Eq.trans (World.drewN_drewN _ _ _) (congrArg (World.drewN _) (Nat.add_assoc _ _ _))⟩))))
       go_ret;exact ⟨by first | rfl | (simp [errW_none, errW_some] <;> rfl) | (simp only [← qkZ, ← qbK]; first | rfl | (simp [errW_none, errW_some] <;> rfl)) | (simp [*, errW_none, errW_some] <;> rfl), bs⟩
     ·replace H := ie H;obtain ⟨c27b0, c27b1, H⟩ | ⟨c27b0, c27b1, H⟩ := H
      ·have c27b2 : (ql.length == qu.length) = true := lnT c27b0;obtain rfl := Option.some.inj H;have qC8 := qx.out;have qCF := qw.out;obtain ⟨qdY, qdK⟩ := cells1 qc.out;obtain ⟨qh8, qhy⟩ := cells1 qi.out;go_wp2;repeat (go_quiet (fail); try go_wp2)
       go_ret;exact ⟨o1, bs⟩
      ·have c27b2 : (ql.length == qu.length) = false := lnF c27b0;by_cases c31 : (ql.length : Int) < (qu.length : Int)
       ·rw [if_pos c31] at H;have c31b0 : decide ((ql.length : Int) < (qu.length : Int)) = true := decide_eq_true c31;have c31b1 : decide (ql.length < qu.length) = true := decide_eq_true (Int.ofNat_lt.mp c31);clear c31;obtain rfl := Option.some.inj H;have qC6 := qx.out;have qCD := qw.out;obtain ⟨qpU, qnZ⟩ := cells1 qc.out;obtain ⟨qh7, qhx⟩ := cells1 qi.out;go_wp2;repeat (go_quiet (fail); try go_wp2)
        go_ret;exact ⟨o1, bs⟩
       ·rw [if_neg c31] at H;have c31b0 : decide ((ql.length : Int) < (qu.length : Int)) = false := decide_eq_false c31;have c31b1 : decide (ql.length < qu.length) = false := decide_eq_false (fun h => c31 (Int.ofNat_lt.mpr h));clear c31;obtain rfl := Option.some.inj H;have qC5 := qx.out;have qCC := qw.out;obtain ⟨qkk, qjy⟩ := cells1 qc.out;obtain ⟨qvj, qtu⟩ := cells1 qi.out;go_wp2;repeat (go_quiet (fail); try go_wp2)
        go_ret;exact ⟨o1, bs⟩

/-! ### YV: function 115 -/
def YV.f (k : Nat) (ql : List (List Int)) (qo : Int) (qV : Int) (yX : List (S33)) (ZH : Int) (ZU : Int) (Ya : Int) (qu : List (List Int)) (zc : Int) (zQ : Int) (zb : List (S33)) (JB : Int) (JF : Int) (JH : Int) : Option (Bool) := (jk.f k ql qu).bind fun jh => (if jh < 0 then (some true) else (if jh = 0 then (some (decide (qo < zc))) else (some false)))
set_option maxHeartbeats 8000000 in
set_option maxRecDepth 100000 in
theorem YV.calls (k : Nat) (jH : Option Addr) (jG : Nat) (ql : List (List Int)) (qo : Int) (qV : Int) (qbP : Option Addr) (qbO : Nat) (yX : List (S33)) (ZH : Int) (ZU : Int) (Ya : Int) (Qd : Option Addr) (yY : Nat) (qu : List (List Int)) (zc : Int) (zQ : Int) (qcA : Option Addr) (qbH : Nat) (zb : List (S33)) (JB : Int) (JF : Int) (JH : Int) (r : Bool) (w : World) (jJ : Kd.C (Kd.slice 5 (Kd.int .u8)) w jH ql.length ql) (jW : ql.length ≤ jG) (qbb : Kd.C k33 w qbP yX.length yX) (qbc : yX.length ≤ qbO) (QH : Kd.C (Kd.slice 5 (Kd.int .u8)) w Qd qu.length qu) (Jg : qu.length ≤ yY) (qcp : Kd.C k33 w qcA zb.length zb) (qcq : zb.length ≤ qbH) (h : YV.f k ql qo qV yX ZH ZU Ya qu zc zQ zb JB JF JH = some r) :
  Calls Try.prog 115 #[.agg #[.slice jH ql.length jG, .int .i64 qo, .int .i64 qV, .slice qbP yX.length qbO, .int .i64 ZH, .int .i64 ZU, .int .i64 Ya], .agg #[.slice Qd qu.length yY, .int .i64 zc, .int .i64 zQ, .slice qcA zb.length qbH, .int .i64 JB, .int .i64 JF, .int .i64 JH]] w fun e w' => e = .returned (.bool r) ∧ Below w.heap.size w w' := by
 have qet := Try.underlying141;have XB := Try.underlying31;have jC := ak jJ;have jT := ak jW;clear jJ jW;have qbL := ak qbb;have qbM := ak qbc;clear qbb qbc;have yp := ak QH;have yC := ak Jg;clear QH Jg;have qbd := ak qcp;have qcz := ak qcq;clear qcp qcq;have HB := ak (Below.refl w.heap.size w);have H : ((jk.f k ql qu).bind fun jh => (if jh < 0 then (some true) else (if jh = 0 then (some (decide (qo < zc))) else (some false)))) = some r := h;clear h;replace H := bnd H;obtain ⟨jh, A3, H⟩ := H;replace H := ip H;obtain ⟨c4b0, H⟩ | ⟨c4b0, H⟩ := H
 ·obtain rfl := Option.some.inj H;go_enter Try.func115, Try.ntmps115;go_wp2_with (first | ((with_reducible refine gate_dst (N := 2) rfl ?_);refine bxd (N := 2) rfl HB ?_;clear HB;intro qt w5 hg HB qc qD hb;have jK := qD;clear hb hg) | ((with_reducible refine gate_dst (N := 3) rfl ?_);refine bxe (N := 3) rfl ?_;intro qE hg w6 hbox hb;have qi := ak (hbox);have jB := b3s hg bs;have yZ := jB;replace HB := b2s bs hb;have qx := b4 hg qc;have qw := b5 hg qc;replace qc := b1 qc hb;clear hb hbox hg;have qjj := qx.out;have qji := qw.out;obtain ⟨qdl, qlL, qlK, qq7, qq6, qq5, qq4, qdi, qlu, qlt, qq0, qqZ, qqY, qqX⟩ := cells7 qc.out;obtain ⟨qbJ, qdk, qdj, qg5, qg4, qg3, qg2, qbI, qdh, qdg, qgY, qgX, qgW, qgV⟩ := cells7 qi.out) | ((with_reducible refine gate_callee (f := 98) rfl ?_);refine glB 10 rfl rfl Try.func98 (jk.calls k _ _ ql _ _ qu jh _ (cv jC HB) jT.out (cv yp HB) yC.out A3.out) (fun w10 hb => ?_);replace qc := b1 qc hb;replace qi := b1 qi hb;replace HB := b2s bs hb;(try clear hb)));go_ret;exact ⟨o1, bs⟩
 ·replace H := ie H;obtain ⟨c11b0, c11b1, H⟩ | ⟨c11b0, c11b1, H⟩ := H
  ·obtain rfl := Option.some.inj H;go_enter Try.func115, Try.ntmps115;go_wp2_with (first | ((with_reducible refine gate_dst (N := 2) rfl ?_);refine bxd (N := 2) rfl HB ?_;clear HB;intro qt w12 hg HB qc qD hb;have jK := qD;clear hb hg) | ((with_reducible refine gate_dst (N := 3) rfl ?_);refine bxe (N := 3) rfl ?_;intro qE hg w13 hbox hb;have qi := ak (hbox);have jB := b3s hg bs;have yZ := jB;replace HB := b2s bs hb;have qx := b4 hg qc;have qw := b5 hg qc;replace qc := b1 qc hb;clear hb hbox hg;have qrR := qx.out;have qrP := qw.out;obtain ⟨qiy, qix, qiw, qiv, qiu, qit, qis, qhY, qhX, qhW, qhV, qhU, qhT, qhS⟩ := cells7 qc.out;obtain ⟨XJ, qaA, qaz, qc4, qc3, qc2, qc1, XI, qaw, qav, qcV, qcU, qcT, qcS⟩ := cells7 qi.out) | ((with_reducible refine gate_callee (f := 98) rfl ?_);refine glB 10 rfl rfl Try.func98 (jk.calls k _ _ ql _ _ qu jh _ (cv jC HB) jT.out (cv yp HB) yC.out A3.out) (fun w17 hb => ?_);replace qc := b1 qc hb;replace qi := b1 qi hb;replace HB := b2s bs hb;(try clear hb);obtain ⟨qb7, qb6, qb5, qc0, qcZ, qcY, qcX, qbW, qbV, qbU, qcR, qcQ, qcP, qcO⟩ := cells7 qc.out;obtain ⟨qf7, qip, qio, qin, qim, qil, qik, qfF, qhP, qhO, qhN, qhM, qhL, qhK⟩ := cells7 qi.out));go_ret;exact ⟨o1, bs⟩
  ·obtain rfl := Option.some.inj H;go_enter Try.func115, Try.ntmps115;go_wp2_with (first | ((with_reducible refine gate_dst (N := 2) rfl ?_);refine bxd (N := 2) rfl HB ?_;clear HB;intro qt w20 hg HB qc qD hb;have jK := qD;clear hb hg) | ((with_reducible refine gate_dst (N := 3) rfl ?_);refine bxe (N := 3) rfl ?_;intro qE hg w21 hbox hb;have qi := ak (hbox);have jB := b3s hg bs;have yZ := jB;replace HB := b2s bs hb;have qx := b4 hg qc;have qw := b5 hg qc;replace qc := b1 qc hb;clear hb hbox hg;have qxu := qx.out;have qxl := qw.out;obtain ⟨qcW, qf0, qfZ, qkK, qkJ, qkI, qkH, qcN, qfy, qfx, qjY, qjX, qjW, qjV⟩ := cells7 qc.out;obtain ⟨qij, qkG, qkF, qkE, qkD, qkC, qkB, qhJ, qjU, qjT, qjS, qjR, qjQ, qjP⟩ := cells7 qi.out) | ((with_reducible refine gate_callee (f := 98) rfl ?_);refine glB 10 rfl rfl Try.func98 (jk.calls k _ _ ql _ _ qu jh _ (cv jC HB) jT.out (cv yp HB) yC.out A3.out) (fun w25 hb => ?_);replace qc := b1 qc hb;replace qi := b1 qi hb;replace HB := b2s bs hb;(try clear hb)));go_ret;exact ⟨o1, bs⟩

/-! ### Ze: function 159 -/
def Ze.f (a0 : Int) : Option (Bool) := if a0 = 2 then (some true) else (if a0 = 5 then (some true) else (if a0 = 6 then (some true) else (some (a0 == 12))))
set_option maxHeartbeats 8000000 in
set_option maxRecDepth 100000 in
theorem Ze.calls (a0 : Int) (r : Bool) (w : World) (h : Ze.f a0 = some r) :
  Calls Try.prog 159 #[.int .i64 a0] w fun e w' => e = .returned (.bool r) ∧ Drawn0 w w' := by
 have H : (if a0 = 2 then (some true) else (if a0 = 5 then (some true) else (if a0 = 6 then (some true) else (some (a0 == 12))))) = some r := h;clear h;replace H := ie H;obtain ⟨c2b0, c2b1, H⟩ | ⟨c2b0, c2b1, H⟩ := H
 ·obtain rfl := Option.some.inj H;go_enter Try.func159, Try.ntmps159;go_wp2;go_ret;exact ⟨o2, od⟩
 ·replace H := ie H;obtain ⟨c3b0, c3b1, H⟩ | ⟨c3b0, c3b1, H⟩ := H
  ·obtain rfl := Option.some.inj H;go_enter Try.func159, Try.ntmps159;go_wp2;go_ret;exact ⟨o2, od⟩
  ·replace H := ie H;obtain ⟨c4b0, c4b1, H⟩ | ⟨c4b0, c4b1, H⟩ := H
   ·obtain rfl := Option.some.inj H;go_enter Try.func159, Try.ntmps159;go_wp2;go_ret;exact ⟨o2, od⟩
   ·obtain rfl := Option.some.inj H;go_enter Try.func159, Try.ntmps159;go_wp2;go_ret;exact ⟨o2, od⟩

/-! ### YU: function 205 -/
def YU.f (a0 : Int) : Option (Bool) := if a0 = 16 then (some true) else (some (a0 == 49))
set_option maxHeartbeats 8000000 in
set_option maxRecDepth 100000 in
theorem YU.calls (a0 : Int) (r : Bool) (w : World) (h : YU.f a0 = some r) :
  Calls Try.prog 205 #[.int .i64 a0] w fun e w' => e = .returned (.bool r) ∧ Drawn0 w w' := by
 have H : (if a0 = 16 then (some true) else (some (a0 == 49))) = some r := h;clear h;replace H := ie H;obtain ⟨c2b0, c2b1, H⟩ | ⟨c2b0, c2b1, H⟩ := H
 ·obtain rfl := Option.some.inj H;go_enter Try.func205, Try.ntmps205;go_wp2;go_ret;exact ⟨o2, od⟩
 ·obtain rfl := Option.some.inj H;go_enter Try.func205, Try.ntmps205;go_wp2;go_ret;exact ⟨o2, od⟩

/-! ### jy: function 134 -/
mutual
def jy.j0 : Nat → List (List Int) → Int → Int → Int → List (List Int) → List Int → List Int → Option (Bool)
 | 0, _, _, _, _, _, _, _ => none
 | k + 1, qT, jp, qq, Jf, Qj, Qi, zZ => (Ze.f jp).bind fun ji => (if ji = true then ((jo.f k Qj).bind fun jh => (if jh = true then (jy.j1 k qT jp qq Jf Qj Qi zZ) else (some false))) else (if (Qj.length : Int) > 0 then (some false) else (jy.j1 k qT jp qq Jf Qj Qi zZ)))
def jy.j1 : Nat → List (List Int) → Int → Int → Int → List (List Int) → List Int → List Int → Option (Bool)
 | 0, _, _, _, _, _, _, _ => none
 | k + 1, qT, jp, qq, Jf, Qj, Qi, zZ => (YU.f jp).bind fun qM => (if qM = true then (if (Qi.length : Int) > 40 then (some false) else (jy.j2 k qT jp qq Jf Qj Qi zZ)) else (if (Qi.length : Int) > 0 then (some false) else (jy.j2 k qT jp qq Jf Qj Qi zZ)))
def jy.j2 : Nat → List (List Int) → Int → Int → Int → List (List Int) → List Int → List Int → Option (Bool)
 | 0, _, _, _, _, _, _, _ => none
 | k + 1, qT, jp, qq, Jf, Qj, Qi, zZ => if jp = 6 then (if (zZ.length : Int) = 2 then (if 0 < (zZ.length : Int) then (if (rd zZ 0) < 0 then (some false) else (if (rd zZ 0) ≥ 4294967296 then (some false) else (if 1 < (zZ.length : Int) then (if (rd zZ 1) ≥ 0 then (some (decide ((rd zZ 1) ≤ 100000))) else (some false)) else (none)))) else (none)) else (some false)) else (some ((zZ.length : Int) == 0))
end
def jy.f (k : Nat) (ql : List (List Int)) (qo : Int) (qV : Int) (jm : Int) (qU : List (List Int)) (qN : List Int) (qF : List Int) : Option (Bool) := if qo = 1 then (if jm < 0 then (some false) else (if jm ≥ 4294967296 then (some false) else (jy.j0 k ql qo qV jm qU qN qF))) else (if jm = 0 then (jy.j0 k ql qo qV jm qU qN qF) else (some false))
set_option maxHeartbeats 8000000 in
set_option maxRecDepth 100000 in
theorem jy.calls (k : Nat) (jH : Option Addr) (jG : Nat) (ql : List (List Int)) (qo : Int) (qV : Int) (jm : Int) (QC : Option Addr) (QB : Nat) (qU : List (List Int)) (Jb : Option Addr) (QX : Nat) (qN : List Int) (Je : Option Addr) (QW : Nat) (qF : List Int) (r : Bool) (w : World) (jJ : Kd.C (Kd.slice 5 (Kd.int .u8)) w jH ql.length ql) (jW : ql.length ≤ jG) (JQ : Kd.C (Kd.slice 5 (Kd.int .u8)) w QC qU.length qU) (JT : qU.length ≤ QB) (JP : Kd.C (Kd.int .u8) w Jb qN.length qN) (JS : qN.length ≤ QX) (JO : Kd.C (Kd.int .i64) w Je qF.length qF) (JR : qF.length ≤ QW) (h : jy.f k ql qo qV jm qU qN qF = some r) :
  Calls Try.prog 134 #[.agg #[.slice jH ql.length jG, .int .i64 qo, .int .i64 qV, .int .i64 jm, .slice QC qU.length QB, .slice Jb qN.length QX, .slice Je qF.length QW]] w fun e w' => e = .returned (.bool r) ∧ Below w.heap.size w w' := by
 have qdr := Try.underlying33;have XB := Try.underlying31;have jC := ak jJ;have jT := ak jW;clear jJ jW;have Zs := ak JQ;have Zt := ak JT;clear JQ JT;have Yl := ak JP;have Xc := ak JS;clear JP JS;have Jl := ak JO;have XT := ak JR;clear JO JR;have HB := ak (Below.refl w.heap.size w);have H : (if qo = 1 then (if jm < 0 then (some false) else (if jm ≥ 4294967296 then (some false) else (jy.j0 k ql qo qV jm qU qN qF))) else (if jm = 0 then (jy.j0 k ql qo qV jm qU qN qF) else (some false))) = some r := h;clear h;have HC2 := ak H;clear H;go_enter Try.func134, Try.ntmps134;go_upto_if 5 with (((with_reducible refine gate_dst (N := 1) rfl ?_);refine bxd (N := 1) rfl HB ?_;clear HB;intro qt w3 hg HB qc qD hb;have jK := qD;clear hb hg;obtain ⟨qiT, qlT, qlS, qlR, qlQ, qlP, qlO, qiS, qlC, qlB, qlA, qlz, qly, qlx⟩ := cells7 qc.out))
 (try simp only [Act.put, List.setIfInBounds_toArray, List.set_cons_zero, List.set_cons_succ])
 go_cut [] (fun wc => ∃ (kq : Nat), Aside0 (jy.j0 kq ql qo qV jm qU qN qF = some r) ∧ Aside0 (kq ≤ k) ∧ Aside0 (wc.heap[qt]? = some (.cells #[(.slice jH ql.length jG), .int .i64 qo, .int .i64 qV, .int .i64 jm, (.slice QC qU.length QB), (.slice Jb qN.length QX), (.slice Je qF.length QW)] 33 (0, 0))) ∧ Aside0 (Below w.heap.size w wc))
 case first =>
  have H := HC2.out;clear HC2;replace H := ie H;obtain ⟨c5b0, c5b1, H⟩ | ⟨c5b0, c5b1, H⟩ := H
  ·(first | rw [c5b0] | (simp only [i64_w, i32_w]; rw [c5b0]) | skip)
   replace H := ip H;obtain ⟨c6b0, H⟩ | ⟨c6b0, H⟩ := H
   ·obtain rfl := Option.some.inj H;obtain ⟨qq8, qwu, qwt, qB7, qB6, qB5, qB4, qq1, qwe, qwd, qB3, qB2, qB1, qB0⟩ := cells7 qc.out;go_wp2;go_ret;exact ⟨o1, bs⟩
   ·replace H := ih H;obtain ⟨c8b0, H⟩ | ⟨c8b0, H⟩ := H
    ·obtain rfl := Option.some.inj H;obtain ⟨qbJ, qdk, qdj, qg5, qg4, qg3, qg2, qbI, qdh, qdg, qgY, qgX, qgW, qgV⟩ := cells7 qc.out;go_wp2;go_ret;exact ⟨o1, bs⟩
    ·have H' := ak H;clear H;obtain ⟨qkR, qkQ, qkP, qvE, qvD, qvC, qvB, qj5, qj4, qj3, qtP, qtO, qtN, qtM⟩ := cells7 qc.out;go_wp2;go_meet
     case rel => exact ⟨_, H', ⟨o3⟩, ⟨bk qc.out⟩, ⟨bs⟩⟩
  ·(first | rw [c5b0] | (simp only [i64_w, i32_w]; rw [c5b0]) | skip)
   replace H := ie H;obtain ⟨c11b0, c11b1, H⟩ | ⟨c11b0, c11b1, H⟩ := H
   ·have H' := ak H;clear H;obtain ⟨qiz, qqf, qqe, qvA, qvz, qvy, qvx, qhZ, qok, qoj, qtL, qtK, qtJ, qtI⟩ := cells7 qc.out;go_wp2;go_meet
    case rel => exact ⟨_, H', ⟨o3⟩, ⟨bk qc.out⟩, ⟨bs⟩⟩
   ·obtain rfl := Option.some.inj H;obtain ⟨qaB, qb9, qb8, qd4, qd3, qd2, qd1, qax, qbY, qbX, qdQ, qdP, qdO, qdN⟩ := cells7 qc.out;go_wp2;go_ret;exact ⟨o1, bs⟩
 case rest =>
  clear HC2;(try clear qiT)
  (try clear qlT)
  (try clear qlS)
  (try clear qlR)
  (try clear qlQ)
  (try clear qlP)
  (try clear qlO)
  (try clear qiS)
  (try clear qlC)
  (try clear qlB)
  (try clear qlA)
  (try clear qlz)
  (try clear qly)
  (try clear qlx)
  obtain ⟨kq, HA, HJ1, qc, HB⟩ := hcut;cases kq with
  | zero => exact absurd HA.out (by simp [jy.j0])
  | succ kj1 =>
   have H := HA.out;clear HA;simp only [jy.j0] at H;replace H := bnd H;obtain ⟨ji, A14, H⟩ := H;have qrG := ak H;clear H;obtain ⟨XJ, qaA, qaz, qc4, qc3, qc2, qc1, XI, qaw, qav, qcV, qcU, qcT, qcS⟩ := cells7 qc.out;go_upto_if 19 with (((with_reducible refine gate_callee (f := 159) rfl ?_);refine glD 19 rfl rfl Try.func159 (Ze.calls qo ji _ A14.out) (fun nd => ?_)))
   (try simp only [Act.put, List.setIfInBounds_toArray, List.set_cons_zero, List.set_cons_succ])
   go_cut [] (fun wc => ∃ (kq : Nat), Aside0 (jy.j1 kq ql qo qV jm qU qN qF = some r) ∧ Aside0 (kq ≤ kj1) ∧ Aside0 (wc.heap[qt]? = some (.cells #[(.slice jH ql.length jG), .int .i64 qo, .int .i64 qV, .int .i64 jm, (.slice QC qU.length QB), (.slice Jb qN.length QX), (.slice Je qF.length QW)] 33 (0, 0))) ∧ Aside0 (Below w.heap.size w wc))
   case first =>
    have H := qrG.out;clear qrG;replace H := ib H;obtain ⟨rfl, H⟩ | ⟨rfl, H⟩ := H
    ·replace H := bnd H;obtain ⟨jh, A18, H⟩ := H;replace H := ib H;obtain ⟨rfl, H⟩ | ⟨rfl, H⟩ := H
     ·have H' := ak H;clear H;obtain ⟨qdZ, qf6, qf5, qf4, qf3, qf2, qf1, qdL, qfE, qfD, qfC, qfB, qfA, qfz⟩ := cells7 qc.out;go_wp2_with (((with_reducible refine gate_callee (f := 76) rfl ?_);refine glB 22 rfl rfl Try.func76 (jo.calls kj1 _ _ qU true _ (cv Zs HB) Zt.out A18.out) (fun w21 hb => ?_);replace qc := b1 qc hb;replace HB := b2s bs hb;(try clear hb)));go_meet
      case rel => exact ⟨_, H', ⟨by have := HJ1.out; first | omega | exact Nat.le_refl _⟩, ⟨bk qc.out⟩, ⟨bs⟩⟩
     ·obtain rfl := Option.some.inj H;obtain ⟨qay, qa6, qa5, qb4, qb3, qb2, qb1, qau, qa3, qa2, qbT, qbS, qbR, qbQ⟩ := cells7 qc.out;go_wp2_with (((with_reducible refine gate_callee (f := 76) rfl ?_);refine glB 22 rfl rfl Try.func76 (jo.calls kj1 _ _ qU false _ (cv Zs HB) Zt.out A18.out) (fun w23 hb => ?_);replace qc := b1 qc hb;replace HB := b2s bs hb;(try clear hb)));go_ret;exact ⟨o1, bs⟩
    ·replace H := ig H;obtain ⟨c24b0, H⟩ | ⟨c24b0, H⟩ := H
     ·have c24b1 : decide (0 < qU.length) = true := decide_eq_true (by have := of_decide_eq_true c24b0; omega);(first | rw [c24b0] | (simp only [i64_w, i32_w]; rw [c24b0]) | skip)
      obtain rfl := Option.some.inj H;obtain ⟨qii, qkA, qkz, qky, qkx, qkw, qkv, qhI, qjO, qjN, qjM, qjL, qjK, qjJ⟩ := cells7 qc.out;go_wp2;go_ret;exact ⟨o1, bs⟩
     ·have c24b1 : decide (0 < qU.length) = false := decide_eq_false (by have := of_decide_eq_false c24b0; omega);(first | rw [c24b0] | (simp only [i64_w, i32_w]; rw [c24b0]) | skip)
      have H' := ak H;clear H;obtain ⟨qih, qku, qkt, qp2, qp1, qp0, qpZ, qhH, qjI, qjH, qn7, qn6, qn5, qn4⟩ := cells7 qc.out;go_wp2;go_meet
      case rel => exact ⟨_, H', ⟨by have := HJ1.out; first | omega | exact Nat.le_refl _⟩, ⟨bk qc.out⟩, ⟨bs⟩⟩
   case rest =>
    clear qrG;(try clear XJ)
    (try clear qaA)
    (try clear qaz)
    (try clear qc4)
    (try clear qc3)
    (try clear qc2)
    (try clear qc1)
    (try clear qiT)
    (try clear qlT)
    (try clear qlS)
    (try clear qlR)
    (try clear qlQ)
    (try clear qlP)
    (try clear qlO)
    (try clear XI)
    (try clear qaw)
    (try clear qav)
    (try clear qcV)
    (try clear qcU)
    (try clear qcT)
    (try clear qcS)
    (try clear qiS)
    (try clear qlC)
    (try clear qlB)
    (try clear qlA)
    (try clear qlz)
    (try clear qly)
    (try clear qlx)
    obtain ⟨kq, HA, qwZ, qc, HB⟩ := hcut;cases kq with
    | zero => exact absurd HA.out (by simp [jy.j1])
    | succ qx6 =>
     have H := HA.out;clear HA;simp only [jy.j1] at H;replace H := bnd H;obtain ⟨qM, A27, H⟩ := H;have qrD := ak H;clear H;obtain ⟨qdY, qfS, qfR, qfQ, qfP, qfO, qfN, qdK, qfq, qfp, qfo, qfn, qfm, qfl⟩ := cells7 qc.out;go_upto_if 31 with (((with_reducible refine gate_callee (f := 205) rfl ?_);refine glD 31 rfl rfl Try.func205 (YU.calls qo qM _ A27.out) (fun nd => ?_)))
     (try simp only [Act.put, List.setIfInBounds_toArray, List.set_cons_zero, List.set_cons_succ])
     go_cut [] (fun wc => ∃ (kq : Nat), Aside0 (jy.j2 kq ql qo qV jm qU qN qF = some r) ∧ Aside0 (kq ≤ qx6) ∧ Aside0 (wc.heap[qt]? = some (.cells #[(.slice jH ql.length jG), .int .i64 qo, .int .i64 qV, .int .i64 jm, (.slice QC qU.length QB), (.slice Jb qN.length QX), (.slice Je qF.length QW)] 33 (0, 0))) ∧ Aside0 (Below w.heap.size w wc))
     case first =>
      have H := qrD.out;clear qrD;replace H := ib H;obtain ⟨rfl, H⟩ | ⟨rfl, H⟩ := H
      ·replace H := ig H;obtain ⟨c31b0, H⟩ | ⟨c31b0, H⟩ := H
       ·have c31b1 : decide (40 < qN.length) = true := decide_eq_true (by have := of_decide_eq_true c31b0; omega);(first | rw [c31b0] | (simp only [i64_w, i32_w]; rw [c31b0]) | skip)
        obtain rfl := Option.some.inj H;obtain ⟨qdX, qdW, qdV, qdU, qdT, qdS, qdR, qdJ, qdI, qdH, qdG, qdF, qdE, qdD⟩ := cells7 qc.out;go_wp2;go_ret;exact ⟨o1, bs⟩
       ·have c31b1 : decide (40 < qN.length) = false := decide_eq_false (by have := of_decide_eq_false c31b0; omega);(first | rw [c31b0] | (simp only [i64_w, i32_w]; rw [c31b0]) | skip)
        have H' := ak H;clear H;obtain ⟨qpU, qvp, qvo, qvn, qvm, qvl, qvk, qnZ, qtA, qtz, qty, qtx, qtw, qtv⟩ := cells7 qc.out;go_wp2;go_meet
        case rel => exact ⟨_, H', ⟨by have := HJ1.out; have := qwZ.out; first | omega | exact Nat.le_refl _⟩, ⟨bk qc.out⟩, ⟨bs⟩⟩
      ·replace H := ig H;obtain ⟨c34b0, H⟩ | ⟨c34b0, H⟩ := H
       ·have c34b1 : decide (0 < qN.length) = true := decide_eq_true (by have := of_decide_eq_true c34b0; omega);obtain rfl := Option.some.inj H;obtain ⟨qpT, qpS, qpR, qpQ, qpP, qpO, qpN, qnY, qnX, qnW, qnV, qnU, qnT, qnS⟩ := cells7 qc.out;go_wp2;go_ret;exact ⟨o1, bs⟩
       ·have c34b1 : decide (0 < qN.length) = false := decide_eq_false (by have := of_decide_eq_false c34b0; omega);have H' := ak H;clear H;obtain ⟨qkk, qpM, qpL, qpK, qpJ, qpI, qpH, qjy, qnR, qnQ, qnP, qnO, qnN, qnM⟩ := cells7 qc.out;go_wp2;go_meet
        case rel => exact ⟨_, H', ⟨by have := HJ1.out; have := qwZ.out; first | omega | exact Nat.le_refl _⟩, ⟨bk qc.out⟩, ⟨bs⟩⟩
     case rest =>
      clear qrD;(try clear XJ)
      (try clear qaA)
      (try clear qaz)
      (try clear qc4)
      (try clear qc3)
      (try clear qc2)
      (try clear qc1)
      (try clear qdY)
      (try clear qfS)
      (try clear qfR)
      (try clear qfQ)
      (try clear qfP)
      (try clear qfO)
      (try clear qfN)
      (try clear qiT)
      (try clear qlT)
      (try clear qlS)
      (try clear qlR)
      (try clear qlQ)
      (try clear qlP)
      (try clear qlO)
      (try clear XI)
      (try clear qaw)
      (try clear qav)
      (try clear qcV)
      (try clear qcU)
      (try clear qcT)
      (try clear qcS)
      (try clear qdK)
      (try clear qfq)
      (try clear qfp)
      (try clear qfo)
      (try clear qfn)
      (try clear qfm)
      (try clear qfl)
      (try clear qiS)
      (try clear qlC)
      (try clear qlB)
      (try clear qlA)
      (try clear qlz)
      (try clear qly)
      (try clear qlx)
      obtain ⟨kq, HA, qDJ, qc, HB⟩ := hcut;cases kq with
      | zero => exact absurd HA.out (by simp [jy.j2])
      | succ qDq =>
       have H := HA.out;clear HA;simp only [jy.j2] at H;replace H := ie H;obtain ⟨c37b0, c37b1, H⟩ | ⟨c37b0, c37b1, H⟩ := H
       ·replace H := ie H;obtain ⟨c38b0, c38b1, H⟩ | ⟨c38b0, c38b1, H⟩ := H
        ·replace H := ipN H;obtain ⟨c39b0, H⟩ := H;have c39b1 : decide (0 < qF.length) = true := decide_eq_true (by have := of_decide_eq_true c39b0; omega);replace H := ip H;obtain ⟨c40b0, H⟩ | ⟨c40b0, H⟩ := H
         ·obtain rfl := Option.some.inj H;obtain ⟨qvi, qvh, qvg, qvf, qve, qvd, qvc, qtt, qts, qtr, qtq, qtp, qto, qtn⟩ := cells7 qc.out;obtain ⟨jX, rfl, zU, JL, JK⟩ := el0_int Jl 0 (h0 := by decide);replace JL := of_eq_true JL;replace JK := of_eq_true JK;have qiR : (0 < qF.length) = True := eq_true (by omega);(try rw [show ((0 : Int)).toNat = 0 from rfl] at zU)
          (try rw [Addr.add_zero'] at zU)
          replace zU := pw_cell_below HB.out zU;replace JL := eq_true JL;replace JK := eq_true JK;go_wp2;go_ret;exact ⟨o1, bs⟩
         ·replace H := ih H;obtain ⟨c42b0, H⟩ | ⟨c42b0, H⟩ := H
          ·obtain rfl := Option.some.inj H;obtain ⟨qpl, qpk, qpj, qpi, qph, qpg, qpf, qnq, qnp, qno, qnn, qnm, qnl, qnk⟩ := cells7 qc.out;obtain ⟨jX, rfl, zU, JL, JK⟩ := el0_int Jl 0 (h0 := by decide);replace JL := of_eq_true JL;replace JK := of_eq_true JK;have qiR : (0 < qF.length) = True := eq_true (by omega);(try rw [show ((0 : Int)).toNat = 0 from rfl] at zU)
           (try rw [Addr.add_zero'] at zU)
           replace zU := pw_cell_below HB.out zU;replace JL := eq_true JL;replace JK := eq_true JK;obtain ⟨qY, Jj, Ji⟩ := el20_int Jl 0 (h0 := by decide);replace Jj := of_eq_true Jj;replace Ji := of_eq_true Ji;have qgw : (0 < qF.length) = True := eq_true (by omega);(try rw [show ((0 : Int)).toNat = 0 from rfl] at qY)
           (try rw [Addr.add_zero'] at qY)
           replace qY := pw_cell_below HB.out qY;replace Jj := eq_true Jj;replace Ji := eq_true Ji;go_wp2;go_ret;exact ⟨o1, bs⟩
          ·replace H := ipN H;obtain ⟨c44b0, H⟩ := H;have c44b1 : decide (1 < qF.length) = true := decide_eq_true (by have := of_decide_eq_true c44b0; omega);replace H := ih H;obtain ⟨c45b0, H⟩ | ⟨c45b0, H⟩ := H
           ·obtain rfl := Option.some.inj H;obtain ⟨qh6, qh5, qh4, qh3, qh2, qh1, qh0, qhw, qhv, qhu, qht, qhs, qhr, qhq⟩ := cells7 qc.out;obtain ⟨jX, rfl, zU, JL, JK⟩ := el0_int Jl 0 (h0 := by decide);replace JL := of_eq_true JL;replace JK := of_eq_true JK;have qiR : (0 < qF.length) = True := eq_true (by omega);(try rw [show ((0 : Int)).toNat = 0 from rfl] at zU)
            (try rw [Addr.add_zero'] at zU)
            replace zU := pw_cell_below HB.out zU;replace JL := eq_true JL;replace JK := eq_true JK;obtain ⟨qY, Jj, Ji⟩ := el20_int Jl 0 (h0 := by decide);replace Jj := of_eq_true Jj;replace Ji := of_eq_true Ji;have qgw : (0 < qF.length) = True := eq_true (by omega);(try rw [show ((0 : Int)).toNat = 0 from rfl] at qY)
            (try rw [Addr.add_zero'] at qY)
            replace qY := pw_cell_below HB.out qY;replace Jj := eq_true Jj;replace Ji := eq_true Ji;obtain ⟨qC, yw, yv⟩ := el20_int Jl 1 (h0 := by decide);replace yw := of_eq_true yw;replace yv := of_eq_true yv;(try simp only [show (1 : Int).toNat = 1 from rfl, Nat.reduceMul, Nat.reduceEqDiff, Go.Addr.add, ↓reduceIte] at qC)
            have qck : (1 < qF.length) = True := eq_true (by omega);(try rw [show ((1 : Int)).toNat = 1 from rfl] at qC)
            replace qC := pw_cell_below HB.out qC;replace yw := eq_true yw;replace yv := eq_true yv;obtain ⟨yK, qbi, qbh⟩ := el20_int Jl 1 (h0 := by decide);replace qbi := of_eq_true qbi;replace qbh := of_eq_true qbh;(try simp only [show (1 : Int).toNat = 1 from rfl, Nat.reduceMul, Nat.reduceEqDiff, Go.Addr.add, ↓reduceIte] at yK)
            have qxa : (1 < qF.length) = True := eq_true (by omega);(try rw [show ((1 : Int)).toNat = 1 from rfl] at yK)
            replace yK := pw_cell_below HB.out yK;replace qbi := eq_true qbi;replace qbh := eq_true qbh;go_wp2;go_ret;exact ⟨o1, bs⟩
           ·obtain rfl := Option.some.inj H;obtain ⟨qBF, qBE, qBD, qBC, qBB, qBA, qBz, qzZ, qzY, qzX, qzW, qzV, qzU, qzT⟩ := cells7 qc.out;obtain ⟨jX, rfl, zU, JL, JK⟩ := el0_int Jl 0 (h0 := by decide);replace JL := of_eq_true JL;replace JK := of_eq_true JK;have qiR : (0 < qF.length) = True := eq_true (by omega);(try rw [show ((0 : Int)).toNat = 0 from rfl] at zU)
            (try rw [Addr.add_zero'] at zU)
            replace zU := pw_cell_below HB.out zU;replace JL := eq_true JL;replace JK := eq_true JK;obtain ⟨qY, Jj, Ji⟩ := el20_int Jl 0 (h0 := by decide);replace Jj := of_eq_true Jj;replace Ji := of_eq_true Ji;have qgw : (0 < qF.length) = True := eq_true (by omega);(try rw [show ((0 : Int)).toNat = 0 from rfl] at qY)
            (try rw [Addr.add_zero'] at qY)
            replace qY := pw_cell_below HB.out qY;replace Jj := eq_true Jj;replace Ji := eq_true Ji;obtain ⟨qC, yw, yv⟩ := el20_int Jl 1 (h0 := by decide);replace yw := of_eq_true yw;replace yv := of_eq_true yv;(try simp only [show (1 : Int).toNat = 1 from rfl, Nat.reduceMul, Nat.reduceEqDiff, Go.Addr.add, ↓reduceIte] at qC)
            have qck : (1 < qF.length) = True := eq_true (by omega);(try rw [show ((1 : Int)).toNat = 1 from rfl] at qC)
            replace qC := pw_cell_below HB.out qC;replace yw := eq_true yw;replace yv := eq_true yv;go_wp2;go_ret;exact ⟨o1, bs⟩
        ·obtain rfl := Option.some.inj H;obtain ⟨qo7, qo6, qo5, qo4, qo3, qo2, qo1, qnc, qnb, qna, qm9, qm8, qm7, qm6⟩ := cells7 qc.out;go_wp2;go_ret;exact ⟨o1, bs⟩
       ·obtain rfl := Option.some.inj H;obtain ⟨qkc, qkb, qka, qj9, qj8, qj7, qj6, qjq, qjp, qjo, qjn, qjm, qjl, qjk⟩ := cells7 qc.out;go_wp2;go_ret;exact ⟨o1, bs⟩

/-! ### Zu: function 60 -/
def Zu.f (k : Nat) (ql : List (List Int)) (qo : Int) (qV : Int) (jm : Int) (qU : List (List Int)) (qN : List Int) (qF : List Int) : Option (Bool) := (jo.f k ql).bind fun ji => (if ji = true then ((zW.f qo).bind fun jh => (if jh = true then (if qV ≥ 0 then (if qV ≤ 100000 then ((jy.f k ql qo qV jm qU qN qF).bind fun qM => (some qM)) else (some false)) else (some false)) else (some false))) else (some false))
set_option maxHeartbeats 8000000 in
set_option maxRecDepth 100000 in
theorem Zu.calls (k : Nat) (jH : Option Addr) (jG : Nat) (ql : List (List Int)) (qo : Int) (qV : Int) (jm : Int) (QC : Option Addr) (QB : Nat) (qU : List (List Int)) (Jb : Option Addr) (QX : Nat) (qN : List Int) (Je : Option Addr) (QW : Nat) (qF : List Int) (r : Bool) (w : World) (jJ : Kd.C (Kd.slice 5 (Kd.int .u8)) w jH ql.length ql) (jW : ql.length ≤ jG) (JQ : Kd.C (Kd.slice 5 (Kd.int .u8)) w QC qU.length qU) (JT : qU.length ≤ QB) (JP : Kd.C (Kd.int .u8) w Jb qN.length qN) (JS : qN.length ≤ QX) (JO : Kd.C (Kd.int .i64) w Je qF.length qF) (JR : qF.length ≤ QW) (h : Zu.f k ql qo qV jm qU qN qF = some r) :
  Calls Try.prog 60 #[.agg #[.slice jH ql.length jG, .int .i64 qo, .int .i64 qV, .int .i64 jm, .slice QC qU.length QB, .slice Jb qN.length QX, .slice Je qF.length QW]] w fun e w' => e = .returned (.bool r) ∧ Below w.heap.size w w' := by
 have qdr := Try.underlying33;have XB := Try.underlying31;have jC := ak jJ;have jT := ak jW;clear jJ jW;have Zs := ak JQ;have Zt := ak JT;clear JQ JT;have Yl := ak JP;have Xc := ak JS;clear JP JS;have Jl := ak JO;have XT := ak JR;clear JO JR;have HB := ak (Below.refl w.heap.size w);have H : ((jo.f k ql).bind fun ji => (if ji = true then ((zW.f qo).bind fun jh => (if jh = true then (if qV ≥ 0 then (if qV ≤ 100000 then ((jy.f k ql qo qV jm qU qN qF).bind fun qM => (some qM)) else (some false)) else (some false)) else (some false))) else (some false))) = some r := h;clear h;replace H := bnd H;obtain ⟨ji, A2, H⟩ := H;replace H := ib H;obtain ⟨rfl, H⟩ | ⟨rfl, H⟩ := H
 ·replace H := bnd H;obtain ⟨jh, A4, H⟩ := H;replace H := ib H;obtain ⟨rfl, H⟩ | ⟨rfl, H⟩ := H
  ·replace H := ih H;obtain ⟨c6b0, H⟩ | ⟨c6b0, H⟩ := H
   ·replace H := ip H;obtain ⟨c7b0, H⟩ | ⟨c7b0, H⟩ := H
    ·replace H := bnd H;obtain ⟨qM, A8, H⟩ := H;obtain rfl := Option.some.inj H;go_enter Try.func60, Try.ntmps60;go_wp2_with (first | ((with_reducible refine gate_dst (N := 1) rfl ?_);refine bxd (N := 1) rfl HB ?_;clear HB;intro qt w9 hg HB qc qD hb;have jK := qD;clear hb hg;obtain ⟨qkR, qkQ, qkP, qvE, qvD, qvC, qvB, qj5, qj4, qj3, qtP, qtO, qtN, qtM⟩ := cells7 qc.out) | ((with_reducible refine gate_callee (f := 76) rfl ?_);refine glB 5 rfl rfl Try.func76 (jo.calls k _ _ ql true _ (cv jC HB) jT.out A2.out) (fun w11 hb => ?_);replace qc := b1 qc hb;replace HB := b2s bs hb;(try clear hb);obtain ⟨qiz, qqf, qqe, qvA, qvz, qvy, qvx, qhZ, qok, qoj, qtL, qtK, qtJ, qtI⟩ := cells7 qc.out) | (go_at_call 80;(with_reducible refine (zW.calls qo true _ A4.out).mono ?_);rintro e w' ⟨rfl, ⟨nd, rfl⟩⟩) | (go_at_call 134;(with_reducible refine (jy.calls k _ _ ql qo qV jm _ _ qU _ _ qN _ _ qF qM _ ?zA jT.out ?QS Zt.out ?YY Xc.out ?YX XT.out A8.out).mono ?_);(case zA => repeat (first | exact (Kd.C_below jC.out bs) | (with_reducible refine Kd.C_alloc ?_ _) | (with_reducible refine Kd.C_drewN ?_ _) | (with_reducible refine Kd.C_drew ?_)));(case QS => repeat (first | exact (Kd.C_below Zs.out bs) | (with_reducible refine Kd.C_alloc ?_ _) | (with_reducible refine Kd.C_drewN ?_ _) | (with_reducible refine Kd.C_drew ?_)));(case YY => repeat (first | exact (Kd.C_below Yl.out bs) | (with_reducible refine Kd.C_alloc ?_ _) | (with_reducible refine Kd.C_drewN ?_ _) | (with_reducible refine Kd.C_drew ?_)));(case YX => repeat (first | exact (Kd.C_below Jl.out bs) | (with_reducible refine Kd.C_alloc ?_ _) | (with_reducible refine Kd.C_drewN ?_ _) | (with_reducible refine Kd.C_drew ?_)));rintro e w13 ⟨rfl, hb⟩;replace qc := b1 qc hb;replace HB := b2s bs hb;(try clear hb)));go_ret;exact ⟨o1, bs⟩
    ·obtain rfl := Option.some.inj H;go_enter Try.func60, Try.ntmps60;go_wp2_with (first | ((with_reducible refine gate_dst (N := 1) rfl ?_);refine bxd (N := 1) rfl HB ?_;clear HB;intro qt w14 hg HB qc qD hb;have jK := qD;clear hb hg;obtain ⟨qiy, qix, qiw, qiv, qiu, qit, qis, qhY, qhX, qhW, qhV, qhU, qhT, qhS⟩ := cells7 qc.out) | ((with_reducible refine gate_callee (f := 76) rfl ?_);refine glB 5 rfl rfl Try.func76 (jo.calls k _ _ ql true _ (cv jC HB) jT.out A2.out) (fun w16 hb => ?_);replace qc := b1 qc hb;replace HB := b2s bs hb;(try clear hb);obtain ⟨qf8, qir, qiq, qqd, qqc, qqb, qqa, qfG, qhR, qhQ, qoi, qoh, qog, qof⟩ := cells7 qc.out) | (go_at_call 80;(with_reducible refine (zW.calls qo true _ A4.out).mono ?_);rintro e w' ⟨rfl, ⟨nd, rfl⟩⟩));go_ret;exact ⟨o1, bs⟩
   ·obtain rfl := Option.some.inj H;go_enter Try.func60, Try.ntmps60;go_wp2_with (first | ((with_reducible refine gate_dst (N := 1) rfl ?_);refine bxd (N := 1) rfl HB ?_;clear HB;intro qt w18 hg HB qc qD hb;have jK := qD;clear hb hg;obtain ⟨qf7, qip, qio, qin, qim, qil, qik, qfF, qhP, qhO, qhN, qhM, qhL, qhK⟩ := cells7 qc.out) | ((with_reducible refine gate_callee (f := 76) rfl ?_);refine glB 5 rfl rfl Try.func76 (jo.calls k _ _ ql true _ (cv jC HB) jT.out A2.out) (fun w20 hb => ?_);replace qc := b1 qc hb;replace HB := b2s bs hb;(try clear hb);obtain ⟨qp9, qp8, qp7, qp6, qp5, qp4, qp3, qoe, qod, qoc, qob, qoa, qn9, qn8⟩ := cells7 qc.out) | (go_at_call 80;(with_reducible refine (zW.calls qo true _ A4.out).mono ?_);rintro e w' ⟨rfl, ⟨nd, rfl⟩⟩));go_ret;exact ⟨o1, bs⟩
  ·obtain rfl := Option.some.inj H;go_enter Try.func60, Try.ntmps60;go_wp2_with (first | ((with_reducible refine gate_dst (N := 1) rfl ?_);refine bxd (N := 1) rfl HB ?_;clear HB;intro qt w22 hg HB qc qD hb;have jK := qD;clear hb hg;obtain ⟨qcW, qf0, qfZ, qkK, qkJ, qkI, qkH, qcN, qfy, qfx, qjY, qjX, qjW, qjV⟩ := cells7 qc.out) | ((with_reducible refine gate_callee (f := 76) rfl ?_);refine glB 5 rfl rfl Try.func76 (jo.calls k _ _ ql true _ (cv jC HB) jT.out A2.out) (fun w24 hb => ?_);replace qc := b1 qc hb;replace HB := b2s bs hb;(try clear hb);obtain ⟨qii, qkA, qkz, qky, qkx, qkw, qkv, qhI, qjO, qjN, qjM, qjL, qjK, qjJ⟩ := cells7 qc.out) | (go_at_call 80;(with_reducible refine (zW.calls qo false _ A4.out).mono ?_);rintro e w' ⟨rfl, ⟨nd, rfl⟩⟩));go_ret;exact ⟨o1, bs⟩
 ·obtain rfl := Option.some.inj H;go_enter Try.func60, Try.ntmps60;go_wp2_with (first | ((with_reducible refine gate_dst (N := 1) rfl ?_);refine bxd (N := 1) rfl HB ?_;clear HB;intro qt w26 hg HB qc qD hb;have jK := qD;clear hb hg;obtain ⟨qfY, qfX, qfW, qig, qif, qie, qid, qfw, qfv, qfu, qhG, qhF, qhE, qhD⟩ := cells7 qc.out) | ((with_reducible refine gate_callee (f := 76) rfl ?_);refine glB 5 rfl rfl Try.func76 (jo.calls k _ _ ql false _ (cv jC HB) jT.out A2.out) (fun w28 hb => ?_);replace qc := b1 qc hb;replace HB := b2s bs hb;(try clear hb)));go_ret;exact ⟨o1, bs⟩

/-! ### XK: function 135 -/
def XK.f (a0 : Int) (a1 : Int) : Option (Int) := if a0 < a1 then (some (-1)) else (if a0 > a1 then (some 1) else (some 0))
set_option maxHeartbeats 8000000 in
set_option maxRecDepth 100000 in
theorem XK.calls (a0 : Int) (a1 : Int) (r : Int) (w : World) (h : XK.f a0 a1 = some r) :
  Calls Try.prog 135 #[.int .i64 a0, .int .i64 a1] w fun e w' => e = .returned (.int .i64 r) ∧ Drawn0 w w' := by
 have H : (if a0 < a1 then (some (-1)) else (if a0 > a1 then (some 1) else (some 0))) = some r := h;clear h;replace H := ip H;obtain ⟨c3b0, H⟩ | ⟨c3b0, H⟩ := H
 ·obtain rfl := Option.some.inj H;go_enter Try.func135, Try.ntmps135;go_wp2;go_ret;exact ⟨o2, od⟩
 ·replace H := ig H;obtain ⟨c4b0, H⟩ | ⟨c4b0, H⟩ := H
  ·obtain rfl := Option.some.inj H;go_enter Try.func135, Try.ntmps135;go_wp2;go_ret;exact ⟨o2, od⟩
  ·obtain rfl := Option.some.inj H;go_enter Try.func135, Try.ntmps135;go_wp2;go_ret;exact ⟨o2, od⟩

/-! ### qS: function 77 -/

attribute [local go_sem ↓] Go.wp_at_zero Go.wp_at_succ
/-- The labels of a name as they stand in messages, without the end. -/
def qS.w : List (List Int) → List Int
 | [] => []
 | x :: l => ((x.length : Int) % 256) :: (x ++ qS.w l)
theorem qS.w_snoc (l : List (List Int)) (x : List Int) : qS.w (l ++ [x]) = qS.w l ++ [(x.length : Int) % 256] ++ x := by
 induction l with
 | nil => simp [qS.w]
 | cons y l ih => simp [qS.w, ih]
theorem qS.w_take (l : List (List Int)) : ∀ k, (qS.w (l.take k)).length ≤ (qS.w l).length := by
 induction l with
 | nil => intro k; simp
 | cons y l ih =>
  intro k;cases k with
  | zero => simp [qS.w]
  | succ k => have := ih k; simp only [List.take_succ_cons, qS.w, List.length_cons, List.length_append]; omega
def qS.f (l0 : List Int) (qu : List (List Int)) : Option (List Int) := if l0.length + (qS.w qu).length + 1 < 140737488355328 then some (l0 ++ qS.w qu ++ [0]) else none
theorem qS.inner {w : World} {S : Nat → Prop} {A : Option Addr} {l : List (List Int)} (h : ∀ W', Kept w W' S → Kd.C (Kd.slice 5 (Kd.int .u8)) W' A l.length l) (i : Nat) (hi : i < l.length) :
  ∃ ad A0 c0, A = some ad ∧ (∀ W', Kept w W' S → W'.cell? (ad.add i) = some (.slice A0 (je l (i : Int)).length c0)) ∧ (je l (i : Int)).length ≤ c0 ∧ ∀ W', Kept w W' S → (Kd.int .u8).C W' A0 (je l (i : Int)).length (je l (i : Int)) := by
 obtain ⟨ad, A0, c0, rfl, hx, hl, hc⟩ := qhd (h w (Kept.refl w S)) (i : Int) (by omega) (by omega);rw [show ((i : Int)).toNat = i from by omega] at hx;have hn := Kd.foot_neS h (by omega) (show 0 < (Kd.slice 5 (Kd.int .u8)).sz from by decide);have hcell : ∀ W', Kept w W' S → W'.cell? (ad.add i) = some (.slice A0 (je l (i : Int)).length c0) := fun W' hk => cell_kept hx hk (by rw [add_block]; exact hn)
 refine ⟨ad, A0, c0, rfl, hcell, hl, fun W' hk => ?_⟩;obtain ⟨ad2, A2, c2, e, hx2, _, hc2⟩ := qhd (h W' hk) (i : Int) (by omega) (by omega);injection e with e
 subst e;rw [show ((i : Int)).toNat = i from by omega, hcell W' hk] at hx2;injection hx2 with hx2
 injection hx2 with e1 e2 e3
 subst e1;exact hc2
theorem qS.swap (W : World) (o : Obj) : (W.alloc o).drew = (W.drew).alloc o := rfl
theorem qS.step {c : Prop} [Decidable c] {A B E : Prop} (hc : c) (h : if c then A else B) : if c then A else E := by rw [if_pos hc] at h ⊢; exact h
set_option maxHeartbeats 8000000 in
set_option maxRecDepth 100000 in
theorem qS.calls (P0_ : Nat → Prop) (qk9 : Value) (l0 : List Int) (Qd : Option Addr) (yY : Nat) (qu : List (List Int)) (r : List Int) (w0 w : World) (hB : Below w0.heap.size w0 w) (ho0 : Kd.R (Kd.int .u8) 5 w w0.heap.size P0_ qk9 l0) (QH : ∀ W_, Kept w W_ (fun k_ => P0_ k_) → Kd.C (Kd.slice 5 (Kd.int .u8)) W_ Qd qu.length qu) (Jg : qu.length ≤ yY) (h : qS.f l0 qu = some r) :
  Calls Try.prog 77 #[qk9, .agg #[.slice Qd qu.length yY]] w fun e w' => ∃ v0_ : Value, e = .returned (v0_) ∧ Kd.R (Kd.int .u8) 5 w' w0.heap.size (fun k_ => (P0_ k_ ∨ w.heap.size ≤ k_)) v0_ r ∧ Below w0.heap.size w0 w' ∧ Kept w w' (fun k_ => P0_ k_) := by
 have HO0 := ak (show Kd.R (Kd.int .u8) 5 w w0.heap.size (fun k_ => (P0_ k_ ∨ w.heap.size ≤ k_)) qk9 l0 from Kd.R_mono ho0 (fun k_ hk => (.inl hk)));have HK := ak (Kept.refl w (fun k_ => P0_ k_));have HB := ak hB;have HI := ak (qS.inner QH);have hbig : qu.length ≤ 9223372036854775807 := (QH w (Kept.refl _ _)).2.1
 have HLM : Aside0 (l0.length + (qS.w qu).length + 1 < 140737488355328) := by
  unfold qS.f at h; split at h
  ·exact ⟨by assumption⟩
  ·cases h
 have hr : l0 ++ qS.w qu ++ [0] = r := by
  unfold qS.f at h; rw [if_pos HLM.out] at h; exact Option.some.inj h
 subst hr;clear QH Jg h hB ho0;go_enter Try.func77, Try.ntmps77;go_wp2_with (((with_reducible refine gate_dst (N := 3) rfl ?_);refine bxe (N := 3) rfl ?_;intro qt hg w2 hbox hb;replace HB := b2 HB hb;have qc := ak (hbox);replace HK := ak (Kept.below (by repeat (first | (with_reducible first | exact HK.out | apply Kept.alloc | apply Kept.drewN | apply Kept.drew) | exact HK.out)) hb);have HO := ak (Kd.R_below HO0.out hb);clear HO0;clear hb hbox hg));go_loopg [0, 5] qu.length (fun gg s0 s5 w' => ∃ kk : Nat, kk ≤ qu.length ∧ qu.length - kk ≤ gg ∧ s5 = .int .i64 kk ∧ Aside0 (Kd.R (Kd.int .u8) 5 w' w0.heap.size (fun k_ => (P0_ k_ ∨ w.heap.size ≤ k_)) s0 (l0 ++ qS.w (qu.take kk))) ∧ Aside0 (w'.heap[qt]? = some (.cells #[(.slice Qd qu.length yY)] 31 (0, 0))) ∧ Aside0 (Below w0.heap.size w0 w') ∧ Aside0 (Kept w w' (fun k_ => P0_ k_)))
 case atStart => exact ⟨0, Nat.zero_le _, by omega, rfl, ⟨by simpa [qS.w] using HO.out⟩, qc, HB, HK⟩
 case round =>
  clear HO qc HB HK;obtain ⟨kk, hkk, hg, rfl, HO, BK, HB, HK⟩ := hrel;have hcz := ak ((blk_cell BK.out 0).trans rfl : wr.cell? ⟨qt, 0, none⟩ = some (.slice Qd qu.length yY));have hfz := blk_frozen BK.out 0;by_cases hlt : kk < qu.length
  ·obtain ⟨ad, A2, c2, rfl, hcell, hc2, hC⟩ := HI.out kk hlt
   have hx : Aside0 (l0 ++ qS.w (qu.take (kk + 1)) = l0 ++ qS.w (qu.take kk) ++ [((je qu (kk : Int)).length : Int) % 256] ++ je qu (kk : Int)) := ⟨by
    rw [List.take_succ_eq_append_getElem hlt, qS.w_snoc]; simp [je, List.getD_eq_getElem?_getD, hlt]⟩
   have HLL : Aside0 ((l0 ++ qS.w (qu.take kk)).length + 1 + (je qu (kk : Int)).length < 140737488355328) := ⟨by
    have h1 := congrArg List.length hx.out;have h2 := qS.w_take qu (kk + 1);have h3 := HLM.out;simp only [List.length_append, List.length_singleton] at h1 ⊢
    omega⟩
   have HCE := ak hcell;have HCC := ak hC;have hcn := hcell wr HK.out;have hczn := hcz.out;clear hcell hC hcz HI;generalize je qu (kk : Int) = x1 at hx HLL HCE HCC hc2 hcn;generalize l0 ++ qS.w (qu.take kk) = acc at HO hx HLL;have hltz : (kk : Int) < (qu.length : Int) := by omega
   have qDx : (0 : Int) ≤ (kk : Int) := by omega
   go_wp2
   go_region_held3 (fun w' => w'.cell? ⟨qt, 0, none⟩ = some (.slice (some ad) qu.length yY) ∧ w'.cell? (ad.add kk) = some (.slice A2 x1.length c2)) (first | exact ⟨(blk_cell BK.out 0).trans rfl, HCE.out _ HK.out⟩ | go_keep)
    (first
     | (rw [qS.swap]; refine qS.step (by simp [Region.wanted]) (Kd.R_append_step (Kd.int .u8) (w0 := w0) w0.heap.size (by simp [Region.wanted]) (.tmp 13) (.tmp 21) 25 5 (.int .u8 0) 1 (by rfl) Try.underlying25 qaQ rfl (by decide) (by omega) _ acc ((x1.length : Int) % 256) [.int .u8 ((x1.length : Int) % 256)] (fun k_ => (P0_ k_ ∨ w.heap.size ≤ k_)) (fun _ => False) (by rfl) (by rfl) rfl (fun _ hk => hk.elim) (fun k hk => .inr (Nat.le_trans HK.out.1 (Nat.le_trans (by simp) hk))) (rw_ HO.out) (bw HB.out) (below_size (bw HB.out)) (by have := HLL.out; omega) ?_); intro v1 w1 ho hb hg hat; have n0_ := ak (blk_grown (bk BK.out) hg (Kd.R_ne HO.out BK.out (by decide))); have n1_ := ak hb; have n2_ := ak ho; have n3_ := ak (Kept.of_grown (w := w) (S := fun k_ => P0_ k_) hg (by repeat (first | (with_reducible first | exact HK.out | apply Kept.alloc | apply Kept.drewN | apply Kept.drew) | exact HK.out)) (fun k hk => HO.out.1 k hk)); clear HB HO HK BK ho hb hg hat; have BK := n0_; have HB := n1_; have HO := n2_; have HK := n3_; clear n0_ n1_ n2_ n3_)
     | (refine qS.step (by simp [Region.wanted]) (Kd.R_append_rows_step (Kd.int .u8) (w0 := w0) w0.heap.size (by simp [Region.wanted]) (.tmp 22) (.tmp 27) 25 5 (.int .u8 0) 1 (by rfl) Try.underlying25 qaQ rfl (by decide) (by omega) _ (acc ++ [(x1.length : Int) % 256]) x1 _ _ _ (fun k_ => (P0_ k_ ∨ w.heap.size ≤ k_)) (fun _ => False) (by rfl) (by rfl) (rw_ HO.out) (HCC.out _ (by repeat (first | (with_reducible first | exact HK.out | apply Kept.alloc | apply Kept.drewN | apply Kept.drew) | exact HK.out))) (fun _ _ h => h) (fun _ h => h.elim) (fun k hk => .inr (Nat.le_trans HK.out.1 (Nat.le_trans (by simp) hk))) (bw HB.out) (below_size (bw HB.out)) (by have := HLL.out; simp only [List.length_append, List.length_singleton]; omega) ?_); intro v1 w1 ho hb hg hat; have n0_ := ak (blk_grown (bk BK.out) hg (Kd.R_ne HO.out BK.out (by decide))); have n1_ := ak hb; have n2_ := ak ho; have n3_ := ak (Kept.of_grown (w := w) (S := fun k_ => P0_ k_) hg (by repeat (first | (with_reducible first | exact HK.out | apply Kept.alloc | apply Kept.drewN | apply Kept.drew) | exact HK.out)) (fun k hk => HO.out.1 k hk)); clear HB HO HK BK ho hb hg hat; have BK := n0_; have HB := n1_; have HO := n2_; have HK := n3_; clear n0_ n1_ n2_ n3_))
   go_wp2;go_roundg (qu.length - (kk + 1));case measure => omega
   case rel => exact ⟨kk + 1, by omega, by omega, by go_num, ⟨by rw [hx.out]; exact HO.out⟩, BK, HB, HK⟩
  ·have : kk = qu.length := by omega
   subst this;rw [List.take_of_length_le (Nat.le_refl _)] at HO;have hczn := hcz.out;clear hcz;have hltz : ¬ (qu.length : Int) < (qu.length : Int) := by omega
   go_wp2_with (((with_reducible refine gate_builtin (b := .append) (xs := #[.tmp 29, .tmp 30]) rfl ?_);at_builtin;refine Kd.R_append (Kd.int .u8) (w0 := w0) w0.heap.size rfl (.tmp 29) (.tmp 30) 25 5 (.int .u8 0) 1 rfl Try.underlying25 qaQ rfl (by decide) (by omega) _ (l0 ++ qS.w qu) 0 [.int .u8 0] (fun k_ => (P0_ k_ ∨ w.heap.size ≤ k_)) (fun _ => False) rfl rfl ?aP (fun _ hk => hk.elim) ?aF ?aO ?aB ?aS ?aL ?_;(case aP => exact rfl);(case aB => exact (bw HB.out));(case aF => exact (fun k hk => .inr (Nat.le_trans HK.out.1 (Nat.le_trans (by simp) hk))));(case aO => exact (rw_ HO.out));(case aS => exact (below_size (bw HB.out)));(case aL => have := HLM.out; simp only [List.length_append]; omega);intro qk8 w14 ho hb hg hat;have n1_ := ak hb;have n2_ := ak ho;have n3_ := ak (Kept.of_grown (w := w) (S := fun k_ => P0_ k_) hg (by repeat (first | (with_reducible first | exact HK.out | apply Kept.alloc | apply Kept.drewN | apply Kept.drew) | exact HK.out)) (fun k hk => HO.out.1 k hk));clear HB HO HK ho hb hg hat;have HB := n1_;have HO := n2_;have HK := n3_;clear n1_ n2_ n3_));go_ret;exact ⟨qk8, rfl, by have := HO.out; simpa only [List.append_assoc] using this, HB.out, HK.out⟩

/-! ### JN: function 206 -/
def JN.f (l0 : List Int) (a1 : Int) : Option (List Int) := (some (([] : List Int) : List Int)).bind fun Yn => (if Yn.length + l0.length < 140737488355328 then ((some (Yn ++ l0 : List Int)).bind fun qa8 => (if a1 < 0 then (some qa8) else (if a1 ≥ 4294967296 then (some qa8) else ((some (([(a1 / 16777216) % 256, (a1 / 65536) % 256, (a1 / 256) % 256, (a1) % 256] : List Int) : List Int)).bind fun qci => (if qa8.length + qci.length < 140737488355328 then (some (qa8 ++ qci)) else (none)))))) else (none))
set_option maxHeartbeats 8000000 in
set_option maxRecDepth 100000 in
theorem JN.calls (A0 : Option Addr) (c0 : Nat) (l0 : List Int) (a1 : Int) (r : List Int) (w : World) (hr0 : Kd.C (Kd.int .u8) w A0 l0.length l0) (hc0 : l0.length ≤ c0) (h : JN.f l0 a1 = some r) :
  Calls Try.prog 206 #[.slice A0 l0.length c0, .int .i64 a1] w fun e w' => ∃ v0_ : Value, e = .returned (v0_) ∧ Kd.R (Kd.int .u8) 5 w' w.heap.size (fun _ => True) v0_ r ∧ Below w.heap.size w w' := by
 have HR0 := ak hr0;have HC0 := ak hc0;clear hr0 hc0;have HB := ak (Below.refl w.heap.size w);have H : ((some (([] : List Int) : List Int)).bind fun Yn => (if Yn.length + l0.length < 140737488355328 then ((some (Yn ++ l0 : List Int)).bind fun qa8 => (if a1 < 0 then (some qa8) else (if a1 ≥ 4294967296 then (some qa8) else ((some (([(a1 / 16777216) % 256, (a1 / 65536) % 256, (a1 / 256) % 256, (a1) % 256] : List Int) : List Int)).bind fun qci => (if qa8.length + qci.length < 140737488355328 then (some (qa8 ++ qci)) else (none)))))) else (none))) = some r := h;clear h;replace H : ∃ Yn : List Int, Yn = (([] : List Int)) ∧ (if Yn.length + l0.length < 140737488355328 then ((some (Yn ++ l0 : List Int)).bind fun qa8 => (if a1 < 0 then (some qa8) else (if a1 ≥ 4294967296 then (some qa8) else ((some (([(a1 / 16777216) % 256, (a1 / 65536) % 256, (a1 / 256) % 256, (a1) % 256] : List Int) : List Int)).bind fun qci => (if qa8.length + qci.length < 140737488355328 then (some (qa8 ++ qci)) else (none)))))) else (none)) = some r := ⟨_, rfl, H⟩;obtain ⟨Yn, Zv, H⟩ := H;have ZT := ak Zv;clear Zv;by_cases c3 : Yn.length + l0.length < 140737488355328
 ·rw [if_pos c3] at H;have qrx := ak c3;clear c3;obtain ⟨qa8, qqF⟩ : ∃ y_ : List Int, y_ = (Yn ++ l0) := ⟨_, rfl⟩;(try with_reducible replace H := bnS H)
  (try rw [← qqF] at H)
  have qqQ := ak qqF;clear qqF;replace H := ip H;obtain ⟨c4b0, H⟩ | ⟨c4b0, H⟩ := H
  ·obtain rfl := Option.some.inj H;go_enter Try.func206, Try.ntmps206;go_wp2_with (first | ((with_reducible refine gate_dst (N := 6) rfl ?_);refine Kd.R_lit (Kd.int .u8) _ 5 ?hg (N := 6) ?hd (xs := ([] : List Int)) (inner := []) (ok := fun _ => True) (okp := fun _ => True) ?hr ?hp (fun _ hk => hk) trivial (Below.refl _ _) (Nat.le_refl _) (by simp) ?_;(case hd => rfl);(case hg => rfl);(case hr => first | (go_simp; done) | (go_simp; rfl));(case hp => exact (Reps.none _ _));intro qa9 w5 ho6 hb hg_ hnew_;clear hg_ hnew_;(first | rw [← ZT.out] at ho6 | (simp only [Int.reduceToNat] at ho6; rw [← ZT.out] at ho6));have Zx := ak (Kd.R_lower ho6 (below_size (bw HB.out)));replace HB := b2 HB hb;clear hb ho6) | ((with_reducible refine gate_builtin (b := .append) (xs := #[.tmp 6, .tmp 7]) rfl ?_);at_builtin;refine Kd.R_append_rows (Kd.int .u8) (w0 := w) w.heap.size rfl (.tmp 6) (.tmp 7) 25 5 (.int .u8 0) 1 rfl Try.underlying25 qaQ rfl (by decide) (by omega) qa9 Yn l0 _ _ _ (fun _ => True) (fun _ => False) rfl rfl ?aO ?aR (fun _ _ h => h) (fun _ h => h.elim) ?aF ?aB ?aS ?aL ?_;(case aR => exact cw HR0.out HB.out);(case aB => exact (bw HB.out));(case aF => exact (fun _ _ => trivial));(case aO => exact (rw_ Zx.out));(case aS => exact (below_size (bw HB.out)));(case aL => have := qrx.out; omega);intro qgS w7 ho hb hg hat;rw [← qqQ.out] at ho;replace HB := ak (hb);have Qh := ak (ho);clear Zx;clear ho hb hg hat));go_ret;exact ⟨_, o1, rw_ Qh.out, bw HB.out⟩
  ·replace H := ih H;obtain ⟨c8b0, H⟩ | ⟨c8b0, H⟩ := H
   ·obtain rfl := Option.some.inj H;go_enter Try.func206, Try.ntmps206;go_wp2_with (first | ((with_reducible refine gate_dst (N := 6) rfl ?_);refine Kd.R_lit (Kd.int .u8) _ 5 ?hg (N := 6) ?hd (xs := ([] : List Int)) (inner := []) (ok := fun _ => True) (okp := fun _ => True) ?hr ?hp (fun _ hk => hk) trivial (Below.refl _ _) (Nat.le_refl _) (by simp) ?_;(case hd => rfl);(case hg => rfl);(case hr => first | (go_simp; done) | (go_simp; rfl));(case hp => exact (Reps.none _ _));intro qa9 w9 qlr hb hg_ hnew_;clear hg_ hnew_;(first | rw [← ZT.out] at qlr | (simp only [Int.reduceToNat] at qlr; rw [← ZT.out] at qlr));have Zx := ak (Kd.R_lower qlr (below_size (bw HB.out)));replace HB := b2 HB hb;clear hb qlr) | ((with_reducible refine gate_builtin (b := .append) (xs := #[.tmp 6, .tmp 7]) rfl ?_);at_builtin;refine Kd.R_append_rows (Kd.int .u8) (w0 := w) w.heap.size rfl (.tmp 6) (.tmp 7) 25 5 (.int .u8 0) 1 rfl Try.underlying25 qaQ rfl (by decide) (by omega) qa9 Yn l0 _ _ _ (fun _ => True) (fun _ => False) rfl rfl ?aO ?aR (fun _ _ h => h) (fun _ h => h.elim) ?aF ?aB ?aS ?aL ?_;(case aR => exact cw HR0.out HB.out);(case aB => exact (bw HB.out));(case aF => exact (fun _ _ => trivial));(case aO => exact (rw_ Zx.out));(case aS => exact (below_size (bw HB.out)));(case aL => have := qrx.out; omega);intro qgS w11 ho hb hg hat;rw [← qqQ.out] at ho;replace HB := ak (hb);have Qh := ak (ho);clear Zx;clear ho hb hg hat));go_ret;exact ⟨_, o1, rw_ Qh.out, bw HB.out⟩
   ·obtain ⟨qci, qgG⟩ : ∃ y_ : List Int, y_ = (([(a1 / 16777216) % 256, (a1 / 65536) % 256, (a1 / 256) % 256, (a1) % 256] : List Int)) := ⟨_, rfl⟩;(try with_reducible replace H := bnS H)
    (try rw [← qgG] at H)
    have qk5 := ak qgG;clear qgG;by_cases c12 : qa8.length + qci.length < 140737488355328
    ·rw [if_pos c12] at H;have qxN := ak c12;clear c12;obtain ⟨qDj, qqC⟩ : ∃ y_ : List Int, y_ = (qa8 ++ qci) := ⟨_, rfl⟩;(try with_reducible replace H := bnS H)
     (try rw [← qqC] at H)
     have qxG := ak qqC;clear qqC;obtain rfl := Option.some.inj H;go_enter Try.func206, Try.ntmps206;go_wp2_with (first | ((with_reducible refine gate_dst (N := 6) rfl ?_);refine Kd.R_lit (Kd.int .u8) _ 5 ?hg (N := 6) ?hd (xs := ([] : List Int)) (inner := []) (ok := fun _ => True) (okp := fun _ => True) ?hr ?hp (fun _ hk => hk) trivial (Below.refl _ _) (Nat.le_refl _) (by simp) ?_;(case hd => rfl);(case hg => rfl);(case hr => first | (go_simp; done) | (go_simp; rfl));(case hp => exact (Reps.none _ _));intro qa9 w13 qlp hb hg_ hnew_;clear hg_ hnew_;(first | rw [← ZT.out] at qlp | (simp only [Int.reduceToNat] at qlp; rw [← ZT.out] at qlp));have Zx := ak (Kd.R_lower qlp (below_size (bw HB.out)));replace HB := b2 HB hb;clear hb qlp) | ((with_reducible refine gate_builtin (b := .append) (xs := #[.tmp 6, .tmp 7]) rfl ?_);at_builtin;refine Kd.R_append_rows (Kd.int .u8) (w0 := w) w.heap.size rfl (.tmp 6) (.tmp 7) 25 5 (.int .u8 0) 1 rfl Try.underlying25 qaQ rfl (by decide) (by omega) qa9 Yn l0 _ _ _ (fun _ => True) (fun _ => False) rfl rfl ?aO ?aR (fun _ _ h => h) (fun _ h => h.elim) ?aF ?aB ?aS ?aL ?_;(case aR => exact cw HR0.out HB.out);(case aB => exact (bw HB.out));(case aF => exact (fun _ _ => trivial));(case aO => exact (rw_ Zx.out));(case aS => exact (below_size (bw HB.out)));(case aL => have := qrx.out; omega);intro qgS w15 ho hb hg hat;rw [← qqQ.out] at ho;replace HB := ak (hb);have Qh := ak (ho);clear Zx;clear ho hb hg hat) | ((with_reducible refine gate_dst (N := 28) rfl ?_);refine Kd.R_lit (Kd.int .u8) _ 5 ?hg (N := 28) ?hd (xs := ([(a1 / 16777216) % 256, (a1 / 65536) % 256, (a1 / 256) % 256, (a1) % 256] : List Int)) (inner := [.int .u8 ((a1 / 16777216) % 256), .int .u8 ((a1 / 65536) % 256), .int .u8 ((a1 / 256) % 256), .int .u8 ((a1) % 256)]) (ok := fun _ => True) (okp := fun _ => True) ?hr ?hp (fun _ hk => hk) trivial (Below.refl _ _) (Nat.le_refl _) (by simp) ?_;(case hd => rfl);(case hg => rfl);(case hr => first | (go_simp; done) | (go_simp; rfl));(case hp => exact (Reps.one (show Kd.M (Kd.int .u8) _ _ _ ((a1 / 16777216) % 256) [.int .u8 ((a1 / 16777216) % 256)] from rfl) (Reps.one (show Kd.M (Kd.int .u8) _ _ _ ((a1 / 65536) % 256) [.int .u8 ((a1 / 65536) % 256)] from rfl) (Reps.one (show Kd.M (Kd.int .u8) _ _ _ ((a1 / 256) % 256) [.int .u8 ((a1 / 256) % 256)] from rfl) (Reps.one (show Kd.M (Kd.int .u8) _ _ _ ((a1) % 256) [.int .u8 ((a1) % 256)] from rfl) (Reps.none _ _))))));intro qri w16 qjh hb hg_ hnew_;clear hg_ hnew_;(first | rw [← qk5.out] at qjh | (simp only [Int.reduceToNat] at qjh; rw [← qk5.out] at qjh));have XS := ak (Kd.R_lower (Kd.R_new' qjh (Kd.R_lt (rw_ Qh.out))) (below_size (bw HB.out)));replace Qh := ak (Kd.R_elder' (rw_ Qh.out) (Kd.R_base qjh) hb);replace HB := b2 HB hb;clear hb qjh;obtain ⟨qrH, qrw, qiK⟩ := Kd.R_slice XS.out;subst qiK) | ((with_reducible refine gate_builtin (b := .append) (xs := #[.tmp 16, .tmp 28]) rfl ?_);at_builtin;refine Kd.R_append_rows (Kd.int .u8) (w0 := w) w.heap.size rfl (.tmp 16) (.tmp 28) 25 5 (.int .u8 0) 1 rfl Try.underlying25 qaQ rfl (by decide) (by omega) qgS qa8 qci _ _ _ (fun k_ => some k_ ≠ (.slice qrH qci.length qrw : Value).ownBlock) (fun _ => False) rfl rfl ?aO ?aR (fun _ _ h => h) (fun _ h => h.elim) ?aF ?aB ?aS ?aL ?_;(case aR => repeat (first | exact (Kd.R_reads' XS.out).2.2 | (with_reducible refine Kd.C_alloc ?_ _) | (with_reducible refine Kd.C_drewN ?_ _) | (with_reducible refine Kd.C_drew ?_)));(case aB => exact (bw HB.out));(case aF => exact (fun k_ hk => Kd.fresh' (Kd.R_lt (rw_ XS.out)) k_ hk));(case aO => exact (rw_ (Kd.R_mono Qh.out (fun _ hk => hk.2))));(case aS => exact (below_size (bw HB.out)));(case aL => have := qxN.out; omega);intro qi8 w18 ho hb hg hat;rw [← qxG.out] at ho;replace XS := ak (Kd.R_after (ok := (fun _ => True)) (rw_ XS.out) hg hat);replace HB := ak (hb);have XR := ak (ho);clear Qh;clear ho hb hg hat));go_ret;exact ⟨_, o1, by (with_reducible repeat (first | apply Kd.R_alloc | apply Kd.R_drewN | apply Kd.R_drew)); exact Kd.R_mono XR.out (fun _ hk => trivial), bw HB.out⟩
    ·rw [if_neg c12] at H;exact absurd H (by simp)
 ·rw [if_neg c3] at H;exact absurd H (by simp)

/-! ### Qg: function 137 -/
def Qg.f (ql : List (List Int)) (qo : Int) (qV : Int) (jm : Int) (qU : List (List Int)) (qN : List Int) (qF : List Int) : Option (List Int) := if qo = 1 then ((JN.f ([] : List Int) jm).bind fun ji => (some ji)) else (if qo = 6 then ((qS.f ([] : List Int) qU).bind fun jA => (if 0 < (qF.length : Int) then ((JN.f jA (rd qF 0)).bind fun Jc => (if 1 < (qF.length : Int) then ((JN.f Jc (rd qF 1)).bind fun ZG => (some ZG)) else (none))) else (none))) else ((Ze.f qo).bind fun qgT => (if qgT = true then ((qS.f ([] : List Int) qU).bind fun qbN => (some qbN)) else ((some (([((qN.length : Int)) % 256] : List Int) : List Int)).bind fun qdo => (if qdo.length + qN.length < 140737488355328 then (some (qdo ++ qN)) else (none))))))
def Qg.T4 : Bool × List (List Nat × List Nat) := (true, [([], []), ([0], [0]), ([1], [1]), ([], []), ([3], [3]), ([4], [4]), ([5], [5]), ([2, 6, 2], [2, 6]), ([], []), ([8], [8]), ([9], [9]), ([10], [10]), ([7, 11, 7], [7, 11]), ([12, 12, 0, 1, 2, 3, 4, 5, 6, 7, 8, 9, 10, 11, 12], [12])])
def Qg.B4 : List Nat := [0, 1, 3, 0, 8, 24, 56, 127, 0, 256, 768, 1792, 4095, 8191]
theorem Qg.tab4 : rtab .any (opsOf Try.f137 4) = Qg.T4 := by kernel_rfl
theorem Qg.bits4 : waitsOk Qg.T4.2 Qg.B4 = true := by kernel_rfl
set_option maxHeartbeats 8000000 in
set_option maxRecDepth 100000 in
theorem Qg.calls (jH : Option Addr) (jG : Nat) (ql : List (List Int)) (qo : Int) (qV : Int) (jm : Int) (QC : Option Addr) (QB : Nat) (qU : List (List Int)) (Jb : Option Addr) (QX : Nat) (qN : List Int) (Je : Option Addr) (QW : Nat) (qF : List Int) (r : List Int) (w : World) (jJ : Kd.C (Kd.slice 5 (Kd.int .u8)) w jH ql.length ql) (jW : ql.length ≤ jG) (JQ : Kd.C (Kd.slice 5 (Kd.int .u8)) w QC qU.length qU) (JT : qU.length ≤ QB) (JP : Kd.C (Kd.int .u8) w Jb qN.length qN) (JS : qN.length ≤ QX) (JO : Kd.C (Kd.int .i64) w Je qF.length qF) (JR : qF.length ≤ QW) (h : Qg.f ql qo qV jm qU qN qF = some r) :
  Calls Try.prog 137 #[.agg #[.slice jH ql.length jG, .int .i64 qo, .int .i64 qV, .int .i64 jm, .slice QC qU.length QB, .slice Jb qN.length QX, .slice Je qF.length QW]] w fun e w' => ∃ v0_ : Value, e = .returned (v0_) ∧ Kd.R (Kd.int .u8) 5 w' w.heap.size (fun _ => True) v0_ r ∧ Below w.heap.size w w' := by
 have qdr := Try.underlying33;have XB := Try.underlying31;have jC := ak jJ;have jT := ak jW;clear jJ jW;have Zs := ak JQ;have Zt := ak JT;clear JQ JT;have Yl := ak JP;have Xc := ak JS;clear JP JS;have Jl := ak JO;have XT := ak JR;clear JO JR;have HB := ak (Below.refl w.heap.size w);have H : (if qo = 1 then ((JN.f ([] : List Int) jm).bind fun ji => (some ji)) else (if qo = 6 then ((qS.f ([] : List Int) qU).bind fun jA => (if 0 < (qF.length : Int) then ((JN.f jA (rd qF 0)).bind fun Jc => (if 1 < (qF.length : Int) then ((JN.f Jc (rd qF 1)).bind fun ZG => (some ZG)) else (none))) else (none))) else ((Ze.f qo).bind fun qgT => (if qgT = true then ((qS.f ([] : List Int) qU).bind fun qbN => (some qbN)) else ((some (([((qN.length : Int)) % 256] : List Int) : List Int)).bind fun qdo => (if qdo.length + qN.length < 140737488355328 then (some (qdo ++ qN)) else (none))))))) = some r := h;clear h;replace H := ie H;obtain ⟨c2b0, c2b1, H⟩ | ⟨c2b0, c2b1, H⟩ := H
 ·replace H := bnd H;obtain ⟨ji, A3, H⟩ := H;obtain rfl := Option.some.inj H;go_enter Try.func137, Try.ntmps137;go_wp2_with (first | ((with_reducible refine gate_dst (N := 1) rfl ?_);refine bxd (N := 1) rfl HB ?_;clear HB;intro qt w4 hg HB qc qD hb;have jK := qD;clear hb hg;obtain ⟨qg7, qlN, qlM, qwC, qwB, qwA, qwz, qg0, qlw, qlv, qwm, qwl, qwk, qwj⟩ := cells7 qc.out) | ((with_reducible refine gate_callee (f := 206) rfl ?_);refine goesL_ (some 9) rfl rfl Try.func206 (by kernel_rfl) rfl #[.slice none 0 0, .int .i64 jm] rfl (by (try simp only [List.map_toArray, List.map_cons, List.map_nil]); first | done | rfl | (simp only [List.length_drop, List.length_take]; rfl)) ?_;(refine (JN.calls _ _ ([] : List Int) jm ji _ ?zA ?yW A3.out).mono ?_);(case zA => exact Kd.C_nil _ _);(case yW => exact Nat.le_refl _);rintro e w6 ⟨qvW, rfl, ho0, hb⟩;refine ⟨_, rfl, ?_⟩;have qi0 := ak (Kd.R_lower ho0 (below_size bs));replace qc := b1 qc hb;replace HB := b2s bs hb;(try clear hb);(try clear ho0)));go_ret;exact ⟨_, o1, rw_ qi0.out, bs⟩
 ·replace H := ie H;obtain ⟨c7b0, c7b1, H⟩ | ⟨c7b0, c7b1, H⟩ := H
  ·replace H := bnd H;obtain ⟨jA, A8, H⟩ := H;replace H := ipN H;obtain ⟨c9b0, H⟩ := H;have c9b1 : decide (0 < qF.length) = true := decide_eq_true (by have := of_decide_eq_true c9b0; omega);replace H := bnd H;obtain ⟨Jc, A10, H⟩ := H;replace H := ipN H;obtain ⟨c11b0, H⟩ := H;have c11b1 : decide (1 < qF.length) = true := decide_eq_true (by have := of_decide_eq_true c11b0; omega);replace H := bnd H;obtain ⟨ZG, A12, H⟩ := H;obtain rfl := Option.some.inj H;go_enter Try.func137, Try.ntmps137;try go_wp2_with (((with_reducible refine gate_dst (N := 1) rfl ?_);refine bxd (N := 1) rfl HB ?_;clear HB;intro qt w13 hg HB qc qD hb;have jK := qD;clear hb hg;obtain ⟨qd0, qga, qf9, qkO, qkN, qkM, qkL, qdM, qfI, qfH, qj2, qj1, qj0, qjZ⟩ := cells7 qc.out))
   replace qc := ak (blk_drew qc.out);replace HB := ak (below_drew1 HB.out);have qbi : 0 ≤ (0 : Int) := (by omega);have qbh : 0 < (qF.length : Int) := of_decide_eq_true (by first | (with_reducible assumption) | assumption);obtain ⟨qiV, qyp, yK⟩ := Kd.at_int Jl.out 0 qbi qbh;have qat := yK;(try rw [show ((0 : Int)).toNat = 0 from rfl] at qat)
   (try rw [show 0 * 1 = 0 from rfl] at qat)
   (try rw [Addr.add_zero'] at qat)
   cases qyp;have qxa : (0 < qF.length) = True := eq_true (by omega);(try rw [show ((0 : Int)).toNat = 0 from rfl] at yK)
   (try rw [Addr.add_zero'] at yK)
   replace yK := pw_cell_below HB.out yK;replace qbi := eq_true qbi;replace qbh := eq_true qbh;have qgy : 0 ≤ (1 : Int) := (by omega);have qgx : 1 < (qF.length : Int) := of_decide_eq_true (by first | (with_reducible assumption) | assumption);obtain ⟨qqO, qru, Zy⟩ := Kd.at_int Jl.out 1 qgy qgx;have qas := Zy;(try rw [show ((1 : Int)).toNat = 1 from rfl] at qas)
   (try rw [show 1 * 1 = 1 from rfl] at qas)
   (try simp only [Nat.reduceMul, Nat.reduceEqDiff, Go.Addr.add, ↓reduceIte] at qas)
   obtain rfl : qiV = qqO := (by injection qru);(try simp only [show (1 : Int).toNat = 1 from rfl, Nat.reduceMul, Nat.reduceEqDiff, Go.Addr.add, ↓reduceIte] at Zy)
   have qw8 : (1 < qF.length) = True := eq_true (by omega);(try rw [show ((1 : Int)).toNat = 1 from rfl] at Zy)
   replace Zy := pw_cell_below HB.out Zy;replace qgy := eq_true qgy;replace qgx := eq_true qgx;refine start_ (n := 14) (S := fun w' => w'.cell? ⟨qt, 0, none⟩ = some (.slice jH ql.length jG) ∧ w'.cell? ⟨qt, 1, none⟩ = some (.int .i64 qo) ∧ w'.cell? ⟨qt, 2, none⟩ = some (.int .i64 qV) ∧ w'.cell? ⟨qt, 3, none⟩ = some (.int .i64 jm) ∧ w'.cell? ⟨qt, 4, none⟩ = some (.slice QC qU.length QB) ∧ w'.cell? ⟨qt, 5, none⟩ = some (.slice Jb qN.length QX) ∧ w'.cell? ⟨qt, 6, none⟩ = some (.slice (some qiV) qF.length QW) ∧ w'.cell? qiV = some (.int .i64 (rd qF 0)) ∧ w'.cell? ⟨qiV.block, qiV.off + 1, none⟩ = some (.int .i64 (rd qF 1))) (ds := []) (bA 14 0) (by kernel_rfl) rfl rfl kq (fun hHeld => ?_); refine with_tabW Qg.tab4 Qg.bits4 (fun HT_ HW_ => ?_);generalize w13.drew = w15 at qc HB yK Zy hHeld ⊢;refine pu HT_ 0 ?_;refine pu HT_ 3 ?_;refine pu HT_ 8 ?_;refine ta HT_ HW_ hHeld 1 ?_;refine ta HT_ HW_ hHeld 4 ?_;refine pu HT_ 5 ?_;refine ta HT_ HW_ hHeld 6 ?_;refine ta HT_ HW_ hHeld 9 ?_;refine pu HT_ 10 ?_;refine ta HT_ HW_ hHeld 11 ?_;refine on HT_ 2 (fun K hK => ?_);refine goes_ Try.func77 (by kernel_rfl) rfl #[.slice none 0 0, .agg #[.slice QC qU.length QB]] (by rfl) rfl rfl (by (try simp only [List.map_toArray, List.map_cons, List.map_nil]); first | done | rfl | (simp only [List.length_drop, List.length_take]; rfl)) ?_;refine (qS.calls (fun k_ => some k_ = (.slice none 0 0 : Value).ownBlock) (.slice none 0 0) ([] : List Int) _ _ qU jA w _ ?zA ?yW ?QS ?ZF A8.out).mono ?_;(case zA => repeat (first | (with_reducible first | exact HB.out | apply below_alloc | apply pw_below_drewN | apply below_drew1 | refine below_set ?_ qD.out) | exact HB.out))
   (case yW => exact Kd.R_nil _ _ _ _ _)
   (case QS => exact Kd.C_kept_came (Kd.heap_slice 5 (Kd.heap_int .u8)) Zs.out bs (fun k_ hs_ => (fun e_ => by simp [Value.ownBlock] at e_) hs_))
   (case ZF => exact Zt.out)
   rintro e w16 ⟨qbg, rfl, ho0, hb, hkp⟩;refine ⟨_, rfl, ?_⟩;replace qc := ak (blk_kept (bk qc.out) hkp (fun hs_ => (fun e_ => by simp [Value.ownBlock] at e_) hs_));have zq := ak (Kd.R_mono (ok' := fun k_ => True) ho0 (fun k_ hk_ => trivial));replace HB := ak (hb);(try clear hb)
   (try clear hkp)
   (try clear ho0)
   obtain ⟨qDO, qDC, qwP⟩ := Kd.R_slice zq.out;(first | subst qwP | (injection qwP with f1_ f2_ f3_; have f4_ := f1_.symm; have f5_ := f3_.symm; clear f1_ f2_ f3_; subst f4_; subst f5_))
   refine hK.out _ _ ⟨(blk_cell qc.out 0).trans rfl, (blk_cell qc.out 1).trans rfl, (blk_cell qc.out 2).trans rfl, (blk_cell qc.out 3).trans rfl, (blk_cell qc.out 4).trans rfl, (blk_cell qc.out 5).trans rfl, (blk_cell qc.out 6).trans rfl, (pw_cell_below HB.out qat), (pw_cell_below HB.out qas)⟩ (fun hHeld => ?_);clear hK K;refine norm_ (a' := ?_) ?_ ?_; rotate_left; go_simp; rfl;refine on HT_ 7 (fun K hK => ?_);refine gsG Try.func206 (JN.calls _ _ jA (rd qF 0) Jc _ ?zA ?yW A10.out) ?_;(case zA => repeat (first | exact (Kd.R_reads' zq.out).2.2 | (with_reducible refine Kd.C_alloc ?_ _) | (with_reducible refine Kd.C_drewN ?_ _) | (with_reducible refine Kd.C_drew ?_)))
   (case yW => exact (Kd.R_reads' zq.out).2.1)
   rintro e w18 ⟨qx2, rfl, ho0, hb⟩;refine ⟨_, rfl, ?_⟩;have qeD := ak (Kd.R_lower (Kd.R_new' ho0 (Kd.R_lt (rw_ zq.out))) (below_size bs));replace zq := ak (Kd.R_elder' (rw_ zq.out) (Kd.R_base ho0) hb);replace qc := b1 qc hb;replace HB := b2s bs hb;(try clear hb)
   (try clear ho0)
   obtain ⟨qrH, qrw, qiK⟩ := Kd.R_slice qeD.out;(first | subst qiK | (injection qiK with f1_ f2_ f3_; have f4_ := f1_.symm; have f5_ := f3_.symm; clear f1_ f2_ f3_; subst f4_; subst f5_))
   refine hK.out _ _ ⟨(blk_cell qc.out 0).trans rfl, (blk_cell qc.out 1).trans rfl, (blk_cell qc.out 2).trans rfl, (blk_cell qc.out 3).trans rfl, (blk_cell qc.out 4).trans rfl, (blk_cell qc.out 5).trans rfl, (blk_cell qc.out 6).trans rfl, (pw_cell_below HB.out qat), (pw_cell_below HB.out qas)⟩ (fun hHeld => ?_);clear hK K;refine norm_ (a' := ?_) ?_ ?_; rotate_left; go_simp; rfl;refine on HT_ 12 (fun K hK => ?_);refine gsG Try.func206 (JN.calls _ _ Jc (rd qF 1) ZG _ ?zA ?yW A12.out) ?_;(case zA => repeat (first | exact (Kd.R_reads' qeD.out).2.2 | (with_reducible refine Kd.C_alloc ?_ _) | (with_reducible refine Kd.C_drewN ?_ _) | (with_reducible refine Kd.C_drew ?_)))
   (case yW => exact (Kd.R_reads' qeD.out).2.1)
   rintro e w20 ⟨qvU, rfl, ho0, hb⟩;refine ⟨_, rfl, ?_⟩;have qiE := ak (Kd.R_lower (Kd.R_new' (Kd.R_new' ho0 (Kd.R_lt (rw_ zq.out))) (Kd.R_lt (rw_ qeD.out))) (below_size bs));replace zq := ak (Kd.R_elder' (rw_ zq.out) (Kd.R_base ho0) hb);replace qeD := ak (Kd.R_elder' (rw_ qeD.out) (Kd.R_base ho0) hb);replace qc := b1 qc hb;replace HB := b2s bs hb;refine hK.out _ _ kp (fun hHeld => ?_);(try clear hb)
   (try clear ho0)
   clear hK K;refine norm_ (a' := ?_) ?_ ?_; rotate_left; go_simp; rfl;refine pu HT_ 13 ?_;refine done_ (done_of HT_.out (by kernel_rfl)) ?_;try go_wp2
   go_ret;exact ⟨_, o1, by (with_reducible repeat (first | apply Kd.R_alloc | apply Kd.R_drewN | apply Kd.R_drew)); exact Kd.R_mono qiE.out (fun _ hk => trivial), bs⟩
  ·replace H := bnd H;obtain ⟨qgT, A21, H⟩ := H;replace H := ib H;obtain ⟨rfl, H⟩ | ⟨rfl, H⟩ := H
   ·replace H := bnd H;obtain ⟨qbN, A23, H⟩ := H;obtain rfl := Option.some.inj H;go_enter Try.func137, Try.ntmps137;go_wp2_with (first | ((with_reducible refine gate_dst (N := 1) rfl ?_);refine bxd (N := 1) rfl HB ?_;clear HB;intro qt w24 hg HB qc qD hb;have jK := qD;clear hb hg;obtain ⟨qii, qkA, qkz, qky, qkx, qkw, qkv, qhI, qjO, qjN, qjM, qjL, qjK, qjJ⟩ := cells7 qc.out) | ((with_reducible refine gate_callee (f := 159) rfl ?_);refine glD 30 rfl rfl Try.func159 (Ze.calls qo true _ A21.out) (fun nd => ?_)) | ((with_reducible refine gate_callee (f := 77) rfl ?_);refine goesL_ (some 33) rfl rfl Try.func77 (by kernel_rfl) rfl #[.slice none 0 0, .agg #[.slice QC qU.length QB]] rfl (by (try simp only [List.map_toArray, List.map_cons, List.map_nil]); first | done | rfl | (simp only [List.length_drop, List.length_take]; rfl)) ?_;(refine (qS.calls (fun k_ => some k_ = (.slice none 0 0 : Value).ownBlock) (.slice none 0 0) ([] : List Int) _ _ qU qbN w _ ?zA ?yW ?QS ?ZF A23.out).mono ?_);(case zA => repeat (first | (with_reducible first | exact HB.out | apply below_alloc | apply pw_below_drewN | apply below_drew1 | refine below_set ?_ qD.out) | exact HB.out));(case yW => exact Kd.R_nil _ _ _ _ _);(case QS => exact Kd.C_kept_came (Kd.heap_slice 5 (Kd.heap_int .u8)) Zs.out bs (fun k_ hs_ => (fun e_ => by simp [Value.ownBlock] at e_) hs_));(case ZF => exact Zt.out);rintro e w26 ⟨qqu, rfl, ho0, hb, hkp⟩;refine ⟨_, rfl, ?_⟩;replace qc := ak (blk_kept (bk qc.out) hkp (fun hs_ => (fun e_ => by simp [Value.ownBlock] at e_) hs_));have qiD := ak (Kd.R_mono (ok' := fun k_ => True) ho0 (fun k_ hk_ => trivial));replace HB := ak (hb);(try clear hb);(try clear hkp);(try clear ho0)));go_ret;exact ⟨_, o1, rw_ qiD.out, bs⟩
   ·obtain ⟨qdo, qgC⟩ : ∃ y_ : List Int, y_ = (([((qN.length : Int)) % 256] : List Int)) := ⟨_, rfl⟩;(try with_reducible replace H := bnS H)
    (try rw [← qgC] at H)
    have qk1 := ak qgC;clear qgC;by_cases c27 : qdo.length + qN.length < 140737488355328
    ·rw [if_pos c27] at H;have qxJ := ak c27;clear c27;obtain ⟨qDh, qqy⟩ : ∃ y_ : List Int, y_ = (qdo ++ qN) := ⟨_, rfl⟩;(try with_reducible replace H := bnS H)
     (try rw [← qqy] at H)
     have qxD := ak qqy;clear qqy;obtain rfl := Option.some.inj H;go_enter Try.func137, Try.ntmps137;go_wp2_with (first | ((with_reducible refine gate_dst (N := 1) rfl ?_);refine bxd (N := 1) rfl HB ?_;clear HB;intro qt w28 hg HB qc qD hb;have jK := qD;clear hb hg;obtain ⟨qdY, qfS, qfR, qfQ, qfP, qfO, qfN, qdK, qfq, qfp, qfo, qfn, qfm, qfl⟩ := cells7 qc.out) | ((with_reducible refine gate_callee (f := 159) rfl ?_);refine glD 30 rfl rfl Try.func159 (Ze.calls qo false _ A21.out) (fun nd => ?_)) | ((with_reducible refine gate_dst (N := 38) rfl ?_);refine Kd.R_lit (Kd.int .u8) _ 5 ?hg (N := 38) ?hd (xs := ([((qN.length : Int)) % 256] : List Int)) (inner := [.int .u8 (((qN.length : Int)) % 256)]) (ok := fun _ => True) (okp := fun _ => True) ?hr ?hp (fun _ hk => hk) trivial (Below.refl _ _) (Nat.le_refl _) (by simp) ?_;(case hd => rfl);(case hg => rfl);(case hr => first | (go_simp; done) | (go_simp; rfl));(case hp => exact (Reps.one (show Kd.M (Kd.int .u8) _ _ _ (((qN.length : Int)) % 256) [.int .u8 (((qN.length : Int)) % 256)] from rfl) (Reps.none _ _)));intro qx0 w30 qlm hb hg_ hnew_;clear hg_ hnew_;(first | rw [← qk1.out] at qlm | (simp only [Int.reduceToNat] at qlm; rw [← qk1.out] at qlm));have qqS := ak (Kd.R_lower qlm (below_size bs));replace qc := b1 qc hb;replace HB := b2s bs hb;clear hb qlm;obtain ⟨qdX, qdW, qdV, qdU, qdT, qdS, qdR, qdJ, qdI, qdH, qdG, qdF, qdE, qdD⟩ := cells7 qc.out) | ((with_reducible refine gate_builtin (b := .append) (xs := #[.tmp 38, .tmp 40]) rfl ?_);at_builtin;refine Kd.R_append_rows (Kd.int .u8) (w0 := w) w.heap.size rfl (.tmp 38) (.tmp 40) 25 5 (.int .u8 0) 1 rfl Try.underlying25 qaQ rfl (by decide) (by omega) qx0 qdo qN _ _ _ (fun _ => True) (fun _ => False) rfl rfl ?aO ?aR (fun _ _ h => h) (fun _ h => h.elim) ?aF ?aB ?aS ?aL ?_;(case aR => exact cw Yl.out HB.out);(case aB => exact bs);(case aF => exact (fun _ _ => trivial));(case aO => exact (rw_ qqS.out));(case aS => exact (below_size bs));(case aL => have := qxJ.out; omega);intro qDm w33 ho hb hg hat;rw [← qxD.out] at ho;replace qc := ak (blk_grown (bk qc.out) hg (Kd.R_ne qqS.out qc.out (by decide)));replace HB := ak (hb);have qxP := ak (ho);clear qqS;clear ho hb hg hat));go_ret;exact ⟨_, o1, rw_ qxP.out, bs⟩
    ·rw [if_neg c27] at H;exact absurd H (by simp)

/-! ### yV: function 61 -/
def yV.j0 : Nat → Int → List (List Int) → Int → Int → Int → List (List Int) → List Int → List Int → List (List Int) → Int → Int → Int → List (List Int) → List Int → List Int → Option (Int)
 | 0, _, _, _, _, _, _, _, _, _, _, _, _, _, _, _ => none
 | k + 1, x5, qT, jp, qq, Jf, Qj, Qi, zZ, QI, qi7, qi6, qcL, ql9, ql8, ql7 => if x5 = 0 then ((Qg.f qT jp qq Jf Qj Qi zZ).bind fun jA => ((Qg.f QI qi7 qi6 qcL ql9 ql8 ql7).bind fun zr => ((yD.f jA zr).bind fun Za => (some Za)))) else (some x5)
def yV.f (k : Nat) (ql : List (List Int)) (qo : Int) (qV : Int) (jm : Int) (qU : List (List Int)) (qN : List Int) (qF : List Int) (qu : List (List Int)) (zc : Int) (zQ : Int) (YW : Int) (JG : List (List Int)) (JM : List Int) (Zb : List Int) : Option (Int) := (jk.f k ql qu).bind fun jh => (if jh = 0 then ((XK.f qo zc).bind fun qM => (yV.j0 k qM ql qo qV jm qU qN qF qu zc zQ YW JG JM Zb)) else (yV.j0 k jh ql qo qV jm qU qN qF qu zc zQ YW JG JM Zb))
set_option maxHeartbeats 8000000 in
set_option maxRecDepth 100000 in
theorem yV.calls (k : Nat) (jH : Option Addr) (jG : Nat) (ql : List (List Int)) (qo : Int) (qV : Int) (jm : Int) (QC : Option Addr) (QB : Nat) (qU : List (List Int)) (Jb : Option Addr) (QX : Nat) (qN : List Int) (Je : Option Addr) (QW : Nat) (qF : List Int) (Qd : Option Addr) (yY : Nat) (qu : List (List Int)) (zc : Int) (zQ : Int) (YW : Int) (qeo : Option Addr) (qeh : Nat) (JG : List (List Int)) (qen : Option Addr) (qeg : Nat) (JM : List Int) (qem : Option Addr) (qef : Nat) (Zb : List Int) (r : Int) (w : World) (jJ : Kd.C (Kd.slice 5 (Kd.int .u8)) w jH ql.length ql) (jW : ql.length ≤ jG) (JQ : Kd.C (Kd.slice 5 (Kd.int .u8)) w QC qU.length qU) (JT : qU.length ≤ QB) (JP : Kd.C (Kd.int .u8) w Jb qN.length qN) (JS : qN.length ≤ QX) (JO : Kd.C (Kd.int .i64) w Je qF.length qF) (JR : qF.length ≤ QW) (QH : Kd.C (Kd.slice 5 (Kd.int .u8)) w Qd qu.length qu) (Jg : qu.length ≤ yY) (qew : Kd.C (Kd.slice 5 (Kd.int .u8)) w qeo JG.length JG) (qeB : JG.length ≤ qeh) (qev : Kd.C (Kd.int .u8) w qen JM.length JM) (qeA : JM.length ≤ qeg) (qeu : Kd.C (Kd.int .i64) w qem Zb.length Zb) (qez : Zb.length ≤ qef) (h : yV.f k ql qo qV jm qU qN qF qu zc zQ YW JG JM Zb = some r) :
  Calls Try.prog 61 #[.agg #[.slice jH ql.length jG, .int .i64 qo, .int .i64 qV, .int .i64 jm, .slice QC qU.length QB, .slice Jb qN.length QX, .slice Je qF.length QW], .agg #[.slice Qd qu.length yY, .int .i64 zc, .int .i64 zQ, .int .i64 YW, .slice qeo JG.length qeh, .slice qen JM.length qeg, .slice qem Zb.length qef]] w fun e w' => e = .returned (.int .i64 r) ∧ Below w.heap.size w w' := by
 have qdr := Try.underlying33;have XB := Try.underlying31;have jC := ak jJ;have jT := ak jW;clear jJ jW;have Zs := ak JQ;have Zt := ak JT;clear JQ JT;have Yl := ak JP;have Xc := ak JS;clear JP JS;have Jl := ak JO;have XT := ak JR;clear JO JR;have yp := ak QH;have yC := ak Jg;clear QH Jg;have qeC := ak qew;have qeE := ak qeB;clear qew qeB;have qgM := ak qev;have qgN := ak qeA;clear qev qeA;have qiC := ak qeu;have qiF := ak qez;clear qeu qez;have HB := ak (Below.refl w.heap.size w);have H : ((jk.f k ql qu).bind fun jh => (if jh = 0 then ((XK.f qo zc).bind fun qM => (yV.j0 k qM ql qo qV jm qU qN qF qu zc zQ YW JG JM Zb)) else (yV.j0 k jh ql qo qV jm qU qN qF qu zc zQ YW JG JM Zb))) = some r := h;clear h;replace H := bnd H;obtain ⟨jh, A3, H⟩ := H;have HC4 := ak H;clear H;go_enter Try.func61, Try.ntmps61;go_upto_if 12 with (first | ((with_reducible refine gate_dst (N := 2) rfl ?_);refine bxd (N := 2) rfl HB ?_;clear HB;intro qt w5 hg HB qc qD hb;have jK := qD;clear hb hg) | ((with_reducible refine gate_dst (N := 3) rfl ?_);refine bxe (N := 3) rfl ?_;intro qE hg w6 hbox hb;have qi := ak (hbox);have jB := b3s hg bs;have yZ := jB;replace HB := b2s bs hb;have qx := b4 hg qc;have qw := b5 hg qc;replace qc := b1 qc hb;clear hb hbox hg;have qjj := qx.out;have qji := qw.out;obtain ⟨qdl, qlL, qlK, qq7, qq6, qq5, qq4, qdi, qlu, qlt, qq0, qqZ, qqY, qqX⟩ := cells7 qc.out;obtain ⟨qbJ, qdk, qdj, qg5, qg4, qg3, qg2, qbI, qdh, qdg, qgY, qgX, qgW, qgV⟩ := cells7 qi.out) | ((with_reducible refine gate_callee (f := 98) rfl ?_);refine glB 10 rfl rfl Try.func98 (jk.calls k _ _ ql _ _ qu jh _ (cv jC HB) jT.out (cv yp HB) yC.out A3.out) (fun w10 hb => ?_);replace qc := b1 qc hb;replace qi := b1 qi hb;replace HB := b2s bs hb;(try clear hb)))
 (try simp only [Act.put, List.setIfInBounds_toArray, List.set_cons_zero, List.set_cons_succ])
 go_cut [5] (fun v5 wc => ∃ (kq : Nat) (qrg : Int), v5 = .int .i64 qrg ∧ Aside0 (yV.j0 kq qrg ql qo qV jm qU qN qF qu zc zQ YW JG JM Zb = some r) ∧ Aside0 (kq ≤ k) ∧ Aside0 (wc.heap[qt]? = some (.cells #[(.slice jH ql.length jG), .int .i64 qo, .int .i64 qV, .int .i64 jm, (.slice QC qU.length QB), (.slice Jb qN.length QX), (.slice Je qF.length QW)] 33 (0, 0))) ∧ Aside0 (wc.heap[qE]? = some (.cells #[(.slice Qd qu.length yY), .int .i64 zc, .int .i64 zQ, .int .i64 YW, (.slice qeo JG.length qeh), (.slice qen JM.length qeg), (.slice qem Zb.length qef)] 33 (0, 0))) ∧ Aside0 (Below w.heap.size w wc))
 case first =>
  have H := HC4.out;clear HC4;replace H := ie H;obtain ⟨c11b0, c11b1, H⟩ | ⟨c11b0, c11b1, H⟩ := H
  ·(first | rw [c11b0] | (simp only [i64_w, i32_w]; rw [c11b0]) | skip)
   replace H := bnd H;obtain ⟨qM, A12, H⟩ := H;have H' := ak H;clear H;have qDe := qx.out;have qCL := qw.out;obtain ⟨qd0, qga, qf9, qkO, qkN, qkM, qkL, qdM, qfI, qfH, qj2, qj1, qj0, qjZ⟩ := cells7 qc.out;obtain ⟨qiy, qix, qiw, qiv, qiu, qit, qis, qhY, qhX, qhW, qhV, qhU, qhT, qhS⟩ := cells7 qi.out;go_wp2_with (((with_reducible refine gate_callee (f := 135) rfl ?_);refine glD 17 rfl rfl Try.func135 (XK.calls qo zc qM _ A12.out) (fun nd => ?_)));go_meet
   case rel => exact ⟨_, (qM), o2, H', ⟨o3⟩, ⟨bk qc.out⟩, ⟨bk qi.out⟩, ⟨bs⟩⟩
  ·(first | rw [c11b0] | (simp only [i64_w, i32_w]; rw [c11b0]) | skip)
   have H' := ak H;clear H;go_wp2;go_meet
   case rel => exact ⟨_, (jh), o2, H', ⟨o3⟩, ⟨bk qc.out⟩, ⟨bk qi.out⟩, ⟨bs⟩⟩
 case rest =>
  clear HC4;(try clear qdl)
  (try clear qlL)
  (try clear qlK)
  (try clear qq7)
  (try clear qq6)
  (try clear qq5)
  (try clear qq4)
  (try clear qbJ)
  (try clear qdk)
  (try clear qdj)
  (try clear qg5)
  (try clear qg4)
  (try clear qg3)
  (try clear qg2)
  (try clear qdi)
  (try clear qlu)
  (try clear qlt)
  (try clear qq0)
  (try clear qqZ)
  (try clear qqY)
  (try clear qqX)
  (try clear qbI)
  (try clear qdh)
  (try clear qdg)
  (try clear qgY)
  (try clear qgX)
  (try clear qgW)
  (try clear qgV)
  obtain ⟨kq, qrg, rfl, HA, HJ3, qc, qi, HB⟩ := hcut;cases kq with
  | zero => exact absurd HA.out (by simp [yV.j0])
  | succ kj3 =>
   have H := HA.out;clear HA;simp only [yV.j0] at H;replace H := ie H;obtain ⟨c16b0, c16b1, H⟩ | ⟨c16b0, c16b1, H⟩ := H
   ·replace H := bnd H;obtain ⟨jA, A17, H⟩ := H;replace H := bnd H;obtain ⟨zr, A18, H⟩ := H;replace H := bnd H;obtain ⟨Za, A19, H⟩ := H;obtain rfl := Option.some.inj H;try go_wp2
    replace qc := ak (blk_drew qc.out);replace qi := ak (blk_drew qi.out);replace HB := ak (below_drew1 HB.out);refine start_ (n := 6) (S := fun w' => w'.cell? ⟨qt, 0, none⟩ = some (.slice jH ql.length jG) ∧ w'.cell? ⟨qt, 1, none⟩ = some (.int .i64 qo) ∧ w'.cell? ⟨qt, 2, none⟩ = some (.int .i64 qV) ∧ w'.cell? ⟨qt, 3, none⟩ = some (.int .i64 jm) ∧ w'.cell? ⟨qt, 4, none⟩ = some (.slice QC qU.length QB) ∧ w'.cell? ⟨qt, 5, none⟩ = some (.slice Jb qN.length QX) ∧ w'.cell? ⟨qt, 6, none⟩ = some (.slice Je qF.length QW) ∧ w'.cell? ⟨qE, 0, none⟩ = some (.slice Qd qu.length yY) ∧ w'.cell? ⟨qE, 1, none⟩ = some (.int .i64 zc) ∧ w'.cell? ⟨qE, 2, none⟩ = some (.int .i64 zQ) ∧ w'.cell? ⟨qE, 3, none⟩ = some (.int .i64 YW) ∧ w'.cell? ⟨qE, 4, none⟩ = some (.slice qeo JG.length qeh) ∧ w'.cell? ⟨qE, 5, none⟩ = some (.slice qen JM.length qeg) ∧ w'.cell? ⟨qE, 6, none⟩ = some (.slice qem Zb.length qef)) (ds := []) (bA 6 0) (by kernel_rfl) rfl rfl ⟨(blk_cell qc.out 0).trans rfl, (blk_cell qc.out 1).trans rfl, (blk_cell qc.out 2).trans rfl, (blk_cell qc.out 3).trans rfl, (blk_cell qc.out 4).trans rfl, (blk_cell qc.out 5).trans rfl, (blk_cell qc.out 6).trans rfl, (blk_cell qi.out 0).trans rfl, (blk_cell qi.out 1).trans rfl, (blk_cell qi.out 2).trans rfl, (blk_cell qi.out 3).trans rfl, (blk_cell qi.out 4).trans rfl, (blk_cell qi.out 5).trans rfl, (blk_cell qi.out 6).trans rfl⟩ (fun hHeld => ?_);generalize wc.drew = w20 at qc qi HB hHeld ⊢;refine take_ (i := 0) (N := some 20) (v := ?_) (a' := ?_) (bA 6 1) rfl rfl (by kernel_rfl) (fun _ _ _ h => h) (Or.inl ⟨by rfl, ?_⟩) hHeld ?_ ?_;rotate_left; rintro w' ⟨s0, s1, s2, s3, s4, s5, s6, s7, s8, s9, s10, s11, s12, s13⟩; go_simp; with_reducible rfl; rotate_left; go_simp; rfl
    refine take_ (i := 2) (N := some 22) (v := ?_) (a' := ?_) (bA 6 5) rfl rfl (by kernel_rfl) (fun _ _ _ h => h) (Or.inl ⟨by rfl, ?_⟩) hHeld ?_ ?_;rotate_left; rintro w' ⟨s0, s1, s2, s3, s4, s5, s6, s7, s8, s9, s10, s11, s12, s13⟩; go_simp; with_reducible rfl; rotate_left; go_simp; rfl
    refine one_ (i := 1) (N := some 21) (bA 6 7) rfl rfl (by kernel_rfl) (by decide) (fun K hK => ?_);refine gsG Try.func137 (Qg.calls _ _ ql qo qV jm _ _ qU _ _ qN _ _ qF jA _ (cv jC HB) jT.out (cv Zs HB) Zt.out (cv Yl HB) Xc.out (cv Jl HB) XT.out A17.out) ?_;rintro e w21 ⟨qbg, rfl, ho0, hb⟩;refine ⟨_, rfl, ?_⟩;have zq := ak (Kd.R_lower ho0 (below_size bs));replace qc := b1 qc hb;replace qi := b1 qi hb;replace HB := b2s bs hb;refine hK.out _ _ kp (fun hHeld => ?_);(try clear hb)
    (try clear ho0)
    clear hK K;refine norm_ (a' := ?_) ?_ ?_; rotate_left; go_simp; rfl;refine one_ (i := 3) (N := some 23) (bA 6 15) rfl rfl (by kernel_rfl) (by decide) (fun K hK => ?_);refine gsG Try.func137 (Qg.calls _ _ qu zc zQ YW _ _ JG _ _ JM _ _ Zb zr _ (cv yp HB) yC.out (cv qeC HB) qeE.out (cv qgM HB) qgN.out (cv qiC HB) qiF.out A18.out) ?_;rintro e w22 ⟨qx3, rfl, ho0, hb⟩;refine ⟨_, rfl, ?_⟩;have qdB := ak (Kd.R_lower (Kd.R_new' ho0 (Kd.R_lt (rw_ zq.out))) (below_size bs));replace zq := ak (Kd.R_elder' (rw_ zq.out) (Kd.R_base ho0) hb);replace qc := b1 qc hb;replace qi := b1 qi hb;replace HB := b2s bs hb;(try clear hb)
    (try clear ho0)
    obtain ⟨qDM, qDA, qwO⟩ := Kd.R_slice zq.out;(first | subst qwO | (injection qwO with f1_ f2_ f3_; have f4_ := f1_.symm; have f5_ := f3_.symm; clear f1_ f2_ f3_; subst f4_; subst f5_))
    obtain ⟨qDL, qDz, qwN⟩ := Kd.R_slice qdB.out;(first | subst qwN | (injection qwN with f1_ f2_ f3_; have f4_ := f1_.symm; have f5_ := f3_.symm; clear f1_ f2_ f3_; subst f4_; subst f5_))
    refine hK.out _ _ ⟨(blk_cell qc.out 0).trans rfl, (blk_cell qc.out 1).trans rfl, (blk_cell qc.out 2).trans rfl, (blk_cell qc.out 3).trans rfl, (blk_cell qc.out 4).trans rfl, (blk_cell qc.out 5).trans rfl, (blk_cell qc.out 6).trans rfl, (blk_cell qi.out 0).trans rfl, (blk_cell qi.out 1).trans rfl, (blk_cell qi.out 2).trans rfl, (blk_cell qi.out 3).trans rfl, (blk_cell qi.out 4).trans rfl, (blk_cell qi.out 5).trans rfl, (blk_cell qi.out 6).trans rfl⟩ (fun hHeld => ?_);clear hK K;refine norm_ (a' := ?_) ?_ ?_; rotate_left; go_simp; rfl;refine one_ (i := 4) (N := some 24) (bA 6 31) rfl rfl (by kernel_rfl) (by decide) (fun K hK => ?_);refine gsG Try.func136 (yD.calls _ _ jA _ _ zr Za _ ?zA ?yW ?QS ?ZF A19.out) ?_;(case zA => repeat (first | exact (Kd.R_reads' zq.out).2.2 | (with_reducible refine Kd.C_alloc ?_ _) | (with_reducible refine Kd.C_drewN ?_ _) | (with_reducible refine Kd.C_drew ?_)))
    (case yW => exact (Kd.R_reads' zq.out).2.1)
    (case QS => repeat (first | exact (Kd.R_reads' qdB.out).2.2 | (with_reducible refine Kd.C_alloc ?_ _) | (with_reducible refine Kd.C_drewN ?_ _) | (with_reducible refine Kd.C_drew ?_)))
    (case ZF => exact (Kd.R_reads' qdB.out).2.1)
    rintro e w' ⟨rfl, ⟨nd, rfl⟩⟩;refine ⟨_, rfl, ?_⟩;refine hK.out _ _ ⟨(blk_cell qc.out 0).trans rfl, (blk_cell qc.out 1).trans rfl, (blk_cell qc.out 2).trans rfl, (blk_cell qc.out 3).trans rfl, (blk_cell qc.out 4).trans rfl, (blk_cell qc.out 5).trans rfl, (blk_cell qc.out 6).trans rfl, (blk_cell qi.out 0).trans rfl, (blk_cell qi.out 1).trans rfl, (blk_cell qi.out 2).trans rfl, (blk_cell qi.out 3).trans rfl, (blk_cell qi.out 4).trans rfl, (blk_cell qi.out 5).trans rfl, (blk_cell qi.out 6).trans rfl⟩ (fun hHeld => ?_);clear hK K;refine norm_ (a' := ?_) ?_ ?_; rotate_left; go_simp; rfl;refine pure_ (i := 5) (N := some 5) (v := ?_) (a' := ?_) (bA 6 63) rfl rfl (by kernel_rfl) (fun _ _ _ h => h) (Or.inl ⟨by rfl, ?_⟩) ?_ ?_;rotate_left; intro w'; go_simp; with_reducible rfl; rotate_left; go_simp; rfl
    refine done_ (by kernel_rfl) ?_;try go_wp2
    go_ret;exact ⟨o1, bs⟩
   ·obtain rfl := Option.some.inj H;go_wp2;go_ret;exact ⟨o1, bs⟩

end Go.Proofs.Ytagedmajlppohaa.Q
