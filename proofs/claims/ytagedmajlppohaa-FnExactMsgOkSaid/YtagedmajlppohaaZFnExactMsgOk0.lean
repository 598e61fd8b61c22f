/- Printed by a program of this session (wip/myprint.py), which drives the kit's printer: functions and what their calls do. -/
import Derived.Test.YtagedmajlppohaaProg
import Derived.Below
import Derived.Deep.Draws
import Derived.Deep.AppendLies
import Derived.Maps.AppendAt
import Derived.OwnWalk
import Derived.Laws.BytesArg
import Derived.Laws.MakeOwn
import Derived.Laws.OwnMore
import Derived.Deep.OwnRows
import Derived.Tactics
import Derived.Lib.ConvBytes
import Derived.Laws.Slices
import Derived.WalkKit
import Derived.KernelRfl
import Derived.RowKit3
import Derived.Deep.LoopGhost
import Derived.Deep.QuietTactic
import Derived.BigQuiet
import Derived.WideLaws
import Derived.Deep.DeepCutAuto
import Derived.Deep.CutBlock
import Derived.Deep.RegionHeld3
import Derived.Laws.Rows
import Derived.Lib.AppendStr
import Derived.ArgAppend
import Derived.Laws.IdiomCopy
import Derived.OrdersHeld
import Derived.Laws.BitsLemmas
import Derived.RowKit
import Derived.WalkSpells
import Derived.WalkLawsBesides
import Derived.Shelf.Abstract
import Derived.Test.YtagedmajlppohaaVFnExactMsgOk
namespace Go.Proofs.Ytagedmajlppohaa.Q
open Go.RowKit Go Go.Proofs.YtagedmajlppohaaW.PrintWords Go.Proofs.YtagedmajlppohaaW.PrintLast Go.Proofs.YtagedmajlppohaaW.PrintMore

set_option linter.unusedVariables false
set_option linter.unusedSimpArgs false

theorem info3 : (Try.prog.info? 3).map (fun i => (i.zero, i.size, i.bytes)) = some (some (.int .i64 0), 1, 8) := by kernel_rfl
theorem info5 : (Try.prog.info? 5).map (fun i => (i.zero, i.size, i.bytes)) = some (some (.int .u8 0), 1, 1) := by kernel_rfl
theorem info25 : (Try.prog.info? 25).map (fun i => (i.zero, i.size, i.bytes)) = some (some (.slice none 0 0), 1, 24) := by kernel_rfl
theorem info33 : (Try.prog.info? 33).map (fun i => (i.zero, i.size, i.bytes)) = some (some (.agg #[(.slice none 0 0), (.int .i64 0), (.int .i64 0), (.int .i64 0), (.slice none 0 0), (.slice none 0 0), (.slice none 0 0)]), 7, 120) := by kernel_rfl
theorem info200 : (Try.prog.info? 200).map (fun i => (i.zero, i.size, i.bytes)) = some (some (.agg #[(.slice none 0 0), (.int .i64 0)]), 2, 32) := by kernel_rfl
theorem info205 : (Try.prog.info? 205).map (fun i => (i.zero, i.size, i.bytes)) = some (some (.agg #[(.slice none 0 0), (.int .i64 0), (.int .i64 0), (.int .i64 0), (.slice none 0 0), (.slice none 0 0), (.slice none 0 0), (.int .i64 0), (.bool false)]), 9, 136) := by kernel_rfl
-- the values' own types
/-! #### struct type 7 -/
/-! #### struct type 8 -/
/-! #### struct type 13 -/
/-! #### struct type 14 -/
def rd_L10 (xs : List (List Int)) (i : Int) : (List Int) := xs.getD i.toNat ([] : List Int)
theorem at_L10 {w : World} {A : Option Addr} {n : Nat} {xs : List (List Int)} (h : Kd.C (Kd.slice 5 (Kd.int .u8)) w A n xs) (i : Int) (h0 : 0 ≤ i) (h1 : i < n) : ∃ ad A0 c0, A = some ad ∧ w.cell? (ad.add i.toNat) = some (.slice A0 (rd_L10 xs i).length c0) ∧ (rd_L10 xs i).length ≤ c0 ∧ (Kd.int .u8).C w A0 (rd_L10 xs i).length (rd_L10 xs i) := by
  obtain ⟨ad, c, e, _, hK, hc0⟩ := Kd.C_get h ([] : List Int) i h0 h1
  have hc : ∀ j u, c[j]? = some u → w.cell? (ad.add (i.toNat * 1 + j)) = some u := hc0
  obtain ⟨A0, c0, rfl, l0, g0⟩ := hK
  exact ⟨ad, A0, c0, e, by have hq := hc 0 _ rfl; rwa [Nat.mul_one, Nat.add_zero] at hq, l0, g0⟩

/-! #### struct type 23 -/
/-! #### struct type 24 -/
structure S24 where
  f0 : (List (List Int))
def z24 : S24 := ⟨([] : List (List Int))⟩
def k24 : Kd S24 := Kd.iso (Kd.slice 25 (Kd.slice 5 (Kd.int .u8))) (fun x : S24 => x.f0)
theorem k24_open {w : World} {x : S24} {cs : List Value} (h : k24.K w x cs) : ∃ A0 c0, cs = [.slice A0 x.f0.length c0] ∧ x.f0.length ≤ c0 ∧ (Kd.slice 5 (Kd.int .u8)).C w A0 x.f0.length x.f0 := by
  obtain ⟨A0, c0, rfl, l0, g0⟩ := h
  exact ⟨A0, c0, rfl, l0, g0⟩
/-! #### struct type 27 -/
/-! #### struct type 28 -/
structure S28 where
  f0 : S24
  f1 : Int
  f2 : Int
  f3 : Int
  f4 : S24
  f5 : (List Int)
  f6 : (List Int)
def z28 : S28 := ⟨z24, (0 : Int), (0 : Int), (0 : Int), z24, ([] : List Int), ([] : List Int)⟩
def k28 : Kd S28 := Kd.iso (Kd.pair k24 (Kd.pair (Kd.int .i64) (Kd.pair (Kd.int .i64) (Kd.pair (Kd.int .i64) (Kd.pair k24 (Kd.pair (Kd.slice 5 (Kd.int .u8)) (Kd.slice 3 (Kd.int .i64)))))))) (fun x : S28 => (x.f0, x.f1, x.f2, x.f3, x.f4, x.f5, x.f6))
theorem k28_open {w : World} {x : S28} {cs : List Value} (h : k28.K w x cs) : ∃ A0 c0 A4 c4 A5 c5 A6 c6, cs = [.slice A0 x.f0.f0.length c0, .int .i64 x.f1, .int .i64 x.f2, .int .i64 x.f3, .slice A4 x.f4.f0.length c4, .slice A5 x.f5.length c5, .slice A6 x.f6.length c6] ∧ x.f0.f0.length ≤ c0 ∧ (Kd.slice 5 (Kd.int .u8)).C w A0 x.f0.f0.length x.f0.f0 ∧ x.f4.f0.length ≤ c4 ∧ (Kd.slice 5 (Kd.int .u8)).C w A4 x.f4.f0.length x.f4.f0 ∧ x.f5.length ≤ c5 ∧ (Kd.int .u8).C w A5 x.f5.length x.f5 ∧ x.f6.length ≤ c6 ∧ (Kd.int .i64).C w A6 x.f6.length x.f6 := by
  obtain ⟨_, _, rfl, s0, ⟨_, _, rfl, rfl, ⟨_, _, rfl, rfl, ⟨_, _, rfl, rfl, ⟨_, _, rfl, s4, ⟨_, _, rfl, ⟨A5, c5, rfl, l5, g5⟩, ⟨A6, c6, rfl, l6, g6⟩⟩⟩⟩⟩⟩⟩ := h
  obtain ⟨A0, c0, rfl, l0, g0⟩ := k24_open s0
  obtain ⟨A4, c4, rfl, l4, g4⟩ := k24_open s4
  exact ⟨A0, c0, A4, c4, A5, c5, A6, c6, rfl, l0, g0, l4, g4, l5, g5, l6, g6⟩
def rd_T28 (xs : List S28) (i : Int) : S28 := xs.getD i.toNat z28
theorem at_T28 {w : World} {A : Option Addr} {n : Nat} {xs : List S28} (h : Kd.C k28 w A n xs) (i : Int) (h0 : 0 ≤ i) (h1 : i < n) : ∃ ad A0 c0 A4 c4 A5 c5 A6 c6, A = some ad ∧ w.cell? (ad.add (i.toNat * 7)) = some (.slice A0 (rd_T28 xs i).f0.f0.length c0) ∧ w.cell? ⟨(ad.add (i.toNat * 7)).block, (ad.add (i.toNat * 7)).off + 1, none⟩ = some (.int .i64 (rd_T28 xs i).f1) ∧ w.cell? ⟨(ad.add (i.toNat * 7)).block, (ad.add (i.toNat * 7)).off + 2, none⟩ = some (.int .i64 (rd_T28 xs i).f2) ∧ w.cell? ⟨(ad.add (i.toNat * 7)).block, (ad.add (i.toNat * 7)).off + 3, none⟩ = some (.int .i64 (rd_T28 xs i).f3) ∧ w.cell? ⟨(ad.add (i.toNat * 7)).block, (ad.add (i.toNat * 7)).off + 4, none⟩ = some (.slice A4 (rd_T28 xs i).f4.f0.length c4) ∧ w.cell? ⟨(ad.add (i.toNat * 7)).block, (ad.add (i.toNat * 7)).off + 5, none⟩ = some (.slice A5 (rd_T28 xs i).f5.length c5) ∧ w.cell? ⟨(ad.add (i.toNat * 7)).block, (ad.add (i.toNat * 7)).off + 6, none⟩ = some (.slice A6 (rd_T28 xs i).f6.length c6) ∧ (rd_T28 xs i).f0.f0.length ≤ c0 ∧ (Kd.slice 5 (Kd.int .u8)).C w A0 (rd_T28 xs i).f0.f0.length (rd_T28 xs i).f0.f0 ∧ (rd_T28 xs i).f4.f0.length ≤ c4 ∧ (Kd.slice 5 (Kd.int .u8)).C w A4 (rd_T28 xs i).f4.f0.length (rd_T28 xs i).f4.f0 ∧ (rd_T28 xs i).f5.length ≤ c5 ∧ (Kd.int .u8).C w A5 (rd_T28 xs i).f5.length (rd_T28 xs i).f5 ∧ (rd_T28 xs i).f6.length ≤ c6 ∧ (Kd.int .i64).C w A6 (rd_T28 xs i).f6.length (rd_T28 xs i).f6 := by
  obtain ⟨ad, c, e, _, hK, hc0⟩ := Kd.C_get h z28 i h0 h1
  have hc : ∀ j u, c[j]? = some u → w.cell? (ad.add (i.toNat * 7 + j)) = some u := hc0
  obtain ⟨A0, c0, A4, c4, A5, c5, A6, c6, rfl, l0, g0, l4, g4, l5, g5, l6, g6⟩ := k28_open hK
  exact ⟨ad, A0, c0, A4, c4, A5, c5, A6, c6, e, hc 0 _ rfl, by rw [← add_field _ _ 1 (by omega)]; exact hc 1 _ rfl, by rw [← add_field _ _ 2 (by omega)]; exact hc 2 _ rfl, by rw [← add_field _ _ 3 (by omega)]; exact hc 3 _ rfl, by rw [← add_field _ _ 4 (by omega)]; exact hc 4 _ rfl, by rw [← add_field _ _ 5 (by omega)]; exact hc 5 _ rfl, by rw [← add_field _ _ 6 (by omega)]; exact hc 6 _ rfl, l0, g0, l4, g4, l5, g5, l6, g6⟩

/-! #### struct type 31 -/
structure S31 where
  f0 : (List (List Int))
def z31 : S31 := ⟨([] : List (List Int))⟩
def k31 : Kd S31 := Kd.iso (Kd.slice 25 (Kd.slice 5 (Kd.int .u8))) (fun x : S31 => x.f0)
theorem k31_heap : Kd.Heap k31 := Kd.heap_iso _ (Kd.heap_slice 25 (Kd.heap_slice 5 (Kd.heap_int .u8)))
theorem k31_open {w : World} {x : S31} {cs : List Value} (h : k31.K w x cs) : ∃ A0 c0, cs = [.slice A0 x.f0.length c0] ∧ x.f0.length ≤ c0 ∧ (Kd.slice 5 (Kd.int .u8)).C w A0 x.f0.length x.f0 := by
  obtain ⟨A0, c0, rfl, l0, g0⟩ := h
  exact ⟨A0, c0, rfl, l0, g0⟩
theorem k31_openM {w : World} {base : Nat} {ok : Nat → Prop} {x : S31} {cs : List Value} (h : k31.M w base ok x cs) : ∃ v0, cs = [v0] ∧ (Kd.slice 5 (Kd.int .u8)).R 25 w base ok v0 x.f0 := by
  obtain ⟨v0, rfl, g0⟩ := h
  exact ⟨v0, rfl, g0⟩
theorem k31_mkM (w : World) (base : Nat) (ok : Nat → Prop) (x : S31) {v0 : Value} (g0 : (Kd.slice 5 (Kd.int .u8)).R 25 w base ok v0 x.f0) : k31.M w base ok x [v0] := ⟨v0, rfl, g0⟩
/-! #### struct type 32 -/
/-! #### struct type 33 -/
structure S33 where
  f0 : S31
  f1 : Int
  f2 : Int
  f3 : Int
  f4 : S31
  f5 : (List Int)
  f6 : (List Int)
def z33 : S33 := ⟨z31, (0 : Int), (0 : Int), (0 : Int), z31, ([] : List Int), ([] : List Int)⟩
def k33 : Kd S33 := Kd.iso (Kd.pair k31 (Kd.pair (Kd.int .i64) (Kd.pair (Kd.int .i64) (Kd.pair (Kd.int .i64) (Kd.pair k31 (Kd.pair (Kd.slice 5 (Kd.int .u8)) (Kd.slice 3 (Kd.int .i64)))))))) (fun x : S33 => (x.f0, x.f1, x.f2, x.f3, x.f4, x.f5, x.f6))
theorem k33_heap : Kd.Heap k33 := Kd.heap_iso _ (Kd.heap_pair k31_heap (Kd.heap_pair (Kd.heap_int .i64) (Kd.heap_pair (Kd.heap_int .i64) (Kd.heap_pair (Kd.heap_int .i64) (Kd.heap_pair k31_heap (Kd.heap_pair (Kd.heap_slice 5 (Kd.heap_int .u8)) (Kd.heap_slice 3 (Kd.heap_int .i64))))))))
theorem k33_open {w : World} {x : S33} {cs : List Value} (h : k33.K w x cs) : ∃ A0 c0 A4 c4 A5 c5 A6 c6, cs = [.slice A0 x.f0.f0.length c0, .int .i64 x.f1, .int .i64 x.f2, .int .i64 x.f3, .slice A4 x.f4.f0.length c4, .slice A5 x.f5.length c5, .slice A6 x.f6.length c6] ∧ x.f0.f0.length ≤ c0 ∧ (Kd.slice 5 (Kd.int .u8)).C w A0 x.f0.f0.length x.f0.f0 ∧ x.f4.f0.length ≤ c4 ∧ (Kd.slice 5 (Kd.int .u8)).C w A4 x.f4.f0.length x.f4.f0 ∧ x.f5.length ≤ c5 ∧ (Kd.int .u8).C w A5 x.f5.length x.f5 ∧ x.f6.length ≤ c6 ∧ (Kd.int .i64).C w A6 x.f6.length x.f6 := by
  obtain ⟨_, _, rfl, s0, ⟨_, _, rfl, rfl, ⟨_, _, rfl, rfl, ⟨_, _, rfl, rfl, ⟨_, _, rfl, s4, ⟨_, _, rfl, ⟨A5, c5, rfl, l5, g5⟩, ⟨A6, c6, rfl, l6, g6⟩⟩⟩⟩⟩⟩⟩ := h
  obtain ⟨A0, c0, rfl, l0, g0⟩ := k31_open s0
  obtain ⟨A4, c4, rfl, l4, g4⟩ := k31_open s4
  exact ⟨A0, c0, A4, c4, A5, c5, A6, c6, rfl, l0, g0, l4, g4, l5, g5, l6, g6⟩
theorem k33_openM {w : World} {base : Nat} {ok : Nat → Prop} {x : S33} {cs : List Value} (h : k33.M w base ok x cs) : ∃ v0 v4 v5 v6, cs = [v0, .int .i64 x.f1, .int .i64 x.f2, .int .i64 x.f3, v4, v5, v6] ∧ (Kd.slice 5 (Kd.int .u8)).R 25 w base ok v0 x.f0.f0 ∧ (Kd.slice 5 (Kd.int .u8)).R 25 w base ok v4 x.f4.f0 ∧ (Kd.int .u8).R 5 w base ok v5 x.f5 ∧ (Kd.int .i64).R 3 w base ok v6 x.f6 := by
  obtain ⟨_, _, rfl, s0, ⟨_, _, rfl, rfl, ⟨_, _, rfl, rfl, ⟨_, _, rfl, rfl, ⟨_, _, rfl, s4, ⟨_, _, rfl, ⟨v5, rfl, g5⟩, ⟨v6, rfl, g6⟩⟩⟩⟩⟩⟩⟩ := h
  obtain ⟨v0, rfl, g0⟩ := k31_openM s0
  obtain ⟨v4, rfl, g4⟩ := k31_openM s4
  exact ⟨v0, v4, v5, v6, rfl, g0, g4, g5, g6⟩
theorem k33_mkM (w : World) (base : Nat) (ok : Nat → Prop) (x : S33) {v0 : Value} (g0 : (Kd.slice 5 (Kd.int .u8)).R 25 w base ok v0 x.f0.f0) {v4 : Value} (g4 : (Kd.slice 5 (Kd.int .u8)).R 25 w base ok v4 x.f4.f0) {v5 : Value} (g5 : (Kd.int .u8).R 5 w base ok v5 x.f5) {v6 : Value} (g6 : (Kd.int .i64).R 3 w base ok v6 x.f6) : k33.M w base ok x [v0, .int .i64 x.f1, .int .i64 x.f2, .int .i64 x.f3, v4, v5, v6] := ⟨[v0], [.int .i64 x.f1, .int .i64 x.f2, .int .i64 x.f3, v4, v5, v6], rfl, (k31_mkM w base ok x.f0 g0), ⟨[.int .i64 x.f1], [.int .i64 x.f2, .int .i64 x.f3, v4, v5, v6], rfl, rfl, ⟨[.int .i64 x.f2], [.int .i64 x.f3, v4, v5, v6], rfl, rfl, ⟨[.int .i64 x.f3], [v4, v5, v6], rfl, rfl, ⟨[v4], [v5, v6], rfl, (k31_mkM w base ok x.f4 g4), ⟨[v5], [v6], rfl, ⟨v5, rfl, g5⟩, ⟨v6, rfl, g6⟩⟩⟩⟩⟩⟩⟩
theorem k33_openF {W : World} {ok : Nat → Prop} {x : S33} {cs : List Value} (h : Kd.FK k33 W ok x cs) : ∃ A0 c0 A4 c4 A5 c5 A6 c6, cs = [.slice A0 x.f0.f0.length c0, .int .i64 x.f1, .int .i64 x.f2, .int .i64 x.f3, .slice A4 x.f4.f0.length c4, .slice A5 x.f5.length c5, .slice A6 x.f6.length c6] ∧ x.f0.f0.length ≤ c0 ∧ Kd.F (Kd.slice 5 (Kd.int .u8)) W ok A0 x.f0.f0.length x.f0.f0 ∧ x.f4.f0.length ≤ c4 ∧ Kd.F (Kd.slice 5 (Kd.int .u8)) W ok A4 x.f4.f0.length x.f4.f0 ∧ x.f5.length ≤ c5 ∧ Kd.F (Kd.int .u8) W ok A5 x.f5.length x.f5 ∧ x.f6.length ≤ c6 ∧ Kd.F (Kd.int .i64) W ok A6 x.f6.length x.f6 := by
  obtain ⟨A0, c0, A4, c4, A5, c5, A6, c6, rfl, l0, _, l4, _, l5, _, l6, _⟩ := k33_open (Kd.FK_now h)
  exact ⟨A0, c0, A4, c4, A5, c5, A6, c6, rfl, l0, (fun W' hW => by obtain ⟨A0_, c0_, A4_, c4_, A5_, c5_, A6_, c6_, he, l0_, g0_, l4_, g4_, l5_, g5_, l6_, g6_⟩ := k33_open (h W' hW); injection (Option.some.inj (show some (Value.slice A0 x.f0.f0.length c0) = some (Value.slice A0_ x.f0.f0.length c0_) from congrArg (fun l => l[0]?) he)) with ha_ _ _; rw [ha_]; exact g0_), l4, (fun W' hW => by obtain ⟨A0_, c0_, A4_, c4_, A5_, c5_, A6_, c6_, he, l0_, g0_, l4_, g4_, l5_, g5_, l6_, g6_⟩ := k33_open (h W' hW); injection (Option.some.inj (show some (Value.slice A4 x.f4.f0.length c4) = some (Value.slice A4_ x.f4.f0.length c4_) from congrArg (fun l => l[4]?) he)) with ha_ _ _; rw [ha_]; exact g4_), l5, (fun W' hW => by obtain ⟨A0_, c0_, A4_, c4_, A5_, c5_, A6_, c6_, he, l0_, g0_, l4_, g4_, l5_, g5_, l6_, g6_⟩ := k33_open (h W' hW); injection (Option.some.inj (show some (Value.slice A5 x.f5.length c5) = some (Value.slice A5_ x.f5.length c5_) from congrArg (fun l => l[5]?) he)) with ha_ _ _; rw [ha_]; exact g5_), l6, (fun W' hW => by obtain ⟨A0_, c0_, A4_, c4_, A5_, c5_, A6_, c6_, he, l0_, g0_, l4_, g4_, l5_, g5_, l6_, g6_⟩ := k33_open (h W' hW); injection (Option.some.inj (show some (Value.slice A6 x.f6.length c6) = some (Value.slice A6_ x.f6.length c6_) from congrArg (fun l => l[6]?) he)) with ha_ _ _; rw [ha_]; exact g6_)⟩
def rd_T33 (xs : List S33) (i : Int) : S33 := xs.getD i.toNat z33
theorem at_T33 {w : World} {A : Option Addr} {n : Nat} {xs : List S33} (h : Kd.C k33 w A n xs) (i : Int) (h0 : 0 ≤ i) (h1 : i < n) : ∃ ad A0 c0 A4 c4 A5 c5 A6 c6, A = some ad ∧ w.cell? (ad.add (i.toNat * 7)) = some (.slice A0 (rd_T33 xs i).f0.f0.length c0) ∧ w.cell? ⟨(ad.add (i.toNat * 7)).block, (ad.add (i.toNat * 7)).off + 1, none⟩ = some (.int .i64 (rd_T33 xs i).f1) ∧ w.cell? ⟨(ad.add (i.toNat * 7)).block, (ad.add (i.toNat * 7)).off + 2, none⟩ = some (.int .i64 (rd_T33 xs i).f2) ∧ w.cell? ⟨(ad.add (i.toNat * 7)).block, (ad.add (i.toNat * 7)).off + 3, none⟩ = some (.int .i64 (rd_T33 xs i).f3) ∧ w.cell? ⟨(ad.add (i.toNat * 7)).block, (ad.add (i.toNat * 7)).off + 4, none⟩ = some (.slice A4 (rd_T33 xs i).f4.f0.length c4) ∧ w.cell? ⟨(ad.add (i.toNat * 7)).block, (ad.add (i.toNat * 7)).off + 5, none⟩ = some (.slice A5 (rd_T33 xs i).f5.length c5) ∧ w.cell? ⟨(ad.add (i.toNat * 7)).block, (ad.add (i.toNat * 7)).off + 6, none⟩ = some (.slice A6 (rd_T33 xs i).f6.length c6) ∧ (rd_T33 xs i).f0.f0.length ≤ c0 ∧ (Kd.slice 5 (Kd.int .u8)).C w A0 (rd_T33 xs i).f0.f0.length (rd_T33 xs i).f0.f0 ∧ (rd_T33 xs i).f4.f0.length ≤ c4 ∧ (Kd.slice 5 (Kd.int .u8)).C w A4 (rd_T33 xs i).f4.f0.length (rd_T33 xs i).f4.f0 ∧ (rd_T33 xs i).f5.length ≤ c5 ∧ (Kd.int .u8).C w A5 (rd_T33 xs i).f5.length (rd_T33 xs i).f5 ∧ (rd_T33 xs i).f6.length ≤ c6 ∧ (Kd.int .i64).C w A6 (rd_T33 xs i).f6.length (rd_T33 xs i).f6 := by
  obtain ⟨ad, c, e, _, hK, hc0⟩ := Kd.C_get h z33 i h0 h1
  have hc : ∀ j u, c[j]? = some u → w.cell? (ad.add (i.toNat * 7 + j)) = some u := hc0
  obtain ⟨A0, c0, A4, c4, A5, c5, A6, c6, rfl, l0, g0, l4, g4, l5, g5, l6, g6⟩ := k33_open hK
  exact ⟨ad, A0, c0, A4, c4, A5, c5, A6, c6, e, hc 0 _ rfl, by rw [← add_field _ _ 1 (by omega)]; exact hc 1 _ rfl, by rw [← add_field _ _ 2 (by omega)]; exact hc 2 _ rfl, by rw [← add_field _ _ 3 (by omega)]; exact hc 3 _ rfl, by rw [← add_field _ _ 4 (by omega)]; exact hc 4 _ rfl, by rw [← add_field _ _ 5 (by omega)]; exact hc 5 _ rfl, by rw [← add_field _ _ 6 (by omega)]; exact hc 6 _ rfl, l0, g0, l4, g4, l5, g5, l6, g6⟩

/-! #### struct type 53 -/
/-! #### struct type 54 -/
def rd_L23 (xs : List (List S33)) (i : Int) : (List S33) := xs.getD i.toNat ([] : List S33)
/-! #### struct type 58 -/
/-! #### struct type 59 -/
/-! #### struct type 190 -/
/-! #### struct type 73 -/
/-! #### struct type 74 -/
/-! #### struct type 141 -/
/-! #### struct type 78 -/
/-! #### struct type 79 -/
/-! #### struct type 195 -/
structure S195 where
  f0 : S24
  f1 : Int
def z195 : S195 := ⟨z24, (0 : Int)⟩
def k195 : Kd S195 := Kd.iso (Kd.pair k24 (Kd.int .i64)) (fun x : S195 => (x.f0, x.f1))
theorem k195_open {w : World} {x : S195} {cs : List Value} (h : k195.K w x cs) : ∃ A0 c0, cs = [.slice A0 x.f0.f0.length c0, .int .i64 x.f1] ∧ x.f0.f0.length ≤ c0 ∧ (Kd.slice 5 (Kd.int .u8)).C w A0 x.f0.f0.length x.f0.f0 := by
  obtain ⟨_, _, rfl, s0, rfl⟩ := h
  obtain ⟨A0, c0, rfl, l0, g0⟩ := k24_open s0
  exact ⟨A0, c0, rfl, l0, g0⟩
def rd_T195 (xs : List S195) (i : Int) : S195 := xs.getD i.toNat z195
theorem at_T195 {w : World} {A : Option Addr} {n : Nat} {xs : List S195} (h : Kd.C k195 w A n xs) (i : Int) (h0 : 0 ≤ i) (h1 : i < n) : ∃ ad A0 c0, A = some ad ∧ w.cell? (ad.add (i.toNat * 2)) = some (.slice A0 (rd_T195 xs i).f0.f0.length c0) ∧ w.cell? ⟨(ad.add (i.toNat * 2)).block, (ad.add (i.toNat * 2)).off + 1, none⟩ = some (.int .i64 (rd_T195 xs i).f1) ∧ (rd_T195 xs i).f0.f0.length ≤ c0 ∧ (Kd.slice 5 (Kd.int .u8)).C w A0 (rd_T195 xs i).f0.f0.length (rd_T195 xs i).f0.f0 := by
  obtain ⟨ad, c, e, _, hK, hc0⟩ := Kd.C_get h z195 i h0 h1
  have hc : ∀ j u, c[j]? = some u → w.cell? (ad.add (i.toNat * 2 + j)) = some u := hc0
  obtain ⟨A0, c0, rfl, l0, g0⟩ := k195_open hK
  exact ⟨ad, A0, c0, e, hc 0 _ rfl, by rw [← add_field _ _ 1 (by omega)]; exact hc 1 _ rfl, l0, g0⟩

/-! #### struct type 198 -/
structure S198 where
  f0 : S28
  f1 : Int
  f2 : Bool
def z198 : S198 := ⟨z28, (0 : Int), false⟩
def k198 : Kd S198 := Kd.iso (Kd.pair k28 (Kd.pair (Kd.int .i64) Kd.bool)) (fun x : S198 => (x.f0, x.f1, x.f2))
theorem k198_open {w : World} {x : S198} {cs : List Value} (h : k198.K w x cs) : ∃ A0 c0 A4 c4 A5 c5 A6 c6, cs = [.slice A0 x.f0.f0.f0.length c0, .int .i64 x.f0.f1, .int .i64 x.f0.f2, .int .i64 x.f0.f3, .slice A4 x.f0.f4.f0.length c4, .slice A5 x.f0.f5.length c5, .slice A6 x.f0.f6.length c6, .int .i64 x.f1, .bool x.f2] ∧ x.f0.f0.f0.length ≤ c0 ∧ (Kd.slice 5 (Kd.int .u8)).C w A0 x.f0.f0.f0.length x.f0.f0.f0 ∧ x.f0.f4.f0.length ≤ c4 ∧ (Kd.slice 5 (Kd.int .u8)).C w A4 x.f0.f4.f0.length x.f0.f4.f0 ∧ x.f0.f5.length ≤ c5 ∧ (Kd.int .u8).C w A5 x.f0.f5.length x.f0.f5 ∧ x.f0.f6.length ≤ c6 ∧ (Kd.int .i64).C w A6 x.f0.f6.length x.f0.f6 := by
  obtain ⟨_, _, rfl, s0, ⟨_, _, rfl, rfl, rfl⟩⟩ := h
  obtain ⟨A0, c0, A4, c4, A5, c5, A6, c6, rfl, l0, g0, l4, g4, l5, g5, l6, g6⟩ := k28_open s0
  exact ⟨A0, c0, A4, c4, A5, c5, A6, c6, rfl, l0, g0, l4, g4, l5, g5, l6, g6⟩
def rd_T198 (xs : List S198) (i : Int) : S198 := xs.getD i.toNat z198
theorem at_T198 {w : World} {A : Option Addr} {n : Nat} {xs : List S198} (h : Kd.C k198 w A n xs) (i : Int) (h0 : 0 ≤ i) (h1 : i < n) : ∃ ad A0 c0 A4 c4 A5 c5 A6 c6, A = some ad ∧ w.cell? (ad.add (i.toNat * 9)) = some (.slice A0 (rd_T198 xs i).f0.f0.f0.length c0) ∧ w.cell? ⟨(ad.add (i.toNat * 9)).block, (ad.add (i.toNat * 9)).off + 1, none⟩ = some (.int .i64 (rd_T198 xs i).f0.f1) ∧ w.cell? ⟨(ad.add (i.toNat * 9)).block, (ad.add (i.toNat * 9)).off + 2, none⟩ = some (.int .i64 (rd_T198 xs i).f0.f2) ∧ w.cell? ⟨(ad.add (i.toNat * 9)).block, (ad.add (i.toNat * 9)).off + 3, none⟩ = some (.int .i64 (rd_T198 xs i).f0.f3) ∧ w.cell? ⟨(ad.add (i.toNat * 9)).block, (ad.add (i.toNat * 9)).off + 4, none⟩ = some (.slice A4 (rd_T198 xs i).f0.f4.f0.length c4) ∧ w.cell? ⟨(ad.add (i.toNat * 9)).block, (ad.add (i.toNat * 9)).off + 5, none⟩ = some (.slice A5 (rd_T198 xs i).f0.f5.length c5) ∧ w.cell? ⟨(ad.add (i.toNat * 9)).block, (ad.add (i.toNat * 9)).off + 6, none⟩ = some (.slice A6 (rd_T198 xs i).f0.f6.length c6) ∧ w.cell? ⟨(ad.add (i.toNat * 9)).block, (ad.add (i.toNat * 9)).off + 7, none⟩ = some (.int .i64 (rd_T198 xs i).f1) ∧ w.cell? ⟨(ad.add (i.toNat * 9)).block, (ad.add (i.toNat * 9)).off + 8, none⟩ = some (.bool (rd_T198 xs i).f2) ∧ (rd_T198 xs i).f0.f0.f0.length ≤ c0 ∧ (Kd.slice 5 (Kd.int .u8)).C w A0 (rd_T198 xs i).f0.f0.f0.length (rd_T198 xs i).f0.f0.f0 ∧ (rd_T198 xs i).f0.f4.f0.length ≤ c4 ∧ (Kd.slice 5 (Kd.int .u8)).C w A4 (rd_T198 xs i).f0.f4.f0.length (rd_T198 xs i).f0.f4.f0 ∧ (rd_T198 xs i).f0.f5.length ≤ c5 ∧ (Kd.int .u8).C w A5 (rd_T198 xs i).f0.f5.length (rd_T198 xs i).f0.f5 ∧ (rd_T198 xs i).f0.f6.length ≤ c6 ∧ (Kd.int .i64).C w A6 (rd_T198 xs i).f0.f6.length (rd_T198 xs i).f0.f6 := by
  obtain ⟨ad, c, e, _, hK, hc0⟩ := Kd.C_get h z198 i h0 h1
  have hc : ∀ j u, c[j]? = some u → w.cell? (ad.add (i.toNat * 9 + j)) = some u := hc0
  obtain ⟨A0, c0, A4, c4, A5, c5, A6, c6, rfl, l0, g0, l4, g4, l5, g5, l6, g6⟩ := k198_open hK
  exact ⟨ad, A0, c0, A4, c4, A5, c5, A6, c6, e, hc 0 _ rfl, by rw [← add_field _ _ 1 (by omega)]; exact hc 1 _ rfl, by rw [← add_field _ _ 2 (by omega)]; exact hc 2 _ rfl, by rw [← add_field _ _ 3 (by omega)]; exact hc 3 _ rfl, by rw [← add_field _ _ 4 (by omega)]; exact hc 4 _ rfl, by rw [← add_field _ _ 5 (by omega)]; exact hc 5 _ rfl, by rw [← add_field _ _ 6 (by omega)]; exact hc 6 _ rfl, by rw [← add_field _ _ 7 (by omega)]; exact hc 7 _ rfl, by rw [← add_field _ _ 8 (by omega)]; exact hc 8 _ rfl, l0, g0, l4, g4, l5, g5, l6, g6⟩

/-! #### struct type 85 -/
/-! #### struct type 86 -/
structure S86 where
  f0 : Int
  f1 : Bool
  f2 : Int
  f3 : Bool
  f4 : Int
  f5 : (List S195)
  f6 : (List S28)
  f7 : (List S28)
  f8 : (List S28)
  f9 : (List S198)
  f10 : (List S198)
def k86 : Kd S86 := Kd.iso (Kd.pair (Kd.int .i64) (Kd.pair Kd.bool (Kd.pair (Kd.int .i64) (Kd.pair Kd.bool (Kd.pair (Kd.int .i64) (Kd.pair (Kd.slice 195 k195) (Kd.pair (Kd.slice 28 k28) (Kd.pair (Kd.slice 28 k28) (Kd.pair (Kd.slice 28 k28) (Kd.pair (Kd.slice 198 k198) (Kd.slice 198 k198))))))))))) (fun x : S86 => (x.f0, x.f1, x.f2, x.f3, x.f4, x.f5, x.f6, x.f7, x.f8, x.f9, x.f10))
theorem k86_open {w : World} {x : S86} {cs : List Value} (h : k86.K w x cs) : ∃ A5 c5 A6 c6 A7 c7 A8 c8 A9 c9 A10 c10, cs = [.int .i64 x.f0, .bool x.f1, .int .i64 x.f2, .bool x.f3, .int .i64 x.f4, .slice A5 x.f5.length c5, .slice A6 x.f6.length c6, .slice A7 x.f7.length c7, .slice A8 x.f8.length c8, .slice A9 x.f9.length c9, .slice A10 x.f10.length c10] ∧ x.f5.length ≤ c5 ∧ k195.C w A5 x.f5.length x.f5 ∧ x.f6.length ≤ c6 ∧ k28.C w A6 x.f6.length x.f6 ∧ x.f7.length ≤ c7 ∧ k28.C w A7 x.f7.length x.f7 ∧ x.f8.length ≤ c8 ∧ k28.C w A8 x.f8.length x.f8 ∧ x.f9.length ≤ c9 ∧ k198.C w A9 x.f9.length x.f9 ∧ x.f10.length ≤ c10 ∧ k198.C w A10 x.f10.length x.f10 := by
  obtain ⟨_, _, rfl, rfl, ⟨_, _, rfl, rfl, ⟨_, _, rfl, rfl, ⟨_, _, rfl, rfl, ⟨_, _, rfl, rfl, ⟨_, _, rfl, ⟨A5, c5, rfl, l5, g5⟩, ⟨_, _, rfl, ⟨A6, c6, rfl, l6, g6⟩, ⟨_, _, rfl, ⟨A7, c7, rfl, l7, g7⟩, ⟨_, _, rfl, ⟨A8, c8, rfl, l8, g8⟩, ⟨_, _, rfl, ⟨A9, c9, rfl, l9, g9⟩, ⟨A10, c10, rfl, l10, g10⟩⟩⟩⟩⟩⟩⟩⟩⟩⟩⟩ := h
  exact ⟨A5, c5, A6, c6, A7, c7, A8, c8, A9, c9, A10, c10, rfl, l5, g5, l6, g6, l7, g7, l8, g8, l9, g9, l10, g10⟩
/-! #### struct type 200 -/
structure S200 where
  f0 : S31
  f1 : Int
def z200 : S200 := ⟨z31, (0 : Int)⟩
def k200 : Kd S200 := Kd.iso (Kd.pair k31 (Kd.int .i64)) (fun x : S200 => (x.f0, x.f1))
theorem k200_open {w : World} {x : S200} {cs : List Value} (h : k200.K w x cs) : ∃ A0 c0, cs = [.slice A0 x.f0.f0.length c0, .int .i64 x.f1] ∧ x.f0.f0.length ≤ c0 ∧ (Kd.slice 5 (Kd.int .u8)).C w A0 x.f0.f0.length x.f0.f0 := by
  obtain ⟨_, _, rfl, s0, rfl⟩ := h
  obtain ⟨A0, c0, rfl, l0, g0⟩ := k31_open s0
  exact ⟨A0, c0, rfl, l0, g0⟩
theorem k200_openM {w : World} {base : Nat} {ok : Nat → Prop} {x : S200} {cs : List Value} (h : k200.M w base ok x cs) : ∃ v0, cs = [v0, .int .i64 x.f1] ∧ (Kd.slice 5 (Kd.int .u8)).R 25 w base ok v0 x.f0.f0 := by
  obtain ⟨_, _, rfl, s0, rfl⟩ := h
  obtain ⟨v0, rfl, g0⟩ := k31_openM s0
  exact ⟨v0, rfl, g0⟩
theorem k200_mkM (w : World) (base : Nat) (ok : Nat → Prop) (x : S200) {v0 : Value} (g0 : (Kd.slice 5 (Kd.int .u8)).R 25 w base ok v0 x.f0.f0) : k200.M w base ok x [v0, .int .i64 x.f1] := ⟨[v0], [.int .i64 x.f1], rfl, (k31_mkM w base ok x.f0 g0), rfl⟩
def rd_T200 (xs : List S200) (i : Int) : S200 := xs.getD i.toNat z200
theorem at_T200 {w : World} {A : Option Addr} {n : Nat} {xs : List S200} (h : Kd.C k200 w A n xs) (i : Int) (h0 : 0 ≤ i) (h1 : i < n) : ∃ ad A0 c0, A = some ad ∧ w.cell? (ad.add (i.toNat * 2)) = some (.slice A0 (rd_T200 xs i).f0.f0.length c0) ∧ w.cell? ⟨(ad.add (i.toNat * 2)).block, (ad.add (i.toNat * 2)).off + 1, none⟩ = some (.int .i64 (rd_T200 xs i).f1) ∧ (rd_T200 xs i).f0.f0.length ≤ c0 ∧ (Kd.slice 5 (Kd.int .u8)).C w A0 (rd_T200 xs i).f0.f0.length (rd_T200 xs i).f0.f0 := by
  obtain ⟨ad, c, e, _, hK, hc0⟩ := Kd.C_get h z200 i h0 h1
  have hc : ∀ j u, c[j]? = some u → w.cell? (ad.add (i.toNat * 2 + j)) = some u := hc0
  obtain ⟨A0, c0, rfl, l0, g0⟩ := k200_open hK
  exact ⟨ad, A0, c0, e, hc 0 _ rfl, by rw [← add_field _ _ 1 (by omega)]; exact hc 1 _ rfl, l0, g0⟩

/-! #### struct type 205 -/
structure S205 where
  f0 : S33
  f1 : Int
  f2 : Bool
def z205 : S205 := ⟨z33, (0 : Int), false⟩
def k205 : Kd S205 := Kd.iso (Kd.pair k33 (Kd.pair (Kd.int .i64) Kd.bool)) (fun x : S205 => (x.f0, x.f1, x.f2))
theorem k205_open {w : World} {x : S205} {cs : List Value} (h : k205.K w x cs) : ∃ A0 c0 A4 c4 A5 c5 A6 c6, cs = [.slice A0 x.f0.f0.f0.length c0, .int .i64 x.f0.f1, .int .i64 x.f0.f2, .int .i64 x.f0.f3, .slice A4 x.f0.f4.f0.length c4, .slice A5 x.f0.f5.length c5, .slice A6 x.f0.f6.length c6, .int .i64 x.f1, .bool x.f2] ∧ x.f0.f0.f0.length ≤ c0 ∧ (Kd.slice 5 (Kd.int .u8)).C w A0 x.f0.f0.f0.length x.f0.f0.f0 ∧ x.f0.f4.f0.length ≤ c4 ∧ (Kd.slice 5 (Kd.int .u8)).C w A4 x.f0.f4.f0.length x.f0.f4.f0 ∧ x.f0.f5.length ≤ c5 ∧ (Kd.int .u8).C w A5 x.f0.f5.length x.f0.f5 ∧ x.f0.f6.length ≤ c6 ∧ (Kd.int .i64).C w A6 x.f0.f6.length x.f0.f6 := by
  obtain ⟨_, _, rfl, s0, ⟨_, _, rfl, rfl, rfl⟩⟩ := h
  obtain ⟨A0, c0, A4, c4, A5, c5, A6, c6, rfl, l0, g0, l4, g4, l5, g5, l6, g6⟩ := k33_open s0
  exact ⟨A0, c0, A4, c4, A5, c5, A6, c6, rfl, l0, g0, l4, g4, l5, g5, l6, g6⟩
theorem k205_openM {w : World} {base : Nat} {ok : Nat → Prop} {x : S205} {cs : List Value} (h : k205.M w base ok x cs) : ∃ v0 v4 v5 v6, cs = [v0, .int .i64 x.f0.f1, .int .i64 x.f0.f2, .int .i64 x.f0.f3, v4, v5, v6, .int .i64 x.f1, .bool x.f2] ∧ (Kd.slice 5 (Kd.int .u8)).R 25 w base ok v0 x.f0.f0.f0 ∧ (Kd.slice 5 (Kd.int .u8)).R 25 w base ok v4 x.f0.f4.f0 ∧ (Kd.int .u8).R 5 w base ok v5 x.f0.f5 ∧ (Kd.int .i64).R 3 w base ok v6 x.f0.f6 := by
  obtain ⟨_, _, rfl, s0, ⟨_, _, rfl, rfl, rfl⟩⟩ := h
  obtain ⟨v0, v4, v5, v6, rfl, g0, g4, g5, g6⟩ := k33_openM s0
  exact ⟨v0, v4, v5, v6, rfl, g0, g4, g5, g6⟩
theorem k205_mkM (w : World) (base : Nat) (ok : Nat → Prop) (x : S205) {v0 : Value} (g0 : (Kd.slice 5 (Kd.int .u8)).R 25 w base ok v0 x.f0.f0.f0) {v4 : Value} (g4 : (Kd.slice 5 (Kd.int .u8)).R 25 w base ok v4 x.f0.f4.f0) {v5 : Value} (g5 : (Kd.int .u8).R 5 w base ok v5 x.f0.f5) {v6 : Value} (g6 : (Kd.int .i64).R 3 w base ok v6 x.f0.f6) : k205.M w base ok x [v0, .int .i64 x.f0.f1, .int .i64 x.f0.f2, .int .i64 x.f0.f3, v4, v5, v6, .int .i64 x.f1, .bool x.f2] := ⟨[v0, .int .i64 x.f0.f1, .int .i64 x.f0.f2, .int .i64 x.f0.f3, v4, v5, v6], [.int .i64 x.f1, .bool x.f2], rfl, (k33_mkM w base ok x.f0 g0 g4 g5 g6), ⟨[.int .i64 x.f1], [.bool x.f2], rfl, rfl, rfl⟩⟩
def rd_T205 (xs : List S205) (i : Int) : S205 := xs.getD i.toNat z205
theorem at_T205 {w : World} {A : Option Addr} {n : Nat} {xs : List S205} (h : Kd.C k205 w A n xs) (i : Int) (h0 : 0 ≤ i) (h1 : i < n) : ∃ ad A0 c0 A4 c4 A5 c5 A6 c6, A = some ad ∧ w.cell? (ad.add (i.toNat * 9)) = some (.slice A0 (rd_T205 xs i).f0.f0.f0.length c0) ∧ w.cell? ⟨(ad.add (i.toNat * 9)).block, (ad.add (i.toNat * 9)).off + 1, none⟩ = some (.int .i64 (rd_T205 xs i).f0.f1) ∧ w.cell? ⟨(ad.add (i.toNat * 9)).block, (ad.add (i.toNat * 9)).off + 2, none⟩ = some (.int .i64 (rd_T205 xs i).f0.f2) ∧ w.cell? ⟨(ad.add (i.toNat * 9)).block, (ad.add (i.toNat * 9)).off + 3, none⟩ = some (.int .i64 (rd_T205 xs i).f0.f3) ∧ w.cell? ⟨(ad.add (i.toNat * 9)).block, (ad.add (i.toNat * 9)).off + 4, none⟩ = some (.slice A4 (rd_T205 xs i).f0.f4.f0.length c4) ∧ w.cell? ⟨(ad.add (i.toNat * 9)).block, (ad.add (i.toNat * 9)).off + 5, none⟩ = some (.slice A5 (rd_T205 xs i).f0.f5.length c5) ∧ w.cell? ⟨(ad.add (i.toNat * 9)).block, (ad.add (i.toNat * 9)).off + 6, none⟩ = some (.slice A6 (rd_T205 xs i).f0.f6.length c6) ∧ w.cell? ⟨(ad.add (i.toNat * 9)).block, (ad.add (i.toNat * 9)).off + 7, none⟩ = some (.int .i64 (rd_T205 xs i).f1) ∧ w.cell? ⟨(ad.add (i.toNat * 9)).block, (ad.add (i.toNat * 9)).off + 8, none⟩ = some (.bool (rd_T205 xs i).f2) ∧ (rd_T205 xs i).f0.f0.f0.length ≤ c0 ∧ (Kd.slice 5 (Kd.int .u8)).C w A0 (rd_T205 xs i).f0.f0.f0.length (rd_T205 xs i).f0.f0.f0 ∧ (rd_T205 xs i).f0.f4.f0.length ≤ c4 ∧ (Kd.slice 5 (Kd.int .u8)).C w A4 (rd_T205 xs i).f0.f4.f0.length (rd_T205 xs i).f0.f4.f0 ∧ (rd_T205 xs i).f0.f5.length ≤ c5 ∧ (Kd.int .u8).C w A5 (rd_T205 xs i).f0.f5.length (rd_T205 xs i).f0.f5 ∧ (rd_T205 xs i).f0.f6.length ≤ c6 ∧ (Kd.int .i64).C w A6 (rd_T205 xs i).f0.f6.length (rd_T205 xs i).f0.f6 := by
  obtain ⟨ad, c, e, _, hK, hc0⟩ := Kd.C_get h z205 i h0 h1
  have hc : ∀ j u, c[j]? = some u → w.cell? (ad.add (i.toNat * 9 + j)) = some u := hc0
  obtain ⟨A0, c0, A4, c4, A5, c5, A6, c6, rfl, l0, g0, l4, g4, l5, g5, l6, g6⟩ := k205_open hK
  exact ⟨ad, A0, c0, A4, c4, A5, c5, A6, c6, e, hc 0 _ rfl, by rw [← add_field _ _ 1 (by omega)]; exact hc 1 _ rfl, by rw [← add_field _ _ 2 (by omega)]; exact hc 2 _ rfl, by rw [← add_field _ _ 3 (by omega)]; exact hc 3 _ rfl, by rw [← add_field _ _ 4 (by omega)]; exact hc 4 _ rfl, by rw [← add_field _ _ 5 (by omega)]; exact hc 5 _ rfl, by rw [← add_field _ _ 6 (by omega)]; exact hc 6 _ rfl, by rw [← add_field _ _ 7 (by omega)]; exact hc 7 _ rfl, by rw [← add_field _ _ 8 (by omega)]; exact hc 8 _ rfl, l0, g0, l4, g4, l5, g5, l6, g6⟩

def rd_L43 (xs : List (List S205)) (i : Int) : (List S205) := xs.getD i.toNat ([] : List S205)
/-! #### struct type 91 -/
/-! #### struct type 92 -/
/-! #### struct type 122 -/
/-! #### struct type 123 -/
/-! #### struct type 140 -/
/-! #### struct type 179 -/
/-! #### struct type 180 -/
/-! #### struct type 189 -/
/-! #### struct type 194 -/
/-! #### struct type 197 -/
/-! #### struct type 199 -/
/-! #### struct type 204 -/
/-- One world is another one with blocks made and draws taken. -/
def Gr (A W : World) : Prop := Below A.heap.size A W
instance Gr.refl_ (A : World) : Nonempty (Gr A A) := ⟨Below.refl _ _⟩
instance Gr.alloc_ (A W : World) (o : Obj) [h : Nonempty (Gr A W)] : Nonempty (Gr A (W.alloc o)) := h.elim fun h => ⟨below_alloc h o⟩
instance Gr.drew_ (A W : World) [h : Nonempty (Gr A W)] : Nonempty (Gr A W.drew) := h.elim fun h => ⟨below_drew h⟩
instance Gr.drewN_ (A W : World) (n : Nat) [h : Nonempty (Gr A W)] : Nonempty (Gr A (W.drewN n)) := h.elim fun h => ⟨pw_below_drewN h n⟩
section
variable {α : Type} {d : Kd α} {e base n : Nat} {ok : Nat → Prop} {w W W' : World} {v : Value} {xs : List α} {A : Option Addr}
theorem bw (h : Below w.heap.size w W) [g : Nonempty (Gr W W')] : Below w.heap.size w W' := g.elim fun g => below_step h g
theorem bk {g : Nat} {o : Obj} (h : W.heap[g]? = some o) [k : Nonempty (Gr W W')] : W'.heap[g]? = some o := k.elim fun k => blk_below h k
theorem cw (h : d.C w A n xs) (hb : Below w.heap.size w W) [g : Nonempty (Gr W W')] : d.C W' A n xs := Kd.C_below h (bw hb)
theorem rw_ (h : d.R e W base ok v xs) [g : Nonempty (Gr W W')] : d.R e W' base ok v xs := g.elim fun g => Kd.R_below h g
theorem sw (h : d.S e W base ok v xs) [g : Nonempty (Gr W W')] : d.S e W' base ok v xs := g.elim fun g => Kd.S_below h g
end
section
variable {W : World} {g t : Nat} {a b c d e f x y z : Value}
theorem cells1 (h : W.heap[g]? = some (.cells #[a] t (0, 0))) : W.cell? ⟨g, 0, none⟩ = some a ∧ W.frozen? ⟨g, 0, none⟩ = false := ⟨(blk_cell h 0).trans rfl, blk_frozen h 0⟩
theorem cells2 (h : W.heap[g]? = some (.cells #[a, b] t (0, 0))) : W.cell? ⟨g, 0, none⟩ = some a ∧ W.cell? ⟨g, 1, none⟩ = some b ∧ W.frozen? ⟨g, 0, none⟩ = false ∧ W.frozen? ⟨g, 1, none⟩ = false :=
  ⟨(blk_cell h 0).trans rfl, (blk_cell h 1).trans rfl, blk_frozen h 0, blk_frozen h 1⟩
theorem cells7 (h : W.heap[g]? = some (.cells #[a, b, c, d, e, f, x] t (0, 0))) : W.cell? ⟨g, 0, none⟩ = some a ∧ W.cell? ⟨g, 1, none⟩ = some b ∧ W.cell? ⟨g, 2, none⟩ = some c ∧ W.cell? ⟨g, 3, none⟩ = some d ∧ W.cell? ⟨g, 4, none⟩ = some e ∧ W.cell? ⟨g, 5, none⟩ = some f ∧ W.cell? ⟨g, 6, none⟩ = some x ∧ W.frozen? ⟨g, 0, none⟩ = false ∧ W.frozen? ⟨g, 1, none⟩ = false ∧ W.frozen? ⟨g, 2, none⟩ = false ∧ W.frozen? ⟨g, 3, none⟩ = false ∧ W.frozen? ⟨g, 4, none⟩ = false ∧ W.frozen? ⟨g, 5, none⟩ = false ∧ W.frozen? ⟨g, 6, none⟩ = false :=
  ⟨(blk_cell h 0).trans rfl, (blk_cell h 1).trans rfl, (blk_cell h 2).trans rfl, (blk_cell h 3).trans rfl, (blk_cell h 4).trans rfl, (blk_cell h 5).trans rfl, (blk_cell h 6).trans rfl, blk_frozen h 0, blk_frozen h 1, blk_frozen h 2, blk_frozen h 3, blk_frozen h 4, blk_frozen h 5, blk_frozen h 6⟩
theorem cells9 (h : W.heap[g]? = some (.cells #[a, b, c, d, e, f, x, y, z] t (0, 0))) : W.cell? ⟨g, 0, none⟩ = some a ∧ W.cell? ⟨g, 1, none⟩ = some b ∧ W.cell? ⟨g, 2, none⟩ = some c ∧ W.cell? ⟨g, 3, none⟩ = some d ∧ W.cell? ⟨g, 4, none⟩ = some e ∧ W.cell? ⟨g, 5, none⟩ = some f ∧ W.cell? ⟨g, 6, none⟩ = some x ∧ W.cell? ⟨g, 7, none⟩ = some y ∧ W.cell? ⟨g, 8, none⟩ = some z ∧ W.frozen? ⟨g, 0, none⟩ = false ∧ W.frozen? ⟨g, 1, none⟩ = false ∧ W.frozen? ⟨g, 2, none⟩ = false ∧ W.frozen? ⟨g, 3, none⟩ = false ∧ W.frozen? ⟨g, 4, none⟩ = false ∧ W.frozen? ⟨g, 5, none⟩ = false ∧ W.frozen? ⟨g, 6, none⟩ = false ∧ W.frozen? ⟨g, 7, none⟩ = false ∧ W.frozen? ⟨g, 8, none⟩ = false :=
  ⟨(blk_cell h 0).trans rfl, (blk_cell h 1).trans rfl, (blk_cell h 2).trans rfl, (blk_cell h 3).trans rfl, (blk_cell h 4).trans rfl, (blk_cell h 5).trans rfl, (blk_cell h 6).trans rfl, (blk_cell h 7).trans rfl, (blk_cell h 8).trans rfl, blk_frozen h 0, blk_frozen h 1, blk_frozen h 2, blk_frozen h 3, blk_frozen h 4, blk_frozen h 5, blk_frozen h 6, blk_frozen h 7, blk_frozen h 8⟩
end
section
variable {P : Program} {ops : Array Oper} {rest : List Oper} {o : Oper} {a : Act} {Q : Exit → Act → World → Prop}
/-- A struct's variable is made. -/
theorem boxed {w W0 W : World} {N : Tmp} (_hN : o.dst = some N) (hgd : o.guard = none) {cs : Array Value} {t : TypeId} (hB : Below w.heap.size w W0) [gr : Nonempty (Gr W0 W)]
    (hrun : (execOp a.eval o).run P W = .ok (.value (.pointer (some ⟨W.heap.size, 0, none⟩))) (W.alloc (.cells cs t (0, 0))))
    (h : ∀ g, ∀ w1, g = W.heap.size → Aside0 (Below w.heap.size w w1) → Aside0 (w1.heap[g]? = some (.cells cs t (0, 0))) → Aside0 (w.heap.size ≤ g) → Below W.heap.size W w1 → wpList P ops Q rest (a.put o.dst (.pointer (some ⟨g, 0, none⟩))) w1) : wpList P ops Q (o :: rest) a W := by
  have hB' : Below w.heap.size w W := bw hB
  exact box_event hgd _hN hrun (fun g hg w1 hbox hb => h g w1 hg ⟨below_step hB' hb⟩ ⟨hbox⟩ ⟨by rw [hg]; exact hB'.size⟩ hb)
end
section
variable {α : Type} {d : Kd α} {e base g k t : Nat} {ok : Nat → Prop} {W : World} {v : Value} {xs : List α} {cs : Array Value} {l : List Nat}
end
/-- Which operations of a region are done: n places, told by a number's bits. -/
def bA (n m : Nat) : Array Bool := ((List.range n).map fun i => m.testBit i).toArray
section
variable {α : Type} {d : Kd α} {e base g g' t : Nat} {ok : Nat → Prop} {W W1 : World} {v : Value} {xs : List α} {cs : Array Value} {fr : Nat × Nat}
theorem far7R {v0 v1 v2 v3 v4 v5 v6 : Value} (h : Kd.R d e W base ok v xs) [k : Nonempty (Gr W W1)] (hb : W1.heap[g]? = some (.cells cs t (0, 0))) (ht : ∀ q, q ∈ e :: d.E → q ≠ t) : Kd.R d e (((((((W1.setCell ⟨g, 0, none⟩ v0).setCell ⟨g, 1, none⟩ v1).setCell ⟨g, 2, none⟩ v2).setCell ⟨g, 3, none⟩ v3).setCell ⟨g, 4, none⟩ v4).setCell ⟨g, 5, none⟩ v5).setCell ⟨g, 6, none⟩ v6) base ok v xs :=
  Kd.R_mono (Kd.R_far (p := ⟨g, 6, none⟩) (Kd.R_far (p := ⟨g, 5, none⟩) (Kd.R_far (p := ⟨g, 4, none⟩) (Kd.R_far (p := ⟨g, 3, none⟩) (Kd.R_far (p := ⟨g, 2, none⟩) (Kd.R_far (p := ⟨g, 1, none⟩) (Kd.R_far (p := ⟨g, 0, none⟩) (Kd.R_types (rw_ h) hb ht) (fun _ hk => hk.2) _) (fun _ hk => hk.2) _) (fun _ hk => hk.2) _) (fun _ hk => hk.2) _) (fun _ hk => hk.2) _) (fun _ hk => hk.2) _) (fun _ hk => hk.2) _) (fun _ h_ => h_.1)
theorem bfar7 {v0 v1 v2 v3 v4 v5 v6 : Value} (hn : g ≠ g') (h : W.heap[g]? = some (.cells cs t (0, 0))) [k : Nonempty (Gr W W1)] : (((((((W1.setCell ⟨g', 0, none⟩ v0).setCell ⟨g', 1, none⟩ v1).setCell ⟨g', 2, none⟩ v2).setCell ⟨g', 3, none⟩ v3).setCell ⟨g', 4, none⟩ v4).setCell ⟨g', 5, none⟩ v5).setCell ⟨g', 6, none⟩ v6).heap[g]? = some (.cells cs t (0, 0)) := (blk_far (blk_far (blk_far (blk_far (blk_far (blk_far (blk_far (bk h) hn _) hn _) hn _) hn _) hn _) hn _) hn _)
theorem bput7 {v0 v1 v2 v3 v4 v5 v6 z0 z1 z2 z3 z4 z5 z6 : Value} (h : W.heap[g]? = some (.cells #[z0, z1, z2, z3, z4, z5, z6] t (0, 0))) [k : Nonempty (Gr W W1)] : (((((((W1.setCell ⟨g, 0, none⟩ v0).setCell ⟨g, 1, none⟩ v1).setCell ⟨g, 2, none⟩ v2).setCell ⟨g, 3, none⟩ v3).setCell ⟨g, 4, none⟩ v4).setCell ⟨g, 5, none⟩ v5).setCell ⟨g, 6, none⟩ v6).heap[g]? = some (.cells #[v0, v1, v2, v3, v4, v5, v6] t (0, 0)) := (blk_put (cs' := #[v0, v1, v2, v3, v4, v5, v6]) (blk_put (cs' := #[v0, v1, v2, v3, v4, v5, z6]) (blk_put (cs' := #[v0, v1, v2, v3, v4, z5, z6]) (blk_put (cs' := #[v0, v1, v2, v3, z4, z5, z6]) (blk_put (cs' := #[v0, v1, v2, z3, z4, z5, z6]) (blk_put (cs' := #[v0, v1, z2, z3, z4, z5, z6]) (blk_put (cs' := #[v0, z1, z2, z3, z4, z5, z6]) (bk h) 0 v0 rfl) 1 v1 rfl) 2 v2 rfl) 3 v3 rfl) 4 v4 rfl) 5 v5 rfl) 6 v6 rfl)
theorem far9R {v0 v1 v2 v3 v4 v5 v6 v7 v8 : Value} (h : Kd.R d e W base ok v xs) [k : Nonempty (Gr W W1)] (hb : W1.heap[g]? = some (.cells cs t (0, 0))) (ht : ∀ q, q ∈ e :: d.E → q ≠ t) : Kd.R d e (((((((((W1.setCell ⟨g, 0, none⟩ v0).setCell ⟨g, 1, none⟩ v1).setCell ⟨g, 2, none⟩ v2).setCell ⟨g, 3, none⟩ v3).setCell ⟨g, 4, none⟩ v4).setCell ⟨g, 5, none⟩ v5).setCell ⟨g, 6, none⟩ v6).setCell ⟨g, 7, none⟩ v7).setCell ⟨g, 8, none⟩ v8) base ok v xs :=
  Kd.R_mono (Kd.R_far (p := ⟨g, 8, none⟩) (Kd.R_far (p := ⟨g, 7, none⟩) (Kd.R_far (p := ⟨g, 6, none⟩) (Kd.R_far (p := ⟨g, 5, none⟩) (Kd.R_far (p := ⟨g, 4, none⟩) (Kd.R_far (p := ⟨g, 3, none⟩) (Kd.R_far (p := ⟨g, 2, none⟩) (Kd.R_far (p := ⟨g, 1, none⟩) (Kd.R_far (p := ⟨g, 0, none⟩) (Kd.R_types (rw_ h) hb ht) (fun _ hk => hk.2) _) (fun _ hk => hk.2) _) (fun _ hk => hk.2) _) (fun _ hk => hk.2) _) (fun _ hk => hk.2) _) (fun _ hk => hk.2) _) (fun _ hk => hk.2) _) (fun _ hk => hk.2) _) (fun _ hk => hk.2) _) (fun _ h_ => h_.1)
theorem bfar9 {v0 v1 v2 v3 v4 v5 v6 v7 v8 : Value} (hn : g ≠ g') (h : W.heap[g]? = some (.cells cs t (0, 0))) [k : Nonempty (Gr W W1)] : (((((((((W1.setCell ⟨g', 0, none⟩ v0).setCell ⟨g', 1, none⟩ v1).setCell ⟨g', 2, none⟩ v2).setCell ⟨g', 3, none⟩ v3).setCell ⟨g', 4, none⟩ v4).setCell ⟨g', 5, none⟩ v5).setCell ⟨g', 6, none⟩ v6).setCell ⟨g', 7, none⟩ v7).setCell ⟨g', 8, none⟩ v8).heap[g]? = some (.cells cs t (0, 0)) := (blk_far (blk_far (blk_far (blk_far (blk_far (blk_far (blk_far (blk_far (blk_far (bk h) hn _) hn _) hn _) hn _) hn _) hn _) hn _) hn _) hn _)
theorem bput9 {v0 v1 v2 v3 v4 v5 v6 v7 v8 z0 z1 z2 z3 z4 z5 z6 z7 z8 : Value} (h : W.heap[g]? = some (.cells #[z0, z1, z2, z3, z4, z5, z6, z7, z8] t (0, 0))) [k : Nonempty (Gr W W1)] : (((((((((W1.setCell ⟨g, 0, none⟩ v0).setCell ⟨g, 1, none⟩ v1).setCell ⟨g, 2, none⟩ v2).setCell ⟨g, 3, none⟩ v3).setCell ⟨g, 4, none⟩ v4).setCell ⟨g, 5, none⟩ v5).setCell ⟨g, 6, none⟩ v6).setCell ⟨g, 7, none⟩ v7).setCell ⟨g, 8, none⟩ v8).heap[g]? = some (.cells #[v0, v1, v2, v3, v4, v5, v6, v7, v8] t (0, 0)) := (blk_put (cs' := #[v0, v1, v2, v3, v4, v5, v6, v7, v8]) (blk_put (cs' := #[v0, v1, v2, v3, v4, v5, v6, v7, z8]) (blk_put (cs' := #[v0, v1, v2, v3, v4, v5, v6, z7, z8]) (blk_put (cs' := #[v0, v1, v2, v3, v4, v5, z6, z7, z8]) (blk_put (cs' := #[v0, v1, v2, v3, v4, z5, z6, z7, z8]) (blk_put (cs' := #[v0, v1, v2, v3, z4, z5, z6, z7, z8]) (blk_put (cs' := #[v0, v1, v2, z3, z4, z5, z6, z7, z8]) (blk_put (cs' := #[v0, v1, z2, z3, z4, z5, z6, z7, z8]) (blk_put (cs' := #[v0, z1, z2, z3, z4, z5, z6, z7, z8]) (bk h) 0 v0 rfl) 1 v1 rfl) 2 v2 rfl) 3 v3 rfl) 4 v4 rfl) 5 v5 rfl) 6 v6 rfl) 7 v7 rfl) 8 v8 rfl)
theorem far11R {v0 v1 v2 v3 v4 v5 v6 v7 v8 v9 v10 : Value} (h : Kd.R d e W base ok v xs) [k : Nonempty (Gr W W1)] (hb : W1.heap[g]? = some (.cells cs t (0, 0))) (ht : ∀ q, q ∈ e :: d.E → q ≠ t) : Kd.R d e (((((((((((W1.setCell ⟨g, 0, none⟩ v0).setCell ⟨g, 1, none⟩ v1).setCell ⟨g, 2, none⟩ v2).setCell ⟨g, 3, none⟩ v3).setCell ⟨g, 4, none⟩ v4).setCell ⟨g, 5, none⟩ v5).setCell ⟨g, 6, none⟩ v6).setCell ⟨g, 7, none⟩ v7).setCell ⟨g, 8, none⟩ v8).setCell ⟨g, 9, none⟩ v9).setCell ⟨g, 10, none⟩ v10) base ok v xs :=
  Kd.R_mono (Kd.R_far (p := ⟨g, 10, none⟩) (Kd.R_far (p := ⟨g, 9, none⟩) (Kd.R_far (p := ⟨g, 8, none⟩) (Kd.R_far (p := ⟨g, 7, none⟩) (Kd.R_far (p := ⟨g, 6, none⟩) (Kd.R_far (p := ⟨g, 5, none⟩) (Kd.R_far (p := ⟨g, 4, none⟩) (Kd.R_far (p := ⟨g, 3, none⟩) (Kd.R_far (p := ⟨g, 2, none⟩) (Kd.R_far (p := ⟨g, 1, none⟩) (Kd.R_far (p := ⟨g, 0, none⟩) (Kd.R_types (rw_ h) hb ht) (fun _ hk => hk.2) _) (fun _ hk => hk.2) _) (fun _ hk => hk.2) _) (fun _ hk => hk.2) _) (fun _ hk => hk.2) _) (fun _ hk => hk.2) _) (fun _ hk => hk.2) _) (fun _ hk => hk.2) _) (fun _ hk => hk.2) _) (fun _ hk => hk.2) _) (fun _ hk => hk.2) _) (fun _ h_ => h_.1)
theorem bfar11 {v0 v1 v2 v3 v4 v5 v6 v7 v8 v9 v10 : Value} (hn : g ≠ g') (h : W.heap[g]? = some (.cells cs t (0, 0))) [k : Nonempty (Gr W W1)] : (((((((((((W1.setCell ⟨g', 0, none⟩ v0).setCell ⟨g', 1, none⟩ v1).setCell ⟨g', 2, none⟩ v2).setCell ⟨g', 3, none⟩ v3).setCell ⟨g', 4, none⟩ v4).setCell ⟨g', 5, none⟩ v5).setCell ⟨g', 6, none⟩ v6).setCell ⟨g', 7, none⟩ v7).setCell ⟨g', 8, none⟩ v8).setCell ⟨g', 9, none⟩ v9).setCell ⟨g', 10, none⟩ v10).heap[g]? = some (.cells cs t (0, 0)) := (blk_far (blk_far (blk_far (blk_far (blk_far (blk_far (blk_far (blk_far (blk_far (blk_far (blk_far (bk h) hn _) hn _) hn _) hn _) hn _) hn _) hn _) hn _) hn _) hn _) hn _)
theorem bput11 {v0 v1 v2 v3 v4 v5 v6 v7 v8 v9 v10 z0 z1 z2 z3 z4 z5 z6 z7 z8 z9 z10 : Value} (h : W.heap[g]? = some (.cells #[z0, z1, z2, z3, z4, z5, z6, z7, z8, z9, z10] t (0, 0))) [k : Nonempty (Gr W W1)] : (((((((((((W1.setCell ⟨g, 0, none⟩ v0).setCell ⟨g, 1, none⟩ v1).setCell ⟨g, 2, none⟩ v2).setCell ⟨g, 3, none⟩ v3).setCell ⟨g, 4, none⟩ v4).setCell ⟨g, 5, none⟩ v5).setCell ⟨g, 6, none⟩ v6).setCell ⟨g, 7, none⟩ v7).setCell ⟨g, 8, none⟩ v8).setCell ⟨g, 9, none⟩ v9).setCell ⟨g, 10, none⟩ v10).heap[g]? = some (.cells #[v0, v1, v2, v3, v4, v5, v6, v7, v8, v9, v10] t (0, 0)) := (blk_put (cs' := #[v0, v1, v2, v3, v4, v5, v6, v7, v8, v9, v10]) (blk_put (cs' := #[v0, v1, v2, v3, v4, v5, v6, v7, v8, v9, z10]) (blk_put (cs' := #[v0, v1, v2, v3, v4, v5, v6, v7, v8, z9, z10]) (blk_put (cs' := #[v0, v1, v2, v3, v4, v5, v6, v7, z8, z9, z10]) (blk_put (cs' := #[v0, v1, v2, v3, v4, v5, v6, z7, z8, z9, z10]) (blk_put (cs' := #[v0, v1, v2, v3, v4, v5, z6, z7, z8, z9, z10]) (blk_put (cs' := #[v0, v1, v2, v3, v4, z5, z6, z7, z8, z9, z10]) (blk_put (cs' := #[v0, v1, v2, v3, z4, z5, z6, z7, z8, z9, z10]) (blk_put (cs' := #[v0, v1, v2, z3, z4, z5, z6, z7, z8, z9, z10]) (blk_put (cs' := #[v0, v1, z2, z3, z4, z5, z6, z7, z8, z9, z10]) (blk_put (cs' := #[v0, z1, z2, z3, z4, z5, z6, z7, z8, z9, z10]) (bk h) 0 v0 rfl) 1 v1 rfl) 2 v2 rfl) 3 v3 rfl) 4 v4 rfl) 5 v5 rfl) 6 v6 rfl) 7 v7 rfl) 8 v8 rfl) 9 v9 rfl) 10 v10 rfl)
end

section
variable {α β : Type} {A B r : Option α}
theorem bnd {o : Option β} {f : β → Option α} {r : α} (h : o.bind f = some r) : ∃ x, Aside0 (o = some x) ∧ f x = some r := (Option.bind_eq_some_iff.mp h).elim fun x h => ⟨x, ⟨h.1⟩, h.2⟩
theorem bnS {x : β} {f : β → Option α} (h : (some x).bind f = r) : f x = r := h
theorem ib {t : Bool} (h : (if t = true then A else B) = r) : (t = true ∧ A = r) ∨ (t = false ∧ B = r) := by cases t; exact .inr ⟨rfl, h⟩; exact .inl ⟨rfl, h⟩
theorem ibN {t : Bool} {r : α} (h : (if t = true then A else none) = some r) : t = true ∧ A = some r := by cases t; cases h; exact ⟨rfl, h⟩
section
variable {p : Prop} [Decidable p]
theorem iq (h : (if p then A else B) = r) : (p ∧ A = r) ∨ (¬ p ∧ B = r) := by
  by_cases c : p
  · exact .inl ⟨c, by rwa [if_pos c] at h⟩
  · exact .inr ⟨c, by rwa [if_neg c] at h⟩
theorem iqN {r : α} (h : (if p then A else none) = some r) : p ∧ A = some r := by
  obtain h | h := iq h
  · exact h
  · cases h.2
theorem ip (h : (if p then A else B) = r) : (decide p = true ∧ A = r) ∨ (decide p = false ∧ B = r) := (iq h).imp (fun h => ⟨decide_eq_true h.1, h.2⟩) (fun h => ⟨decide_eq_false h.1, h.2⟩)
theorem ipN {r : α} (h : (if p then A else none) = some r) : decide p = true ∧ A = some r := ⟨decide_eq_true (iqN h).1, (iqN h).2⟩
theorem ipE {r : α} (h : (if p then A else none) = some r) : p = True ∧ decide p = true ∧ A = some r := ⟨eq_true (iqN h).1, decide_eq_true (iqN h).1, (iqN h).2⟩
end
section
variable {a b : Int}
theorem ig (h : (if a > b then A else B) = r) : (decide (b < a) = true ∧ A = r) ∨ (decide (b < a) = false ∧ B = r) := ip h
theorem ih (h : (if a ≥ b then A else B) = r) : (decide (b ≤ a) = true ∧ A = r) ∨ (decide (b ≤ a) = false ∧ B = r) := ip h
end
section
variable {τ : Type} [BEq τ] [LawfulBEq τ] {a b : τ} [Decidable (a = b)]
theorem ie (h : (if a = b then A else B) = r) : ((a == b) = true ∧ (a != b) = false ∧ A = r) ∨ ((a == b) = false ∧ (a != b) = true ∧ B = r) := (iq h).imp (fun h => ⟨beq_iff_eq.mpr h.1, bne_eq_false_iff_eq.mpr h.1, h.2⟩) (fun h => ⟨beq_eq_false_iff_ne.mpr h.1, bne_iff_ne.mpr h.1, h.2⟩)
end
end
theorem lnT {a b : Nat} (h : ((a : Int) == (b : Int)) = true) : (a == b) = true := by have := beq_iff_eq.mp h; exact beq_iff_eq.mpr (by omega)
theorem lnF {a b : Nat} (h : ((a : Int) == (b : Int)) = false) : (a == b) = false := by have := beq_eq_false_iff_ne.mp h; exact beq_eq_false_iff_ne.mpr (by omega)
section
variable {α : Type} {d : Kd α} {e base n g t : Nat} {ok : Nat → Prop} {w W W' W2 : World} {v : Value} {xs : List α} {A : Option Addr} {o : Obj}
theorem ak {p : Prop} (h : p) : Aside0 p := ⟨h⟩
theorem cv (h : Aside0 (d.C w A n xs)) (hb : Aside0 (Below w.heap.size w W)) [Nonempty (Gr W W')] : d.C W' A n xs := cw h.out hb.out
theorem cd (h : Aside0 (d.C w A n xs)) [g : Nonempty (Gr w W')] : d.C W' A n xs := g.elim fun g => Kd.C_below h.out g
theorem nw (h : d.N e W base ok v xs) [g : Nonempty (Gr W W')] : d.N e W' base ok v xs := g.elim fun g => Kd.N_below h g
theorem vw (h : d.V e W base ok v xs) [g : Nonempty (Gr W W')] : d.V e W' base ok v xs := g.elim fun g => Kd.V_below h g
theorem b1 (h : Aside0 (W.heap[g]? = some o)) [Nonempty (Gr W W')] (hb : Below W'.heap.size W' W2) : Aside0 (W2.heap[g]? = some o) := ⟨blk_below (bk h.out) hb⟩
theorem b2 (h : Aside0 (Below w.heap.size w W)) [Nonempty (Gr W W')] (hb : Below W'.heap.size W' W2) : Aside0 (Below w.heap.size w W2) := ⟨below_step (bw h.out) hb⟩
theorem b2s (h : Below w.heap.size w W) (hb : Below W.heap.size W W2) : Aside0 (Below w.heap.size w W2) := ⟨below_step h hb⟩
theorem b3 (hg : g = W'.heap.size) (h : Aside0 (Below w.heap.size w W)) [Nonempty (Gr W W')] : Aside0 (w.heap.size ≤ g) := ⟨by rw [hg]; exact below_size (bw h.out)⟩
theorem b3s (hg : g = W.heap.size) (h : Below w.heap.size w W) : Aside0 (w.heap.size ≤ g) := ⟨by rw [hg]; exact below_size h⟩
theorem b4 {g1 : Nat} (hg : g = W'.heap.size) (h : Aside0 (W.heap[g1]? = some o)) [Nonempty (Gr W W')] : Aside0 (g1 ≠ g) := ⟨by rw [hg]; exact Nat.ne_of_lt (blk_lt (bk h.out))⟩
theorem b5 {g1 : Nat} (hg : g = W'.heap.size) (h : Aside0 (W.heap[g1]? = some o)) [Nonempty (Gr W W')] : Aside0 (g ≠ g1) := ⟨by rw [hg]; exact Nat.ne_of_gt (blk_lt (bk h.out))⟩
end
/-- What was is still as it was: through stores into blocks that were made since. -/
theorem bs {p : Prop} (h : p := by repeat (first | (with_reducible refine below_set ?_ (Aside0.out (by with_reducible assumption))) | exact bw HB.out)) : p := h
theorem o1 {p : Prop} (h : p := by first | rfl | (simp [errW_none, errW_some] <;> rfl) | (simp [*, errW_none, errW_some] <;> rfl)) : p := h
theorem o2 {p : Prop} (h : p := by first | rfl | (simp; done) | (simp [*]; done)) : p := h
theorem od {p : Prop} (h : p := by repeat (first | exact Drawn0.refl _ | apply Drawn0.step)) : p := h
theorem kq {p : Prop} (h : p := by (repeat' apply And.intro) <;> first | (with_reducible assumption) | exact (blk_cell (Aside0.out (by with_reducible assumption)) _).trans rfl | exact pw_cell_below HB.out (by with_reducible assumption)) : p := h
theorem o3 {p : Prop} (h : p := by first | omega | exact Nat.le_refl _) : p := h
section
variable {P : Program} {ops : Array Oper} {rest : List Oper} {oi : Oper} {a : Act} {Q : Exit → Act → World → Prop}
/-- A call. -/
theorem glG {w : World} (N : Tmp) (hd : oi.dst = some N) {f : FuncId} {fn : Func} {zs : Array Operand} {ts : Array TypeId} (hop : oi.op = .call { callee := .value (.func f), args := zs, argTypes := ts }) (hf : P.funcs[f]? = some fn) {args : Array Value} {R : Ending → World → Prop} (hc : Calls P f args w R)
    (h : ∀ e w', R e w' → ∃ v, e = .returned v ∧ wpList P ops Q rest (a.put (some N) v) w') (hg : oi.guard = none := by rfl)
    (hname : (fn.name == "runtime.NumGoroutine") = false := by kernel_rfl) (hb : fn.body.isSome = true := by rfl)
    (hargs : zs.map a.eval = args := by (try simp only [List.map_toArray, List.map_cons, List.map_nil]); first | done | rfl | (simp only [List.length_drop, List.length_take]; rfl)) : wpList P ops Q (oi :: rest) a w :=
  goesL_ (some N) hd hg hf hname hb args hop hargs (hc.mono h)
theorem glD {w : World} (N : Tmp) (hd : oi.dst = some N) {f : FuncId} {fn : Func} {zs : Array Operand} {ts : Array TypeId} (hop : oi.op = .call { callee := .value (.func f), args := zs, argTypes := ts }) (hf : P.funcs[f]? = some fn) {args : Array Value} {v : Value} (hc : Calls P f args w fun e w' => e = .returned v ∧ Drawn0 w w')
    (h : ∀ nd, wpList P ops Q rest (a.put (some N) v) (w.drewN nd)) (hg : oi.guard = none := by rfl)
    (hname : (fn.name == "runtime.NumGoroutine") = false := by kernel_rfl) (hb : fn.body.isSome = true := by rfl)
    (hargs : zs.map a.eval = args := by (try simp only [List.map_toArray, List.map_cons, List.map_nil]); first | done | rfl | (simp only [List.length_drop, List.length_take]; rfl)) : wpList P ops Q (oi :: rest) a w :=
  goesL_ (some N) hd hg hf hname hb args hop hargs (hc.mono fun e w' h2 => ⟨v, h2.1, by obtain ⟨nd, rfl⟩ := h2.2; exact h nd⟩)
theorem glB {w : World} (N : Tmp) (hd : oi.dst = some N) {f : FuncId} {fn : Func} {zs : Array Operand} {ts : Array TypeId} (hop : oi.op = .call { callee := .value (.func f), args := zs, argTypes := ts }) (hf : P.funcs[f]? = some fn) {args : Array Value} {v : Value} (hc : Calls P f args w fun e w' => e = .returned v ∧ Below w.heap.size w w')
    (h : ∀ w', Below w.heap.size w w' → wpList P ops Q rest (a.put (some N) v) w') (hg : oi.guard = none := by rfl)
    (hname : (fn.name == "runtime.NumGoroutine") = false := by kernel_rfl) (hb : fn.body.isSome = true := by rfl)
    (hargs : zs.map a.eval = args := by (try simp only [List.map_toArray, List.map_cons, List.map_nil]); first | done | rfl | (simp only [List.length_drop, List.length_take]; rfl)) : wpList P ops Q (oi :: rest) a w :=
  goesL_ (some N) hd hg hf hname hb args hop hargs (hc.mono fun e w' h2 => ⟨v, h2.1, h w' h2.2⟩)
end
section
variable {P : Program} {ops : Array Oper} {oi : Oper} {Q : Exit → Act → World → Prop} {md : Region.Mode} {S : World → Prop} {ds : List Nat} {T : Bool × List (List Nat × List Nat)} {n m fuel : Nat} {a a' : Act} {w : World}
/-- Steps of a region: one that yields a value; one that is not wanted; a load; a call. -/
theorem pu (hT : Aside0 (rtab md ops = T)) (i : Nat) {N : Nat} {v : Value} (h : wpAnyLast P md ops Q S ds fuel (bA n (m + 2 ^ i)) a' w) (hi : ops[i]? = some oi := by rfl) (hN : oi.dst = some N := by rfl)
    (hc : anyT T (bA n m).toList (bA n (m + 2 ^ i)).toList i = true := by kernel_rfl) (hw : Region.wanted oi (yielded ops a.tmps) = true := by rfl)
    (hy : ∀ w, (execOp a.eval oi).run P w = .ok (.value v) w := by intro w'; go_simp; with_reducible rfl) (ha : a.put (some N) v = a' := by go_simp; rfl)
    (hQ : ∀ c a w, Q (.panic c) (a.put oi.dst v) w → Q (.panic c) a w := by exact fun _ _ _ h => h) : wpAnyLast P md ops Q S ds (fuel + 1) (bA n m) a w :=
  pure_ (i := i) _ hi hN (any_of hT.out hc) hQ (.inl ⟨hw, hy⟩) ha h
theorem ta {B : List Nat} (hT : Aside0 (rtab md ops = T)) (hB : Aside0 (waitsOk T.2 B = true)) (hS : S w) (i : Nat) {N : Nat} {v : Value} (h : wpAnyLast P md ops Q S ds fuel (bA n (m + 2 ^ i)) a' w) (hi : ops[i]? = some oi := by rfl) (hN : oi.dst = some N := by rfl)
    (hc : takeW T B ds (bA n m).toList (bA n (m + 2 ^ i)).toList i = true := by kernel_rfl) (hw : Region.wanted oi (yielded ops a.tmps) = true := by rfl)
    (hy : ∀ w, S w → (execOp a.eval oi).run P w = .ok (.value v) w := by intro w' hS; (repeat (obtain ⟨_, hS⟩ := hS)); go_simp; with_reducible rfl) (ha : a.put (some N) v = a' := by go_simp; rfl)
    (hQ : ∀ c a w, Q (.panic c) (a.put oi.dst v) w → Q (.panic c) a w := by exact fun _ _ _ h => h) : wpAnyLast P md ops Q S ds (fuel + 1) (bA n m) a w :=
  take_ (i := i) _ hi hN (take_ofW hT.out hB.out hc) hQ (.inl ⟨hw, hy⟩) hS ha h
theorem on (hT : Aside0 (rtab md ops = T)) (i : Nat) {N : Option Tmp}
    (h : ∀ K : Act → World → Prop, Shut (∀ a' w', S w' → (S w' → wpAnyLast P md ops Q S ds fuel (bA n (m + 2 ^ i)) a' w') → K a' w') → if Region.wanted oi (yielded ops a.tmps) = true then Oper.wp P oi a w K Q else K (a.put N undef) w)
    (hi : ops[i]? = some oi := by rfl) (hN : oi.dst = N := by rfl) (hc : (readyT T.2 (bA n m).toList == [i] && (bA n m).toList.set i true == (bA n (m + 2 ^ i)).toList) = true := by kernel_rfl) (hd : i ∉ ds := by decide) : wpAnyLast P md ops Q S ds (fuel + 1) (bA n m) a w :=
  one_ (i := i) _ hi hN (one_of hT.out hc) hd h
theorem gsG {K : Act → World → Prop} {f : FuncId} {fn : Func} (hf : P.funcs[f]? = some fn) {zs : Array Operand} {ts : Array TypeId} {args : Array Value} {N : Option Tmp} {R : Ending → World → Prop} (hc : Calls P f args w R)
    (h : ∀ e w', R e w' → ∃ v, e = .returned v ∧ K (a.put N v) w') (hop : oi.op = .call { callee := .value (.func f), args := zs, argTypes := ts } := by rfl) (hN : oi.dst = N := by rfl) (hw : Region.wanted oi (yielded ops a.tmps) = true := by rfl)
    (hname : (fn.name == "runtime.NumGoroutine") = false := by kernel_rfl) (hb : fn.body.isSome = true := by rfl)
    (hargs : zs.map a.eval = args := by (try simp only [List.map_toArray, List.map_cons, List.map_nil]); first | done | rfl | (simp only [List.length_drop, List.length_take]; rfl)) : if Region.wanted oi (yielded ops a.tmps) = true then Oper.wp P oi a w K Q else K (a.put N undef) w :=
  goes_ hf hname hb args hw hN hop hargs (hc.mono h)
theorem gsB {K : Act → World → Prop} {f : FuncId} {fn : Func} (hf : P.funcs[f]? = some fn) {zs : Array Operand} {ts : Array TypeId} {args : Array Value} {N : Option Tmp} {v : Value} (hc : Calls P f args w fun e w' => e = .returned v ∧ Below w.heap.size w w')
    (h : ∀ w', Below w.heap.size w w' → K (a.put N v) w') (hop : oi.op = .call { callee := .value (.func f), args := zs, argTypes := ts } := by rfl) (hN : oi.dst = N := by rfl) (hw : Region.wanted oi (yielded ops a.tmps) = true := by rfl)
    (hname : (fn.name == "runtime.NumGoroutine") = false := by kernel_rfl) (hb : fn.body.isSome = true := by rfl)
    (hargs : zs.map a.eval = args := by (try simp only [List.map_toArray, List.map_cons, List.map_nil]); first | done | rfl | (simp only [List.length_drop, List.length_take]; rfl)) : if Region.wanted oi (yielded ops a.tmps) = true then Oper.wp P oi a w K Q else K (a.put N undef) w :=
  goes_ hf hname hb args hw hN hop hargs (hc.mono fun e w' h2 => ⟨v, h2.1, h w' h2.2⟩)
theorem kp {p : Prop} (h : p := by (have h_ := hHeld); (repeat (obtain ⟨_, h_⟩ := h_)); ((repeat' apply And.intro) <;> exact pw_cell_below hb (by with_reducible assumption))) : p := h
end
section
variable {P : Program} {ops : Array Oper} {rest : List Oper} {o : Oper} {a : Act} {Q : Exit → Act → World → Prop}
/-- A struct's variable is made. -/
theorem bxe {W : World} {N : Tmp} (hd : o.dst = some N) {cs : Array Value} {t : TypeId}
    (h : ∀ g, g = W.heap.size → ∀ w1, w1.heap[g]? = some (.cells cs t (0, 0)) → Below W.heap.size W w1 → wpList P ops Q rest (a.put o.dst (.pointer (some ⟨g, 0, none⟩))) w1) (hgd : o.guard = none := by rfl)
    (hrun : (execOp a.eval o).run P W = .ok (.value (.pointer (some ⟨W.heap.size, 0, none⟩))) (W.alloc (.cells cs t (0, 0))) := by first | (go_simp; done) | (go_simp; rfl)) : wpList P ops Q (o :: rest) a W := box_event hgd hd hrun h
theorem bxd {w W0 W : World} {N : Tmp} (hd : o.dst = some N) {cs : Array Value} {t : TypeId} (hB : Aside0 (Below w.heap.size w W0)) [gr : Nonempty (Gr W0 W)]
    (h : ∀ g, ∀ w1, g = W.heap.size → Aside0 (Below w.heap.size w w1) → Aside0 (w1.heap[g]? = some (.cells cs t (0, 0))) → Aside0 (w.heap.size ≤ g) → Below W.heap.size W w1 → wpList P ops Q rest (a.put o.dst (.pointer (some ⟨g, 0, none⟩))) w1) (hgd : o.guard = none := by rfl)
    (hrun : (execOp a.eval o).run P W = .ok (.value (.pointer (some ⟨W.heap.size, 0, none⟩))) (W.alloc (.cells cs t (0, 0))) := by first | (go_simp; done) | (go_simp; rfl)) : wpList P ops Q (o :: rest) a W := boxed hd hgd hB.out hrun h
end
theorem el_int {k : IntKind} {xs : List Int} {w W : World} {A : Option Addr} {n : Nat} (h : Aside0 (Kd.C (Kd.int k) w A n xs)) (hb : Aside0 (Below w.heap.size w W)) (i : Int) (h0 : decide (0 ≤ i) = true := by first | (with_reducible assumption) | assumption) (h1 : decide (i < n) = true := by first | (with_reducible assumption) | assumption) : ∃ ad, A = some ad ∧ W.cell? (ad.add i.toNat) = some (.int k (rd xs i)) ∧ (0 ≤ i) = True ∧ (i < n) = True := by
  obtain ⟨ad, e, x0⟩ := Kd.at_int h.out i (of_decide_eq_true h0) (of_decide_eq_true h1)
  exact ⟨ad, e, pw_cell_below hb.out x0, eq_true (of_decide_eq_true h0), eq_true (of_decide_eq_true h1)⟩
theorem el0_int {k : IntKind} {xs : List Int} {w : World} {A : Option Addr} {n : Nat} (h : Aside0 (Kd.C (Kd.int k) w A n xs)) (i : Int) (h0 : decide (0 ≤ i) = true := by first | (with_reducible assumption) | assumption) (h1 : decide (i < n) = true := by first | (with_reducible assumption) | assumption) : ∃ ad, A = some ad ∧ w.cell? (ad.add i.toNat) = some (.int k (rd xs i)) ∧ (0 ≤ i) = True ∧ (i < n) = True := by
  obtain ⟨ad, e, x0⟩ := Kd.at_int h.out i (of_decide_eq_true h0) (of_decide_eq_true h1)
  exact ⟨ad, e, x0, eq_true (of_decide_eq_true h0), eq_true (of_decide_eq_true h1)⟩
theorem el20_int {k : IntKind} {xs : List Int} {w : World} {ad : Addr} {n : Nat} (h : Aside0 (Kd.C (Kd.int k) w (some ad) n xs)) (i : Int) (h0 : decide (0 ≤ i) = true := by first | (with_reducible assumption) | assumption) (h1 : decide (i < n) = true := by first | (with_reducible assumption) | assumption) : w.cell? (ad.add i.toNat) = some (.int k (rd xs i)) ∧ (0 ≤ i) = True ∧ (i < n) = True := by
  obtain ⟨ad', e, x0⟩ := Kd.at_int h.out i (of_decide_eq_true h0) (of_decide_eq_true h1)
  obtain rfl := Option.some.inj e
  exact ⟨x0, eq_true (of_decide_eq_true h0), eq_true (of_decide_eq_true h1)⟩
theorem el_L10 {xs : List (List Int)} {w W : World} {A : Option Addr} {n : Nat} (h : Aside0 (Kd.C (Kd.slice 5 (Kd.int .u8)) w A n xs)) (hb : Aside0 (Below w.heap.size w W)) (i : Int) (h0 : decide (0 ≤ i) = true := by first | (with_reducible assumption) | assumption) (h1 : decide (i < n) = true := by first | (with_reducible assumption) | assumption) : ∃ ad A0 c0, A = some ad ∧ W.cell? (ad.add i.toNat) = some (.slice A0 (rd_L10 xs i).length c0) ∧ Aside0 ((rd_L10 xs i).length ≤ c0) ∧ Aside0 ((Kd.int .u8).C w A0 (rd_L10 xs i).length (rd_L10 xs i)) ∧ (0 ≤ i) = True ∧ (i < n) = True := by
  obtain ⟨ad, A0, c0, e, x0, y0, y1⟩ := at_L10 h.out i (of_decide_eq_true h0) (of_decide_eq_true h1)
  exact ⟨ad, A0, c0, e, pw_cell_below hb.out x0, ⟨y0⟩, ⟨y1⟩, eq_true (of_decide_eq_true h0), eq_true (of_decide_eq_true h1)⟩
theorem el0_L10 {xs : List (List Int)} {w : World} {A : Option Addr} {n : Nat} (h : Aside0 (Kd.C (Kd.slice 5 (Kd.int .u8)) w A n xs)) (i : Int) (h0 : decide (0 ≤ i) = true := by first | (with_reducible assumption) | assumption) (h1 : decide (i < n) = true := by first | (with_reducible assumption) | assumption) : ∃ ad A0 c0, A = some ad ∧ w.cell? (ad.add i.toNat) = some (.slice A0 (rd_L10 xs i).length c0) ∧ Aside0 ((rd_L10 xs i).length ≤ c0) ∧ Aside0 ((Kd.int .u8).C w A0 (rd_L10 xs i).length (rd_L10 xs i)) ∧ (0 ≤ i) = True ∧ (i < n) = True := by
  obtain ⟨ad, A0, c0, e, x0, y0, y1⟩ := at_L10 h.out i (of_decide_eq_true h0) (of_decide_eq_true h1)
  exact ⟨ad, A0, c0, e, x0, ⟨y0⟩, ⟨y1⟩, eq_true (of_decide_eq_true h0), eq_true (of_decide_eq_true h1)⟩
theorem el_T28 {xs : List S28} {w W : World} {A : Option Addr} {n : Nat} (h : Aside0 (Kd.C k28 w A n xs)) (hb : Aside0 (Below w.heap.size w W)) (i : Int) (h0 : decide (0 ≤ i) = true := by first | (with_reducible assumption) | assumption) (h1 : decide (i < n) = true := by first | (with_reducible assumption) | assumption) : ∃ ad A0 c0 A4 c4 A5 c5 A6 c6, A = some ad ∧ W.cell? (ad.add (i.toNat * 7)) = some (.slice A0 (rd_T28 xs i).f0.f0.length c0) ∧ W.cell? ⟨(ad.add (i.toNat * 7)).block, (ad.add (i.toNat * 7)).off + 1, none⟩ = some (.int .i64 (rd_T28 xs i).f1) ∧ W.cell? ⟨(ad.add (i.toNat * 7)).block, (ad.add (i.toNat * 7)).off + 2, none⟩ = some (.int .i64 (rd_T28 xs i).f2) ∧ W.cell? ⟨(ad.add (i.toNat * 7)).block, (ad.add (i.toNat * 7)).off + 3, none⟩ = some (.int .i64 (rd_T28 xs i).f3) ∧ W.cell? ⟨(ad.add (i.toNat * 7)).block, (ad.add (i.toNat * 7)).off + 4, none⟩ = some (.slice A4 (rd_T28 xs i).f4.f0.length c4) ∧ W.cell? ⟨(ad.add (i.toNat * 7)).block, (ad.add (i.toNat * 7)).off + 5, none⟩ = some (.slice A5 (rd_T28 xs i).f5.length c5) ∧ W.cell? ⟨(ad.add (i.toNat * 7)).block, (ad.add (i.toNat * 7)).off + 6, none⟩ = some (.slice A6 (rd_T28 xs i).f6.length c6) ∧ Aside0 ((rd_T28 xs i).f0.f0.length ≤ c0) ∧ Aside0 ((Kd.slice 5 (Kd.int .u8)).C w A0 (rd_T28 xs i).f0.f0.length (rd_T28 xs i).f0.f0) ∧ Aside0 ((rd_T28 xs i).f4.f0.length ≤ c4) ∧ Aside0 ((Kd.slice 5 (Kd.int .u8)).C w A4 (rd_T28 xs i).f4.f0.length (rd_T28 xs i).f4.f0) ∧ Aside0 ((rd_T28 xs i).f5.length ≤ c5) ∧ Aside0 ((Kd.int .u8).C w A5 (rd_T28 xs i).f5.length (rd_T28 xs i).f5) ∧ Aside0 ((rd_T28 xs i).f6.length ≤ c6) ∧ Aside0 ((Kd.int .i64).C w A6 (rd_T28 xs i).f6.length (rd_T28 xs i).f6) ∧ (0 ≤ i) = True ∧ (i < n) = True := by
  obtain ⟨ad, A0, c0, A4, c4, A5, c5, A6, c6, e, x0, x1, x2, x3, x4, x5, x6, y0, y1, y2, y3, y4, y5, y6, y7⟩ := at_T28 h.out i (of_decide_eq_true h0) (of_decide_eq_true h1)
  exact ⟨ad, A0, c0, A4, c4, A5, c5, A6, c6, e, pw_cell_below hb.out x0, pw_cell_below hb.out x1, pw_cell_below hb.out x2, pw_cell_below hb.out x3, pw_cell_below hb.out x4, pw_cell_below hb.out x5, pw_cell_below hb.out x6, ⟨y0⟩, ⟨y1⟩, ⟨y2⟩, ⟨y3⟩, ⟨y4⟩, ⟨y5⟩, ⟨y6⟩, ⟨y7⟩, eq_true (of_decide_eq_true h0), eq_true (of_decide_eq_true h1)⟩
theorem el_T33 {xs : List S33} {w W : World} {A : Option Addr} {n : Nat} (h : Aside0 (Kd.C k33 w A n xs)) (hb : Aside0 (Below w.heap.size w W)) (i : Int) (h0 : decide (0 ≤ i) = true := by first | (with_reducible assumption) | assumption) (h1 : decide (i < n) = true := by first | (with_reducible assumption) | assumption) : ∃ ad A0 c0 A4 c4 A5 c5 A6 c6, A = some ad ∧ W.cell? (ad.add (i.toNat * 7)) = some (.slice A0 (rd_T33 xs i).f0.f0.length c0) ∧ W.cell? ⟨(ad.add (i.toNat * 7)).block, (ad.add (i.toNat * 7)).off + 1, none⟩ = some (.int .i64 (rd_T33 xs i).f1) ∧ W.cell? ⟨(ad.add (i.toNat * 7)).block, (ad.add (i.toNat * 7)).off + 2, none⟩ = some (.int .i64 (rd_T33 xs i).f2) ∧ W.cell? ⟨(ad.add (i.toNat * 7)).block, (ad.add (i.toNat * 7)).off + 3, none⟩ = some (.int .i64 (rd_T33 xs i).f3) ∧ W.cell? ⟨(ad.add (i.toNat * 7)).block, (ad.add (i.toNat * 7)).off + 4, none⟩ = some (.slice A4 (rd_T33 xs i).f4.f0.length c4) ∧ W.cell? ⟨(ad.add (i.toNat * 7)).block, (ad.add (i.toNat * 7)).off + 5, none⟩ = some (.slice A5 (rd_T33 xs i).f5.length c5) ∧ W.cell? ⟨(ad.add (i.toNat * 7)).block, (ad.add (i.toNat * 7)).off + 6, none⟩ = some (.slice A6 (rd_T33 xs i).f6.length c6) ∧ Aside0 ((rd_T33 xs i).f0.f0.length ≤ c0) ∧ Aside0 ((Kd.slice 5 (Kd.int .u8)).C w A0 (rd_T33 xs i).f0.f0.length (rd_T33 xs i).f0.f0) ∧ Aside0 ((rd_T33 xs i).f4.f0.length ≤ c4) ∧ Aside0 ((Kd.slice 5 (Kd.int .u8)).C w A4 (rd_T33 xs i).f4.f0.length (rd_T33 xs i).f4.f0) ∧ Aside0 ((rd_T33 xs i).f5.length ≤ c5) ∧ Aside0 ((Kd.int .u8).C w A5 (rd_T33 xs i).f5.length (rd_T33 xs i).f5) ∧ Aside0 ((rd_T33 xs i).f6.length ≤ c6) ∧ Aside0 ((Kd.int .i64).C w A6 (rd_T33 xs i).f6.length (rd_T33 xs i).f6) ∧ (0 ≤ i) = True ∧ (i < n) = True := by
  obtain ⟨ad, A0, c0, A4, c4, A5, c5, A6, c6, e, x0, x1, x2, x3, x4, x5, x6, y0, y1, y2, y3, y4, y5, y6, y7⟩ := at_T33 h.out i (of_decide_eq_true h0) (of_decide_eq_true h1)
  exact ⟨ad, A0, c0, A4, c4, A5, c5, A6, c6, e, pw_cell_below hb.out x0, pw_cell_below hb.out x1, pw_cell_below hb.out x2, pw_cell_below hb.out x3, pw_cell_below hb.out x4, pw_cell_below hb.out x5, pw_cell_below hb.out x6, ⟨y0⟩, ⟨y1⟩, ⟨y2⟩, ⟨y3⟩, ⟨y4⟩, ⟨y5⟩, ⟨y6⟩, ⟨y7⟩, eq_true (of_decide_eq_true h0), eq_true (of_decide_eq_true h1)⟩
theorem elw_T33 {xs : List S33} {w W : World} {A : Option Addr} {n : Nat} (h : Aside0 (Kd.C k33 w A n xs)) (hb : Aside0 (Below w.heap.size w W)) (i : Int) (h0 : decide (0 ≤ i) = true := by first | (with_reducible assumption) | assumption) (h1 : decide (i < n) = true := by first | (with_reducible assumption) | assumption) : ∃ ad A0 c0 A4 c4 A5 c5 A6 c6, A = some ad ∧ w.cell? (ad.add (i.toNat * 7)) = some (.slice A0 (rd_T33 xs i).f0.f0.length c0) ∧ w.cell? ⟨(ad.add (i.toNat * 7)).block, (ad.add (i.toNat * 7)).off + 1, none⟩ = some (.int .i64 (rd_T33 xs i).f1) ∧ w.cell? ⟨(ad.add (i.toNat * 7)).block, (ad.add (i.toNat * 7)).off + 2, none⟩ = some (.int .i64 (rd_T33 xs i).f2) ∧ w.cell? ⟨(ad.add (i.toNat * 7)).block, (ad.add (i.toNat * 7)).off + 3, none⟩ = some (.int .i64 (rd_T33 xs i).f3) ∧ w.cell? ⟨(ad.add (i.toNat * 7)).block, (ad.add (i.toNat * 7)).off + 4, none⟩ = some (.slice A4 (rd_T33 xs i).f4.f0.length c4) ∧ w.cell? ⟨(ad.add (i.toNat * 7)).block, (ad.add (i.toNat * 7)).off + 5, none⟩ = some (.slice A5 (rd_T33 xs i).f5.length c5) ∧ w.cell? ⟨(ad.add (i.toNat * 7)).block, (ad.add (i.toNat * 7)).off + 6, none⟩ = some (.slice A6 (rd_T33 xs i).f6.length c6) ∧ W.cell? (ad.add (i.toNat * 7)) = some (.slice A0 (rd_T33 xs i).f0.f0.length c0) ∧ W.cell? ⟨(ad.add (i.toNat * 7)).block, (ad.add (i.toNat * 7)).off + 1, none⟩ = some (.int .i64 (rd_T33 xs i).f1) ∧ W.cell? ⟨(ad.add (i.toNat * 7)).block, (ad.add (i.toNat * 7)).off + 2, none⟩ = some (.int .i64 (rd_T33 xs i).f2) ∧ W.cell? ⟨(ad.add (i.toNat * 7)).block, (ad.add (i.toNat * 7)).off + 3, none⟩ = some (.int .i64 (rd_T33 xs i).f3) ∧ W.cell? ⟨(ad.add (i.toNat * 7)).block, (ad.add (i.toNat * 7)).off + 4, none⟩ = some (.slice A4 (rd_T33 xs i).f4.f0.length c4) ∧ W.cell? ⟨(ad.add (i.toNat * 7)).block, (ad.add (i.toNat * 7)).off + 5, none⟩ = some (.slice A5 (rd_T33 xs i).f5.length c5) ∧ W.cell? ⟨(ad.add (i.toNat * 7)).block, (ad.add (i.toNat * 7)).off + 6, none⟩ = some (.slice A6 (rd_T33 xs i).f6.length c6) ∧ Aside0 ((rd_T33 xs i).f0.f0.length ≤ c0) ∧ Aside0 ((Kd.slice 5 (Kd.int .u8)).C w A0 (rd_T33 xs i).f0.f0.length (rd_T33 xs i).f0.f0) ∧ Aside0 ((rd_T33 xs i).f4.f0.length ≤ c4) ∧ Aside0 ((Kd.slice 5 (Kd.int .u8)).C w A4 (rd_T33 xs i).f4.f0.length (rd_T33 xs i).f4.f0) ∧ Aside0 ((rd_T33 xs i).f5.length ≤ c5) ∧ Aside0 ((Kd.int .u8).C w A5 (rd_T33 xs i).f5.length (rd_T33 xs i).f5) ∧ Aside0 ((rd_T33 xs i).f6.length ≤ c6) ∧ Aside0 ((Kd.int .i64).C w A6 (rd_T33 xs i).f6.length (rd_T33 xs i).f6) ∧ (0 ≤ i) = True ∧ (i < n) = True := by
  obtain ⟨ad, A0, c0, A4, c4, A5, c5, A6, c6, e, x0, x1, x2, x3, x4, x5, x6, y0, y1, y2, y3, y4, y5, y6, y7⟩ := at_T33 h.out i (of_decide_eq_true h0) (of_decide_eq_true h1)
  exact ⟨ad, A0, c0, A4, c4, A5, c5, A6, c6, e, x0, x1, x2, x3, x4, x5, x6, pw_cell_below hb.out x0, pw_cell_below hb.out x1, pw_cell_below hb.out x2, pw_cell_below hb.out x3, pw_cell_below hb.out x4, pw_cell_below hb.out x5, pw_cell_below hb.out x6, ⟨y0⟩, ⟨y1⟩, ⟨y2⟩, ⟨y3⟩, ⟨y4⟩, ⟨y5⟩, ⟨y6⟩, ⟨y7⟩, eq_true (of_decide_eq_true h0), eq_true (of_decide_eq_true h1)⟩
theorem el_T195 {xs : List S195} {w W : World} {A : Option Addr} {n : Nat} (h : Aside0 (Kd.C k195 w A n xs)) (hb : Aside0 (Below w.heap.size w W)) (i : Int) (h0 : decide (0 ≤ i) = true := by first | (with_reducible assumption) | assumption) (h1 : decide (i < n) = true := by first | (with_reducible assumption) | assumption) : ∃ ad A0 c0, A = some ad ∧ W.cell? (ad.add (i.toNat * 2)) = some (.slice A0 (rd_T195 xs i).f0.f0.length c0) ∧ W.cell? ⟨(ad.add (i.toNat * 2)).block, (ad.add (i.toNat * 2)).off + 1, none⟩ = some (.int .i64 (rd_T195 xs i).f1) ∧ Aside0 ((rd_T195 xs i).f0.f0.length ≤ c0) ∧ Aside0 ((Kd.slice 5 (Kd.int .u8)).C w A0 (rd_T195 xs i).f0.f0.length (rd_T195 xs i).f0.f0) ∧ (0 ≤ i) = True ∧ (i < n) = True := by
  obtain ⟨ad, A0, c0, e, x0, x1, y0, y1⟩ := at_T195 h.out i (of_decide_eq_true h0) (of_decide_eq_true h1)
  exact ⟨ad, A0, c0, e, pw_cell_below hb.out x0, pw_cell_below hb.out x1, ⟨y0⟩, ⟨y1⟩, eq_true (of_decide_eq_true h0), eq_true (of_decide_eq_true h1)⟩
theorem el_T198 {xs : List S198} {w W : World} {A : Option Addr} {n : Nat} (h : Aside0 (Kd.C k198 w A n xs)) (hb : Aside0 (Below w.heap.size w W)) (i : Int) (h0 : decide (0 ≤ i) = true := by first | (with_reducible assumption) | assumption) (h1 : decide (i < n) = true := by first | (with_reducible assumption) | assumption) : ∃ ad A0 c0 A4 c4 A5 c5 A6 c6, A = some ad ∧ W.cell? (ad.add (i.toNat * 9)) = some (.slice A0 (rd_T198 xs i).f0.f0.f0.length c0) ∧ W.cell? ⟨(ad.add (i.toNat * 9)).block, (ad.add (i.toNat * 9)).off + 1, none⟩ = some (.int .i64 (rd_T198 xs i).f0.f1) ∧ W.cell? ⟨(ad.add (i.toNat * 9)).block, (ad.add (i.toNat * 9)).off + 2, none⟩ = some (.int .i64 (rd_T198 xs i).f0.f2) ∧ W.cell? ⟨(ad.add (i.toNat * 9)).block, (ad.add (i.toNat * 9)).off + 3, none⟩ = some (.int .i64 (rd_T198 xs i).f0.f3) ∧ W.cell? ⟨(ad.add (i.toNat * 9)).block, (ad.add (i.toNat * 9)).off + 4, none⟩ = some (.slice A4 (rd_T198 xs i).f0.f4.f0.length c4) ∧ W.cell? ⟨(ad.add (i.toNat * 9)).block, (ad.add (i.toNat * 9)).off + 5, none⟩ = some (.slice A5 (rd_T198 xs i).f0.f5.length c5) ∧ W.cell? ⟨(ad.add (i.toNat * 9)).block, (ad.add (i.toNat * 9)).off + 6, none⟩ = some (.slice A6 (rd_T198 xs i).f0.f6.length c6) ∧ W.cell? ⟨(ad.add (i.toNat * 9)).block, (ad.add (i.toNat * 9)).off + 7, none⟩ = some (.int .i64 (rd_T198 xs i).f1) ∧ W.cell? ⟨(ad.add (i.toNat * 9)).block, (ad.add (i.toNat * 9)).off + 8, none⟩ = some (.bool (rd_T198 xs i).f2) ∧ Aside0 ((rd_T198 xs i).f0.f0.f0.length ≤ c0) ∧ Aside0 ((Kd.slice 5 (Kd.int .u8)).C w A0 (rd_T198 xs i).f0.f0.f0.length (rd_T198 xs i).f0.f0.f0) ∧ Aside0 ((rd_T198 xs i).f0.f4.f0.length ≤ c4) ∧ Aside0 ((Kd.slice 5 (Kd.int .u8)).C w A4 (rd_T198 xs i).f0.f4.f0.length (rd_T198 xs i).f0.f4.f0) ∧ Aside0 ((rd_T198 xs i).f0.f5.length ≤ c5) ∧ Aside0 ((Kd.int .u8).C w A5 (rd_T198 xs i).f0.f5.length (rd_T198 xs i).f0.f5) ∧ Aside0 ((rd_T198 xs i).f0.f6.length ≤ c6) ∧ Aside0 ((Kd.int .i64).C w A6 (rd_T198 xs i).f0.f6.length (rd_T198 xs i).f0.f6) ∧ (0 ≤ i) = True ∧ (i < n) = True := by
  obtain ⟨ad, A0, c0, A4, c4, A5, c5, A6, c6, e, x0, x1, x2, x3, x4, x5, x6, x7, x8, y0, y1, y2, y3, y4, y5, y6, y7⟩ := at_T198 h.out i (of_decide_eq_true h0) (of_decide_eq_true h1)
  exact ⟨ad, A0, c0, A4, c4, A5, c5, A6, c6, e, pw_cell_below hb.out x0, pw_cell_below hb.out x1, pw_cell_below hb.out x2, pw_cell_below hb.out x3, pw_cell_below hb.out x4, pw_cell_below hb.out x5, pw_cell_below hb.out x6, pw_cell_below hb.out x7, pw_cell_below hb.out x8, ⟨y0⟩, ⟨y1⟩, ⟨y2⟩, ⟨y3⟩, ⟨y4⟩, ⟨y5⟩, ⟨y6⟩, ⟨y7⟩, eq_true (of_decide_eq_true h0), eq_true (of_decide_eq_true h1)⟩
theorem elw_T200 {xs : List S200} {w W : World} {A : Option Addr} {n : Nat} (h : Aside0 (Kd.C k200 w A n xs)) (hb : Aside0 (Below w.heap.size w W)) (i : Int) (h0 : decide (0 ≤ i) = true := by first | (with_reducible assumption) | assumption) (h1 : decide (i < n) = true := by first | (with_reducible assumption) | assumption) : ∃ ad A0 c0, A = some ad ∧ w.cell? (ad.add (i.toNat * 2)) = some (.slice A0 (rd_T200 xs i).f0.f0.length c0) ∧ w.cell? ⟨(ad.add (i.toNat * 2)).block, (ad.add (i.toNat * 2)).off + 1, none⟩ = some (.int .i64 (rd_T200 xs i).f1) ∧ W.cell? (ad.add (i.toNat * 2)) = some (.slice A0 (rd_T200 xs i).f0.f0.length c0) ∧ W.cell? ⟨(ad.add (i.toNat * 2)).block, (ad.add (i.toNat * 2)).off + 1, none⟩ = some (.int .i64 (rd_T200 xs i).f1) ∧ Aside0 ((rd_T200 xs i).f0.f0.length ≤ c0) ∧ Aside0 ((Kd.slice 5 (Kd.int .u8)).C w A0 (rd_T200 xs i).f0.f0.length (rd_T200 xs i).f0.f0) ∧ (0 ≤ i) = True ∧ (i < n) = True := by
  obtain ⟨ad, A0, c0, e, x0, x1, y0, y1⟩ := at_T200 h.out i (of_decide_eq_true h0) (of_decide_eq_true h1)
  exact ⟨ad, A0, c0, e, x0, x1, pw_cell_below hb.out x0, pw_cell_below hb.out x1, ⟨y0⟩, ⟨y1⟩, eq_true (of_decide_eq_true h0), eq_true (of_decide_eq_true h1)⟩
theorem el_T205 {xs : List S205} {w W : World} {A : Option Addr} {n : Nat} (h : Aside0 (Kd.C k205 w A n xs)) (hb : Aside0 (Below w.heap.size w W)) (i : Int) (h0 : decide (0 ≤ i) = true := by first | (with_reducible assumption) | assumption) (h1 : decide (i < n) = true := by first | (with_reducible assumption) | assumption) : ∃ ad A0 c0 A4 c4 A5 c5 A6 c6, A = some ad ∧ W.cell? (ad.add (i.toNat * 9)) = some (.slice A0 (rd_T205 xs i).f0.f0.f0.length c0) ∧ W.cell? ⟨(ad.add (i.toNat * 9)).block, (ad.add (i.toNat * 9)).off + 1, none⟩ = some (.int .i64 (rd_T205 xs i).f0.f1) ∧ W.cell? ⟨(ad.add (i.toNat * 9)).block, (ad.add (i.toNat * 9)).off + 2, none⟩ = some (.int .i64 (rd_T205 xs i).f0.f2) ∧ W.cell? ⟨(ad.add (i.toNat * 9)).block, (ad.add (i.toNat * 9)).off + 3, none⟩ = some (.int .i64 (rd_T205 xs i).f0.f3) ∧ W.cell? ⟨(ad.add (i.toNat * 9)).block, (ad.add (i.toNat * 9)).off + 4, none⟩ = some (.slice A4 (rd_T205 xs i).f0.f4.f0.length c4) ∧ W.cell? ⟨(ad.add (i.toNat * 9)).block, (ad.add (i.toNat * 9)).off + 5, none⟩ = some (.slice A5 (rd_T205 xs i).f0.f5.length c5) ∧ W.cell? ⟨(ad.add (i.toNat * 9)).block, (ad.add (i.toNat * 9)).off + 6, none⟩ = some (.slice A6 (rd_T205 xs i).f0.f6.length c6) ∧ W.cell? ⟨(ad.add (i.toNat * 9)).block, (ad.add (i.toNat * 9)).off + 7, none⟩ = some (.int .i64 (rd_T205 xs i).f1) ∧ W.cell? ⟨(ad.add (i.toNat * 9)).block, (ad.add (i.toNat * 9)).off + 8, none⟩ = some (.bool (rd_T205 xs i).f2) ∧ Aside0 ((rd_T205 xs i).f0.f0.f0.length ≤ c0) ∧ Aside0 ((Kd.slice 5 (Kd.int .u8)).C w A0 (rd_T205 xs i).f0.f0.f0.length (rd_T205 xs i).f0.f0.f0) ∧ Aside0 ((rd_T205 xs i).f0.f4.f0.length ≤ c4) ∧ Aside0 ((Kd.slice 5 (Kd.int .u8)).C w A4 (rd_T205 xs i).f0.f4.f0.length (rd_T205 xs i).f0.f4.f0) ∧ Aside0 ((rd_T205 xs i).f0.f5.length ≤ c5) ∧ Aside0 ((Kd.int .u8).C w A5 (rd_T205 xs i).f0.f5.length (rd_T205 xs i).f0.f5) ∧ Aside0 ((rd_T205 xs i).f0.f6.length ≤ c6) ∧ Aside0 ((Kd.int .i64).C w A6 (rd_T205 xs i).f0.f6.length (rd_T205 xs i).f0.f6) ∧ (0 ≤ i) = True ∧ (i < n) = True := by
  obtain ⟨ad, A0, c0, A4, c4, A5, c5, A6, c6, e, x0, x1, x2, x3, x4, x5, x6, x7, x8, y0, y1, y2, y3, y4, y5, y6, y7⟩ := at_T205 h.out i (of_decide_eq_true h0) (of_decide_eq_true h1)
  exact ⟨ad, A0, c0, A4, c4, A5, c5, A6, c6, e, pw_cell_below hb.out x0, pw_cell_below hb.out x1, pw_cell_below hb.out x2, pw_cell_below hb.out x3, pw_cell_below hb.out x4, pw_cell_below hb.out x5, pw_cell_below hb.out x6, pw_cell_below hb.out x7, pw_cell_below hb.out x8, ⟨y0⟩, ⟨y1⟩, ⟨y2⟩, ⟨y3⟩, ⟨y4⟩, ⟨y5⟩, ⟨y6⟩, ⟨y7⟩, eq_true (of_decide_eq_true h0), eq_true (of_decide_eq_true h1)⟩
theorem elw_T205 {xs : List S205} {w W : World} {A : Option Addr} {n : Nat} (h : Aside0 (Kd.C k205 w A n xs)) (hb : Aside0 (Below w.heap.size w W)) (i : Int) (h0 : decide (0 ≤ i) = true := by first | (with_reducible assumption) | assumption) (h1 : decide (i < n) = true := by first | (with_reducible assumption) | assumption) : ∃ ad A0 c0 A4 c4 A5 c5 A6 c6, A = some ad ∧ w.cell? (ad.add (i.toNat * 9)) = some (.slice A0 (rd_T205 xs i).f0.f0.f0.length c0) ∧ w.cell? ⟨(ad.add (i.toNat * 9)).block, (ad.add (i.toNat * 9)).off + 1, none⟩ = some (.int .i64 (rd_T205 xs i).f0.f1) ∧ w.cell? ⟨(ad.add (i.toNat * 9)).block, (ad.add (i.toNat * 9)).off + 2, none⟩ = some (.int .i64 (rd_T205 xs i).f0.f2) ∧ w.cell? ⟨(ad.add (i.toNat * 9)).block, (ad.add (i.toNat * 9)).off + 3, none⟩ = some (.int .i64 (rd_T205 xs i).f0.f3) ∧ w.cell? ⟨(ad.add (i.toNat * 9)).block, (ad.add (i.toNat * 9)).off + 4, none⟩ = some (.slice A4 (rd_T205 xs i).f0.f4.f0.length c4) ∧ w.cell? ⟨(ad.add (i.toNat * 9)).block, (ad.add (i.toNat * 9)).off + 5, none⟩ = some (.slice A5 (rd_T205 xs i).f0.f5.length c5) ∧ w.cell? ⟨(ad.add (i.toNat * 9)).block, (ad.add (i.toNat * 9)).off + 6, none⟩ = some (.slice A6 (rd_T205 xs i).f0.f6.length c6) ∧ w.cell? ⟨(ad.add (i.toNat * 9)).block, (ad.add (i.toNat * 9)).off + 7, none⟩ = some (.int .i64 (rd_T205 xs i).f1) ∧ w.cell? ⟨(ad.add (i.toNat * 9)).block, (ad.add (i.toNat * 9)).off + 8, none⟩ = some (.bool (rd_T205 xs i).f2) ∧ W.cell? (ad.add (i.toNat * 9)) = some (.slice A0 (rd_T205 xs i).f0.f0.f0.length c0) ∧ W.cell? ⟨(ad.add (i.toNat * 9)).block, (ad.add (i.toNat * 9)).off + 1, none⟩ = some (.int .i64 (rd_T205 xs i).f0.f1) ∧ W.cell? ⟨(ad.add (i.toNat * 9)).block, (ad.add (i.toNat * 9)).off + 2, none⟩ = some (.int .i64 (rd_T205 xs i).f0.f2) ∧ W.cell? ⟨(ad.add (i.toNat * 9)).block, (ad.add (i.toNat * 9)).off + 3, none⟩ = some (.int .i64 (rd_T205 xs i).f0.f3) ∧ W.cell? ⟨(ad.add (i.toNat * 9)).block, (ad.add (i.toNat * 9)).off + 4, none⟩ = some (.slice A4 (rd_T205 xs i).f0.f4.f0.length c4) ∧ W.cell? ⟨(ad.add (i.toNat * 9)).block, (ad.add (i.toNat * 9)).off + 5, none⟩ = some (.slice A5 (rd_T205 xs i).f0.f5.length c5) ∧ W.cell? ⟨(ad.add (i.toNat * 9)).block, (ad.add (i.toNat * 9)).off + 6, none⟩ = some (.slice A6 (rd_T205 xs i).f0.f6.length c6) ∧ W.cell? ⟨(ad.add (i.toNat * 9)).block, (ad.add (i.toNat * 9)).off + 7, none⟩ = some (.int .i64 (rd_T205 xs i).f1) ∧ W.cell? ⟨(ad.add (i.toNat * 9)).block, (ad.add (i.toNat * 9)).off + 8, none⟩ = some (.bool (rd_T205 xs i).f2) ∧ Aside0 ((rd_T205 xs i).f0.f0.f0.length ≤ c0) ∧ Aside0 ((Kd.slice 5 (Kd.int .u8)).C w A0 (rd_T205 xs i).f0.f0.f0.length (rd_T205 xs i).f0.f0.f0) ∧ Aside0 ((rd_T205 xs i).f0.f4.f0.length ≤ c4) ∧ Aside0 ((Kd.slice 5 (Kd.int .u8)).C w A4 (rd_T205 xs i).f0.f4.f0.length (rd_T205 xs i).f0.f4.f0) ∧ Aside0 ((rd_T205 xs i).f0.f5.length ≤ c5) ∧ Aside0 ((Kd.int .u8).C w A5 (rd_T205 xs i).f0.f5.length (rd_T205 xs i).f0.f5) ∧ Aside0 ((rd_T205 xs i).f0.f6.length ≤ c6) ∧ Aside0 ((Kd.int .i64).C w A6 (rd_T205 xs i).f0.f6.length (rd_T205 xs i).f0.f6) ∧ (0 ≤ i) = True ∧ (i < n) = True := by
  obtain ⟨ad, A0, c0, A4, c4, A5, c5, A6, c6, e, x0, x1, x2, x3, x4, x5, x6, x7, x8, y0, y1, y2, y3, y4, y5, y6, y7⟩ := at_T205 h.out i (of_decide_eq_true h0) (of_decide_eq_true h1)
  exact ⟨ad, A0, c0, A4, c4, A5, c5, A6, c6, e, x0, x1, x2, x3, x4, x5, x6, x7, x8, pw_cell_below hb.out x0, pw_cell_below hb.out x1, pw_cell_below hb.out x2, pw_cell_below hb.out x3, pw_cell_below hb.out x4, pw_cell_below hb.out x5, pw_cell_below hb.out x6, pw_cell_below hb.out x7, pw_cell_below hb.out x8, ⟨y0⟩, ⟨y1⟩, ⟨y2⟩, ⟨y3⟩, ⟨y4⟩, ⟨y5⟩, ⟨y6⟩, ⟨y7⟩, eq_true (of_decide_eq_true h0), eq_true (of_decide_eq_true h1)⟩

/-! ### laws_szByteS: function 58 -/
def laws_szByteS.f (l0 : List Int) (a1 : Int) : Option (Int) := if (wrap64 (a1 - (l0.length : Int))) < 0 then (some (-1)) else (some (wrap64 (a1 - (l0.length : Int))))
set_option maxHeartbeats 8000000 in
set_option maxRecDepth 100000 in
theorem laws_szByteS.calls (A0 : Option Addr) (c0 : Nat) (l0 : List Int) (a1 : Int) (r : Int) (w : World) (hr0 : Kd.C (Kd.int .u8) w A0 l0.length l0) (hc0 : l0.length ≤ c0) (h : laws_szByteS.f l0 a1 = some r) :
  Calls Try.prog 58 #[.slice A0 l0.length c0, .int .i64 a1] w fun e w' => e = .returned (.int .i64 r) ∧ Drawn0 w w' := by
 have HR0 := ak hr0
 have HC0 := ak hc0
 clear hr0 hc0
 have H : (if (wrap64 (a1 - (l0.length : Int))) < 0 then (some (-1)) else (some (wrap64 (a1 - (l0.length : Int))))) = some r := h
 clear h
 replace H := ip H
 obtain ⟨c3b0, H⟩ | ⟨c3b0, H⟩ := H
 ·obtain rfl := Option.some.inj H
  go_enter Try.func58, Try.ntmps58
  go_wp2
  go_ret
  exact ⟨o2, od⟩
 ·obtain rfl := Option.some.inj H
  go_enter Try.func58, Try.ntmps58
  go_wp2
  go_ret
  exact ⟨o2, od⟩

/-! ### laws_szByteSS: function 105 -/
def laws_szByteSS.l0 : Nat → List (List Int) → Int → Int → Option (Int)
 | 0, _, _, _ => none
 | k + 1, x0, x1, x5 => if x5 < (x0.length : Int) then (if 0 ≤ x5 then ((laws_szByteS.f (rd_L10 x0 x5) x1).bind fun t102 => (if t102 < 0 then (some (-1)) else (laws_szByteSS.l0 k x0 t102 (wrap64 (x5 + 1))))) else (none)) else (some x1)
def laws_szByteSS.f (k : Nat) (l0 : List (List Int)) (a1 : Int) : Option (Int) := if (wrap64 (a1 - (l0.length : Int))) < 0 then (some (-1)) else (laws_szByteSS.l0 k l0 (wrap64 (a1 - (l0.length : Int))) 0)
set_option maxHeartbeats 8000000 in
set_option maxRecDepth 100000 in
theorem laws_szByteSS.calls (k : Nat) (A0 : Option Addr) (c0 : Nat) (l0 : List (List Int)) (a1 : Int) (r : Int) (w : World) (hr0 : Kd.C (Kd.slice 5 (Kd.int .u8)) w A0 l0.length l0) (hc0 : l0.length ≤ c0) (h : laws_szByteSS.f k l0 a1 = some r) :
  Calls Try.prog 105 #[.slice A0 l0.length c0, .int .i64 a1] w fun e w' => e = .returned (.int .i64 r) ∧ Drawn0 w w' := by
 have HR0 := ak hr0
 have HC0 := ak hc0
 clear hr0 hc0
 have H : (if (wrap64 (a1 - (l0.length : Int))) < 0 then (some (-1)) else (laws_szByteSS.l0 k l0 (wrap64 (a1 - (l0.length : Int))) 0)) = some r := h
 clear h
 replace H := ip H
 obtain ⟨c3b0, H⟩ | ⟨c3b0, H⟩ := H
 ·obtain rfl := Option.some.inj H
  go_enter Try.func105, Try.ntmps105
  go_wp2
  go_ret
  exact ⟨o2, od⟩
 ·have H' := ak H
  clear H
  go_enter Try.func105, Try.ntmps105
  go_wp2
  go_loopg [1, 5] k (fun kq v1 v5 w' => ∃ (x1_1 : Int) (x5_1 : Int), v1 = .int .i64 x1_1 ∧ v5 = .int .i64 x5_1 ∧ Aside0 (laws_szByteSS.l0 kq l0 x1_1 x5_1 = some r) ∧ Aside0 (kq ≤ k) ∧ Drawn0 w w')
  case atStart => exact ⟨(wrap64 (a1 - (l0.length : Int))), (0), o2, o2, H', ⟨Nat.le_refl _⟩, od⟩
  case round =>
   clear H'
   (try clear c3b0)
   obtain ⟨x1_1, x5_1, rfl, rfl, HA, HK1, ⟨m1, rfl⟩⟩ := hrel
   cases gk with
   | zero => exact absurd HA.out (by simp [laws_szByteSS.l0])
   | succ k1 =>
    have H := HA.out
    clear HA
    simp only [laws_szByteSS.l0] at H
    replace H := ip H
    obtain ⟨c4b0, H⟩ | ⟨c4b0, H⟩ := H
    ·replace H := ipN H
     obtain ⟨c5b0, H⟩ := H
     replace H := bnd H
     obtain ⟨t102, A6, H⟩ := H
     replace H := ip H
     obtain ⟨c7b0, H⟩ | ⟨c7b0, H⟩ := H
     ·obtain rfl := Option.some.inj H
      obtain ⟨ad101, A101_0, c101_0, rfl, hx101_0, HC101_0, HR101_0, p101, q101⟩ := el0_L10 HR0 x5_1
      go_wp2_with (((with_reducible refine gate_callee (f := 58) rfl ?_);refine glD 23 rfl rfl Try.func58 (laws_szByteS.calls _ _ (rd_L10 l0 x5_1) x1_1 t102 _ (cd HR101_0) HC101_0.out A6.out) (fun nd => ?_)))
      go_ret
      exact ⟨o2, od⟩
     ·have H' := ak H
      clear H
      obtain ⟨ad101, A101_0, c101_0, rfl, hx101_0, HC101_0, HR101_0, p101, q101⟩ := el0_L10 HR0 x5_1
      go_wp2_with (((with_reducible refine gate_callee (f := 58) rfl ?_);refine glD 23 rfl rfl Try.func58 (laws_szByteS.calls _ _ (rd_L10 l0 x5_1) x1_1 t102 _ (cd HR101_0) HC101_0.out A6.out) (fun nd => ?_)))
      go_roundg k1
      case measure => have := HK1.out; omega
      case rel => exact ⟨(t102), (wrap64 (x5_1 + 1)), o2, o2, H', ⟨by have := HK1.out; omega⟩, od⟩
    ·obtain rfl := Option.some.inj H
     go_wp2
     go_ret
     exact ⟨o2, od⟩

/-! ### laws_szName: function 39 -/
def laws_szName.f (k : Nat) (l0_0 : List (List Int)) (a1 : Int) : Option (Int) := (laws_szByteSS.f k l0_0 a1).bind fun t102 => (if t102 < 0 then (some (-1)) else (some t102))
set_option maxHeartbeats 8000000 in
set_option maxRecDepth 100000 in
theorem laws_szName.calls (k : Nat) (A0_0 : Option Addr) (c0_0 : Nat) (l0_0 : List (List Int)) (a1 : Int) (r : Int) (w : World) (hr0_0 : Kd.C (Kd.slice 5 (Kd.int .u8)) w A0_0 l0_0.length l0_0) (hc0_0 : l0_0.length ≤ c0_0) (h : laws_szName.f k l0_0 a1 = some r) :
  Calls Try.prog 39 #[.agg #[.slice A0_0 l0_0.length c0_0], .int .i64 a1] w fun e w' => e = .returned (.int .i64 r) ∧ Below w.heap.size w w' := by
 have hu24 := Try.underlying24
 have HR0_0 := ak hr0_0
 have HC0_0 := ak hc0_0
 clear hr0_0 hc0_0
 have HB := ak (Below.refl w.heap.size w)
 have H : ((laws_szByteSS.f k l0_0 a1).bind fun t102 => (if t102 < 0 then (some (-1)) else (some t102))) = some r := h
 clear h
 replace H := bnd H
 obtain ⟨t102, A3, H⟩ := H
 replace H := ip H
 obtain ⟨c4b0, H⟩ | ⟨c4b0, H⟩ := H
 ·obtain rfl := Option.some.inj H
  go_enter Try.func39, Try.ntmps39
  go_wp2_with (first | ((with_reducible refine gate_dst (N := 2) rfl ?_);refine bxd (N := 2) rfl HB ?_;clear HB;intro gb101 w5 hg HB BK101 GE101 hb;have GW101 := GE101;clear hb hg;obtain ⟨hcz6_0, hfz6_0⟩ := cells1 BK101.out) | ((with_reducible refine gate_callee (f := 105) rfl ?_);refine glD 8 rfl rfl Try.func105 (laws_szByteSS.calls k _ _ l0_0 a1 t102 _ (cv HR0_0 HB) HC0_0.out A3.out) (fun nd => ?_)))
  go_ret
  exact ⟨o1, bs⟩
 ·obtain rfl := Option.some.inj H
  go_enter Try.func39, Try.ntmps39
  go_wp2_with (first | ((with_reducible refine gate_dst (N := 2) rfl ?_);refine bxd (N := 2) rfl HB ?_;clear HB;intro gb101 w7 hg HB BK101 GE101 hb;have GW101 := GE101;clear hb hg;obtain ⟨hcz8_0, hfz8_0⟩ := cells1 BK101.out) | ((with_reducible refine gate_callee (f := 105) rfl ?_);refine glD 8 rfl rfl Try.func105 (laws_szByteSS.calls k _ _ l0_0 a1 t102 _ (cv HR0_0 HB) HC0_0.out A3.out) (fun nd => ?_)))
  go_ret
  exact ⟨o1, bs⟩

/-! ### laws_szIntS: function 59 -/
def laws_szIntS.f (l0 : List Int) (a1 : Int) : Option (Int) := if (wrap64 (a1 - (l0.length : Int))) < 0 then (some (-1)) else (some (wrap64 (a1 - (l0.length : Int))))
set_option maxHeartbeats 8000000 in
set_option maxRecDepth 100000 in
theorem laws_szIntS.calls (A0 : Option Addr) (c0 : Nat) (l0 : List Int) (a1 : Int) (r : Int) (w : World) (hr0 : Kd.C (Kd.int .i64) w A0 l0.length l0) (hc0 : l0.length ≤ c0) (h : laws_szIntS.f l0 a1 = some r) :
  Calls Try.prog 59 #[.slice A0 l0.length c0, .int .i64 a1] w fun e w' => e = .returned (.int .i64 r) ∧ Drawn0 w w' := by
 have HR0 := ak hr0
 have HC0 := ak hc0
 clear hr0 hc0
 have H : (if (wrap64 (a1 - (l0.length : Int))) < 0 then (some (-1)) else (some (wrap64 (a1 - (l0.length : Int))))) = some r := h
 clear h
 replace H := ip H
 obtain ⟨c3b0, H⟩ | ⟨c3b0, H⟩ := H
 ·obtain rfl := Option.some.inj H
  go_enter Try.func59, Try.ntmps59
  go_wp2
  go_ret
  exact ⟨o2, od⟩
 ·obtain rfl := Option.some.inj H
  go_enter Try.func59, Try.ntmps59
  go_wp2
  go_ret
  exact ⟨o2, od⟩

/-! ### laws_szRr: function 13 -/
def laws_szRr.f (k : Nat) (l0_0 : List (List Int)) (a0_1 : Int) (a0_2 : Int) (a0_3 : Int) (l0_4 : List (List Int)) (l0_5 : List Int) (l0_6 : List Int) (a1 : Int) : Option (Int) := (laws_szName.f k l0_0 a1).bind fun t102 => (if t102 < 0 then (some (-1)) else ((laws_szName.f k l0_4 t102).bind fun t103 => (if t103 < 0 then (some (-1)) else ((laws_szByteS.f l0_5 t103).bind fun t104 => (if t104 < 0 then (some (-1)) else ((laws_szIntS.f l0_6 t104).bind fun t105 => (if t105 < 0 then (some (-1)) else (some t105))))))))
set_option maxHeartbeats 8000000 in
set_option maxRecDepth 100000 in
theorem laws_szRr.calls (k : Nat) (A0_0 : Option Addr) (c0_0 : Nat) (l0_0 : List (List Int)) (a0_1 : Int) (a0_2 : Int) (a0_3 : Int) (A0_4 : Option Addr) (c0_4 : Nat) (l0_4 : List (List Int)) (A0_5 : Option Addr) (c0_5 : Nat) (l0_5 : List Int) (A0_6 : Option Addr) (c0_6 : Nat) (l0_6 : List Int) (a1 : Int) (r : Int) (w : World) (hr0_0 : Kd.C (Kd.slice 5 (Kd.int .u8)) w A0_0 l0_0.length l0_0) (hc0_0 : l0_0.length ≤ c0_0) (hr0_4 : Kd.C (Kd.slice 5 (Kd.int .u8)) w A0_4 l0_4.length l0_4) (hc0_4 : l0_4.length ≤ c0_4) (hr0_5 : Kd.C (Kd.int .u8) w A0_5 l0_5.length l0_5) (hc0_5 : l0_5.length ≤ c0_5) (hr0_6 : Kd.C (Kd.int .i64) w A0_6 l0_6.length l0_6) (hc0_6 : l0_6.length ≤ c0_6) (h : laws_szRr.f k l0_0 a0_1 a0_2 a0_3 l0_4 l0_5 l0_6 a1 = some r) :
  Calls Try.prog 13 #[.agg #[.slice A0_0 l0_0.length c0_0, .int .i64 a0_1, .int .i64 a0_2, .int .i64 a0_3, .slice A0_4 l0_4.length c0_4, .slice A0_5 l0_5.length c0_5, .slice A0_6 l0_6.length c0_6], .int .i64 a1] w fun e w' => e = .returned (.int .i64 r) ∧ Below w.heap.size w w' := by
 have hu28 := Try.underlying28
 have hu24 := Try.underlying24
 have HR0_0 := ak hr0_0
 have HC0_0 := ak hc0_0
 clear hr0_0 hc0_0
 have HR0_4 := ak hr0_4
 have HC0_4 := ak hc0_4
 clear hr0_4 hc0_4
 have HR0_5 := ak hr0_5
 have HC0_5 := ak hc0_5
 clear hr0_5 hc0_5
 have HR0_6 := ak hr0_6
 have HC0_6 := ak hc0_6
 clear hr0_6 hc0_6
 have HB := ak (Below.refl w.heap.size w)
 have H : ((laws_szName.f k l0_0 a1).bind fun t102 => (if t102 < 0 then (some (-1)) else ((laws_szName.f k l0_4 t102).bind fun t103 => (if t103 < 0 then (some (-1)) else ((laws_szByteS.f l0_5 t103).bind fun t104 => (if t104 < 0 then (some (-1)) else ((laws_szIntS.f l0_6 t104).bind fun t105 => (if t105 < 0 then (some (-1)) else (some t105))))))))) = some r := h
 clear h
 replace H := bnd H
 obtain ⟨t102, A3, H⟩ := H
 replace H := ip H
 obtain ⟨c4b0, H⟩ | ⟨c4b0, H⟩ := H
 ·obtain rfl := Option.some.inj H
  go_enter Try.func13, Try.ntmps13
  go_wp2_with (first | ((with_reducible refine gate_dst (N := 2) rfl ?_);refine bxd (N := 2) rfl HB ?_;clear HB;intro gb101 w5 hg HB BK101 GE101 hb;have GW101 := GE101;clear hb hg;obtain ⟨hcz6_0, hcz6_1, hcz6_2, hcz6_3, hcz6_4, hcz6_5, hcz6_6, hfz6_0, hfz6_1, hfz6_2, hfz6_3, hfz6_4, hfz6_5, hfz6_6⟩ := cells7 BK101.out) | ((with_reducible refine gate_callee (f := 39) rfl ?_);refine glB 8 rfl rfl Try.func39 (laws_szName.calls k _ _ l0_0 a1 t102 _ (cv HR0_0 HB) HC0_0.out A3.out) (fun w7 hb => ?_);replace BK101 := b1 BK101 hb;replace HB := b2s bs hb;(try clear hb)))
  go_ret
  exact ⟨o1, bs⟩
 ·replace H := bnd H
  obtain ⟨t103, A8, H⟩ := H
  replace H := ip H
  obtain ⟨c9b0, H⟩ | ⟨c9b0, H⟩ := H
  ·obtain rfl := Option.some.inj H
   go_enter Try.func13, Try.ntmps13
   go_wp2_with (first | ((with_reducible refine gate_dst (N := 2) rfl ?_);refine bxd (N := 2) rfl HB ?_;clear HB;intro gb101 w10 hg HB BK101 GE101 hb;have GW101 := GE101;clear hb hg;obtain ⟨hcz11_0, hcz11_1, hcz11_2, hcz11_3, hcz11_4, hcz11_5, hcz11_6, hfz11_0, hfz11_1, hfz11_2, hfz11_3, hfz11_4, hfz11_5, hfz11_6⟩ := cells7 BK101.out) | ((with_reducible refine gate_callee (f := 39) rfl ?_);refine glB 8 rfl rfl Try.func39 (laws_szName.calls k _ _ l0_0 a1 t102 _ (cv HR0_0 HB) HC0_0.out A3.out) (fun w12 hb => ?_);replace BK101 := b1 BK101 hb;replace HB := b2s bs hb;(try clear hb);obtain ⟨hcz13_0, hcz13_1, hcz13_2, hcz13_3, hcz13_4, hcz13_5, hcz13_6, hfz13_0, hfz13_1, hfz13_2, hfz13_3, hfz13_4, hfz13_5, hfz13_6⟩ := cells7 BK101.out) | ((with_reducible refine gate_callee (f := 39) rfl ?_);refine glB 14 rfl rfl Try.func39 (laws_szName.calls k _ _ l0_4 t102 t103 _ (cv HR0_4 HB) HC0_4.out A8.out) (fun w14 hb => ?_);replace BK101 := b1 BK101 hb;replace HB := b2s bs hb;(try clear hb)))
   go_ret
   exact ⟨o1, bs⟩
  ·replace H := bnd H
   obtain ⟨t104, A15, H⟩ := H
   replace H := ip H
   obtain ⟨c16b0, H⟩ | ⟨c16b0, H⟩ := H
   ·obtain rfl := Option.some.inj H
    go_enter Try.func13, Try.ntmps13
    go_wp2_with (first | ((with_reducible refine gate_dst (N := 2) rfl ?_);refine bxd (N := 2) rfl HB ?_;clear HB;intro gb101 w17 hg HB BK101 GE101 hb;have GW101 := GE101;clear hb hg;obtain ⟨hcz18_0, hcz18_1, hcz18_2, hcz18_3, hcz18_4, hcz18_5, hcz18_6, hfz18_0, hfz18_1, hfz18_2, hfz18_3, hfz18_4, hfz18_5, hfz18_6⟩ := cells7 BK101.out) | ((with_reducible refine gate_callee (f := 39) rfl ?_);refine glB 8 rfl rfl Try.func39 (laws_szName.calls k _ _ l0_0 a1 t102 _ (cv HR0_0 HB) HC0_0.out A3.out) (fun w19 hb => ?_);replace BK101 := b1 BK101 hb;replace HB := b2s bs hb;(try clear hb);obtain ⟨hcz20_0, hcz20_1, hcz20_2, hcz20_3, hcz20_4, hcz20_5, hcz20_6, hfz20_0, hfz20_1, hfz20_2, hfz20_3, hfz20_4, hfz20_5, hfz20_6⟩ := cells7 BK101.out) | ((with_reducible refine gate_callee (f := 39) rfl ?_);refine glB 14 rfl rfl Try.func39 (laws_szName.calls k _ _ l0_4 t102 t103 _ (cv HR0_4 HB) HC0_4.out A8.out) (fun w21 hb => ?_);replace BK101 := b1 BK101 hb;replace HB := b2s bs hb;(try clear hb);obtain ⟨hcz22_0, hcz22_1, hcz22_2, hcz22_3, hcz22_4, hcz22_5, hcz22_6, hfz22_0, hfz22_1, hfz22_2, hfz22_3, hfz22_4, hfz22_5, hfz22_6⟩ := cells7 BK101.out) | ((with_reducible refine gate_callee (f := 58) rfl ?_);refine glD 20 rfl rfl Try.func58 (laws_szByteS.calls _ _ l0_5 t103 t104 _ (cv HR0_5 HB) HC0_5.out A15.out) (fun nd => ?_)))
    go_ret
    exact ⟨o1, bs⟩
   ·replace H := bnd H
    obtain ⟨t105, A23, H⟩ := H
    replace H := ip H
    obtain ⟨c24b0, H⟩ | ⟨c24b0, H⟩ := H
    ·obtain rfl := Option.some.inj H
     go_enter Try.func13, Try.ntmps13
     go_wp2_with (first | ((with_reducible refine gate_dst (N := 2) rfl ?_);refine bxd (N := 2) rfl HB ?_;clear HB;intro gb101 w25 hg HB BK101 GE101 hb;have GW101 := GE101;clear hb hg;obtain ⟨hcz26_0, hcz26_1, hcz26_2, hcz26_3, hcz26_4, hcz26_5, hcz26_6, hfz26_0, hfz26_1, hfz26_2, hfz26_3, hfz26_4, hfz26_5, hfz26_6⟩ := cells7 BK101.out) | ((with_reducible refine gate_callee (f := 39) rfl ?_);refine glB 8 rfl rfl Try.func39 (laws_szName.calls k _ _ l0_0 a1 t102 _ (cv HR0_0 HB) HC0_0.out A3.out) (fun w27 hb => ?_);replace BK101 := b1 BK101 hb;replace HB := b2s bs hb;(try clear hb);obtain ⟨hcz28_0, hcz28_1, hcz28_2, hcz28_3, hcz28_4, hcz28_5, hcz28_6, hfz28_0, hfz28_1, hfz28_2, hfz28_3, hfz28_4, hfz28_5, hfz28_6⟩ := cells7 BK101.out) | ((with_reducible refine gate_callee (f := 39) rfl ?_);refine glB 14 rfl rfl Try.func39 (laws_szName.calls k _ _ l0_4 t102 t103 _ (cv HR0_4 HB) HC0_4.out A8.out) (fun w29 hb => ?_);replace BK101 := b1 BK101 hb;replace HB := b2s bs hb;(try clear hb);obtain ⟨hcz30_0, hcz30_1, hcz30_2, hcz30_3, hcz30_4, hcz30_5, hcz30_6, hfz30_0, hfz30_1, hfz30_2, hfz30_3, hfz30_4, hfz30_5, hfz30_6⟩ := cells7 BK101.out) | ((with_reducible refine gate_callee (f := 58) rfl ?_);refine glD 20 rfl rfl Try.func58 (laws_szByteS.calls _ _ l0_5 t103 t104 _ (cv HR0_5 HB) HC0_5.out A15.out) (fun nd => ?_)) | ((with_reducible refine gate_callee (f := 59) rfl ?_);refine glD 26 rfl rfl Try.func59 (laws_szIntS.calls _ _ l0_6 t104 t105 _ ?side1 HC0_6.out A23.out) (fun nd => ?_);(case side1 => repeat (first | exact (Kd.C_below HR0_6.out bs) | (with_reducible refine Kd.C_alloc ?_ _) | (with_reducible refine Kd.C_drewN ?_ _) | (with_reducible refine Kd.C_drew ?_)))))
     go_ret
     exact ⟨o1, bs⟩
    ·obtain rfl := Option.some.inj H
     go_enter Try.func13, Try.ntmps13
     go_wp2_with (first | ((with_reducible refine gate_dst (N := 2) rfl ?_);refine bxd (N := 2) rfl HB ?_;clear HB;intro gb101 w31 hg HB BK101 GE101 hb;have GW101 := GE101;clear hb hg;obtain ⟨hcz32_0, hcz32_1, hcz32_2, hcz32_3, hcz32_4, hcz32_5, hcz32_6, hfz32_0, hfz32_1, hfz32_2, hfz32_3, hfz32_4, hfz32_5, hfz32_6⟩ := cells7 BK101.out) | ((with_reducible refine gate_callee (f := 39) rfl ?_);refine glB 8 rfl rfl Try.func39 (laws_szName.calls k _ _ l0_0 a1 t102 _ (cv HR0_0 HB) HC0_0.out A3.out) (fun w33 hb => ?_);replace BK101 := b1 BK101 hb;replace HB := b2s bs hb;(try clear hb);obtain ⟨hcz34_0, hcz34_1, hcz34_2, hcz34_3, hcz34_4, hcz34_5, hcz34_6, hfz34_0, hfz34_1, hfz34_2, hfz34_3, hfz34_4, hfz34_5, hfz34_6⟩ := cells7 BK101.out) | ((with_reducible refine gate_callee (f := 39) rfl ?_);refine glB 14 rfl rfl Try.func39 (laws_szName.calls k _ _ l0_4 t102 t103 _ (cv HR0_4 HB) HC0_4.out A8.out) (fun w35 hb => ?_);replace BK101 := b1 BK101 hb;replace HB := b2s bs hb;(try clear hb);obtain ⟨hcz36_0, hcz36_1, hcz36_2, hcz36_3, hcz36_4, hcz36_5, hcz36_6, hfz36_0, hfz36_1, hfz36_2, hfz36_3, hfz36_4, hfz36_5, hfz36_6⟩ := cells7 BK101.out) | ((with_reducible refine gate_callee (f := 58) rfl ?_);refine glD 20 rfl rfl Try.func58 (laws_szByteS.calls _ _ l0_5 t103 t104 _ (cv HR0_5 HB) HC0_5.out A15.out) (fun nd => ?_)) | ((with_reducible refine gate_callee (f := 59) rfl ?_);refine glD 26 rfl rfl Try.func59 (laws_szIntS.calls _ _ l0_6 t104 t105 _ ?side1 HC0_6.out A23.out) (fun nd => ?_);(case side1 => repeat (first | exact (Kd.C_below HR0_6.out bs) | (with_reducible refine Kd.C_alloc ?_ _) | (with_reducible refine Kd.C_drewN ?_ _) | (with_reducible refine Kd.C_drew ?_)))))
     go_ret
     exact ⟨o1, bs⟩

/-! ### laws_szRrS: function 95 -/
def laws_szRrS.l0 : Nat → List (S28) → Int → Int → Option (Int)
 | 0, _, _, _ => none
 | k + 1, x0, x1, x5 => if x5 < (x0.length : Int) then (if 0 ≤ x5 then ((laws_szRr.f k ((rd_T28 x0 x5).f0.f0) ((rd_T28 x0 x5).f1) ((rd_T28 x0 x5).f2) ((rd_T28 x0 x5).f3) ((rd_T28 x0 x5).f4.f0) ((rd_T28 x0 x5).f5) ((rd_T28 x0 x5).f6) x1).bind fun t102 => (if t102 < 0 then (some (-1)) else (laws_szRrS.l0 k x0 t102 (wrap64 (x5 + 1))))) else (none)) else (some x1)
def laws_szRrS.f (k : Nat) (l0 : List (S28)) (a1 : Int) : Option (Int) := if (wrap64 (a1 - (l0.length : Int))) < 0 then (some (-1)) else (laws_szRrS.l0 k l0 (wrap64 (a1 - (l0.length : Int))) 0)
set_option maxHeartbeats 8000000 in
set_option maxRecDepth 100000 in
theorem laws_szRrS.calls (k : Nat) (A0 : Option Addr) (c0 : Nat) (l0 : List (S28)) (a1 : Int) (r : Int) (w : World) (hr0 : Kd.C k28 w A0 l0.length l0) (hc0 : l0.length ≤ c0) (h : laws_szRrS.f k l0 a1 = some r) :
  Calls Try.prog 95 #[.slice A0 l0.length c0, .int .i64 a1] w fun e w' => e = .returned (.int .i64 r) ∧ Below w.heap.size w w' := by
 have hu28 := Try.underlying28
 have HR0 := ak hr0
 have HC0 := ak hc0
 clear hr0 hc0
 have HB := ak (Below.refl w.heap.size w)
 have H : (if (wrap64 (a1 - (l0.length : Int))) < 0 then (some (-1)) else (laws_szRrS.l0 k l0 (wrap64 (a1 - (l0.length : Int))) 0)) = some r := h
 clear h
 replace H := ip H
 obtain ⟨c3b0, H⟩ | ⟨c3b0, H⟩ := H
 ·obtain rfl := Option.some.inj H
  go_enter Try.func95, Try.ntmps95
  go_wp2
  go_ret
  exact ⟨o1, bw HB.out⟩
 ·have H' := ak H
  clear H
  go_enter Try.func95, Try.ntmps95
  go_wp2
  go_loopg [1, 5] k (fun kq v1 v5 w' => ∃ (x1_1 : Int) (x5_1 : Int), v1 = .int .i64 x1_1 ∧ v5 = .int .i64 x5_1 ∧ Aside0 (laws_szRrS.l0 kq l0 x1_1 x5_1 = some r) ∧ Aside0 (kq ≤ k) ∧ Aside0 (Below w.heap.size w w'))
  case atStart => exact ⟨(wrap64 (a1 - (l0.length : Int))), (0), o2, o2, H', ⟨Nat.le_refl _⟩, ⟨bw HB.out⟩⟩
  case round =>
   clear H'
   (try clear c3b0)
   obtain ⟨x1_1, x5_1, rfl, rfl, HA, HK1, HB⟩ := hrel
   cases gk with
   | zero => exact absurd HA.out (by simp [laws_szRrS.l0])
   | succ k1 =>
    have H := HA.out
    clear HA
    simp only [laws_szRrS.l0] at H
    replace H := ip H
    obtain ⟨c4b0, H⟩ | ⟨c4b0, H⟩ := H
    ·replace H := ipN H
     obtain ⟨c5b0, H⟩ := H
     replace H := bnd H
     obtain ⟨t102, A6, H⟩ := H
     replace H := ip H
     obtain ⟨c7b0, H⟩ | ⟨c7b0, H⟩ := H
     ·obtain rfl := Option.some.inj H
      obtain ⟨ad101, A101_0, c101_0, A101_4, c101_4, A101_5, c101_5, A101_6, c101_6, rfl, hx101_0, hx101_1, hx101_2, hx101_3, hx101_4, hx101_5, hx101_6, HC101_0, HR101_0, HC101_4, HR101_4, HC101_5, HR101_5, HC101_6, HR101_6, p101, q101⟩ := el_T28 HR0 HB x5_1
      go_wp2_with (((with_reducible refine gate_callee (f := 13) rfl ?_);refine glB 23 rfl rfl Try.func13 (laws_szRr.calls k1 _ _ ((rd_T28 l0 x5_1).f0.f0) ((rd_T28 l0 x5_1).f1) ((rd_T28 l0 x5_1).f2) ((rd_T28 l0 x5_1).f3) _ _ ((rd_T28 l0 x5_1).f4.f0) _ _ ((rd_T28 l0 x5_1).f5) _ _ ((rd_T28 l0 x5_1).f6) x1_1 t102 _ (cv HR101_0 HB) HC101_0.out (cv HR101_4 HB) HC101_4.out (cv HR101_5 HB) HC101_5.out (cv HR101_6 HB) HC101_6.out A6.out) (fun w8 hb => ?_);replace HB := b2 HB hb;(try clear hb)))
      go_ret
      exact ⟨o1, bw HB.out⟩
     ·have H' := ak H
      clear H
      obtain ⟨ad101, A101_0, c101_0, A101_4, c101_4, A101_5, c101_5, A101_6, c101_6, rfl, hx101_0, hx101_1, hx101_2, hx101_3, hx101_4, hx101_5, hx101_6, HC101_0, HR101_0, HC101_4, HR101_4, HC101_5, HR101_5, HC101_6, HR101_6, p101, q101⟩ := el_T28 HR0 HB x5_1
      go_wp2_with (((with_reducible refine gate_callee (f := 13) rfl ?_);refine glB 23 rfl rfl Try.func13 (laws_szRr.calls k1 _ _ ((rd_T28 l0 x5_1).f0.f0) ((rd_T28 l0 x5_1).f1) ((rd_T28 l0 x5_1).f2) ((rd_T28 l0 x5_1).f3) _ _ ((rd_T28 l0 x5_1).f4.f0) _ _ ((rd_T28 l0 x5_1).f5) _ _ ((rd_T28 l0 x5_1).f6) x1_1 t102 _ (cv HR101_0 HB) HC101_0.out (cv HR101_4 HB) HC101_4.out (cv HR101_5 HB) HC101_5.out (cv HR101_6 HB) HC101_6.out A6.out) (fun w9 hb => ?_);replace HB := b2 HB hb;(try clear hb)))
      go_roundg k1
      case measure => have := HK1.out; omega
      case rel => exact ⟨(t102), (wrap64 (x5_1 + 1)), o2, o2, H', ⟨by have := HK1.out; omega⟩, ⟨bw HB.out⟩⟩
    ·obtain rfl := Option.some.inj H
     go_wp2
     go_ret
     exact ⟨o1, bw HB.out⟩

/-! ### laws_szQuestion: function 186 -/
def laws_szQuestion.f (k : Nat) (l0_0 : List (List Int)) (a0_1 : Int) (a1 : Int) : Option (Int) := (laws_szName.f k l0_0 a1).bind fun t102 => (if t102 < 0 then (some (-1)) else (some t102))
set_option maxHeartbeats 8000000 in
set_option maxRecDepth 100000 in
theorem laws_szQuestion.calls (k : Nat) (A0_0 : Option Addr) (c0_0 : Nat) (l0_0 : List (List Int)) (a0_1 : Int) (a1 : Int) (r : Int) (w : World) (hr0_0 : Kd.C (Kd.slice 5 (Kd.int .u8)) w A0_0 l0_0.length l0_0) (hc0_0 : l0_0.length ≤ c0_0) (h : laws_szQuestion.f k l0_0 a0_1 a1 = some r) :
  Calls Try.prog 186 #[.agg #[.slice A0_0 l0_0.length c0_0, .int .i64 a0_1], .int .i64 a1] w fun e w' => e = .returned (.int .i64 r) ∧ Below w.heap.size w w' := by
 have hu195 := Try.underlying195
 have hu24 := Try.underlying24
 have HR0_0 := ak hr0_0
 have HC0_0 := ak hc0_0
 clear hr0_0 hc0_0
 have HB := ak (Below.refl w.heap.size w)
 have H : ((laws_szName.f k l0_0 a1).bind fun t102 => (if t102 < 0 then (some (-1)) else (some t102))) = some r := h
 clear h
 replace H := bnd H
 obtain ⟨t102, A3, H⟩ := H
 replace H := ip H
 obtain ⟨c4b0, H⟩ | ⟨c4b0, H⟩ := H
 ·obtain rfl := Option.some.inj H
  go_enter Try.func186, Try.ntmps186
  go_wp2_with (first | ((with_reducible refine gate_dst (N := 2) rfl ?_);refine bxd (N := 2) rfl HB ?_;clear HB;intro gb101 w5 hg HB BK101 GE101 hb;have GW101 := GE101;clear hb hg;obtain ⟨hcz6_0, hcz6_1, hfz6_0, hfz6_1⟩ := cells2 BK101.out) | ((with_reducible refine gate_callee (f := 39) rfl ?_);refine glB 8 rfl rfl Try.func39 (laws_szName.calls k _ _ l0_0 a1 t102 _ (cv HR0_0 HB) HC0_0.out A3.out) (fun w7 hb => ?_);replace BK101 := b1 BK101 hb;replace HB := b2s bs hb;(try clear hb)))
  go_ret
  exact ⟨o1, bs⟩
 ·obtain rfl := Option.some.inj H
  go_enter Try.func186, Try.ntmps186
  go_wp2_with (first | ((with_reducible refine gate_dst (N := 2) rfl ?_);refine bxd (N := 2) rfl HB ?_;clear HB;intro gb101 w8 hg HB BK101 GE101 hb;have GW101 := GE101;clear hb hg;obtain ⟨hcz9_0, hcz9_1, hfz9_0, hfz9_1⟩ := cells2 BK101.out) | ((with_reducible refine gate_callee (f := 39) rfl ?_);refine glB 8 rfl rfl Try.func39 (laws_szName.calls k _ _ l0_0 a1 t102 _ (cv HR0_0 HB) HC0_0.out A3.out) (fun w10 hb => ?_);replace BK101 := b1 BK101 hb;replace HB := b2s bs hb;(try clear hb)))
  go_ret
  exact ⟨o1, bs⟩

/-! ### laws_szQuestionS: function 124 -/
def laws_szQuestionS.l0 : Nat → List (S195) → Int → Int → Option (Int)
 | 0, _, _, _ => none
 | k + 1, x0, x1, x5 => if x5 < (x0.length : Int) then (if 0 ≤ x5 then ((laws_szQuestion.f k ((rd_T195 x0 x5).f0.f0) ((rd_T195 x0 x5).f1) x1).bind fun t102 => (if t102 < 0 then (some (-1)) else (laws_szQuestionS.l0 k x0 t102 (wrap64 (x5 + 1))))) else (none)) else (some x1)
def laws_szQuestionS.f (k : Nat) (l0 : List (S195)) (a1 : Int) : Option (Int) := if (wrap64 (a1 - (l0.length : Int))) < 0 then (some (-1)) else (laws_szQuestionS.l0 k l0 (wrap64 (a1 - (l0.length : Int))) 0)
set_option maxHeartbeats 8000000 in
set_option maxRecDepth 100000 in
theorem laws_szQuestionS.calls (k : Nat) (A0 : Option Addr) (c0 : Nat) (l0 : List (S195)) (a1 : Int) (r : Int) (w : World) (hr0 : Kd.C k195 w A0 l0.length l0) (hc0 : l0.length ≤ c0) (h : laws_szQuestionS.f k l0 a1 = some r) :
  Calls Try.prog 124 #[.slice A0 l0.length c0, .int .i64 a1] w fun e w' => e = .returned (.int .i64 r) ∧ Below w.heap.size w w' := by
 have hu195 := Try.underlying195
 have HR0 := ak hr0
 have HC0 := ak hc0
 clear hr0 hc0
 have HB := ak (Below.refl w.heap.size w)
 have H : (if (wrap64 (a1 - (l0.length : Int))) < 0 then (some (-1)) else (laws_szQuestionS.l0 k l0 (wrap64 (a1 - (l0.length : Int))) 0)) = some r := h
 clear h
 replace H := ip H
 obtain ⟨c3b0, H⟩ | ⟨c3b0, H⟩ := H
 ·obtain rfl := Option.some.inj H
  go_enter Try.func124, Try.ntmps124
  go_wp2
  go_ret
  exact ⟨o1, bw HB.out⟩
 ·have H' := ak H
  clear H
  go_enter Try.func124, Try.ntmps124
  go_wp2
  go_loopg [1, 5] k (fun kq v1 v5 w' => ∃ (x1_1 : Int) (x5_1 : Int), v1 = .int .i64 x1_1 ∧ v5 = .int .i64 x5_1 ∧ Aside0 (laws_szQuestionS.l0 kq l0 x1_1 x5_1 = some r) ∧ Aside0 (kq ≤ k) ∧ Aside0 (Below w.heap.size w w'))
  case atStart => exact ⟨(wrap64 (a1 - (l0.length : Int))), (0), o2, o2, H', ⟨Nat.le_refl _⟩, ⟨bw HB.out⟩⟩
  case round =>
   clear H'
   (try clear c3b0)
   obtain ⟨x1_1, x5_1, rfl, rfl, HA, HK1, HB⟩ := hrel
   cases gk with
   | zero => exact absurd HA.out (by simp [laws_szQuestionS.l0])
   | succ k1 =>
    have H := HA.out
    clear HA
    simp only [laws_szQuestionS.l0] at H
    replace H := ip H
    obtain ⟨c4b0, H⟩ | ⟨c4b0, H⟩ := H
    ·replace H := ipN H
     obtain ⟨c5b0, H⟩ := H
     replace H := bnd H
     obtain ⟨t102, A6, H⟩ := H
     replace H := ip H
     obtain ⟨c7b0, H⟩ | ⟨c7b0, H⟩ := H
     ·obtain rfl := Option.some.inj H
      obtain ⟨ad101, A101_0, c101_0, rfl, hx101_0, hx101_1, HC101_0, HR101_0, p101, q101⟩ := el_T195 HR0 HB x5_1
      go_wp2_with (((with_reducible refine gate_callee (f := 186) rfl ?_);refine glB 23 rfl rfl Try.func186 (laws_szQuestion.calls k1 _ _ ((rd_T195 l0 x5_1).f0.f0) ((rd_T195 l0 x5_1).f1) x1_1 t102 _ (cv HR101_0 HB) HC101_0.out A6.out) (fun w8 hb => ?_);replace HB := b2 HB hb;(try clear hb)))
      go_ret
      exact ⟨o1, bw HB.out⟩
     ·have H' := ak H
      clear H
      obtain ⟨ad101, A101_0, c101_0, rfl, hx101_0, hx101_1, HC101_0, HR101_0, p101, q101⟩ := el_T195 HR0 HB x5_1
      go_wp2_with (((with_reducible refine gate_callee (f := 186) rfl ?_);refine glB 23 rfl rfl Try.func186 (laws_szQuestion.calls k1 _ _ ((rd_T195 l0 x5_1).f0.f0) ((rd_T195 l0 x5_1).f1) x1_1 t102 _ (cv HR101_0 HB) HC101_0.out A6.out) (fun w9 hb => ?_);replace HB := b2 HB hb;(try clear hb)))
      go_roundg k1
      case measure => have := HK1.out; omega
      case rel => exact ⟨(t102), (wrap64 (x5_1 + 1)), o2, o2, H', ⟨by have := HK1.out; omega⟩, ⟨bw HB.out⟩⟩
    ·obtain rfl := Option.some.inj H
     go_wp2
     go_ret
     exact ⟨o1, bw HB.out⟩

/-! ### laws_szWant: function 187 -/
def laws_szWant.f (k : Nat) (l0_0 : List (List Int)) (a0_1 : Int) (a0_2 : Int) (a0_3 : Int) (l0_4 : List (List Int)) (l0_5 : List Int) (l0_6 : List Int) (a0_7 : Int) (a0_8 : Bool) (a1 : Int) : Option (Int) := (laws_szRr.f k l0_0 a0_1 a0_2 a0_3 l0_4 l0_5 l0_6 a1).bind fun t102 => (if t102 < 0 then (some (-1)) else (some t102))
set_option maxHeartbeats 8000000 in
set_option maxRecDepth 100000 in
theorem laws_szWant.calls (k : Nat) (A0_0 : Option Addr) (c0_0 : Nat) (l0_0 : List (List Int)) (a0_1 : Int) (a0_2 : Int) (a0_3 : Int) (A0_4 : Option Addr) (c0_4 : Nat) (l0_4 : List (List Int)) (A0_5 : Option Addr) (c0_5 : Nat) (l0_5 : List Int) (A0_6 : Option Addr) (c0_6 : Nat) (l0_6 : List Int) (a0_7 : Int) (a0_8 : Bool) (a1 : Int) (r : Int) (w : World) (hr0_0 : Kd.C (Kd.slice 5 (Kd.int .u8)) w A0_0 l0_0.length l0_0) (hc0_0 : l0_0.length ≤ c0_0) (hr0_4 : Kd.C (Kd.slice 5 (Kd.int .u8)) w A0_4 l0_4.length l0_4) (hc0_4 : l0_4.length ≤ c0_4) (hr0_5 : Kd.C (Kd.int .u8) w A0_5 l0_5.length l0_5) (hc0_5 : l0_5.length ≤ c0_5) (hr0_6 : Kd.C (Kd.int .i64) w A0_6 l0_6.length l0_6) (hc0_6 : l0_6.length ≤ c0_6) (h : laws_szWant.f k l0_0 a0_1 a0_2 a0_3 l0_4 l0_5 l0_6 a0_7 a0_8 a1 = some r) :
  Calls Try.prog 187 #[.agg #[.slice A0_0 l0_0.length c0_0, .int .i64 a0_1, .int .i64 a0_2, .int .i64 a0_3, .slice A0_4 l0_4.length c0_4, .slice A0_5 l0_5.length c0_5, .slice A0_6 l0_6.length c0_6, .int .i64 a0_7, .bool a0_8], .int .i64 a1] w fun e w' => e = .returned (.int .i64 r) ∧ Below w.heap.size w w' := by
 have hu198 := Try.underlying198
 have hu28 := Try.underlying28
 have HR0_0 := ak hr0_0
 have HC0_0 := ak hc0_0
 clear hr0_0 hc0_0
 have HR0_4 := ak hr0_4
 have HC0_4 := ak hc0_4
 clear hr0_4 hc0_4
 have HR0_5 := ak hr0_5
 have HC0_5 := ak hc0_5
 clear hr0_5 hc0_5
 have HR0_6 := ak hr0_6
 have HC0_6 := ak hc0_6
 clear hr0_6 hc0_6
 have HB := ak (Below.refl w.heap.size w)
 have H : ((laws_szRr.f k l0_0 a0_1 a0_2 a0_3 l0_4 l0_5 l0_6 a1).bind fun t102 => (if t102 < 0 then (some (-1)) else (some t102))) = some r := h
 clear h
 replace H := bnd H
 obtain ⟨t102, A3, H⟩ := H
 replace H := ip H
 obtain ⟨c4b0, H⟩ | ⟨c4b0, H⟩ := H
 ·obtain rfl := Option.some.inj H
  go_enter Try.func187, Try.ntmps187
  go_wp2_with (first | ((with_reducible refine gate_dst (N := 2) rfl ?_);refine bxd (N := 2) rfl HB ?_;clear HB;intro gb101 w5 hg HB BK101 GE101 hb;have GW101 := GE101;clear hb hg;obtain ⟨hcz6_0, hcz6_1, hcz6_2, hcz6_3, hcz6_4, hcz6_5, hcz6_6, hcz6_7, hcz6_8, hfz6_0, hfz6_1, hfz6_2, hfz6_3, hfz6_4, hfz6_5, hfz6_6, hfz6_7, hfz6_8⟩ := cells9 BK101.out) | ((with_reducible refine gate_callee (f := 13) rfl ?_);refine glB 8 rfl rfl Try.func13 (laws_szRr.calls k _ _ l0_0 a0_1 a0_2 a0_3 _ _ l0_4 _ _ l0_5 _ _ l0_6 a1 t102 _ (cv HR0_0 HB) HC0_0.out (cv HR0_4 HB) HC0_4.out (cv HR0_5 HB) HC0_5.out (cv HR0_6 HB) HC0_6.out A3.out) (fun w7 hb => ?_);replace BK101 := b1 BK101 hb;replace HB := b2s bs hb;(try clear hb)))
  go_ret
  exact ⟨o1, bs⟩
 ·obtain rfl := Option.some.inj H
  go_enter Try.func187, Try.ntmps187
  go_wp2_with (first | ((with_reducible refine gate_dst (N := 2) rfl ?_);refine bxd (N := 2) rfl HB ?_;clear HB;intro gb101 w8 hg HB BK101 GE101 hb;have GW101 := GE101;clear hb hg;obtain ⟨hcz9_0, hcz9_1, hcz9_2, hcz9_3, hcz9_4, hcz9_5, hcz9_6, hcz9_7, hcz9_8, hfz9_0, hfz9_1, hfz9_2, hfz9_3, hfz9_4, hfz9_5, hfz9_6, hfz9_7, hfz9_8⟩ := cells9 BK101.out) | ((with_reducible refine gate_callee (f := 13) rfl ?_);refine glB 8 rfl rfl Try.func13 (laws_szRr.calls k _ _ l0_0 a0_1 a0_2 a0_3 _ _ l0_4 _ _ l0_5 _ _ l0_6 a1 t102 _ (cv HR0_0 HB) HC0_0.out (cv HR0_4 HB) HC0_4.out (cv HR0_5 HB) HC0_5.out (cv HR0_6 HB) HC0_6.out A3.out) (fun w10 hb => ?_);replace BK101 := b1 BK101 hb;replace HB := b2s bs hb;(try clear hb)))
  go_ret
  exact ⟨o1, bs⟩

/-! ### laws_szWantS: function 125 -/
def laws_szWantS.l0 : Nat → List (S198) → Int → Int → Option (Int)
 | 0, _, _, _ => none
 | k + 1, x0, x1, x5 => if x5 < (x0.length : Int) then (if 0 ≤ x5 then ((laws_szWant.f k ((rd_T198 x0 x5).f0.f0.f0) ((rd_T198 x0 x5).f0.f1) ((rd_T198 x0 x5).f0.f2) ((rd_T198 x0 x5).f0.f3) ((rd_T198 x0 x5).f0.f4.f0) ((rd_T198 x0 x5).f0.f5) ((rd_T198 x0 x5).f0.f6) ((rd_T198 x0 x5).f1) ((rd_T198 x0 x5).f2) x1).bind fun t102 => (if t102 < 0 then (some (-1)) else (laws_szWantS.l0 k x0 t102 (wrap64 (x5 + 1))))) else (none)) else (some x1)
def laws_szWantS.f (k : Nat) (l0 : List (S198)) (a1 : Int) : Option (Int) := if (wrap64 (a1 - (l0.length : Int))) < 0 then (some (-1)) else (laws_szWantS.l0 k l0 (wrap64 (a1 - (l0.length : Int))) 0)
set_option maxHeartbeats 8000000 in
set_option maxRecDepth 100000 in
theorem laws_szWantS.calls (k : Nat) (A0 : Option Addr) (c0 : Nat) (l0 : List (S198)) (a1 : Int) (r : Int) (w : World) (hr0 : Kd.C k198 w A0 l0.length l0) (hc0 : l0.length ≤ c0) (h : laws_szWantS.f k l0 a1 = some r) :
  Calls Try.prog 125 #[.slice A0 l0.length c0, .int .i64 a1] w fun e w' => e = .returned (.int .i64 r) ∧ Below w.heap.size w w' := by
 have hu198 := Try.underlying198
 have HR0 := ak hr0
 have HC0 := ak hc0
 clear hr0 hc0
 have HB := ak (Below.refl w.heap.size w)
 have H : (if (wrap64 (a1 - (l0.length : Int))) < 0 then (some (-1)) else (laws_szWantS.l0 k l0 (wrap64 (a1 - (l0.length : Int))) 0)) = some r := h
 clear h
 replace H := ip H
 obtain ⟨c3b0, H⟩ | ⟨c3b0, H⟩ := H
 ·obtain rfl := Option.some.inj H
  go_enter Try.func125, Try.ntmps125
  go_wp2
  go_ret
  exact ⟨o1, bw HB.out⟩
 ·have H' := ak H
  clear H
  go_enter Try.func125, Try.ntmps125
  go_wp2
  go_loopg [1, 5] k (fun kq v1 v5 w' => ∃ (x1_1 : Int) (x5_1 : Int), v1 = .int .i64 x1_1 ∧ v5 = .int .i64 x5_1 ∧ Aside0 (laws_szWantS.l0 kq l0 x1_1 x5_1 = some r) ∧ Aside0 (kq ≤ k) ∧ Aside0 (Below w.heap.size w w'))
  case atStart => exact ⟨(wrap64 (a1 - (l0.length : Int))), (0), o2, o2, H', ⟨Nat.le_refl _⟩, ⟨bw HB.out⟩⟩
  case round =>
   clear H'
   (try clear c3b0)
   obtain ⟨x1_1, x5_1, rfl, rfl, HA, HK1, HB⟩ := hrel
   cases gk with
   | zero => exact absurd HA.out (by simp [laws_szWantS.l0])
   | succ k1 =>
    have H := HA.out
    clear HA
    simp only [laws_szWantS.l0] at H
    replace H := ip H
    obtain ⟨c4b0, H⟩ | ⟨c4b0, H⟩ := H
    ·replace H := ipN H
     obtain ⟨c5b0, H⟩ := H
     replace H := bnd H
     obtain ⟨t102, A6, H⟩ := H
     replace H := ip H
     obtain ⟨c7b0, H⟩ | ⟨c7b0, H⟩ := H
     ·obtain rfl := Option.some.inj H
      obtain ⟨ad101, A101_0, c101_0, A101_4, c101_4, A101_5, c101_5, A101_6, c101_6, rfl, hx101_0, hx101_1, hx101_2, hx101_3, hx101_4, hx101_5, hx101_6, hx101_7, hx101_8, HC101_0, HR101_0, HC101_4, HR101_4, HC101_5, HR101_5, HC101_6, HR101_6, p101, q101⟩ := el_T198 HR0 HB x5_1
      go_wp2_with (((with_reducible refine gate_callee (f := 187) rfl ?_);refine glB 23 rfl rfl Try.func187 (laws_szWant.calls k1 _ _ ((rd_T198 l0 x5_1).f0.f0.f0) ((rd_T198 l0 x5_1).f0.f1) ((rd_T198 l0 x5_1).f0.f2) ((rd_T198 l0 x5_1).f0.f3) _ _ ((rd_T198 l0 x5_1).f0.f4.f0) _ _ ((rd_T198 l0 x5_1).f0.f5) _ _ ((rd_T198 l0 x5_1).f0.f6) ((rd_T198 l0 x5_1).f1) ((rd_T198 l0 x5_1).f2) x1_1 t102 _ (cv HR101_0 HB) HC101_0.out (cv HR101_4 HB) HC101_4.out (cv HR101_5 HB) HC101_5.out (cv HR101_6 HB) HC101_6.out A6.out) (fun w8 hb => ?_);replace HB := b2 HB hb;(try clear hb)))
      go_ret
      exact ⟨o1, bw HB.out⟩
     ·have H' := ak H
      clear H
      obtain ⟨ad101, A101_0, c101_0, A101_4, c101_4, A101_5, c101_5, A101_6, c101_6, rfl, hx101_0, hx101_1, hx101_2, hx101_3, hx101_4, hx101_5, hx101_6, hx101_7, hx101_8, HC101_0, HR101_0, HC101_4, HR101_4, HC101_5, HR101_5, HC101_6, HR101_6, p101, q101⟩ := el_T198 HR0 HB x5_1
      go_wp2_with (((with_reducible refine gate_callee (f := 187) rfl ?_);refine glB 23 rfl rfl Try.func187 (laws_szWant.calls k1 _ _ ((rd_T198 l0 x5_1).f0.f0.f0) ((rd_T198 l0 x5_1).f0.f1) ((rd_T198 l0 x5_1).f0.f2) ((rd_T198 l0 x5_1).f0.f3) _ _ ((rd_T198 l0 x5_1).f0.f4.f0) _ _ ((rd_T198 l0 x5_1).f0.f5) _ _ ((rd_T198 l0 x5_1).f0.f6) ((rd_T198 l0 x5_1).f1) ((rd_T198 l0 x5_1).f2) x1_1 t102 _ (cv HR101_0 HB) HC101_0.out (cv HR101_4 HB) HC101_4.out (cv HR101_5 HB) HC101_5.out (cv HR101_6 HB) HC101_6.out A6.out) (fun w9 hb => ?_);replace HB := b2 HB hb;(try clear hb)))
      go_roundg k1
      case measure => have := HK1.out; omega
      case rel => exact ⟨(t102), (wrap64 (x5_1 + 1)), o2, o2, H', ⟨by have := HK1.out; omega⟩, ⟨bw HB.out⟩⟩
    ·obtain rfl := Option.some.inj H
     go_wp2
     go_ret
     exact ⟨o1, bw HB.out⟩

theorem cells11 {W : World} {g t : Nat} {v0 v1 v2 v3 v4 v5 v6 v7 v8 v9 v10 : Value} (h : W.heap[g]? = some (.cells #[v0, v1, v2, v3, v4, v5, v6, v7, v8, v9, v10] t (0, 0))) : W.cell? ⟨g, 0, none⟩ = some v0 ∧ W.cell? ⟨g, 1, none⟩ = some v1 ∧ W.cell? ⟨g, 2, none⟩ = some v2 ∧ W.cell? ⟨g, 3, none⟩ = some v3 ∧ W.cell? ⟨g, 4, none⟩ = some v4 ∧ W.cell? ⟨g, 5, none⟩ = some v5 ∧ W.cell? ⟨g, 6, none⟩ = some v6 ∧ W.cell? ⟨g, 7, none⟩ = some v7 ∧ W.cell? ⟨g, 8, none⟩ = some v8 ∧ W.cell? ⟨g, 9, none⟩ = some v9 ∧ W.cell? ⟨g, 10, none⟩ = some v10 ∧ W.frozen? ⟨g, 0, none⟩ = false ∧ W.frozen? ⟨g, 1, none⟩ = false ∧ W.frozen? ⟨g, 2, none⟩ = false ∧ W.frozen? ⟨g, 3, none⟩ = false ∧ W.frozen? ⟨g, 4, none⟩ = false ∧ W.frozen? ⟨g, 5, none⟩ = false ∧ W.frozen? ⟨g, 6, none⟩ = false ∧ W.frozen? ⟨g, 7, none⟩ = false ∧ W.frozen? ⟨g, 8, none⟩ = false ∧ W.frozen? ⟨g, 9, none⟩ = false ∧ W.frozen? ⟨g, 10, none⟩ = false :=
  ⟨(blk_cell h 0).trans rfl, (blk_cell h 1).trans rfl, (blk_cell h 2).trans rfl, (blk_cell h 3).trans rfl, (blk_cell h 4).trans rfl, (blk_cell h 5).trans rfl, (blk_cell h 6).trans rfl, (blk_cell h 7).trans rfl, (blk_cell h 8).trans rfl, (blk_cell h 9).trans rfl, (blk_cell h 10).trans rfl, blk_frozen h 0, blk_frozen h 1, blk_frozen h 2, blk_frozen h 3, blk_frozen h 4, blk_frozen h 5, blk_frozen h 6, blk_frozen h 7, blk_frozen h 8, blk_frozen h 9, blk_frozen h 10⟩

/-! ### laws_szMsg: function 53 -/
def laws_szMsg.f (k : Nat) (a0_0 : Int) (a0_1 : Bool) (a0_2 : Int) (a0_3 : Bool) (a0_4 : Int) (l0_5 : List (S195)) (l0_6 : List (S28)) (l0_7 : List (S28)) (l0_8 : List (S28)) (l0_9 : List (S198)) (l0_10 : List (S198)) (a1 : Int) : Option (Int) := (laws_szQuestionS.f k l0_5 a1).bind fun t102 => (if t102 < 0 then (some (-1)) else ((laws_szRrS.f k l0_6 t102).bind fun t103 => (if t103 < 0 then (some (-1)) else ((laws_szRrS.f k l0_7 t103).bind fun t104 => (if t104 < 0 then (some (-1)) else ((laws_szRrS.f k l0_8 t104).bind fun t105 => (if t105 < 0 then (some (-1)) else ((laws_szWantS.f k l0_9 t105).bind fun t106 => (if t106 < 0 then (some (-1)) else ((laws_szWantS.f k l0_10 t106).bind fun t107 => (if t107 < 0 then (some (-1)) else (some t107))))))))))))
set_option maxHeartbeats 8000000 in
set_option maxRecDepth 100000 in
theorem laws_szMsg.calls (k : Nat) (a0_0 : Int) (a0_1 : Bool) (a0_2 : Int) (a0_3 : Bool) (a0_4 : Int) (A0_5 : Option Addr) (c0_5 : Nat) (l0_5 : List (S195)) (A0_6 : Option Addr) (c0_6 : Nat) (l0_6 : List (S28)) (A0_7 : Option Addr) (c0_7 : Nat) (l0_7 : List (S28)) (A0_8 : Option Addr) (c0_8 : Nat) (l0_8 : List (S28)) (A0_9 : Option Addr) (c0_9 : Nat) (l0_9 : List (S198)) (A0_10 : Option Addr) (c0_10 : Nat) (l0_10 : List (S198)) (a1 : Int) (r : Int) (w : World) (hr0_5 : Kd.C k195 w A0_5 l0_5.length l0_5) (hc0_5 : l0_5.length ≤ c0_5) (hr0_6 : Kd.C k28 w A0_6 l0_6.length l0_6) (hc0_6 : l0_6.length ≤ c0_6) (hr0_7 : Kd.C k28 w A0_7 l0_7.length l0_7) (hc0_7 : l0_7.length ≤ c0_7) (hr0_8 : Kd.C k28 w A0_8 l0_8.length l0_8) (hc0_8 : l0_8.length ≤ c0_8) (hr0_9 : Kd.C k198 w A0_9 l0_9.length l0_9) (hc0_9 : l0_9.length ≤ c0_9) (hr0_10 : Kd.C k198 w A0_10 l0_10.length l0_10) (hc0_10 : l0_10.length ≤ c0_10) (h : laws_szMsg.f k a0_0 a0_1 a0_2 a0_3 a0_4 l0_5 l0_6 l0_7 l0_8 l0_9 l0_10 a1 = some r) :
  Calls Try.prog 53 #[.agg #[.int .i64 a0_0, .bool a0_1, .int .i64 a0_2, .bool a0_3, .int .i64 a0_4, .slice A0_5 l0_5.length c0_5, .slice A0_6 l0_6.length c0_6, .slice A0_7 l0_7.length c0_7, .slice A0_8 l0_8.length c0_8, .slice A0_9 l0_9.length c0_9, .slice A0_10 l0_10.length c0_10], .int .i64 a1] w fun e w' => e = .returned (.int .i64 r) ∧ Below w.heap.size w w' := by
 have hu86 := Try.underlying86
 have HR0_5 := ak hr0_5
 have HC0_5 := ak hc0_5
 clear hr0_5 hc0_5
 have HR0_6 := ak hr0_6
 have HC0_6 := ak hc0_6
 clear hr0_6 hc0_6
 have HR0_7 := ak hr0_7
 have HC0_7 := ak hc0_7
 clear hr0_7 hc0_7
 have HR0_8 := ak hr0_8
 have HC0_8 := ak hc0_8
 clear hr0_8 hc0_8
 have HR0_9 := ak hr0_9
 have HC0_9 := ak hc0_9
 clear hr0_9 hc0_9
 have HR0_10 := ak hr0_10
 have HC0_10 := ak hc0_10
 clear hr0_10 hc0_10
 have HB := ak (Below.refl w.heap.size w)
 have H : ((laws_szQuestionS.f k l0_5 a1).bind fun t102 => (if t102 < 0 then (some (-1)) else ((laws_szRrS.f k l0_6 t102).bind fun t103 => (if t103 < 0 then (some (-1)) else ((laws_szRrS.f k l0_7 t103).bind fun t104 => (if t104 < 0 then (some (-1)) else ((laws_szRrS.f k l0_8 t104).bind fun t105 => (if t105 < 0 then (some (-1)) else ((laws_szWantS.f k l0_9 t105).bind fun t106 => (if t106 < 0 then (some (-1)) else ((laws_szWantS.f k l0_10 t106).bind fun t107 => (if t107 < 0 then (some (-1)) else (some t107))))))))))))) = some r := h
 clear h
 replace H := bnd H
 obtain ⟨t102, A3, H⟩ := H
 replace H := ip H
 obtain ⟨c4b0, H⟩ | ⟨c4b0, H⟩ := H
 ·obtain rfl := Option.some.inj H
  go_enter Try.func53, Try.ntmps53
  go_wp2_with (first | ((with_reducible refine gate_dst (N := 2) rfl ?_);refine bxd (N := 2) rfl HB ?_;clear HB;intro gb101 w5 hg HB BK101 GE101 hb;have GW101 := GE101;clear hb hg;obtain ⟨hcz6_0, hcz6_1, hcz6_2, hcz6_3, hcz6_4, hcz6_5, hcz6_6, hcz6_7, hcz6_8, hcz6_9, hcz6_10, hfz6_0, hfz6_1, hfz6_2, hfz6_3, hfz6_4, hfz6_5, hfz6_6, hfz6_7, hfz6_8, hfz6_9, hfz6_10⟩ := cells11 BK101.out) | ((with_reducible refine gate_callee (f := 124) rfl ?_);refine glB 8 rfl rfl Try.func124 (laws_szQuestionS.calls k _ _ l0_5 a1 t102 _ (cv HR0_5 HB) HC0_5.out A3.out) (fun w7 hb => ?_);replace BK101 := b1 BK101 hb;replace HB := b2s bs hb;(try clear hb)))
  go_ret
  exact ⟨o1, bs⟩
 ·replace H := bnd H
  obtain ⟨t103, A8, H⟩ := H
  replace H := ip H
  obtain ⟨c9b0, H⟩ | ⟨c9b0, H⟩ := H
  ·obtain rfl := Option.some.inj H
   go_enter Try.func53, Try.ntmps53
   go_wp2_with (first | ((with_reducible refine gate_dst (N := 2) rfl ?_);refine bxd (N := 2) rfl HB ?_;clear HB;intro gb101 w10 hg HB BK101 GE101 hb;have GW101 := GE101;clear hb hg;obtain ⟨hcz11_0, hcz11_1, hcz11_2, hcz11_3, hcz11_4, hcz11_5, hcz11_6, hcz11_7, hcz11_8, hcz11_9, hcz11_10, hfz11_0, hfz11_1, hfz11_2, hfz11_3, hfz11_4, hfz11_5, hfz11_6, hfz11_7, hfz11_8, hfz11_9, hfz11_10⟩ := cells11 BK101.out) | ((with_reducible refine gate_callee (f := 124) rfl ?_);refine glB 8 rfl rfl Try.func124 (laws_szQuestionS.calls k _ _ l0_5 a1 t102 _ (cv HR0_5 HB) HC0_5.out A3.out) (fun w12 hb => ?_);replace BK101 := b1 BK101 hb;replace HB := b2s bs hb;(try clear hb);obtain ⟨hcz13_0, hcz13_1, hcz13_2, hcz13_3, hcz13_4, hcz13_5, hcz13_6, hcz13_7, hcz13_8, hcz13_9, hcz13_10, hfz13_0, hfz13_1, hfz13_2, hfz13_3, hfz13_4, hfz13_5, hfz13_6, hfz13_7, hfz13_8, hfz13_9, hfz13_10⟩ := cells11 BK101.out) | ((with_reducible refine gate_callee (f := 95) rfl ?_);refine glB 14 rfl rfl Try.func95 (laws_szRrS.calls k _ _ l0_6 t102 t103 _ (cv HR0_6 HB) HC0_6.out A8.out) (fun w14 hb => ?_);replace BK101 := b1 BK101 hb;replace HB := b2s bs hb;(try clear hb)))
   go_ret
   exact ⟨o1, bs⟩
  ·replace H := bnd H
   obtain ⟨t104, A15, H⟩ := H
   replace H := ip H
   obtain ⟨c16b0, H⟩ | ⟨c16b0, H⟩ := H
   ·obtain rfl := Option.some.inj H
    go_enter Try.func53, Try.ntmps53
    go_wp2_with (first | ((with_reducible refine gate_dst (N := 2) rfl ?_);refine bxd (N := 2) rfl HB ?_;clear HB;intro gb101 w17 hg HB BK101 GE101 hb;have GW101 := GE101;clear hb hg;obtain ⟨hcz18_0, hcz18_1, hcz18_2, hcz18_3, hcz18_4, hcz18_5, hcz18_6, hcz18_7, hcz18_8, hcz18_9, hcz18_10, hfz18_0, hfz18_1, hfz18_2, hfz18_3, hfz18_4, hfz18_5, hfz18_6, hfz18_7, hfz18_8, hfz18_9, hfz18_10⟩ := cells11 BK101.out) | ((with_reducible refine gate_callee (f := 124) rfl ?_);refine glB 8 rfl rfl Try.func124 (laws_szQuestionS.calls k _ _ l0_5 a1 t102 _ (cv HR0_5 HB) HC0_5.out A3.out) (fun w19 hb => ?_);replace BK101 := b1 BK101 hb;replace HB := b2s bs hb;(try clear hb);obtain ⟨hcz20_0, hcz20_1, hcz20_2, hcz20_3, hcz20_4, hcz20_5, hcz20_6, hcz20_7, hcz20_8, hcz20_9, hcz20_10, hfz20_0, hfz20_1, hfz20_2, hfz20_3, hfz20_4, hfz20_5, hfz20_6, hfz20_7, hfz20_8, hfz20_9, hfz20_10⟩ := cells11 BK101.out) | ((with_reducible refine gate_callee (f := 95) rfl ?_);refine glB 14 rfl rfl Try.func95 (laws_szRrS.calls k _ _ l0_6 t102 t103 _ (cv HR0_6 HB) HC0_6.out A8.out) (fun w21 hb => ?_);replace BK101 := b1 BK101 hb;replace HB := b2s bs hb;(try clear hb);obtain ⟨hcz22_0, hcz22_1, hcz22_2, hcz22_3, hcz22_4, hcz22_5, hcz22_6, hcz22_7, hcz22_8, hcz22_9, hcz22_10, hfz22_0, hfz22_1, hfz22_2, hfz22_3, hfz22_4, hfz22_5, hfz22_6, hfz22_7, hfz22_8, hfz22_9, hfz22_10⟩ := cells11 BK101.out) | ((with_reducible refine gate_callee (f := 95) rfl ?_);refine glB 20 rfl rfl Try.func95 (laws_szRrS.calls k _ _ l0_7 t103 t104 _ (cv HR0_7 HB) HC0_7.out A15.out) (fun w23 hb => ?_);replace BK101 := b1 BK101 hb;replace HB := b2s bs hb;(try clear hb)))
    go_ret
    exact ⟨o1, bs⟩
   ·replace H := bnd H
    obtain ⟨t105, A24, H⟩ := H
    replace H := ip H
    obtain ⟨c25b0, H⟩ | ⟨c25b0, H⟩ := H
    ·obtain rfl := Option.some.inj H
     go_enter Try.func53, Try.ntmps53
     go_wp2_with (first | ((with_reducible refine gate_dst (N := 2) rfl ?_);refine bxd (N := 2) rfl HB ?_;clear HB;intro gb101 w26 hg HB BK101 GE101 hb;have GW101 := GE101;clear hb hg;obtain ⟨hcz27_0, hcz27_1, hcz27_2, hcz27_3, hcz27_4, hcz27_5, hcz27_6, hcz27_7, hcz27_8, hcz27_9, hcz27_10, hfz27_0, hfz27_1, hfz27_2, hfz27_3, hfz27_4, hfz27_5, hfz27_6, hfz27_7, hfz27_8, hfz27_9, hfz27_10⟩ := cells11 BK101.out) | ((with_reducible refine gate_callee (f := 124) rfl ?_);refine glB 8 rfl rfl Try.func124 (laws_szQuestionS.calls k _ _ l0_5 a1 t102 _ (cv HR0_5 HB) HC0_5.out A3.out) (fun w28 hb => ?_);replace BK101 := b1 BK101 hb;replace HB := b2s bs hb;(try clear hb);obtain ⟨hcz29_0, hcz29_1, hcz29_2, hcz29_3, hcz29_4, hcz29_5, hcz29_6, hcz29_7, hcz29_8, hcz29_9, hcz29_10, hfz29_0, hfz29_1, hfz29_2, hfz29_3, hfz29_4, hfz29_5, hfz29_6, hfz29_7, hfz29_8, hfz29_9, hfz29_10⟩ := cells11 BK101.out) | ((with_reducible refine gate_callee (f := 95) rfl ?_);refine glB 14 rfl rfl Try.func95 (laws_szRrS.calls k _ _ l0_6 t102 t103 _ (cv HR0_6 HB) HC0_6.out A8.out) (fun w30 hb => ?_);replace BK101 := b1 BK101 hb;replace HB := b2s bs hb;(try clear hb);obtain ⟨hcz31_0, hcz31_1, hcz31_2, hcz31_3, hcz31_4, hcz31_5, hcz31_6, hcz31_7, hcz31_8, hcz31_9, hcz31_10, hfz31_0, hfz31_1, hfz31_2, hfz31_3, hfz31_4, hfz31_5, hfz31_6, hfz31_7, hfz31_8, hfz31_9, hfz31_10⟩ := cells11 BK101.out) | ((with_reducible refine gate_callee (f := 95) rfl ?_);refine glB 20 rfl rfl Try.func95 (laws_szRrS.calls k _ _ l0_7 t103 t104 _ (cv HR0_7 HB) HC0_7.out A15.out) (fun w32 hb => ?_);replace BK101 := b1 BK101 hb;replace HB := b2s bs hb;(try clear hb);obtain ⟨hcz33_0, hcz33_1, hcz33_2, hcz33_3, hcz33_4, hcz33_5, hcz33_6, hcz33_7, hcz33_8, hcz33_9, hcz33_10, hfz33_0, hfz33_1, hfz33_2, hfz33_3, hfz33_4, hfz33_5, hfz33_6, hfz33_7, hfz33_8, hfz33_9, hfz33_10⟩ := cells11 BK101.out) | ((with_reducible refine gate_callee (f := 95) rfl ?_);refine glB 26 rfl rfl Try.func95 (laws_szRrS.calls k _ _ l0_8 t104 t105 _ (cv HR0_8 HB) HC0_8.out A24.out) (fun w34 hb => ?_);replace BK101 := b1 BK101 hb;replace HB := b2s bs hb;(try clear hb)))
     go_ret
     exact ⟨o1, bs⟩
    ·replace H := bnd H
     obtain ⟨t106, A35, H⟩ := H
     replace H := ip H
     obtain ⟨c36b0, H⟩ | ⟨c36b0, H⟩ := H
     ·obtain rfl := Option.some.inj H
      go_enter Try.func53, Try.ntmps53
      go_wp2_with (first | ((with_reducible refine gate_dst (N := 2) rfl ?_);refine bxd (N := 2) rfl HB ?_;clear HB;intro gb101 w37 hg HB BK101 GE101 hb;have GW101 := GE101;clear hb hg;obtain ⟨hcz38_0, hcz38_1, hcz38_2, hcz38_3, hcz38_4, hcz38_5, hcz38_6, hcz38_7, hcz38_8, hcz38_9, hcz38_10, hfz38_0, hfz38_1, hfz38_2, hfz38_3, hfz38_4, hfz38_5, hfz38_6, hfz38_7, hfz38_8, hfz38_9, hfz38_10⟩ := cells11 BK101.out) | ((with_reducible refine gate_callee (f := 124) rfl ?_);refine glB 8 rfl rfl Try.func124 (laws_szQuestionS.calls k _ _ l0_5 a1 t102 _ (cv HR0_5 HB) HC0_5.out A3.out) (fun w39 hb => ?_);replace BK101 := b1 BK101 hb;replace HB := b2s bs hb;(try clear hb);obtain ⟨hcz40_0, hcz40_1, hcz40_2, hcz40_3, hcz40_4, hcz40_5, hcz40_6, hcz40_7, hcz40_8, hcz40_9, hcz40_10, hfz40_0, hfz40_1, hfz40_2, hfz40_3, hfz40_4, hfz40_5, hfz40_6, hfz40_7, hfz40_8, hfz40_9, hfz40_10⟩ := cells11 BK101.out) | ((with_reducible refine gate_callee (f := 95) rfl ?_);refine glB 14 rfl rfl Try.func95 (laws_szRrS.calls k _ _ l0_6 t102 t103 _ (cv HR0_6 HB) HC0_6.out A8.out) (fun w41 hb => ?_);replace BK101 := b1 BK101 hb;replace HB := b2s bs hb;(try clear hb);obtain ⟨hcz42_0, hcz42_1, hcz42_2, hcz42_3, hcz42_4, hcz42_5, hcz42_6, hcz42_7, hcz42_8, hcz42_9, hcz42_10, hfz42_0, hfz42_1, hfz42_2, hfz42_3, hfz42_4, hfz42_5, hfz42_6, hfz42_7, hfz42_8, hfz42_9, hfz42_10⟩ := cells11 BK101.out) | ((with_reducible refine gate_callee (f := 95) rfl ?_);refine glB 20 rfl rfl Try.func95 (laws_szRrS.calls k _ _ l0_7 t103 t104 _ (cv HR0_7 HB) HC0_7.out A15.out) (fun w43 hb => ?_);replace BK101 := b1 BK101 hb;replace HB := b2s bs hb;(try clear hb);obtain ⟨hcz44_0, hcz44_1, hcz44_2, hcz44_3, hcz44_4, hcz44_5, hcz44_6, hcz44_7, hcz44_8, hcz44_9, hcz44_10, hfz44_0, hfz44_1, hfz44_2, hfz44_3, hfz44_4, hfz44_5, hfz44_6, hfz44_7, hfz44_8, hfz44_9, hfz44_10⟩ := cells11 BK101.out) | ((with_reducible refine gate_callee (f := 95) rfl ?_);refine glB 26 rfl rfl Try.func95 (laws_szRrS.calls k _ _ l0_8 t104 t105 _ (cv HR0_8 HB) HC0_8.out A24.out) (fun w45 hb => ?_);replace BK101 := b1 BK101 hb;replace HB := b2s bs hb;(try clear hb);obtain ⟨hcz46_0, hcz46_1, hcz46_2, hcz46_3, hcz46_4, hcz46_5, hcz46_6, hcz46_7, hcz46_8, hcz46_9, hcz46_10, hfz46_0, hfz46_1, hfz46_2, hfz46_3, hfz46_4, hfz46_5, hfz46_6, hfz46_7, hfz46_8, hfz46_9, hfz46_10⟩ := cells11 BK101.out) | ((with_reducible refine gate_callee (f := 125) rfl ?_);refine glB 32 rfl rfl Try.func125 (laws_szWantS.calls k _ _ l0_9 t105 t106 _ (cv HR0_9 HB) HC0_9.out A35.out) (fun w47 hb => ?_);replace BK101 := b1 BK101 hb;replace HB := b2s bs hb;(try clear hb)))
      go_ret
      exact ⟨o1, bs⟩
     ·replace H := bnd H
      obtain ⟨t107, A48, H⟩ := H
      replace H := ip H
      obtain ⟨c49b0, H⟩ | ⟨c49b0, H⟩ := H
      ·obtain rfl := Option.some.inj H
       go_enter Try.func53, Try.ntmps53
       go_wp2_with (first | ((with_reducible refine gate_dst (N := 2) rfl ?_);refine bxd (N := 2) rfl HB ?_;clear HB;intro gb101 w50 hg HB BK101 GE101 hb;have GW101 := GE101;clear hb hg;obtain ⟨hcz51_0, hcz51_1, hcz51_2, hcz51_3, hcz51_4, hcz51_5, hcz51_6, hcz51_7, hcz51_8, hcz51_9, hcz51_10, hfz51_0, hfz51_1, hfz51_2, hfz51_3, hfz51_4, hfz51_5, hfz51_6, hfz51_7, hfz51_8, hfz51_9, hfz51_10⟩ := cells11 BK101.out) | ((with_reducible refine gate_callee (f := 124) rfl ?_);refine glB 8 rfl rfl Try.func124 (laws_szQuestionS.calls k _ _ l0_5 a1 t102 _ (cv HR0_5 HB) HC0_5.out A3.out) (fun w52 hb => ?_);replace BK101 := b1 BK101 hb;replace HB := b2s bs hb;(try clear hb);obtain ⟨hcz53_0, hcz53_1, hcz53_2, hcz53_3, hcz53_4, hcz53_5, hcz53_6, hcz53_7, hcz53_8, hcz53_9, hcz53_10, hfz53_0, hfz53_1, hfz53_2, hfz53_3, hfz53_4, hfz53_5, hfz53_6, hfz53_7, hfz53_8, hfz53_9, hfz53_10⟩ := cells11 BK101.out) | ((with_reducible refine gate_callee (f := 95) rfl ?_);refine glB 14 rfl rfl Try.func95 (laws_szRrS.calls k _ _ l0_6 t102 t103 _ (cv HR0_6 HB) HC0_6.out A8.out) (fun w54 hb => ?_);replace BK101 := b1 BK101 hb;replace HB := b2s bs hb;(try clear hb);obtain ⟨hcz55_0, hcz55_1, hcz55_2, hcz55_3, hcz55_4, hcz55_5, hcz55_6, hcz55_7, hcz55_8, hcz55_9, hcz55_10, hfz55_0, hfz55_1, hfz55_2, hfz55_3, hfz55_4, hfz55_5, hfz55_6, hfz55_7, hfz55_8, hfz55_9, hfz55_10⟩ := cells11 BK101.out) | ((with_reducible refine gate_callee (f := 95) rfl ?_);refine glB 20 rfl rfl Try.func95 (laws_szRrS.calls k _ _ l0_7 t103 t104 _ (cv HR0_7 HB) HC0_7.out A15.out) (fun w56 hb => ?_);replace BK101 := b1 BK101 hb;replace HB := b2s bs hb;(try clear hb);obtain ⟨hcz57_0, hcz57_1, hcz57_2, hcz57_3, hcz57_4, hcz57_5, hcz57_6, hcz57_7, hcz57_8, hcz57_9, hcz57_10, hfz57_0, hfz57_1, hfz57_2, hfz57_3, hfz57_4, hfz57_5, hfz57_6, hfz57_7, hfz57_8, hfz57_9, hfz57_10⟩ := cells11 BK101.out) | ((with_reducible refine gate_callee (f := 95) rfl ?_);refine glB 26 rfl rfl Try.func95 (laws_szRrS.calls k _ _ l0_8 t104 t105 _ (cv HR0_8 HB) HC0_8.out A24.out) (fun w58 hb => ?_);replace BK101 := b1 BK101 hb;replace HB := b2s bs hb;(try clear hb);obtain ⟨hcz59_0, hcz59_1, hcz59_2, hcz59_3, hcz59_4, hcz59_5, hcz59_6, hcz59_7, hcz59_8, hcz59_9, hcz59_10, hfz59_0, hfz59_1, hfz59_2, hfz59_3, hfz59_4, hfz59_5, hfz59_6, hfz59_7, hfz59_8, hfz59_9, hfz59_10⟩ := cells11 BK101.out) | ((with_reducible refine gate_callee (f := 125) rfl ?_);refine glB 32 rfl rfl Try.func125 (laws_szWantS.calls k _ _ l0_9 t105 t106 _ (cv HR0_9 HB) HC0_9.out A35.out) (fun w60 hb => ?_);replace BK101 := b1 BK101 hb;replace HB := b2s bs hb;(try clear hb);obtain ⟨hcz61_0, hcz61_1, hcz61_2, hcz61_3, hcz61_4, hcz61_5, hcz61_6, hcz61_7, hcz61_8, hcz61_9, hcz61_10, hfz61_0, hfz61_1, hfz61_2, hfz61_3, hfz61_4, hfz61_5, hfz61_6, hfz61_7, hfz61_8, hfz61_9, hfz61_10⟩ := cells11 BK101.out) | ((with_reducible refine gate_callee (f := 125) rfl ?_);refine glB 38 rfl rfl Try.func125 (laws_szWantS.calls k _ _ l0_10 t106 t107 _ (cv HR0_10 HB) HC0_10.out A48.out) (fun w62 hb => ?_);replace BK101 := b1 BK101 hb;replace HB := b2s bs hb;(try clear hb)))
       go_ret
       exact ⟨o1, bs⟩
      ·obtain rfl := Option.some.inj H
       go_enter Try.func53, Try.ntmps53
       go_wp2_with (first | ((with_reducible refine gate_dst (N := 2) rfl ?_);refine bxd (N := 2) rfl HB ?_;clear HB;intro gb101 w63 hg HB BK101 GE101 hb;have GW101 := GE101;clear hb hg;obtain ⟨hcz64_0, hcz64_1, hcz64_2, hcz64_3, hcz64_4, hcz64_5, hcz64_6, hcz64_7, hcz64_8, hcz64_9, hcz64_10, hfz64_0, hfz64_1, hfz64_2, hfz64_3, hfz64_4, hfz64_5, hfz64_6, hfz64_7, hfz64_8, hfz64_9, hfz64_10⟩ := cells11 BK101.out) | ((with_reducible refine gate_callee (f := 124) rfl ?_);refine glB 8 rfl rfl Try.func124 (laws_szQuestionS.calls k _ _ l0_5 a1 t102 _ (cv HR0_5 HB) HC0_5.out A3.out) (fun w65 hb => ?_);replace BK101 := b1 BK101 hb;replace HB := b2s bs hb;(try clear hb);obtain ⟨hcz66_0, hcz66_1, hcz66_2, hcz66_3, hcz66_4, hcz66_5, hcz66_6, hcz66_7, hcz66_8, hcz66_9, hcz66_10, hfz66_0, hfz66_1, hfz66_2, hfz66_3, hfz66_4, hfz66_5, hfz66_6, hfz66_7, hfz66_8, hfz66_9, hfz66_10⟩ := cells11 BK101.out) | ((with_reducible refine gate_callee (f := 95) rfl ?_);refine glB 14 rfl rfl Try.func95 (laws_szRrS.calls k _ _ l0_6 t102 t103 _ (cv HR0_6 HB) HC0_6.out A8.out) (fun w67 hb => ?_);replace BK101 := b1 BK101 hb;replace HB := b2s bs hb;(try clear hb);obtain ⟨hcz68_0, hcz68_1, hcz68_2, hcz68_3, hcz68_4, hcz68_5, hcz68_6, hcz68_7, hcz68_8, hcz68_9, hcz68_10, hfz68_0, hfz68_1, hfz68_2, hfz68_3, hfz68_4, hfz68_5, hfz68_6, hfz68_7, hfz68_8, hfz68_9, hfz68_10⟩ := cells11 BK101.out) | ((with_reducible refine gate_callee (f := 95) rfl ?_);refine glB 20 rfl rfl Try.func95 (laws_szRrS.calls k _ _ l0_7 t103 t104 _ (cv HR0_7 HB) HC0_7.out A15.out) (fun w69 hb => ?_);replace BK101 := b1 BK101 hb;replace HB := b2s bs hb;(try clear hb);obtain ⟨hcz70_0, hcz70_1, hcz70_2, hcz70_3, hcz70_4, hcz70_5, hcz70_6, hcz70_7, hcz70_8, hcz70_9, hcz70_10, hfz70_0, hfz70_1, hfz70_2, hfz70_3, hfz70_4, hfz70_5, hfz70_6, hfz70_7, hfz70_8, hfz70_9, hfz70_10⟩ := cells11 BK101.out) | ((with_reducible refine gate_callee (f := 95) rfl ?_);refine glB 26 rfl rfl Try.func95 (laws_szRrS.calls k _ _ l0_8 t104 t105 _ (cv HR0_8 HB) HC0_8.out A24.out) (fun w71 hb => ?_);replace BK101 := b1 BK101 hb;replace HB := b2s bs hb;(try clear hb);obtain ⟨hcz72_0, hcz72_1, hcz72_2, hcz72_3, hcz72_4, hcz72_5, hcz72_6, hcz72_7, hcz72_8, hcz72_9, hcz72_10, hfz72_0, hfz72_1, hfz72_2, hfz72_3, hfz72_4, hfz72_5, hfz72_6, hfz72_7, hfz72_8, hfz72_9, hfz72_10⟩ := cells11 BK101.out) | ((with_reducible refine gate_callee (f := 125) rfl ?_);refine glB 32 rfl rfl Try.func125 (laws_szWantS.calls k _ _ l0_9 t105 t106 _ (cv HR0_9 HB) HC0_9.out A35.out) (fun w73 hb => ?_);replace BK101 := b1 BK101 hb;replace HB := b2s bs hb;(try clear hb);obtain ⟨hcz74_0, hcz74_1, hcz74_2, hcz74_3, hcz74_4, hcz74_5, hcz74_6, hcz74_7, hcz74_8, hcz74_9, hcz74_10, hfz74_0, hfz74_1, hfz74_2, hfz74_3, hfz74_4, hfz74_5, hfz74_6, hfz74_7, hfz74_8, hfz74_9, hfz74_10⟩ := cells11 BK101.out) | ((with_reducible refine gate_callee (f := 125) rfl ?_);refine glB 38 rfl rfl Try.func125 (laws_szWantS.calls k _ _ l0_10 t106 t107 _ (cv HR0_10 HB) HC0_10.out A48.out) (fun w75 hb => ?_);replace BK101 := b1 BK101 hb;replace HB := b2s bs hb;(try clear hb)))
       go_ret
       exact ⟨o1, bs⟩

/-! ### spec_LabelOk: function 157 -/
mutual
def spec_LabelOk.j0 : Nat → List Int → Bool → Option (Bool)
 | 0, _, _ => none
 | k + 1, x0, x11 => if x11 = true then (some false) else (spec_LabelOk.l0 k x0 0)
def spec_LabelOk.l0 : Nat → List Int → Int → Option (Bool)
 | 0, _, _ => none
 | k + 1, x0, x3 => if x3 < (x0.length : Int) then (if 0 ≤ x3 then (if (rd x0 x3) ≥ 97 then (if ((rd x0 x3) ≤ 122) then (spec_LabelOk.l0 k x0 (wrap64 (x3 + 1))) else (if (rd x0 x3) ≥ 48 then (if ((rd x0 x3) ≤ 57) then (spec_LabelOk.l0 k x0 (wrap64 (x3 + 1))) else (if (rd x0 x3) = 45 then (spec_LabelOk.l0 k x0 (wrap64 (x3 + 1))) else (some false))) else (if (rd x0 x3) = 45 then (spec_LabelOk.l0 k x0 (wrap64 (x3 + 1))) else (some false)))) else (if (rd x0 x3) ≥ 48 then (if ((rd x0 x3) ≤ 57) then (spec_LabelOk.l0 k x0 (wrap64 (x3 + 1))) else (if (rd x0 x3) = 45 then (spec_LabelOk.l0 k x0 (wrap64 (x3 + 1))) else (some false))) else (if (rd x0 x3) = 45 then (spec_LabelOk.l0 k x0 (wrap64 (x3 + 1))) else (some false)))) else (none)) else (some true)
end
def spec_LabelOk.f (k : Nat) (l0 : List Int) : Option (Bool) := if (l0.length : Int) < 1 then (spec_LabelOk.j0 k l0 true) else (spec_LabelOk.j0 k l0 (decide ((l0.length : Int) > 15)))
set_option maxHeartbeats 8000000 in
set_option maxRecDepth 100000 in
theorem spec_LabelOk.calls (k : Nat) (A0 : Option Addr) (c0 : Nat) (l0 : List Int) (r : Bool) (w : World) (hr0 : Kd.C (Kd.int .u8) w A0 l0.length l0) (hc0 : l0.length ≤ c0) (h : spec_LabelOk.f k l0 = some r) :
  Calls Try.prog 157 #[.slice A0 l0.length c0] w fun e w' => e = .returned (.bool r) ∧ Drawn0 w w' := by
 have HR0 := ak hr0
 have HC0 := ak hc0
 clear hr0 hc0
 have H : (if (l0.length : Int) < 1 then (spec_LabelOk.j0 k l0 true) else (spec_LabelOk.j0 k l0 (decide ((l0.length : Int) > 15)))) = some r := h
 clear h
 have HC2 := ak H
 clear H
 go_enter Try.func157, Try.ntmps157
 go_upto_region 1 with (fail)
 go_cut [11] (fun v11 wc => ∃ (kq : Nat) (x11_1 : Bool), v11 = .bool x11_1 ∧ Aside0 (spec_LabelOk.j0 kq l0 x11_1 = some r) ∧ Aside0 (kq ≤ k) ∧ Drawn0 w wc)
 case first =>
  have H := HC2.out
  clear HC2
  replace H := ip H
  obtain ⟨c3b0, H⟩ | ⟨c3b0, H⟩ := H
  ·have c3b1 : decide (l0.length < 1) = true := decide_eq_true (by have := of_decide_eq_true c3b0; omega)
   (first | rw [c3b0] | (simp only [i64_w, i32_w]; rw [c3b0]) | skip)
   have H' := ak H
   clear H
   go_wp2
   go_meet
   case rel => exact ⟨_, (true), o2, H', ⟨o3⟩, od⟩
  ·have c3b1 : decide (l0.length < 1) = false := decide_eq_false (by have := of_decide_eq_false c3b0; omega)
   (first | rw [c3b0] | (simp only [i64_w, i32_w]; rw [c3b0]) | skip)
   have H' := ak H
   clear H
   go_wp2
   go_meet
   case rel => exact ⟨_, (decide ((l0.length : Int) > 15)), o2, H', ⟨o3⟩, od⟩
 case rest =>
  clear HC2
  obtain ⟨kq, x11_1, rfl, HA, HJ1, ⟨mc1, rfl⟩⟩ := hcut
  cases kq with
  | zero => exact absurd HA.out (by simp [spec_LabelOk.j0])
  | succ kj1 =>
   have H := HA.out
   clear HA
   simp only [spec_LabelOk.j0] at H
   replace H := ib H
   obtain ⟨rfl, H⟩ | ⟨rfl, H⟩ := H
   ·obtain rfl := Option.some.inj H
    go_wp2
    go_ret
    exact ⟨o2, od⟩
   ·have H' := ak H
    clear H
    go_wp2
    go_loopg [3] kj1 (fun kq v3 w' => ∃ (x3_2 : Int), v3 = .int .i64 x3_2 ∧ Aside0 (spec_LabelOk.l0 kq l0 x3_2 = some r) ∧ Aside0 (kq ≤ kj1) ∧ Drawn0 w w')
    case atStart => exact ⟨(0), o2, H', ⟨Nat.le_refl _⟩, od⟩
    case round =>
     clear H'
     obtain ⟨x3_2, rfl, HA, HK2, ⟨m2, rfl⟩⟩ := hrel
     cases gk with
     | zero => exact absurd HA.out (by simp [spec_LabelOk.l0])
     | succ k2 =>
      have H := HA.out
      clear HA
      simp only [spec_LabelOk.l0] at H
      replace H := ip H
      obtain ⟨c5b0, H⟩ | ⟨c5b0, H⟩ := H
      ·replace H := ipN H
       obtain ⟨c6b0, H⟩ := H
       replace H := ih H
       obtain ⟨c7b0, H⟩ | ⟨c7b0, H⟩ := H
       ·replace H := ip H
        obtain ⟨c8b0, H⟩ | ⟨c8b0, H⟩ := H
        ·have H' := ak H
         clear H
         obtain ⟨ad101, rfl, hx101_0, p101, q101⟩ := el0_int HR0 x3_2
         obtain ⟨hx102_0, p102, q102⟩ := el20_int HR0 x3_2
         go_wp2
         go_roundg k2
         case measure => have := HJ1.out; have := HK2.out; omega
         case rel => exact ⟨(wrap64 (x3_2 + 1)), o2, H', ⟨by have := HJ1.out; have := HK2.out; omega⟩, od⟩
        ·replace H := ih H
         obtain ⟨c9b0, H⟩ | ⟨c9b0, H⟩ := H
         ·replace H := ip H
          obtain ⟨c10b0, H⟩ | ⟨c10b0, H⟩ := H
          ·have H' := ak H
           clear H
           obtain ⟨ad101, rfl, hx101_0, p101, q101⟩ := el0_int HR0 x3_2
           obtain ⟨hx102_0, p102, q102⟩ := el20_int HR0 x3_2
           obtain ⟨hx103_0, p103, q103⟩ := el20_int HR0 x3_2
           obtain ⟨hx104_0, p104, q104⟩ := el20_int HR0 x3_2
           go_wp2
           go_roundg k2
           case measure => have := HJ1.out; have := HK2.out; omega
           case rel => exact ⟨(wrap64 (x3_2 + 1)), o2, H', ⟨by have := HJ1.out; have := HK2.out; omega⟩, od⟩
          ·replace H := ie H
           obtain ⟨c11b0, c11b1, H⟩ | ⟨c11b0, c11b1, H⟩ := H
           ·have H' := ak H
            clear H
            obtain ⟨ad101, rfl, hx101_0, p101, q101⟩ := el0_int HR0 x3_2
            obtain ⟨hx102_0, p102, q102⟩ := el20_int HR0 x3_2
            obtain ⟨hx103_0, p103, q103⟩ := el20_int HR0 x3_2
            obtain ⟨hx104_0, p104, q104⟩ := el20_int HR0 x3_2
            obtain ⟨hx105_0, p105, q105⟩ := el20_int HR0 x3_2
            go_wp2
            go_roundg k2
            case measure => have := HJ1.out; have := HK2.out; omega
            case rel => exact ⟨(wrap64 (x3_2 + 1)), o2, H', ⟨by have := HJ1.out; have := HK2.out; omega⟩, od⟩
           ·obtain rfl := Option.some.inj H
            obtain ⟨ad101, rfl, hx101_0, p101, q101⟩ := el0_int HR0 x3_2
            obtain ⟨hx102_0, p102, q102⟩ := el20_int HR0 x3_2
            obtain ⟨hx103_0, p103, q103⟩ := el20_int HR0 x3_2
            obtain ⟨hx104_0, p104, q104⟩ := el20_int HR0 x3_2
            obtain ⟨hx105_0, p105, q105⟩ := el20_int HR0 x3_2
            go_wp2
            go_ret
            exact ⟨o2, od⟩
         ·replace H := ie H
          obtain ⟨c12b0, c12b1, H⟩ | ⟨c12b0, c12b1, H⟩ := H
          ·have H' := ak H
           clear H
           obtain ⟨ad101, rfl, hx101_0, p101, q101⟩ := el0_int HR0 x3_2
           obtain ⟨hx102_0, p102, q102⟩ := el20_int HR0 x3_2
           obtain ⟨hx103_0, p103, q103⟩ := el20_int HR0 x3_2
           obtain ⟨hx106_0, p106, q106⟩ := el20_int HR0 x3_2
           go_wp2
           go_roundg k2
           case measure => have := HJ1.out; have := HK2.out; omega
           case rel => exact ⟨(wrap64 (x3_2 + 1)), o2, H', ⟨by have := HJ1.out; have := HK2.out; omega⟩, od⟩
          ·obtain rfl := Option.some.inj H
           obtain ⟨ad101, rfl, hx101_0, p101, q101⟩ := el0_int HR0 x3_2
           obtain ⟨hx102_0, p102, q102⟩ := el20_int HR0 x3_2
           obtain ⟨hx103_0, p103, q103⟩ := el20_int HR0 x3_2
           obtain ⟨hx106_0, p106, q106⟩ := el20_int HR0 x3_2
           go_wp2
           go_ret
           exact ⟨o2, od⟩
       ·replace H := ih H
        obtain ⟨c13b0, H⟩ | ⟨c13b0, H⟩ := H
        ·replace H := ip H
         obtain ⟨c14b0, H⟩ | ⟨c14b0, H⟩ := H
         ·have H' := ak H
          clear H
          obtain ⟨ad101, rfl, hx101_0, p101, q101⟩ := el0_int HR0 x3_2
          obtain ⟨hx107_0, p107, q107⟩ := el20_int HR0 x3_2
          obtain ⟨hx108_0, p108, q108⟩ := el20_int HR0 x3_2
          go_wp2
          go_roundg k2
          case measure => have := HJ1.out; have := HK2.out; omega
          case rel => exact ⟨(wrap64 (x3_2 + 1)), o2, H', ⟨by have := HJ1.out; have := HK2.out; omega⟩, od⟩
         ·replace H := ie H
          obtain ⟨c15b0, c15b1, H⟩ | ⟨c15b0, c15b1, H⟩ := H
          ·have H' := ak H
           clear H
           obtain ⟨ad101, rfl, hx101_0, p101, q101⟩ := el0_int HR0 x3_2
           obtain ⟨hx107_0, p107, q107⟩ := el20_int HR0 x3_2
           obtain ⟨hx108_0, p108, q108⟩ := el20_int HR0 x3_2
           obtain ⟨hx109_0, p109, q109⟩ := el20_int HR0 x3_2
           go_wp2
           go_roundg k2
           case measure => have := HJ1.out; have := HK2.out; omega
           case rel => exact ⟨(wrap64 (x3_2 + 1)), o2, H', ⟨by have := HJ1.out; have := HK2.out; omega⟩, od⟩
          ·obtain rfl := Option.some.inj H
           obtain ⟨ad101, rfl, hx101_0, p101, q101⟩ := el0_int HR0 x3_2
           obtain ⟨hx107_0, p107, q107⟩ := el20_int HR0 x3_2
           obtain ⟨hx108_0, p108, q108⟩ := el20_int HR0 x3_2
           obtain ⟨hx109_0, p109, q109⟩ := el20_int HR0 x3_2
           go_wp2
           go_ret
           exact ⟨o2, od⟩
        ·replace H := ie H
         obtain ⟨c16b0, c16b1, H⟩ | ⟨c16b0, c16b1, H⟩ := H
         ·have H' := ak H
          clear H
          obtain ⟨ad101, rfl, hx101_0, p101, q101⟩ := el0_int HR0 x3_2
          obtain ⟨hx107_0, p107, q107⟩ := el20_int HR0 x3_2
          obtain ⟨hx110_0, p110, q110⟩ := el20_int HR0 x3_2
          go_wp2
          go_roundg k2
          case measure => have := HJ1.out; have := HK2.out; omega
          case rel => exact ⟨(wrap64 (x3_2 + 1)), o2, H', ⟨by have := HJ1.out; have := HK2.out; omega⟩, od⟩
         ·obtain rfl := Option.some.inj H
          obtain ⟨ad101, rfl, hx101_0, p101, q101⟩ := el0_int HR0 x3_2
          obtain ⟨hx107_0, p107, q107⟩ := el20_int HR0 x3_2
          obtain ⟨hx110_0, p110, q110⟩ := el20_int HR0 x3_2
          go_wp2
          go_ret
          exact ⟨o2, od⟩
      ·obtain rfl := Option.some.inj H
       go_wp2
       go_ret
       exact ⟨o2, od⟩

/-! ### spec_NameOk: function 76 -/
def spec_NameOk.l0 : Nat → Int → List (List Int) → Option (Bool)
 | 0, _, _ => none
 | k + 1, x3, x102000 => if x3 < (x102000.length : Int) then (if 0 ≤ x3 then ((spec_LabelOk.f k (rd_L10 x102000 x3)).bind fun t103 => (if t103 = true then (spec_NameOk.l0 k (wrap64 (x3 + 1)) x102000) else (some false))) else (none)) else (some true)
def spec_NameOk.f (k : Nat) (l0_0 : List (List Int)) : Option (Bool) := if (l0_0.length : Int) > 6 then (some false) else (spec_NameOk.l0 k 0 l0_0)
set_option maxHeartbeats 8000000 in
set_option maxRecDepth 100000 in
theorem spec_NameOk.calls (k : Nat) (A0_0 : Option Addr) (c0_0 : Nat) (l0_0 : List (List Int)) (r : Bool) (w : World) (hr0_0 : Kd.C (Kd.slice 5 (Kd.int .u8)) w A0_0 l0_0.length l0_0) (hc0_0 : l0_0.length ≤ c0_0) (h : spec_NameOk.f k l0_0 = some r) :
  Calls Try.prog 76 #[.agg #[.slice A0_0 l0_0.length c0_0]] w fun e w' => e = .returned (.bool r) ∧ Below w.heap.size w w' := by
 have hu31 := Try.underlying31
 have HR0_0 := ak hr0_0
 have HC0_0 := ak hc0_0
 clear hr0_0 hc0_0
 have HB := ak (Below.refl w.heap.size w)
 have H : (if (l0_0.length : Int) > 6 then (some false) else (spec_NameOk.l0 k 0 l0_0)) = some r := h
 clear h
 replace H := ig H
 obtain ⟨c2b0, H⟩ | ⟨c2b0, H⟩ := H
 ·have c2b1 : decide (6 < l0_0.length) = true := decide_eq_true (by have := of_decide_eq_true c2b0; omega)
  obtain rfl := Option.some.inj H
  go_enter Try.func76, Try.ntmps76
  go_wp2_with (((with_reducible refine gate_dst (N := 1) rfl ?_);refine bxd (N := 1) rfl HB ?_;clear HB;intro gb101 w3 hg HB BK101 GE101 hb;have GW101 := GE101;clear hb hg;obtain ⟨hcz4_0, hfz4_0⟩ := cells1 BK101.out))
  go_ret
  exact ⟨o1, bs⟩
 ·have c2b1 : decide (6 < l0_0.length) = false := decide_eq_false (by have := of_decide_eq_false c2b0; omega)
  have H' := ak H
  clear H
  go_enter Try.func76, Try.ntmps76
  go_wp2_with (((with_reducible refine gate_dst (N := 1) rfl ?_);refine bxd (N := 1) rfl HB ?_;clear HB;intro gb101 w5 hg HB BK101 GE101 hb;have GW101 := GE101;clear hb hg;obtain ⟨hcz6_0, hfz6_0⟩ := cells1 BK101.out))
  go_loopg [3] k (fun kq v3 w' => ∃ (x3_1 : Int), v3 = .int .i64 x3_1 ∧ Aside0 (spec_NameOk.l0 kq x3_1 l0_0 = some r) ∧ Aside0 (kq ≤ k) ∧ Aside0 (w'.heap[gb101]? = some (.cells #[(.slice A0_0 l0_0.length c0_0)] 31 (0, 0))) ∧ Aside0 (Below w.heap.size w w'))
  case atStart => exact ⟨(0), o2, H', ⟨Nat.le_refl _⟩, ⟨bk BK101.out⟩, ⟨bs⟩⟩
  case round =>
   clear H'
   (try clear c2b0)
   (try clear c2b1)
   (try clear hcz6_0)
   (try clear hfz6_0)
   obtain ⟨x3_1, rfl, HA, HK1, BK101, HB⟩ := hrel
   cases gk with
   | zero => exact absurd HA.out (by simp [spec_NameOk.l0])
   | succ k1 =>
    have H := HA.out
    clear HA
    simp only [spec_NameOk.l0] at H
    replace H := ip H
    obtain ⟨c7b0, H⟩ | ⟨c7b0, H⟩ := H
    ·replace H := ipN H
     obtain ⟨c8b0, H⟩ := H
     replace H := bnd H
     obtain ⟨t103, A9, H⟩ := H
     replace H := ib H
     obtain ⟨rfl, H⟩ | ⟨rfl, H⟩ := H
     ·have H' := ak H
      clear H
      obtain ⟨hcz11_0, hfz11_0⟩ := cells1 BK101.out
      obtain ⟨ad102, A102_0, c102_0, rfl, hx102_0, HC102_0, HR102_0, p102, q102⟩ := el_L10 HR0_0 HB x3_1
      go_wp2_with (((with_reducible refine gate_callee (f := 157) rfl ?_);refine glD 20 rfl rfl Try.func157 (spec_LabelOk.calls k1 _ _ (rd_L10 l0_0 x3_1) true _ (cv HR102_0 HB) HC102_0.out A9.out) (fun nd => ?_)))
      go_roundg k1
      case measure => have := HK1.out; omega
      case rel => exact ⟨(wrap64 (x3_1 + 1)), o2, H', ⟨by have := HK1.out; omega⟩, ⟨bk BK101.out⟩, ⟨bs⟩⟩
     ·obtain rfl := Option.some.inj H
      obtain ⟨hcz12_0, hfz12_0⟩ := cells1 BK101.out
      obtain ⟨ad102, A102_0, c102_0, rfl, hx102_0, HC102_0, HR102_0, p102, q102⟩ := el_L10 HR0_0 HB x3_1
      go_wp2_with (((with_reducible refine gate_callee (f := 157) rfl ?_);refine glD 20 rfl rfl Try.func157 (spec_LabelOk.calls k1 _ _ (rd_L10 l0_0 x3_1) false _ (cv HR102_0 HB) HC102_0.out A9.out) (fun nd => ?_)))
      go_ret
      exact ⟨o1, bs⟩
    ·obtain rfl := Option.some.inj H
     obtain ⟨hcz13_0, hfz13_0⟩ := cells1 BK101.out
     go_wp2
     go_ret
     exact ⟨o1, bs⟩

/-! ### spec_TypeOk: function 80 -/
def spec_TypeOk.f (a0 : Int) : Option (Bool) := if a0 = 1 then (some true) else (if a0 = 2 then (some true) else (if a0 = 5 then (some true) else (if a0 = 6 then (some true) else (if a0 = 12 then (some true) else (if a0 = 16 then (some true) else (if a0 = 49 then (some true) else (some false)))))))
set_option maxHeartbeats 8000000 in
set_option maxRecDepth 100000 in
theorem spec_TypeOk.calls (a0 : Int) (r : Bool) (w : World) (h : spec_TypeOk.f a0 = some r) :
  Calls Try.prog 80 #[.int .i64 a0] w fun e w' => e = .returned (.bool r) ∧ Drawn0 w w' := by
 have H : (if a0 = 1 then (some true) else (if a0 = 2 then (some true) else (if a0 = 5 then (some true) else (if a0 = 6 then (some true) else (if a0 = 12 then (some true) else (if a0 = 16 then (some true) else (if a0 = 49 then (some true) else (some false)))))))) = some r := h
 clear h
 replace H := ie H
 obtain ⟨c2b0, c2b1, H⟩ | ⟨c2b0, c2b1, H⟩ := H
 ·obtain rfl := Option.some.inj H
  go_enter Try.func80, Try.ntmps80
  go_wp2
  go_ret
  exact ⟨o2, od⟩
 ·replace H := ie H
  obtain ⟨c3b0, c3b1, H⟩ | ⟨c3b0, c3b1, H⟩ := H
  ·obtain rfl := Option.some.inj H
   go_enter Try.func80, Try.ntmps80
   go_wp2
   go_ret
   exact ⟨o2, od⟩
  ·replace H := ie H
   obtain ⟨c4b0, c4b1, H⟩ | ⟨c4b0, c4b1, H⟩ := H
   ·obtain rfl := Option.some.inj H
    go_enter Try.func80, Try.ntmps80
    go_wp2
    go_ret
    exact ⟨o2, od⟩
   ·replace H := ie H
    obtain ⟨c5b0, c5b1, H⟩ | ⟨c5b0, c5b1, H⟩ := H
    ·obtain rfl := Option.some.inj H
     go_enter Try.func80, Try.ntmps80
     go_wp2
     go_ret
     exact ⟨o2, od⟩
    ·replace H := ie H
     obtain ⟨c6b0, c6b1, H⟩ | ⟨c6b0, c6b1, H⟩ := H
     ·obtain rfl := Option.some.inj H
      go_enter Try.func80, Try.ntmps80
      go_wp2
      go_ret
      exact ⟨o2, od⟩
     ·replace H := ie H
      obtain ⟨c7b0, c7b1, H⟩ | ⟨c7b0, c7b1, H⟩ := H
      ·obtain rfl := Option.some.inj H
       go_enter Try.func80, Try.ntmps80
       go_wp2
       go_ret
       exact ⟨o2, od⟩
      ·replace H := ie H
       obtain ⟨c8b0, c8b1, H⟩ | ⟨c8b0, c8b1, H⟩ := H
       ·obtain rfl := Option.some.inj H
        go_enter Try.func80, Try.ntmps80
        go_wp2
        go_ret
        exact ⟨o2, od⟩
       ·obtain rfl := Option.some.inj H
        go_enter Try.func80, Try.ntmps80
        go_wp2
        go_ret
        exact ⟨o2, od⟩

/-! ### spec_l4asked: function 188 -/
def spec_l4asked.f (a0 : Int) : Option (Bool) := (spec_TypeOk.f a0).bind fun t101 => (if t101 = true then (some true) else (some (a0 == 255)))
set_option maxHeartbeats 8000000 in
set_option maxRecDepth 100000 in
theorem spec_l4asked.calls (a0 : Int) (r : Bool) (w : World) (h : spec_l4asked.f a0 = some r) :
  Calls Try.prog 188 #[.int .i64 a0] w fun e w' => e = .returned (.bool r) ∧ Drawn0 w w' := by
 have H : ((spec_TypeOk.f a0).bind fun t101 => (if t101 = true then (some true) else (some (a0 == 255)))) = some r := h
 clear h
 replace H := bnd H
 obtain ⟨t101, A2, H⟩ := H
 replace H := ib H
 obtain ⟨rfl, H⟩ | ⟨rfl, H⟩ := H
 ·obtain rfl := Option.some.inj H
  go_enter Try.func188, Try.ntmps188
  go_wp2_with (((with_reducible refine gate_callee (f := 80) rfl ?_);refine glD 4 rfl rfl Try.func80 (spec_TypeOk.calls a0 true _ A2.out) (fun nd => ?_)))
  go_ret
  exact ⟨o2, od⟩
 ·obtain rfl := Option.some.inj H
  go_enter Try.func188, Try.ntmps188
  go_wp2_with (((with_reducible refine gate_callee (f := 80) rfl ?_);refine glD 4 rfl rfl Try.func80 (spec_TypeOk.calls a0 false _ A2.out) (fun nd => ?_)))
  go_ret
  exact ⟨o2, od⟩

/-! ### spec_l3named: function 159 -/
def spec_l3named.f (a0 : Int) : Option (Bool) := if a0 = 2 then (some true) else (if a0 = 5 then (some true) else (if a0 = 6 then (some true) else (some (a0 == 12))))
set_option maxHeartbeats 8000000 in
set_option maxRecDepth 100000 in
theorem spec_l3named.calls (a0 : Int) (r : Bool) (w : World) (h : spec_l3named.f a0 = some r) :
  Calls Try.prog 159 #[.int .i64 a0] w fun e w' => e = .returned (.bool r) ∧ Drawn0 w w' := by
 have H : (if a0 = 2 then (some true) else (if a0 = 5 then (some true) else (if a0 = 6 then (some true) else (some (a0 == 12))))) = some r := h
 clear h
 replace H := ie H
 obtain ⟨c2b0, c2b1, H⟩ | ⟨c2b0, c2b1, H⟩ := H
 ·obtain rfl := Option.some.inj H
  go_enter Try.func159, Try.ntmps159
  go_wp2
  go_ret
  exact ⟨o2, od⟩
 ·replace H := ie H
  obtain ⟨c3b0, c3b1, H⟩ | ⟨c3b0, c3b1, H⟩ := H
  ·obtain rfl := Option.some.inj H
   go_enter Try.func159, Try.ntmps159
   go_wp2
   go_ret
   exact ⟨o2, od⟩
  ·replace H := ie H
   obtain ⟨c4b0, c4b1, H⟩ | ⟨c4b0, c4b1, H⟩ := H
   ·obtain rfl := Option.some.inj H
    go_enter Try.func159, Try.ntmps159
    go_wp2
    go_ret
    exact ⟨o2, od⟩
   ·obtain rfl := Option.some.inj H
    go_enter Try.func159, Try.ntmps159
    go_wp2
    go_ret
    exact ⟨o2, od⟩

/-! ### spec_l3texted: function 205 -/
def spec_l3texted.f (a0 : Int) : Option (Bool) := if a0 = 16 then (some true) else (some (a0 == 49))
set_option maxHeartbeats 8000000 in
set_option maxRecDepth 100000 in
theorem spec_l3texted.calls (a0 : Int) (r : Bool) (w : World) (h : spec_l3texted.f a0 = some r) :
  Calls Try.prog 205 #[.int .i64 a0] w fun e w' => e = .returned (.bool r) ∧ Drawn0 w w' := by
 have H : (if a0 = 16 then (some true) else (some (a0 == 49))) = some r := h
 clear h
 replace H := ie H
 obtain ⟨c2b0, c2b1, H⟩ | ⟨c2b0, c2b1, H⟩ := H
 ·obtain rfl := Option.some.inj H
  go_enter Try.func205, Try.ntmps205
  go_wp2
  go_ret
  exact ⟨o2, od⟩
 ·obtain rfl := Option.some.inj H
  go_enter Try.func205, Try.ntmps205
  go_wp2
  go_ret
  exact ⟨o2, od⟩

/-! ### spec_l3data: function 134 -/
mutual
def spec_l3data.j0 : Nat → List (List Int) → Int → Int → Int → List (List Int) → List Int → List Int → Option (Bool)
 | 0, _, _, _, _, _, _, _ => none
 | k + 1, x102000, x102001, x102002, x102003, x102004, x102005, x102006 => (spec_l3named.f x102001).bind fun t102 => (if t102 = true then ((spec_NameOk.f k x102004).bind fun t103 => (if t103 = true then (spec_l3data.j1 k x102000 x102001 x102002 x102003 x102004 x102005 x102006) else (some false))) else (if (x102004.length : Int) > 0 then (some false) else (spec_l3data.j1 k x102000 x102001 x102002 x102003 x102004 x102005 x102006)))
def spec_l3data.j1 : Nat → List (List Int) → Int → Int → Int → List (List Int) → List Int → List Int → Option (Bool)
 | 0, _, _, _, _, _, _, _ => none
 | k + 1, x102000, x102001, x102002, x102003, x102004, x102005, x102006 => (spec_l3texted.f x102001).bind fun t104 => (if t104 = true then (if (x102005.length : Int) > 40 then (some false) else (spec_l3data.j2 k x102000 x102001 x102002 x102003 x102004 x102005 x102006)) else (if (x102005.length : Int) > 0 then (some false) else (spec_l3data.j2 k x102000 x102001 x102002 x102003 x102004 x102005 x102006)))
def spec_l3data.j2 : Nat → List (List Int) → Int → Int → Int → List (List Int) → List Int → List Int → Option (Bool)
 | 0, _, _, _, _, _, _, _ => none
 | k + 1, x102000, x102001, x102002, x102003, x102004, x102005, x102006 => if x102001 = 6 then (if (x102006.length : Int) = 2 then (if 0 < (x102006.length : Int) then (if (rd x102006 0) < 0 then (some false) else (if (rd x102006 0) ≥ 4294967296 then (some false) else (if 1 < (x102006.length : Int) then (if (rd x102006 1) ≥ 0 then (some (decide ((rd x102006 1) ≤ 100000))) else (some false)) else (none)))) else (none)) else (some false)) else (some ((x102006.length : Int) == 0))
end
def spec_l3data.f (k : Nat) (l0_0 : List (List Int)) (a0_1 : Int) (a0_2 : Int) (a0_3 : Int) (l0_4 : List (List Int)) (l0_5 : List Int) (l0_6 : List Int) : Option (Bool) := if a0_1 = 1 then (if a0_3 < 0 then (some false) else (if a0_3 ≥ 4294967296 then (some false) else (spec_l3data.j0 k l0_0 a0_1 a0_2 a0_3 l0_4 l0_5 l0_6))) else (if a0_3 = 0 then (spec_l3data.j0 k l0_0 a0_1 a0_2 a0_3 l0_4 l0_5 l0_6) else (some false))
set_option maxHeartbeats 8000000 in
set_option maxRecDepth 100000 in
theorem spec_l3data.calls (k : Nat) (A0_0 : Option Addr) (c0_0 : Nat) (l0_0 : List (List Int)) (a0_1 : Int) (a0_2 : Int) (a0_3 : Int) (A0_4 : Option Addr) (c0_4 : Nat) (l0_4 : List (List Int)) (A0_5 : Option Addr) (c0_5 : Nat) (l0_5 : List Int) (A0_6 : Option Addr) (c0_6 : Nat) (l0_6 : List Int) (r : Bool) (w : World) (hr0_0 : Kd.C (Kd.slice 5 (Kd.int .u8)) w A0_0 l0_0.length l0_0) (hc0_0 : l0_0.length ≤ c0_0) (hr0_4 : Kd.C (Kd.slice 5 (Kd.int .u8)) w A0_4 l0_4.length l0_4) (hc0_4 : l0_4.length ≤ c0_4) (hr0_5 : Kd.C (Kd.int .u8) w A0_5 l0_5.length l0_5) (hc0_5 : l0_5.length ≤ c0_5) (hr0_6 : Kd.C (Kd.int .i64) w A0_6 l0_6.length l0_6) (hc0_6 : l0_6.length ≤ c0_6) (h : spec_l3data.f k l0_0 a0_1 a0_2 a0_3 l0_4 l0_5 l0_6 = some r) :
  Calls Try.prog 134 #[.agg #[.slice A0_0 l0_0.length c0_0, .int .i64 a0_1, .int .i64 a0_2, .int .i64 a0_3, .slice A0_4 l0_4.length c0_4, .slice A0_5 l0_5.length c0_5, .slice A0_6 l0_6.length c0_6]] w fun e w' => e = .returned (.bool r) ∧ Below w.heap.size w w' := by
 have hu33 := Try.underlying33
 have hu31 := Try.underlying31
 have HR0_0 := ak hr0_0
 have HC0_0 := ak hc0_0
 clear hr0_0 hc0_0
 have HR0_4 := ak hr0_4
 have HC0_4 := ak hc0_4
 clear hr0_4 hc0_4
 have HR0_5 := ak hr0_5
 have HC0_5 := ak hc0_5
 clear hr0_5 hc0_5
 have HR0_6 := ak hr0_6
 have HC0_6 := ak hc0_6
 clear hr0_6 hc0_6
 have HB := ak (Below.refl w.heap.size w)
 have H : (if a0_1 = 1 then (if a0_3 < 0 then (some false) else (if a0_3 ≥ 4294967296 then (some false) else (spec_l3data.j0 k l0_0 a0_1 a0_2 a0_3 l0_4 l0_5 l0_6))) else (if a0_3 = 0 then (spec_l3data.j0 k l0_0 a0_1 a0_2 a0_3 l0_4 l0_5 l0_6) else (some false))) = some r := h
 clear h
 have HC2 := ak H
 clear H
 go_enter Try.func134, Try.ntmps134
 go_upto_if 5 with (((with_reducible refine gate_dst (N := 1) rfl ?_);refine bxd (N := 1) rfl HB ?_;clear HB;intro gb101 w3 hg HB BK101 GE101 hb;have GW101 := GE101;clear hb hg;obtain ⟨hcz4_0, hcz4_1, hcz4_2, hcz4_3, hcz4_4, hcz4_5, hcz4_6, hfz4_0, hfz4_1, hfz4_2, hfz4_3, hfz4_4, hfz4_5, hfz4_6⟩ := cells7 BK101.out))
 (try simp only [Act.put, List.setIfInBounds_toArray, List.set_cons_zero, List.set_cons_succ])
 go_cut [] (fun wc => ∃ (kq : Nat), Aside0 (spec_l3data.j0 kq l0_0 a0_1 a0_2 a0_3 l0_4 l0_5 l0_6 = some r) ∧ Aside0 (kq ≤ k) ∧ Aside0 (wc.heap[gb101]? = some (.cells #[(.slice A0_0 l0_0.length c0_0), .int .i64 a0_1, .int .i64 a0_2, .int .i64 a0_3, (.slice A0_4 l0_4.length c0_4), (.slice A0_5 l0_5.length c0_5), (.slice A0_6 l0_6.length c0_6)] 33 (0, 0))) ∧ Aside0 (Below w.heap.size w wc))
 case first =>
  have H := HC2.out
  clear HC2
  replace H := ie H
  obtain ⟨c5b0, c5b1, H⟩ | ⟨c5b0, c5b1, H⟩ := H
  ·(first | rw [c5b0] | (simp only [i64_w, i32_w]; rw [c5b0]) | skip)
   replace H := ip H
   obtain ⟨c6b0, H⟩ | ⟨c6b0, H⟩ := H
   ·obtain rfl := Option.some.inj H
    obtain ⟨hcz7_0, hcz7_1, hcz7_2, hcz7_3, hcz7_4, hcz7_5, hcz7_6, hfz7_0, hfz7_1, hfz7_2, hfz7_3, hfz7_4, hfz7_5, hfz7_6⟩ := cells7 BK101.out
    go_wp2
    go_ret
    exact ⟨o1, bs⟩
   ·replace H := ih H
    obtain ⟨c8b0, H⟩ | ⟨c8b0, H⟩ := H
    ·obtain rfl := Option.some.inj H
     obtain ⟨hcz9_0, hcz9_1, hcz9_2, hcz9_3, hcz9_4, hcz9_5, hcz9_6, hfz9_0, hfz9_1, hfz9_2, hfz9_3, hfz9_4, hfz9_5, hfz9_6⟩ := cells7 BK101.out
     go_wp2
     go_ret
     exact ⟨o1, bs⟩
    ·have H' := ak H
     clear H
     obtain ⟨hcz10_0, hcz10_1, hcz10_2, hcz10_3, hcz10_4, hcz10_5, hcz10_6, hfz10_0, hfz10_1, hfz10_2, hfz10_3, hfz10_4, hfz10_5, hfz10_6⟩ := cells7 BK101.out
     go_wp2
     go_meet
     case rel => exact ⟨_, H', ⟨o3⟩, ⟨bk BK101.out⟩, ⟨bs⟩⟩
  ·(first | rw [c5b0] | (simp only [i64_w, i32_w]; rw [c5b0]) | skip)
   replace H := ie H
   obtain ⟨c11b0, c11b1, H⟩ | ⟨c11b0, c11b1, H⟩ := H
   ·have H' := ak H
    clear H
    obtain ⟨hcz12_0, hcz12_1, hcz12_2, hcz12_3, hcz12_4, hcz12_5, hcz12_6, hfz12_0, hfz12_1, hfz12_2, hfz12_3, hfz12_4, hfz12_5, hfz12_6⟩ := cells7 BK101.out
    go_wp2
    go_meet
    case rel => exact ⟨_, H', ⟨o3⟩, ⟨bk BK101.out⟩, ⟨bs⟩⟩
   ·obtain rfl := Option.some.inj H
    obtain ⟨hcz13_0, hcz13_1, hcz13_2, hcz13_3, hcz13_4, hcz13_5, hcz13_6, hfz13_0, hfz13_1, hfz13_2, hfz13_3, hfz13_4, hfz13_5, hfz13_6⟩ := cells7 BK101.out
    go_wp2
    go_ret
    exact ⟨o1, bs⟩
 case rest =>
  clear HC2
  (try clear hcz4_0)
  (try clear hcz4_1)
  (try clear hcz4_2)
  (try clear hcz4_3)
  (try clear hcz4_4)
  (try clear hcz4_5)
  (try clear hcz4_6)
  (try clear hfz4_0)
  (try clear hfz4_1)
  (try clear hfz4_2)
  (try clear hfz4_3)
  (try clear hfz4_4)
  (try clear hfz4_5)
  (try clear hfz4_6)
  obtain ⟨kq, HA, HJ1, BK101, HB⟩ := hcut
  cases kq with
  | zero => exact absurd HA.out (by simp [spec_l3data.j0])
  | succ kj1 =>
   have H := HA.out
   clear HA
   simp only [spec_l3data.j0] at H
   replace H := bnd H
   obtain ⟨t102, A14, H⟩ := H
   have HC15 := ak H
   clear H
   obtain ⟨hcz16_0, hcz16_1, hcz16_2, hcz16_3, hcz16_4, hcz16_5, hcz16_6, hfz16_0, hfz16_1, hfz16_2, hfz16_3, hfz16_4, hfz16_5, hfz16_6⟩ := cells7 BK101.out
   go_upto_if 19 with (((with_reducible refine gate_callee (f := 159) rfl ?_);refine glD 19 rfl rfl Try.func159 (spec_l3named.calls a0_1 t102 _ A14.out) (fun nd => ?_)))
   (try simp only [Act.put, List.setIfInBounds_toArray, List.set_cons_zero, List.set_cons_succ])
   go_cut [] (fun wc => ∃ (kq : Nat), Aside0 (spec_l3data.j1 kq l0_0 a0_1 a0_2 a0_3 l0_4 l0_5 l0_6 = some r) ∧ Aside0 (kq ≤ kj1) ∧ Aside0 (wc.heap[gb101]? = some (.cells #[(.slice A0_0 l0_0.length c0_0), .int .i64 a0_1, .int .i64 a0_2, .int .i64 a0_3, (.slice A0_4 l0_4.length c0_4), (.slice A0_5 l0_5.length c0_5), (.slice A0_6 l0_6.length c0_6)] 33 (0, 0))) ∧ Aside0 (Below w.heap.size w wc))
   case first =>
    have H := HC15.out
    clear HC15
    replace H := ib H
    obtain ⟨rfl, H⟩ | ⟨rfl, H⟩ := H
    ·replace H := bnd H
     obtain ⟨t103, A18, H⟩ := H
     replace H := ib H
     obtain ⟨rfl, H⟩ | ⟨rfl, H⟩ := H
     ·have H' := ak H
      clear H
      obtain ⟨hcz20_0, hcz20_1, hcz20_2, hcz20_3, hcz20_4, hcz20_5, hcz20_6, hfz20_0, hfz20_1, hfz20_2, hfz20_3, hfz20_4, hfz20_5, hfz20_6⟩ := cells7 BK101.out
      go_wp2_with (((with_reducible refine gate_callee (f := 76) rfl ?_);refine glB 22 rfl rfl Try.func76 (spec_NameOk.calls kj1 _ _ l0_4 true _ (cv HR0_4 HB) HC0_4.out A18.out) (fun w21 hb => ?_);replace BK101 := b1 BK101 hb;replace HB := b2s bs hb;(try clear hb)))
      go_meet
      case rel => exact ⟨_, H', ⟨by have := HJ1.out; first | omega | exact Nat.le_refl _⟩, ⟨bk BK101.out⟩, ⟨bs⟩⟩
     ·obtain rfl := Option.some.inj H
      obtain ⟨hcz22_0, hcz22_1, hcz22_2, hcz22_3, hcz22_4, hcz22_5, hcz22_6, hfz22_0, hfz22_1, hfz22_2, hfz22_3, hfz22_4, hfz22_5, hfz22_6⟩ := cells7 BK101.out
      go_wp2_with (((with_reducible refine gate_callee (f := 76) rfl ?_);refine glB 22 rfl rfl Try.func76 (spec_NameOk.calls kj1 _ _ l0_4 false _ (cv HR0_4 HB) HC0_4.out A18.out) (fun w23 hb => ?_);replace BK101 := b1 BK101 hb;replace HB := b2s bs hb;(try clear hb)))
      go_ret
      exact ⟨o1, bs⟩
    ·replace H := ig H
     obtain ⟨c24b0, H⟩ | ⟨c24b0, H⟩ := H
     ·have c24b1 : decide (0 < l0_4.length) = true := decide_eq_true (by have := of_decide_eq_true c24b0; omega)
      (first | rw [c24b0] | (simp only [i64_w, i32_w]; rw [c24b0]) | skip)
      obtain rfl := Option.some.inj H
      obtain ⟨hcz25_0, hcz25_1, hcz25_2, hcz25_3, hcz25_4, hcz25_5, hcz25_6, hfz25_0, hfz25_1, hfz25_2, hfz25_3, hfz25_4, hfz25_5, hfz25_6⟩ := cells7 BK101.out
      go_wp2
      go_ret
      exact ⟨o1, bs⟩
     ·have c24b1 : decide (0 < l0_4.length) = false := decide_eq_false (by have := of_decide_eq_false c24b0; omega)
      (first | rw [c24b0] | (simp only [i64_w, i32_w]; rw [c24b0]) | skip)
      have H' := ak H
      clear H
      obtain ⟨hcz26_0, hcz26_1, hcz26_2, hcz26_3, hcz26_4, hcz26_5, hcz26_6, hfz26_0, hfz26_1, hfz26_2, hfz26_3, hfz26_4, hfz26_5, hfz26_6⟩ := cells7 BK101.out
      go_wp2
      go_meet
      case rel => exact ⟨_, H', ⟨by have := HJ1.out; first | omega | exact Nat.le_refl _⟩, ⟨bk BK101.out⟩, ⟨bs⟩⟩
   case rest =>
    clear HC15
    (try clear hcz16_0)
    (try clear hcz16_1)
    (try clear hcz16_2)
    (try clear hcz16_3)
    (try clear hcz16_4)
    (try clear hcz16_5)
    (try clear hcz16_6)
    (try clear hcz4_0)
    (try clear hcz4_1)
    (try clear hcz4_2)
    (try clear hcz4_3)
    (try clear hcz4_4)
    (try clear hcz4_5)
    (try clear hcz4_6)
    (try clear hfz16_0)
    (try clear hfz16_1)
    (try clear hfz16_2)
    (try clear hfz16_3)
    (try clear hfz16_4)
    (try clear hfz16_5)
    (try clear hfz16_6)
    (try clear hfz4_0)
    (try clear hfz4_1)
    (try clear hfz4_2)
    (try clear hfz4_3)
    (try clear hfz4_4)
    (try clear hfz4_5)
    (try clear hfz4_6)
    obtain ⟨kq, HA, HJ14, BK101, HB⟩ := hcut
    cases kq with
    | zero => exact absurd HA.out (by simp [spec_l3data.j1])
    | succ kj14 =>
     have H := HA.out
     clear HA
     simp only [spec_l3data.j1] at H
     replace H := bnd H
     obtain ⟨t104, A27, H⟩ := H
     have HC28 := ak H
     clear H
     obtain ⟨hcz29_0, hcz29_1, hcz29_2, hcz29_3, hcz29_4, hcz29_5, hcz29_6, hfz29_0, hfz29_1, hfz29_2, hfz29_3, hfz29_4, hfz29_5, hfz29_6⟩ := cells7 BK101.out
     go_upto_if 31 with (((with_reducible refine gate_callee (f := 205) rfl ?_);refine glD 31 rfl rfl Try.func205 (spec_l3texted.calls a0_1 t104 _ A27.out) (fun nd => ?_)))
     (try simp only [Act.put, List.setIfInBounds_toArray, List.set_cons_zero, List.set_cons_succ])
     go_cut [] (fun wc => ∃ (kq : Nat), Aside0 (spec_l3data.j2 kq l0_0 a0_1 a0_2 a0_3 l0_4 l0_5 l0_6 = some r) ∧ Aside0 (kq ≤ kj14) ∧ Aside0 (wc.heap[gb101]? = some (.cells #[(.slice A0_0 l0_0.length c0_0), .int .i64 a0_1, .int .i64 a0_2, .int .i64 a0_3, (.slice A0_4 l0_4.length c0_4), (.slice A0_5 l0_5.length c0_5), (.slice A0_6 l0_6.length c0_6)] 33 (0, 0))) ∧ Aside0 (Below w.heap.size w wc))
     case first =>
      have H := HC28.out
      clear HC28
      replace H := ib H
      obtain ⟨rfl, H⟩ | ⟨rfl, H⟩ := H
      ·replace H := ig H
       obtain ⟨c31b0, H⟩ | ⟨c31b0, H⟩ := H
       ·have c31b1 : decide (40 < l0_5.length) = true := decide_eq_true (by have := of_decide_eq_true c31b0; omega)
        (first | rw [c31b0] | (simp only [i64_w, i32_w]; rw [c31b0]) | skip)
        obtain rfl := Option.some.inj H
        obtain ⟨hcz32_0, hcz32_1, hcz32_2, hcz32_3, hcz32_4, hcz32_5, hcz32_6, hfz32_0, hfz32_1, hfz32_2, hfz32_3, hfz32_4, hfz32_5, hfz32_6⟩ := cells7 BK101.out
        go_wp2
        go_ret
        exact ⟨o1, bs⟩
       ·have c31b1 : decide (40 < l0_5.length) = false := decide_eq_false (by have := of_decide_eq_false c31b0; omega)
        (first | rw [c31b0] | (simp only [i64_w, i32_w]; rw [c31b0]) | skip)
        have H' := ak H
        clear H
        obtain ⟨hcz33_0, hcz33_1, hcz33_2, hcz33_3, hcz33_4, hcz33_5, hcz33_6, hfz33_0, hfz33_1, hfz33_2, hfz33_3, hfz33_4, hfz33_5, hfz33_6⟩ := cells7 BK101.out
        go_wp2
        go_meet
        case rel => exact ⟨_, H', ⟨by have := HJ1.out; have := HJ14.out; first | omega | exact Nat.le_refl _⟩, ⟨bk BK101.out⟩, ⟨bs⟩⟩
      ·replace H := ig H
       obtain ⟨c34b0, H⟩ | ⟨c34b0, H⟩ := H
       ·have c34b1 : decide (0 < l0_5.length) = true := decide_eq_true (by have := of_decide_eq_true c34b0; omega)
        obtain rfl := Option.some.inj H
        obtain ⟨hcz35_0, hcz35_1, hcz35_2, hcz35_3, hcz35_4, hcz35_5, hcz35_6, hfz35_0, hfz35_1, hfz35_2, hfz35_3, hfz35_4, hfz35_5, hfz35_6⟩ := cells7 BK101.out
        go_wp2
        go_ret
        exact ⟨o1, bs⟩
       ·have c34b1 : decide (0 < l0_5.length) = false := decide_eq_false (by have := of_decide_eq_false c34b0; omega)
        have H' := ak H
        clear H
        obtain ⟨hcz36_0, hcz36_1, hcz36_2, hcz36_3, hcz36_4, hcz36_5, hcz36_6, hfz36_0, hfz36_1, hfz36_2, hfz36_3, hfz36_4, hfz36_5, hfz36_6⟩ := cells7 BK101.out
        go_wp2
        go_meet
        case rel => exact ⟨_, H', ⟨by have := HJ1.out; have := HJ14.out; first | omega | exact Nat.le_refl _⟩, ⟨bk BK101.out⟩, ⟨bs⟩⟩
     case rest =>
      clear HC28
      (try clear hcz16_0)
      (try clear hcz16_1)
      (try clear hcz16_2)
      (try clear hcz16_3)
      (try clear hcz16_4)
      (try clear hcz16_5)
      (try clear hcz16_6)
      (try clear hcz29_0)
      (try clear hcz29_1)
      (try clear hcz29_2)
      (try clear hcz29_3)
      (try clear hcz29_4)
      (try clear hcz29_5)
      (try clear hcz29_6)
      (try clear hcz4_0)
      (try clear hcz4_1)
      (try clear hcz4_2)
      (try clear hcz4_3)
      (try clear hcz4_4)
      (try clear hcz4_5)
      (try clear hcz4_6)
      (try clear hfz16_0)
      (try clear hfz16_1)
      (try clear hfz16_2)
      (try clear hfz16_3)
      (try clear hfz16_4)
      (try clear hfz16_5)
      (try clear hfz16_6)
      (try clear hfz29_0)
      (try clear hfz29_1)
      (try clear hfz29_2)
      (try clear hfz29_3)
      (try clear hfz29_4)
      (try clear hfz29_5)
      (try clear hfz29_6)
      (try clear hfz4_0)
      (try clear hfz4_1)
      (try clear hfz4_2)
      (try clear hfz4_3)
      (try clear hfz4_4)
      (try clear hfz4_5)
      (try clear hfz4_6)
      obtain ⟨kq, HA, HJ27, BK101, HB⟩ := hcut
      cases kq with
      | zero => exact absurd HA.out (by simp [spec_l3data.j2])
      | succ kj27 =>
       have H := HA.out
       clear HA
       simp only [spec_l3data.j2] at H
       replace H := ie H
       obtain ⟨c37b0, c37b1, H⟩ | ⟨c37b0, c37b1, H⟩ := H
       ·replace H := ie H
        obtain ⟨c38b0, c38b1, H⟩ | ⟨c38b0, c38b1, H⟩ := H
        ·replace H := ipN H
         obtain ⟨c39b0, H⟩ := H
         have c39b1 : decide (0 < l0_6.length) = true := decide_eq_true (by have := of_decide_eq_true c39b0; omega)
         replace H := ip H
         obtain ⟨c40b0, H⟩ | ⟨c40b0, H⟩ := H
         ·obtain rfl := Option.some.inj H
          obtain ⟨hcz41_0, hcz41_1, hcz41_2, hcz41_3, hcz41_4, hcz41_5, hcz41_6, hfz41_0, hfz41_1, hfz41_2, hfz41_3, hfz41_4, hfz41_5, hfz41_6⟩ := cells7 BK101.out
          obtain ⟨ad105, rfl, hx105_0, p105, q105⟩ := el0_int HR0_6 0 (h0 := by decide)
          replace p105 := of_eq_true p105
          replace q105 := of_eq_true q105
          have qi105 : (0 < l0_6.length) = True := eq_true (by omega)
          (try rw [show ((0 : Int)).toNat = 0 from rfl] at hx105_0)
          (try rw [Addr.add_zero'] at hx105_0)
          replace hx105_0 := pw_cell_below HB.out hx105_0
          replace p105 := eq_true p105
          replace q105 := eq_true q105
          go_wp2
          go_ret
          exact ⟨o1, bs⟩
         ·replace H := ih H
          obtain ⟨c42b0, H⟩ | ⟨c42b0, H⟩ := H
          ·obtain rfl := Option.some.inj H
           obtain ⟨hcz43_0, hcz43_1, hcz43_2, hcz43_3, hcz43_4, hcz43_5, hcz43_6, hfz43_0, hfz43_1, hfz43_2, hfz43_3, hfz43_4, hfz43_5, hfz43_6⟩ := cells7 BK101.out
           obtain ⟨ad105, rfl, hx105_0, p105, q105⟩ := el0_int HR0_6 0 (h0 := by decide)
           replace p105 := of_eq_true p105
           replace q105 := of_eq_true q105
           have qi105 : (0 < l0_6.length) = True := eq_true (by omega)
           (try rw [show ((0 : Int)).toNat = 0 from rfl] at hx105_0)
           (try rw [Addr.add_zero'] at hx105_0)
           replace hx105_0 := pw_cell_below HB.out hx105_0
           replace p105 := eq_true p105
           replace q105 := eq_true q105
           obtain ⟨hx106_0, p106, q106⟩ := el20_int HR0_6 0 (h0 := by decide)
           replace p106 := of_eq_true p106
           replace q106 := of_eq_true q106
           have qi106 : (0 < l0_6.length) = True := eq_true (by omega)
           (try rw [show ((0 : Int)).toNat = 0 from rfl] at hx106_0)
           (try rw [Addr.add_zero'] at hx106_0)
           replace hx106_0 := pw_cell_below HB.out hx106_0
           replace p106 := eq_true p106
           replace q106 := eq_true q106
           go_wp2
           go_ret
           exact ⟨o1, bs⟩
          ·replace H := ipN H
           obtain ⟨c44b0, H⟩ := H
           have c44b1 : decide (1 < l0_6.length) = true := decide_eq_true (by have := of_decide_eq_true c44b0; omega)
           replace H := ih H
           obtain ⟨c45b0, H⟩ | ⟨c45b0, H⟩ := H
           ·obtain rfl := Option.some.inj H
            obtain ⟨hcz46_0, hcz46_1, hcz46_2, hcz46_3, hcz46_4, hcz46_5, hcz46_6, hfz46_0, hfz46_1, hfz46_2, hfz46_3, hfz46_4, hfz46_5, hfz46_6⟩ := cells7 BK101.out
            obtain ⟨ad105, rfl, hx105_0, p105, q105⟩ := el0_int HR0_6 0 (h0 := by decide)
            replace p105 := of_eq_true p105
            replace q105 := of_eq_true q105
            have qi105 : (0 < l0_6.length) = True := eq_true (by omega)
            (try rw [show ((0 : Int)).toNat = 0 from rfl] at hx105_0)
            (try rw [Addr.add_zero'] at hx105_0)
            replace hx105_0 := pw_cell_below HB.out hx105_0
            replace p105 := eq_true p105
            replace q105 := eq_true q105
            obtain ⟨hx106_0, p106, q106⟩ := el20_int HR0_6 0 (h0 := by decide)
            replace p106 := of_eq_true p106
            replace q106 := of_eq_true q106
            have qi106 : (0 < l0_6.length) = True := eq_true (by omega)
            (try rw [show ((0 : Int)).toNat = 0 from rfl] at hx106_0)
            (try rw [Addr.add_zero'] at hx106_0)
            replace hx106_0 := pw_cell_below HB.out hx106_0
            replace p106 := eq_true p106
            replace q106 := eq_true q106
            obtain ⟨hx107_0, p107, q107⟩ := el20_int HR0_6 1 (h0 := by decide)
            replace p107 := of_eq_true p107
            replace q107 := of_eq_true q107
            (try simp only [show (1 : Int).toNat = 1 from rfl, Nat.reduceMul, Nat.reduceEqDiff, Go.Addr.add, ↓reduceIte] at hx107_0)
            have qi107 : (1 < l0_6.length) = True := eq_true (by omega)
            (try rw [show ((1 : Int)).toNat = 1 from rfl] at hx107_0)
            replace hx107_0 := pw_cell_below HB.out hx107_0
            replace p107 := eq_true p107
            replace q107 := eq_true q107
            obtain ⟨hx108_0, p108, q108⟩ := el20_int HR0_6 1 (h0 := by decide)
            replace p108 := of_eq_true p108
            replace q108 := of_eq_true q108
            (try simp only [show (1 : Int).toNat = 1 from rfl, Nat.reduceMul, Nat.reduceEqDiff, Go.Addr.add, ↓reduceIte] at hx108_0)
            have qi108 : (1 < l0_6.length) = True := eq_true (by omega)
            (try rw [show ((1 : Int)).toNat = 1 from rfl] at hx108_0)
            replace hx108_0 := pw_cell_below HB.out hx108_0
            replace p108 := eq_true p108
            replace q108 := eq_true q108
            go_wp2
            go_ret
            exact ⟨o1, bs⟩
           ·obtain rfl := Option.some.inj H
            obtain ⟨hcz47_0, hcz47_1, hcz47_2, hcz47_3, hcz47_4, hcz47_5, hcz47_6, hfz47_0, hfz47_1, hfz47_2, hfz47_3, hfz47_4, hfz47_5, hfz47_6⟩ := cells7 BK101.out
            obtain ⟨ad105, rfl, hx105_0, p105, q105⟩ := el0_int HR0_6 0 (h0 := by decide)
            replace p105 := of_eq_true p105
            replace q105 := of_eq_true q105
            have qi105 : (0 < l0_6.length) = True := eq_true (by omega)
            (try rw [show ((0 : Int)).toNat = 0 from rfl] at hx105_0)
            (try rw [Addr.add_zero'] at hx105_0)
            replace hx105_0 := pw_cell_below HB.out hx105_0
            replace p105 := eq_true p105
            replace q105 := eq_true q105
            obtain ⟨hx106_0, p106, q106⟩ := el20_int HR0_6 0 (h0 := by decide)
            replace p106 := of_eq_true p106
            replace q106 := of_eq_true q106
            have qi106 : (0 < l0_6.length) = True := eq_true (by omega)
            (try rw [show ((0 : Int)).toNat = 0 from rfl] at hx106_0)
            (try rw [Addr.add_zero'] at hx106_0)
            replace hx106_0 := pw_cell_below HB.out hx106_0
            replace p106 := eq_true p106
            replace q106 := eq_true q106
            obtain ⟨hx107_0, p107, q107⟩ := el20_int HR0_6 1 (h0 := by decide)
            replace p107 := of_eq_true p107
            replace q107 := of_eq_true q107
            (try simp only [show (1 : Int).toNat = 1 from rfl, Nat.reduceMul, Nat.reduceEqDiff, Go.Addr.add, ↓reduceIte] at hx107_0)
            have qi107 : (1 < l0_6.length) = True := eq_true (by omega)
            (try rw [show ((1 : Int)).toNat = 1 from rfl] at hx107_0)
            replace hx107_0 := pw_cell_below HB.out hx107_0
            replace p107 := eq_true p107
            replace q107 := eq_true q107
            go_wp2
            go_ret
            exact ⟨o1, bs⟩
        ·obtain rfl := Option.some.inj H
         obtain ⟨hcz48_0, hcz48_1, hcz48_2, hcz48_3, hcz48_4, hcz48_5, hcz48_6, hfz48_0, hfz48_1, hfz48_2, hfz48_3, hfz48_4, hfz48_5, hfz48_6⟩ := cells7 BK101.out
         go_wp2
         go_ret
         exact ⟨o1, bs⟩
       ·obtain rfl := Option.some.inj H
        obtain ⟨hcz49_0, hcz49_1, hcz49_2, hcz49_3, hcz49_4, hcz49_5, hcz49_6, hfz49_0, hfz49_1, hfz49_2, hfz49_3, hfz49_4, hfz49_5, hfz49_6⟩ := cells7 BK101.out
        go_wp2
        go_ret
        exact ⟨o1, bs⟩

/-! ### spec_RrOk: function 60 -/
def spec_RrOk.f (k : Nat) (l0_0 : List (List Int)) (a0_1 : Int) (a0_2 : Int) (a0_3 : Int) (l0_4 : List (List Int)) (l0_5 : List Int) (l0_6 : List Int) : Option (Bool) := (spec_NameOk.f k l0_0).bind fun t102 => (if t102 = true then ((spec_TypeOk.f a0_1).bind fun t103 => (if t103 = true then (if a0_2 ≥ 0 then (if a0_2 ≤ 100000 then ((spec_l3data.f k l0_0 a0_1 a0_2 a0_3 l0_4 l0_5 l0_6).bind fun t104 => (some t104)) else (some false)) else (some false)) else (some false))) else (some false))
set_option maxHeartbeats 8000000 in
set_option maxRecDepth 100000 in
theorem spec_RrOk.calls (k : Nat) (A0_0 : Option Addr) (c0_0 : Nat) (l0_0 : List (List Int)) (a0_1 : Int) (a0_2 : Int) (a0_3 : Int) (A0_4 : Option Addr) (c0_4 : Nat) (l0_4 : List (List Int)) (A0_5 : Option Addr) (c0_5 : Nat) (l0_5 : List Int) (A0_6 : Option Addr) (c0_6 : Nat) (l0_6 : List Int) (r : Bool) (w : World) (hr0_0 : Kd.C (Kd.slice 5 (Kd.int .u8)) w A0_0 l0_0.length l0_0) (hc0_0 : l0_0.length ≤ c0_0) (hr0_4 : Kd.C (Kd.slice 5 (Kd.int .u8)) w A0_4 l0_4.length l0_4) (hc0_4 : l0_4.length ≤ c0_4) (hr0_5 : Kd.C (Kd.int .u8) w A0_5 l0_5.length l0_5) (hc0_5 : l0_5.length ≤ c0_5) (hr0_6 : Kd.C (Kd.int .i64) w A0_6 l0_6.length l0_6) (hc0_6 : l0_6.length ≤ c0_6) (h : spec_RrOk.f k l0_0 a0_1 a0_2 a0_3 l0_4 l0_5 l0_6 = some r) :
  Calls Try.prog 60 #[.agg #[.slice A0_0 l0_0.length c0_0, .int .i64 a0_1, .int .i64 a0_2, .int .i64 a0_3, .slice A0_4 l0_4.length c0_4, .slice A0_5 l0_5.length c0_5, .slice A0_6 l0_6.length c0_6]] w fun e w' => e = .returned (.bool r) ∧ Below w.heap.size w w' := by
 have hu33 := Try.underlying33
 have hu31 := Try.underlying31
 have HR0_0 := ak hr0_0
 have HC0_0 := ak hc0_0
 clear hr0_0 hc0_0
 have HR0_4 := ak hr0_4
 have HC0_4 := ak hc0_4
 clear hr0_4 hc0_4
 have HR0_5 := ak hr0_5
 have HC0_5 := ak hc0_5
 clear hr0_5 hc0_5
 have HR0_6 := ak hr0_6
 have HC0_6 := ak hc0_6
 clear hr0_6 hc0_6
 have HB := ak (Below.refl w.heap.size w)
 have H : ((spec_NameOk.f k l0_0).bind fun t102 => (if t102 = true then ((spec_TypeOk.f a0_1).bind fun t103 => (if t103 = true then (if a0_2 ≥ 0 then (if a0_2 ≤ 100000 then ((spec_l3data.f k l0_0 a0_1 a0_2 a0_3 l0_4 l0_5 l0_6).bind fun t104 => (some t104)) else (some false)) else (some false)) else (some false))) else (some false))) = some r := h
 clear h
 replace H := bnd H
 obtain ⟨t102, A2, H⟩ := H
 replace H := ib H
 obtain ⟨rfl, H⟩ | ⟨rfl, H⟩ := H
 ·replace H := bnd H
  obtain ⟨t103, A4, H⟩ := H
  replace H := ib H
  obtain ⟨rfl, H⟩ | ⟨rfl, H⟩ := H
  ·replace H := ih H
   obtain ⟨c6b0, H⟩ | ⟨c6b0, H⟩ := H
   ·replace H := ip H
    obtain ⟨c7b0, H⟩ | ⟨c7b0, H⟩ := H
    ·replace H := bnd H
     obtain ⟨t104, A8, H⟩ := H
     obtain rfl := Option.some.inj H
     go_enter Try.func60, Try.ntmps60
     go_wp2_with (first | ((with_reducible refine gate_dst (N := 1) rfl ?_);refine bxd (N := 1) rfl HB ?_;clear HB;intro gb101 w9 hg HB BK101 GE101 hb;have GW101 := GE101;clear hb hg;obtain ⟨hcz10_0, hcz10_1, hcz10_2, hcz10_3, hcz10_4, hcz10_5, hcz10_6, hfz10_0, hfz10_1, hfz10_2, hfz10_3, hfz10_4, hfz10_5, hfz10_6⟩ := cells7 BK101.out) | ((with_reducible refine gate_callee (f := 76) rfl ?_);refine glB 5 rfl rfl Try.func76 (spec_NameOk.calls k _ _ l0_0 true _ (cv HR0_0 HB) HC0_0.out A2.out) (fun w11 hb => ?_);replace BK101 := b1 BK101 hb;replace HB := b2s bs hb;(try clear hb);obtain ⟨hcz12_0, hcz12_1, hcz12_2, hcz12_3, hcz12_4, hcz12_5, hcz12_6, hfz12_0, hfz12_1, hfz12_2, hfz12_3, hfz12_4, hfz12_5, hfz12_6⟩ := cells7 BK101.out) | (go_at_call 80;(with_reducible refine (spec_TypeOk.calls a0_1 true _ A4.out).mono ?_);rintro e w' ⟨rfl, ⟨nd, rfl⟩⟩) | (go_at_call 134;(with_reducible refine (spec_l3data.calls k _ _ l0_0 a0_1 a0_2 a0_3 _ _ l0_4 _ _ l0_5 _ _ l0_6 t104 _ ?side1 HC0_0.out ?side3 HC0_4.out ?side5 HC0_5.out ?side7 HC0_6.out A8.out).mono ?_);(case side1 => repeat (first | exact (Kd.C_below HR0_0.out bs) | (with_reducible refine Kd.C_alloc ?_ _) | (with_reducible refine Kd.C_drewN ?_ _) | (with_reducible refine Kd.C_drew ?_)));(case side3 => repeat (first | exact (Kd.C_below HR0_4.out bs) | (with_reducible refine Kd.C_alloc ?_ _) | (with_reducible refine Kd.C_drewN ?_ _) | (with_reducible refine Kd.C_drew ?_)));(case side5 => repeat (first | exact (Kd.C_below HR0_5.out bs) | (with_reducible refine Kd.C_alloc ?_ _) | (with_reducible refine Kd.C_drewN ?_ _) | (with_reducible refine Kd.C_drew ?_)));(case side7 => repeat (first | exact (Kd.C_below HR0_6.out bs) | (with_reducible refine Kd.C_alloc ?_ _) | (with_reducible refine Kd.C_drewN ?_ _) | (with_reducible refine Kd.C_drew ?_)));rintro e w13 ⟨rfl, hb⟩;replace BK101 := b1 BK101 hb;replace HB := b2s bs hb;(try clear hb)))
     go_ret
     exact ⟨o1, bs⟩
    ·obtain rfl := Option.some.inj H
     go_enter Try.func60, Try.ntmps60
     go_wp2_with (first | ((with_reducible refine gate_dst (N := 1) rfl ?_);refine bxd (N := 1) rfl HB ?_;clear HB;intro gb101 w14 hg HB BK101 GE101 hb;have GW101 := GE101;clear hb hg;obtain ⟨hcz15_0, hcz15_1, hcz15_2, hcz15_3, hcz15_4, hcz15_5, hcz15_6, hfz15_0, hfz15_1, hfz15_2, hfz15_3, hfz15_4, hfz15_5, hfz15_6⟩ := cells7 BK101.out) | ((with_reducible refine gate_callee (f := 76) rfl ?_);refine glB 5 rfl rfl Try.func76 (spec_NameOk.calls k _ _ l0_0 true _ (cv HR0_0 HB) HC0_0.out A2.out) (fun w16 hb => ?_);replace BK101 := b1 BK101 hb;replace HB := b2s bs hb;(try clear hb);obtain ⟨hcz17_0, hcz17_1, hcz17_2, hcz17_3, hcz17_4, hcz17_5, hcz17_6, hfz17_0, hfz17_1, hfz17_2, hfz17_3, hfz17_4, hfz17_5, hfz17_6⟩ := cells7 BK101.out) | (go_at_call 80;(with_reducible refine (spec_TypeOk.calls a0_1 true _ A4.out).mono ?_);rintro e w' ⟨rfl, ⟨nd, rfl⟩⟩))
     go_ret
     exact ⟨o1, bs⟩
   ·obtain rfl := Option.some.inj H
    go_enter Try.func60, Try.ntmps60
    go_wp2_with (first | ((with_reducible refine gate_dst (N := 1) rfl ?_);refine bxd (N := 1) rfl HB ?_;clear HB;intro gb101 w18 hg HB BK101 GE101 hb;have GW101 := GE101;clear hb hg;obtain ⟨hcz19_0, hcz19_1, hcz19_2, hcz19_3, hcz19_4, hcz19_5, hcz19_6, hfz19_0, hfz19_1, hfz19_2, hfz19_3, hfz19_4, hfz19_5, hfz19_6⟩ := cells7 BK101.out) | ((with_reducible refine gate_callee (f := 76) rfl ?_);refine glB 5 rfl rfl Try.func76 (spec_NameOk.calls k _ _ l0_0 true _ (cv HR0_0 HB) HC0_0.out A2.out) (fun w20 hb => ?_);replace BK101 := b1 BK101 hb;replace HB := b2s bs hb;(try clear hb);obtain ⟨hcz21_0, hcz21_1, hcz21_2, hcz21_3, hcz21_4, hcz21_5, hcz21_6, hfz21_0, hfz21_1, hfz21_2, hfz21_3, hfz21_4, hfz21_5, hfz21_6⟩ := cells7 BK101.out) | (go_at_call 80;(with_reducible refine (spec_TypeOk.calls a0_1 true _ A4.out).mono ?_);rintro e w' ⟨rfl, ⟨nd, rfl⟩⟩))
    go_ret
    exact ⟨o1, bs⟩
  ·obtain rfl := Option.some.inj H
   go_enter Try.func60, Try.ntmps60
   go_wp2_with (first | ((with_reducible refine gate_dst (N := 1) rfl ?_);refine bxd (N := 1) rfl HB ?_;clear HB;intro gb101 w22 hg HB BK101 GE101 hb;have GW101 := GE101;clear hb hg;obtain ⟨hcz23_0, hcz23_1, hcz23_2, hcz23_3, hcz23_4, hcz23_5, hcz23_6, hfz23_0, hfz23_1, hfz23_2, hfz23_3, hfz23_4, hfz23_5, hfz23_6⟩ := cells7 BK101.out) | ((with_reducible refine gate_callee (f := 76) rfl ?_);refine glB 5 rfl rfl Try.func76 (spec_NameOk.calls k _ _ l0_0 true _ (cv HR0_0 HB) HC0_0.out A2.out) (fun w24 hb => ?_);replace BK101 := b1 BK101 hb;replace HB := b2s bs hb;(try clear hb);obtain ⟨hcz25_0, hcz25_1, hcz25_2, hcz25_3, hcz25_4, hcz25_5, hcz25_6, hfz25_0, hfz25_1, hfz25_2, hfz25_3, hfz25_4, hfz25_5, hfz25_6⟩ := cells7 BK101.out) | (go_at_call 80;(with_reducible refine (spec_TypeOk.calls a0_1 false _ A4.out).mono ?_);rintro e w' ⟨rfl, ⟨nd, rfl⟩⟩))
   go_ret
   exact ⟨o1, bs⟩
 ·obtain rfl := Option.some.inj H
  go_enter Try.func60, Try.ntmps60
  go_wp2_with (first | ((with_reducible refine gate_dst (N := 1) rfl ?_);refine bxd (N := 1) rfl HB ?_;clear HB;intro gb101 w26 hg HB BK101 GE101 hb;have GW101 := GE101;clear hb hg;obtain ⟨hcz27_0, hcz27_1, hcz27_2, hcz27_3, hcz27_4, hcz27_5, hcz27_6, hfz27_0, hfz27_1, hfz27_2, hfz27_3, hfz27_4, hfz27_5, hfz27_6⟩ := cells7 BK101.out) | ((with_reducible refine gate_callee (f := 76) rfl ?_);refine glB 5 rfl rfl Try.func76 (spec_NameOk.calls k _ _ l0_0 false _ (cv HR0_0 HB) HC0_0.out A2.out) (fun w28 hb => ?_);replace BK101 := b1 BK101 hb;replace HB := b2s bs hb;(try clear hb)))
  go_ret
  exact ⟨o1, bs⟩

/-! ### spec_l4rrs: function 189 -/
def spec_l4rrs.l0 : Nat → List (S33) → Int → Option (Bool)
 | 0, _, _ => none
 | k + 1, x0, x3 => if x3 < (x0.length : Int) then (if 0 ≤ x3 then ((spec_RrOk.f k ((rd_T33 x0 x3).f0.f0) ((rd_T33 x0 x3).f1) ((rd_T33 x0 x3).f2) ((rd_T33 x0 x3).f3) ((rd_T33 x0 x3).f4.f0) ((rd_T33 x0 x3).f5) ((rd_T33 x0 x3).f6)).bind fun t102 => (if t102 = true then (spec_l4rrs.l0 k x0 (wrap64 (x3 + 1))) else (some false))) else (none)) else (some true)
def spec_l4rrs.f (k : Nat) (l0 : List (S33)) : Option (Bool) := if (l0.length : Int) > 12 then (some false) else (spec_l4rrs.l0 k l0 0)
set_option maxHeartbeats 8000000 in
set_option maxRecDepth 100000 in
theorem spec_l4rrs.calls (k : Nat) (A0 : Option Addr) (c0 : Nat) (l0 : List (S33)) (r : Bool) (w : World) (hr0 : Kd.C k33 w A0 l0.length l0) (hc0 : l0.length ≤ c0) (h : spec_l4rrs.f k l0 = some r) :
  Calls Try.prog 189 #[.slice A0 l0.length c0] w fun e w' => e = .returned (.bool r) ∧ Below w.heap.size w w' := by
 have hu33 := Try.underlying33
 have HR0 := ak hr0
 have HC0 := ak hc0
 clear hr0 hc0
 have HB := ak (Below.refl w.heap.size w)
 have H : (if (l0.length : Int) > 12 then (some false) else (spec_l4rrs.l0 k l0 0)) = some r := h
 clear h
 replace H := ig H
 obtain ⟨c2b0, H⟩ | ⟨c2b0, H⟩ := H
 ·have c2b1 : decide (12 < l0.length) = true := decide_eq_true (by have := of_decide_eq_true c2b0; omega)
  obtain rfl := Option.some.inj H
  go_enter Try.func189, Try.ntmps189
  go_wp2
  go_ret
  exact ⟨o1, bw HB.out⟩
 ·have c2b1 : decide (12 < l0.length) = false := decide_eq_false (by have := of_decide_eq_false c2b0; omega)
  have H' := ak H
  clear H
  go_enter Try.func189, Try.ntmps189
  go_wp2
  go_loopg [3] k (fun kq v3 w' => ∃ (x3_1 : Int), v3 = .int .i64 x3_1 ∧ Aside0 (spec_l4rrs.l0 kq l0 x3_1 = some r) ∧ Aside0 (kq ≤ k) ∧ Aside0 (Below w.heap.size w w'))
  case atStart => exact ⟨(0), o2, H', ⟨Nat.le_refl _⟩, ⟨bw HB.out⟩⟩
  case round =>
   clear H'
   (try clear c2b0)
   (try clear c2b1)
   obtain ⟨x3_1, rfl, HA, HK1, HB⟩ := hrel
   cases gk with
   | zero => exact absurd HA.out (by simp [spec_l4rrs.l0])
   | succ k1 =>
    have H := HA.out
    clear HA
    simp only [spec_l4rrs.l0] at H
    replace H := ip H
    obtain ⟨c3b0, H⟩ | ⟨c3b0, H⟩ := H
    ·replace H := ipN H
     obtain ⟨c4b0, H⟩ := H
     replace H := bnd H
     obtain ⟨t102, A5, H⟩ := H
     replace H := ib H
     obtain ⟨rfl, H⟩ | ⟨rfl, H⟩ := H
     ·have H' := ak H
      clear H
      obtain ⟨ad101, A101_0, c101_0, A101_4, c101_4, A101_5, c101_5, A101_6, c101_6, rfl, hx101_0, hx101_1, hx101_2, hx101_3, hx101_4, hx101_5, hx101_6, HC101_0, HR101_0, HC101_4, HR101_4, HC101_5, HR101_5, HC101_6, HR101_6, p101, q101⟩ := el_T33 HR0 HB x3_1
      go_wp2_with (((with_reducible refine gate_callee (f := 60) rfl ?_);refine glB 17 rfl rfl Try.func60 (spec_RrOk.calls k1 _ _ ((rd_T33 l0 x3_1).f0.f0) ((rd_T33 l0 x3_1).f1) ((rd_T33 l0 x3_1).f2) ((rd_T33 l0 x3_1).f3) _ _ ((rd_T33 l0 x3_1).f4.f0) _ _ ((rd_T33 l0 x3_1).f5) _ _ ((rd_T33 l0 x3_1).f6) true _ (cv HR101_0 HB) HC101_0.out (cv HR101_4 HB) HC101_4.out (cv HR101_5 HB) HC101_5.out (cv HR101_6 HB) HC101_6.out A5.out) (fun w7 hb => ?_);replace HB := b2 HB hb;(try clear hb)))
      go_roundg k1
      case measure => have := HK1.out; omega
      case rel => exact ⟨(wrap64 (x3_1 + 1)), o2, H', ⟨by have := HK1.out; omega⟩, ⟨bw HB.out⟩⟩
     ·obtain rfl := Option.some.inj H
      obtain ⟨ad101, A101_0, c101_0, A101_4, c101_4, A101_5, c101_5, A101_6, c101_6, rfl, hx101_0, hx101_1, hx101_2, hx101_3, hx101_4, hx101_5, hx101_6, HC101_0, HR101_0, HC101_4, HR101_4, HC101_5, HR101_5, HC101_6, HR101_6, p101, q101⟩ := el_T33 HR0 HB x3_1
      go_wp2_with (((with_reducible refine gate_callee (f := 60) rfl ?_);refine glB 17 rfl rfl Try.func60 (spec_RrOk.calls k1 _ _ ((rd_T33 l0 x3_1).f0.f0) ((rd_T33 l0 x3_1).f1) ((rd_T33 l0 x3_1).f2) ((rd_T33 l0 x3_1).f3) _ _ ((rd_T33 l0 x3_1).f4.f0) _ _ ((rd_T33 l0 x3_1).f5) _ _ ((rd_T33 l0 x3_1).f6) false _ (cv HR101_0 HB) HC101_0.out (cv HR101_4 HB) HC101_4.out (cv HR101_5 HB) HC101_5.out (cv HR101_6 HB) HC101_6.out A5.out) (fun w8 hb => ?_);replace HB := b2 HB hb;(try clear hb)))
      go_ret
      exact ⟨o1, bw HB.out⟩
    ·obtain rfl := Option.some.inj H
     go_wp2
     go_ret
     exact ⟨o1, bw HB.out⟩

/-! ### spec_WantOk: function 225 -/
def spec_WantOk.j0 : Nat → Bool → List (List Int) → Int → Int → Int → List (List Int) → List Int → List Int → Int → Bool → Option (Bool)
 | 0, _, _, _, _, _, _, _, _, _, _ => none
 | k + 1, x16, x102000, x102001, x102002, x102003, x102004, x102005, x102006, x102007, x102008 => if x16 = true then (some false) else (if x102008 = true then (if x102007 = 1 then (some false) else ((spec_NameOk.f k x102000).bind fun t103 => (if t103 = true then ((spec_l4asked.f x102001).bind fun t104 => (if t104 = true then (if x102002 = 0 then (if x102003 = 0 then (if (x102004.length : Int) = 0 then (if (x102005.length : Int) = 0 then (some ((x102006.length : Int) == 0)) else (some false)) else (some false)) else (some false)) else (some false)) else (some false))) else (some false)))) else ((spec_RrOk.f k x102000 x102001 x102002 x102003 x102004 x102005 x102006).bind fun t105 => (if t105 = true then (if x102007 = 254 then (if x102002 = 0 then (some (x102007 != 255)) else (some false)) else (some (x102007 != 255))) else (some false))))
def spec_WantOk.f (k : Nat) (l0_0 : List (List Int)) (a0_1 : Int) (a0_2 : Int) (a0_3 : Int) (l0_4 : List (List Int)) (l0_5 : List Int) (l0_6 : List Int) (a0_7 : Int) (a0_8 : Bool) : Option (Bool) := if a0_7 = 1 then (spec_WantOk.j0 k false l0_0 a0_1 a0_2 a0_3 l0_4 l0_5 l0_6 a0_7 a0_8) else (if a0_7 = 254 then (spec_WantOk.j0 k false l0_0 a0_1 a0_2 a0_3 l0_4 l0_5 l0_6 a0_7 a0_8) else (spec_WantOk.j0 k (a0_7 != 255) l0_0 a0_1 a0_2 a0_3 l0_4 l0_5 l0_6 a0_7 a0_8))
set_option maxHeartbeats 8000000 in
set_option maxRecDepth 100000 in
theorem spec_WantOk.calls (k : Nat) (A0_0 : Option Addr) (c0_0 : Nat) (l0_0 : List (List Int)) (a0_1 : Int) (a0_2 : Int) (a0_3 : Int) (A0_4 : Option Addr) (c0_4 : Nat) (l0_4 : List (List Int)) (A0_5 : Option Addr) (c0_5 : Nat) (l0_5 : List Int) (A0_6 : Option Addr) (c0_6 : Nat) (l0_6 : List Int) (a0_7 : Int) (a0_8 : Bool) (r : Bool) (w : World) (hr0_0 : Kd.C (Kd.slice 5 (Kd.int .u8)) w A0_0 l0_0.length l0_0) (hc0_0 : l0_0.length ≤ c0_0) (hr0_4 : Kd.C (Kd.slice 5 (Kd.int .u8)) w A0_4 l0_4.length l0_4) (hc0_4 : l0_4.length ≤ c0_4) (hr0_5 : Kd.C (Kd.int .u8) w A0_5 l0_5.length l0_5) (hc0_5 : l0_5.length ≤ c0_5) (hr0_6 : Kd.C (Kd.int .i64) w A0_6 l0_6.length l0_6) (hc0_6 : l0_6.length ≤ c0_6) (h : spec_WantOk.f k l0_0 a0_1 a0_2 a0_3 l0_4 l0_5 l0_6 a0_7 a0_8 = some r) :
  Calls Try.prog 225 #[.agg #[.slice A0_0 l0_0.length c0_0, .int .i64 a0_1, .int .i64 a0_2, .int .i64 a0_3, .slice A0_4 l0_4.length c0_4, .slice A0_5 l0_5.length c0_5, .slice A0_6 l0_6.length c0_6, .int .i64 a0_7, .bool a0_8]] w fun e w' => e = .returned (.bool r) ∧ Below w.heap.size w w' := by
 have hu205 := Try.underlying205
 have hu33 := Try.underlying33
 have hu31 := Try.underlying31
 have HR0_0 := ak hr0_0
 have HC0_0 := ak hc0_0
 clear hr0_0 hc0_0
 have HR0_4 := ak hr0_4
 have HC0_4 := ak hc0_4
 clear hr0_4 hc0_4
 have HR0_5 := ak hr0_5
 have HC0_5 := ak hc0_5
 clear hr0_5 hc0_5
 have HR0_6 := ak hr0_6
 have HC0_6 := ak hc0_6
 clear hr0_6 hc0_6
 have HB := ak (Below.refl w.heap.size w)
 have H : (if a0_7 = 1 then (spec_WantOk.j0 k false l0_0 a0_1 a0_2 a0_3 l0_4 l0_5 l0_6 a0_7 a0_8) else (if a0_7 = 254 then (spec_WantOk.j0 k false l0_0 a0_1 a0_2 a0_3 l0_4 l0_5 l0_6 a0_7 a0_8) else (spec_WantOk.j0 k (a0_7 != 255) l0_0 a0_1 a0_2 a0_3 l0_4 l0_5 l0_6 a0_7 a0_8))) = some r := h
 clear h
 have HC2 := ak H
 clear H
 go_enter Try.func225, Try.ntmps225
 go_upto_region 1 with (((with_reducible refine gate_dst (N := 1) rfl ?_);(try (refine gate_guard (by rfl) ?_; dsimp only));refine bxd (N := 1) rfl HB ?_;clear HB;intro gb101 w3 hg HB BK101 GE101 hb;have GW101 := GE101;clear hb hg))
 (try simp only [Act.put, List.setIfInBounds_toArray, List.set_cons_zero, List.set_cons_succ])
 go_cut [16] (fun v16 wc => ∃ (kq : Nat) (x16_1 : Bool), v16 = .bool x16_1 ∧ Aside0 (spec_WantOk.j0 kq x16_1 l0_0 a0_1 a0_2 a0_3 l0_4 l0_5 l0_6 a0_7 a0_8 = some r) ∧ Aside0 (kq ≤ k) ∧ Aside0 (wc.heap[gb101]? = some (.cells #[(.slice A0_0 l0_0.length c0_0), .int .i64 a0_1, .int .i64 a0_2, .int .i64 a0_3, (.slice A0_4 l0_4.length c0_4), (.slice A0_5 l0_5.length c0_5), (.slice A0_6 l0_6.length c0_6), .int .i64 a0_7, .bool a0_8] 205 (0, 0))) ∧ Aside0 (Below w.heap.size w wc))
 case first =>
  have H := HC2.out
  clear HC2
  replace H := ie H
  obtain ⟨c4b0, c4b1, H⟩ | ⟨c4b0, c4b1, H⟩ := H
  ·(first | rw [c4b0] | (simp only [i64_w, i32_w]; rw [c4b0]) | skip)
   have H' := ak H
   clear H
   obtain ⟨hcz5_0, hcz5_1, hcz5_2, hcz5_3, hcz5_4, hcz5_5, hcz5_6, hcz5_7, hcz5_8, hfz5_0, hfz5_1, hfz5_2, hfz5_3, hfz5_4, hfz5_5, hfz5_6, hfz5_7, hfz5_8⟩ := cells9 BK101.out
   go_wp2
   go_meet
   case rel => exact ⟨_, (false), o2, H', ⟨o3⟩, ⟨bk BK101.out⟩, ⟨bs⟩⟩
  ·(first | rw [c4b0] | (simp only [i64_w, i32_w]; rw [c4b0]) | skip)
   replace H := ie H
   obtain ⟨c6b0, c6b1, H⟩ | ⟨c6b0, c6b1, H⟩ := H
   ·have H' := ak H
    clear H
    obtain ⟨hcz7_0, hcz7_1, hcz7_2, hcz7_3, hcz7_4, hcz7_5, hcz7_6, hcz7_7, hcz7_8, hfz7_0, hfz7_1, hfz7_2, hfz7_3, hfz7_4, hfz7_5, hfz7_6, hfz7_7, hfz7_8⟩ := cells9 BK101.out
    go_wp2
    go_meet
    case rel => exact ⟨_, (false), o2, H', ⟨o3⟩, ⟨bk BK101.out⟩, ⟨bs⟩⟩
   ·have H' := ak H
    clear H
    obtain ⟨hcz8_0, hcz8_1, hcz8_2, hcz8_3, hcz8_4, hcz8_5, hcz8_6, hcz8_7, hcz8_8, hfz8_0, hfz8_1, hfz8_2, hfz8_3, hfz8_4, hfz8_5, hfz8_6, hfz8_7, hfz8_8⟩ := cells9 BK101.out
    go_wp2
    go_meet
    case rel => exact ⟨_, ((a0_7 != 255)), o2, H', ⟨o3⟩, ⟨bk BK101.out⟩, ⟨bs⟩⟩
 case rest =>
  clear HC2
  obtain ⟨kq, x16_1, rfl, HA, HJ1, BK101, HB⟩ := hcut
  cases kq with
  | zero => exact absurd HA.out (by simp [spec_WantOk.j0])
  | succ kj1 =>
   have H := HA.out
   clear HA
   simp only [spec_WantOk.j0] at H
   replace H := ib H
   obtain ⟨rfl, H⟩ | ⟨rfl, H⟩ := H
   ·obtain rfl := Option.some.inj H
    go_wp2
    go_ret
    exact ⟨o1, bs⟩
   ·replace H := ib H
    obtain ⟨rfl, H⟩ | ⟨rfl, H⟩ := H
    ·replace H := ie H
     obtain ⟨c11b0, c11b1, H⟩ | ⟨c11b0, c11b1, H⟩ := H
     ·obtain rfl := Option.some.inj H
      obtain ⟨hcz12_0, hcz12_1, hcz12_2, hcz12_3, hcz12_4, hcz12_5, hcz12_6, hcz12_7, hcz12_8, hfz12_0, hfz12_1, hfz12_2, hfz12_3, hfz12_4, hfz12_5, hfz12_6, hfz12_7, hfz12_8⟩ := cells9 BK101.out
      go_wp2_with (((with_reducible refine gate_dst (N := 3) rfl ?_);(try (refine gate_guard (by rfl) ?_; dsimp only));refine bxe (N := 3) rfl ?_;intro gb102 hg w13 hbox hb;have BK102 := ak (hbox);have GW102 := b3s hg bs;have GE102 := GW102;replace HB := b2s bs hb;have NB101_102 := b4 hg BK101;have NB102_101 := b5 hg BK101;replace BK101 := b1 BK101 hb;clear hb hbox hg;have hnb14 := NB102_101.out;have hnc14 := NB101_102.out;obtain ⟨hcz15_0, hcz15_1, hcz15_2, hcz15_3, hcz15_4, hcz15_5, hcz15_6, hfz15_0, hfz15_1, hfz15_2, hfz15_3, hfz15_4, hfz15_5, hfz15_6⟩ := cells7 BK102.out;obtain ⟨hcz16_0, hcz16_1, hcz16_2, hcz16_3, hcz16_4, hcz16_5, hcz16_6, hcz16_7, hcz16_8, hfz16_0, hfz16_1, hfz16_2, hfz16_3, hfz16_4, hfz16_5, hfz16_6, hfz16_7, hfz16_8⟩ := cells9 BK101.out))
      go_ret
      exact ⟨o1, bs⟩
     ·replace H := bnd H
      obtain ⟨t103, A17, H⟩ := H
      replace H := ib H
      obtain ⟨rfl, H⟩ | ⟨rfl, H⟩ := H
      ·replace H := bnd H
       obtain ⟨t104, A19, H⟩ := H
       replace H := ib H
       obtain ⟨rfl, H⟩ | ⟨rfl, H⟩ := H
       ·replace H := ie H
        obtain ⟨c21b0, c21b1, H⟩ | ⟨c21b0, c21b1, H⟩ := H
        ·replace H := ie H
         obtain ⟨c22b0, c22b1, H⟩ | ⟨c22b0, c22b1, H⟩ := H
         ·replace H := ie H
          obtain ⟨c23b0, c23b1, H⟩ | ⟨c23b0, c23b1, H⟩ := H
          ·replace H := ie H
           obtain ⟨c24b0, c24b1, H⟩ | ⟨c24b0, c24b1, H⟩ := H
           ·obtain rfl := Option.some.inj H
            obtain ⟨hcz25_0, hcz25_1, hcz25_2, hcz25_3, hcz25_4, hcz25_5, hcz25_6, hcz25_7, hcz25_8, hfz25_0, hfz25_1, hfz25_2, hfz25_3, hfz25_4, hfz25_5, hfz25_6, hfz25_7, hfz25_8⟩ := cells9 BK101.out
            go_wp2_with (first | ((with_reducible refine gate_dst (N := 3) rfl ?_);(try (refine gate_guard (by rfl) ?_; dsimp only));refine bxe (N := 3) rfl ?_;intro gb102 hg w26 hbox hb;have BK102 := ak (hbox);have GW102 := b3s hg bs;have GE102 := GW102;replace HB := b2s bs hb;have NB101_102 := b4 hg BK101;have NB102_101 := b5 hg BK101;replace BK101 := b1 BK101 hb;clear hb hbox hg;have hnb27 := NB102_101.out;have hnc27 := NB101_102.out;obtain ⟨hcz28_0, hcz28_1, hcz28_2, hcz28_3, hcz28_4, hcz28_5, hcz28_6, hfz28_0, hfz28_1, hfz28_2, hfz28_3, hfz28_4, hfz28_5, hfz28_6⟩ := cells7 BK102.out;obtain ⟨hcz29_0, hcz29_1, hcz29_2, hcz29_3, hcz29_4, hcz29_5, hcz29_6, hcz29_7, hcz29_8, hfz29_0, hfz29_1, hfz29_2, hfz29_3, hfz29_4, hfz29_5, hfz29_6, hfz29_7, hfz29_8⟩ := cells9 BK101.out) | (go_at_call 76;(with_reducible refine (spec_NameOk.calls kj1 _ _ l0_0 true _ (Kd.C_below HR0_0.out bs) HC0_0.out A17.out).mono ?_);rintro e w30 ⟨rfl, hb⟩;replace BK101 := ak (blk_below (bfar7 NB101_102.out BK101.out) hb);replace BK102 := ak (blk_below (bput7 BK102.out) hb);replace HB := b2s bs hb;(try clear hb);obtain ⟨hcz31_0, hcz31_1, hcz31_2, hcz31_3, hcz31_4, hcz31_5, hcz31_6, hfz31_0, hfz31_1, hfz31_2, hfz31_3, hfz31_4, hfz31_5, hfz31_6⟩ := cells7 BK102.out) | (go_at_call 188;(with_reducible refine (spec_l4asked.calls a0_1 true _ A19.out).mono ?_);rintro e w' ⟨rfl, ⟨nd, rfl⟩⟩))
            go_ret
            exact ⟨o1, bs⟩
           ·have c24b2 : ¬ (l0_5 = []) := fun h_ => bne_iff_ne.mp c24b1 (by rw [h_]; rfl)
            obtain rfl := Option.some.inj H
            obtain ⟨hcz32_0, hcz32_1, hcz32_2, hcz32_3, hcz32_4, hcz32_5, hcz32_6, hcz32_7, hcz32_8, hfz32_0, hfz32_1, hfz32_2, hfz32_3, hfz32_4, hfz32_5, hfz32_6, hfz32_7, hfz32_8⟩ := cells9 BK101.out
            go_wp2_with (first | ((with_reducible refine gate_dst (N := 3) rfl ?_);(try (refine gate_guard (by rfl) ?_; dsimp only));refine bxe (N := 3) rfl ?_;intro gb102 hg w33 hbox hb;have BK102 := ak (hbox);have GW102 := b3s hg bs;have GE102 := GW102;replace HB := b2s bs hb;have NB101_102 := b4 hg BK101;have NB102_101 := b5 hg BK101;replace BK101 := b1 BK101 hb;clear hb hbox hg;have hnb34 := NB102_101.out;have hnc34 := NB101_102.out;obtain ⟨hcz35_0, hcz35_1, hcz35_2, hcz35_3, hcz35_4, hcz35_5, hcz35_6, hfz35_0, hfz35_1, hfz35_2, hfz35_3, hfz35_4, hfz35_5, hfz35_6⟩ := cells7 BK102.out;obtain ⟨hcz36_0, hcz36_1, hcz36_2, hcz36_3, hcz36_4, hcz36_5, hcz36_6, hcz36_7, hcz36_8, hfz36_0, hfz36_1, hfz36_2, hfz36_3, hfz36_4, hfz36_5, hfz36_6, hfz36_7, hfz36_8⟩ := cells9 BK101.out) | (go_at_call 76;(with_reducible refine (spec_NameOk.calls kj1 _ _ l0_0 true _ (Kd.C_below HR0_0.out bs) HC0_0.out A17.out).mono ?_);rintro e w37 ⟨rfl, hb⟩;replace BK101 := ak (blk_below (bfar7 NB101_102.out BK101.out) hb);replace BK102 := ak (blk_below (bput7 BK102.out) hb);replace HB := b2s bs hb;(try clear hb);obtain ⟨hcz38_0, hcz38_1, hcz38_2, hcz38_3, hcz38_4, hcz38_5, hcz38_6, hfz38_0, hfz38_1, hfz38_2, hfz38_3, hfz38_4, hfz38_5, hfz38_6⟩ := cells7 BK102.out) | (go_at_call 188;(with_reducible refine (spec_l4asked.calls a0_1 true _ A19.out).mono ?_);rintro e w' ⟨rfl, ⟨nd, rfl⟩⟩))
            go_ret
            exact ⟨o1, bs⟩
          ·have c23b2 : ¬ (l0_4 = []) := fun h_ => bne_iff_ne.mp c23b1 (by rw [h_]; rfl)
           obtain rfl := Option.some.inj H
           obtain ⟨hcz39_0, hcz39_1, hcz39_2, hcz39_3, hcz39_4, hcz39_5, hcz39_6, hcz39_7, hcz39_8, hfz39_0, hfz39_1, hfz39_2, hfz39_3, hfz39_4, hfz39_5, hfz39_6, hfz39_7, hfz39_8⟩ := cells9 BK101.out
           go_wp2_with (first | ((with_reducible refine gate_dst (N := 3) rfl ?_);(try (refine gate_guard (by rfl) ?_; dsimp only));refine bxe (N := 3) rfl ?_;intro gb102 hg w40 hbox hb;have BK102 := ak (hbox);have GW102 := b3s hg bs;have GE102 := GW102;replace HB := b2s bs hb;have NB101_102 := b4 hg BK101;have NB102_101 := b5 hg BK101;replace BK101 := b1 BK101 hb;clear hb hbox hg;have hnb41 := NB102_101.out;have hnc41 := NB101_102.out;obtain ⟨hcz42_0, hcz42_1, hcz42_2, hcz42_3, hcz42_4, hcz42_5, hcz42_6, hfz42_0, hfz42_1, hfz42_2, hfz42_3, hfz42_4, hfz42_5, hfz42_6⟩ := cells7 BK102.out;obtain ⟨hcz43_0, hcz43_1, hcz43_2, hcz43_3, hcz43_4, hcz43_5, hcz43_6, hcz43_7, hcz43_8, hfz43_0, hfz43_1, hfz43_2, hfz43_3, hfz43_4, hfz43_5, hfz43_6, hfz43_7, hfz43_8⟩ := cells9 BK101.out) | (go_at_call 76;(with_reducible refine (spec_NameOk.calls kj1 _ _ l0_0 true _ (Kd.C_below HR0_0.out bs) HC0_0.out A17.out).mono ?_);rintro e w44 ⟨rfl, hb⟩;replace BK101 := ak (blk_below (bfar7 NB101_102.out BK101.out) hb);replace BK102 := ak (blk_below (bput7 BK102.out) hb);replace HB := b2s bs hb;(try clear hb);obtain ⟨hcz45_0, hcz45_1, hcz45_2, hcz45_3, hcz45_4, hcz45_5, hcz45_6, hfz45_0, hfz45_1, hfz45_2, hfz45_3, hfz45_4, hfz45_5, hfz45_6⟩ := cells7 BK102.out) | (go_at_call 188;(with_reducible refine (spec_l4asked.calls a0_1 true _ A19.out).mono ?_);rintro e w' ⟨rfl, ⟨nd, rfl⟩⟩))
           go_ret
           exact ⟨o1, bs⟩
         ·obtain rfl := Option.some.inj H
          obtain ⟨hcz46_0, hcz46_1, hcz46_2, hcz46_3, hcz46_4, hcz46_5, hcz46_6, hcz46_7, hcz46_8, hfz46_0, hfz46_1, hfz46_2, hfz46_3, hfz46_4, hfz46_5, hfz46_6, hfz46_7, hfz46_8⟩ := cells9 BK101.out
          go_wp2_with (first | ((with_reducible refine gate_dst (N := 3) rfl ?_);(try (refine gate_guard (by rfl) ?_; dsimp only));refine bxe (N := 3) rfl ?_;intro gb102 hg w47 hbox hb;have BK102 := ak (hbox);have GW102 := b3s hg bs;have GE102 := GW102;replace HB := b2s bs hb;have NB101_102 := b4 hg BK101;have NB102_101 := b5 hg BK101;replace BK101 := b1 BK101 hb;clear hb hbox hg;have hnb48 := NB102_101.out;have hnc48 := NB101_102.out;obtain ⟨hcz49_0, hcz49_1, hcz49_2, hcz49_3, hcz49_4, hcz49_5, hcz49_6, hfz49_0, hfz49_1, hfz49_2, hfz49_3, hfz49_4, hfz49_5, hfz49_6⟩ := cells7 BK102.out;obtain ⟨hcz50_0, hcz50_1, hcz50_2, hcz50_3, hcz50_4, hcz50_5, hcz50_6, hcz50_7, hcz50_8, hfz50_0, hfz50_1, hfz50_2, hfz50_3, hfz50_4, hfz50_5, hfz50_6, hfz50_7, hfz50_8⟩ := cells9 BK101.out) | (go_at_call 76;(with_reducible refine (spec_NameOk.calls kj1 _ _ l0_0 true _ (Kd.C_below HR0_0.out bs) HC0_0.out A17.out).mono ?_);rintro e w51 ⟨rfl, hb⟩;replace BK101 := ak (blk_below (bfar7 NB101_102.out BK101.out) hb);replace BK102 := ak (blk_below (bput7 BK102.out) hb);replace HB := b2s bs hb;(try clear hb);obtain ⟨hcz52_0, hcz52_1, hcz52_2, hcz52_3, hcz52_4, hcz52_5, hcz52_6, hfz52_0, hfz52_1, hfz52_2, hfz52_3, hfz52_4, hfz52_5, hfz52_6⟩ := cells7 BK102.out) | (go_at_call 188;(with_reducible refine (spec_l4asked.calls a0_1 true _ A19.out).mono ?_);rintro e w' ⟨rfl, ⟨nd, rfl⟩⟩))
          go_ret
          exact ⟨o1, bs⟩
        ·obtain rfl := Option.some.inj H
         obtain ⟨hcz53_0, hcz53_1, hcz53_2, hcz53_3, hcz53_4, hcz53_5, hcz53_6, hcz53_7, hcz53_8, hfz53_0, hfz53_1, hfz53_2, hfz53_3, hfz53_4, hfz53_5, hfz53_6, hfz53_7, hfz53_8⟩ := cells9 BK101.out
         go_wp2_with (first | ((with_reducible refine gate_dst (N := 3) rfl ?_);(try (refine gate_guard (by rfl) ?_; dsimp only));refine bxe (N := 3) rfl ?_;intro gb102 hg w54 hbox hb;have BK102 := ak (hbox);have GW102 := b3s hg bs;have GE102 := GW102;replace HB := b2s bs hb;have NB101_102 := b4 hg BK101;have NB102_101 := b5 hg BK101;replace BK101 := b1 BK101 hb;clear hb hbox hg;have hnb55 := NB102_101.out;have hnc55 := NB101_102.out;obtain ⟨hcz56_0, hcz56_1, hcz56_2, hcz56_3, hcz56_4, hcz56_5, hcz56_6, hfz56_0, hfz56_1, hfz56_2, hfz56_3, hfz56_4, hfz56_5, hfz56_6⟩ := cells7 BK102.out;obtain ⟨hcz57_0, hcz57_1, hcz57_2, hcz57_3, hcz57_4, hcz57_5, hcz57_6, hcz57_7, hcz57_8, hfz57_0, hfz57_1, hfz57_2, hfz57_3, hfz57_4, hfz57_5, hfz57_6, hfz57_7, hfz57_8⟩ := cells9 BK101.out) | (go_at_call 76;(with_reducible refine (spec_NameOk.calls kj1 _ _ l0_0 true _ (Kd.C_below HR0_0.out bs) HC0_0.out A17.out).mono ?_);rintro e w58 ⟨rfl, hb⟩;replace BK101 := ak (blk_below (bfar7 NB101_102.out BK101.out) hb);replace BK102 := ak (blk_below (bput7 BK102.out) hb);replace HB := b2s bs hb;(try clear hb);obtain ⟨hcz59_0, hcz59_1, hcz59_2, hcz59_3, hcz59_4, hcz59_5, hcz59_6, hfz59_0, hfz59_1, hfz59_2, hfz59_3, hfz59_4, hfz59_5, hfz59_6⟩ := cells7 BK102.out) | (go_at_call 188;(with_reducible refine (spec_l4asked.calls a0_1 true _ A19.out).mono ?_);rintro e w' ⟨rfl, ⟨nd, rfl⟩⟩))
         go_ret
         exact ⟨o1, bs⟩
       ·obtain rfl := Option.some.inj H
        obtain ⟨hcz60_0, hcz60_1, hcz60_2, hcz60_3, hcz60_4, hcz60_5, hcz60_6, hcz60_7, hcz60_8, hfz60_0, hfz60_1, hfz60_2, hfz60_3, hfz60_4, hfz60_5, hfz60_6, hfz60_7, hfz60_8⟩ := cells9 BK101.out
        go_wp2_with (first | ((with_reducible refine gate_dst (N := 3) rfl ?_);(try (refine gate_guard (by rfl) ?_; dsimp only));refine bxe (N := 3) rfl ?_;intro gb102 hg w61 hbox hb;have BK102 := ak (hbox);have GW102 := b3s hg bs;have GE102 := GW102;replace HB := b2s bs hb;have NB101_102 := b4 hg BK101;have NB102_101 := b5 hg BK101;replace BK101 := b1 BK101 hb;clear hb hbox hg;have hnb62 := NB102_101.out;have hnc62 := NB101_102.out;obtain ⟨hcz63_0, hcz63_1, hcz63_2, hcz63_3, hcz63_4, hcz63_5, hcz63_6, hfz63_0, hfz63_1, hfz63_2, hfz63_3, hfz63_4, hfz63_5, hfz63_6⟩ := cells7 BK102.out;obtain ⟨hcz64_0, hcz64_1, hcz64_2, hcz64_3, hcz64_4, hcz64_5, hcz64_6, hcz64_7, hcz64_8, hfz64_0, hfz64_1, hfz64_2, hfz64_3, hfz64_4, hfz64_5, hfz64_6, hfz64_7, hfz64_8⟩ := cells9 BK101.out) | (go_at_call 76;(with_reducible refine (spec_NameOk.calls kj1 _ _ l0_0 true _ (Kd.C_below HR0_0.out bs) HC0_0.out A17.out).mono ?_);rintro e w65 ⟨rfl, hb⟩;replace BK101 := ak (blk_below (bfar7 NB101_102.out BK101.out) hb);replace BK102 := ak (blk_below (bput7 BK102.out) hb);replace HB := b2s bs hb;(try clear hb);obtain ⟨hcz66_0, hcz66_1, hcz66_2, hcz66_3, hcz66_4, hcz66_5, hcz66_6, hfz66_0, hfz66_1, hfz66_2, hfz66_3, hfz66_4, hfz66_5, hfz66_6⟩ := cells7 BK102.out) | (go_at_call 188;(with_reducible refine (spec_l4asked.calls a0_1 false _ A19.out).mono ?_);rintro e w' ⟨rfl, ⟨nd, rfl⟩⟩))
        go_ret
        exact ⟨o1, bs⟩
      ·obtain rfl := Option.some.inj H
       obtain ⟨hcz67_0, hcz67_1, hcz67_2, hcz67_3, hcz67_4, hcz67_5, hcz67_6, hcz67_7, hcz67_8, hfz67_0, hfz67_1, hfz67_2, hfz67_3, hfz67_4, hfz67_5, hfz67_6, hfz67_7, hfz67_8⟩ := cells9 BK101.out
       go_wp2_with (first | ((with_reducible refine gate_dst (N := 3) rfl ?_);(try (refine gate_guard (by rfl) ?_; dsimp only));refine bxe (N := 3) rfl ?_;intro gb102 hg w68 hbox hb;have BK102 := ak (hbox);have GW102 := b3s hg bs;have GE102 := GW102;replace HB := b2s bs hb;have NB101_102 := b4 hg BK101;have NB102_101 := b5 hg BK101;replace BK101 := b1 BK101 hb;clear hb hbox hg;have hnb69 := NB102_101.out;have hnc69 := NB101_102.out;obtain ⟨hcz70_0, hcz70_1, hcz70_2, hcz70_3, hcz70_4, hcz70_5, hcz70_6, hfz70_0, hfz70_1, hfz70_2, hfz70_3, hfz70_4, hfz70_5, hfz70_6⟩ := cells7 BK102.out;obtain ⟨hcz71_0, hcz71_1, hcz71_2, hcz71_3, hcz71_4, hcz71_5, hcz71_6, hcz71_7, hcz71_8, hfz71_0, hfz71_1, hfz71_2, hfz71_3, hfz71_4, hfz71_5, hfz71_6, hfz71_7, hfz71_8⟩ := cells9 BK101.out) | (go_at_call 76;(with_reducible refine (spec_NameOk.calls kj1 _ _ l0_0 false _ (Kd.C_below HR0_0.out bs) HC0_0.out A17.out).mono ?_);rintro e w72 ⟨rfl, hb⟩;replace BK101 := ak (blk_below (bfar7 NB101_102.out BK101.out) hb);replace BK102 := ak (blk_below (bput7 BK102.out) hb);replace HB := b2s bs hb;(try clear hb)))
       go_ret
       exact ⟨o1, bs⟩
    ·replace H := bnd H
     obtain ⟨t105, A73, H⟩ := H
     replace H := ib H
     obtain ⟨rfl, H⟩ | ⟨rfl, H⟩ := H
     ·replace H := ie H
      obtain ⟨c75b0, c75b1, H⟩ | ⟨c75b0, c75b1, H⟩ := H
      ·replace H := ie H
       obtain ⟨c76b0, c76b1, H⟩ | ⟨c76b0, c76b1, H⟩ := H
       ·obtain rfl := Option.some.inj H
        obtain ⟨hcz77_0, hcz77_1, hcz77_2, hcz77_3, hcz77_4, hcz77_5, hcz77_6, hcz77_7, hcz77_8, hfz77_0, hfz77_1, hfz77_2, hfz77_3, hfz77_4, hfz77_5, hfz77_6, hfz77_7, hfz77_8⟩ := cells9 BK101.out
        go_wp2_with (((with_reducible refine gate_callee (f := 60) rfl ?_);refine glB 22 rfl rfl Try.func60 (spec_RrOk.calls kj1 _ _ l0_0 a0_1 a0_2 a0_3 _ _ l0_4 _ _ l0_5 _ _ l0_6 true _ (cv HR0_0 HB) HC0_0.out (cv HR0_4 HB) HC0_4.out (cv HR0_5 HB) HC0_5.out (cv HR0_6 HB) HC0_6.out A73.out) (fun w78 hb => ?_);replace BK101 := b1 BK101 hb;replace HB := b2s bs hb;(try clear hb);obtain ⟨hcz79_0, hcz79_1, hcz79_2, hcz79_3, hcz79_4, hcz79_5, hcz79_6, hcz79_7, hcz79_8, hfz79_0, hfz79_1, hfz79_2, hfz79_3, hfz79_4, hfz79_5, hfz79_6, hfz79_7, hfz79_8⟩ := cells9 BK101.out))
        go_ret
        exact ⟨o1, bs⟩
       ·obtain rfl := Option.some.inj H
        obtain ⟨hcz80_0, hcz80_1, hcz80_2, hcz80_3, hcz80_4, hcz80_5, hcz80_6, hcz80_7, hcz80_8, hfz80_0, hfz80_1, hfz80_2, hfz80_3, hfz80_4, hfz80_5, hfz80_6, hfz80_7, hfz80_8⟩ := cells9 BK101.out
        go_wp2_with (((with_reducible refine gate_callee (f := 60) rfl ?_);refine glB 22 rfl rfl Try.func60 (spec_RrOk.calls kj1 _ _ l0_0 a0_1 a0_2 a0_3 _ _ l0_4 _ _ l0_5 _ _ l0_6 true _ (cv HR0_0 HB) HC0_0.out (cv HR0_4 HB) HC0_4.out (cv HR0_5 HB) HC0_5.out (cv HR0_6 HB) HC0_6.out A73.out) (fun w81 hb => ?_);replace BK101 := b1 BK101 hb;replace HB := b2s bs hb;(try clear hb);obtain ⟨hcz82_0, hcz82_1, hcz82_2, hcz82_3, hcz82_4, hcz82_5, hcz82_6, hcz82_7, hcz82_8, hfz82_0, hfz82_1, hfz82_2, hfz82_3, hfz82_4, hfz82_5, hfz82_6, hfz82_7, hfz82_8⟩ := cells9 BK101.out))
        go_ret
        exact ⟨o1, bs⟩
      ·obtain rfl := Option.some.inj H
       obtain ⟨hcz83_0, hcz83_1, hcz83_2, hcz83_3, hcz83_4, hcz83_5, hcz83_6, hcz83_7, hcz83_8, hfz83_0, hfz83_1, hfz83_2, hfz83_3, hfz83_4, hfz83_5, hfz83_6, hfz83_7, hfz83_8⟩ := cells9 BK101.out
       go_wp2_with (((with_reducible refine gate_callee (f := 60) rfl ?_);refine glB 22 rfl rfl Try.func60 (spec_RrOk.calls kj1 _ _ l0_0 a0_1 a0_2 a0_3 _ _ l0_4 _ _ l0_5 _ _ l0_6 true _ (cv HR0_0 HB) HC0_0.out (cv HR0_4 HB) HC0_4.out (cv HR0_5 HB) HC0_5.out (cv HR0_6 HB) HC0_6.out A73.out) (fun w84 hb => ?_);replace BK101 := b1 BK101 hb;replace HB := b2s bs hb;(try clear hb);obtain ⟨hcz85_0, hcz85_1, hcz85_2, hcz85_3, hcz85_4, hcz85_5, hcz85_6, hcz85_7, hcz85_8, hfz85_0, hfz85_1, hfz85_2, hfz85_3, hfz85_4, hfz85_5, hfz85_6, hfz85_7, hfz85_8⟩ := cells9 BK101.out))
       go_ret
       exact ⟨o1, bs⟩
     ·obtain rfl := Option.some.inj H
      obtain ⟨hcz86_0, hcz86_1, hcz86_2, hcz86_3, hcz86_4, hcz86_5, hcz86_6, hcz86_7, hcz86_8, hfz86_0, hfz86_1, hfz86_2, hfz86_3, hfz86_4, hfz86_5, hfz86_6, hfz86_7, hfz86_8⟩ := cells9 BK101.out
      go_wp2_with (((with_reducible refine gate_callee (f := 60) rfl ?_);refine glB 22 rfl rfl Try.func60 (spec_RrOk.calls kj1 _ _ l0_0 a0_1 a0_2 a0_3 _ _ l0_4 _ _ l0_5 _ _ l0_6 false _ (cv HR0_0 HB) HC0_0.out (cv HR0_4 HB) HC0_4.out (cv HR0_5 HB) HC0_5.out (cv HR0_6 HB) HC0_6.out A73.out) (fun w87 hb => ?_);replace BK101 := b1 BK101 hb;replace HB := b2s bs hb;(try clear hb)))
      go_ret
      exact ⟨o1, bs⟩

/-! ### spec_l4wants: function 190 -/
def spec_l4wants.l0 : Nat → List (S205) → Int → Option (Bool)
 | 0, _, _ => none
 | k + 1, x0, x3 => if x3 < (x0.length : Int) then (if 0 ≤ x3 then ((spec_WantOk.f k ((rd_T205 x0 x3).f0.f0.f0) ((rd_T205 x0 x3).f0.f1) ((rd_T205 x0 x3).f0.f2) ((rd_T205 x0 x3).f0.f3) ((rd_T205 x0 x3).f0.f4.f0) ((rd_T205 x0 x3).f0.f5) ((rd_T205 x0 x3).f0.f6) ((rd_T205 x0 x3).f1) ((rd_T205 x0 x3).f2)).bind fun t102 => (if t102 = true then (spec_l4wants.l0 k x0 (wrap64 (x3 + 1))) else (some false))) else (none)) else (some true)
def spec_l4wants.f (k : Nat) (l0 : List (S205)) : Option (Bool) := if (l0.length : Int) > 12 then (some false) else (spec_l4wants.l0 k l0 0)
set_option maxHeartbeats 8000000 in
set_option maxRecDepth 100000 in
theorem spec_l4wants.calls (k : Nat) (A0 : Option Addr) (c0 : Nat) (l0 : List (S205)) (r : Bool) (w : World) (hr0 : Kd.C k205 w A0 l0.length l0) (hc0 : l0.length ≤ c0) (h : spec_l4wants.f k l0 = some r) :
  Calls Try.prog 190 #[.slice A0 l0.length c0] w fun e w' => e = .returned (.bool r) ∧ Below w.heap.size w w' := by
 have hu205 := Try.underlying205
 have HR0 := ak hr0
 have HC0 := ak hc0
 clear hr0 hc0
 have HB := ak (Below.refl w.heap.size w)
 have H : (if (l0.length : Int) > 12 then (some false) else (spec_l4wants.l0 k l0 0)) = some r := h
 clear h
 replace H := ig H
 obtain ⟨c2b0, H⟩ | ⟨c2b0, H⟩ := H
 ·have c2b1 : decide (12 < l0.length) = true := decide_eq_true (by have := of_decide_eq_true c2b0; omega)
  obtain rfl := Option.some.inj H
  go_enter Try.func190, Try.ntmps190
  go_wp2
  go_ret
  exact ⟨o1, bw HB.out⟩
 ·have c2b1 : decide (12 < l0.length) = false := decide_eq_false (by have := of_decide_eq_false c2b0; omega)
  have H' := ak H
  clear H
  go_enter Try.func190, Try.ntmps190
  go_wp2
  go_loopg [3] k (fun kq v3 w' => ∃ (x3_1 : Int), v3 = .int .i64 x3_1 ∧ Aside0 (spec_l4wants.l0 kq l0 x3_1 = some r) ∧ Aside0 (kq ≤ k) ∧ Aside0 (Below w.heap.size w w'))
  case atStart => exact ⟨(0), o2, H', ⟨Nat.le_refl _⟩, ⟨bw HB.out⟩⟩
  case round =>
   clear H'
   (try clear c2b0)
   (try clear c2b1)
   obtain ⟨x3_1, rfl, HA, HK1, HB⟩ := hrel
   cases gk with
   | zero => exact absurd HA.out (by simp [spec_l4wants.l0])
   | succ k1 =>
    have H := HA.out
    clear HA
    simp only [spec_l4wants.l0] at H
    replace H := ip H
    obtain ⟨c3b0, H⟩ | ⟨c3b0, H⟩ := H
    ·replace H := ipN H
     obtain ⟨c4b0, H⟩ := H
     replace H := bnd H
     obtain ⟨t102, A5, H⟩ := H
     replace H := ib H
     obtain ⟨rfl, H⟩ | ⟨rfl, H⟩ := H
     ·have H' := ak H
      clear H
      obtain ⟨ad101, A101_0, c101_0, A101_4, c101_4, A101_5, c101_5, A101_6, c101_6, rfl, hx101_0, hx101_1, hx101_2, hx101_3, hx101_4, hx101_5, hx101_6, hx101_7, hx101_8, HC101_0, HR101_0, HC101_4, HR101_4, HC101_5, HR101_5, HC101_6, HR101_6, p101, q101⟩ := el_T205 HR0 HB x3_1
      go_wp2_with (((with_reducible refine gate_callee (f := 225) rfl ?_);refine glB 17 rfl rfl Try.func225 (spec_WantOk.calls k1 _ _ ((rd_T205 l0 x3_1).f0.f0.f0) ((rd_T205 l0 x3_1).f0.f1) ((rd_T205 l0 x3_1).f0.f2) ((rd_T205 l0 x3_1).f0.f3) _ _ ((rd_T205 l0 x3_1).f0.f4.f0) _ _ ((rd_T205 l0 x3_1).f0.f5) _ _ ((rd_T205 l0 x3_1).f0.f6) ((rd_T205 l0 x3_1).f1) ((rd_T205 l0 x3_1).f2) true _ (cv HR101_0 HB) HC101_0.out (cv HR101_4 HB) HC101_4.out (cv HR101_5 HB) HC101_5.out (cv HR101_6 HB) HC101_6.out A5.out) (fun w7 hb => ?_);replace HB := b2 HB hb;(try clear hb)))
      go_roundg k1
      case measure => have := HK1.out; omega
      case rel => exact ⟨(wrap64 (x3_1 + 1)), o2, H', ⟨by have := HK1.out; omega⟩, ⟨bw HB.out⟩⟩
     ·obtain rfl := Option.some.inj H
      obtain ⟨ad101, A101_0, c101_0, A101_4, c101_4, A101_5, c101_5, A101_6, c101_6, rfl, hx101_0, hx101_1, hx101_2, hx101_3, hx101_4, hx101_5, hx101_6, hx101_7, hx101_8, HC101_0, HR101_0, HC101_4, HR101_4, HC101_5, HR101_5, HC101_6, HR101_6, p101, q101⟩ := el_T205 HR0 HB x3_1
      go_wp2_with (((with_reducible refine gate_callee (f := 225) rfl ?_);refine glB 17 rfl rfl Try.func225 (spec_WantOk.calls k1 _ _ ((rd_T205 l0 x3_1).f0.f0.f0) ((rd_T205 l0 x3_1).f0.f1) ((rd_T205 l0 x3_1).f0.f2) ((rd_T205 l0 x3_1).f0.f3) _ _ ((rd_T205 l0 x3_1).f0.f4.f0) _ _ ((rd_T205 l0 x3_1).f0.f5) _ _ ((rd_T205 l0 x3_1).f0.f6) ((rd_T205 l0 x3_1).f1) ((rd_T205 l0 x3_1).f2) false _ (cv HR101_0 HB) HC101_0.out (cv HR101_4 HB) HC101_4.out (cv HR101_5 HB) HC101_5.out (cv HR101_6 HB) HC101_6.out A5.out) (fun w8 hb => ?_);replace HB := b2 HB hb;(try clear hb)))
      go_ret
      exact ⟨o1, bw HB.out⟩
    ·obtain rfl := Option.some.inj H
     go_wp2
     go_ret
     exact ⟨o1, bw HB.out⟩

/-! ### spec_l4may: function 126 -/
mutual
def spec_l4may.j0 : Nat → Bool → Int → Bool → Int → Bool → Int → List (S200) → List (S33) → List (S33) → List (S33) → List (S205) → List (S205) → Option (Bool)
 | 0, _, _, _, _, _, _, _, _, _, _, _, _ => none
 | k + 1, x54, x102000, x102001, x102002, x102003, x102004, x102005, x102006, x102007, x102008, x102009, x102010 => if x54 = true then (some false) else ((spec_l4rrs.f k x102006).bind fun t110 => (if t110 = true then ((spec_l4rrs.f k x102007).bind fun t111 => (if t111 = true then ((spec_l4rrs.f k x102008).bind fun t112 => (if t112 = true then ((spec_l4wants.f k x102009).bind fun t113 => (if t113 = true then ((spec_l4wants.f k x102010).bind fun t114 => (spec_l4may.j1 k (!t114) x102000 x102001 x102002 x102003 x102004 x102005 x102006 x102007 x102008 x102009 x102010)) else (spec_l4may.j1 k true x102000 x102001 x102002 x102003 x102004 x102005 x102006 x102007 x102008 x102009 x102010))) else (spec_l4may.j1 k true x102000 x102001 x102002 x102003 x102004 x102005 x102006 x102007 x102008 x102009 x102010))) else (spec_l4may.j1 k true x102000 x102001 x102002 x102003 x102004 x102005 x102006 x102007 x102008 x102009 x102010))) else (spec_l4may.j1 k true x102000 x102001 x102002 x102003 x102004 x102005 x102006 x102007 x102008 x102009 x102010)))
def spec_l4may.j1 : Nat → Bool → Int → Bool → Int → Bool → Int → List (S200) → List (S33) → List (S33) → List (S33) → List (S205) → List (S205) → Option (Bool)
 | 0, _, _, _, _, _, _, _, _, _, _, _, _ => none
 | k + 1, x82, x102000, x102001, x102002, x102003, x102004, x102005, x102006, x102007, x102008, x102009, x102010 => if x82 = true then (some false) else (if x102002 = 0 then (if (x102009.length : Int) = 0 then (some ((x102010.length : Int) == 0)) else (some false)) else (if 0 < (x102005.length : Int) then (if ((rd_T200 x102005 0).f1) = 6 then (if (x102006.length : Int) = 0 then (if (x102007.length : Int) = 0 then (some ((x102008.length : Int) == 0)) else (some false)) else (some false)) else (some false)) else (none)))
end
def spec_l4may.f (k : Nat) (a0_0 : Int) (a0_1 : Bool) (a0_2 : Int) (a0_3 : Bool) (a0_4 : Int) (l0_5 : List (S200)) (l0_6 : List (S33)) (l0_7 : List (S33)) (l0_8 : List (S33)) (l0_9 : List (S205)) (l0_10 : List (S205)) : Option (Bool) := if a0_0 < 0 then (spec_l4may.j0 k true a0_0 a0_1 a0_2 a0_3 a0_4 l0_5 l0_6 l0_7 l0_8 l0_9 l0_10) else (if a0_0 > 65535 then (spec_l4may.j0 k true a0_0 a0_1 a0_2 a0_3 a0_4 l0_5 l0_6 l0_7 l0_8 l0_9 l0_10) else (if a0_2 = 0 then (if a0_4 < 0 then (spec_l4may.j0 k true a0_0 a0_1 a0_2 a0_3 a0_4 l0_5 l0_6 l0_7 l0_8 l0_9 l0_10) else (if a0_4 > 10 then (spec_l4may.j0 k true a0_0 a0_1 a0_2 a0_3 a0_4 l0_5 l0_6 l0_7 l0_8 l0_9 l0_10) else (if (l0_5.length : Int) = 1 then (if 0 < (l0_5.length : Int) then ((spec_NameOk.f k ((rd_T200 l0_5 0).f0.f0)).bind fun t103 => (if t103 = true then ((spec_l4asked.f ((rd_T200 l0_5 0).f1)).bind fun t105 => (spec_l4may.j0 k (!t105) a0_0 a0_1 a0_2 a0_3 a0_4 l0_5 l0_6 l0_7 l0_8 l0_9 l0_10)) else (spec_l4may.j0 k true a0_0 a0_1 a0_2 a0_3 a0_4 l0_5 l0_6 l0_7 l0_8 l0_9 l0_10))) else (none)) else (spec_l4may.j0 k true a0_0 a0_1 a0_2 a0_3 a0_4 l0_5 l0_6 l0_7 l0_8 l0_9 l0_10)))) else (if a0_2 = 5 then (if a0_4 < 0 then (spec_l4may.j0 k true a0_0 a0_1 a0_2 a0_3 a0_4 l0_5 l0_6 l0_7 l0_8 l0_9 l0_10) else (if a0_4 > 10 then (spec_l4may.j0 k true a0_0 a0_1 a0_2 a0_3 a0_4 l0_5 l0_6 l0_7 l0_8 l0_9 l0_10) else (if (l0_5.length : Int) = 1 then (if 0 < (l0_5.length : Int) then ((spec_NameOk.f k ((rd_T200 l0_5 0).f0.f0)).bind fun t107 => (if t107 = true then ((spec_l4asked.f ((rd_T200 l0_5 0).f1)).bind fun t109 => (spec_l4may.j0 k (!t109) a0_0 a0_1 a0_2 a0_3 a0_4 l0_5 l0_6 l0_7 l0_8 l0_9 l0_10)) else (spec_l4may.j0 k true a0_0 a0_1 a0_2 a0_3 a0_4 l0_5 l0_6 l0_7 l0_8 l0_9 l0_10))) else (none)) else (spec_l4may.j0 k true a0_0 a0_1 a0_2 a0_3 a0_4 l0_5 l0_6 l0_7 l0_8 l0_9 l0_10)))) else (spec_l4may.j0 k true a0_0 a0_1 a0_2 a0_3 a0_4 l0_5 l0_6 l0_7 l0_8 l0_9 l0_10))))
set_option maxHeartbeats 8000000 in
set_option maxRecDepth 100000 in
theorem spec_l4may.calls (k : Nat) (a0_0 : Int) (a0_1 : Bool) (a0_2 : Int) (a0_3 : Bool) (a0_4 : Int) (A0_5 : Option Addr) (c0_5 : Nat) (l0_5 : List (S200)) (A0_6 : Option Addr) (c0_6 : Nat) (l0_6 : List (S33)) (A0_7 : Option Addr) (c0_7 : Nat) (l0_7 : List (S33)) (A0_8 : Option Addr) (c0_8 : Nat) (l0_8 : List (S33)) (A0_9 : Option Addr) (c0_9 : Nat) (l0_9 : List (S205)) (A0_10 : Option Addr) (c0_10 : Nat) (l0_10 : List (S205)) (r : Bool) (w : World) (hr0_5 : Kd.C k200 w A0_5 l0_5.length l0_5) (hc0_5 : l0_5.length ≤ c0_5) (hr0_6 : Kd.C k33 w A0_6 l0_6.length l0_6) (hc0_6 : l0_6.length ≤ c0_6) (hr0_7 : Kd.C k33 w A0_7 l0_7.length l0_7) (hc0_7 : l0_7.length ≤ c0_7) (hr0_8 : Kd.C k33 w A0_8 l0_8.length l0_8) (hc0_8 : l0_8.length ≤ c0_8) (hr0_9 : Kd.C k205 w A0_9 l0_9.length l0_9) (hc0_9 : l0_9.length ≤ c0_9) (hr0_10 : Kd.C k205 w A0_10 l0_10.length l0_10) (hc0_10 : l0_10.length ≤ c0_10) (h : spec_l4may.f k a0_0 a0_1 a0_2 a0_3 a0_4 l0_5 l0_6 l0_7 l0_8 l0_9 l0_10 = some r) :
  Calls Try.prog 126 #[.agg #[.int .i64 a0_0, .bool a0_1, .int .i64 a0_2, .bool a0_3, .int .i64 a0_4, .slice A0_5 l0_5.length c0_5, .slice A0_6 l0_6.length c0_6, .slice A0_7 l0_7.length c0_7, .slice A0_8 l0_8.length c0_8, .slice A0_9 l0_9.length c0_9, .slice A0_10 l0_10.length c0_10]] w fun e w' => e = .returned (.bool r) ∧ Below w.heap.size w w' := by
 have hu92 := Try.underlying92
 have hu31 := Try.underlying31
 have HR0_5 := ak hr0_5
 have HC0_5 := ak hc0_5
 clear hr0_5 hc0_5
 have HR0_6 := ak hr0_6
 have HC0_6 := ak hc0_6
 clear hr0_6 hc0_6
 have HR0_7 := ak hr0_7
 have HC0_7 := ak hc0_7
 clear hr0_7 hc0_7
 have HR0_8 := ak hr0_8
 have HC0_8 := ak hc0_8
 clear hr0_8 hc0_8
 have HR0_9 := ak hr0_9
 have HC0_9 := ak hc0_9
 clear hr0_9 hc0_9
 have HR0_10 := ak hr0_10
 have HC0_10 := ak hc0_10
 clear hr0_10 hc0_10
 have HB := ak (Below.refl w.heap.size w)
 have H : (if a0_0 < 0 then (spec_l4may.j0 k true a0_0 a0_1 a0_2 a0_3 a0_4 l0_5 l0_6 l0_7 l0_8 l0_9 l0_10) else (if a0_0 > 65535 then (spec_l4may.j0 k true a0_0 a0_1 a0_2 a0_3 a0_4 l0_5 l0_6 l0_7 l0_8 l0_9 l0_10) else (if a0_2 = 0 then (if a0_4 < 0 then (spec_l4may.j0 k true a0_0 a0_1 a0_2 a0_3 a0_4 l0_5 l0_6 l0_7 l0_8 l0_9 l0_10) else (if a0_4 > 10 then (spec_l4may.j0 k true a0_0 a0_1 a0_2 a0_3 a0_4 l0_5 l0_6 l0_7 l0_8 l0_9 l0_10) else (if (l0_5.length : Int) = 1 then (if 0 < (l0_5.length : Int) then ((spec_NameOk.f k ((rd_T200 l0_5 0).f0.f0)).bind fun t103 => (if t103 = true then ((spec_l4asked.f ((rd_T200 l0_5 0).f1)).bind fun t105 => (spec_l4may.j0 k (!t105) a0_0 a0_1 a0_2 a0_3 a0_4 l0_5 l0_6 l0_7 l0_8 l0_9 l0_10)) else (spec_l4may.j0 k true a0_0 a0_1 a0_2 a0_3 a0_4 l0_5 l0_6 l0_7 l0_8 l0_9 l0_10))) else (none)) else (spec_l4may.j0 k true a0_0 a0_1 a0_2 a0_3 a0_4 l0_5 l0_6 l0_7 l0_8 l0_9 l0_10)))) else (if a0_2 = 5 then (if a0_4 < 0 then (spec_l4may.j0 k true a0_0 a0_1 a0_2 a0_3 a0_4 l0_5 l0_6 l0_7 l0_8 l0_9 l0_10) else (if a0_4 > 10 then (spec_l4may.j0 k true a0_0 a0_1 a0_2 a0_3 a0_4 l0_5 l0_6 l0_7 l0_8 l0_9 l0_10) else (if (l0_5.length : Int) = 1 then (if 0 < (l0_5.length : Int) then ((spec_NameOk.f k ((rd_T200 l0_5 0).f0.f0)).bind fun t107 => (if t107 = true then ((spec_l4asked.f ((rd_T200 l0_5 0).f1)).bind fun t109 => (spec_l4may.j0 k (!t109) a0_0 a0_1 a0_2 a0_3 a0_4 l0_5 l0_6 l0_7 l0_8 l0_9 l0_10)) else (spec_l4may.j0 k true a0_0 a0_1 a0_2 a0_3 a0_4 l0_5 l0_6 l0_7 l0_8 l0_9 l0_10))) else (none)) else (spec_l4may.j0 k true a0_0 a0_1 a0_2 a0_3 a0_4 l0_5 l0_6 l0_7 l0_8 l0_9 l0_10)))) else (spec_l4may.j0 k true a0_0 a0_1 a0_2 a0_3 a0_4 l0_5 l0_6 l0_7 l0_8 l0_9 l0_10))))) = some r := h
 clear h
 have HC2 := ak H
 clear H
 go_enter Try.func126, Try.ntmps126
 go_upto_region 1 with (((with_reducible refine gate_dst (N := 1) rfl ?_);(try (refine gate_guard (by rfl) ?_; dsimp only));refine bxd (N := 1) rfl HB ?_;clear HB;intro gb101 w3 hg HB BK101 GE101 hb;have GW101 := GE101;clear hb hg))
 (try simp only [Act.put, List.setIfInBounds_toArray, List.set_cons_zero, List.set_cons_succ])
 go_cut [54] (fun v54 wc => ∃ (kq : Nat) (x54_1 : Bool), v54 = .bool x54_1 ∧ Aside0 (spec_l4may.j0 kq x54_1 a0_0 a0_1 a0_2 a0_3 a0_4 l0_5 l0_6 l0_7 l0_8 l0_9 l0_10 = some r) ∧ Aside0 (kq ≤ k) ∧ Aside0 (wc.heap[gb101]? = some (.cells #[.int .i64 a0_0, .bool a0_1, .int .i64 a0_2, .bool a0_3, .int .i64 a0_4, (.slice A0_5 l0_5.length c0_5), (.slice A0_6 l0_6.length c0_6), (.slice A0_7 l0_7.length c0_7), (.slice A0_8 l0_8.length c0_8), (.slice A0_9 l0_9.length c0_9), (.slice A0_10 l0_10.length c0_10)] 92 (0, 0))) ∧ Aside0 (Below w.heap.size w wc))
 case first =>
  have H := HC2.out
  clear HC2
  replace H := ip H
  obtain ⟨c4b0, H⟩ | ⟨c4b0, H⟩ := H
  ·(first | rw [c4b0] | (simp only [i64_w, i32_w]; rw [c4b0]) | skip)
   have H' := ak H
   clear H
   obtain ⟨hcz5_0, hcz5_1, hcz5_2, hcz5_3, hcz5_4, hcz5_5, hcz5_6, hcz5_7, hcz5_8, hcz5_9, hcz5_10, hfz5_0, hfz5_1, hfz5_2, hfz5_3, hfz5_4, hfz5_5, hfz5_6, hfz5_7, hfz5_8, hfz5_9, hfz5_10⟩ := cells11 BK101.out
   go_wp2
   go_meet
   case rel => exact ⟨_, (true), o2, H', ⟨o3⟩, ⟨bk BK101.out⟩, ⟨bs⟩⟩
  ·(first | rw [c4b0] | (simp only [i64_w, i32_w]; rw [c4b0]) | skip)
   replace H := ig H
   obtain ⟨c6b0, H⟩ | ⟨c6b0, H⟩ := H
   ·have H' := ak H
    clear H
    obtain ⟨hcz7_0, hcz7_1, hcz7_2, hcz7_3, hcz7_4, hcz7_5, hcz7_6, hcz7_7, hcz7_8, hcz7_9, hcz7_10, hfz7_0, hfz7_1, hfz7_2, hfz7_3, hfz7_4, hfz7_5, hfz7_6, hfz7_7, hfz7_8, hfz7_9, hfz7_10⟩ := cells11 BK101.out
    go_wp2
    go_meet
    case rel => exact ⟨_, (true), o2, H', ⟨o3⟩, ⟨bk BK101.out⟩, ⟨bs⟩⟩
   ·replace H := ie H
    obtain ⟨c8b0, c8b1, H⟩ | ⟨c8b0, c8b1, H⟩ := H
    ·replace H := ip H
     obtain ⟨c9b0, H⟩ | ⟨c9b0, H⟩ := H
     ·have H' := ak H
      clear H
      obtain ⟨hcz10_0, hcz10_1, hcz10_2, hcz10_3, hcz10_4, hcz10_5, hcz10_6, hcz10_7, hcz10_8, hcz10_9, hcz10_10, hfz10_0, hfz10_1, hfz10_2, hfz10_3, hfz10_4, hfz10_5, hfz10_6, hfz10_7, hfz10_8, hfz10_9, hfz10_10⟩ := cells11 BK101.out
      go_wp2
      go_meet
      case rel => exact ⟨_, (true), o2, H', ⟨o3⟩, ⟨bk BK101.out⟩, ⟨bs⟩⟩
     ·replace H := ig H
      obtain ⟨c11b0, H⟩ | ⟨c11b0, H⟩ := H
      ·have H' := ak H
       clear H
       obtain ⟨hcz12_0, hcz12_1, hcz12_2, hcz12_3, hcz12_4, hcz12_5, hcz12_6, hcz12_7, hcz12_8, hcz12_9, hcz12_10, hfz12_0, hfz12_1, hfz12_2, hfz12_3, hfz12_4, hfz12_5, hfz12_6, hfz12_7, hfz12_8, hfz12_9, hfz12_10⟩ := cells11 BK101.out
       go_wp2
       go_meet
       case rel => exact ⟨_, (true), o2, H', ⟨o3⟩, ⟨bk BK101.out⟩, ⟨bs⟩⟩
      ·replace H := ie H
       obtain ⟨c13b0, c13b1, H⟩ | ⟨c13b0, c13b1, H⟩ := H
       ·replace H := ipN H
        obtain ⟨c14b0, H⟩ := H
        have c14b1 : decide (0 < l0_5.length) = true := decide_eq_true (by have := of_decide_eq_true c14b0; omega)
        replace H := bnd H
        obtain ⟨t103, A15, H⟩ := H
        replace H := ib H
        obtain ⟨rfl, H⟩ | ⟨rfl, H⟩ := H
        ·replace H := bnd H
         obtain ⟨t105, A17, H⟩ := H
         have H' := ak H
         clear H
         obtain ⟨hcz18_0, hcz18_1, hcz18_2, hcz18_3, hcz18_4, hcz18_5, hcz18_6, hcz18_7, hcz18_8, hcz18_9, hcz18_10, hfz18_0, hfz18_1, hfz18_2, hfz18_3, hfz18_4, hfz18_5, hfz18_6, hfz18_7, hfz18_8, hfz18_9, hfz18_10⟩ := cells11 BK101.out
         have p102 : 0 ≤ (0 : Int) := (by omega)
         have q102 : 0 < (l0_5.length : Int) := of_decide_eq_true (by first | (with_reducible assumption) | assumption)
         obtain ⟨ad102, A102_0, c102_0, e102, hx102_0, hx102_1, hl102_0, hi102_0⟩ := at_T200 HR0_5.out 0 p102 q102
         cases e102
         have qi102 : (0 < l0_5.length) = True := eq_true (by omega)
         (try rw [show ((0 : Int)).toNat = 0 from rfl] at hx102_0)
         (try rw [show 0 * 2 = 0 from rfl] at hx102_0)
         (try rw [Addr.add_zero'] at hx102_0)
         (try rw [show ((0 : Int)).toNat = 0 from rfl] at hx102_1)
         (try rw [show 0 * 2 = 0 from rfl] at hx102_1)
         (try rw [Addr.add_zero'] at hx102_1)
         replace hx102_0 := pw_cell_below HB.out hx102_0
         replace hx102_1 := pw_cell_below HB.out hx102_1
         have HR102_0 := ak hi102_0
         have HC102_0 := ak hl102_0
         clear hi102_0 hl102_0
         replace p102 := eq_true p102
         replace q102 := eq_true q102
         go_wp2_with (first | (go_at_call 76;(with_reducible refine (spec_NameOk.calls k _ _ ((rd_T200 l0_5 0).f0.f0) true _ (cv HR102_0 HB) HC102_0.out A15.out).mono ?_);rintro e w19 ⟨rfl, hb⟩;replace BK101 := b1 BK101 hb;replace HB := b2s bs hb;(try clear hb);obtain ⟨hcz20_0, hcz20_1, hcz20_2, hcz20_3, hcz20_4, hcz20_5, hcz20_6, hcz20_7, hcz20_8, hcz20_9, hcz20_10, hfz20_0, hfz20_1, hfz20_2, hfz20_3, hfz20_4, hfz20_5, hfz20_6, hfz20_7, hfz20_8, hfz20_9, hfz20_10⟩ := cells11 BK101.out;have p104 : 0 ≤ (0 : Int) := (by omega);have q104 : 0 < (l0_5.length : Int) := of_decide_eq_true (by first | (with_reducible assumption) | assumption);obtain ⟨ad104, A104_0, c104_0, e104, hx104_0, hx104_1, hl104_0, hi104_0⟩ := at_T200 HR0_5.out 0 p104 q104;obtain rfl : ad102 = ad104 := (by injection e104);have qi104 : (0 < l0_5.length) = True := eq_true (by omega);(try rw [show ((0 : Int)).toNat = 0 from rfl] at hx104_0);(try rw [show 0 * 2 = 0 from rfl] at hx104_0);(try rw [Addr.add_zero'] at hx104_0);(try rw [show ((0 : Int)).toNat = 0 from rfl] at hx104_1);(try rw [show 0 * 2 = 0 from rfl] at hx104_1);(try rw [Addr.add_zero'] at hx104_1);replace hx104_0 := pw_cell_below HB.out hx104_0;replace hx104_1 := pw_cell_below HB.out hx104_1;have HR104_0 := ak hi104_0;have HC104_0 := ak hl104_0;clear hi104_0 hl104_0;replace p104 := eq_true p104;replace q104 := eq_true q104) | (go_at_call 188;(with_reducible refine (spec_l4asked.calls ((rd_T200 l0_5 0).f1) t105 _ A17.out).mono ?_);rintro e w' ⟨rfl, ⟨nd, rfl⟩⟩))
         go_meet
         case rel => exact ⟨_, (!t105), o2, H', ⟨o3⟩, ⟨bk BK101.out⟩, ⟨bs⟩⟩
        ·have H' := ak H
         clear H
         obtain ⟨hcz21_0, hcz21_1, hcz21_2, hcz21_3, hcz21_4, hcz21_5, hcz21_6, hcz21_7, hcz21_8, hcz21_9, hcz21_10, hfz21_0, hfz21_1, hfz21_2, hfz21_3, hfz21_4, hfz21_5, hfz21_6, hfz21_7, hfz21_8, hfz21_9, hfz21_10⟩ := cells11 BK101.out
         have p102 : 0 ≤ (0 : Int) := (by omega)
         have q102 : 0 < (l0_5.length : Int) := of_decide_eq_true (by first | (with_reducible assumption) | assumption)
         obtain ⟨ad102, A102_0, c102_0, e102, hx102_0, hx102_1, hl102_0, hi102_0⟩ := at_T200 HR0_5.out 0 p102 q102
         cases e102
         have qi102 : (0 < l0_5.length) = True := eq_true (by omega)
         (try rw [show ((0 : Int)).toNat = 0 from rfl] at hx102_0)
         (try rw [show 0 * 2 = 0 from rfl] at hx102_0)
         (try rw [Addr.add_zero'] at hx102_0)
         (try rw [show ((0 : Int)).toNat = 0 from rfl] at hx102_1)
         (try rw [show 0 * 2 = 0 from rfl] at hx102_1)
         (try rw [Addr.add_zero'] at hx102_1)
         replace hx102_0 := pw_cell_below HB.out hx102_0
         replace hx102_1 := pw_cell_below HB.out hx102_1
         have HR102_0 := ak hi102_0
         have HC102_0 := ak hl102_0
         clear hi102_0 hl102_0
         replace p102 := eq_true p102
         replace q102 := eq_true q102
         go_wp2_with ((go_at_call 76;(with_reducible refine (spec_NameOk.calls k _ _ ((rd_T200 l0_5 0).f0.f0) false _ (cv HR102_0 HB) HC102_0.out A15.out).mono ?_);rintro e w22 ⟨rfl, hb⟩;replace BK101 := b1 BK101 hb;replace HB := b2s bs hb;(try clear hb)))
         go_meet
         case rel => exact ⟨_, (true), o2, H', ⟨o3⟩, ⟨bk BK101.out⟩, ⟨bs⟩⟩
       ·have H' := ak H
        clear H
        obtain ⟨hcz23_0, hcz23_1, hcz23_2, hcz23_3, hcz23_4, hcz23_5, hcz23_6, hcz23_7, hcz23_8, hcz23_9, hcz23_10, hfz23_0, hfz23_1, hfz23_2, hfz23_3, hfz23_4, hfz23_5, hfz23_6, hfz23_7, hfz23_8, hfz23_9, hfz23_10⟩ := cells11 BK101.out
        go_wp2
        go_meet
        case rel => exact ⟨_, (true), o2, H', ⟨o3⟩, ⟨bk BK101.out⟩, ⟨bs⟩⟩
    ·replace H := ie H
     obtain ⟨c24b0, c24b1, H⟩ | ⟨c24b0, c24b1, H⟩ := H
     ·replace H := ip H
      obtain ⟨c25b0, H⟩ | ⟨c25b0, H⟩ := H
      ·have H' := ak H
       clear H
       obtain ⟨hcz26_0, hcz26_1, hcz26_2, hcz26_3, hcz26_4, hcz26_5, hcz26_6, hcz26_7, hcz26_8, hcz26_9, hcz26_10, hfz26_0, hfz26_1, hfz26_2, hfz26_3, hfz26_4, hfz26_5, hfz26_6, hfz26_7, hfz26_8, hfz26_9, hfz26_10⟩ := cells11 BK101.out
       go_wp2
       go_meet
       case rel => exact ⟨_, (true), o2, H', ⟨o3⟩, ⟨bk BK101.out⟩, ⟨bs⟩⟩
      ·replace H := ig H
       obtain ⟨c27b0, H⟩ | ⟨c27b0, H⟩ := H
       ·have H' := ak H
        clear H
        obtain ⟨hcz28_0, hcz28_1, hcz28_2, hcz28_3, hcz28_4, hcz28_5, hcz28_6, hcz28_7, hcz28_8, hcz28_9, hcz28_10, hfz28_0, hfz28_1, hfz28_2, hfz28_3, hfz28_4, hfz28_5, hfz28_6, hfz28_7, hfz28_8, hfz28_9, hfz28_10⟩ := cells11 BK101.out
        go_wp2
        go_meet
        case rel => exact ⟨_, (true), o2, H', ⟨o3⟩, ⟨bk BK101.out⟩, ⟨bs⟩⟩
       ·replace H := ie H
        obtain ⟨c29b0, c29b1, H⟩ | ⟨c29b0, c29b1, H⟩ := H
        ·replace H := ipN H
         obtain ⟨c30b0, H⟩ := H
         have c30b1 : decide (0 < l0_5.length) = true := decide_eq_true (by have := of_decide_eq_true c30b0; omega)
         replace H := bnd H
         obtain ⟨t107, A31, H⟩ := H
         replace H := ib H
         obtain ⟨rfl, H⟩ | ⟨rfl, H⟩ := H
         ·replace H := bnd H
          obtain ⟨t109, A33, H⟩ := H
          have H' := ak H
          clear H
          obtain ⟨hcz34_0, hcz34_1, hcz34_2, hcz34_3, hcz34_4, hcz34_5, hcz34_6, hcz34_7, hcz34_8, hcz34_9, hcz34_10, hfz34_0, hfz34_1, hfz34_2, hfz34_3, hfz34_4, hfz34_5, hfz34_6, hfz34_7, hfz34_8, hfz34_9, hfz34_10⟩ := cells11 BK101.out
          have p106 : 0 ≤ (0 : Int) := (by omega)
          have q106 : 0 < (l0_5.length : Int) := of_decide_eq_true (by first | (with_reducible assumption) | assumption)
          obtain ⟨ad106, A106_0, c106_0, e106, hx106_0, hx106_1, hl106_0, hi106_0⟩ := at_T200 HR0_5.out 0 p106 q106
          cases e106
          have qi106 : (0 < l0_5.length) = True := eq_true (by omega)
          (try rw [show ((0 : Int)).toNat = 0 from rfl] at hx106_0)
          (try rw [show 0 * 2 = 0 from rfl] at hx106_0)
          (try rw [Addr.add_zero'] at hx106_0)
          (try rw [show ((0 : Int)).toNat = 0 from rfl] at hx106_1)
          (try rw [show 0 * 2 = 0 from rfl] at hx106_1)
          (try rw [Addr.add_zero'] at hx106_1)
          replace hx106_0 := pw_cell_below HB.out hx106_0
          replace hx106_1 := pw_cell_below HB.out hx106_1
          have HR106_0 := ak hi106_0
          have HC106_0 := ak hl106_0
          clear hi106_0 hl106_0
          replace p106 := eq_true p106
          replace q106 := eq_true q106
          go_wp2_with (first | (go_at_call 76;(with_reducible refine (spec_NameOk.calls k _ _ ((rd_T200 l0_5 0).f0.f0) true _ (cv HR106_0 HB) HC106_0.out A31.out).mono ?_);rintro e w35 ⟨rfl, hb⟩;replace BK101 := b1 BK101 hb;replace HB := b2s bs hb;(try clear hb);obtain ⟨hcz36_0, hcz36_1, hcz36_2, hcz36_3, hcz36_4, hcz36_5, hcz36_6, hcz36_7, hcz36_8, hcz36_9, hcz36_10, hfz36_0, hfz36_1, hfz36_2, hfz36_3, hfz36_4, hfz36_5, hfz36_6, hfz36_7, hfz36_8, hfz36_9, hfz36_10⟩ := cells11 BK101.out;have p108 : 0 ≤ (0 : Int) := (by omega);have q108 : 0 < (l0_5.length : Int) := of_decide_eq_true (by first | (with_reducible assumption) | assumption);obtain ⟨ad108, A108_0, c108_0, e108, hx108_0, hx108_1, hl108_0, hi108_0⟩ := at_T200 HR0_5.out 0 p108 q108;obtain rfl : ad106 = ad108 := (by injection e108);have qi108 : (0 < l0_5.length) = True := eq_true (by omega);(try rw [show ((0 : Int)).toNat = 0 from rfl] at hx108_0);(try rw [show 0 * 2 = 0 from rfl] at hx108_0);(try rw [Addr.add_zero'] at hx108_0);(try rw [show ((0 : Int)).toNat = 0 from rfl] at hx108_1);(try rw [show 0 * 2 = 0 from rfl] at hx108_1);(try rw [Addr.add_zero'] at hx108_1);replace hx108_0 := pw_cell_below HB.out hx108_0;replace hx108_1 := pw_cell_below HB.out hx108_1;have HR108_0 := ak hi108_0;have HC108_0 := ak hl108_0;clear hi108_0 hl108_0;replace p108 := eq_true p108;replace q108 := eq_true q108) | (go_at_call 188;(with_reducible refine (spec_l4asked.calls ((rd_T200 l0_5 0).f1) t109 _ A33.out).mono ?_);rintro e w' ⟨rfl, ⟨nd, rfl⟩⟩))
          go_meet
          case rel => exact ⟨_, (!t109), o2, H', ⟨o3⟩, ⟨bk BK101.out⟩, ⟨bs⟩⟩
         ·have H' := ak H
          clear H
          obtain ⟨hcz37_0, hcz37_1, hcz37_2, hcz37_3, hcz37_4, hcz37_5, hcz37_6, hcz37_7, hcz37_8, hcz37_9, hcz37_10, hfz37_0, hfz37_1, hfz37_2, hfz37_3, hfz37_4, hfz37_5, hfz37_6, hfz37_7, hfz37_8, hfz37_9, hfz37_10⟩ := cells11 BK101.out
          have p106 : 0 ≤ (0 : Int) := (by omega)
          have q106 : 0 < (l0_5.length : Int) := of_decide_eq_true (by first | (with_reducible assumption) | assumption)
          obtain ⟨ad106, A106_0, c106_0, e106, hx106_0, hx106_1, hl106_0, hi106_0⟩ := at_T200 HR0_5.out 0 p106 q106
          cases e106
          have qi106 : (0 < l0_5.length) = True := eq_true (by omega)
          (try rw [show ((0 : Int)).toNat = 0 from rfl] at hx106_0)
          (try rw [show 0 * 2 = 0 from rfl] at hx106_0)
          (try rw [Addr.add_zero'] at hx106_0)
          (try rw [show ((0 : Int)).toNat = 0 from rfl] at hx106_1)
          (try rw [show 0 * 2 = 0 from rfl] at hx106_1)
          (try rw [Addr.add_zero'] at hx106_1)
          replace hx106_0 := pw_cell_below HB.out hx106_0
          replace hx106_1 := pw_cell_below HB.out hx106_1
          have HR106_0 := ak hi106_0
          have HC106_0 := ak hl106_0
          clear hi106_0 hl106_0
          replace p106 := eq_true p106
          replace q106 := eq_true q106
          go_wp2_with ((go_at_call 76;(with_reducible refine (spec_NameOk.calls k _ _ ((rd_T200 l0_5 0).f0.f0) false _ (cv HR106_0 HB) HC106_0.out A31.out).mono ?_);rintro e w38 ⟨rfl, hb⟩;replace BK101 := b1 BK101 hb;replace HB := b2s bs hb;(try clear hb)))
          go_meet
          case rel => exact ⟨_, (true), o2, H', ⟨o3⟩, ⟨bk BK101.out⟩, ⟨bs⟩⟩
        ·have H' := ak H
         clear H
         obtain ⟨hcz39_0, hcz39_1, hcz39_2, hcz39_3, hcz39_4, hcz39_5, hcz39_6, hcz39_7, hcz39_8, hcz39_9, hcz39_10, hfz39_0, hfz39_1, hfz39_2, hfz39_3, hfz39_4, hfz39_5, hfz39_6, hfz39_7, hfz39_8, hfz39_9, hfz39_10⟩ := cells11 BK101.out
         go_wp2
         go_meet
         case rel => exact ⟨_, (true), o2, H', ⟨o3⟩, ⟨bk BK101.out⟩, ⟨bs⟩⟩
     ·have H' := ak H
      clear H
      obtain ⟨hcz40_0, hcz40_1, hcz40_2, hcz40_3, hcz40_4, hcz40_5, hcz40_6, hcz40_7, hcz40_8, hcz40_9, hcz40_10, hfz40_0, hfz40_1, hfz40_2, hfz40_3, hfz40_4, hfz40_5, hfz40_6, hfz40_7, hfz40_8, hfz40_9, hfz40_10⟩ := cells11 BK101.out
      go_wp2
      go_meet
      case rel => exact ⟨_, (true), o2, H', ⟨o3⟩, ⟨bk BK101.out⟩, ⟨bs⟩⟩
 case rest =>
  clear HC2
  obtain ⟨kq, x54_1, rfl, HA, HJ1, BK101, HB⟩ := hcut
  cases kq with
  | zero => exact absurd HA.out (by simp [spec_l4may.j0])
  | succ kj1 =>
   have H := HA.out
   clear HA
   simp only [spec_l4may.j0] at H
   replace H := ib H
   obtain ⟨rfl, H⟩ | ⟨rfl, H⟩ := H
   ·obtain rfl := Option.some.inj H
    go_wp2
    go_ret
    exact ⟨o1, bs⟩
   ·have HC42 := ak H
    clear H
    go_upto_region 3 with (fail)
    go_cut [82] (fun v82 wc => ∃ (kq : Nat) (x82_41 : Bool), v82 = .bool x82_41 ∧ Aside0 (spec_l4may.j1 kq x82_41 a0_0 a0_1 a0_2 a0_3 a0_4 l0_5 l0_6 l0_7 l0_8 l0_9 l0_10 = some r) ∧ Aside0 (kq ≤ kj1) ∧ Aside0 (wc.heap[gb101]? = some (.cells #[.int .i64 a0_0, .bool a0_1, .int .i64 a0_2, .bool a0_3, .int .i64 a0_4, (.slice A0_5 l0_5.length c0_5), (.slice A0_6 l0_6.length c0_6), (.slice A0_7 l0_7.length c0_7), (.slice A0_8 l0_8.length c0_8), (.slice A0_9 l0_9.length c0_9), (.slice A0_10 l0_10.length c0_10)] 92 (0, 0))) ∧ Aside0 (Below w.heap.size w wc))
    case first =>
     have H := HC42.out
     clear HC42
     replace H := bnd H
     obtain ⟨t110, A43, H⟩ := H
     replace H := ib H
     obtain ⟨rfl, H⟩ | ⟨rfl, H⟩ := H
     ·replace H := bnd H
      obtain ⟨t111, A45, H⟩ := H
      replace H := ib H
      obtain ⟨rfl, H⟩ | ⟨rfl, H⟩ := H
      ·replace H := bnd H
       obtain ⟨t112, A47, H⟩ := H
       replace H := ib H
       obtain ⟨rfl, H⟩ | ⟨rfl, H⟩ := H
       ·replace H := bnd H
        obtain ⟨t113, A49, H⟩ := H
        replace H := ib H
        obtain ⟨rfl, H⟩ | ⟨rfl, H⟩ := H
        ·replace H := bnd H
         obtain ⟨t114, A51, H⟩ := H
         have H' := ak H
         clear H
         obtain ⟨hcz52_0, hcz52_1, hcz52_2, hcz52_3, hcz52_4, hcz52_5, hcz52_6, hcz52_7, hcz52_8, hcz52_9, hcz52_10, hfz52_0, hfz52_1, hfz52_2, hfz52_3, hfz52_4, hfz52_5, hfz52_6, hfz52_7, hfz52_8, hfz52_9, hfz52_10⟩ := cells11 BK101.out
         go_wp2_with (first | ((with_reducible refine gate_callee (f := 189) rfl ?_);refine glB 57 rfl rfl Try.func189 (spec_l4rrs.calls kj1 _ _ l0_6 true _ (cv HR0_6 HB) HC0_6.out A43.out) (fun w53 hb => ?_);replace BK101 := b1 BK101 hb;replace HB := b2s bs hb;(try clear hb);obtain ⟨hcz54_0, hcz54_1, hcz54_2, hcz54_3, hcz54_4, hcz54_5, hcz54_6, hcz54_7, hcz54_8, hcz54_9, hcz54_10, hfz54_0, hfz54_1, hfz54_2, hfz54_3, hfz54_4, hfz54_5, hfz54_6, hfz54_7, hfz54_8, hfz54_9, hfz54_10⟩ := cells11 BK101.out) | (go_at_call 189;(with_reducible refine (spec_l4rrs.calls kj1 _ _ l0_7 true _ (cv HR0_7 HB) HC0_7.out A45.out).mono ?_);rintro e w55 ⟨rfl, hb⟩;replace BK101 := b1 BK101 hb;replace HB := b2s bs hb;(try clear hb);obtain ⟨hcz56_0, hcz56_1, hcz56_2, hcz56_3, hcz56_4, hcz56_5, hcz56_6, hcz56_7, hcz56_8, hcz56_9, hcz56_10, hfz56_0, hfz56_1, hfz56_2, hfz56_3, hfz56_4, hfz56_5, hfz56_6, hfz56_7, hfz56_8, hfz56_9, hfz56_10⟩ := cells11 BK101.out) | (go_at_call 189;(with_reducible refine (spec_l4rrs.calls kj1 _ _ l0_8 true _ (cv HR0_8 HB) HC0_8.out A47.out).mono ?_);rintro e w57 ⟨rfl, hb⟩;replace BK101 := b1 BK101 hb;replace HB := b2s bs hb;(try clear hb);obtain ⟨hcz58_0, hcz58_1, hcz58_2, hcz58_3, hcz58_4, hcz58_5, hcz58_6, hcz58_7, hcz58_8, hcz58_9, hcz58_10, hfz58_0, hfz58_1, hfz58_2, hfz58_3, hfz58_4, hfz58_5, hfz58_6, hfz58_7, hfz58_8, hfz58_9, hfz58_10⟩ := cells11 BK101.out) | (go_at_call 190;(with_reducible refine (spec_l4wants.calls kj1 _ _ l0_9 true _ (cv HR0_9 HB) HC0_9.out A49.out).mono ?_);rintro e w59 ⟨rfl, hb⟩;replace BK101 := b1 BK101 hb;replace HB := b2s bs hb;(try clear hb);obtain ⟨hcz60_0, hcz60_1, hcz60_2, hcz60_3, hcz60_4, hcz60_5, hcz60_6, hcz60_7, hcz60_8, hcz60_9, hcz60_10, hfz60_0, hfz60_1, hfz60_2, hfz60_3, hfz60_4, hfz60_5, hfz60_6, hfz60_7, hfz60_8, hfz60_9, hfz60_10⟩ := cells11 BK101.out) | (go_at_call 190;(with_reducible refine (spec_l4wants.calls kj1 _ _ l0_10 t114 _ (cv HR0_10 HB) HC0_10.out A51.out).mono ?_);rintro e w61 ⟨rfl, hb⟩;replace BK101 := b1 BK101 hb;replace HB := b2s bs hb;(try clear hb)))
         go_meet
         case rel => exact ⟨_, (!t114), o2, H', ⟨by have := HJ1.out; first | omega | exact Nat.le_refl _⟩, ⟨bk BK101.out⟩, ⟨bs⟩⟩
        ·have H' := ak H
         clear H
         obtain ⟨hcz62_0, hcz62_1, hcz62_2, hcz62_3, hcz62_4, hcz62_5, hcz62_6, hcz62_7, hcz62_8, hcz62_9, hcz62_10, hfz62_0, hfz62_1, hfz62_2, hfz62_3, hfz62_4, hfz62_5, hfz62_6, hfz62_7, hfz62_8, hfz62_9, hfz62_10⟩ := cells11 BK101.out
         go_wp2_with (first | ((with_reducible refine gate_callee (f := 189) rfl ?_);refine glB 57 rfl rfl Try.func189 (spec_l4rrs.calls kj1 _ _ l0_6 true _ (cv HR0_6 HB) HC0_6.out A43.out) (fun w63 hb => ?_);replace BK101 := b1 BK101 hb;replace HB := b2s bs hb;(try clear hb);obtain ⟨hcz64_0, hcz64_1, hcz64_2, hcz64_3, hcz64_4, hcz64_5, hcz64_6, hcz64_7, hcz64_8, hcz64_9, hcz64_10, hfz64_0, hfz64_1, hfz64_2, hfz64_3, hfz64_4, hfz64_5, hfz64_6, hfz64_7, hfz64_8, hfz64_9, hfz64_10⟩ := cells11 BK101.out) | (go_at_call 189;(with_reducible refine (spec_l4rrs.calls kj1 _ _ l0_7 true _ (cv HR0_7 HB) HC0_7.out A45.out).mono ?_);rintro e w65 ⟨rfl, hb⟩;replace BK101 := b1 BK101 hb;replace HB := b2s bs hb;(try clear hb);obtain ⟨hcz66_0, hcz66_1, hcz66_2, hcz66_3, hcz66_4, hcz66_5, hcz66_6, hcz66_7, hcz66_8, hcz66_9, hcz66_10, hfz66_0, hfz66_1, hfz66_2, hfz66_3, hfz66_4, hfz66_5, hfz66_6, hfz66_7, hfz66_8, hfz66_9, hfz66_10⟩ := cells11 BK101.out) | (go_at_call 189;(with_reducible refine (spec_l4rrs.calls kj1 _ _ l0_8 true _ (cv HR0_8 HB) HC0_8.out A47.out).mono ?_);rintro e w67 ⟨rfl, hb⟩;replace BK101 := b1 BK101 hb;replace HB := b2s bs hb;(try clear hb);obtain ⟨hcz68_0, hcz68_1, hcz68_2, hcz68_3, hcz68_4, hcz68_5, hcz68_6, hcz68_7, hcz68_8, hcz68_9, hcz68_10, hfz68_0, hfz68_1, hfz68_2, hfz68_3, hfz68_4, hfz68_5, hfz68_6, hfz68_7, hfz68_8, hfz68_9, hfz68_10⟩ := cells11 BK101.out) | (go_at_call 190;(with_reducible refine (spec_l4wants.calls kj1 _ _ l0_9 false _ (cv HR0_9 HB) HC0_9.out A49.out).mono ?_);rintro e w69 ⟨rfl, hb⟩;replace BK101 := b1 BK101 hb;replace HB := b2s bs hb;(try clear hb)))
         go_meet
         case rel => exact ⟨_, (true), o2, H', ⟨by have := HJ1.out; first | omega | exact Nat.le_refl _⟩, ⟨bk BK101.out⟩, ⟨bs⟩⟩
       ·have H' := ak H
        clear H
        obtain ⟨hcz70_0, hcz70_1, hcz70_2, hcz70_3, hcz70_4, hcz70_5, hcz70_6, hcz70_7, hcz70_8, hcz70_9, hcz70_10, hfz70_0, hfz70_1, hfz70_2, hfz70_3, hfz70_4, hfz70_5, hfz70_6, hfz70_7, hfz70_8, hfz70_9, hfz70_10⟩ := cells11 BK101.out
        go_wp2_with (first | ((with_reducible refine gate_callee (f := 189) rfl ?_);refine glB 57 rfl rfl Try.func189 (spec_l4rrs.calls kj1 _ _ l0_6 true _ (cv HR0_6 HB) HC0_6.out A43.out) (fun w71 hb => ?_);replace BK101 := b1 BK101 hb;replace HB := b2s bs hb;(try clear hb);obtain ⟨hcz72_0, hcz72_1, hcz72_2, hcz72_3, hcz72_4, hcz72_5, hcz72_6, hcz72_7, hcz72_8, hcz72_9, hcz72_10, hfz72_0, hfz72_1, hfz72_2, hfz72_3, hfz72_4, hfz72_5, hfz72_6, hfz72_7, hfz72_8, hfz72_9, hfz72_10⟩ := cells11 BK101.out) | (go_at_call 189;(with_reducible refine (spec_l4rrs.calls kj1 _ _ l0_7 true _ (cv HR0_7 HB) HC0_7.out A45.out).mono ?_);rintro e w73 ⟨rfl, hb⟩;replace BK101 := b1 BK101 hb;replace HB := b2s bs hb;(try clear hb);obtain ⟨hcz74_0, hcz74_1, hcz74_2, hcz74_3, hcz74_4, hcz74_5, hcz74_6, hcz74_7, hcz74_8, hcz74_9, hcz74_10, hfz74_0, hfz74_1, hfz74_2, hfz74_3, hfz74_4, hfz74_5, hfz74_6, hfz74_7, hfz74_8, hfz74_9, hfz74_10⟩ := cells11 BK101.out) | (go_at_call 189;(with_reducible refine (spec_l4rrs.calls kj1 _ _ l0_8 false _ (cv HR0_8 HB) HC0_8.out A47.out).mono ?_);rintro e w75 ⟨rfl, hb⟩;replace BK101 := b1 BK101 hb;replace HB := b2s bs hb;(try clear hb)))
        go_meet
        case rel => exact ⟨_, (true), o2, H', ⟨by have := HJ1.out; first | omega | exact Nat.le_refl _⟩, ⟨bk BK101.out⟩, ⟨bs⟩⟩
      ·have H' := ak H
       clear H
       obtain ⟨hcz76_0, hcz76_1, hcz76_2, hcz76_3, hcz76_4, hcz76_5, hcz76_6, hcz76_7, hcz76_8, hcz76_9, hcz76_10, hfz76_0, hfz76_1, hfz76_2, hfz76_3, hfz76_4, hfz76_5, hfz76_6, hfz76_7, hfz76_8, hfz76_9, hfz76_10⟩ := cells11 BK101.out
       go_wp2_with (first | ((with_reducible refine gate_callee (f := 189) rfl ?_);refine glB 57 rfl rfl Try.func189 (spec_l4rrs.calls kj1 _ _ l0_6 true _ (cv HR0_6 HB) HC0_6.out A43.out) (fun w77 hb => ?_);replace BK101 := b1 BK101 hb;replace HB := b2s bs hb;(try clear hb);obtain ⟨hcz78_0, hcz78_1, hcz78_2, hcz78_3, hcz78_4, hcz78_5, hcz78_6, hcz78_7, hcz78_8, hcz78_9, hcz78_10, hfz78_0, hfz78_1, hfz78_2, hfz78_3, hfz78_4, hfz78_5, hfz78_6, hfz78_7, hfz78_8, hfz78_9, hfz78_10⟩ := cells11 BK101.out) | (go_at_call 189;(with_reducible refine (spec_l4rrs.calls kj1 _ _ l0_7 false _ (cv HR0_7 HB) HC0_7.out A45.out).mono ?_);rintro e w79 ⟨rfl, hb⟩;replace BK101 := b1 BK101 hb;replace HB := b2s bs hb;(try clear hb)))
       go_meet
       case rel => exact ⟨_, (true), o2, H', ⟨by have := HJ1.out; first | omega | exact Nat.le_refl _⟩, ⟨bk BK101.out⟩, ⟨bs⟩⟩
     ·have H' := ak H
      clear H
      obtain ⟨hcz80_0, hcz80_1, hcz80_2, hcz80_3, hcz80_4, hcz80_5, hcz80_6, hcz80_7, hcz80_8, hcz80_9, hcz80_10, hfz80_0, hfz80_1, hfz80_2, hfz80_3, hfz80_4, hfz80_5, hfz80_6, hfz80_7, hfz80_8, hfz80_9, hfz80_10⟩ := cells11 BK101.out
      go_wp2_with (((with_reducible refine gate_callee (f := 189) rfl ?_);refine glB 57 rfl rfl Try.func189 (spec_l4rrs.calls kj1 _ _ l0_6 false _ (cv HR0_6 HB) HC0_6.out A43.out) (fun w81 hb => ?_);replace BK101 := b1 BK101 hb;replace HB := b2s bs hb;(try clear hb)))
      go_meet
      case rel => exact ⟨_, (true), o2, H', ⟨by have := HJ1.out; first | omega | exact Nat.le_refl _⟩, ⟨bk BK101.out⟩, ⟨bs⟩⟩
    case rest =>
     clear HC42
     obtain ⟨kq, x82_41, rfl, HA, HJ41, BK101, HB⟩ := hcut
     cases kq with
     | zero => exact absurd HA.out (by simp [spec_l4may.j1])
     | succ kj41 =>
      have H := HA.out
      clear HA
      simp only [spec_l4may.j1] at H
      replace H := ib H
      obtain ⟨rfl, H⟩ | ⟨rfl, H⟩ := H
      ·obtain rfl := Option.some.inj H
       go_wp2
       go_ret
       exact ⟨o1, bs⟩
      ·replace H := ie H
       obtain ⟨c83b0, c83b1, H⟩ | ⟨c83b0, c83b1, H⟩ := H
       ·replace H := ie H
        obtain ⟨c84b0, c84b1, H⟩ | ⟨c84b0, c84b1, H⟩ := H
        ·obtain rfl := Option.some.inj H
         obtain ⟨hcz85_0, hcz85_1, hcz85_2, hcz85_3, hcz85_4, hcz85_5, hcz85_6, hcz85_7, hcz85_8, hcz85_9, hcz85_10, hfz85_0, hfz85_1, hfz85_2, hfz85_3, hfz85_4, hfz85_5, hfz85_6, hfz85_7, hfz85_8, hfz85_9, hfz85_10⟩ := cells11 BK101.out
         go_wp2
         go_ret
         exact ⟨o1, bs⟩
        ·have c84b2 : ¬ (l0_9 = []) := fun h_ => bne_iff_ne.mp c84b1 (by rw [h_]; rfl)
         obtain rfl := Option.some.inj H
         obtain ⟨hcz86_0, hcz86_1, hcz86_2, hcz86_3, hcz86_4, hcz86_5, hcz86_6, hcz86_7, hcz86_8, hcz86_9, hcz86_10, hfz86_0, hfz86_1, hfz86_2, hfz86_3, hfz86_4, hfz86_5, hfz86_6, hfz86_7, hfz86_8, hfz86_9, hfz86_10⟩ := cells11 BK101.out
         go_wp2
         go_ret
         exact ⟨o1, bs⟩
       ·replace H := ipN H
        obtain ⟨c87b0, H⟩ := H
        have c87b1 : decide (0 < l0_5.length) = true := decide_eq_true (by have := of_decide_eq_true c87b0; omega)
        replace H := ie H
        obtain ⟨c88b0, c88b1, H⟩ | ⟨c88b0, c88b1, H⟩ := H
        ·replace H := ie H
         obtain ⟨c89b0, c89b1, H⟩ | ⟨c89b0, c89b1, H⟩ := H
         ·replace H := ie H
          obtain ⟨c90b0, c90b1, H⟩ | ⟨c90b0, c90b1, H⟩ := H
          ·obtain rfl := Option.some.inj H
           obtain ⟨hcz91_0, hcz91_1, hcz91_2, hcz91_3, hcz91_4, hcz91_5, hcz91_6, hcz91_7, hcz91_8, hcz91_9, hcz91_10, hfz91_0, hfz91_1, hfz91_2, hfz91_3, hfz91_4, hfz91_5, hfz91_6, hfz91_7, hfz91_8, hfz91_9, hfz91_10⟩ := cells11 BK101.out
           have p115 : 0 ≤ (0 : Int) := (by omega)
           have q115 : 0 < (l0_5.length : Int) := of_decide_eq_true (by first | (with_reducible assumption) | assumption)
           obtain ⟨ad115, A115_0, c115_0, e115, hx115_0, hx115_1, hl115_0, hi115_0⟩ := at_T200 HR0_5.out 0 p115 q115
           cases e115
           have qi115 : (0 < l0_5.length) = True := eq_true (by omega)
           (try rw [show ((0 : Int)).toNat = 0 from rfl] at hx115_0)
           (try rw [show 0 * 2 = 0 from rfl] at hx115_0)
           (try rw [Addr.add_zero'] at hx115_0)
           (try rw [show ((0 : Int)).toNat = 0 from rfl] at hx115_1)
           (try rw [show 0 * 2 = 0 from rfl] at hx115_1)
           (try rw [Addr.add_zero'] at hx115_1)
           replace hx115_0 := pw_cell_below HB.out hx115_0
           replace hx115_1 := pw_cell_below HB.out hx115_1
           have HR115_0 := ak hi115_0
           have HC115_0 := ak hl115_0
           clear hi115_0 hl115_0
           replace p115 := eq_true p115
           replace q115 := eq_true q115
           go_wp2
           go_ret
           exact ⟨o1, bs⟩
          ·have c90b2 : ¬ (l0_7 = []) := fun h_ => bne_iff_ne.mp c90b1 (by rw [h_]; rfl)
           obtain rfl := Option.some.inj H
           obtain ⟨hcz92_0, hcz92_1, hcz92_2, hcz92_3, hcz92_4, hcz92_5, hcz92_6, hcz92_7, hcz92_8, hcz92_9, hcz92_10, hfz92_0, hfz92_1, hfz92_2, hfz92_3, hfz92_4, hfz92_5, hfz92_6, hfz92_7, hfz92_8, hfz92_9, hfz92_10⟩ := cells11 BK101.out
           have p115 : 0 ≤ (0 : Int) := (by omega)
           have q115 : 0 < (l0_5.length : Int) := of_decide_eq_true (by first | (with_reducible assumption) | assumption)
           obtain ⟨ad115, A115_0, c115_0, e115, hx115_0, hx115_1, hl115_0, hi115_0⟩ := at_T200 HR0_5.out 0 p115 q115
           cases e115
           have qi115 : (0 < l0_5.length) = True := eq_true (by omega)
           (try rw [show ((0 : Int)).toNat = 0 from rfl] at hx115_0)
           (try rw [show 0 * 2 = 0 from rfl] at hx115_0)
           (try rw [Addr.add_zero'] at hx115_0)
           (try rw [show ((0 : Int)).toNat = 0 from rfl] at hx115_1)
           (try rw [show 0 * 2 = 0 from rfl] at hx115_1)
           (try rw [Addr.add_zero'] at hx115_1)
           replace hx115_0 := pw_cell_below HB.out hx115_0
           replace hx115_1 := pw_cell_below HB.out hx115_1
           have HR115_0 := ak hi115_0
           have HC115_0 := ak hl115_0
           clear hi115_0 hl115_0
           replace p115 := eq_true p115
           replace q115 := eq_true q115
           go_wp2
           go_ret
           exact ⟨o1, bs⟩
         ·have c89b2 : ¬ (l0_6 = []) := fun h_ => bne_iff_ne.mp c89b1 (by rw [h_]; rfl)
          obtain rfl := Option.some.inj H
          obtain ⟨hcz93_0, hcz93_1, hcz93_2, hcz93_3, hcz93_4, hcz93_5, hcz93_6, hcz93_7, hcz93_8, hcz93_9, hcz93_10, hfz93_0, hfz93_1, hfz93_2, hfz93_3, hfz93_4, hfz93_5, hfz93_6, hfz93_7, hfz93_8, hfz93_9, hfz93_10⟩ := cells11 BK101.out
          have p115 : 0 ≤ (0 : Int) := (by omega)
          have q115 : 0 < (l0_5.length : Int) := of_decide_eq_true (by first | (with_reducible assumption) | assumption)
          obtain ⟨ad115, A115_0, c115_0, e115, hx115_0, hx115_1, hl115_0, hi115_0⟩ := at_T200 HR0_5.out 0 p115 q115
          cases e115
          have qi115 : (0 < l0_5.length) = True := eq_true (by omega)
          (try rw [show ((0 : Int)).toNat = 0 from rfl] at hx115_0)
          (try rw [show 0 * 2 = 0 from rfl] at hx115_0)
          (try rw [Addr.add_zero'] at hx115_0)
          (try rw [show ((0 : Int)).toNat = 0 from rfl] at hx115_1)
          (try rw [show 0 * 2 = 0 from rfl] at hx115_1)
          (try rw [Addr.add_zero'] at hx115_1)
          replace hx115_0 := pw_cell_below HB.out hx115_0
          replace hx115_1 := pw_cell_below HB.out hx115_1
          have HR115_0 := ak hi115_0
          have HC115_0 := ak hl115_0
          clear hi115_0 hl115_0
          replace p115 := eq_true p115
          replace q115 := eq_true q115
          go_wp2
          go_ret
          exact ⟨o1, bs⟩
        ·obtain rfl := Option.some.inj H
         obtain ⟨hcz94_0, hcz94_1, hcz94_2, hcz94_3, hcz94_4, hcz94_5, hcz94_6, hcz94_7, hcz94_8, hcz94_9, hcz94_10, hfz94_0, hfz94_1, hfz94_2, hfz94_3, hfz94_4, hfz94_5, hfz94_6, hfz94_7, hfz94_8, hfz94_9, hfz94_10⟩ := cells11 BK101.out
         have p115 : 0 ≤ (0 : Int) := (by omega)
         have q115 : 0 < (l0_5.length : Int) := of_decide_eq_true (by first | (with_reducible assumption) | assumption)
         obtain ⟨ad115, A115_0, c115_0, e115, hx115_0, hx115_1, hl115_0, hi115_0⟩ := at_T200 HR0_5.out 0 p115 q115
         cases e115
         have qi115 : (0 < l0_5.length) = True := eq_true (by omega)
         (try rw [show ((0 : Int)).toNat = 0 from rfl] at hx115_0)
         (try rw [show 0 * 2 = 0 from rfl] at hx115_0)
         (try rw [Addr.add_zero'] at hx115_0)
         (try rw [show ((0 : Int)).toNat = 0 from rfl] at hx115_1)
         (try rw [show 0 * 2 = 0 from rfl] at hx115_1)
         (try rw [Addr.add_zero'] at hx115_1)
         replace hx115_0 := pw_cell_below HB.out hx115_0
         replace hx115_1 := pw_cell_below HB.out hx115_1
         have HR115_0 := ak hi115_0
         have HC115_0 := ak hl115_0
         clear hi115_0 hl115_0
         replace p115 := eq_true p115
         replace q115 := eq_true q115
         go_wp2
         go_ret
         exact ⟨o1, bs⟩

end Go.Proofs.Ytagedmajlppohaa.Q
