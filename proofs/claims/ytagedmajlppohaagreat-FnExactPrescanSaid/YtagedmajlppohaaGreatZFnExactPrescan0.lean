/- Printed by a program of this session (wip/myprint.py), which drives the kit's printer: functions and what their calls do. -/
import Derived.Test.YtagedmajlppohaaGreatProg
import Derived.Below
import Derived.Deep.Draws
import Derived.Deep.AppendLies
import Derived.Maps.AppendAt
import Derived.OwnWalk
import Derived.Laws.BytesArg
import Derived.Laws.MakeOwn
import Derived.Laws.OwnMore
import Derived.Deep.OwnRows
import Derived.Tactics
import Derived.Lib.ConvBytes
import Derived.Laws.Slices
import Derived.WalkKit
import Derived.KernelRfl
import Derived.RowKit3
import Derived.Deep.LoopGhost
import Derived.Deep.QuietTactic
import Derived.BigQuiet
import Derived.WideLaws
import Derived.Deep.DeepCutAuto
import Derived.Deep.CutBlock
import Derived.Deep.RegionHeld3
import Derived.Laws.Rows
import Derived.Lib.AppendStr
import Derived.ArgAppend
import Derived.Laws.IdiomCopy
import Derived.OrdersHeld
import Derived.Laws.BitsLemmas
import Derived.RowKit
import Derived.WalkSpells
import Derived.WalkLawsBesides
import Derived.Shelf.Abstract
import Derived.Test.YtagedmajlppohaaGreatVFnExactPrescan
import Derived.Deep.DrawnRows
namespace Go.Proofs.YtagedmajlppohaaGreat.Q
open Go.RowKit Go Go.Proofs.YtagedmajlppohaaGreatW.PrintWords Go.Proofs.YtagedmajlppohaaGreatW.PrintLast Go.Proofs.YtagedmajlppohaaGreatW.PrintMore
attribute [local go_sem] max2_int min2_int max_two min_two
set_option linter.unusedVariables false
set_option linter.unusedSimpArgs false

theorem qyb : (Tryz.prog.info? 3).map (fun i => (i.zero, i.size, i.bytes)) = some (some (.int .i64 0), 1, 8) := by kernel_rfl
theorem Yx : (Tryz.prog.info? 5).map (fun i => (i.zero, i.size, i.bytes)) = some (some (.int .u8 0), 1, 1) := by kernel_rfl
theorem qkt : (Tryz.prog.info? 45).map (fun i => (i.zero, i.size, i.bytes)) = some (some (.slice none 0 0), 1, 24) := by kernel_rfl
theorem qks : (Tryz.prog.info? 56).map (fun i => (i.zero, i.size, i.bytes)) = some (some (.agg #[(.slice none 0 0), (.int .i64 0), (.int .i64 0), (.int .i64 0), (.slice none 0 0), (.slice none 0 0), (.slice none 0 0)]), 7, 120) := by kernel_rfl
theorem qw8 : (Tryz.prog.info? 58).map (fun i => (i.zero, i.size, i.bytes)) = some (some (.agg #[(.slice none 0 0), (.int .i64 0), (.int .i64 0), (.int .i64 0), (.slice none 0 0), (.slice none 0 0), (.slice none 0 0), (.int .i64 0), (.bool false)]), 9, 136) := by kernel_rfl
-- the values' own types
/-! #### struct type 7 -/
/-! #### struct type 8 -/
/-! #### struct type 13 -/
/-! #### struct type 14 -/
def qN (xs : List (List Int)) (i : Int) : (List Int) := xs.getD i.toNat ([] : List Int)
theorem qcF {w : World} {A : Option Addr} {n : Nat} {xs : List (List Int)} (h : Kd.C (Kd.slice 5 (Kd.int .u8)) w A n xs) (i : Int) (h0 : 0 ≤ i) (h1 : i < n) : ∃ ad A0 c0, A = some ad ∧ w.cell? (ad.add i.toNat) = some (.slice A0 (qN xs i).length c0) ∧ (qN xs i).length ≤ c0 ∧ (Kd.int .u8).C w A0 (qN xs i).length (qN xs i) := by
  obtain ⟨ad, c, e, _, hK, hc0⟩ := Kd.C_get h ([] : List Int) i h0 h1;have hc : ∀ j u, c[j]? = some u → w.cell? (ad.add (i.toNat * 1 + j)) = some u := hc0;obtain ⟨A0, c0, rfl, l0, g0⟩ := hK;exact ⟨ad, A0, c0, e, by have hq := hc 0 _ rfl; rwa [Nat.mul_one, Nat.add_zero] at hq, l0, g0⟩

/-! #### struct type 23 -/
/-! #### struct type 24 -/
structure S24 where
  f0 : (List (List Int))
def z24 : S24 := ⟨([] : List (List Int))⟩
def k24 : Kd S24 := Kd.iso (Kd.slice 45 (Kd.slice 5 (Kd.int .u8))) (fun x : S24 => x.f0)
theorem k24_open {w : World} {x : S24} {cs : List Value} (h : k24.K w x cs) : ∃ A0 c0, cs = [.slice A0 x.f0.length c0] ∧ x.f0.length ≤ c0 ∧ (Kd.slice 5 (Kd.int .u8)).C w A0 x.f0.length x.f0 := by
  obtain ⟨A0, c0, rfl, l0, g0⟩ := h;exact ⟨A0, c0, rfl, l0, g0⟩
/-! #### struct type 48 -/
structure S48 where
  f0 : S24
  f1 : Int
  f2 : Int
  f3 : Int
  f4 : S24
  f5 : (List Int)
  f6 : (List Int)
def z48 : S48 := ⟨z24, (0 : Int), (0 : Int), (0 : Int), z24, ([] : List Int), ([] : List Int)⟩
def k48 : Kd S48 := Kd.iso (Kd.pair k24 (Kd.pair (Kd.int .i64) (Kd.pair (Kd.int .i64) (Kd.pair (Kd.int .i64) (Kd.pair k24 (Kd.pair (Kd.slice 5 (Kd.int .u8)) (Kd.slice 3 (Kd.int .i64)))))))) (fun x : S48 => (x.f0, x.f1, x.f2, x.f3, x.f4, x.f5, x.f6))
theorem k48_open {w : World} {x : S48} {cs : List Value} (h : k48.K w x cs) : ∃ A0 c0 A4 c4 A5 c5 A6 c6, cs = [.slice A0 x.f0.f0.length c0, .int .i64 x.f1, .int .i64 x.f2, .int .i64 x.f3, .slice A4 x.f4.f0.length c4, .slice A5 x.f5.length c5, .slice A6 x.f6.length c6] ∧ x.f0.f0.length ≤ c0 ∧ (Kd.slice 5 (Kd.int .u8)).C w A0 x.f0.f0.length x.f0.f0 ∧ x.f4.f0.length ≤ c4 ∧ (Kd.slice 5 (Kd.int .u8)).C w A4 x.f4.f0.length x.f4.f0 ∧ x.f5.length ≤ c5 ∧ (Kd.int .u8).C w A5 x.f5.length x.f5 ∧ x.f6.length ≤ c6 ∧ (Kd.int .i64).C w A6 x.f6.length x.f6 := by
  obtain ⟨_, _, rfl, s0, ⟨_, _, rfl, rfl, ⟨_, _, rfl, rfl, ⟨_, _, rfl, rfl, ⟨_, _, rfl, s4, ⟨_, _, rfl, ⟨A5, c5, rfl, l5, g5⟩, ⟨A6, c6, rfl, l6, g6⟩⟩⟩⟩⟩⟩⟩ := h;obtain ⟨A0, c0, rfl, l0, g0⟩ := k24_open s0;obtain ⟨A4, c4, rfl, l4, g4⟩ := k24_open s4;exact ⟨A0, c0, A4, c4, A5, c5, A6, c6, rfl, l0, g0, l4, g4, l5, g5, l6, g6⟩
def qW (xs : List S48) (i : Int) : S48 := xs.getD i.toNat z48
theorem qx3 {w : World} {A : Option Addr} {n : Nat} {xs : List S48} (h : Kd.C k48 w A n xs) (i : Int) (h0 : 0 ≤ i) (h1 : i < n) : ∃ ad A0 c0 A4 c4 A5 c5 A6 c6, A = some ad ∧ w.cell? (ad.add (i.toNat * 7)) = some (.slice A0 (qW xs i).f0.f0.length c0) ∧ w.cell? ⟨(ad.add (i.toNat * 7)).block, (ad.add (i.toNat * 7)).off + 1, none⟩ = some (.int .i64 (qW xs i).f1) ∧ w.cell? ⟨(ad.add (i.toNat * 7)).block, (ad.add (i.toNat * 7)).off + 2, none⟩ = some (.int .i64 (qW xs i).f2) ∧ w.cell? ⟨(ad.add (i.toNat * 7)).block, (ad.add (i.toNat * 7)).off + 3, none⟩ = some (.int .i64 (qW xs i).f3) ∧ w.cell? ⟨(ad.add (i.toNat * 7)).block, (ad.add (i.toNat * 7)).off + 4, none⟩ = some (.slice A4 (qW xs i).f4.f0.length c4) ∧ w.cell? ⟨(ad.add (i.toNat * 7)).block, (ad.add (i.toNat * 7)).off + 5, none⟩ = some (.slice A5 (qW xs i).f5.length c5) ∧ w.cell? ⟨(ad.add (i.toNat * 7)).block, (ad.add (i.toNat * 7)).off + 6, none⟩ = some (.slice A6 (qW xs i).f6.length c6) ∧ (qW xs i).f0.f0.length ≤ c0 ∧ (Kd.slice 5 (Kd.int .u8)).C w A0 (qW xs i).f0.f0.length (qW xs i).f0.f0 ∧ (qW xs i).f4.f0.length ≤ c4 ∧ (Kd.slice 5 (Kd.int .u8)).C w A4 (qW xs i).f4.f0.length (qW xs i).f4.f0 ∧ (qW xs i).f5.length ≤ c5 ∧ (Kd.int .u8).C w A5 (qW xs i).f5.length (qW xs i).f5 ∧ (qW xs i).f6.length ≤ c6 ∧ (Kd.int .i64).C w A6 (qW xs i).f6.length (qW xs i).f6 := by
  obtain ⟨ad, c, e, _, hK, hc0⟩ := Kd.C_get h z48 i h0 h1;have hc : ∀ j u, c[j]? = some u → w.cell? (ad.add (i.toNat * 7 + j)) = some u := hc0;obtain ⟨A0, c0, A4, c4, A5, c5, A6, c6, rfl, l0, g0, l4, g4, l5, g5, l6, g6⟩ := k48_open hK;exact ⟨ad, A0, c0, A4, c4, A5, c5, A6, c6, e, hc 0 _ rfl, by rw [← add_field _ _ 1 (by omega)]; exact hc 1 _ rfl, by rw [← add_field _ _ 2 (by omega)]; exact hc 2 _ rfl, by rw [← add_field _ _ 3 (by omega)]; exact hc 3 _ rfl, by rw [← add_field _ _ 4 (by omega)]; exact hc 4 _ rfl, by rw [← add_field _ _ 5 (by omega)]; exact hc 5 _ rfl, by rw [← add_field _ _ 6 (by omega)]; exact hc 6 _ rfl, l0, g0, l4, g4, l5, g5, l6, g6⟩

/-! #### struct type 26 -/
/-! #### struct type 27 -/
structure S27 where
  f0 : S24
  f1 : (List S48)
def k27 : Kd S27 := Kd.iso (Kd.pair k24 (Kd.slice 48 k48)) (fun x : S27 => (x.f0, x.f1))
theorem k27_open {w : World} {x : S27} {cs : List Value} (h : k27.K w x cs) : ∃ A0 c0 A1 c1, cs = [.slice A0 x.f0.f0.length c0, .slice A1 x.f1.length c1] ∧ x.f0.f0.length ≤ c0 ∧ (Kd.slice 5 (Kd.int .u8)).C w A0 x.f0.f0.length x.f0.f0 ∧ x.f1.length ≤ c1 ∧ k48.C w A1 x.f1.length x.f1 := by
  obtain ⟨_, _, rfl, s0, ⟨A1, c1, rfl, l1, g1⟩⟩ := h;obtain ⟨A0, c0, rfl, l0, g0⟩ := k24_open s0;exact ⟨A0, c0, A1, c1, rfl, l0, g0, l1, g1⟩
/-! #### struct type 50 -/
structure S50 where
  f0 : S48
  f1 : Int
  f2 : Bool
def z50 : S50 := ⟨z48, (0 : Int), false⟩
def k50 : Kd S50 := Kd.iso (Kd.pair k48 (Kd.pair (Kd.int .i64) Kd.bool)) (fun x : S50 => (x.f0, x.f1, x.f2))
theorem k50_open {w : World} {x : S50} {cs : List Value} (h : k50.K w x cs) : ∃ A0 c0 A4 c4 A5 c5 A6 c6, cs = [.slice A0 x.f0.f0.f0.length c0, .int .i64 x.f0.f1, .int .i64 x.f0.f2, .int .i64 x.f0.f3, .slice A4 x.f0.f4.f0.length c4, .slice A5 x.f0.f5.length c5, .slice A6 x.f0.f6.length c6, .int .i64 x.f1, .bool x.f2] ∧ x.f0.f0.f0.length ≤ c0 ∧ (Kd.slice 5 (Kd.int .u8)).C w A0 x.f0.f0.f0.length x.f0.f0.f0 ∧ x.f0.f4.f0.length ≤ c4 ∧ (Kd.slice 5 (Kd.int .u8)).C w A4 x.f0.f4.f0.length x.f0.f4.f0 ∧ x.f0.f5.length ≤ c5 ∧ (Kd.int .u8).C w A5 x.f0.f5.length x.f0.f5 ∧ x.f0.f6.length ≤ c6 ∧ (Kd.int .i64).C w A6 x.f0.f6.length x.f0.f6 := by
  obtain ⟨_, _, rfl, s0, ⟨_, _, rfl, rfl, rfl⟩⟩ := h;obtain ⟨A0, c0, A4, c4, A5, c5, A6, c6, rfl, l0, g0, l4, g4, l5, g5, l6, g6⟩ := k48_open s0;exact ⟨A0, c0, A4, c4, A5, c5, A6, c6, rfl, l0, g0, l4, g4, l5, g5, l6, g6⟩
def qR (xs : List S50) (i : Int) : S50 := xs.getD i.toNat z50
theorem qx2 {w : World} {A : Option Addr} {n : Nat} {xs : List S50} (h : Kd.C k50 w A n xs) (i : Int) (h0 : 0 ≤ i) (h1 : i < n) : ∃ ad A0 c0 A4 c4 A5 c5 A6 c6, A = some ad ∧ w.cell? (ad.add (i.toNat * 9)) = some (.slice A0 (qR xs i).f0.f0.f0.length c0) ∧ w.cell? ⟨(ad.add (i.toNat * 9)).block, (ad.add (i.toNat * 9)).off + 1, none⟩ = some (.int .i64 (qR xs i).f0.f1) ∧ w.cell? ⟨(ad.add (i.toNat * 9)).block, (ad.add (i.toNat * 9)).off + 2, none⟩ = some (.int .i64 (qR xs i).f0.f2) ∧ w.cell? ⟨(ad.add (i.toNat * 9)).block, (ad.add (i.toNat * 9)).off + 3, none⟩ = some (.int .i64 (qR xs i).f0.f3) ∧ w.cell? ⟨(ad.add (i.toNat * 9)).block, (ad.add (i.toNat * 9)).off + 4, none⟩ = some (.slice A4 (qR xs i).f0.f4.f0.length c4) ∧ w.cell? ⟨(ad.add (i.toNat * 9)).block, (ad.add (i.toNat * 9)).off + 5, none⟩ = some (.slice A5 (qR xs i).f0.f5.length c5) ∧ w.cell? ⟨(ad.add (i.toNat * 9)).block, (ad.add (i.toNat * 9)).off + 6, none⟩ = some (.slice A6 (qR xs i).f0.f6.length c6) ∧ w.cell? ⟨(ad.add (i.toNat * 9)).block, (ad.add (i.toNat * 9)).off + 7, none⟩ = some (.int .i64 (qR xs i).f1) ∧ w.cell? ⟨(ad.add (i.toNat * 9)).block, (ad.add (i.toNat * 9)).off + 8, none⟩ = some (.bool (qR xs i).f2) ∧ (qR xs i).f0.f0.f0.length ≤ c0 ∧ (Kd.slice 5 (Kd.int .u8)).C w A0 (qR xs i).f0.f0.f0.length (qR xs i).f0.f0.f0 ∧ (qR xs i).f0.f4.f0.length ≤ c4 ∧ (Kd.slice 5 (Kd.int .u8)).C w A4 (qR xs i).f0.f4.f0.length (qR xs i).f0.f4.f0 ∧ (qR xs i).f0.f5.length ≤ c5 ∧ (Kd.int .u8).C w A5 (qR xs i).f0.f5.length (qR xs i).f0.f5 ∧ (qR xs i).f0.f6.length ≤ c6 ∧ (Kd.int .i64).C w A6 (qR xs i).f0.f6.length (qR xs i).f0.f6 := by
  obtain ⟨ad, c, e, _, hK, hc0⟩ := Kd.C_get h z50 i h0 h1;have hc : ∀ j u, c[j]? = some u → w.cell? (ad.add (i.toNat * 9 + j)) = some u := hc0;obtain ⟨A0, c0, A4, c4, A5, c5, A6, c6, rfl, l0, g0, l4, g4, l5, g5, l6, g6⟩ := k50_open hK;exact ⟨ad, A0, c0, A4, c4, A5, c5, A6, c6, e, hc 0 _ rfl, by rw [← add_field _ _ 1 (by omega)]; exact hc 1 _ rfl, by rw [← add_field _ _ 2 (by omega)]; exact hc 2 _ rfl, by rw [← add_field _ _ 3 (by omega)]; exact hc 3 _ rfl, by rw [← add_field _ _ 4 (by omega)]; exact hc 4 _ rfl, by rw [← add_field _ _ 5 (by omega)]; exact hc 5 _ rfl, by rw [← add_field _ _ 6 (by omega)]; exact hc 6 _ rfl, by rw [← add_field _ _ 7 (by omega)]; exact hc 7 _ rfl, by rw [← add_field _ _ 8 (by omega)]; exact hc 8 _ rfl, l0, g0, l4, g4, l5, g5, l6, g6⟩

/-! #### struct type 32 -/
structure S32 where
  f0 : (List (List Int))
def z32 : S32 := ⟨([] : List (List Int))⟩
def k32 : Kd S32 := Kd.iso (Kd.slice 45 (Kd.slice 5 (Kd.int .u8))) (fun x : S32 => x.f0)
theorem k32_heap : Kd.Heap k32 := Kd.heap_iso _ (Kd.heap_slice 45 (Kd.heap_slice 5 (Kd.heap_int .u8)))
theorem k32_open {w : World} {x : S32} {cs : List Value} (h : k32.K w x cs) : ∃ A0 c0, cs = [.slice A0 x.f0.length c0] ∧ x.f0.length ≤ c0 ∧ (Kd.slice 5 (Kd.int .u8)).C w A0 x.f0.length x.f0 := by
  obtain ⟨A0, c0, rfl, l0, g0⟩ := h;exact ⟨A0, c0, rfl, l0, g0⟩
theorem k32_openM {w : World} {base : Nat} {ok : Nat → Prop} {x : S32} {cs : List Value} (h : k32.M w base ok x cs) : ∃ v0, cs = [v0] ∧ (Kd.slice 5 (Kd.int .u8)).R 45 w base ok v0 x.f0 := by
  obtain ⟨v0, rfl, g0⟩ := h;exact ⟨v0, rfl, g0⟩
theorem k32_mk (w : World) (x : S32) {A0 : Option Addr} {c0 : Nat} (l0 : x.f0.length ≤ c0) (g0 : (Kd.slice 5 (Kd.int .u8)).C w A0 x.f0.length x.f0) : k32.K w x [.slice A0 x.f0.length c0] := ⟨A0, c0, rfl, l0, g0⟩
theorem k32_mkM (w : World) (base : Nat) (ok : Nat → Prop) (x : S32) {v0 : Value} (g0 : (Kd.slice 5 (Kd.int .u8)).R 45 w base ok v0 x.f0) : k32.M w base ok x [v0] := ⟨v0, rfl, g0⟩
/-! #### struct type 56 -/
structure S56 where
  f0 : S32
  f1 : Int
  f2 : Int
  f3 : Int
  f4 : S32
  f5 : (List Int)
  f6 : (List Int)
def z56 : S56 := ⟨z32, (0 : Int), (0 : Int), (0 : Int), z32, ([] : List Int), ([] : List Int)⟩
def k56 : Kd S56 := Kd.iso (Kd.pair k32 (Kd.pair (Kd.int .i64) (Kd.pair (Kd.int .i64) (Kd.pair (Kd.int .i64) (Kd.pair k32 (Kd.pair (Kd.slice 5 (Kd.int .u8)) (Kd.slice 3 (Kd.int .i64)))))))) (fun x : S56 => (x.f0, x.f1, x.f2, x.f3, x.f4, x.f5, x.f6))
theorem k56_heap : Kd.Heap k56 := Kd.heap_iso _ (Kd.heap_pair k32_heap (Kd.heap_pair (Kd.heap_int .i64) (Kd.heap_pair (Kd.heap_int .i64) (Kd.heap_pair (Kd.heap_int .i64) (Kd.heap_pair k32_heap (Kd.heap_pair (Kd.heap_slice 5 (Kd.heap_int .u8)) (Kd.heap_slice 3 (Kd.heap_int .i64))))))))
theorem k56_open {w : World} {x : S56} {cs : List Value} (h : k56.K w x cs) : ∃ A0 c0 A4 c4 A5 c5 A6 c6, cs = [.slice A0 x.f0.f0.length c0, .int .i64 x.f1, .int .i64 x.f2, .int .i64 x.f3, .slice A4 x.f4.f0.length c4, .slice A5 x.f5.length c5, .slice A6 x.f6.length c6] ∧ x.f0.f0.length ≤ c0 ∧ (Kd.slice 5 (Kd.int .u8)).C w A0 x.f0.f0.length x.f0.f0 ∧ x.f4.f0.length ≤ c4 ∧ (Kd.slice 5 (Kd.int .u8)).C w A4 x.f4.f0.length x.f4.f0 ∧ x.f5.length ≤ c5 ∧ (Kd.int .u8).C w A5 x.f5.length x.f5 ∧ x.f6.length ≤ c6 ∧ (Kd.int .i64).C w A6 x.f6.length x.f6 := by
  obtain ⟨_, _, rfl, s0, ⟨_, _, rfl, rfl, ⟨_, _, rfl, rfl, ⟨_, _, rfl, rfl, ⟨_, _, rfl, s4, ⟨_, _, rfl, ⟨A5, c5, rfl, l5, g5⟩, ⟨A6, c6, rfl, l6, g6⟩⟩⟩⟩⟩⟩⟩ := h;obtain ⟨A0, c0, rfl, l0, g0⟩ := k32_open s0;obtain ⟨A4, c4, rfl, l4, g4⟩ := k32_open s4;exact ⟨A0, c0, A4, c4, A5, c5, A6, c6, rfl, l0, g0, l4, g4, l5, g5, l6, g6⟩
theorem k56_openM {w : World} {base : Nat} {ok : Nat → Prop} {x : S56} {cs : List Value} (h : k56.M w base ok x cs) : ∃ v0 v4 v5 v6, cs = [v0, .int .i64 x.f1, .int .i64 x.f2, .int .i64 x.f3, v4, v5, v6] ∧ (Kd.slice 5 (Kd.int .u8)).R 45 w base ok v0 x.f0.f0 ∧ (Kd.slice 5 (Kd.int .u8)).R 45 w base ok v4 x.f4.f0 ∧ (Kd.int .u8).R 5 w base ok v5 x.f5 ∧ (Kd.int .i64).R 3 w base ok v6 x.f6 := by
  obtain ⟨_, _, rfl, s0, ⟨_, _, rfl, rfl, ⟨_, _, rfl, rfl, ⟨_, _, rfl, rfl, ⟨_, _, rfl, s4, ⟨_, _, rfl, ⟨v5, rfl, g5⟩, ⟨v6, rfl, g6⟩⟩⟩⟩⟩⟩⟩ := h;obtain ⟨v0, rfl, g0⟩ := k32_openM s0;obtain ⟨v4, rfl, g4⟩ := k32_openM s4;exact ⟨v0, v4, v5, v6, rfl, g0, g4, g5, g6⟩
theorem k56_mk (w : World) (x : S56) {A0 : Option Addr} {c0 : Nat} (l0 : x.f0.f0.length ≤ c0) (g0 : (Kd.slice 5 (Kd.int .u8)).C w A0 x.f0.f0.length x.f0.f0) {A4 : Option Addr} {c4 : Nat} (l4 : x.f4.f0.length ≤ c4) (g4 : (Kd.slice 5 (Kd.int .u8)).C w A4 x.f4.f0.length x.f4.f0) {A5 : Option Addr} {c5 : Nat} (l5 : x.f5.length ≤ c5) (g5 : (Kd.int .u8).C w A5 x.f5.length x.f5) {A6 : Option Addr} {c6 : Nat} (l6 : x.f6.length ≤ c6) (g6 : (Kd.int .i64).C w A6 x.f6.length x.f6) : k56.K w x [.slice A0 x.f0.f0.length c0, .int .i64 x.f1, .int .i64 x.f2, .int .i64 x.f3, .slice A4 x.f4.f0.length c4, .slice A5 x.f5.length c5, .slice A6 x.f6.length c6] := ⟨[.slice A0 x.f0.f0.length c0], [.int .i64 x.f1, .int .i64 x.f2, .int .i64 x.f3, .slice A4 x.f4.f0.length c4, .slice A5 x.f5.length c5, .slice A6 x.f6.length c6], rfl, (k32_mk w x.f0 l0 g0), ⟨[.int .i64 x.f1], [.int .i64 x.f2, .int .i64 x.f3, .slice A4 x.f4.f0.length c4, .slice A5 x.f5.length c5, .slice A6 x.f6.length c6], rfl, rfl, ⟨[.int .i64 x.f2], [.int .i64 x.f3, .slice A4 x.f4.f0.length c4, .slice A5 x.f5.length c5, .slice A6 x.f6.length c6], rfl, rfl, ⟨[.int .i64 x.f3], [.slice A4 x.f4.f0.length c4, .slice A5 x.f5.length c5, .slice A6 x.f6.length c6], rfl, rfl, ⟨[.slice A4 x.f4.f0.length c4], [.slice A5 x.f5.length c5, .slice A6 x.f6.length c6], rfl, (k32_mk w x.f4 l4 g4), ⟨[.slice A5 x.f5.length c5], [.slice A6 x.f6.length c6], rfl, ⟨A5, c5, rfl, l5, g5⟩, ⟨A6, c6, rfl, l6, g6⟩⟩⟩⟩⟩⟩⟩
theorem k56_mkM (w : World) (base : Nat) (ok : Nat → Prop) (x : S56) {v0 : Value} (g0 : (Kd.slice 5 (Kd.int .u8)).R 45 w base ok v0 x.f0.f0) {v4 : Value} (g4 : (Kd.slice 5 (Kd.int .u8)).R 45 w base ok v4 x.f4.f0) {v5 : Value} (g5 : (Kd.int .u8).R 5 w base ok v5 x.f5) {v6 : Value} (g6 : (Kd.int .i64).R 3 w base ok v6 x.f6) : k56.M w base ok x [v0, .int .i64 x.f1, .int .i64 x.f2, .int .i64 x.f3, v4, v5, v6] := ⟨[v0], [.int .i64 x.f1, .int .i64 x.f2, .int .i64 x.f3, v4, v5, v6], rfl, (k32_mkM w base ok x.f0 g0), ⟨[.int .i64 x.f1], [.int .i64 x.f2, .int .i64 x.f3, v4, v5, v6], rfl, rfl, ⟨[.int .i64 x.f2], [.int .i64 x.f3, v4, v5, v6], rfl, rfl, ⟨[.int .i64 x.f3], [v4, v5, v6], rfl, rfl, ⟨[v4], [v5, v6], rfl, (k32_mkM w base ok x.f4 g4), ⟨[v5], [v6], rfl, ⟨v5, rfl, g5⟩, ⟨v6, rfl, g6⟩⟩⟩⟩⟩⟩⟩
theorem k56_openF {W : World} {ok : Nat → Prop} {x : S56} {cs : List Value} (h : Kd.FK k56 W ok x cs) : ∃ A0 c0 A4 c4 A5 c5 A6 c6, cs = [.slice A0 x.f0.f0.length c0, .int .i64 x.f1, .int .i64 x.f2, .int .i64 x.f3, .slice A4 x.f4.f0.length c4, .slice A5 x.f5.length c5, .slice A6 x.f6.length c6] ∧ x.f0.f0.length ≤ c0 ∧ Kd.F (Kd.slice 5 (Kd.int .u8)) W ok A0 x.f0.f0.length x.f0.f0 ∧ x.f4.f0.length ≤ c4 ∧ Kd.F (Kd.slice 5 (Kd.int .u8)) W ok A4 x.f4.f0.length x.f4.f0 ∧ x.f5.length ≤ c5 ∧ Kd.F (Kd.int .u8) W ok A5 x.f5.length x.f5 ∧ x.f6.length ≤ c6 ∧ Kd.F (Kd.int .i64) W ok A6 x.f6.length x.f6 := by
  obtain ⟨A0, c0, A4, c4, A5, c5, A6, c6, rfl, l0, _, l4, _, l5, _, l6, _⟩ := k56_open (Kd.FK_now h);exact ⟨A0, c0, A4, c4, A5, c5, A6, c6, rfl, l0, (fun W' hW => by obtain ⟨A0_, c0_, A4_, c4_, A5_, c5_, A6_, c6_, he, l0_, g0_, l4_, g4_, l5_, g5_, l6_, g6_⟩ := k56_open (h W' hW); injection (Option.some.inj (show some (Value.slice A0 x.f0.f0.length c0) = some (Value.slice A0_ x.f0.f0.length c0_) from congrArg (fun l => l[0]?) he)) with ha_ _ _; rw [ha_]; exact g0_), l4, (fun W' hW => by obtain ⟨A0_, c0_, A4_, c4_, A5_, c5_, A6_, c6_, he, l0_, g0_, l4_, g4_, l5_, g5_, l6_, g6_⟩ := k56_open (h W' hW); injection (Option.some.inj (show some (Value.slice A4 x.f4.f0.length c4) = some (Value.slice A4_ x.f4.f0.length c4_) from congrArg (fun l => l[4]?) he)) with ha_ _ _; rw [ha_]; exact g4_), l5, (fun W' hW => by obtain ⟨A0_, c0_, A4_, c4_, A5_, c5_, A6_, c6_, he, l0_, g0_, l4_, g4_, l5_, g5_, l6_, g6_⟩ := k56_open (h W' hW); injection (Option.some.inj (show some (Value.slice A5 x.f5.length c5) = some (Value.slice A5_ x.f5.length c5_) from congrArg (fun l => l[5]?) he)) with ha_ _ _; rw [ha_]; exact g5_), l6, (fun W' hW => by obtain ⟨A0_, c0_, A4_, c4_, A5_, c5_, A6_, c6_, he, l0_, g0_, l4_, g4_, l5_, g5_, l6_, g6_⟩ := k56_open (h W' hW); injection (Option.some.inj (show some (Value.slice A6 x.f6.length c6) = some (Value.slice A6_ x.f6.length c6_) from congrArg (fun l => l[6]?) he)) with ha_ _ _; rw [ha_]; exact g6_)⟩
theorem k56_mkF (W : World) (ok : Nat → Prop) (x : S56) {A0 : Option Addr} {c0 : Nat} (l0 : x.f0.f0.length ≤ c0) (g0 : Kd.F (Kd.slice 5 (Kd.int .u8)) W ok A0 x.f0.f0.length x.f0.f0) {A4 : Option Addr} {c4 : Nat} (l4 : x.f4.f0.length ≤ c4) (g4 : Kd.F (Kd.slice 5 (Kd.int .u8)) W ok A4 x.f4.f0.length x.f4.f0) {A5 : Option Addr} {c5 : Nat} (l5 : x.f5.length ≤ c5) (g5 : Kd.F (Kd.int .u8) W ok A5 x.f5.length x.f5) {A6 : Option Addr} {c6 : Nat} (l6 : x.f6.length ≤ c6) (g6 : Kd.F (Kd.int .i64) W ok A6 x.f6.length x.f6) : Kd.FK k56 W ok x [.slice A0 x.f0.f0.length c0, .int .i64 x.f1, .int .i64 x.f2, .int .i64 x.f3, .slice A4 x.f4.f0.length c4, .slice A5 x.f5.length c5, .slice A6 x.f6.length c6] := fun W2 hW => k56_mk W2 x l0 (g0 W2 hW) l4 (g4 W2 hW) l5 (g5 W2 hW) l6 (g6 W2 hW)
def qa (xs : List S56) (i : Int) : S56 := xs.getD i.toNat z56
theorem qa2 {w : World} {A : Option Addr} {n : Nat} {xs : List S56} (h : Kd.C k56 w A n xs) (i : Int) (h0 : 0 ≤ i) (h1 : i < n) : ∃ ad A0 c0 A4 c4 A5 c5 A6 c6, A = some ad ∧ w.cell? (ad.add (i.toNat * 7)) = some (.slice A0 (qa xs i).f0.f0.length c0) ∧ w.cell? ⟨(ad.add (i.toNat * 7)).block, (ad.add (i.toNat * 7)).off + 1, none⟩ = some (.int .i64 (qa xs i).f1) ∧ w.cell? ⟨(ad.add (i.toNat * 7)).block, (ad.add (i.toNat * 7)).off + 2, none⟩ = some (.int .i64 (qa xs i).f2) ∧ w.cell? ⟨(ad.add (i.toNat * 7)).block, (ad.add (i.toNat * 7)).off + 3, none⟩ = some (.int .i64 (qa xs i).f3) ∧ w.cell? ⟨(ad.add (i.toNat * 7)).block, (ad.add (i.toNat * 7)).off + 4, none⟩ = some (.slice A4 (qa xs i).f4.f0.length c4) ∧ w.cell? ⟨(ad.add (i.toNat * 7)).block, (ad.add (i.toNat * 7)).off + 5, none⟩ = some (.slice A5 (qa xs i).f5.length c5) ∧ w.cell? ⟨(ad.add (i.toNat * 7)).block, (ad.add (i.toNat * 7)).off + 6, none⟩ = some (.slice A6 (qa xs i).f6.length c6) ∧ (qa xs i).f0.f0.length ≤ c0 ∧ (Kd.slice 5 (Kd.int .u8)).C w A0 (qa xs i).f0.f0.length (qa xs i).f0.f0 ∧ (qa xs i).f4.f0.length ≤ c4 ∧ (Kd.slice 5 (Kd.int .u8)).C w A4 (qa xs i).f4.f0.length (qa xs i).f4.f0 ∧ (qa xs i).f5.length ≤ c5 ∧ (Kd.int .u8).C w A5 (qa xs i).f5.length (qa xs i).f5 ∧ (qa xs i).f6.length ≤ c6 ∧ (Kd.int .i64).C w A6 (qa xs i).f6.length (qa xs i).f6 := by
  obtain ⟨ad, c, e, _, hK, hc0⟩ := Kd.C_get h z56 i h0 h1;have hc : ∀ j u, c[j]? = some u → w.cell? (ad.add (i.toNat * 7 + j)) = some u := hc0;obtain ⟨A0, c0, A4, c4, A5, c5, A6, c6, rfl, l0, g0, l4, g4, l5, g5, l6, g6⟩ := k56_open hK;exact ⟨ad, A0, c0, A4, c4, A5, c5, A6, c6, e, hc 0 _ rfl, by rw [← add_field _ _ 1 (by omega)]; exact hc 1 _ rfl, by rw [← add_field _ _ 2 (by omega)]; exact hc 2 _ rfl, by rw [← add_field _ _ 3 (by omega)]; exact hc 3 _ rfl, by rw [← add_field _ _ 4 (by omega)]; exact hc 4 _ rfl, by rw [← add_field _ _ 5 (by omega)]; exact hc 5 _ rfl, by rw [← add_field _ _ 6 (by omega)]; exact hc 6 _ rfl, l0, g0, l4, g4, l5, g5, l6, g6⟩

/-! #### struct type 34 -/
/-! #### struct type 35 -/
/-! #### struct type 58 -/
structure S58 where
  f0 : S56
  f1 : Int
  f2 : Bool
def z58 : S58 := ⟨z56, (0 : Int), false⟩
def k58 : Kd S58 := Kd.iso (Kd.pair k56 (Kd.pair (Kd.int .i64) Kd.bool)) (fun x : S58 => (x.f0, x.f1, x.f2))
theorem k58_open {w : World} {x : S58} {cs : List Value} (h : k58.K w x cs) : ∃ A0 c0 A4 c4 A5 c5 A6 c6, cs = [.slice A0 x.f0.f0.f0.length c0, .int .i64 x.f0.f1, .int .i64 x.f0.f2, .int .i64 x.f0.f3, .slice A4 x.f0.f4.f0.length c4, .slice A5 x.f0.f5.length c5, .slice A6 x.f0.f6.length c6, .int .i64 x.f1, .bool x.f2] ∧ x.f0.f0.f0.length ≤ c0 ∧ (Kd.slice 5 (Kd.int .u8)).C w A0 x.f0.f0.f0.length x.f0.f0.f0 ∧ x.f0.f4.f0.length ≤ c4 ∧ (Kd.slice 5 (Kd.int .u8)).C w A4 x.f0.f4.f0.length x.f0.f4.f0 ∧ x.f0.f5.length ≤ c5 ∧ (Kd.int .u8).C w A5 x.f0.f5.length x.f0.f5 ∧ x.f0.f6.length ≤ c6 ∧ (Kd.int .i64).C w A6 x.f0.f6.length x.f0.f6 := by
  obtain ⟨_, _, rfl, s0, ⟨_, _, rfl, rfl, rfl⟩⟩ := h;obtain ⟨A0, c0, A4, c4, A5, c5, A6, c6, rfl, l0, g0, l4, g4, l5, g5, l6, g6⟩ := k56_open s0;exact ⟨A0, c0, A4, c4, A5, c5, A6, c6, rfl, l0, g0, l4, g4, l5, g5, l6, g6⟩
theorem k58_openM {w : World} {base : Nat} {ok : Nat → Prop} {x : S58} {cs : List Value} (h : k58.M w base ok x cs) : ∃ v0 v4 v5 v6, cs = [v0, .int .i64 x.f0.f1, .int .i64 x.f0.f2, .int .i64 x.f0.f3, v4, v5, v6, .int .i64 x.f1, .bool x.f2] ∧ (Kd.slice 5 (Kd.int .u8)).R 45 w base ok v0 x.f0.f0.f0 ∧ (Kd.slice 5 (Kd.int .u8)).R 45 w base ok v4 x.f0.f4.f0 ∧ (Kd.int .u8).R 5 w base ok v5 x.f0.f5 ∧ (Kd.int .i64).R 3 w base ok v6 x.f0.f6 := by
  obtain ⟨_, _, rfl, s0, ⟨_, _, rfl, rfl, rfl⟩⟩ := h;obtain ⟨v0, v4, v5, v6, rfl, g0, g4, g5, g6⟩ := k56_openM s0;exact ⟨v0, v4, v5, v6, rfl, g0, g4, g5, g6⟩
theorem k58_mkM (w : World) (base : Nat) (ok : Nat → Prop) (x : S58) {v0 : Value} (g0 : (Kd.slice 5 (Kd.int .u8)).R 45 w base ok v0 x.f0.f0.f0) {v4 : Value} (g4 : (Kd.slice 5 (Kd.int .u8)).R 45 w base ok v4 x.f0.f4.f0) {v5 : Value} (g5 : (Kd.int .u8).R 5 w base ok v5 x.f0.f5) {v6 : Value} (g6 : (Kd.int .i64).R 3 w base ok v6 x.f0.f6) : k58.M w base ok x [v0, .int .i64 x.f0.f1, .int .i64 x.f0.f2, .int .i64 x.f0.f3, v4, v5, v6, .int .i64 x.f1, .bool x.f2] := ⟨[v0, .int .i64 x.f0.f1, .int .i64 x.f0.f2, .int .i64 x.f0.f3, v4, v5, v6], [.int .i64 x.f1, .bool x.f2], rfl, (k56_mkM w base ok x.f0 g0 g4 g5 g6), ⟨[.int .i64 x.f1], [.bool x.f2], rfl, rfl, rfl⟩⟩
def qg (xs : List S58) (i : Int) : S58 := xs.getD i.toNat z58
theorem qa1 {w : World} {A : Option Addr} {n : Nat} {xs : List S58} (h : Kd.C k58 w A n xs) (i : Int) (h0 : 0 ≤ i) (h1 : i < n) : ∃ ad A0 c0 A4 c4 A5 c5 A6 c6, A = some ad ∧ w.cell? (ad.add (i.toNat * 9)) = some (.slice A0 (qg xs i).f0.f0.f0.length c0) ∧ w.cell? ⟨(ad.add (i.toNat * 9)).block, (ad.add (i.toNat * 9)).off + 1, none⟩ = some (.int .i64 (qg xs i).f0.f1) ∧ w.cell? ⟨(ad.add (i.toNat * 9)).block, (ad.add (i.toNat * 9)).off + 2, none⟩ = some (.int .i64 (qg xs i).f0.f2) ∧ w.cell? ⟨(ad.add (i.toNat * 9)).block, (ad.add (i.toNat * 9)).off + 3, none⟩ = some (.int .i64 (qg xs i).f0.f3) ∧ w.cell? ⟨(ad.add (i.toNat * 9)).block, (ad.add (i.toNat * 9)).off + 4, none⟩ = some (.slice A4 (qg xs i).f0.f4.f0.length c4) ∧ w.cell? ⟨(ad.add (i.toNat * 9)).block, (ad.add (i.toNat * 9)).off + 5, none⟩ = some (.slice A5 (qg xs i).f0.f5.length c5) ∧ w.cell? ⟨(ad.add (i.toNat * 9)).block, (ad.add (i.toNat * 9)).off + 6, none⟩ = some (.slice A6 (qg xs i).f0.f6.length c6) ∧ w.cell? ⟨(ad.add (i.toNat * 9)).block, (ad.add (i.toNat * 9)).off + 7, none⟩ = some (.int .i64 (qg xs i).f1) ∧ w.cell? ⟨(ad.add (i.toNat * 9)).block, (ad.add (i.toNat * 9)).off + 8, none⟩ = some (.bool (qg xs i).f2) ∧ (qg xs i).f0.f0.f0.length ≤ c0 ∧ (Kd.slice 5 (Kd.int .u8)).C w A0 (qg xs i).f0.f0.f0.length (qg xs i).f0.f0.f0 ∧ (qg xs i).f0.f4.f0.length ≤ c4 ∧ (Kd.slice 5 (Kd.int .u8)).C w A4 (qg xs i).f0.f4.f0.length (qg xs i).f0.f4.f0 ∧ (qg xs i).f0.f5.length ≤ c5 ∧ (Kd.int .u8).C w A5 (qg xs i).f0.f5.length (qg xs i).f0.f5 ∧ (qg xs i).f0.f6.length ≤ c6 ∧ (Kd.int .i64).C w A6 (qg xs i).f0.f6.length (qg xs i).f0.f6 := by
  obtain ⟨ad, c, e, _, hK, hc0⟩ := Kd.C_get h z58 i h0 h1;have hc : ∀ j u, c[j]? = some u → w.cell? (ad.add (i.toNat * 9 + j)) = some u := hc0;obtain ⟨A0, c0, A4, c4, A5, c5, A6, c6, rfl, l0, g0, l4, g4, l5, g5, l6, g6⟩ := k58_open hK;exact ⟨ad, A0, c0, A4, c4, A5, c5, A6, c6, e, hc 0 _ rfl, by rw [← add_field _ _ 1 (by omega)]; exact hc 1 _ rfl, by rw [← add_field _ _ 2 (by omega)]; exact hc 2 _ rfl, by rw [← add_field _ _ 3 (by omega)]; exact hc 3 _ rfl, by rw [← add_field _ _ 4 (by omega)]; exact hc 4 _ rfl, by rw [← add_field _ _ 5 (by omega)]; exact hc 5 _ rfl, by rw [← add_field _ _ 6 (by omega)]; exact hc 6 _ rfl, by rw [← add_field _ _ 7 (by omega)]; exact hc 7 _ rfl, by rw [← add_field _ _ 8 (by omega)]; exact hc 8 _ rfl, l0, g0, l4, g4, l5, g5, l6, g6⟩

/-! #### struct type 47 -/
/-! #### struct type 49 -/
/-! #### struct type 55 -/
/-! #### struct type 57 -/
/-- One world is another one with blocks made and draws taken. -/
def Gr (A W : World) : Prop := Below A.heap.size A W
instance Gr.refl_ (A : World) : Nonempty (Gr A A) := ⟨Below.refl _ _⟩
instance Gr.alloc_ (A W : World) (o : Obj) [h : Nonempty (Gr A W)] : Nonempty (Gr A (W.alloc o)) := h.elim fun h => ⟨below_alloc h o⟩
instance Gr.drew_ (A W : World) [h : Nonempty (Gr A W)] : Nonempty (Gr A W.drew) := h.elim fun h => ⟨below_drew h⟩
instance Gr.drewN_ (A W : World) (n : Nat) [h : Nonempty (Gr A W)] : Nonempty (Gr A (W.drewN n)) := h.elim fun h => ⟨pw_below_drewN h n⟩
section
variable {α : Type} {d : Kd α} {e base n : Nat} {ok : Nat → Prop} {w W W' : World} {v : Value} {xs : List α} {A : Option Addr}
theorem bw (h : Below w.heap.size w W) [g : Nonempty (Gr W W')] : Below w.heap.size w W' := g.elim fun g => below_step h g
theorem bk {g : Nat} {o : Obj} (h : W.heap[g]? = some o) [k : Nonempty (Gr W W')] : W'.heap[g]? = some o := k.elim fun k => blk_below h k
theorem cw (h : d.C w A n xs) (hb : Below w.heap.size w W) [g : Nonempty (Gr W W')] : d.C W' A n xs := Kd.C_below h (bw hb)
theorem rw_ (h : d.R e W base ok v xs) [g : Nonempty (Gr W W')] : d.R e W' base ok v xs := g.elim fun g => Kd.R_below h g
theorem sw (h : d.S e W base ok v xs) [g : Nonempty (Gr W W')] : d.S e W' base ok v xs := g.elim fun g => Kd.S_below h g
end
section
variable {W : World} {g t : Nat} {a b c d e f x y z : Value}
theorem cells1 (h : W.heap[g]? = some (.cells #[a] t (0, 0))) : W.cell? ⟨g, 0, none⟩ = some a ∧ W.frozen? ⟨g, 0, none⟩ = false := ⟨(blk_cell h 0).trans rfl, blk_frozen h 0⟩
theorem cells2 (h : W.heap[g]? = some (.cells #[a, b] t (0, 0))) : W.cell? ⟨g, 0, none⟩ = some a ∧ W.cell? ⟨g, 1, none⟩ = some b ∧ W.frozen? ⟨g, 0, none⟩ = false ∧ W.frozen? ⟨g, 1, none⟩ = false :=
  ⟨(blk_cell h 0).trans rfl, (blk_cell h 1).trans rfl, blk_frozen h 0, blk_frozen h 1⟩
theorem cells7 (h : W.heap[g]? = some (.cells #[a, b, c, d, e, f, x] t (0, 0))) : W.cell? ⟨g, 0, none⟩ = some a ∧ W.cell? ⟨g, 1, none⟩ = some b ∧ W.cell? ⟨g, 2, none⟩ = some c ∧ W.cell? ⟨g, 3, none⟩ = some d ∧ W.cell? ⟨g, 4, none⟩ = some e ∧ W.cell? ⟨g, 5, none⟩ = some f ∧ W.cell? ⟨g, 6, none⟩ = some x ∧ W.frozen? ⟨g, 0, none⟩ = false ∧ W.frozen? ⟨g, 1, none⟩ = false ∧ W.frozen? ⟨g, 2, none⟩ = false ∧ W.frozen? ⟨g, 3, none⟩ = false ∧ W.frozen? ⟨g, 4, none⟩ = false ∧ W.frozen? ⟨g, 5, none⟩ = false ∧ W.frozen? ⟨g, 6, none⟩ = false :=
  ⟨(blk_cell h 0).trans rfl, (blk_cell h 1).trans rfl, (blk_cell h 2).trans rfl, (blk_cell h 3).trans rfl, (blk_cell h 4).trans rfl, (blk_cell h 5).trans rfl, (blk_cell h 6).trans rfl, blk_frozen h 0, blk_frozen h 1, blk_frozen h 2, blk_frozen h 3, blk_frozen h 4, blk_frozen h 5, blk_frozen h 6⟩
theorem cells9 (h : W.heap[g]? = some (.cells #[a, b, c, d, e, f, x, y, z] t (0, 0))) : W.cell? ⟨g, 0, none⟩ = some a ∧ W.cell? ⟨g, 1, none⟩ = some b ∧ W.cell? ⟨g, 2, none⟩ = some c ∧ W.cell? ⟨g, 3, none⟩ = some d ∧ W.cell? ⟨g, 4, none⟩ = some e ∧ W.cell? ⟨g, 5, none⟩ = some f ∧ W.cell? ⟨g, 6, none⟩ = some x ∧ W.cell? ⟨g, 7, none⟩ = some y ∧ W.cell? ⟨g, 8, none⟩ = some z ∧ W.frozen? ⟨g, 0, none⟩ = false ∧ W.frozen? ⟨g, 1, none⟩ = false ∧ W.frozen? ⟨g, 2, none⟩ = false ∧ W.frozen? ⟨g, 3, none⟩ = false ∧ W.frozen? ⟨g, 4, none⟩ = false ∧ W.frozen? ⟨g, 5, none⟩ = false ∧ W.frozen? ⟨g, 6, none⟩ = false ∧ W.frozen? ⟨g, 7, none⟩ = false ∧ W.frozen? ⟨g, 8, none⟩ = false :=
  ⟨(blk_cell h 0).trans rfl, (blk_cell h 1).trans rfl, (blk_cell h 2).trans rfl, (blk_cell h 3).trans rfl, (blk_cell h 4).trans rfl, (blk_cell h 5).trans rfl, (blk_cell h 6).trans rfl, (blk_cell h 7).trans rfl, (blk_cell h 8).trans rfl, blk_frozen h 0, blk_frozen h 1, blk_frozen h 2, blk_frozen h 3, blk_frozen h 4, blk_frozen h 5, blk_frozen h 6, blk_frozen h 7, blk_frozen h 8⟩
end
section
variable {P : Program} {ops : Array Oper} {rest : List Oper} {o : Oper} {a : Act} {Q : Exit → Act → World → Prop}
/-- A struct's variable is made. -/
theorem boxed {w W0 W : World} {N : Tmp} (_hN : o.dst = some N) (hgd : o.guard = none) {cs : Array Value} {t : TypeId} (hB : Below w.heap.size w W0) [gr : Nonempty (Gr W0 W)]
    (hrun : (execOp a.eval o).run P W = .ok (.value (.pointer (some ⟨W.heap.size, 0, none⟩))) (W.alloc (.cells cs t (0, 0))))
    (h : ∀ g, ∀ w1, g = W.heap.size → Aside0 (Below w.heap.size w w1) → Aside0 (w1.heap[g]? = some (.cells cs t (0, 0))) → Aside0 (w.heap.size ≤ g) → Below W.heap.size W w1 → wpList P ops Q rest (a.put o.dst (.pointer (some ⟨g, 0, none⟩))) w1) : wpList P ops Q (o :: rest) a W := by
  have hB' : Below w.heap.size w W := bw hB;exact box_event hgd _hN hrun (fun g hg w1 hbox hb => h g w1 hg ⟨below_step hB' hb⟩ ⟨hbox⟩ ⟨by rw [hg]; exact hB'.size⟩ hb)
end
section
variable {α : Type} {d : Kd α} {e base g k t : Nat} {ok : Nat → Prop} {W : World} {v : Value} {xs : List α} {cs : Array Value} {l : List Nat}
end
/-- Which operations of a region are done: n places, told by a number's bits. -/
def bA (n m : Nat) : Array Bool := ((List.range n).map fun i => m.testBit i).toArray
section
variable {α : Type} {d : Kd α} {e base g g' t : Nat} {ok : Nat → Prop} {W W1 : World} {v : Value} {xs : List α} {cs : Array Value} {fr : Nat × Nat}
theorem far2R {v0 v1 : Value} (h : Kd.R d e W base ok v xs) [k : Nonempty (Gr W W1)] (hb : W1.heap[g]? = some (.cells cs t (0, 0))) (ht : ∀ q, q ∈ e :: d.E → q ≠ t) : Kd.R d e ((W1.setCell ⟨g, 0, none⟩ v0).setCell ⟨g, 1, none⟩ v1) base ok v xs :=
  Kd.R_mono (Kd.R_far (p := ⟨g, 1, none⟩) (Kd.R_far (p := ⟨g, 0, none⟩) (Kd.R_types (rw_ h) hb ht) (fun _ hk => hk.2) _) (fun _ hk => hk.2) _) (fun _ h_ => h_.1)
theorem far2S {v0 v1 : Value} (h : Kd.S d e W base ok v xs) [k : Nonempty (Gr W W1)] (hb : W1.heap[g]? = some (.cells cs t (0, 0))) (ht : ∀ q, q ∈ e :: d.E → q ≠ t) : Kd.S d e ((W1.setCell ⟨g, 0, none⟩ v0).setCell ⟨g, 1, none⟩ v1) base ok v xs :=
  Kd.S_mono (Kd.S_far (p := ⟨g, 1, none⟩) (Kd.S_far (p := ⟨g, 0, none⟩) (Kd.S_types (sw h) hb ht) (fun _ hk => hk.2) _) (fun _ hk => hk.2) _) (fun _ h_ => h_.1)
theorem qyJ {v0 v1 : Value} (hn : g ≠ g') (h : W.heap[g]? = some (.cells cs t (0, 0))) [k : Nonempty (Gr W W1)] : ((W1.setCell ⟨g', 0, none⟩ v0).setCell ⟨g', 1, none⟩ v1).heap[g]? = some (.cells cs t (0, 0)) := (blk_far (blk_far (bk h) hn _) hn _)
theorem qyI {v0 v1 z0 z1 : Value} (h : W.heap[g]? = some (.cells #[z0, z1] t (0, 0))) [k : Nonempty (Gr W W1)] : ((W1.setCell ⟨g, 0, none⟩ v0).setCell ⟨g, 1, none⟩ v1).heap[g]? = some (.cells #[v0, v1] t (0, 0)) := (blk_put (cs' := #[v0, v1]) (blk_put (cs' := #[v0, z1]) (bk h) 0 v0 rfl) 1 v1 rfl)
theorem far7N {v0 v1 v2 v3 v4 v5 v6 : Value} (h : Kd.N d e W base ok v xs) (hp : ∀ k, ok k → k ≠ g) : Kd.N d e (((((((W.setCell ⟨g, 0, none⟩ v0).setCell ⟨g, 1, none⟩ v1).setCell ⟨g, 2, none⟩ v2).setCell ⟨g, 3, none⟩ v3).setCell ⟨g, 4, none⟩ v4).setCell ⟨g, 5, none⟩ v5).setCell ⟨g, 6, none⟩ v6) base ok v xs := (Kd.N_far (p := ⟨g, 6, none⟩) (Kd.N_far (p := ⟨g, 5, none⟩) (Kd.N_far (p := ⟨g, 4, none⟩) (Kd.N_far (p := ⟨g, 3, none⟩) (Kd.N_far (p := ⟨g, 2, none⟩) (Kd.N_far (p := ⟨g, 1, none⟩) (Kd.N_far (p := ⟨g, 0, none⟩) h hp _) hp _) hp _) hp _) hp _) hp _) hp _)
theorem far7V {v0 v1 v2 v3 v4 v5 v6 : Value} (h : Kd.V d e W base ok v xs) (hp : ∀ k, ok k → k ≠ g) : Kd.V d e (((((((W.setCell ⟨g, 0, none⟩ v0).setCell ⟨g, 1, none⟩ v1).setCell ⟨g, 2, none⟩ v2).setCell ⟨g, 3, none⟩ v3).setCell ⟨g, 4, none⟩ v4).setCell ⟨g, 5, none⟩ v5).setCell ⟨g, 6, none⟩ v6) base ok v xs := (Kd.V_far (p := ⟨g, 6, none⟩) (Kd.V_far (p := ⟨g, 5, none⟩) (Kd.V_far (p := ⟨g, 4, none⟩) (Kd.V_far (p := ⟨g, 3, none⟩) (Kd.V_far (p := ⟨g, 2, none⟩) (Kd.V_far (p := ⟨g, 1, none⟩) (Kd.V_far (p := ⟨g, 0, none⟩) h hp _) hp _) hp _) hp _) hp _) hp _) hp _)
theorem Ja {v0 v1 v2 v3 v4 v5 v6 : Value} (hn : g ≠ g') (h : W.heap[g]? = some (.cells cs t (0, 0))) [k : Nonempty (Gr W W1)] : (((((((W1.setCell ⟨g', 0, none⟩ v0).setCell ⟨g', 1, none⟩ v1).setCell ⟨g', 2, none⟩ v2).setCell ⟨g', 3, none⟩ v3).setCell ⟨g', 4, none⟩ v4).setCell ⟨g', 5, none⟩ v5).setCell ⟨g', 6, none⟩ v6).heap[g]? = some (.cells cs t (0, 0)) := (blk_far (blk_far (blk_far (blk_far (blk_far (blk_far (blk_far (bk h) hn _) hn _) hn _) hn _) hn _) hn _) hn _)
theorem JQ {v0 v1 v2 v3 v4 v5 v6 z0 z1 z2 z3 z4 z5 z6 : Value} (h : W.heap[g]? = some (.cells #[z0, z1, z2, z3, z4, z5, z6] t (0, 0))) [k : Nonempty (Gr W W1)] : (((((((W1.setCell ⟨g, 0, none⟩ v0).setCell ⟨g, 1, none⟩ v1).setCell ⟨g, 2, none⟩ v2).setCell ⟨g, 3, none⟩ v3).setCell ⟨g, 4, none⟩ v4).setCell ⟨g, 5, none⟩ v5).setCell ⟨g, 6, none⟩ v6).heap[g]? = some (.cells #[v0, v1, v2, v3, v4, v5, v6] t (0, 0)) := (blk_put (cs' := #[v0, v1, v2, v3, v4, v5, v6]) (blk_put (cs' := #[v0, v1, v2, v3, v4, v5, z6]) (blk_put (cs' := #[v0, v1, v2, v3, v4, z5, z6]) (blk_put (cs' := #[v0, v1, v2, v3, z4, z5, z6]) (blk_put (cs' := #[v0, v1, v2, z3, z4, z5, z6]) (blk_put (cs' := #[v0, v1, z2, z3, z4, z5, z6]) (blk_put (cs' := #[v0, z1, z2, z3, z4, z5, z6]) (bk h) 0 v0 rfl) 1 v1 rfl) 2 v2 rfl) 3 v3 rfl) 4 v4 rfl) 5 v5 rfl) 6 v6 rfl)
theorem qcH {v0 v1 v2 v3 v4 v5 v6 v7 v8 : Value} (hn : g ≠ g') (h : W.heap[g]? = some (.cells cs t (0, 0))) [k : Nonempty (Gr W W1)] : (((((((((W1.setCell ⟨g', 0, none⟩ v0).setCell ⟨g', 1, none⟩ v1).setCell ⟨g', 2, none⟩ v2).setCell ⟨g', 3, none⟩ v3).setCell ⟨g', 4, none⟩ v4).setCell ⟨g', 5, none⟩ v5).setCell ⟨g', 6, none⟩ v6).setCell ⟨g', 7, none⟩ v7).setCell ⟨g', 8, none⟩ v8).heap[g]? = some (.cells cs t (0, 0)) := (blk_far (blk_far (blk_far (blk_far (blk_far (blk_far (blk_far (blk_far (blk_far (bk h) hn _) hn _) hn _) hn _) hn _) hn _) hn _) hn _) hn _)
theorem qcG {v0 v1 v2 v3 v4 v5 v6 v7 v8 z0 z1 z2 z3 z4 z5 z6 z7 z8 : Value} (h : W.heap[g]? = some (.cells #[z0, z1, z2, z3, z4, z5, z6, z7, z8] t (0, 0))) [k : Nonempty (Gr W W1)] : (((((((((W1.setCell ⟨g, 0, none⟩ v0).setCell ⟨g, 1, none⟩ v1).setCell ⟨g, 2, none⟩ v2).setCell ⟨g, 3, none⟩ v3).setCell ⟨g, 4, none⟩ v4).setCell ⟨g, 5, none⟩ v5).setCell ⟨g, 6, none⟩ v6).setCell ⟨g, 7, none⟩ v7).setCell ⟨g, 8, none⟩ v8).heap[g]? = some (.cells #[v0, v1, v2, v3, v4, v5, v6, v7, v8] t (0, 0)) := (blk_put (cs' := #[v0, v1, v2, v3, v4, v5, v6, v7, v8]) (blk_put (cs' := #[v0, v1, v2, v3, v4, v5, v6, v7, z8]) (blk_put (cs' := #[v0, v1, v2, v3, v4, v5, v6, z7, z8]) (blk_put (cs' := #[v0, v1, v2, v3, v4, v5, z6, z7, z8]) (blk_put (cs' := #[v0, v1, v2, v3, v4, z5, z6, z7, z8]) (blk_put (cs' := #[v0, v1, v2, v3, z4, z5, z6, z7, z8]) (blk_put (cs' := #[v0, v1, v2, z3, z4, z5, z6, z7, z8]) (blk_put (cs' := #[v0, v1, z2, z3, z4, z5, z6, z7, z8]) (blk_put (cs' := #[v0, z1, z2, z3, z4, z5, z6, z7, z8]) (bk h) 0 v0 rfl) 1 v1 rfl) 2 v2 rfl) 3 v3 rfl) 4 v4 rfl) 5 v5 rfl) 6 v6 rfl) 7 v7 rfl) 8 v8 rfl)
end

section
variable {α β : Type} {A B r : Option α}
theorem bnd {o : Option β} {f : β → Option α} {r : α} (h : o.bind f = some r) : ∃ x, Aside0 (o = some x) ∧ f x = some r := (Option.bind_eq_some_iff.mp h).elim fun x h => ⟨x, ⟨h.1⟩, h.2⟩
theorem bnS {x : β} {f : β → Option α} (h : (some x).bind f = r) : f x = r := h
theorem ib {t : Bool} (h : (if t = true then A else B) = r) : (t = true ∧ A = r) ∨ (t = false ∧ B = r) := by cases t; exact .inr ⟨rfl, h⟩; exact .inl ⟨rfl, h⟩
theorem ibN {t : Bool} {r : α} (h : (if t = true then A else none) = some r) : t = true ∧ A = some r := by cases t; cases h; exact ⟨rfl, h⟩
section
variable {p : Prop} [Decidable p]
theorem iq (h : (if p then A else B) = r) : (p ∧ A = r) ∨ (¬ p ∧ B = r) := by
  by_cases c : p
  · exact .inl ⟨c, by rwa [if_pos c] at h⟩
  · exact .inr ⟨c, by rwa [if_neg c] at h⟩
theorem iqN {r : α} (h : (if p then A else none) = some r) : p ∧ A = some r := by
  obtain h | h := iq h
  · exact h
  · cases h.2
theorem ip (h : (if p then A else B) = r) : (decide p = true ∧ A = r) ∨ (decide p = false ∧ B = r) := (iq h).imp (fun h => ⟨decide_eq_true h.1, h.2⟩) (fun h => ⟨decide_eq_false h.1, h.2⟩)
theorem ipN {r : α} (h : (if p then A else none) = some r) : decide p = true ∧ A = some r := ⟨decide_eq_true (iqN h).1, (iqN h).2⟩
theorem ipE {r : α} (h : (if p then A else none) = some r) : p = True ∧ decide p = true ∧ A = some r := ⟨eq_true (iqN h).1, decide_eq_true (iqN h).1, (iqN h).2⟩
end
section
variable {a b : Int}
theorem ig (h : (if a > b then A else B) = r) : (decide (b < a) = true ∧ A = r) ∨ (decide (b < a) = false ∧ B = r) := ip h
theorem ih (h : (if a ≥ b then A else B) = r) : (decide (b ≤ a) = true ∧ A = r) ∨ (decide (b ≤ a) = false ∧ B = r) := ip h
end
section
variable {τ : Type} [BEq τ] [LawfulBEq τ] {a b : τ} [Decidable (a = b)]
theorem ie (h : (if a = b then A else B) = r) : ((a == b) = true ∧ (a != b) = false ∧ A = r) ∨ ((a == b) = false ∧ (a != b) = true ∧ B = r) := (iq h).imp (fun h => ⟨beq_iff_eq.mpr h.1, bne_eq_false_iff_eq.mpr h.1, h.2⟩) (fun h => ⟨beq_eq_false_iff_ne.mpr h.1, bne_iff_ne.mpr h.1, h.2⟩)
theorem ieN {r : α} (h : (if a = b then A else none) = some r) : (a == b) = true ∧ (a != b) = false ∧ A = some r := ⟨beq_iff_eq.mpr (iqN h).1, bne_eq_false_iff_eq.mpr (iqN h).1, (iqN h).2⟩
end
end
theorem lnT {a b : Nat} (h : ((a : Int) == (b : Int)) = true) : (a == b) = true := by have := beq_iff_eq.mp h; exact beq_iff_eq.mpr (by omega)
theorem lnF {a b : Nat} (h : ((a : Int) == (b : Int)) = false) : (a == b) = false := by have := beq_eq_false_iff_ne.mp h; exact beq_eq_false_iff_ne.mpr (by omega)
section
variable {α : Type} {d : Kd α} {e base n g t : Nat} {ok : Nat → Prop} {w W W' W2 : World} {v : Value} {xs : List α} {A : Option Addr} {o : Obj}
theorem ak {p : Prop} (h : p) : Aside0 p := ⟨h⟩
theorem cv (h : Aside0 (d.C w A n xs)) (hb : Aside0 (Below w.heap.size w W)) [Nonempty (Gr W W')] : d.C W' A n xs := cw h.out hb.out
theorem cd (h : Aside0 (d.C w A n xs)) [g : Nonempty (Gr w W')] : d.C W' A n xs := g.elim fun g => Kd.C_below h.out g
theorem nw (h : d.N e W base ok v xs) [g : Nonempty (Gr W W')] : d.N e W' base ok v xs := g.elim fun g => Kd.N_below h g
theorem vw (h : d.V e W base ok v xs) [g : Nonempty (Gr W W')] : d.V e W' base ok v xs := g.elim fun g => Kd.V_below h g
theorem b1 (h : Aside0 (W.heap[g]? = some o)) [Nonempty (Gr W W')] (hb : Below W'.heap.size W' W2) : Aside0 (W2.heap[g]? = some o) := ⟨blk_below (bk h.out) hb⟩
theorem b2 (h : Aside0 (Below w.heap.size w W)) [Nonempty (Gr W W')] (hb : Below W'.heap.size W' W2) : Aside0 (Below w.heap.size w W2) := ⟨below_step (bw h.out) hb⟩
theorem b2s (h : Below w.heap.size w W) (hb : Below W.heap.size W W2) : Aside0 (Below w.heap.size w W2) := ⟨below_step h hb⟩
theorem b3 (hg : g = W'.heap.size) (h : Aside0 (Below w.heap.size w W)) [Nonempty (Gr W W')] : Aside0 (w.heap.size ≤ g) := ⟨by rw [hg]; exact below_size (bw h.out)⟩
theorem b3s (hg : g = W.heap.size) (h : Below w.heap.size w W) : Aside0 (w.heap.size ≤ g) := ⟨by rw [hg]; exact below_size h⟩
theorem b4 {g1 : Nat} (hg : g = W'.heap.size) (h : Aside0 (W.heap[g1]? = some o)) [Nonempty (Gr W W')] : Aside0 (g1 ≠ g) := ⟨by rw [hg]; exact Nat.ne_of_lt (blk_lt (bk h.out))⟩
theorem b5 {g1 : Nat} (hg : g = W'.heap.size) (h : Aside0 (W.heap[g1]? = some o)) [Nonempty (Gr W W')] : Aside0 (g ≠ g1) := ⟨by rw [hg]; exact Nat.ne_of_gt (blk_lt (bk h.out))⟩
end
/-- What was is still as it was: through stores into blocks that were made since. -/
theorem bs {p : Prop} (h : p := by repeat (first | (with_reducible refine below_set ?_ (Aside0.out (by with_reducible assumption))) | exact bw HB.out)) : p := h
theorem o1 {p : Prop} (h : p := by first | rfl | (simp [errW_none, errW_some] <;> rfl) | (simp [*, errW_none, errW_some] <;> rfl)) : p := h
theorem o2 {p : Prop} (h : p := by first | rfl | (simp; done) | (simp [*]; done)) : p := h
theorem od {p : Prop} (h : p := by repeat (first | exact Drawn0.refl _ | apply Drawn0.step)) : p := h
theorem kq {p : Prop} (h : p := by (repeat' apply And.intro) <;> first | (with_reducible assumption) | exact (blk_cell (Aside0.out (by with_reducible assumption)) _).trans rfl | exact pw_cell_below HB.out (by with_reducible assumption)) : p := h
theorem o3 {p : Prop} (h : p := by first | omega | exact Nat.le_refl _) : p := h
section
variable {P : Program} {ops : Array Oper} {rest : List Oper} {oi : Oper} {a : Act} {Q : Exit → Act → World → Prop}
/-- A call. -/
theorem glG {w : World} (N : Tmp) (hd : oi.dst = some N) {f : FuncId} {fn : Func} {zs : Array Operand} {ts : Array TypeId} (hop : oi.op = .call { callee := .value (.func f), args := zs, argTypes := ts }) (hf : P.funcs[f]? = some fn) {args : Array Value} {R : Ending → World → Prop} (hc : Calls P f args w R)
    (h : ∀ e w', R e w' → ∃ v, e = .returned v ∧ wpList P ops Q rest (a.put (some N) v) w') (hg : oi.guard = none := by rfl)
    (hname : (fn.name == "runtime.NumGoroutine") = false := by kernel_rfl) (hb : fn.body.isSome = true := by rfl)
    (hargs : zs.map a.eval = args := by (try simp only [List.map_toArray, List.map_cons, List.map_nil]); first | done | rfl | (simp only [List.length_drop, List.length_take]; rfl)) : wpList P ops Q (oi :: rest) a w :=
  goesL_ (some N) hd hg hf hname hb args hop hargs (hc.mono h)
theorem glD {w : World} (N : Tmp) (hd : oi.dst = some N) {f : FuncId} {fn : Func} {zs : Array Operand} {ts : Array TypeId} (hop : oi.op = .call { callee := .value (.func f), args := zs, argTypes := ts }) (hf : P.funcs[f]? = some fn) {args : Array Value} {v : Value} (hc : Calls P f args w fun e w' => e = .returned v ∧ Drawn0 w w')
    (h : ∀ nd, wpList P ops Q rest (a.put (some N) v) (w.drewN nd)) (hg : oi.guard = none := by rfl)
    (hname : (fn.name == "runtime.NumGoroutine") = false := by kernel_rfl) (hb : fn.body.isSome = true := by rfl)
    (hargs : zs.map a.eval = args := by (try simp only [List.map_toArray, List.map_cons, List.map_nil]); first | done | rfl | (simp only [List.length_drop, List.length_take]; rfl)) : wpList P ops Q (oi :: rest) a w :=
  goesL_ (some N) hd hg hf hname hb args hop hargs (hc.mono fun e w' h2 => ⟨v, h2.1, by obtain ⟨nd, rfl⟩ := h2.2; exact h nd⟩)
theorem glB {w : World} (N : Tmp) (hd : oi.dst = some N) {f : FuncId} {fn : Func} {zs : Array Operand} {ts : Array TypeId} (hop : oi.op = .call { callee := .value (.func f), args := zs, argTypes := ts }) (hf : P.funcs[f]? = some fn) {args : Array Value} {v : Value} (hc : Calls P f args w fun e w' => e = .returned v ∧ Below w.heap.size w w')
    (h : ∀ w', Below w.heap.size w w' → wpList P ops Q rest (a.put (some N) v) w') (hg : oi.guard = none := by rfl)
    (hname : (fn.name == "runtime.NumGoroutine") = false := by kernel_rfl) (hb : fn.body.isSome = true := by rfl)
    (hargs : zs.map a.eval = args := by (try simp only [List.map_toArray, List.map_cons, List.map_nil]); first | done | rfl | (simp only [List.length_drop, List.length_take]; rfl)) : wpList P ops Q (oi :: rest) a w :=
  goesL_ (some N) hd hg hf hname hb args hop hargs (hc.mono fun e w' h2 => ⟨v, h2.1, h w' h2.2⟩)
end
section
variable {P : Program} {ops : Array Oper} {oi : Oper} {Q : Exit → Act → World → Prop} {md : Region.Mode} {S : World → Prop} {ds : List Nat} {T : Bool × List (List Nat × List Nat)} {n m fuel : Nat} {a a' : Act} {w : World}
/-- Steps of a region: one that yields a value; one that is not wanted; a load; a call. -/
theorem pu (hT : Aside0 (rtab md ops = T)) (i : Nat) {N : Nat} {v : Value} (h : wpAnyLast P md ops Q S ds fuel (bA n (m + 2 ^ i)) a' w) (hi : ops[i]? = some oi := by rfl) (hN : oi.dst = some N := by rfl)
    (hc : anyT T (bA n m).toList (bA n (m + 2 ^ i)).toList i = true := by kernel_rfl) (hw : Region.wanted oi (yielded ops a.tmps) = true := by rfl)
    (hy : ∀ w, (execOp a.eval oi).run P w = .ok (.value v) w := by intro w'; go_simp; with_reducible rfl) (ha : a.put (some N) v = a' := by go_simp; rfl)
    (hQ : ∀ c a w, Q (.panic c) (a.put oi.dst v) w → Q (.panic c) a w := by exact fun _ _ _ h => h) : wpAnyLast P md ops Q S ds (fuel + 1) (bA n m) a w :=
  pure_ (i := i) _ hi hN (any_of hT.out hc) hQ (.inl ⟨hw, hy⟩) ha h
theorem sk (hT : Aside0 (rtab md ops = T)) (i : Nat) {N : Nat} (h : wpAnyLast P md ops Q S ds fuel (bA n (m + 2 ^ i)) a' w) (hi : ops[i]? = some oi := by rfl) (hN : oi.dst = some N := by rfl)
    (hc : anyT T (bA n m).toList (bA n (m + 2 ^ i)).toList i = true := by kernel_rfl) (hw : Region.wanted oi (yielded ops a.tmps) = false := by rfl) (ha : a.put (some N) undef = a' := by go_simp; rfl)
    (hQ : ∀ c a w, Q (.panic c) (a.put oi.dst undef) w → Q (.panic c) a w := by exact fun _ _ _ h => h) : wpAnyLast P md ops Q S ds (fuel + 1) (bA n m) a w :=
  pure_ (i := i) _ hi hN (any_of hT.out hc) hQ (.inr ⟨hw, rfl⟩) ha h
theorem ta {B : List Nat} (hT : Aside0 (rtab md ops = T)) (hB : Aside0 (waitsOk T.2 B = true)) (hS : S w) (i : Nat) {N : Nat} {v : Value} (h : wpAnyLast P md ops Q S ds fuel (bA n (m + 2 ^ i)) a' w) (hi : ops[i]? = some oi := by rfl) (hN : oi.dst = some N := by rfl)
    (hc : takeW T B ds (bA n m).toList (bA n (m + 2 ^ i)).toList i = true := by kernel_rfl) (hw : Region.wanted oi (yielded ops a.tmps) = true := by rfl)
    (hy : ∀ w, S w → (execOp a.eval oi).run P w = .ok (.value v) w := by intro w' hS; (repeat (obtain ⟨_, hS⟩ := hS)); go_simp; with_reducible rfl) (ha : a.put (some N) v = a' := by go_simp; rfl)
    (hQ : ∀ c a w, Q (.panic c) (a.put oi.dst v) w → Q (.panic c) a w := by exact fun _ _ _ h => h) : wpAnyLast P md ops Q S ds (fuel + 1) (bA n m) a w :=
  take_ (i := i) _ hi hN (take_ofW hT.out hB.out hc) hQ (.inl ⟨hw, hy⟩) hS ha h
theorem on (hT : Aside0 (rtab md ops = T)) (i : Nat) {N : Option Tmp}
    (h : ∀ K : Act → World → Prop, Shut (∀ a' w', S w' → (S w' → wpAnyLast P md ops Q S ds fuel (bA n (m + 2 ^ i)) a' w') → K a' w') → if Region.wanted oi (yielded ops a.tmps) = true then Oper.wp P oi a w K Q else K (a.put N undef) w)
    (hi : ops[i]? = some oi := by rfl) (hN : oi.dst = N := by rfl) (hc : (readyT T.2 (bA n m).toList == [i] && (bA n m).toList.set i true == (bA n (m + 2 ^ i)).toList) = true := by kernel_rfl) (hd : i ∉ ds := by decide) : wpAnyLast P md ops Q S ds (fuel + 1) (bA n m) a w :=
  one_ (i := i) _ hi hN (one_of hT.out hc) hd h
theorem gsG {K : Act → World → Prop} {f : FuncId} {fn : Func} (hf : P.funcs[f]? = some fn) {zs : Array Operand} {ts : Array TypeId} {args : Array Value} {N : Option Tmp} {R : Ending → World → Prop} (hc : Calls P f args w R)
    (h : ∀ e w', R e w' → ∃ v, e = .returned v ∧ K (a.put N v) w') (hop : oi.op = .call { callee := .value (.func f), args := zs, argTypes := ts } := by rfl) (hN : oi.dst = N := by rfl) (hw : Region.wanted oi (yielded ops a.tmps) = true := by rfl)
    (hname : (fn.name == "runtime.NumGoroutine") = false := by kernel_rfl) (hb : fn.body.isSome = true := by rfl)
    (hargs : zs.map a.eval = args := by (try simp only [List.map_toArray, List.map_cons, List.map_nil]); first | done | rfl | (simp only [List.length_drop, List.length_take]; rfl)) : if Region.wanted oi (yielded ops a.tmps) = true then Oper.wp P oi a w K Q else K (a.put N undef) w :=
  goes_ hf hname hb args hw hN hop hargs (hc.mono h)
theorem gsB {K : Act → World → Prop} {f : FuncId} {fn : Func} (hf : P.funcs[f]? = some fn) {zs : Array Operand} {ts : Array TypeId} {args : Array Value} {N : Option Tmp} {v : Value} (hc : Calls P f args w fun e w' => e = .returned v ∧ Below w.heap.size w w')
    (h : ∀ w', Below w.heap.size w w' → K (a.put N v) w') (hop : oi.op = .call { callee := .value (.func f), args := zs, argTypes := ts } := by rfl) (hN : oi.dst = N := by rfl) (hw : Region.wanted oi (yielded ops a.tmps) = true := by rfl)
    (hname : (fn.name == "runtime.NumGoroutine") = false := by kernel_rfl) (hb : fn.body.isSome = true := by rfl)
    (hargs : zs.map a.eval = args := by (try simp only [List.map_toArray, List.map_cons, List.map_nil]); first | done | rfl | (simp only [List.length_drop, List.length_take]; rfl)) : if Region.wanted oi (yielded ops a.tmps) = true then Oper.wp P oi a w K Q else K (a.put N undef) w :=
  goes_ hf hname hb args hw hN hop hargs (hc.mono fun e w' h2 => ⟨v, h2.1, h w' h2.2⟩)
theorem kp {p : Prop} (h : p := by (have h_ := hHeld); (repeat (obtain ⟨_, h_⟩ := h_)); ((repeat' apply And.intro) <;> exact pw_cell_below hb (by with_reducible assumption))) : p := h
end
section
variable {P : Program} {ops : Array Oper} {rest : List Oper} {o : Oper} {a : Act} {Q : Exit → Act → World → Prop}
/-- A struct's variable is made. -/
theorem bxe {W : World} {N : Tmp} (hd : o.dst = some N) {cs : Array Value} {t : TypeId}
    (h : ∀ g, g = W.heap.size → ∀ w1, w1.heap[g]? = some (.cells cs t (0, 0)) → Below W.heap.size W w1 → wpList P ops Q rest (a.put o.dst (.pointer (some ⟨g, 0, none⟩))) w1) (hgd : o.guard = none := by rfl)
    (hrun : (execOp a.eval o).run P W = .ok (.value (.pointer (some ⟨W.heap.size, 0, none⟩))) (W.alloc (.cells cs t (0, 0))) := by first | (go_simp; done) | (go_simp; rfl)) : wpList P ops Q (o :: rest) a W := box_event hgd hd hrun h
theorem bxd {w W0 W : World} {N : Tmp} (hd : o.dst = some N) {cs : Array Value} {t : TypeId} (hB : Aside0 (Below w.heap.size w W0)) [gr : Nonempty (Gr W0 W)]
    (h : ∀ g, ∀ w1, g = W.heap.size → Aside0 (Below w.heap.size w w1) → Aside0 (w1.heap[g]? = some (.cells cs t (0, 0))) → Aside0 (w.heap.size ≤ g) → Below W.heap.size W w1 → wpList P ops Q rest (a.put o.dst (.pointer (some ⟨g, 0, none⟩))) w1) (hgd : o.guard = none := by rfl)
    (hrun : (execOp a.eval o).run P W = .ok (.value (.pointer (some ⟨W.heap.size, 0, none⟩))) (W.alloc (.cells cs t (0, 0))) := by first | (go_simp; done) | (go_simp; rfl)) : wpList P ops Q (o :: rest) a W := boxed hd hgd hB.out hrun h
end
theorem el_int {k : IntKind} {xs : List Int} {w W : World} {A : Option Addr} {n : Nat} (h : Aside0 (Kd.C (Kd.int k) w A n xs)) (hb : Aside0 (Below w.heap.size w W)) (i : Int) (h0 : decide (0 ≤ i) = true := by first | (with_reducible assumption) | assumption) (h1 : decide (i < n) = true := by first | (with_reducible assumption) | assumption) : ∃ ad, A = some ad ∧ W.cell? (ad.add i.toNat) = some (.int k (rd xs i)) ∧ (0 ≤ i) = True ∧ (i < n) = True := by
  obtain ⟨ad, e, x0⟩ := Kd.at_int h.out i (of_decide_eq_true h0) (of_decide_eq_true h1);exact ⟨ad, e, pw_cell_below hb.out x0, eq_true (of_decide_eq_true h0), eq_true (of_decide_eq_true h1)⟩
theorem el0_int {k : IntKind} {xs : List Int} {w : World} {A : Option Addr} {n : Nat} (h : Aside0 (Kd.C (Kd.int k) w A n xs)) (i : Int) (h0 : decide (0 ≤ i) = true := by first | (with_reducible assumption) | assumption) (h1 : decide (i < n) = true := by first | (with_reducible assumption) | assumption) : ∃ ad, A = some ad ∧ w.cell? (ad.add i.toNat) = some (.int k (rd xs i)) ∧ (0 ≤ i) = True ∧ (i < n) = True := by
  obtain ⟨ad, e, x0⟩ := Kd.at_int h.out i (of_decide_eq_true h0) (of_decide_eq_true h1);exact ⟨ad, e, x0, eq_true (of_decide_eq_true h0), eq_true (of_decide_eq_true h1)⟩
theorem el20_int {k : IntKind} {xs : List Int} {w : World} {ad : Addr} {n : Nat} (h : Aside0 (Kd.C (Kd.int k) w (some ad) n xs)) (i : Int) (h0 : decide (0 ≤ i) = true := by first | (with_reducible assumption) | assumption) (h1 : decide (i < n) = true := by first | (with_reducible assumption) | assumption) : w.cell? (ad.add i.toNat) = some (.int k (rd xs i)) ∧ (0 ≤ i) = True ∧ (i < n) = True := by
  obtain ⟨ad', e, x0⟩ := Kd.at_int h.out i (of_decide_eq_true h0) (of_decide_eq_true h1);obtain rfl := Option.some.inj e;exact ⟨x0, eq_true (of_decide_eq_true h0), eq_true (of_decide_eq_true h1)⟩
theorem el_L10 {xs : List (List Int)} {w W : World} {A : Option Addr} {n : Nat} (h : Aside0 (Kd.C (Kd.slice 5 (Kd.int .u8)) w A n xs)) (hb : Aside0 (Below w.heap.size w W)) (i : Int) (h0 : decide (0 ≤ i) = true := by first | (with_reducible assumption) | assumption) (h1 : decide (i < n) = true := by first | (with_reducible assumption) | assumption) : ∃ ad A0 c0, A = some ad ∧ W.cell? (ad.add i.toNat) = some (.slice A0 (qN xs i).length c0) ∧ Aside0 ((qN xs i).length ≤ c0) ∧ Aside0 ((Kd.int .u8).C w A0 (qN xs i).length (qN xs i)) ∧ (0 ≤ i) = True ∧ (i < n) = True := by
  obtain ⟨ad, A0, c0, e, x0, y0, y1⟩ := qcF h.out i (of_decide_eq_true h0) (of_decide_eq_true h1);exact ⟨ad, A0, c0, e, pw_cell_below hb.out x0, ⟨y0⟩, ⟨y1⟩, eq_true (of_decide_eq_true h0), eq_true (of_decide_eq_true h1)⟩
theorem el0_L10 {xs : List (List Int)} {w : World} {A : Option Addr} {n : Nat} (h : Aside0 (Kd.C (Kd.slice 5 (Kd.int .u8)) w A n xs)) (i : Int) (h0 : decide (0 ≤ i) = true := by first | (with_reducible assumption) | assumption) (h1 : decide (i < n) = true := by first | (with_reducible assumption) | assumption) : ∃ ad A0 c0, A = some ad ∧ w.cell? (ad.add i.toNat) = some (.slice A0 (qN xs i).length c0) ∧ Aside0 ((qN xs i).length ≤ c0) ∧ Aside0 ((Kd.int .u8).C w A0 (qN xs i).length (qN xs i)) ∧ (0 ≤ i) = True ∧ (i < n) = True := by
  obtain ⟨ad, A0, c0, e, x0, y0, y1⟩ := qcF h.out i (of_decide_eq_true h0) (of_decide_eq_true h1);exact ⟨ad, A0, c0, e, x0, ⟨y0⟩, ⟨y1⟩, eq_true (of_decide_eq_true h0), eq_true (of_decide_eq_true h1)⟩
theorem el_T48 {xs : List S48} {w W : World} {A : Option Addr} {n : Nat} (h : Aside0 (Kd.C k48 w A n xs)) (hb : Aside0 (Below w.heap.size w W)) (i : Int) (h0 : decide (0 ≤ i) = true := by first | (with_reducible assumption) | assumption) (h1 : decide (i < n) = true := by first | (with_reducible assumption) | assumption) : ∃ ad A0 c0 A4 c4 A5 c5 A6 c6, A = some ad ∧ W.cell? (ad.add (i.toNat * 7)) = some (.slice A0 (qW xs i).f0.f0.length c0) ∧ W.cell? ⟨(ad.add (i.toNat * 7)).block, (ad.add (i.toNat * 7)).off + 1, none⟩ = some (.int .i64 (qW xs i).f1) ∧ W.cell? ⟨(ad.add (i.toNat * 7)).block, (ad.add (i.toNat * 7)).off + 2, none⟩ = some (.int .i64 (qW xs i).f2) ∧ W.cell? ⟨(ad.add (i.toNat * 7)).block, (ad.add (i.toNat * 7)).off + 3, none⟩ = some (.int .i64 (qW xs i).f3) ∧ W.cell? ⟨(ad.add (i.toNat * 7)).block, (ad.add (i.toNat * 7)).off + 4, none⟩ = some (.slice A4 (qW xs i).f4.f0.length c4) ∧ W.cell? ⟨(ad.add (i.toNat * 7)).block, (ad.add (i.toNat * 7)).off + 5, none⟩ = some (.slice A5 (qW xs i).f5.length c5) ∧ W.cell? ⟨(ad.add (i.toNat * 7)).block, (ad.add (i.toNat * 7)).off + 6, none⟩ = some (.slice A6 (qW xs i).f6.length c6) ∧ Aside0 ((qW xs i).f0.f0.length ≤ c0) ∧ Aside0 ((Kd.slice 5 (Kd.int .u8)).C w A0 (qW xs i).f0.f0.length (qW xs i).f0.f0) ∧ Aside0 ((qW xs i).f4.f0.length ≤ c4) ∧ Aside0 ((Kd.slice 5 (Kd.int .u8)).C w A4 (qW xs i).f4.f0.length (qW xs i).f4.f0) ∧ Aside0 ((qW xs i).f5.length ≤ c5) ∧ Aside0 ((Kd.int .u8).C w A5 (qW xs i).f5.length (qW xs i).f5) ∧ Aside0 ((qW xs i).f6.length ≤ c6) ∧ Aside0 ((Kd.int .i64).C w A6 (qW xs i).f6.length (qW xs i).f6) ∧ (0 ≤ i) = True ∧ (i < n) = True := by
  obtain ⟨ad, A0, c0, A4, c4, A5, c5, A6, c6, e, x0, x1, x2, x3, x4, x5, x6, y0, y1, y2, y3, y4, y5, y6, y7⟩ := qx3 h.out i (of_decide_eq_true h0) (of_decide_eq_true h1);exact ⟨ad, A0, c0, A4, c4, A5, c5, A6, c6, e, pw_cell_below hb.out x0, pw_cell_below hb.out x1, pw_cell_below hb.out x2, pw_cell_below hb.out x3, pw_cell_below hb.out x4, pw_cell_below hb.out x5, pw_cell_below hb.out x6, ⟨y0⟩, ⟨y1⟩, ⟨y2⟩, ⟨y3⟩, ⟨y4⟩, ⟨y5⟩, ⟨y6⟩, ⟨y7⟩, eq_true (of_decide_eq_true h0), eq_true (of_decide_eq_true h1)⟩
theorem el_T50 {xs : List S50} {w W : World} {A : Option Addr} {n : Nat} (h : Aside0 (Kd.C k50 w A n xs)) (hb : Aside0 (Below w.heap.size w W)) (i : Int) (h0 : decide (0 ≤ i) = true := by first | (with_reducible assumption) | assumption) (h1 : decide (i < n) = true := by first | (with_reducible assumption) | assumption) : ∃ ad A0 c0 A4 c4 A5 c5 A6 c6, A = some ad ∧ W.cell? (ad.add (i.toNat * 9)) = some (.slice A0 (qR xs i).f0.f0.f0.length c0) ∧ W.cell? ⟨(ad.add (i.toNat * 9)).block, (ad.add (i.toNat * 9)).off + 1, none⟩ = some (.int .i64 (qR xs i).f0.f1) ∧ W.cell? ⟨(ad.add (i.toNat * 9)).block, (ad.add (i.toNat * 9)).off + 2, none⟩ = some (.int .i64 (qR xs i).f0.f2) ∧ W.cell? ⟨(ad.add (i.toNat * 9)).block, (ad.add (i.toNat * 9)).off + 3, none⟩ = some (.int .i64 (qR xs i).f0.f3) ∧ W.cell? ⟨(ad.add (i.toNat * 9)).block, (ad.add (i.toNat * 9)).off + 4, none⟩ = some (.slice A4 (qR xs i).f0.f4.f0.length c4) ∧ W.cell? ⟨(ad.add (i.toNat * 9)).block, (ad.add (i.toNat * 9)).off + 5, none⟩ = some (.slice A5 (qR xs i).f0.f5.length c5) ∧ W.cell? ⟨(ad.add (i.toNat * 9)).block, (ad.add (i.toNat * 9)).off + 6, none⟩ = some (.slice A6 (qR xs i).f0.f6.length c6) ∧ W.cell? ⟨(ad.add (i.toNat * 9)).block, (ad.add (i.toNat * 9)).off + 7, none⟩ = some (.int .i64 (qR xs i).f1) ∧ W.cell? ⟨(ad.add (i.toNat * 9)).block, (ad.add (i.toNat * 9)).off + 8, none⟩ = some (.bool (qR xs i).f2) ∧ Aside0 ((qR xs i).f0.f0.f0.length ≤ c0) ∧ Aside0 ((Kd.slice 5 (Kd.int .u8)).C w A0 (qR xs i).f0.f0.f0.length (qR xs i).f0.f0.f0) ∧ Aside0 ((qR xs i).f0.f4.f0.length ≤ c4) ∧ Aside0 ((Kd.slice 5 (Kd.int .u8)).C w A4 (qR xs i).f0.f4.f0.length (qR xs i).f0.f4.f0) ∧ Aside0 ((qR xs i).f0.f5.length ≤ c5) ∧ Aside0 ((Kd.int .u8).C w A5 (qR xs i).f0.f5.length (qR xs i).f0.f5) ∧ Aside0 ((qR xs i).f0.f6.length ≤ c6) ∧ Aside0 ((Kd.int .i64).C w A6 (qR xs i).f0.f6.length (qR xs i).f0.f6) ∧ (0 ≤ i) = True ∧ (i < n) = True := by
  obtain ⟨ad, A0, c0, A4, c4, A5, c5, A6, c6, e, x0, x1, x2, x3, x4, x5, x6, x7, x8, y0, y1, y2, y3, y4, y5, y6, y7⟩ := qx2 h.out i (of_decide_eq_true h0) (of_decide_eq_true h1);exact ⟨ad, A0, c0, A4, c4, A5, c5, A6, c6, e, pw_cell_below hb.out x0, pw_cell_below hb.out x1, pw_cell_below hb.out x2, pw_cell_below hb.out x3, pw_cell_below hb.out x4, pw_cell_below hb.out x5, pw_cell_below hb.out x6, pw_cell_below hb.out x7, pw_cell_below hb.out x8, ⟨y0⟩, ⟨y1⟩, ⟨y2⟩, ⟨y3⟩, ⟨y4⟩, ⟨y5⟩, ⟨y6⟩, ⟨y7⟩, eq_true (of_decide_eq_true h0), eq_true (of_decide_eq_true h1)⟩
theorem el_T56 {xs : List S56} {w W : World} {A : Option Addr} {n : Nat} (h : Aside0 (Kd.C k56 w A n xs)) (hb : Aside0 (Below w.heap.size w W)) (i : Int) (h0 : decide (0 ≤ i) = true := by first | (with_reducible assumption) | assumption) (h1 : decide (i < n) = true := by first | (with_reducible assumption) | assumption) : ∃ ad A0 c0 A4 c4 A5 c5 A6 c6, A = some ad ∧ W.cell? (ad.add (i.toNat * 7)) = some (.slice A0 (qa xs i).f0.f0.length c0) ∧ W.cell? ⟨(ad.add (i.toNat * 7)).block, (ad.add (i.toNat * 7)).off + 1, none⟩ = some (.int .i64 (qa xs i).f1) ∧ W.cell? ⟨(ad.add (i.toNat * 7)).block, (ad.add (i.toNat * 7)).off + 2, none⟩ = some (.int .i64 (qa xs i).f2) ∧ W.cell? ⟨(ad.add (i.toNat * 7)).block, (ad.add (i.toNat * 7)).off + 3, none⟩ = some (.int .i64 (qa xs i).f3) ∧ W.cell? ⟨(ad.add (i.toNat * 7)).block, (ad.add (i.toNat * 7)).off + 4, none⟩ = some (.slice A4 (qa xs i).f4.f0.length c4) ∧ W.cell? ⟨(ad.add (i.toNat * 7)).block, (ad.add (i.toNat * 7)).off + 5, none⟩ = some (.slice A5 (qa xs i).f5.length c5) ∧ W.cell? ⟨(ad.add (i.toNat * 7)).block, (ad.add (i.toNat * 7)).off + 6, none⟩ = some (.slice A6 (qa xs i).f6.length c6) ∧ Aside0 ((qa xs i).f0.f0.length ≤ c0) ∧ Aside0 ((Kd.slice 5 (Kd.int .u8)).C w A0 (qa xs i).f0.f0.length (qa xs i).f0.f0) ∧ Aside0 ((qa xs i).f4.f0.length ≤ c4) ∧ Aside0 ((Kd.slice 5 (Kd.int .u8)).C w A4 (qa xs i).f4.f0.length (qa xs i).f4.f0) ∧ Aside0 ((qa xs i).f5.length ≤ c5) ∧ Aside0 ((Kd.int .u8).C w A5 (qa xs i).f5.length (qa xs i).f5) ∧ Aside0 ((qa xs i).f6.length ≤ c6) ∧ Aside0 ((Kd.int .i64).C w A6 (qa xs i).f6.length (qa xs i).f6) ∧ (0 ≤ i) = True ∧ (i < n) = True := by
  obtain ⟨ad, A0, c0, A4, c4, A5, c5, A6, c6, e, x0, x1, x2, x3, x4, x5, x6, y0, y1, y2, y3, y4, y5, y6, y7⟩ := qa2 h.out i (of_decide_eq_true h0) (of_decide_eq_true h1);exact ⟨ad, A0, c0, A4, c4, A5, c5, A6, c6, e, pw_cell_below hb.out x0, pw_cell_below hb.out x1, pw_cell_below hb.out x2, pw_cell_below hb.out x3, pw_cell_below hb.out x4, pw_cell_below hb.out x5, pw_cell_below hb.out x6, ⟨y0⟩, ⟨y1⟩, ⟨y2⟩, ⟨y3⟩, ⟨y4⟩, ⟨y5⟩, ⟨y6⟩, ⟨y7⟩, eq_true (of_decide_eq_true h0), eq_true (of_decide_eq_true h1)⟩
theorem elw_T56 {xs : List S56} {w W : World} {A : Option Addr} {n : Nat} (h : Aside0 (Kd.C k56 w A n xs)) (hb : Aside0 (Below w.heap.size w W)) (i : Int) (h0 : decide (0 ≤ i) = true := by first | (with_reducible assumption) | assumption) (h1 : decide (i < n) = true := by first | (with_reducible assumption) | assumption) : ∃ ad A0 c0 A4 c4 A5 c5 A6 c6, A = some ad ∧ w.cell? (ad.add (i.toNat * 7)) = some (.slice A0 (qa xs i).f0.f0.length c0) ∧ w.cell? ⟨(ad.add (i.toNat * 7)).block, (ad.add (i.toNat * 7)).off + 1, none⟩ = some (.int .i64 (qa xs i).f1) ∧ w.cell? ⟨(ad.add (i.toNat * 7)).block, (ad.add (i.toNat * 7)).off + 2, none⟩ = some (.int .i64 (qa xs i).f2) ∧ w.cell? ⟨(ad.add (i.toNat * 7)).block, (ad.add (i.toNat * 7)).off + 3, none⟩ = some (.int .i64 (qa xs i).f3) ∧ w.cell? ⟨(ad.add (i.toNat * 7)).block, (ad.add (i.toNat * 7)).off + 4, none⟩ = some (.slice A4 (qa xs i).f4.f0.length c4) ∧ w.cell? ⟨(ad.add (i.toNat * 7)).block, (ad.add (i.toNat * 7)).off + 5, none⟩ = some (.slice A5 (qa xs i).f5.length c5) ∧ w.cell? ⟨(ad.add (i.toNat * 7)).block, (ad.add (i.toNat * 7)).off + 6, none⟩ = some (.slice A6 (qa xs i).f6.length c6) ∧ W.cell? (ad.add (i.toNat * 7)) = some (.slice A0 (qa xs i).f0.f0.length c0) ∧ W.cell? ⟨(ad.add (i.toNat * 7)).block, (ad.add (i.toNat * 7)).off + 1, none⟩ = some (.int .i64 (qa xs i).f1) ∧ W.cell? ⟨(ad.add (i.toNat * 7)).block, (ad.add (i.toNat * 7)).off + 2, none⟩ = some (.int .i64 (qa xs i).f2) ∧ W.cell? ⟨(ad.add (i.toNat * 7)).block, (ad.add (i.toNat * 7)).off + 3, none⟩ = some (.int .i64 (qa xs i).f3) ∧ W.cell? ⟨(ad.add (i.toNat * 7)).block, (ad.add (i.toNat * 7)).off + 4, none⟩ = some (.slice A4 (qa xs i).f4.f0.length c4) ∧ W.cell? ⟨(ad.add (i.toNat * 7)).block, (ad.add (i.toNat * 7)).off + 5, none⟩ = some (.slice A5 (qa xs i).f5.length c5) ∧ W.cell? ⟨(ad.add (i.toNat * 7)).block, (ad.add (i.toNat * 7)).off + 6, none⟩ = some (.slice A6 (qa xs i).f6.length c6) ∧ Aside0 ((qa xs i).f0.f0.length ≤ c0) ∧ Aside0 ((Kd.slice 5 (Kd.int .u8)).C w A0 (qa xs i).f0.f0.length (qa xs i).f0.f0) ∧ Aside0 ((qa xs i).f4.f0.length ≤ c4) ∧ Aside0 ((Kd.slice 5 (Kd.int .u8)).C w A4 (qa xs i).f4.f0.length (qa xs i).f4.f0) ∧ Aside0 ((qa xs i).f5.length ≤ c5) ∧ Aside0 ((Kd.int .u8).C w A5 (qa xs i).f5.length (qa xs i).f5) ∧ Aside0 ((qa xs i).f6.length ≤ c6) ∧ Aside0 ((Kd.int .i64).C w A6 (qa xs i).f6.length (qa xs i).f6) ∧ (0 ≤ i) = True ∧ (i < n) = True := by
  obtain ⟨ad, A0, c0, A4, c4, A5, c5, A6, c6, e, x0, x1, x2, x3, x4, x5, x6, y0, y1, y2, y3, y4, y5, y6, y7⟩ := qa2 h.out i (of_decide_eq_true h0) (of_decide_eq_true h1);exact ⟨ad, A0, c0, A4, c4, A5, c5, A6, c6, e, x0, x1, x2, x3, x4, x5, x6, pw_cell_below hb.out x0, pw_cell_below hb.out x1, pw_cell_below hb.out x2, pw_cell_below hb.out x3, pw_cell_below hb.out x4, pw_cell_below hb.out x5, pw_cell_below hb.out x6, ⟨y0⟩, ⟨y1⟩, ⟨y2⟩, ⟨y3⟩, ⟨y4⟩, ⟨y5⟩, ⟨y6⟩, ⟨y7⟩, eq_true (of_decide_eq_true h0), eq_true (of_decide_eq_true h1)⟩
theorem el0_T56 {xs : List S56} {w : World} {A : Option Addr} {n : Nat} (h : Aside0 (Kd.C k56 w A n xs)) (i : Int) (h0 : decide (0 ≤ i) = true := by first | (with_reducible assumption) | assumption) (h1 : decide (i < n) = true := by first | (with_reducible assumption) | assumption) : ∃ ad A0 c0 A4 c4 A5 c5 A6 c6, A = some ad ∧ w.cell? (ad.add (i.toNat * 7)) = some (.slice A0 (qa xs i).f0.f0.length c0) ∧ w.cell? ⟨(ad.add (i.toNat * 7)).block, (ad.add (i.toNat * 7)).off + 1, none⟩ = some (.int .i64 (qa xs i).f1) ∧ w.cell? ⟨(ad.add (i.toNat * 7)).block, (ad.add (i.toNat * 7)).off + 2, none⟩ = some (.int .i64 (qa xs i).f2) ∧ w.cell? ⟨(ad.add (i.toNat * 7)).block, (ad.add (i.toNat * 7)).off + 3, none⟩ = some (.int .i64 (qa xs i).f3) ∧ w.cell? ⟨(ad.add (i.toNat * 7)).block, (ad.add (i.toNat * 7)).off + 4, none⟩ = some (.slice A4 (qa xs i).f4.f0.length c4) ∧ w.cell? ⟨(ad.add (i.toNat * 7)).block, (ad.add (i.toNat * 7)).off + 5, none⟩ = some (.slice A5 (qa xs i).f5.length c5) ∧ w.cell? ⟨(ad.add (i.toNat * 7)).block, (ad.add (i.toNat * 7)).off + 6, none⟩ = some (.slice A6 (qa xs i).f6.length c6) ∧ Aside0 ((qa xs i).f0.f0.length ≤ c0) ∧ Aside0 ((Kd.slice 5 (Kd.int .u8)).C w A0 (qa xs i).f0.f0.length (qa xs i).f0.f0) ∧ Aside0 ((qa xs i).f4.f0.length ≤ c4) ∧ Aside0 ((Kd.slice 5 (Kd.int .u8)).C w A4 (qa xs i).f4.f0.length (qa xs i).f4.f0) ∧ Aside0 ((qa xs i).f5.length ≤ c5) ∧ Aside0 ((Kd.int .u8).C w A5 (qa xs i).f5.length (qa xs i).f5) ∧ Aside0 ((qa xs i).f6.length ≤ c6) ∧ Aside0 ((Kd.int .i64).C w A6 (qa xs i).f6.length (qa xs i).f6) ∧ (0 ≤ i) = True ∧ (i < n) = True := by
  obtain ⟨ad, A0, c0, A4, c4, A5, c5, A6, c6, e, x0, x1, x2, x3, x4, x5, x6, y0, y1, y2, y3, y4, y5, y6, y7⟩ := qa2 h.out i (of_decide_eq_true h0) (of_decide_eq_true h1);exact ⟨ad, A0, c0, A4, c4, A5, c5, A6, c6, e, x0, x1, x2, x3, x4, x5, x6, ⟨y0⟩, ⟨y1⟩, ⟨y2⟩, ⟨y3⟩, ⟨y4⟩, ⟨y5⟩, ⟨y6⟩, ⟨y7⟩, eq_true (of_decide_eq_true h0), eq_true (of_decide_eq_true h1)⟩
theorem el2w_T56 {xs : List S56} {w W : World} {ad : Addr} {n : Nat} (h : Aside0 (Kd.C k56 w (some ad) n xs)) (hb : Aside0 (Below w.heap.size w W)) (i : Int) (h0 : decide (0 ≤ i) = true := by first | (with_reducible assumption) | assumption) (h1 : decide (i < n) = true := by first | (with_reducible assumption) | assumption) : ∃ A0 c0 A4 c4 A5 c5 A6 c6, w.cell? (ad.add (i.toNat * 7)) = some (.slice A0 (qa xs i).f0.f0.length c0) ∧ w.cell? ⟨(ad.add (i.toNat * 7)).block, (ad.add (i.toNat * 7)).off + 1, none⟩ = some (.int .i64 (qa xs i).f1) ∧ w.cell? ⟨(ad.add (i.toNat * 7)).block, (ad.add (i.toNat * 7)).off + 2, none⟩ = some (.int .i64 (qa xs i).f2) ∧ w.cell? ⟨(ad.add (i.toNat * 7)).block, (ad.add (i.toNat * 7)).off + 3, none⟩ = some (.int .i64 (qa xs i).f3) ∧ w.cell? ⟨(ad.add (i.toNat * 7)).block, (ad.add (i.toNat * 7)).off + 4, none⟩ = some (.slice A4 (qa xs i).f4.f0.length c4) ∧ w.cell? ⟨(ad.add (i.toNat * 7)).block, (ad.add (i.toNat * 7)).off + 5, none⟩ = some (.slice A5 (qa xs i).f5.length c5) ∧ w.cell? ⟨(ad.add (i.toNat * 7)).block, (ad.add (i.toNat * 7)).off + 6, none⟩ = some (.slice A6 (qa xs i).f6.length c6) ∧ W.cell? (ad.add (i.toNat * 7)) = some (.slice A0 (qa xs i).f0.f0.length c0) ∧ W.cell? ⟨(ad.add (i.toNat * 7)).block, (ad.add (i.toNat * 7)).off + 1, none⟩ = some (.int .i64 (qa xs i).f1) ∧ W.cell? ⟨(ad.add (i.toNat * 7)).block, (ad.add (i.toNat * 7)).off + 2, none⟩ = some (.int .i64 (qa xs i).f2) ∧ W.cell? ⟨(ad.add (i.toNat * 7)).block, (ad.add (i.toNat * 7)).off + 3, none⟩ = some (.int .i64 (qa xs i).f3) ∧ W.cell? ⟨(ad.add (i.toNat * 7)).block, (ad.add (i.toNat * 7)).off + 4, none⟩ = some (.slice A4 (qa xs i).f4.f0.length c4) ∧ W.cell? ⟨(ad.add (i.toNat * 7)).block, (ad.add (i.toNat * 7)).off + 5, none⟩ = some (.slice A5 (qa xs i).f5.length c5) ∧ W.cell? ⟨(ad.add (i.toNat * 7)).block, (ad.add (i.toNat * 7)).off + 6, none⟩ = some (.slice A6 (qa xs i).f6.length c6) ∧ Aside0 ((qa xs i).f0.f0.length ≤ c0) ∧ Aside0 ((Kd.slice 5 (Kd.int .u8)).C w A0 (qa xs i).f0.f0.length (qa xs i).f0.f0) ∧ Aside0 ((qa xs i).f4.f0.length ≤ c4) ∧ Aside0 ((Kd.slice 5 (Kd.int .u8)).C w A4 (qa xs i).f4.f0.length (qa xs i).f4.f0) ∧ Aside0 ((qa xs i).f5.length ≤ c5) ∧ Aside0 ((Kd.int .u8).C w A5 (qa xs i).f5.length (qa xs i).f5) ∧ Aside0 ((qa xs i).f6.length ≤ c6) ∧ Aside0 ((Kd.int .i64).C w A6 (qa xs i).f6.length (qa xs i).f6) ∧ (0 ≤ i) = True ∧ (i < n) = True := by
  obtain ⟨ad', A0, c0, A4, c4, A5, c5, A6, c6, e, x0, x1, x2, x3, x4, x5, x6, y0, y1, y2, y3, y4, y5, y6, y7⟩ := qa2 h.out i (of_decide_eq_true h0) (of_decide_eq_true h1);obtain rfl := Option.some.inj e;exact ⟨A0, c0, A4, c4, A5, c5, A6, c6, x0, x1, x2, x3, x4, x5, x6, pw_cell_below hb.out x0, pw_cell_below hb.out x1, pw_cell_below hb.out x2, pw_cell_below hb.out x3, pw_cell_below hb.out x4, pw_cell_below hb.out x5, pw_cell_below hb.out x6, ⟨y0⟩, ⟨y1⟩, ⟨y2⟩, ⟨y3⟩, ⟨y4⟩, ⟨y5⟩, ⟨y6⟩, ⟨y7⟩, eq_true (of_decide_eq_true h0), eq_true (of_decide_eq_true h1)⟩
theorem el_T58 {xs : List S58} {w W : World} {A : Option Addr} {n : Nat} (h : Aside0 (Kd.C k58 w A n xs)) (hb : Aside0 (Below w.heap.size w W)) (i : Int) (h0 : decide (0 ≤ i) = true := by first | (with_reducible assumption) | assumption) (h1 : decide (i < n) = true := by first | (with_reducible assumption) | assumption) : ∃ ad A0 c0 A4 c4 A5 c5 A6 c6, A = some ad ∧ W.cell? (ad.add (i.toNat * 9)) = some (.slice A0 (qg xs i).f0.f0.f0.length c0) ∧ W.cell? ⟨(ad.add (i.toNat * 9)).block, (ad.add (i.toNat * 9)).off + 1, none⟩ = some (.int .i64 (qg xs i).f0.f1) ∧ W.cell? ⟨(ad.add (i.toNat * 9)).block, (ad.add (i.toNat * 9)).off + 2, none⟩ = some (.int .i64 (qg xs i).f0.f2) ∧ W.cell? ⟨(ad.add (i.toNat * 9)).block, (ad.add (i.toNat * 9)).off + 3, none⟩ = some (.int .i64 (qg xs i).f0.f3) ∧ W.cell? ⟨(ad.add (i.toNat * 9)).block, (ad.add (i.toNat * 9)).off + 4, none⟩ = some (.slice A4 (qg xs i).f0.f4.f0.length c4) ∧ W.cell? ⟨(ad.add (i.toNat * 9)).block, (ad.add (i.toNat * 9)).off + 5, none⟩ = some (.slice A5 (qg xs i).f0.f5.length c5) ∧ W.cell? ⟨(ad.add (i.toNat * 9)).block, (ad.add (i.toNat * 9)).off + 6, none⟩ = some (.slice A6 (qg xs i).f0.f6.length c6) ∧ W.cell? ⟨(ad.add (i.toNat * 9)).block, (ad.add (i.toNat * 9)).off + 7, none⟩ = some (.int .i64 (qg xs i).f1) ∧ W.cell? ⟨(ad.add (i.toNat * 9)).block, (ad.add (i.toNat * 9)).off + 8, none⟩ = some (.bool (qg xs i).f2) ∧ Aside0 ((qg xs i).f0.f0.f0.length ≤ c0) ∧ Aside0 ((Kd.slice 5 (Kd.int .u8)).C w A0 (qg xs i).f0.f0.f0.length (qg xs i).f0.f0.f0) ∧ Aside0 ((qg xs i).f0.f4.f0.length ≤ c4) ∧ Aside0 ((Kd.slice 5 (Kd.int .u8)).C w A4 (qg xs i).f0.f4.f0.length (qg xs i).f0.f4.f0) ∧ Aside0 ((qg xs i).f0.f5.length ≤ c5) ∧ Aside0 ((Kd.int .u8).C w A5 (qg xs i).f0.f5.length (qg xs i).f0.f5) ∧ Aside0 ((qg xs i).f0.f6.length ≤ c6) ∧ Aside0 ((Kd.int .i64).C w A6 (qg xs i).f0.f6.length (qg xs i).f0.f6) ∧ (0 ≤ i) = True ∧ (i < n) = True := by
  obtain ⟨ad, A0, c0, A4, c4, A5, c5, A6, c6, e, x0, x1, x2, x3, x4, x5, x6, x7, x8, y0, y1, y2, y3, y4, y5, y6, y7⟩ := qa1 h.out i (of_decide_eq_true h0) (of_decide_eq_true h1);exact ⟨ad, A0, c0, A4, c4, A5, c5, A6, c6, e, pw_cell_below hb.out x0, pw_cell_below hb.out x1, pw_cell_below hb.out x2, pw_cell_below hb.out x3, pw_cell_below hb.out x4, pw_cell_below hb.out x5, pw_cell_below hb.out x6, pw_cell_below hb.out x7, pw_cell_below hb.out x8, ⟨y0⟩, ⟨y1⟩, ⟨y2⟩, ⟨y3⟩, ⟨y4⟩, ⟨y5⟩, ⟨y6⟩, ⟨y7⟩, eq_true (of_decide_eq_true h0), eq_true (of_decide_eq_true h1)⟩
theorem elw_T58 {xs : List S58} {w W : World} {A : Option Addr} {n : Nat} (h : Aside0 (Kd.C k58 w A n xs)) (hb : Aside0 (Below w.heap.size w W)) (i : Int) (h0 : decide (0 ≤ i) = true := by first | (with_reducible assumption) | assumption) (h1 : decide (i < n) = true := by first | (with_reducible assumption) | assumption) : ∃ ad A0 c0 A4 c4 A5 c5 A6 c6, A = some ad ∧ w.cell? (ad.add (i.toNat * 9)) = some (.slice A0 (qg xs i).f0.f0.f0.length c0) ∧ w.cell? ⟨(ad.add (i.toNat * 9)).block, (ad.add (i.toNat * 9)).off + 1, none⟩ = some (.int .i64 (qg xs i).f0.f1) ∧ w.cell? ⟨(ad.add (i.toNat * 9)).block, (ad.add (i.toNat * 9)).off + 2, none⟩ = some (.int .i64 (qg xs i).f0.f2) ∧ w.cell? ⟨(ad.add (i.toNat * 9)).block, (ad.add (i.toNat * 9)).off + 3, none⟩ = some (.int .i64 (qg xs i).f0.f3) ∧ w.cell? ⟨(ad.add (i.toNat * 9)).block, (ad.add (i.toNat * 9)).off + 4, none⟩ = some (.slice A4 (qg xs i).f0.f4.f0.length c4) ∧ w.cell? ⟨(ad.add (i.toNat * 9)).block, (ad.add (i.toNat * 9)).off + 5, none⟩ = some (.slice A5 (qg xs i).f0.f5.length c5) ∧ w.cell? ⟨(ad.add (i.toNat * 9)).block, (ad.add (i.toNat * 9)).off + 6, none⟩ = some (.slice A6 (qg xs i).f0.f6.length c6) ∧ w.cell? ⟨(ad.add (i.toNat * 9)).block, (ad.add (i.toNat * 9)).off + 7, none⟩ = some (.int .i64 (qg xs i).f1) ∧ w.cell? ⟨(ad.add (i.toNat * 9)).block, (ad.add (i.toNat * 9)).off + 8, none⟩ = some (.bool (qg xs i).f2) ∧ W.cell? (ad.add (i.toNat * 9)) = some (.slice A0 (qg xs i).f0.f0.f0.length c0) ∧ W.cell? ⟨(ad.add (i.toNat * 9)).block, (ad.add (i.toNat * 9)).off + 1, none⟩ = some (.int .i64 (qg xs i).f0.f1) ∧ W.cell? ⟨(ad.add (i.toNat * 9)).block, (ad.add (i.toNat * 9)).off + 2, none⟩ = some (.int .i64 (qg xs i).f0.f2) ∧ W.cell? ⟨(ad.add (i.toNat * 9)).block, (ad.add (i.toNat * 9)).off + 3, none⟩ = some (.int .i64 (qg xs i).f0.f3) ∧ W.cell? ⟨(ad.add (i.toNat * 9)).block, (ad.add (i.toNat * 9)).off + 4, none⟩ = some (.slice A4 (qg xs i).f0.f4.f0.length c4) ∧ W.cell? ⟨(ad.add (i.toNat * 9)).block, (ad.add (i.toNat * 9)).off + 5, none⟩ = some (.slice A5 (qg xs i).f0.f5.length c5) ∧ W.cell? ⟨(ad.add (i.toNat * 9)).block, (ad.add (i.toNat * 9)).off + 6, none⟩ = some (.slice A6 (qg xs i).f0.f6.length c6) ∧ W.cell? ⟨(ad.add (i.toNat * 9)).block, (ad.add (i.toNat * 9)).off + 7, none⟩ = some (.int .i64 (qg xs i).f1) ∧ W.cell? ⟨(ad.add (i.toNat * 9)).block, (ad.add (i.toNat * 9)).off + 8, none⟩ = some (.bool (qg xs i).f2) ∧ Aside0 ((qg xs i).f0.f0.f0.length ≤ c0) ∧ Aside0 ((Kd.slice 5 (Kd.int .u8)).C w A0 (qg xs i).f0.f0.f0.length (qg xs i).f0.f0.f0) ∧ Aside0 ((qg xs i).f0.f4.f0.length ≤ c4) ∧ Aside0 ((Kd.slice 5 (Kd.int .u8)).C w A4 (qg xs i).f0.f4.f0.length (qg xs i).f0.f4.f0) ∧ Aside0 ((qg xs i).f0.f5.length ≤ c5) ∧ Aside0 ((Kd.int .u8).C w A5 (qg xs i).f0.f5.length (qg xs i).f0.f5) ∧ Aside0 ((qg xs i).f0.f6.length ≤ c6) ∧ Aside0 ((Kd.int .i64).C w A6 (qg xs i).f0.f6.length (qg xs i).f0.f6) ∧ (0 ≤ i) = True ∧ (i < n) = True := by
  obtain ⟨ad, A0, c0, A4, c4, A5, c5, A6, c6, e, x0, x1, x2, x3, x4, x5, x6, x7, x8, y0, y1, y2, y3, y4, y5, y6, y7⟩ := qa1 h.out i (of_decide_eq_true h0) (of_decide_eq_true h1);exact ⟨ad, A0, c0, A4, c4, A5, c5, A6, c6, e, x0, x1, x2, x3, x4, x5, x6, x7, x8, pw_cell_below hb.out x0, pw_cell_below hb.out x1, pw_cell_below hb.out x2, pw_cell_below hb.out x3, pw_cell_below hb.out x4, pw_cell_below hb.out x5, pw_cell_below hb.out x6, pw_cell_below hb.out x7, pw_cell_below hb.out x8, ⟨y0⟩, ⟨y1⟩, ⟨y2⟩, ⟨y3⟩, ⟨y4⟩, ⟨y5⟩, ⟨y6⟩, ⟨y7⟩, eq_true (of_decide_eq_true h0), eq_true (of_decide_eq_true h1)⟩

/-! ### Qh: function 49 -/
def Qh.f (l0 : List Int) (a1 : Int) : Option (Int) := if (wrap64 (a1 - (l0.length : Int))) < 0 then (some (-1)) else (some (wrap64 (a1 - (l0.length : Int))))
set_option maxHeartbeats 8000000 in
set_option maxRecDepth 100000 in
theorem Qh.calls (A0 : Option Addr) (c0 : Nat) (l0 : List Int) (a1 : Int) (r : Int) (w : World) (hr0 : Kd.C (Kd.int .u8) w A0 l0.length l0) (hc0 : l0.length ≤ c0) (h : Qh.f l0 a1 = some r) :
  Calls Tryz.prog 49 #[.slice A0 l0.length c0, .int .i64 a1] w fun e w' => e = .returned (.int .i64 r) ∧ Drawn0 w w' := by
 have HR0 := ak hr0;have HC0 := ak hc0;clear hr0 hc0;have H : (if (wrap64 (a1 - (l0.length : Int))) < 0 then (some (-1)) else (some (wrap64 (a1 - (l0.length : Int))))) = some r := h;clear h;replace H := ip H;obtain ⟨c3b0, H⟩ | ⟨c3b0, H⟩ := H
 ·obtain rfl := Option.some.inj H;go_enter Tryz.func49, Tryz.ntmps49;go_wp2;go_ret;exact ⟨o2, od⟩
 ·obtain rfl := Option.some.inj H;go_enter Tryz.func49, Tryz.ntmps49;go_wp2;go_ret;exact ⟨o2, od⟩

/-! ### jO: function 27 -/
def jO.l0 : Nat → List (List Int) → Int → Int → Option (Int)
 | 0, _, _, _ => none
 | k + 1, x0, x1, x5 => if x5 < (x0.length : Int) then (if 0 ≤ x5 then ((Qh.f (qN x0 x5) x1).bind fun qJ => (if qJ < 0 then (some (-1)) else (jO.l0 k x0 qJ (wrap64 (x5 + 1))))) else (none)) else (some x1)
def jO.f (k : Nat) (l0 : List (List Int)) (a1 : Int) : Option (Int) := if (wrap64 (a1 - (l0.length : Int))) < 0 then (some (-1)) else (jO.l0 k l0 (wrap64 (a1 - (l0.length : Int))) 0)
set_option maxHeartbeats 8000000 in
set_option maxRecDepth 100000 in
theorem jO.calls (k : Nat) (A0 : Option Addr) (c0 : Nat) (l0 : List (List Int)) (a1 : Int) (r : Int) (w : World) (hr0 : Kd.C (Kd.slice 5 (Kd.int .u8)) w A0 l0.length l0) (hc0 : l0.length ≤ c0) (h : jO.f k l0 a1 = some r) :
  Calls Tryz.prog 27 #[.slice A0 l0.length c0, .int .i64 a1] w fun e w' => e = .returned (.int .i64 r) ∧ Drawn0 w w' := by
 have HR0 := ak hr0;have HC0 := ak hc0;clear hr0 hc0;have H : (if (wrap64 (a1 - (l0.length : Int))) < 0 then (some (-1)) else (jO.l0 k l0 (wrap64 (a1 - (l0.length : Int))) 0)) = some r := h;clear h;replace H := ip H;obtain ⟨c3b0, H⟩ | ⟨c3b0, H⟩ := H
 ·obtain rfl := Option.some.inj H;go_enter Tryz.func27, Tryz.ntmps27;go_wp2;go_ret;exact ⟨o2, od⟩
 ·have H' := ak H;clear H;go_enter Tryz.func27, Tryz.ntmps27;go_wp2;go_loopg [1, 5] k (fun kq v1 v5 w' => ∃ (YI : Int) (qf : Int), v1 = .int .i64 YI ∧ v5 = .int .i64 qf ∧ Aside0 (jO.l0 kq l0 YI qf = some r) ∧ Aside0 (kq ≤ k) ∧ Drawn0 w w')
  case atStart => exact ⟨(wrap64 (a1 - (l0.length : Int))), (0), o2, o2, H', ⟨Nat.le_refl _⟩, od⟩
  case round =>
   clear H';(try clear c3b0)
   obtain ⟨YI, qf, rfl, rfl, HA, HK1, ⟨m1, rfl⟩⟩ := hrel;cases gk with
   | zero => exact absurd HA.out (by simp [jO.l0])
   | succ k1 =>
    have H := HA.out;clear HA;simp only [jO.l0] at H;replace H := ip H;obtain ⟨c4b0, H⟩ | ⟨c4b0, H⟩ := H
    ·replace H := ipN H;obtain ⟨c5b0, H⟩ := H;replace H := bnd H;obtain ⟨qJ, A6, H⟩ := H;replace H := ip H;obtain ⟨c7b0, H⟩ | ⟨c7b0, H⟩ := H
     ·obtain rfl := Option.some.inj H;obtain ⟨qK, JJ, JH, rfl, jQ, zt, jT, QT, QS⟩ := el0_L10 HR0 qf;go_wp2_with (((with_reducible refine gate_callee (f := 49) rfl ?_);refine glD 23 rfl rfl Tryz.func49 (Qh.calls _ _ (qN l0 qf) YI qJ _ (cd jT) zt.out A6.out) (fun nd => ?_)));go_ret;exact ⟨o2, od⟩
     ·have H' := ak H;clear H;obtain ⟨qK, JJ, JH, rfl, jQ, zt, jT, QT, QS⟩ := el0_L10 HR0 qf;go_wp2_with (((with_reducible refine gate_callee (f := 49) rfl ?_);refine glD 23 rfl rfl Tryz.func49 (Qh.calls _ _ (qN l0 qf) YI qJ _ (cd jT) zt.out A6.out) (fun nd => ?_)));go_roundg k1;case measure => have := HK1.out; omega
      case rel => exact ⟨(qJ), (wrap64 (qf + 1)), o2, o2, H', ⟨by have := HK1.out; omega⟩, od⟩
    ·obtain rfl := Option.some.inj H;go_wp2;go_ret;exact ⟨o2, od⟩

/-! ### jN: function 12 -/
def jN.f (k : Nat) (qd : List (List Int)) (a1 : Int) : Option (Int) := (jO.f k qd a1).bind fun qJ => (if qJ < 0 then (some (-1)) else (some qJ))
set_option maxHeartbeats 8000000 in
set_option maxRecDepth 100000 in
theorem jN.calls (k : Nat) (qC : Option Addr) (qA : Nat) (qd : List (List Int)) (a1 : Int) (r : Int) (w : World) (qQ : Kd.C (Kd.slice 5 (Kd.int .u8)) w qC qd.length qd) (qS : qd.length ≤ qA) (h : jN.f k qd a1 = some r) :
  Calls Tryz.prog 12 #[.agg #[.slice qC qd.length qA], .int .i64 a1] w fun e w' => e = .returned (.int .i64 r) ∧ Below w.heap.size w w' := by
 have qkC := Tryz.underlying24;have qy := ak qQ;have qz := ak qS;clear qQ qS;have HB := ak (Below.refl w.heap.size w);have H : ((jO.f k qd a1).bind fun qJ => (if qJ < 0 then (some (-1)) else (some qJ))) = some r := h;clear h;replace H := bnd H;obtain ⟨qJ, A3, H⟩ := H;replace H := ip H;obtain ⟨c4b0, H⟩ | ⟨c4b0, H⟩ := H
 ·obtain rfl := Option.some.inj H;go_enter Tryz.func12, Tryz.ntmps12;go_wp2_with (first | ((with_reducible refine gate_dst (N := 2) rfl ?_);refine bxd (N := 2) rfl HB ?_;clear HB;intro qk w5 hg HB qb qw hb;have jd := qw;clear hb hg;obtain ⟨qcB, qcA⟩ := cells1 qb.out) | ((with_reducible refine gate_callee (f := 27) rfl ?_);refine glD 8 rfl rfl Tryz.func27 (jO.calls k _ _ qd a1 qJ _ (cv qy HB) qz.out A3.out) (fun nd => ?_)));go_ret;exact ⟨o1, bs⟩
 ·obtain rfl := Option.some.inj H;go_enter Tryz.func12, Tryz.ntmps12;go_wp2_with (first | ((with_reducible refine gate_dst (N := 2) rfl ?_);refine bxd (N := 2) rfl HB ?_;clear HB;intro qk w7 hg HB qb qw hb;have jd := qw;clear hb hg;obtain ⟨XL, XK⟩ := cells1 qb.out) | ((with_reducible refine gate_callee (f := 27) rfl ?_);refine glD 8 rfl rfl Tryz.func27 (jO.calls k _ _ qd a1 qJ _ (cv qy HB) qz.out A3.out) (fun nd => ?_)));go_ret;exact ⟨o1, bs⟩

/-! ### JZ: function 50 -/
def JZ.f (l0 : List Int) (a1 : Int) : Option (Int) := if (wrap64 (a1 - (l0.length : Int))) < 0 then (some (-1)) else (some (wrap64 (a1 - (l0.length : Int))))
set_option maxHeartbeats 8000000 in
set_option maxRecDepth 100000 in
theorem JZ.calls (A0 : Option Addr) (c0 : Nat) (l0 : List Int) (a1 : Int) (r : Int) (w : World) (hr0 : Kd.C (Kd.int .i64) w A0 l0.length l0) (hc0 : l0.length ≤ c0) (h : JZ.f l0 a1 = some r) :
  Calls Tryz.prog 50 #[.slice A0 l0.length c0, .int .i64 a1] w fun e w' => e = .returned (.int .i64 r) ∧ Drawn0 w w' := by
 have HR0 := ak hr0;have HC0 := ak hc0;clear hr0 hc0;have H : (if (wrap64 (a1 - (l0.length : Int))) < 0 then (some (-1)) else (some (wrap64 (a1 - (l0.length : Int))))) = some r := h;clear h;replace H := ip H;obtain ⟨c3b0, H⟩ | ⟨c3b0, H⟩ := H
 ·obtain rfl := Option.some.inj H;go_enter Tryz.func50, Tryz.ntmps50;go_wp2;go_ret;exact ⟨o2, od⟩
 ·obtain rfl := Option.some.inj H;go_enter Tryz.func50, Tryz.ntmps50;go_wp2;go_ret;exact ⟨o2, od⟩

/-! ### QY: function 28 -/
def QY.f (k : Nat) (qd : List (List Int)) (qu : Int) (qD : Int) (qB : Int) (qt : List (List Int)) (qn : List Int) (qm : List Int) (a1 : Int) : Option (Int) := (jN.f k qd a1).bind fun qJ => (if qJ < 0 then (some (-1)) else ((jN.f k qt qJ).bind fun qU => (if qU < 0 then (some (-1)) else ((Qh.f qn qU).bind fun qE => (if qE < 0 then (some (-1)) else ((JZ.f qm qE).bind fun jq => (if jq < 0 then (some (-1)) else (some jq))))))))
set_option maxHeartbeats 8000000 in
set_option maxRecDepth 100000 in
theorem QY.calls (k : Nat) (qC : Option Addr) (qA : Nat) (qd : List (List Int)) (qu : Int) (qD : Int) (qB : Int) (zc : Option Addr) (za : Nat) (qt : List (List Int)) (zk : Option Addr) (zi : Nat) (qn : List Int) (zl : Option Addr) (zh : Nat) (qm : List Int) (a1 : Int) (r : Int) (w : World) (qQ : Kd.C (Kd.slice 5 (Kd.int .u8)) w qC qd.length qd) (qS : qd.length ≤ qA) (zG : Kd.C (Kd.slice 5 (Kd.int .u8)) w zc qt.length qt) (zJ : qt.length ≤ za) (zF : Kd.C (Kd.int .u8) w zk qn.length qn) (zI : qn.length ≤ zi) (zE : Kd.C (Kd.int .i64) w zl qm.length qm) (zH : qm.length ≤ zh) (h : QY.f k qd qu qD qB qt qn qm a1 = some r) :
  Calls Tryz.prog 28 #[.agg #[.slice qC qd.length qA, .int .i64 qu, .int .i64 qD, .int .i64 qB, .slice zc qt.length za, .slice zk qn.length zi, .slice zl qm.length zh], .int .i64 a1] w fun e w' => e = .returned (.int .i64 r) ∧ Below w.heap.size w w' := by
 have qkB := Tryz.underlying48;have qkC := Tryz.underlying24;have qy := ak qQ;have qz := ak qS;clear qQ qS;have zv := ak zG;have zx := ak zJ;clear zG zJ;have yt := ak zF;have yI := ak zI;clear zF zI;have jV := ak zE;have yM := ak zH;clear zE zH;have HB := ak (Below.refl w.heap.size w);have H : ((jN.f k qd a1).bind fun qJ => (if qJ < 0 then (some (-1)) else ((jN.f k qt qJ).bind fun qU => (if qU < 0 then (some (-1)) else ((Qh.f qn qU).bind fun qE => (if qE < 0 then (some (-1)) else ((JZ.f qm qE).bind fun jq => (if jq < 0 then (some (-1)) else (some jq))))))))) = some r := h;clear h;replace H := bnd H;obtain ⟨qJ, A3, H⟩ := H;replace H := ip H;obtain ⟨c4b0, H⟩ | ⟨c4b0, H⟩ := H
 ·obtain rfl := Option.some.inj H;go_enter Tryz.func28, Tryz.ntmps28;go_wp2_with (first | ((with_reducible refine gate_dst (N := 2) rfl ?_);refine bxd (N := 2) rfl HB ?_;clear HB;intro qk w5 hg HB qb qw hb;have jd := qw;clear hb hg;obtain ⟨qcB, qgK, qxH, qxG, qxF, qxE, qxD, qcA, qgB, qxq, qxp, qxo, qxn, qxm⟩ := cells7 qb.out) | ((with_reducible refine gate_callee (f := 12) rfl ?_);refine glB 8 rfl rfl Tryz.func12 (jN.calls k _ _ qd a1 qJ _ (cv qy HB) qz.out A3.out) (fun w7 hb => ?_);replace qb := b1 qb hb;replace HB := b2s bs hb;(try clear hb)));go_ret;exact ⟨o1, bs⟩
 ·replace H := bnd H;obtain ⟨qU, A8, H⟩ := H;replace H := ip H;obtain ⟨c9b0, H⟩ | ⟨c9b0, H⟩ := H
  ·obtain rfl := Option.some.inj H;go_enter Tryz.func28, Tryz.ntmps28;go_wp2_with (first | ((with_reducible refine gate_dst (N := 2) rfl ?_);refine bxd (N := 2) rfl HB ?_;clear HB;intro qk w10 hg HB qb qw hb;have jd := qw;clear hb hg;obtain ⟨ZL, YY, qdM, qdL, qdK, qdJ, qdI, ZK, YU, qdl, qdk, qdj, qdi, qdh⟩ := cells7 qb.out) | ((with_reducible refine gate_callee (f := 12) rfl ?_);refine glB 8 rfl rfl Tryz.func12 (jN.calls k _ _ qd a1 qJ _ (cv qy HB) qz.out A3.out) (fun w12 hb => ?_);replace qb := b1 qb hb;replace HB := b2s bs hb;(try clear hb);obtain ⟨Zr, Ym, qaP, qaO, qaN, qaM, qaL, Zq, Yk, qaw, qav, qau, qat, qas⟩ := cells7 qb.out) | ((with_reducible refine gate_callee (f := 12) rfl ?_);refine glB 14 rfl rfl Tryz.func12 (jN.calls k _ _ qt qJ qU _ (cv zv HB) zx.out A8.out) (fun w14 hb => ?_);replace qb := b1 qb hb;replace HB := b2s bs hb;(try clear hb)));go_ret;exact ⟨o1, bs⟩
  ·replace H := bnd H;obtain ⟨qE, A15, H⟩ := H;replace H := ip H;obtain ⟨c16b0, H⟩ | ⟨c16b0, H⟩ := H
   ·obtain rfl := Option.some.inj H;go_enter Tryz.func28, Tryz.ntmps28;go_wp2_with (first | ((with_reducible refine gate_dst (N := 2) rfl ?_);refine bxd (N := 2) rfl HB ?_;clear HB;intro qk w17 hg HB qb qw hb;have jd := qw;clear hb hg;obtain ⟨Xx, Xw, qf0, qfZ, qfY, qfX, qfW, Xo, Xn, qfm, qfl, qfk, qfj, qfi⟩ := cells7 qb.out) | ((with_reducible refine gate_callee (f := 12) rfl ?_);refine glB 8 rfl rfl Tryz.func12 (jN.calls k _ _ qd a1 qJ _ (cv qy HB) qz.out A3.out) (fun w19 hb => ?_);replace qb := b1 qb hb;replace HB := b2s bs hb;(try clear hb);obtain ⟨YC, Xu, qcf, qce, qcd, qcc, qcb, YA, Xl, qbM, qbL, qbK, qbJ, qbI⟩ := cells7 qb.out) | ((with_reducible refine gate_callee (f := 12) rfl ?_);refine glB 14 rfl rfl Tryz.func12 (jN.calls k _ _ qt qJ qU _ (cv zv HB) zx.out A8.out) (fun w21 hb => ?_);replace qb := b1 qb hb;replace HB := b2s bs hb;(try clear hb);obtain ⟨YB, Xt, qaE, qaD, qaC, qaB, qaA, Yz, Xk, qal, qak, qaj, qai, qah⟩ := cells7 qb.out) | ((with_reducible refine gate_callee (f := 49) rfl ?_);refine glD 20 rfl rfl Tryz.func49 (Qh.calls _ _ qn qU qE _ (cv yt HB) yI.out A15.out) (fun nd => ?_)));go_ret;exact ⟨o1, bs⟩
   ·replace H := bnd H;obtain ⟨jq, A23, H⟩ := H;replace H := ip H;obtain ⟨c24b0, H⟩ | ⟨c24b0, H⟩ := H
    ·obtain rfl := Option.some.inj H;go_enter Tryz.func28, Tryz.ntmps28;go_wp2_with (first | ((with_reducible refine gate_dst (N := 2) rfl ?_);refine bxd (N := 2) rfl HB ?_;clear HB;intro qk w25 hg HB qb qw hb;have jd := qw;clear hb hg;obtain ⟨qdz, qfT, qju, qjt, qjs, qjr, qjq, qc8, qff, qh9, qh8, qh7, qh6, qh5⟩ := cells7 qb.out) | ((with_reducible refine gate_callee (f := 12) rfl ?_);refine glB 8 rfl rfl Tryz.func12 (jN.calls k _ _ qd a1 qJ _ (cv qy HB) qz.out A3.out) (fun w27 hb => ?_);replace qb := b1 qb hb;replace HB := b2s bs hb;(try clear hb);obtain ⟨qb8, qb7, qfQ, qfP, qfO, qfN, qfM, qbF, qbE, qfc, qfb, qfa, qe9, qe8⟩ := cells7 qb.out) | ((with_reducible refine gate_callee (f := 12) rfl ?_);refine glB 14 rfl rfl Tryz.func12 (jN.calls k _ _ qt qJ qU _ (cv zv HB) zx.out A8.out) (fun w29 hb => ?_);replace qb := b1 qb hb;replace HB := b2s bs hb;(try clear hb);obtain ⟨qfL, qjk, qjj, qji, qjh, qjg, qjf, qe7, qhZ, qhY, qhX, qhW, qhV, qhU⟩ := cells7 qb.out) | ((with_reducible refine gate_callee (f := 49) rfl ?_);refine glD 20 rfl rfl Tryz.func49 (Qh.calls _ _ qn qU qE _ (cv yt HB) yI.out A15.out) (fun nd => ?_)) | ((with_reducible refine gate_callee (f := 50) rfl ?_);refine glD 26 rfl rfl Tryz.func50 (JZ.calls _ _ qm qE jq _ ?jI yM.out A23.out) (fun nd => ?_);(case jI => repeat (first | exact (Kd.C_below jV.out bs) | (with_reducible refine Kd.C_alloc ?_ _) | (with_reducible refine Kd.C_drewN ?_ _) | (with_reducible refine Kd.C_drew ?_)))));go_ret;exact ⟨o1, bs⟩
    ·obtain rfl := Option.some.inj H;go_enter Tryz.func28, Tryz.ntmps28;go_wp2_with (first | ((with_reducible refine gate_dst (N := 2) rfl ?_);refine bxd (N := 2) rfl HB ?_;clear HB;intro qk w31 hg HB qb qw hb;have jd := qw;clear hb hg;obtain ⟨qay, qax, qbZ, qbY, qbX, qbW, qbV, qaf, qae, qbw, qbv, qbu, qbt, qbs⟩ := cells7 qb.out) | ((with_reducible refine gate_callee (f := 12) rfl ?_);refine glB 8 rfl rfl Tryz.func12 (jN.calls k _ _ qd a1 qJ _ (cv qy HB) qz.out A3.out) (fun w33 hb => ?_);replace qb := b1 qb hb;replace HB := b2s bs hb;(try clear hb);obtain ⟨qje, qo9, qo8, qo7, qo6, qo5, qo4, qhT, qnd, qnc, qnb, qna, qm9, qm8⟩ := cells7 qb.out) | ((with_reducible refine gate_callee (f := 12) rfl ?_);refine glB 14 rfl rfl Tryz.func12 (jN.calls k _ _ qt qJ qU _ (cv zv HB) zx.out A8.out) (fun w35 hb => ?_);replace qb := b1 qb hb;replace HB := b2s bs hb;(try clear hb);obtain ⟨qjd, qo3, qo2, qo1, qo0, qoZ, qoY, qhS, qm7, qm6, qm5, qm4, qm3, qm2⟩ := cells7 qb.out) | ((with_reducible refine gate_callee (f := 49) rfl ?_);refine glD 20 rfl rfl Tryz.func49 (Qh.calls _ _ qn qU qE _ (cv yt HB) yI.out A15.out) (fun nd => ?_)) | ((with_reducible refine gate_callee (f := 50) rfl ?_);refine glD 26 rfl rfl Tryz.func50 (JZ.calls _ _ qm qE jq _ ?jI yM.out A23.out) (fun nd => ?_);(case jI => repeat (first | exact (Kd.C_below jV.out bs) | (with_reducible refine Kd.C_alloc ?_ _) | (with_reducible refine Kd.C_drewN ?_ _) | (with_reducible refine Kd.C_drew ?_)))));go_ret;exact ⟨o1, bs⟩

/-! ### zC: function 13 -/
def zC.l0 : Nat → List (S48) → Int → Int → Option (Int)
 | 0, _, _, _ => none
 | k + 1, x0, x1, x5 => if x5 < (x0.length : Int) then (if 0 ≤ x5 then ((QY.f k ((qW x0 x5).f0.f0) ((qW x0 x5).f1) ((qW x0 x5).f2) ((qW x0 x5).f3) ((qW x0 x5).f4.f0) ((qW x0 x5).f5) ((qW x0 x5).f6) x1).bind fun qJ => (if qJ < 0 then (some (-1)) else (zC.l0 k x0 qJ (wrap64 (x5 + 1))))) else (none)) else (some x1)
def zC.f (k : Nat) (l0 : List (S48)) (a1 : Int) : Option (Int) := if (wrap64 (a1 - (l0.length : Int))) < 0 then (some (-1)) else (zC.l0 k l0 (wrap64 (a1 - (l0.length : Int))) 0)
set_option maxHeartbeats 8000000 in
set_option maxRecDepth 100000 in
theorem zC.calls (k : Nat) (A0 : Option Addr) (c0 : Nat) (l0 : List (S48)) (a1 : Int) (r : Int) (w : World) (hr0 : Kd.C k48 w A0 l0.length l0) (hc0 : l0.length ≤ c0) (h : zC.f k l0 a1 = some r) :
  Calls Tryz.prog 13 #[.slice A0 l0.length c0, .int .i64 a1] w fun e w' => e = .returned (.int .i64 r) ∧ Below w.heap.size w w' := by
 have qkB := Tryz.underlying48;have HR0 := ak hr0;have HC0 := ak hc0;clear hr0 hc0;have HB := ak (Below.refl w.heap.size w);have H : (if (wrap64 (a1 - (l0.length : Int))) < 0 then (some (-1)) else (zC.l0 k l0 (wrap64 (a1 - (l0.length : Int))) 0)) = some r := h;clear h;replace H := ip H;obtain ⟨c3b0, H⟩ | ⟨c3b0, H⟩ := H
 ·obtain rfl := Option.some.inj H;go_enter Tryz.func13, Tryz.ntmps13;go_wp2;go_ret;exact ⟨o1, bw HB.out⟩
 ·have H' := ak H;clear H;go_enter Tryz.func13, Tryz.ntmps13;go_wp2;go_loopg [1, 5] k (fun kq v1 v5 w' => ∃ (YI : Int) (qf : Int), v1 = .int .i64 YI ∧ v5 = .int .i64 qf ∧ Aside0 (zC.l0 kq l0 YI qf = some r) ∧ Aside0 (kq ≤ k) ∧ Aside0 (Below w.heap.size w w'))
  case atStart => exact ⟨(wrap64 (a1 - (l0.length : Int))), (0), o2, o2, H', ⟨Nat.le_refl _⟩, ⟨bw HB.out⟩⟩
  case round =>
   clear H';(try clear c3b0)
   obtain ⟨YI, qf, rfl, rfl, HA, HK1, HB⟩ := hrel;cases gk with
   | zero => exact absurd HA.out (by simp [zC.l0])
   | succ k1 =>
    have H := HA.out;clear HA;simp only [zC.l0] at H;replace H := ip H;obtain ⟨c4b0, H⟩ | ⟨c4b0, H⟩ := H
    ·replace H := ipN H;obtain ⟨c5b0, H⟩ := H;replace H := bnd H;obtain ⟨qJ, A6, H⟩ := H;replace H := ip H;obtain ⟨c7b0, H⟩ | ⟨c7b0, H⟩ := H
     ·obtain rfl := Option.some.inj H;obtain ⟨qK, JJ, JH, ZI, ZF, ZH, ZE, ZG, ZD, rfl, jQ, Jo, Jn, Jm, Jl, Jk, Jj, zt, jT, QE, yT, QD, yS, QC, yR, QT, QS⟩ := el_T48 HR0 HB qf;go_wp2_with (((with_reducible refine gate_callee (f := 28) rfl ?_);refine glB 23 rfl rfl Tryz.func28 (QY.calls k1 _ _ ((qW l0 qf).f0.f0) ((qW l0 qf).f1) ((qW l0 qf).f2) ((qW l0 qf).f3) _ _ ((qW l0 qf).f4.f0) _ _ ((qW l0 qf).f5) _ _ ((qW l0 qf).f6) YI qJ _ (cv jT HB) zt.out (cv yT HB) QE.out (cv yS HB) QD.out (cv yR HB) QC.out A6.out) (fun w8 hb => ?_);replace HB := b2 HB hb;(try clear hb)));go_ret;exact ⟨o1, bw HB.out⟩
     ·have H' := ak H;clear H;obtain ⟨qK, JJ, JH, ZI, ZF, ZH, ZE, ZG, ZD, rfl, jQ, Jo, Jn, Jm, Jl, Jk, Jj, zt, jT, QE, yT, QD, yS, QC, yR, QT, QS⟩ := el_T48 HR0 HB qf;go_wp2_with (((with_reducible refine gate_callee (f := 28) rfl ?_);refine glB 23 rfl rfl Tryz.func28 (QY.calls k1 _ _ ((qW l0 qf).f0.f0) ((qW l0 qf).f1) ((qW l0 qf).f2) ((qW l0 qf).f3) _ _ ((qW l0 qf).f4.f0) _ _ ((qW l0 qf).f5) _ _ ((qW l0 qf).f6) YI qJ _ (cv jT HB) zt.out (cv yT HB) QE.out (cv yS HB) QD.out (cv yR HB) QC.out A6.out) (fun w9 hb => ?_);replace HB := b2 HB hb;(try clear hb)));go_roundg k1;case measure => have := HK1.out; omega
      case rel => exact ⟨(qJ), (wrap64 (qf + 1)), o2, o2, H', ⟨by have := HK1.out; omega⟩, ⟨bw HB.out⟩⟩
    ·obtain rfl := Option.some.inj H;go_wp2;go_ret;exact ⟨o1, bw HB.out⟩

/-! ### JB: function 4 -/
def JB.f (k : Nat) (qd : List (List Int)) (qc : List (S48)) (a1 : Int) : Option (Int) := (jN.f k qd a1).bind fun qJ => (if qJ < 0 then (some (-1)) else ((zC.f k qc qJ).bind fun qU => (if qU < 0 then (some (-1)) else (some qU))))
set_option maxHeartbeats 8000000 in
set_option maxRecDepth 100000 in
theorem JB.calls (k : Nat) (qC : Option Addr) (qA : Nat) (qd : List (List Int)) (yL : Option Addr) (jK : Nat) (qc : List (S48)) (a1 : Int) (r : Int) (w : World) (qQ : Kd.C (Kd.slice 5 (Kd.int .u8)) w qC qd.length qd) (qS : qd.length ≤ qA) (QI : Kd.C k48 w yL qc.length qc) (QJ : qc.length ≤ jK) (h : JB.f k qd qc a1 = some r) :
  Calls Tryz.prog 4 #[.agg #[.slice qC qd.length qA, .slice yL qc.length jK], .int .i64 a1] w fun e w' => e = .returned (.int .i64 r) ∧ Below w.heap.size w w' := by
 have qxh := Tryz.underlying27;have qkC := Tryz.underlying24;have qy := ak qQ;have qz := ak qS;clear qQ qS;have ym := ak QI;have Qa := ak QJ;clear QI QJ;have HB := ak (Below.refl w.heap.size w);have H : ((jN.f k qd a1).bind fun qJ => (if qJ < 0 then (some (-1)) else ((zC.f k qc qJ).bind fun qU => (if qU < 0 then (some (-1)) else (some qU))))) = some r := h;clear h;replace H := bnd H;obtain ⟨qJ, A3, H⟩ := H;replace H := ip H;obtain ⟨c4b0, H⟩ | ⟨c4b0, H⟩ := H
 ·obtain rfl := Option.some.inj H;go_enter Tryz.func4, Tryz.ntmps4;go_wp2_with (first | ((with_reducible refine gate_dst (N := 2) rfl ?_);refine bxd (N := 2) rfl HB ?_;clear HB;intro qk w5 hg HB qb qw hb;have jd := qw;clear hb hg;obtain ⟨qcB, qgK, qcA, qgB⟩ := cells2 qb.out) | ((with_reducible refine gate_callee (f := 12) rfl ?_);refine glB 8 rfl rfl Tryz.func12 (jN.calls k _ _ qd a1 qJ _ (cv qy HB) qz.out A3.out) (fun w7 hb => ?_);replace qb := b1 qb hb;replace HB := b2s bs hb;(try clear hb)));go_ret;exact ⟨o1, bs⟩
 ·replace H := bnd H;obtain ⟨qU, A8, H⟩ := H;replace H := ip H;obtain ⟨c9b0, H⟩ | ⟨c9b0, H⟩ := H
  ·obtain rfl := Option.some.inj H;go_enter Tryz.func4, Tryz.ntmps4;go_wp2_with (first | ((with_reducible refine gate_dst (N := 2) rfl ?_);refine bxd (N := 2) rfl HB ?_;clear HB;intro qk w10 hg HB qb qw hb;have jd := qw;clear hb hg;obtain ⟨ZL, YY, ZK, YU⟩ := cells2 qb.out) | ((with_reducible refine gate_callee (f := 12) rfl ?_);refine glB 8 rfl rfl Tryz.func12 (jN.calls k _ _ qd a1 qJ _ (cv qy HB) qz.out A3.out) (fun w12 hb => ?_);replace qb := b1 qb hb;replace HB := b2s bs hb;(try clear hb);obtain ⟨Zr, Ym, Zq, Yk⟩ := cells2 qb.out) | ((with_reducible refine gate_callee (f := 13) rfl ?_);refine glB 14 rfl rfl Tryz.func13 (zC.calls k _ _ qc qJ qU _ (cv ym HB) Qa.out A8.out) (fun w14 hb => ?_);replace qb := b1 qb hb;replace HB := b2s bs hb;(try clear hb)));go_ret;exact ⟨o1, bs⟩
  ·obtain rfl := Option.some.inj H;go_enter Tryz.func4, Tryz.ntmps4;go_wp2_with (first | ((with_reducible refine gate_dst (N := 2) rfl ?_);refine bxd (N := 2) rfl HB ?_;clear HB;intro qk w15 hg HB qb qw hb;have jd := qw;clear hb hg;obtain ⟨YV, Xy, YR, Xp⟩ := cells2 qb.out) | ((with_reducible refine gate_callee (f := 12) rfl ?_);refine glB 8 rfl rfl Tryz.func12 (jN.calls k _ _ qd a1 qJ _ (cv qy HB) qz.out A3.out) (fun w17 hb => ?_);replace qb := b1 qb hb;replace HB := b2s bs hb;(try clear hb);obtain ⟨Xx, Xw, Xo, Xn⟩ := cells2 qb.out) | ((with_reducible refine gate_callee (f := 13) rfl ?_);refine glB 14 rfl rfl Tryz.func13 (zC.calls k _ _ qc qJ qU _ (cv ym HB) Qa.out A8.out) (fun w19 hb => ?_);replace qb := b1 qb hb;replace HB := b2s bs hb;(try clear hb)));go_ret;exact ⟨o1, bs⟩

/-! ### JC: function 14 -/
def JC.f (k : Nat) (qd : List (List Int)) (qu : Int) (qD : Int) (qB : Int) (qt : List (List Int)) (qn : List Int) (qm : List Int) (zb : Int) (zy : Bool) (a1 : Int) : Option (Int) := (QY.f k qd qu qD qB qt qn qm a1).bind fun qJ => (if qJ < 0 then (some (-1)) else (some qJ))
set_option maxHeartbeats 8000000 in
set_option maxRecDepth 100000 in
theorem JC.calls (k : Nat) (qC : Option Addr) (qA : Nat) (qd : List (List Int)) (qu : Int) (qD : Int) (qB : Int) (zc : Option Addr) (za : Nat) (qt : List (List Int)) (zk : Option Addr) (zi : Nat) (qn : List Int) (zl : Option Addr) (zh : Nat) (qm : List Int) (zb : Int) (zy : Bool) (a1 : Int) (r : Int) (w : World) (qQ : Kd.C (Kd.slice 5 (Kd.int .u8)) w qC qd.length qd) (qS : qd.length ≤ qA) (zG : Kd.C (Kd.slice 5 (Kd.int .u8)) w zc qt.length qt) (zJ : qt.length ≤ za) (zF : Kd.C (Kd.int .u8) w zk qn.length qn) (zI : qn.length ≤ zi) (zE : Kd.C (Kd.int .i64) w zl qm.length qm) (zH : qm.length ≤ zh) (h : JC.f k qd qu qD qB qt qn qm zb zy a1 = some r) :
  Calls Tryz.prog 14 #[.agg #[.slice qC qd.length qA, .int .i64 qu, .int .i64 qD, .int .i64 qB, .slice zc qt.length za, .slice zk qn.length zi, .slice zl qm.length zh, .int .i64 zb, .bool zy], .int .i64 a1] w fun e w' => e = .returned (.int .i64 r) ∧ Below w.heap.size w w' := by
 have qqo := Tryz.underlying50;have qkB := Tryz.underlying48;have qy := ak qQ;have qz := ak qS;clear qQ qS;have zv := ak zG;have zx := ak zJ;clear zG zJ;have yt := ak zF;have yI := ak zI;clear zF zI;have jV := ak zE;have yM := ak zH;clear zE zH;have HB := ak (Below.refl w.heap.size w);have H : ((QY.f k qd qu qD qB qt qn qm a1).bind fun qJ => (if qJ < 0 then (some (-1)) else (some qJ))) = some r := h;clear h;replace H := bnd H;obtain ⟨qJ, A3, H⟩ := H;replace H := ip H;obtain ⟨c4b0, H⟩ | ⟨c4b0, H⟩ := H
 ·obtain rfl := Option.some.inj H;go_enter Tryz.func14, Tryz.ntmps14;go_wp2_with (first | ((with_reducible refine gate_dst (N := 2) rfl ?_);refine bxd (N := 2) rfl HB ?_;clear HB;intro qk w5 hg HB qb qw hb;have jd := qw;clear hb hg;obtain ⟨qcB, qgK, qxH, qxG, qxF, qxE, qxD, qFV, qFU, qcA, qgB, qxq, qxp, qxo, qxn, qxm, qFL, qFK⟩ := cells9 qb.out) | ((with_reducible refine gate_callee (f := 28) rfl ?_);refine glB 8 rfl rfl Tryz.func28 (QY.calls k _ _ qd qu qD qB _ _ qt _ _ qn _ _ qm a1 qJ _ (cv qy HB) qz.out (cv zv HB) zx.out (cv yt HB) yI.out (cv jV HB) yM.out A3.out) (fun w7 hb => ?_);replace qb := b1 qb hb;replace HB := b2s bs hb;(try clear hb)));go_ret;exact ⟨o1, bs⟩
 ·obtain rfl := Option.some.inj H;go_enter Tryz.func14, Tryz.ntmps14;go_wp2_with (first | ((with_reducible refine gate_dst (N := 2) rfl ?_);refine bxd (N := 2) rfl HB ?_;clear HB;intro qk w8 hg HB qb qw hb;have jd := qw;clear hb hg;obtain ⟨Yl, YL, qgH, qgG, qgF, qgE, qgD, qFR, qFQ, Yj, YK, qgy, qgx, qgw, qgv, qgu, qFH, qFG⟩ := cells9 qb.out) | ((with_reducible refine gate_callee (f := 28) rfl ?_);refine glB 8 rfl rfl Tryz.func28 (QY.calls k _ _ qd qu qD qB _ _ qt _ _ qn _ _ qm a1 qJ _ (cv qy HB) qz.out (cv zv HB) zx.out (cv yt HB) yI.out (cv jV HB) yM.out A3.out) (fun w10 hb => ?_);replace qb := b1 qb hb;replace HB := b2s bs hb;(try clear hb)));go_ret;exact ⟨o1, bs⟩

/-! ### jL: function 5 -/
def jL.l0 : Nat → List (S50) → Int → Int → Option (Int)
 | 0, _, _, _ => none
 | k + 1, x0, x1, x5 => if x5 < (x0.length : Int) then (if 0 ≤ x5 then ((JC.f k ((qR x0 x5).f0.f0.f0) ((qR x0 x5).f0.f1) ((qR x0 x5).f0.f2) ((qR x0 x5).f0.f3) ((qR x0 x5).f0.f4.f0) ((qR x0 x5).f0.f5) ((qR x0 x5).f0.f6) ((qR x0 x5).f1) ((qR x0 x5).f2) x1).bind fun qJ => (if qJ < 0 then (some (-1)) else (jL.l0 k x0 qJ (wrap64 (x5 + 1))))) else (none)) else (some x1)
def jL.f (k : Nat) (l0 : List (S50)) (a1 : Int) : Option (Int) := if (wrap64 (a1 - (l0.length : Int))) < 0 then (some (-1)) else (jL.l0 k l0 (wrap64 (a1 - (l0.length : Int))) 0)
set_option maxHeartbeats 8000000 in
set_option maxRecDepth 100000 in
theorem jL.calls (k : Nat) (A0 : Option Addr) (c0 : Nat) (l0 : List (S50)) (a1 : Int) (r : Int) (w : World) (hr0 : Kd.C k50 w A0 l0.length l0) (hc0 : l0.length ≤ c0) (h : jL.f k l0 a1 = some r) :
  Calls Tryz.prog 5 #[.slice A0 l0.length c0, .int .i64 a1] w fun e w' => e = .returned (.int .i64 r) ∧ Below w.heap.size w w' := by
 have qqo := Tryz.underlying50;have HR0 := ak hr0;have HC0 := ak hc0;clear hr0 hc0;have HB := ak (Below.refl w.heap.size w);have H : (if (wrap64 (a1 - (l0.length : Int))) < 0 then (some (-1)) else (jL.l0 k l0 (wrap64 (a1 - (l0.length : Int))) 0)) = some r := h;clear h;replace H := ip H;obtain ⟨c3b0, H⟩ | ⟨c3b0, H⟩ := H
 ·obtain rfl := Option.some.inj H;go_enter Tryz.func5, Tryz.ntmps5;go_wp2;go_ret;exact ⟨o1, bw HB.out⟩
 ·have H' := ak H;clear H;go_enter Tryz.func5, Tryz.ntmps5;go_wp2;go_loopg [1, 5] k (fun kq v1 v5 w' => ∃ (YI : Int) (qf : Int), v1 = .int .i64 YI ∧ v5 = .int .i64 qf ∧ Aside0 (jL.l0 kq l0 YI qf = some r) ∧ Aside0 (kq ≤ k) ∧ Aside0 (Below w.heap.size w w'))
  case atStart => exact ⟨(wrap64 (a1 - (l0.length : Int))), (0), o2, o2, H', ⟨Nat.le_refl _⟩, ⟨bw HB.out⟩⟩
  case round =>
   clear H';(try clear c3b0)
   obtain ⟨YI, qf, rfl, rfl, HA, HK1, HB⟩ := hrel;cases gk with
   | zero => exact absurd HA.out (by simp [jL.l0])
   | succ k1 =>
    have H := HA.out;clear HA;simp only [jL.l0] at H;replace H := ip H;obtain ⟨c4b0, H⟩ | ⟨c4b0, H⟩ := H
    ·replace H := ipN H;obtain ⟨c5b0, H⟩ := H;replace H := bnd H;obtain ⟨qJ, A6, H⟩ := H;replace H := ip H;obtain ⟨c7b0, H⟩ | ⟨c7b0, H⟩ := H
     ·obtain rfl := Option.some.inj H;obtain ⟨qK, JJ, JH, ZI, ZF, ZH, ZE, ZG, ZD, rfl, jQ, Jo, Jn, Jm, Jl, Jk, Jj, qad, qac, zt, jT, QE, yT, QD, yS, QC, yR, QT, QS⟩ := el_T50 HR0 HB qf;go_wp2_with (((with_reducible refine gate_callee (f := 14) rfl ?_);refine glB 23 rfl rfl Tryz.func14 (JC.calls k1 _ _ ((qR l0 qf).f0.f0.f0) ((qR l0 qf).f0.f1) ((qR l0 qf).f0.f2) ((qR l0 qf).f0.f3) _ _ ((qR l0 qf).f0.f4.f0) _ _ ((qR l0 qf).f0.f5) _ _ ((qR l0 qf).f0.f6) ((qR l0 qf).f1) ((qR l0 qf).f2) YI qJ _ (cv jT HB) zt.out (cv yT HB) QE.out (cv yS HB) QD.out (cv yR HB) QC.out A6.out) (fun w8 hb => ?_);replace HB := b2 HB hb;(try clear hb)));go_ret;exact ⟨o1, bw HB.out⟩
     ·have H' := ak H;clear H;obtain ⟨qK, JJ, JH, ZI, ZF, ZH, ZE, ZG, ZD, rfl, jQ, Jo, Jn, Jm, Jl, Jk, Jj, qad, qac, zt, jT, QE, yT, QD, yS, QC, yR, QT, QS⟩ := el_T50 HR0 HB qf;go_wp2_with (((with_reducible refine gate_callee (f := 14) rfl ?_);refine glB 23 rfl rfl Tryz.func14 (JC.calls k1 _ _ ((qR l0 qf).f0.f0.f0) ((qR l0 qf).f0.f1) ((qR l0 qf).f0.f2) ((qR l0 qf).f0.f3) _ _ ((qR l0 qf).f0.f4.f0) _ _ ((qR l0 qf).f0.f5) _ _ ((qR l0 qf).f0.f6) ((qR l0 qf).f1) ((qR l0 qf).f2) YI qJ _ (cv jT HB) zt.out (cv yT HB) QE.out (cv yS HB) QD.out (cv yR HB) QC.out A6.out) (fun w9 hb => ?_);replace HB := b2 HB hb;(try clear hb)));go_roundg k1;case measure => have := HK1.out; omega
      case rel => exact ⟨(qJ), (wrap64 (qf + 1)), o2, o2, H', ⟨by have := HK1.out; omega⟩, ⟨bw HB.out⟩⟩
    ·obtain rfl := Option.some.inj H;go_wp2;go_ret;exact ⟨o1, bw HB.out⟩

/-! ### qY: function 51 -/
mutual
def qY.j0 : Nat → List Int → Bool → Option (Bool)
 | 0, _, _ => none
 | k + 1, x0, x11 => if x11 = true then (some false) else (qY.l0 k x0 0)
def qY.l0 : Nat → List Int → Int → Option (Bool)
 | 0, _, _ => none
 | k + 1, x0, x3 => if x3 < (x0.length : Int) then (if 0 ≤ x3 then (if (rd x0 x3) ≥ 97 then (if ((rd x0 x3) ≤ 122) then (qY.l0 k x0 (wrap64 (x3 + 1))) else (if (rd x0 x3) ≥ 48 then (if ((rd x0 x3) ≤ 57) then (qY.l0 k x0 (wrap64 (x3 + 1))) else (if (rd x0 x3) = 45 then (qY.l0 k x0 (wrap64 (x3 + 1))) else (some false))) else (if (rd x0 x3) = 45 then (qY.l0 k x0 (wrap64 (x3 + 1))) else (some false)))) else (if (rd x0 x3) ≥ 48 then (if ((rd x0 x3) ≤ 57) then (qY.l0 k x0 (wrap64 (x3 + 1))) else (if (rd x0 x3) = 45 then (qY.l0 k x0 (wrap64 (x3 + 1))) else (some false))) else (if (rd x0 x3) = 45 then (qY.l0 k x0 (wrap64 (x3 + 1))) else (some false)))) else (none)) else (some true)
end
def qY.f (k : Nat) (l0 : List Int) : Option (Bool) := if (l0.length : Int) < 1 then (qY.j0 k l0 true) else (qY.j0 k l0 (decide ((l0.length : Int) > 15)))
set_option maxHeartbeats 8000000 in
set_option maxRecDepth 100000 in
theorem qY.calls (k : Nat) (A0 : Option Addr) (c0 : Nat) (l0 : List Int) (r : Bool) (w : World) (hr0 : Kd.C (Kd.int .u8) w A0 l0.length l0) (hc0 : l0.length ≤ c0) (h : qY.f k l0 = some r) :
  Calls Tryz.prog 51 #[.slice A0 l0.length c0] w fun e w' => e = .returned (.bool r) ∧ Drawn0 w w' := by
 have HR0 := ak hr0;have HC0 := ak hc0;clear hr0 hc0;have H : (if (l0.length : Int) < 1 then (qY.j0 k l0 true) else (qY.j0 k l0 (decide ((l0.length : Int) > 15)))) = some r := h;clear h;have HC2 := ak H;clear H;go_enter Tryz.func51, Tryz.ntmps51;go_upto_region 1 with (fail)
 go_cut [11] (fun v11 wc => ∃ (kq : Nat) (qpv : Bool), v11 = .bool qpv ∧ Aside0 (qY.j0 kq l0 qpv = some r) ∧ Aside0 (kq ≤ k) ∧ Drawn0 w wc)
 case first =>
  have H := HC2.out;clear HC2;replace H := ip H;obtain ⟨c3b0, H⟩ | ⟨c3b0, H⟩ := H
  ·have c3b1 : decide (l0.length < 1) = true := decide_eq_true (by have := of_decide_eq_true c3b0; omega);(first | rw [c3b0] | (simp only [i64_w, i32_w]; rw [c3b0]) | skip)
   have H' := ak H;clear H;go_wp2;go_meet
   case rel => exact ⟨_, (true), o2, H', ⟨o3⟩, od⟩
  ·have c3b1 : decide (l0.length < 1) = false := decide_eq_false (by have := of_decide_eq_false c3b0; omega);(first | rw [c3b0] | (simp only [i64_w, i32_w]; rw [c3b0]) | skip)
   have H' := ak H;clear H;go_wp2;go_meet
   case rel => exact ⟨_, (decide ((l0.length : Int) > 15)), o2, H', ⟨o3⟩, od⟩
 case rest =>
  clear HC2;obtain ⟨kq, qpv, rfl, HA, HJ1, ⟨mc1, rfl⟩⟩ := hcut;cases kq with
  | zero => exact absurd HA.out (by simp [qY.j0])
  | succ kj1 =>
   have H := HA.out;clear HA;simp only [qY.j0] at H;replace H := ib H;obtain ⟨rfl, H⟩ | ⟨rfl, H⟩ := H
   ·obtain rfl := Option.some.inj H;go_wp2;go_ret;exact ⟨o2, od⟩
   ·have H' := ak H;clear H;go_wp2;go_loopg [3] kj1 (fun kq v3 w' => ∃ (jS : Int), v3 = .int .i64 jS ∧ Aside0 (qY.l0 kq l0 jS = some r) ∧ Aside0 (kq ≤ kj1) ∧ Drawn0 w w')
    case atStart => exact ⟨(0), o2, H', ⟨Nat.le_refl _⟩, od⟩
    case round =>
     clear H';obtain ⟨jS, rfl, HA, HK2, ⟨m2, rfl⟩⟩ := hrel;cases gk with
     | zero => exact absurd HA.out (by simp [qY.l0])
     | succ k2 =>
      have H := HA.out;clear HA;simp only [qY.l0] at H;replace H := ip H;obtain ⟨c5b0, H⟩ | ⟨c5b0, H⟩ := H
      ·replace H := ipN H;obtain ⟨c6b0, H⟩ := H;replace H := ih H;obtain ⟨c7b0, H⟩ | ⟨c7b0, H⟩ := H
       ·replace H := ip H;obtain ⟨c8b0, H⟩ | ⟨c8b0, H⟩ := H
        ·have H' := ak H;clear H;obtain ⟨qK, rfl, jQ, QT, QS⟩ := el0_int HR0 jS;obtain ⟨jC, yW, yV⟩ := el20_int HR0 jS;go_wp2;go_roundg k2;case measure => have := HJ1.out; have := HK2.out; omega
         case rel => exact ⟨(wrap64 (jS + 1)), o2, H', ⟨by have := HJ1.out; have := HK2.out; omega⟩, od⟩
        ·replace H := ih H;obtain ⟨c9b0, H⟩ | ⟨c9b0, H⟩ := H
         ·replace H := ip H;obtain ⟨c10b0, H⟩ | ⟨c10b0, H⟩ := H
          ·have H' := ak H;clear H;obtain ⟨qK, rfl, jQ, QT, QS⟩ := el0_int HR0 jS;obtain ⟨jC, yW, yV⟩ := el20_int HR0 jS;obtain ⟨Ya, qcO, qcN⟩ := el20_int HR0 jS;obtain ⟨ZJ, qa6, qa5⟩ := el20_int HR0 jS;go_wp2;go_roundg k2;case measure => have := HJ1.out; have := HK2.out; omega
           case rel => exact ⟨(wrap64 (jS + 1)), o2, H', ⟨by have := HJ1.out; have := HK2.out; omega⟩, od⟩
          ·replace H := ie H;obtain ⟨c11b0, c11b1, H⟩ | ⟨c11b0, c11b1, H⟩ := H
           ·have H' := ak H;clear H;obtain ⟨qK, rfl, jQ, QT, QS⟩ := el0_int HR0 jS;obtain ⟨jC, yW, yV⟩ := el20_int HR0 jS;obtain ⟨Ya, qcO, qcN⟩ := el20_int HR0 jS;obtain ⟨ZJ, qa6, qa5⟩ := el20_int HR0 jS;obtain ⟨zA, Jd, Jc⟩ := el20_int HR0 jS;go_wp2;go_roundg k2;case measure => have := HJ1.out; have := HK2.out; omega
            case rel => exact ⟨(wrap64 (jS + 1)), o2, H', ⟨by have := HJ1.out; have := HK2.out; omega⟩, od⟩
           ·obtain rfl := Option.some.inj H;obtain ⟨qK, rfl, jQ, QT, QS⟩ := el0_int HR0 jS;obtain ⟨jC, yW, yV⟩ := el20_int HR0 jS;obtain ⟨Ya, qcO, qcN⟩ := el20_int HR0 jS;obtain ⟨ZJ, qa6, qa5⟩ := el20_int HR0 jS;obtain ⟨zA, Jd, Jc⟩ := el20_int HR0 jS;go_wp2;go_ret;exact ⟨o2, od⟩
         ·replace H := ie H;obtain ⟨c12b0, c12b1, H⟩ | ⟨c12b0, c12b1, H⟩ := H
          ·have H' := ak H;clear H;obtain ⟨qK, rfl, jQ, QT, QS⟩ := el0_int HR0 jS;obtain ⟨jC, yW, yV⟩ := el20_int HR0 jS;obtain ⟨Ya, qcO, qcN⟩ := el20_int HR0 jS;obtain ⟨yy, Qv, Qu⟩ := el20_int HR0 jS;go_wp2;go_roundg k2;case measure => have := HJ1.out; have := HK2.out; omega
           case rel => exact ⟨(wrap64 (jS + 1)), o2, H', ⟨by have := HJ1.out; have := HK2.out; omega⟩, od⟩
          ·obtain rfl := Option.some.inj H;obtain ⟨qK, rfl, jQ, QT, QS⟩ := el0_int HR0 jS;obtain ⟨jC, yW, yV⟩ := el20_int HR0 jS;obtain ⟨Ya, qcO, qcN⟩ := el20_int HR0 jS;obtain ⟨yy, Qv, Qu⟩ := el20_int HR0 jS;go_wp2;go_ret;exact ⟨o2, od⟩
       ·replace H := ih H;obtain ⟨c13b0, H⟩ | ⟨c13b0, H⟩ := H
        ·replace H := ip H;obtain ⟨c14b0, H⟩ | ⟨c14b0, H⟩ := H
         ·have H' := ak H;clear H;obtain ⟨qK, rfl, jQ, QT, QS⟩ := el0_int HR0 jS;obtain ⟨Qj, ZW, ZV⟩ := el20_int HR0 jS;obtain ⟨Zp, qcx, qcw⟩ := el20_int HR0 jS;go_wp2;go_roundg k2;case measure => have := HJ1.out; have := HK2.out; omega
          case rel => exact ⟨(wrap64 (jS + 1)), o2, H', ⟨by have := HJ1.out; have := HK2.out; omega⟩, od⟩
         ·replace H := ie H;obtain ⟨c15b0, c15b1, H⟩ | ⟨c15b0, c15b1, H⟩ := H
          ·have H' := ak H;clear H;obtain ⟨qK, rfl, jQ, QT, QS⟩ := el0_int HR0 jS;obtain ⟨Qj, ZW, ZV⟩ := el20_int HR0 jS;obtain ⟨Zp, qcx, qcw⟩ := el20_int HR0 jS;obtain ⟨qlh, qw6, qw5⟩ := el20_int HR0 jS;go_wp2;go_roundg k2;case measure => have := HJ1.out; have := HK2.out; omega
           case rel => exact ⟨(wrap64 (jS + 1)), o2, H', ⟨by have := HJ1.out; have := HK2.out; omega⟩, od⟩
          ·obtain rfl := Option.some.inj H;obtain ⟨qK, rfl, jQ, QT, QS⟩ := el0_int HR0 jS;obtain ⟨Qj, ZW, ZV⟩ := el20_int HR0 jS;obtain ⟨Zp, qcx, qcw⟩ := el20_int HR0 jS;obtain ⟨qlh, qw6, qw5⟩ := el20_int HR0 jS;go_wp2;go_ret;exact ⟨o2, od⟩
        ·replace H := ie H;obtain ⟨c16b0, c16b1, H⟩ | ⟨c16b0, c16b1, H⟩ := H
         ·have H' := ak H;clear H;obtain ⟨qK, rfl, jQ, QT, QS⟩ := el0_int HR0 jS;obtain ⟨Qj, ZW, ZV⟩ := el20_int HR0 jS;obtain ⟨qrf, qza, qy8⟩ := el20_int HR0 jS;go_wp2;go_roundg k2;case measure => have := HJ1.out; have := HK2.out; omega
          case rel => exact ⟨(wrap64 (jS + 1)), o2, H', ⟨by have := HJ1.out; have := HK2.out; omega⟩, od⟩
         ·obtain rfl := Option.some.inj H;obtain ⟨qK, rfl, jQ, QT, QS⟩ := el0_int HR0 jS;obtain ⟨Qj, ZW, ZV⟩ := el20_int HR0 jS;obtain ⟨qrf, qza, qy8⟩ := el20_int HR0 jS;go_wp2;go_ret;exact ⟨o2, od⟩
      ·obtain rfl := Option.some.inj H;go_wp2;go_ret;exact ⟨o2, od⟩

/-! ### qX: function 29 -/
def qX.l0 : Nat → Int → List (List Int) → Option (Bool)
 | 0, _, _ => none
 | k + 1, x3, qH => if x3 < (qH.length : Int) then (if 0 ≤ x3 then ((qY.f k (qN qH x3)).bind fun qU => (if qU = true then (qX.l0 k (wrap64 (x3 + 1)) qH) else (some false))) else (none)) else (some true)
def qX.f (k : Nat) (qd : List (List Int)) : Option (Bool) := if (qd.length : Int) > 6 then (some false) else (qX.l0 k 0 qd)
set_option maxHeartbeats 8000000 in
set_option maxRecDepth 100000 in
theorem qX.calls (k : Nat) (qC : Option Addr) (qA : Nat) (qd : List (List Int)) (r : Bool) (w : World) (qQ : Kd.C (Kd.slice 5 (Kd.int .u8)) w qC qd.length qd) (qS : qd.length ≤ qA) (h : qX.f k qd = some r) :
  Calls Tryz.prog 29 #[.agg #[.slice qC qd.length qA]] w fun e w' => e = .returned (.bool r) ∧ Below w.heap.size w w' := by
 have Zf := Tryz.underlying32;have qy := ak qQ;have qz := ak qS;clear qQ qS;have HB := ak (Below.refl w.heap.size w);have H : (if (qd.length : Int) > 6 then (some false) else (qX.l0 k 0 qd)) = some r := h;clear h;replace H := ig H;obtain ⟨c2b0, H⟩ | ⟨c2b0, H⟩ := H
 ·have c2b1 : decide (6 < qd.length) = true := decide_eq_true (by have := of_decide_eq_true c2b0; omega);obtain rfl := Option.some.inj H;go_enter Tryz.func29, Tryz.ntmps29;go_wp2_with (((with_reducible refine gate_dst (N := 1) rfl ?_);refine bxd (N := 1) rfl HB ?_;clear HB;intro qk w3 hg HB qb qw hb;have jd := qw;clear hb hg;obtain ⟨qdt, qc2⟩ := cells1 qb.out));go_ret;exact ⟨o1, bs⟩
 ·have c2b1 : decide (6 < qd.length) = false := decide_eq_false (by have := of_decide_eq_false c2b0; omega);have H' := ak H;clear H;go_enter Tryz.func29, Tryz.ntmps29;go_wp2_with (((with_reducible refine gate_dst (N := 1) rfl ?_);refine bxd (N := 1) rfl HB ?_;clear HB;intro qk w5 hg HB qb qw hb;have jd := qw;clear hb hg;obtain ⟨qcB, qcA⟩ := cells1 qb.out));go_loopg [3] k (fun kq v3 w' => ∃ (qZ : Int), v3 = .int .i64 qZ ∧ Aside0 (qX.l0 kq qZ qd = some r) ∧ Aside0 (kq ≤ k) ∧ Aside0 (w'.heap[qk]? = some (.cells #[(.slice qC qd.length qA)] 32 (0, 0))) ∧ Aside0 (Below w.heap.size w w'))
  case atStart => exact ⟨(0), o2, H', ⟨Nat.le_refl _⟩, ⟨bk qb.out⟩, ⟨bs⟩⟩
  case round =>
   clear H';(try clear c2b0)
   (try clear c2b1)
   (try clear qcB)
   (try clear qcA)
   obtain ⟨qZ, rfl, HA, HK1, qb, HB⟩ := hrel;cases gk with
   | zero => exact absurd HA.out (by simp [qX.l0])
   | succ k1 =>
    have H := HA.out;clear HA;simp only [qX.l0] at H;replace H := ip H;obtain ⟨c7b0, H⟩ | ⟨c7b0, H⟩ := H
    ·replace H := ipN H;obtain ⟨c8b0, H⟩ := H;replace H := bnd H;obtain ⟨qU, A9, H⟩ := H;replace H := ib H;obtain ⟨rfl, H⟩ | ⟨rfl, H⟩ := H
     ·have H' := ak H;clear H;obtain ⟨ZL, ZK⟩ := cells1 qb.out;obtain ⟨jg, Jh, Jg, rfl, jC, jU, jD, yW, yV⟩ := el_L10 qy HB qZ;go_wp2_with (((with_reducible refine gate_callee (f := 51) rfl ?_);refine glD 20 rfl rfl Tryz.func51 (qY.calls k1 _ _ (qN qd qZ) true _ (cv jD HB) jU.out A9.out) (fun nd => ?_)));go_roundg k1;case measure => have := HK1.out; omega
      case rel => exact ⟨(wrap64 (qZ + 1)), o2, H', ⟨by have := HK1.out; omega⟩, ⟨bk qb.out⟩, ⟨bs⟩⟩
     ·obtain rfl := Option.some.inj H;obtain ⟨XA, Xr⟩ := cells1 qb.out;obtain ⟨jg, Jh, Jg, rfl, jC, jU, jD, yW, yV⟩ := el_L10 qy HB qZ;go_wp2_with (((with_reducible refine gate_callee (f := 51) rfl ?_);refine glD 20 rfl rfl Tryz.func51 (qY.calls k1 _ _ (qN qd qZ) false _ (cv jD HB) jU.out A9.out) (fun nd => ?_)));go_ret;exact ⟨o1, bs⟩
    ·obtain rfl := Option.some.inj H;obtain ⟨Zr, Zq⟩ := cells1 qb.out;go_wp2;go_ret;exact ⟨o1, bs⟩

/-! ### Qc: function 52 -/
def Qc.f (a0 : Int) : Option (Bool) := if a0 = 1 then (some true) else (if a0 = 2 then (some true) else (if a0 = 5 then (some true) else (if a0 = 6 then (some true) else (if a0 = 12 then (some true) else (if a0 = 16 then (some true) else (if a0 = 49 then (some true) else (some false)))))))
set_option maxHeartbeats 8000000 in
set_option maxRecDepth 100000 in
theorem Qc.calls (a0 : Int) (r : Bool) (w : World) (h : Qc.f a0 = some r) :
  Calls Tryz.prog 52 #[.int .i64 a0] w fun e w' => e = .returned (.bool r) ∧ Drawn0 w w' := by
 have H : (if a0 = 1 then (some true) else (if a0 = 2 then (some true) else (if a0 = 5 then (some true) else (if a0 = 6 then (some true) else (if a0 = 12 then (some true) else (if a0 = 16 then (some true) else (if a0 = 49 then (some true) else (some false)))))))) = some r := h;clear h;replace H := ie H;obtain ⟨c2b0, c2b1, H⟩ | ⟨c2b0, c2b1, H⟩ := H
 ·obtain rfl := Option.some.inj H;go_enter Tryz.func52, Tryz.ntmps52;go_wp2;go_ret;exact ⟨o2, od⟩
 ·replace H := ie H;obtain ⟨c3b0, c3b1, H⟩ | ⟨c3b0, c3b1, H⟩ := H
  ·obtain rfl := Option.some.inj H;go_enter Tryz.func52, Tryz.ntmps52;go_wp2;go_ret;exact ⟨o2, od⟩
  ·replace H := ie H;obtain ⟨c4b0, c4b1, H⟩ | ⟨c4b0, c4b1, H⟩ := H
   ·obtain rfl := Option.some.inj H;go_enter Tryz.func52, Tryz.ntmps52;go_wp2;go_ret;exact ⟨o2, od⟩
   ·replace H := ie H;obtain ⟨c5b0, c5b1, H⟩ | ⟨c5b0, c5b1, H⟩ := H
    ·obtain rfl := Option.some.inj H;go_enter Tryz.func52, Tryz.ntmps52;go_wp2;go_ret;exact ⟨o2, od⟩
    ·replace H := ie H;obtain ⟨c6b0, c6b1, H⟩ | ⟨c6b0, c6b1, H⟩ := H
     ·obtain rfl := Option.some.inj H;go_enter Tryz.func52, Tryz.ntmps52;go_wp2;go_ret;exact ⟨o2, od⟩
     ·replace H := ie H;obtain ⟨c7b0, c7b1, H⟩ | ⟨c7b0, c7b1, H⟩ := H
      ·obtain rfl := Option.some.inj H;go_enter Tryz.func52, Tryz.ntmps52;go_wp2;go_ret;exact ⟨o2, od⟩
      ·replace H := ie H;obtain ⟨c8b0, c8b1, H⟩ | ⟨c8b0, c8b1, H⟩ := H
       ·obtain rfl := Option.some.inj H;go_enter Tryz.func52, Tryz.ntmps52;go_wp2;go_ret;exact ⟨o2, od⟩
       ·obtain rfl := Option.some.inj H;go_enter Tryz.func52, Tryz.ntmps52;go_wp2;go_ret;exact ⟨o2, od⟩

/-! ### QL: function 81 -/
def QL.f (a0 : Int) : Option (Bool) := if a0 = 2 then (some true) else (if a0 = 5 then (some true) else (if a0 = 6 then (some true) else (some (a0 == 12))))
set_option maxHeartbeats 8000000 in
set_option maxRecDepth 100000 in
theorem QL.calls (a0 : Int) (r : Bool) (w : World) (h : QL.f a0 = some r) :
  Calls Tryz.prog 81 #[.int .i64 a0] w fun e w' => e = .returned (.bool r) ∧ Drawn0 w w' := by
 have H : (if a0 = 2 then (some true) else (if a0 = 5 then (some true) else (if a0 = 6 then (some true) else (some (a0 == 12))))) = some r := h;clear h;replace H := ie H;obtain ⟨c2b0, c2b1, H⟩ | ⟨c2b0, c2b1, H⟩ := H
 ·obtain rfl := Option.some.inj H;go_enter Tryz.func81, Tryz.ntmps81;go_wp2;go_ret;exact ⟨o2, od⟩
 ·replace H := ie H;obtain ⟨c3b0, c3b1, H⟩ | ⟨c3b0, c3b1, H⟩ := H
  ·obtain rfl := Option.some.inj H;go_enter Tryz.func81, Tryz.ntmps81;go_wp2;go_ret;exact ⟨o2, od⟩
  ·replace H := ie H;obtain ⟨c4b0, c4b1, H⟩ | ⟨c4b0, c4b1, H⟩ := H
   ·obtain rfl := Option.some.inj H;go_enter Tryz.func81, Tryz.ntmps81;go_wp2;go_ret;exact ⟨o2, od⟩
   ·obtain rfl := Option.some.inj H;go_enter Tryz.func81, Tryz.ntmps81;go_wp2;go_ret;exact ⟨o2, od⟩

/-! ### Zu: function 82 -/
def Zu.f (a0 : Int) : Option (Bool) := if a0 = 16 then (some true) else (some (a0 == 49))
set_option maxHeartbeats 8000000 in
set_option maxRecDepth 100000 in
theorem Zu.calls (a0 : Int) (r : Bool) (w : World) (h : Zu.f a0 = some r) :
  Calls Tryz.prog 82 #[.int .i64 a0] w fun e w' => e = .returned (.bool r) ∧ Drawn0 w w' := by
 have H : (if a0 = 16 then (some true) else (some (a0 == 49))) = some r := h;clear h;replace H := ie H;obtain ⟨c2b0, c2b1, H⟩ | ⟨c2b0, c2b1, H⟩ := H
 ·obtain rfl := Option.some.inj H;go_enter Tryz.func82, Tryz.ntmps82;go_wp2;go_ret;exact ⟨o2, od⟩
 ·obtain rfl := Option.some.inj H;go_enter Tryz.func82, Tryz.ntmps82;go_wp2;go_ret;exact ⟨o2, od⟩

/-! ### jc: function 53 -/
mutual
def jc.j0 : Nat → List (List Int) → Int → Int → Int → List (List Int) → List Int → List Int → Option (Bool)
 | 0, _, _, _, _, _, _, _ => none
 | k + 1, qH, qp, yG, yx, zR, zQ, jG => (QL.f qp).bind fun qJ => (if qJ = true then ((qX.f k zR).bind fun qU => (if qU = true then (jc.j1 k qH qp yG yx zR zQ jG) else (some false))) else (if (zR.length : Int) > 0 then (some false) else (jc.j1 k qH qp yG yx zR zQ jG)))
def jc.j1 : Nat → List (List Int) → Int → Int → Int → List (List Int) → List Int → List Int → Option (Bool)
 | 0, _, _, _, _, _, _, _ => none
 | k + 1, qH, qp, yG, yx, zR, zQ, jG => (Zu.f qp).bind fun qE => (if qE = true then (if (zQ.length : Int) > 40 then (some false) else (jc.j2 k qH qp yG yx zR zQ jG)) else (if (zQ.length : Int) > 0 then (some false) else (jc.j2 k qH qp yG yx zR zQ jG)))
def jc.j2 : Nat → List (List Int) → Int → Int → Int → List (List Int) → List Int → List Int → Option (Bool)
 | 0, _, _, _, _, _, _, _ => none
 | k + 1, qH, qp, yG, yx, zR, zQ, jG => if qp = 6 then (if (jG.length : Int) = 2 then (if 0 < (jG.length : Int) then (if (rd jG 0) < 0 then (some false) else (if (rd jG 0) ≥ 4294967296 then (some false) else (if 1 < (jG.length : Int) then (if (rd jG 1) ≥ 0 then (some (decide ((rd jG 1) ≤ 100000))) else (some false)) else (none)))) else (none)) else (some false)) else (some ((jG.length : Int) == 0))
end
def jc.f (k : Nat) (qd : List (List Int)) (qu : Int) (qD : Int) (qB : Int) (qt : List (List Int)) (qn : List Int) (qm : List Int) : Option (Bool) := if qu = 1 then (if qB < 0 then (some false) else (if qB ≥ 4294967296 then (some false) else (jc.j0 k qd qu qD qB qt qn qm))) else (if qB = 0 then (jc.j0 k qd qu qD qB qt qn qm) else (some false))
set_option maxHeartbeats 8000000 in
set_option maxRecDepth 100000 in
theorem jc.calls (k : Nat) (qC : Option Addr) (qA : Nat) (qd : List (List Int)) (qu : Int) (qD : Int) (qB : Int) (zc : Option Addr) (za : Nat) (qt : List (List Int)) (zk : Option Addr) (zi : Nat) (qn : List Int) (zl : Option Addr) (zh : Nat) (qm : List Int) (r : Bool) (w : World) (qQ : Kd.C (Kd.slice 5 (Kd.int .u8)) w qC qd.length qd) (qS : qd.length ≤ qA) (zG : Kd.C (Kd.slice 5 (Kd.int .u8)) w zc qt.length qt) (zJ : qt.length ≤ za) (zF : Kd.C (Kd.int .u8) w zk qn.length qn) (zI : qn.length ≤ zi) (zE : Kd.C (Kd.int .i64) w zl qm.length qm) (zH : qm.length ≤ zh) (h : jc.f k qd qu qD qB qt qn qm = some r) :
  Calls Tryz.prog 53 #[.agg #[.slice qC qd.length qA, .int .i64 qu, .int .i64 qD, .int .i64 qB, .slice zc qt.length za, .slice zk qn.length zi, .slice zl qm.length zh]] w fun e w' => e = .returned (.bool r) ∧ Below w.heap.size w w' := by
 have YJ := Tryz.underlying56;have Zf := Tryz.underlying32;have qy := ak qQ;have qz := ak qS;clear qQ qS;have zv := ak zG;have zx := ak zJ;clear zG zJ;have yt := ak zF;have yI := ak zI;clear zF zI;have jV := ak zE;have yM := ak zH;clear zE zH;have HB := ak (Below.refl w.heap.size w);have H : (if qu = 1 then (if qB < 0 then (some false) else (if qB ≥ 4294967296 then (some false) else (jc.j0 k qd qu qD qB qt qn qm))) else (if qB = 0 then (jc.j0 k qd qu qD qB qt qn qm) else (some false))) = some r := h;clear h;have HC2 := ak H;clear H;go_enter Tryz.func53, Tryz.ntmps53;go_upto_if 5 with (((with_reducible refine gate_dst (N := 1) rfl ?_);refine bxd (N := 1) rfl HB ?_;clear HB;intro qk w3 hg HB qb qw hb;have jd := qw;clear hb hg;obtain ⟨qdt, qet, qes, qer, qeq, qep, qeo, qc2, qel, qek, qej, qei, qeh, qeg⟩ := cells7 qb.out))
 (try simp only [Act.put, List.setIfInBounds_toArray, List.set_cons_zero, List.set_cons_succ])
 go_cut [] (fun wc => ∃ (kq : Nat), Aside0 (jc.j0 kq qd qu qD qB qt qn qm = some r) ∧ Aside0 (kq ≤ k) ∧ Aside0 (wc.heap[qk]? = some (.cells #[(.slice qC qd.length qA), .int .i64 qu, .int .i64 qD, .int .i64 qB, (.slice zc qt.length za), (.slice zk qn.length zi), (.slice zl qm.length zh)] 56 (0, 0))) ∧ Aside0 (Below w.heap.size w wc))
 case first =>
  have H := HC2.out;clear HC2;replace H := ie H;obtain ⟨c5b0, c5b1, H⟩ | ⟨c5b0, c5b1, H⟩ := H
  ·(first | rw [c5b0] | (simp only [i64_w, i32_w]; rw [c5b0]) | skip)
   replace H := ip H;obtain ⟨c6b0, H⟩ | ⟨c6b0, H⟩ := H
   ·obtain rfl := Option.some.inj H;obtain ⟨qen, qgJ, qld, qlc, qlb, qla, qk9, qef, qgA, qkW, qkV, qkU, qkT, qkS⟩ := cells7 qb.out;go_wp2;go_ret;exact ⟨o1, bs⟩
   ·replace H := ih H;obtain ⟨c8b0, H⟩ | ⟨c8b0, H⟩ := H
    ·obtain rfl := Option.some.inj H;obtain ⟨Yl, YL, qgH, qgG, qgF, qgE, qgD, Yj, YK, qgy, qgx, qgw, qgv, qgu⟩ := cells7 qb.out;go_wp2;go_ret;exact ⟨o1, bs⟩
    ·have H' := ak H;clear H;obtain ⟨qgd, qgc, qj1, qj0, qjZ, qjY, qjX, qfz, qfy, qiG, qiF, qiE, qiD, qiC⟩ := cells7 qb.out;go_wp2;go_meet
     case rel => exact ⟨_, H', ⟨o3⟩, ⟨bk qb.out⟩, ⟨bs⟩⟩
  ·(first | rw [c5b0] | (simp only [i64_w, i32_w]; rw [c5b0]) | skip)
   replace H := ie H;obtain ⟨c11b0, c11b1, H⟩ | ⟨c11b0, c11b1, H⟩ := H
   ·have H' := ak H;clear H;obtain ⟨XA, qdH, qjW, qjV, qjU, qjT, qjS, Xr, qdg, qiB, qiA, qiz, qiy, qix⟩ := cells7 qb.out;go_wp2;go_meet
    case rel => exact ⟨_, H', ⟨o3⟩, ⟨bk qb.out⟩, ⟨bs⟩⟩
   ·obtain rfl := Option.some.inj H;obtain ⟨Zr, Ym, qaP, qaO, qaN, qaM, qaL, Zq, Yk, qaw, qav, qau, qat, qas⟩ := cells7 qb.out;go_wp2;go_ret;exact ⟨o1, bs⟩
 case rest =>
  clear HC2;(try clear qdt)
  (try clear qet)
  (try clear qes)
  (try clear qer)
  (try clear qeq)
  (try clear qep)
  (try clear qeo)
  (try clear qc2)
  (try clear qel)
  (try clear qek)
  (try clear qej)
  (try clear qei)
  (try clear qeh)
  (try clear qeg)
  obtain ⟨kq, HA, HJ1, qb, HB⟩ := hcut;cases kq with
  | zero => exact absurd HA.out (by simp [jc.j0])
  | succ kj1 =>
   have H := HA.out;clear HA;simp only [jc.j0] at H;replace H := bnd H;obtain ⟨qJ, A14, H⟩ := H;have qqI := ak H;clear H;obtain ⟨YV, Xy, qaJ, qaI, qaH, qaG, qaF, YR, Xp, qaq, qap, qao, qan, qam⟩ := cells7 qb.out;go_upto_if 19 with (((with_reducible refine gate_callee (f := 81) rfl ?_);refine glD 19 rfl rfl Tryz.func81 (QL.calls qu qJ _ A14.out) (fun nd => ?_)))
   (try simp only [Act.put, List.setIfInBounds_toArray, List.set_cons_zero, List.set_cons_succ])
   go_cut [] (fun wc => ∃ (kq : Nat), Aside0 (jc.j1 kq qd qu qD qB qt qn qm = some r) ∧ Aside0 (kq ≤ kj1) ∧ Aside0 (wc.heap[qk]? = some (.cells #[(.slice qC qd.length qA), .int .i64 qu, .int .i64 qD, .int .i64 qB, (.slice zc qt.length za), (.slice zk qn.length zi), (.slice zl qm.length zh)] 56 (0, 0))) ∧ Aside0 (Below w.heap.size w wc))
   case first =>
    have H := qqI.out;clear qqI;replace H := ib H;obtain ⟨rfl, H⟩ | ⟨rfl, H⟩ := H
    ·replace H := bnd H;obtain ⟨qU, A18, H⟩ := H;replace H := ib H;obtain ⟨rfl, H⟩ | ⟨rfl, H⟩ := H
     ·have H' := ak H;clear H;obtain ⟨YC, Xu, qcf, qce, qcd, qcc, qcb, YA, Xl, qbM, qbL, qbK, qbJ, qbI⟩ := cells7 qb.out;go_wp2_with (((with_reducible refine gate_callee (f := 29) rfl ?_);refine glB 22 rfl rfl Tryz.func29 (qX.calls kj1 _ _ qt true _ (cv zv HB) zx.out A18.out) (fun w21 hb => ?_);replace qb := b1 qb hb;replace HB := b2s bs hb;(try clear hb)));go_meet
      case rel => exact ⟨_, H', ⟨by have := HJ1.out; first | omega | exact Nat.le_refl _⟩, ⟨bk qb.out⟩, ⟨bs⟩⟩
     ·obtain rfl := Option.some.inj H;obtain ⟨YB, Xt, qaE, qaD, qaC, qaB, qaA, Yz, Xk, qal, qak, qaj, qai, qah⟩ := cells7 qb.out;go_wp2_with (((with_reducible refine gate_callee (f := 29) rfl ?_);refine glB 22 rfl rfl Tryz.func29 (qX.calls kj1 _ _ qt false _ (cv zv HB) zx.out A18.out) (fun w23 hb => ?_);replace qb := b1 qb hb;replace HB := b2s bs hb;(try clear hb)));go_ret;exact ⟨o1, bs⟩
    ·replace H := ig H;obtain ⟨c24b0, H⟩ | ⟨c24b0, H⟩ := H
     ·have c24b1 : decide (0 < qt.length) = true := decide_eq_true (by have := of_decide_eq_true c24b0; omega);(first | rw [c24b0] | (simp only [i64_w, i32_w]; rw [c24b0]) | skip)
      obtain rfl := Option.some.inj H;obtain ⟨qb9, qdF, qdE, qdD, qdC, qdB, qdA, qbG, qde, qdd, qdc, qdb, qda, qc9⟩ := cells7 qb.out;go_wp2;go_ret;exact ⟨o1, bs⟩
     ·have c24b1 : decide (0 < qt.length) = false := decide_eq_false (by have := of_decide_eq_false c24b0; omega);(first | rw [c24b0] | (simp only [i64_w, i32_w]; rw [c24b0]) | skip)
      have H' := ak H;clear H;obtain ⟨qdz, qfT, qju, qjt, qjs, qjr, qjq, qc8, qff, qh9, qh8, qh7, qh6, qh5⟩ := cells7 qb.out;go_wp2;go_meet
      case rel => exact ⟨_, H', ⟨by have := HJ1.out; first | omega | exact Nat.le_refl _⟩, ⟨bk qb.out⟩, ⟨bs⟩⟩
   case rest =>
    clear qqI;(try clear YV)
    (try clear Xy)
    (try clear qaJ)
    (try clear qaI)
    (try clear qaH)
    (try clear qaG)
    (try clear qaF)
    (try clear qdt)
    (try clear qet)
    (try clear qes)
    (try clear qer)
    (try clear qeq)
    (try clear qep)
    (try clear qeo)
    (try clear YR)
    (try clear Xp)
    (try clear qaq)
    (try clear qap)
    (try clear qao)
    (try clear qan)
    (try clear qam)
    (try clear qc2)
    (try clear qel)
    (try clear qek)
    (try clear qej)
    (try clear qei)
    (try clear qeh)
    (try clear qeg)
    obtain ⟨kq, HA, qx4, qb, HB⟩ := hcut;cases kq with
    | zero => exact absurd HA.out (by simp [jc.j1])
    | succ qzd =>
     have H := HA.out;clear HA;simp only [jc.j1] at H;replace H := bnd H;obtain ⟨qE, A27, H⟩ := H;have qqF := ak H;clear H;obtain ⟨Xs, qaz, qb6, qb5, qb4, qb3, qb2, Xj, qag, qbD, qbC, qbB, qbA, qbz⟩ := cells7 qb.out;go_upto_if 31 with (((with_reducible refine gate_callee (f := 82) rfl ?_);refine glD 31 rfl rfl Tryz.func82 (Zu.calls qu qE _ A27.out) (fun nd => ?_)))
     (try simp only [Act.put, List.setIfInBounds_toArray, List.set_cons_zero, List.set_cons_succ])
     go_cut [] (fun wc => ∃ (kq : Nat), Aside0 (jc.j2 kq qd qu qD qB qt qn qm = some r) ∧ Aside0 (kq ≤ qzd) ∧ Aside0 (wc.heap[qk]? = some (.cells #[(.slice qC qd.length qA), .int .i64 qu, .int .i64 qD, .int .i64 qB, (.slice zc qt.length za), (.slice zk qn.length zi), (.slice zl qm.length zh)] 56 (0, 0))) ∧ Aside0 (Below w.heap.size w wc))
     case first =>
      have H := qqF.out;clear qqF;replace H := ib H;obtain ⟨rfl, H⟩ | ⟨rfl, H⟩ := H
      ·replace H := ig H;obtain ⟨c31b0, H⟩ | ⟨c31b0, H⟩ := H
       ·have c31b1 : decide (40 < qn.length) = true := decide_eq_true (by have := of_decide_eq_true c31b0; omega);(first | rw [c31b0] | (simp only [i64_w, i32_w]; rw [c31b0]) | skip)
        obtain rfl := Option.some.inj H;obtain ⟨qay, qax, qbZ, qbY, qbX, qbW, qbV, qaf, qae, qbw, qbv, qbu, qbt, qbs⟩ := cells7 qb.out;go_wp2;go_ret;exact ⟨o1, bs⟩
       ·have c31b1 : decide (40 < qn.length) = false := decide_eq_false (by have := of_decide_eq_false c31b0; omega);(first | rw [c31b0] | (simp only [i64_w, i32_w]; rw [c31b0]) | skip)
        have H' := ak H;clear H;obtain ⟨qfK, qpa, qwx, qww, qwv, qwu, qwt, qe6, qne, qtR, qtQ, qtP, qtO, qtN⟩ := cells7 qb.out;go_wp2;go_meet
        case rel => exact ⟨_, H', ⟨by have := HJ1.out; have := qx4.out; first | omega | exact Nat.le_refl _⟩, ⟨bk qb.out⟩, ⟨bs⟩⟩
      ·replace H := ig H;obtain ⟨c34b0, H⟩ | ⟨c34b0, H⟩ := H
       ·have c34b1 : decide (0 < qn.length) = true := decide_eq_true (by have := of_decide_eq_true c34b0; omega);obtain rfl := Option.some.inj H;obtain ⟨qbU, qbT, qbS, qbR, qbQ, qbP, qbO, qbr, qbq, qbp, qbo, qbn, qbm, qbl⟩ := cells7 qb.out;go_wp2;go_ret;exact ⟨o1, bs⟩
       ·have c34b1 : decide (0 < qn.length) = false := decide_eq_false (by have := of_decide_eq_false c34b0; omega);have H' := ak H;clear H;obtain ⟨qjd, qo3, qo2, qo1, qo0, qoZ, qoY, qhS, qm7, qm6, qm5, qm4, qm3, qm2⟩ := cells7 qb.out;go_wp2;go_meet
        case rel => exact ⟨_, H', ⟨by have := HJ1.out; have := qx4.out; first | omega | exact Nat.le_refl _⟩, ⟨bk qb.out⟩, ⟨bs⟩⟩
     case rest =>
      clear qqF;(try clear YV)
      (try clear Xy)
      (try clear qaJ)
      (try clear qaI)
      (try clear qaH)
      (try clear qaG)
      (try clear qaF)
      (try clear Xs)
      (try clear qaz)
      (try clear qb6)
      (try clear qb5)
      (try clear qb4)
      (try clear qb3)
      (try clear qb2)
      (try clear qdt)
      (try clear qet)
      (try clear qes)
      (try clear qer)
      (try clear qeq)
      (try clear qep)
      (try clear qeo)
      (try clear YR)
      (try clear Xp)
      (try clear qaq)
      (try clear qap)
      (try clear qao)
      (try clear qan)
      (try clear qam)
      (try clear Xj)
      (try clear qag)
      (try clear qbD)
      (try clear qbC)
      (try clear qbB)
      (try clear qbA)
      (try clear qbz)
      (try clear qc2)
      (try clear qel)
      (try clear qek)
      (try clear qej)
      (try clear qei)
      (try clear qeh)
      (try clear qeg)
      obtain ⟨kq, HA, qHO, qb, HB⟩ := hcut;cases kq with
      | zero => exact absurd HA.out (by simp [jc.j2])
      | succ qHr =>
       have H := HA.out;clear HA;simp only [jc.j2] at H;replace H := ie H;obtain ⟨c37b0, c37b1, H⟩ | ⟨c37b0, c37b1, H⟩ := H
       ·replace H := ie H;obtain ⟨c38b0, c38b1, H⟩ | ⟨c38b0, c38b1, H⟩ := H
        ·replace H := ipN H;obtain ⟨c39b0, H⟩ := H;have c39b1 : decide (0 < qm.length) = true := decide_eq_true (by have := of_decide_eq_true c39b0; omega);replace H := ip H;obtain ⟨c40b0, H⟩ | ⟨c40b0, H⟩ := H
         ·obtain rfl := Option.some.inj H;obtain ⟨qE6, qE5, qE4, qE3, qE2, qE1, qE0, qCk, qCj, qCi, qCh, qCg, qCf, qCe⟩ := cells7 qb.out;obtain ⟨qd8, rfl, zA, Jd, Jc⟩ := el0_int jV 0 (h0 := by decide);replace Jd := of_eq_true Jd;replace Jc := of_eq_true Jc;have qgq : (0 < qm.length) = True := eq_true (by omega);(try rw [show ((0 : Int)).toNat = 0 from rfl] at zA)
          (try rw [Addr.add_zero'] at zA)
          replace zA := pw_cell_below HB.out zA;replace Jd := eq_true Jd;replace Jc := eq_true Jc;go_wp2;go_ret;exact ⟨o1, bs⟩
         ·replace H := ih H;obtain ⟨c42b0, H⟩ | ⟨c42b0, H⟩ := H
          ·obtain rfl := Option.some.inj H;obtain ⟨qi4, qi3, qoE, qoD, qoC, qoB, qoA, qhJ, qhI, qmI, qmH, qmG, qmF, qmE⟩ := cells7 qb.out;obtain ⟨qd8, rfl, zA, Jd, Jc⟩ := el0_int jV 0 (h0 := by decide);replace Jd := of_eq_true Jd;replace Jc := of_eq_true Jc;have qgq : (0 < qm.length) = True := eq_true (by omega);(try rw [show ((0 : Int)).toNat = 0 from rfl] at zA)
           (try rw [Addr.add_zero'] at zA)
           replace zA := pw_cell_below HB.out zA;replace Jd := eq_true Jd;replace Jc := eq_true Jc;obtain ⟨yy, Qv, Qu⟩ := el20_int jV 0 (h0 := by decide);replace Qv := of_eq_true Qv;replace Qu := of_eq_true Qu;have qqM : (0 < qm.length) = True := eq_true (by omega);(try rw [show ((0 : Int)).toNat = 0 from rfl] at yy)
           (try rw [Addr.add_zero'] at yy)
           replace yy := pw_cell_below HB.out yy;replace Qv := eq_true Qv;replace Qu := eq_true Qu;go_wp2;go_ret;exact ⟨o1, bs⟩
          ·replace H := ipN H;obtain ⟨c44b0, H⟩ := H;have c44b1 : decide (1 < qm.length) = true := decide_eq_true (by have := of_decide_eq_true c44b0; omega);replace H := ih H;obtain ⟨c45b0, H⟩ | ⟨c45b0, H⟩ := H
           ·obtain rfl := Option.some.inj H;obtain ⟨qfI, qfH, qi2, qi1, qi0, qiZ, qiY, qe4, qe3, qhH, qhG, qhF, qhE, qhD⟩ := cells7 qb.out;obtain ⟨qd8, rfl, zA, Jd, Jc⟩ := el0_int jV 0 (h0 := by decide);replace Jd := of_eq_true Jd;replace Jc := of_eq_true Jc;have qgq : (0 < qm.length) = True := eq_true (by omega);(try rw [show ((0 : Int)).toNat = 0 from rfl] at zA)
            (try rw [Addr.add_zero'] at zA)
            replace zA := pw_cell_below HB.out zA;replace Jd := eq_true Jd;replace Jc := eq_true Jc;obtain ⟨yy, Qv, Qu⟩ := el20_int jV 0 (h0 := by decide);replace Qv := of_eq_true Qv;replace Qu := of_eq_true Qu;have qqM : (0 < qm.length) = True := eq_true (by omega);(try rw [show ((0 : Int)).toNat = 0 from rfl] at yy)
            (try rw [Addr.add_zero'] at yy)
            replace yy := pw_cell_below HB.out yy;replace Qv := eq_true Qv;replace Qu := eq_true Qu;obtain ⟨Qj, ZW, ZV⟩ := el20_int jV 1 (h0 := by decide);replace ZW := of_eq_true ZW;replace ZV := of_eq_true ZV;(try simp only [show (1 : Int).toNat = 1 from rfl, Nat.reduceMul, Nat.reduceEqDiff, Go.Addr.add, ↓reduceIte] at Qj)
            have qqL : (1 < qm.length) = True := eq_true (by omega);(try rw [show ((1 : Int)).toNat = 1 from rfl] at Qj)
            replace Qj := pw_cell_below HB.out Qj;replace ZW := eq_true ZW;replace ZV := eq_true ZV;obtain ⟨Zp, qcx, qcw⟩ := el20_int jV 1 (h0 := by decide);replace qcx := of_eq_true qcx;replace qcw := of_eq_true qcw;(try simp only [show (1 : Int).toNat = 1 from rfl, Nat.reduceMul, Nat.reduceEqDiff, Go.Addr.add, ↓reduceIte] at Zp)
            have qya : (1 < qm.length) = True := eq_true (by omega);(try rw [show ((1 : Int)).toNat = 1 from rfl] at Zp)
            replace Zp := pw_cell_below HB.out Zp;replace qcx := eq_true qcx;replace qcw := eq_true qcw;go_wp2;go_ret;exact ⟨o1, bs⟩
           ·obtain rfl := Option.some.inj H;obtain ⟨qwk, qwj, qwi, qwh, qwg, qwf, qwe, qtE, qtD, qtC, qtB, qtA, qtz, qty⟩ := cells7 qb.out;obtain ⟨qd8, rfl, zA, Jd, Jc⟩ := el0_int jV 0 (h0 := by decide);replace Jd := of_eq_true Jd;replace Jc := of_eq_true Jc;have qgq : (0 < qm.length) = True := eq_true (by omega);(try rw [show ((0 : Int)).toNat = 0 from rfl] at zA)
            (try rw [Addr.add_zero'] at zA)
            replace zA := pw_cell_below HB.out zA;replace Jd := eq_true Jd;replace Jc := eq_true Jc;obtain ⟨yy, Qv, Qu⟩ := el20_int jV 0 (h0 := by decide);replace Qv := of_eq_true Qv;replace Qu := of_eq_true Qu;have qqM : (0 < qm.length) = True := eq_true (by omega);(try rw [show ((0 : Int)).toNat = 0 from rfl] at yy)
            (try rw [Addr.add_zero'] at yy)
            replace yy := pw_cell_below HB.out yy;replace Qv := eq_true Qv;replace Qu := eq_true Qu;obtain ⟨Qj, ZW, ZV⟩ := el20_int jV 1 (h0 := by decide);replace ZW := of_eq_true ZW;replace ZV := of_eq_true ZV;(try simp only [show (1 : Int).toNat = 1 from rfl, Nat.reduceMul, Nat.reduceEqDiff, Go.Addr.add, ↓reduceIte] at Qj)
            have qqL : (1 < qm.length) = True := eq_true (by omega);(try rw [show ((1 : Int)).toNat = 1 from rfl] at Qj)
            replace Qj := pw_cell_below HB.out Qj;replace ZW := eq_true ZW;replace ZV := eq_true ZV;go_wp2;go_ret;exact ⟨o1, bs⟩
        ·obtain rfl := Option.some.inj H;obtain ⟨qos, qor, qoq, qop, qoo, qon, qom, qmw, qmv, qmu, qmt, qms, qmr, qmq⟩ := cells7 qb.out;go_wp2;go_ret;exact ⟨o1, bs⟩
       ·obtain rfl := Option.some.inj H;obtain ⟨qol, qok, qoj, qoi, qoh, qog, qof, qmp, qmo, qmn, qmm, qml, qmk, qmj⟩ := cells7 qb.out;go_wp2;go_ret;exact ⟨o1, bs⟩

/-! ### Qe: function 30 -/
def Qe.f (k : Nat) (qd : List (List Int)) (qu : Int) (qD : Int) (qB : Int) (qt : List (List Int)) (qn : List Int) (qm : List Int) : Option (Bool) := (qX.f k qd).bind fun qJ => (if qJ = true then ((Qc.f qu).bind fun qU => (if qU = true then (if qD ≥ 0 then (if qD ≤ 100000 then ((jc.f k qd qu qD qB qt qn qm).bind fun qE => (some qE)) else (some false)) else (some false)) else (some false))) else (some false))
set_option maxHeartbeats 8000000 in
set_option maxRecDepth 100000 in
theorem Qe.calls (k : Nat) (qC : Option Addr) (qA : Nat) (qd : List (List Int)) (qu : Int) (qD : Int) (qB : Int) (zc : Option Addr) (za : Nat) (qt : List (List Int)) (zk : Option Addr) (zi : Nat) (qn : List Int) (zl : Option Addr) (zh : Nat) (qm : List Int) (r : Bool) (w : World) (qQ : Kd.C (Kd.slice 5 (Kd.int .u8)) w qC qd.length qd) (qS : qd.length ≤ qA) (zG : Kd.C (Kd.slice 5 (Kd.int .u8)) w zc qt.length qt) (zJ : qt.length ≤ za) (zF : Kd.C (Kd.int .u8) w zk qn.length qn) (zI : qn.length ≤ zi) (zE : Kd.C (Kd.int .i64) w zl qm.length qm) (zH : qm.length ≤ zh) (h : Qe.f k qd qu qD qB qt qn qm = some r) :
  Calls Tryz.prog 30 #[.agg #[.slice qC qd.length qA, .int .i64 qu, .int .i64 qD, .int .i64 qB, .slice zc qt.length za, .slice zk qn.length zi, .slice zl qm.length zh]] w fun e w' => e = .returned (.bool r) ∧ Below w.heap.size w w' := by
 have YJ := Tryz.underlying56;have Zf := Tryz.underlying32;have qy := ak qQ;have qz := ak qS;clear qQ qS;have zv := ak zG;have zx := ak zJ;clear zG zJ;have yt := ak zF;have yI := ak zI;clear zF zI;have jV := ak zE;have yM := ak zH;clear zE zH;have HB := ak (Below.refl w.heap.size w);have H : ((qX.f k qd).bind fun qJ => (if qJ = true then ((Qc.f qu).bind fun qU => (if qU = true then (if qD ≥ 0 then (if qD ≤ 100000 then ((jc.f k qd qu qD qB qt qn qm).bind fun qE => (some qE)) else (some false)) else (some false)) else (some false))) else (some false))) = some r := h;clear h;replace H := bnd H;obtain ⟨qJ, A2, H⟩ := H;replace H := ib H;obtain ⟨rfl, H⟩ | ⟨rfl, H⟩ := H
 ·replace H := bnd H;obtain ⟨qU, A4, H⟩ := H;replace H := ib H;obtain ⟨rfl, H⟩ | ⟨rfl, H⟩ := H
  ·replace H := ih H;obtain ⟨c6b0, H⟩ | ⟨c6b0, H⟩ := H
   ·replace H := ip H;obtain ⟨c7b0, H⟩ | ⟨c7b0, H⟩ := H
    ·replace H := bnd H;obtain ⟨qE, A8, H⟩ := H;obtain rfl := Option.some.inj H;go_enter Tryz.func30, Tryz.ntmps30;go_wp2_with (first | ((with_reducible refine gate_dst (N := 1) rfl ?_);refine bxd (N := 1) rfl HB ?_;clear HB;intro qk w9 hg HB qb qw hb;have jd := qw;clear hb hg;obtain ⟨qgd, qgc, qj1, qj0, qjZ, qjY, qjX, qfz, qfy, qiG, qiF, qiE, qiD, qiC⟩ := cells7 qb.out) | ((with_reducible refine gate_callee (f := 29) rfl ?_);refine glB 5 rfl rfl Tryz.func29 (qX.calls k _ _ qd true _ (cv qy HB) qz.out A2.out) (fun w11 hb => ?_);replace qb := b1 qb hb;replace HB := b2s bs hb;(try clear hb);obtain ⟨XA, qdH, qjW, qjV, qjU, qjT, qjS, Xr, qdg, qiB, qiA, qiz, qiy, qix⟩ := cells7 qb.out) | (go_at_call 52;(with_reducible refine (Qc.calls qu true _ A4.out).mono ?_);rintro e w' ⟨rfl, ⟨nd, rfl⟩⟩) | (go_at_call 53;(with_reducible refine (jc.calls k _ _ qd qu qD qB _ _ qt _ _ qn _ _ qm qE _ ?jI qz.out ?yA zx.out ?ZO yI.out ?YP yM.out A8.out).mono ?_);(case jI => repeat (first | exact (Kd.C_below qy.out bs) | (with_reducible refine Kd.C_alloc ?_ _) | (with_reducible refine Kd.C_drewN ?_ _) | (with_reducible refine Kd.C_drew ?_)));(case yA => repeat (first | exact (Kd.C_below zv.out bs) | (with_reducible refine Kd.C_alloc ?_ _) | (with_reducible refine Kd.C_drewN ?_ _) | (with_reducible refine Kd.C_drew ?_)));(case ZO => repeat (first | exact (Kd.C_below yt.out bs) | (with_reducible refine Kd.C_alloc ?_ _) | (with_reducible refine Kd.C_drewN ?_ _) | (with_reducible refine Kd.C_drew ?_)));(case YP => repeat (first | exact (Kd.C_below jV.out bs) | (with_reducible refine Kd.C_alloc ?_ _) | (with_reducible refine Kd.C_drewN ?_ _) | (with_reducible refine Kd.C_drew ?_)));rintro e w13 ⟨rfl, hb⟩;replace qb := b1 qb hb;replace HB := b2s bs hb;(try clear hb)));go_ret;exact ⟨o1, bs⟩
    ·obtain rfl := Option.some.inj H;go_enter Tryz.func30, Tryz.ntmps30;go_wp2_with (first | ((with_reducible refine gate_dst (N := 1) rfl ?_);refine bxd (N := 1) rfl HB ?_;clear HB;intro qk w14 hg HB qb qw hb;have jd := qw;clear hb hg;obtain ⟨YX, YW, qf6, qf5, qf4, qf3, qf2, YT, YS, qfs, qfr, qfq, qfp, qfo⟩ := cells7 qb.out) | ((with_reducible refine gate_callee (f := 29) rfl ?_);refine glB 5 rfl rfl Tryz.func29 (qX.calls k _ _ qd true _ (cv qy HB) qz.out A2.out) (fun w16 hb => ?_);replace qb := b1 qb hb;replace HB := b2s bs hb;(try clear hb);obtain ⟨qdG, qf1, qjR, qjQ, qjP, qjO, qjN, qdf, qfn, qiw, qiv, qiu, qit, qis⟩ := cells7 qb.out) | (go_at_call 52;(with_reducible refine (Qc.calls qu true _ A4.out).mono ?_);rintro e w' ⟨rfl, ⟨nd, rfl⟩⟩));go_ret;exact ⟨o1, bs⟩
   ·obtain rfl := Option.some.inj H;go_enter Tryz.func30, Tryz.ntmps30;go_wp2_with (first | ((with_reducible refine gate_dst (N := 1) rfl ?_);refine bxd (N := 1) rfl HB ?_;clear HB;intro qk w18 hg HB qb qw hb;have jd := qw;clear hb hg;obtain ⟨Xv, qcg, qjM, qjL, qjK, qjJ, qjI, Xm, qbN, qir, qiq, qip, qio, qin⟩ := cells7 qb.out) | ((with_reducible refine gate_callee (f := 29) rfl ?_);refine glB 5 rfl rfl Tryz.func29 (qX.calls k _ _ qd true _ (cv qy HB) qz.out A2.out) (fun w20 hb => ?_);replace qb := b1 qb hb;replace HB := b2s bs hb;(try clear hb);obtain ⟨qjH, qjG, qph, qpg, qpf, qpe, qpd, qim, qil, qnl, qnk, qnj, qni, qnh⟩ := cells7 qb.out) | (go_at_call 52;(with_reducible refine (Qc.calls qu true _ A4.out).mono ?_);rintro e w' ⟨rfl, ⟨nd, rfl⟩⟩));go_ret;exact ⟨o1, bs⟩
  ·obtain rfl := Option.some.inj H;go_enter Tryz.func30, Tryz.ntmps30;go_wp2_with (first | ((with_reducible refine gate_dst (N := 1) rfl ?_);refine bxd (N := 1) rfl HB ?_;clear HB;intro qk w22 hg HB qb qw hb;have jd := qw;clear hb hg;obtain ⟨qca, qfV, qjF, qjE, qjD, qjC, qjB, qbH, qfh, qik, qij, qii, qih, qig⟩ := cells7 qb.out) | ((with_reducible refine gate_callee (f := 29) rfl ?_);refine glB 5 rfl rfl Tryz.func29 (qX.calls k _ _ qd true _ (cv qy HB) qz.out A2.out) (fun w24 hb => ?_);replace qb := b1 qb hb;replace HB := b2s bs hb;(try clear hb);obtain ⟨qb9, qdF, qdE, qdD, qdC, qdB, qdA, qbG, qde, qdd, qdc, qdb, qda, qc9⟩ := cells7 qb.out) | (go_at_call 52;(with_reducible refine (Qc.calls qu false _ A4.out).mono ?_);rintro e w' ⟨rfl, ⟨nd, rfl⟩⟩));go_ret;exact ⟨o1, bs⟩
 ·obtain rfl := Option.some.inj H;go_enter Tryz.func30, Tryz.ntmps30;go_wp2_with (first | ((with_reducible refine gate_dst (N := 1) rfl ?_);refine bxd (N := 1) rfl HB ?_;clear HB;intro qk w26 hg HB qb qw hb;have jd := qw;clear hb hg;obtain ⟨qfS, qfR, qjp, qjo, qjn, qjm, qjl, qfe, qfd, qh4, qh3, qh2, qh1, qh0⟩ := cells7 qb.out) | ((with_reducible refine gate_callee (f := 29) rfl ?_);refine glB 5 rfl rfl Tryz.func29 (qX.calls k _ _ qd false _ (cv qy HB) qz.out A2.out) (fun w28 hb => ?_);replace qb := b1 qb hb;replace HB := b2s bs hb;(try clear hb)));go_ret;exact ⟨o1, bs⟩

/-! ### zp: function 55 -/

def zp.v (a b : List Int) : Int := if Op.bytesLess (strOfNums a).toList (strOfNums b).toList = true then -1 else if ((strOfNums a).toList == (strOfNums b).toList) = true then 0 else 1
def zp.f (l0 : List Int) (l1 : List Int) : Option Int := some (zp.v l0 l1)
set_option maxHeartbeats 8000000 in
set_option maxRecDepth 100000 in
theorem zp.calls (A0 : Option Addr) (c0 : Nat) (l0 : List Int) (A1 : Option Addr) (c1 : Nat) (l1 : List Int) (r : Int) (w : World) (hr0 : Kd.C (Kd.int .u8) w A0 l0.length l0) (hc0 : l0.length ≤ c0) (hr1 : Kd.C (Kd.int .u8) w A1 l1.length l1) (hc1 : l1.length ≤ c1) (h : zp.f l0 l1 = some r) :
  Calls Tryz.prog 55 #[.slice A0 l0.length c0, .slice A1 l1.length c1] w fun e w' => e = .returned (.int .i64 r) ∧ Drawn0 w w' := by
 have h0 := Kd.C_string (P := Tryz.prog) (A := A0) (c := c0) Tryz.underlying45 Tryz.underlying5 Tryz.underlying9 hr0;have h1 := Kd.C_string (P := Tryz.prog) (A := A1) (c := c1) Tryz.underlying45 Tryz.underlying5 Tryz.underlying9 hr1;have hr : zp.v l0 l1 = r := Option.some.inj h;subst hr;clear h hr0 hr1;unfold zp.v;by_cases c1 : Op.bytesLess (strOfNums l0).toList (strOfNums l1).toList = true
 ·rw [if_pos c1];go_enter Tryz.func55, Tryz.ntmps55;go_wp2;go_ret;exact ⟨rfl, Drawn0.refl _⟩
 ·rw [if_neg c1];have c1' : Op.bytesLess (strOfNums l0).toList (strOfNums l1).toList = false := by simpa using c1
  clear c1;by_cases c2 : ((strOfNums l0).toList == (strOfNums l1).toList) = true
  ·rw [if_pos c2];go_enter Tryz.func55, Tryz.ntmps55;go_wp2;go_ret;exact ⟨rfl, Drawn0.refl _⟩
  ·rw [if_neg c2];have c2' : ((strOfNums l0).toList == (strOfNums l1).toList) = false := by simpa using c2
   clear c2;go_enter Tryz.func55, Tryz.ntmps55;go_wp2;go_ret;exact ⟨rfl, Drawn0.refl _⟩

/-! ### jf: function 34 -/
mutual
def jf.l0 : Nat → Int → List (List Int) → List (List Int) → Option (Int)
 | 0, _, _, _ => none
 | k + 1, x5, qH, zz => if x5 ≤ (qH.length : Int) then (jf.j1 k x5 (decide (x5 ≤ (zz.length : Int))) qH zz) else (jf.j1 k x5 false qH zz)
def jf.j1 : Nat → Int → Bool → List (List Int) → List (List Int) → Option (Int)
 | 0, _, _, _, _ => none
 | k + 1, x5, x18, qH, zz => if x18 = true then (if 0 ≤ (wrap64 ((qH.length : Int) - x5)) then (if (wrap64 ((qH.length : Int) - x5)) < (qH.length : Int) then (if 0 ≤ (wrap64 ((zz.length : Int) - x5)) then (if (wrap64 ((zz.length : Int) - x5)) < (zz.length : Int) then ((zp.f (qN qH (wrap64 ((qH.length : Int) - x5))) (qN zz (wrap64 ((zz.length : Int) - x5)))).bind fun jq => (if jq = 0 then (jf.l0 k (wrap64 (x5 + 1)) qH zz) else (some jq))) else (none)) else (none)) else (none)) else (none)) else (if (qH.length : Int) = (zz.length : Int) then (some 0) else (if (qH.length : Int) < (zz.length : Int) then (some (-1)) else (some 1)))
end
def jf.f (k : Nat) (qd : List (List Int)) (ql : List (List Int)) : Option (Int) := jf.l0 k 1 qd ql
set_option maxHeartbeats 8000000 in
set_option maxRecDepth 100000 in
theorem jf.calls (k : Nat) (qC : Option Addr) (qA : Nat) (qd : List (List Int)) (zX : Option Addr) (zP : Nat) (ql : List (List Int)) (r : Int) (w : World) (qQ : Kd.C (Kd.slice 5 (Kd.int .u8)) w qC qd.length qd) (qS : qd.length ≤ qA) (yC : Kd.C (Kd.slice 5 (Kd.int .u8)) w zX ql.length ql) (yY : ql.length ≤ zP) (h : jf.f k qd ql = some r) :
  Calls Tryz.prog 34 #[.agg #[.slice qC qd.length qA], .agg #[.slice zX ql.length zP]] w fun e w' => e = .returned (.int .i64 r) ∧ Below w.heap.size w w' := by
 have Zf := Tryz.underlying32;have qy := ak qQ;have qz := ak qS;clear qQ qS;have yl := ak yC;have yK := ak yY;clear yC yY;have HB := ak (Below.refl w.heap.size w);have H : (jf.l0 k 1 qd ql) = some r := h;clear h;have H' := ak H;clear H;go_enter Tryz.func34, Tryz.ntmps34;go_wp2_with (first | ((with_reducible refine gate_dst (N := 2) rfl ?_);(try (refine gate_guard (by rfl) ?_; dsimp only));refine bxd (N := 2) rfl HB ?_;clear HB;intro qk w3 hg HB qb qw hb;have jd := qw;clear hb hg) | ((with_reducible refine gate_dst (N := 3) rfl ?_);(try (refine gate_guard (by rfl) ?_; dsimp only));refine bxe (N := 3) rfl ?_;intro qr hg w4 hbox hb;have qe := ak (hbox);have jb := b3s hg bs;have yo := jb;replace HB := b2s bs hb;have qj := b4 hg qb;have qo := b5 hg qb;replace qb := b1 qb hb;clear hb hbox hg));repeat (go_quiet (first | ((with_reducible refine gate_dst (N := 2) rfl ?_);(try (refine gate_guard (by rfl) ?_; dsimp only));refine bxd (N := 2) rfl HB ?_;clear HB;intro qk w3 hg HB qb qw hb;have jd := qw;clear hb hg) | ((with_reducible refine gate_dst (N := 3) rfl ?_);(try (refine gate_guard (by rfl) ?_; dsimp only));refine bxe (N := 3) rfl ?_;intro qr hg w4 hbox hb;have qe := ak (hbox);have jb := b3s hg bs;have yo := jb;replace HB := b2s bs hb;have qj := b4 hg qb;have qo := b5 hg qb;replace qb := b1 qb hb;clear hb hbox hg)); try go_wp2_with (first | ((with_reducible refine gate_dst (N := 2) rfl ?_);(try (refine gate_guard (by rfl) ?_; dsimp only));refine bxd (N := 2) rfl HB ?_;clear HB;intro qk w3 hg HB qb qw hb;have jd := qw;clear hb hg) | ((with_reducible refine gate_dst (N := 3) rfl ?_);(try (refine gate_guard (by rfl) ?_; dsimp only));refine bxe (N := 3) rfl ?_;intro qr hg w4 hbox hb;have qe := ak (hbox);have jb := b3s hg bs;have yo := jb;replace HB := b2s bs hb;have qj := b4 hg qb;have qo := b5 hg qb;replace qb := b1 qb hb;clear hb hbox hg)))
 go_loopg [5] k (fun kq v5 w' => ∃ (qf : Int), v5 = .int .i64 qf ∧ Aside0 (jf.l0 kq qf qd ql = some r) ∧ Aside0 (kq ≤ k) ∧ Aside0 (w'.heap[qk]? = some (.cells #[(.slice qC qd.length qA)] 32 (0, 0))) ∧ Aside0 (w'.heap[qr]? = some (.cells #[(.slice zX ql.length zP)] 32 (0, 0))) ∧ Aside0 (Below w.heap.size w w'))
 case atStart => exact ⟨(1), o2, H', ⟨Nat.le_refl _⟩, ⟨bk qb.out⟩, ⟨bk qe.out⟩, ⟨bs⟩⟩
 case round =>
  clear H';obtain ⟨qf, rfl, HA, HK1, qb, qe, HB⟩ := hrel;cases gk with
  | zero => exact absurd HA.out (by simp [jf.l0])
  | succ k1 =>
   have H := HA.out;clear HA;simp only [jf.l0] at H;have HC5 := ak H;clear H;go_upto_region 2 with (fail)
   repeat (go_quiet (fail); go_upto_region 2 with (fail))
   go_cut [18] (fun v18 wc => ∃ (kq : Nat) (qps : Bool), v18 = .bool qps ∧ Aside0 (jf.j1 kq qf qps qd ql = some r) ∧ Aside0 (kq ≤ k1) ∧ Aside0 (wc.heap[qk]? = some (.cells #[(.slice qC qd.length qA)] 32 (0, 0))) ∧ Aside0 (wc.heap[qr]? = some (.cells #[(.slice zX ql.length zP)] 32 (0, 0))) ∧ Aside0 (Below w.heap.size w wc))
   case first =>
    have H := HC5.out;clear HC5;replace H := ip H;obtain ⟨c6b0, H⟩ | ⟨c6b0, H⟩ := H
    ·(first | rw [c6b0] | (simp only [i64_w, i32_w]; rw [c6b0]) | skip)
     have H' := ak H;clear H;have qkK := qj.out;have qkJ := qo.out;obtain ⟨XL, XK⟩ := cells1 qb.out;obtain ⟨Yl, Yj⟩ := cells1 qe.out;go_wp2;repeat (go_quiet (fail); try go_wp2)
     go_meet
     case rel => exact ⟨_, (decide (qf ≤ (ql.length : Int))), o2, H', ⟨by have := HK1.out; first | omega | exact Nat.le_refl _⟩, ⟨bk qb.out⟩, ⟨bk qe.out⟩, ⟨bs⟩⟩
    ·(first | rw [c6b0] | (simp only [i64_w, i32_w]; rw [c6b0]) | skip)
     have H' := ak H;clear H;have qq4 := qj.out;have qqZ := qo.out;obtain ⟨ZL, ZK⟩ := cells1 qb.out;go_wp2;repeat (go_quiet (fail); try go_wp2)
     go_meet
     case rel => exact ⟨_, (false), o2, H', ⟨by have := HK1.out; first | omega | exact Nat.le_refl _⟩, ⟨bk qb.out⟩, ⟨bk qe.out⟩, ⟨bs⟩⟩
   case rest =>
    clear HC5;obtain ⟨kq, qps, rfl, HA, HJ4, qb, qe, HB⟩ := hcut;cases kq with
    | zero => exact absurd HA.out (by simp [jf.j1])
    | succ kj4 =>
     have H := HA.out;clear HA;simp only [jf.j1] at H;replace H := ib H;obtain ⟨rfl, H⟩ | ⟨rfl, H⟩ := H
     ·obtain ⟨qdY, qkg⟩ : ∃ j_ : Int, (wrap64 ((qd.length : Int) - qf)) = j_ := ⟨_, rfl⟩;(first | rw [qkg] at H | simp only [qkg] at H)
      have hji13w : (IntKind.i64.wrap ((qd.length : Int) - qf)) = qdY := (i64_w _).trans qkg;replace H := ipN H;obtain ⟨c14b0, H⟩ := H;replace H := ipN H;obtain ⟨c15b0, H⟩ := H;obtain ⟨qdX, qkf⟩ : ∃ j_ : Int, (wrap64 ((ql.length : Int) - qf)) = j_ := ⟨_, rfl⟩;(first | rw [qkf] at H | simp only [qkf] at H)
      have hji16w : (IntKind.i64.wrap ((ql.length : Int) - qf)) = qdX := (i64_w _).trans qkf;replace H := ipN H;obtain ⟨c17b0, H⟩ := H;replace H := ipN H;obtain ⟨c18b0, H⟩ := H;replace H := bnd H;obtain ⟨jq, A19, H⟩ := H;replace H := ie H;obtain ⟨c20b0, c20b1, H⟩ | ⟨c20b0, c20b1, H⟩ := H
      ·have H' := ak H;clear H;have qyC := qj.out;have qyo := qo.out;obtain ⟨YB, Yz⟩ := cells1 qb.out;obtain ⟨yr, zr, zq, rfl, Ya, zN, zB, qcO, qcN⟩ := el_L10 qy HB (qdY);obtain ⟨qca, qbH⟩ := cells1 qe.out;obtain ⟨zu, yF, yE, rfl, ZJ, zn, zm, qa6, qa5⟩ := el_L10 yl HB (qdX);go_wp2_with ((go_at_call 55;(with_reducible refine (zp.calls _ _ (qN qd (qdY)) _ _ (qN ql (qdX)) jq _ (cv zB HB) zN.out (cv zm HB) zn.out A19.out).mono ?_);rintro e w' ⟨rfl, ⟨nd, rfl⟩⟩;(try first | exact ⟨rfl, _, World.drewN_drewN _ _ _⟩ | exact ⟨rfl, _, Eq.trans (World.drewN_drewN _ _ _) (congrArg (World.drewN _) (Nat.add_assoc _ _ _))⟩)));repeat (go_quiet ((go_at_call 55;(with_reducible refine (zp.calls _ _ (qN qd (qdY)) _ _ (qN ql (qdX)) jq _ (cv zB HB) zN.out (cv zm HB) zn.out A19.out).mono ?_);rintro e w' ⟨rfl, ⟨nd, rfl⟩⟩;(try first | exact ⟨rfl, _, World.drewN_drewN _ _ _⟩ | exact ⟨rfl, _, Eq.trans (World.drewN_drewN _ _ _) (congrArg (World.drewN _) (Nat.add_assoc _ _ _))⟩))); try go_wp2_with ((go_at_call 55;(with_reducible refine (zp.calls _ _ (qN qd (qdY)) _ _ (qN ql (qdX)) jq _ (cv zB HB) zN.out (cv zm HB) zn.out A19.out).mono ?_);rintro e w' ⟨rfl, ⟨nd, rfl⟩⟩;(try first | exact ⟨rfl, _, World.drewN_drewN _ _ _⟩ | exact ⟨rfl, _, Eq.trans (World.drewN_drewN _ _ _) (congrArg (World.drewN _) (Nat.add_assoc _ _ _))⟩))))
       go_roundg kj4;case measure => have := HK1.out; have := HJ4.out; omega
       case rel => exact ⟨(wrap64 (qf + 1)), o2, H', ⟨by have := HK1.out; have := HJ4.out; omega⟩, ⟨bk qb.out⟩, ⟨bk qe.out⟩, ⟨bs⟩⟩
      ·obtain rfl := Option.some.inj H;have qq1 := qj.out;have qqW := qo.out;obtain ⟨qb9, qbG⟩ := cells1 qb.out;obtain ⟨yr, zr, zq, rfl, Ya, zN, zB, qcO, qcN⟩ := el_L10 qy HB (qdY);obtain ⟨qdz, qc8⟩ := cells1 qe.out;obtain ⟨zu, yF, yE, rfl, ZJ, zn, zm, qa6, qa5⟩ := el_L10 yl HB (qdX);go_wp2_with ((go_at_call 55;(with_reducible refine (zp.calls _ _ (qN qd (qdY)) _ _ (qN ql (qdX)) jq _ (cv zB HB) zN.out (cv zm HB) zn.out A19.out).mono ?_);rintro e w' ⟨rfl, ⟨nd, rfl⟩⟩;(try first | exact ⟨rfl, _, World.drewN_drewN _ _ _⟩ | exact ⟨rfl, _, Eq.trans (World.drewN_drewN _ _ _) (congrArg (World.drewN _) (Nat.add_assoc _ _ _))⟩)));repeat (go_quiet ((go_at_call 55;(with_reducible refine (zp.calls _ _ (qN qd (qdY)) _ _ (qN ql (qdX)) jq _ (cv zB HB) zN.out (cv zm HB) zn.out A19.out).mono ?_);rintro e w' ⟨rfl, ⟨nd, rfl⟩⟩;(try first | exact ⟨rfl, _, World.drewN_drewN _ _ _⟩ | exact ⟨rfl, _, Eq.trans (World.drewN_drewN _ _ _) (congrArg (World.drewN _) (Nat.add_assoc _ _ _))⟩))); try go_wp2_with ((go_at_call 55;(with_reducible refine (zp.calls _ _ (qN qd (qdY)) _ _ (qN ql (qdX)) jq _ (cv zB HB) zN.out (cv zm HB) zn.out A19.out).mono ?_);rintro e w' ⟨rfl, ⟨nd, rfl⟩⟩;(try first | exact ⟨rfl, _, World.drewN_drewN _ _ _⟩ | exact ⟨rfl, _, Eq.trans (World.drewN_drewN _ _ _) (congrArg (World.drewN _) (Nat.add_assoc _ _ _))⟩))))
       go_ret;exact ⟨by first | rfl | (simp [errW_none, errW_some] <;> rfl) | (simp only [← qkg, ← qkf]; first | rfl | (simp [errW_none, errW_some] <;> rfl)) | (simp [*, errW_none, errW_some] <;> rfl), bs⟩
     ·replace H := ie H;obtain ⟨c27b0, c27b1, H⟩ | ⟨c27b0, c27b1, H⟩ := H
      ·have c27b2 : (qd.length == ql.length) = true := lnT c27b0;obtain rfl := Option.some.inj H;have qG4 := qj.out;have qGw := qo.out;obtain ⟨Xs, Xj⟩ := cells1 qb.out;obtain ⟨qfL, qe7⟩ := cells1 qe.out;go_wp2;repeat (go_quiet (fail); try go_wp2)
       go_ret;exact ⟨o1, bs⟩
      ·have c27b2 : (qd.length == ql.length) = false := lnF c27b0;by_cases c31 : (qd.length : Int) < (ql.length : Int)
       ·rw [if_pos c31] at H;have c31b0 : decide ((qd.length : Int) < (ql.length : Int)) = true := decide_eq_true c31;have c31b1 : decide (qd.length < ql.length) = true := decide_eq_true (Int.ofNat_lt.mp c31);clear c31;obtain rfl := Option.some.inj H;have qyy := qj.out;have qyk := qo.out;obtain ⟨qfK, qe6⟩ := cells1 qb.out;obtain ⟨qje, qhT⟩ := cells1 qe.out;go_wp2;repeat (go_quiet (fail); try go_wp2)
        go_ret;exact ⟨o1, bs⟩
       ·rw [if_neg c31] at H;have c31b0 : decide ((qd.length : Int) < (ql.length : Int)) = false := decide_eq_false c31;have c31b1 : decide (qd.length < ql.length) = false := decide_eq_false (fun h => c31 (Int.ofNat_lt.mpr h));clear c31;obtain rfl := Option.some.inj H;have qG0 := qj.out;have qGs := qo.out;obtain ⟨qjd, qhS⟩ := cells1 qb.out;obtain ⟨qws, qtM⟩ := cells1 qe.out;go_wp2;repeat (go_quiet (fail); try go_wp2)
        go_ret;exact ⟨o1, bs⟩

/-! ### jr: function 31 -/
def jr.f (k : Nat) (qd : List (List Int)) (ql : List (List Int)) : Option (Bool) := if (wrap64 ((qd.length : Int) - (ql.length : Int))) ≥ 0 then (if 0 ≤ (wrap64 ((qd.length : Int) - (ql.length : Int))) then (if (wrap64 ((qd.length : Int) - (ql.length : Int))) ≤ (qd.length : Int) then ((jf.f k (qd.drop ((wrap64 ((qd.length : Int) - (ql.length : Int))) : Int).toNat) ql).bind fun ze => (some (ze == 0))) else (none)) else (none)) else (some false)
def jr.T2 : Bool × List (List Nat × List Nat) := (true, [([], []), ([0], [0]), ([1], [1]), ([2], [2]), ([3, 2], [2, 3]), ([2], [2]), ([4, 5, 2], [2, 4, 5]), ([6, 2], [2, 6]), ([2], [2]), ([7, 8, 2, 2], [2, 7, 8]), ([9, 2], [2, 9]), ([2, 10], [2, 10]), ([11, 9, 0, 1, 2, 3, 4, 5, 6, 7, 8, 9, 10, 11], [11])])
def jr.B2 : List Nat := [0, 1, 3, 7, 15, 7, 63, 127, 7, 511, 1023, 2047, 4095]
theorem jr.tab2 : rtab .any (opsOf Tryz.f31 2) = jr.T2 := by kernel_rfl
theorem jr.bits2 : waitsOk jr.T2.2 jr.B2 = true := by kernel_rfl
set_option maxHeartbeats 8000000 in
set_option maxRecDepth 100000 in
theorem jr.calls (k : Nat) (qC : Option Addr) (qA : Nat) (qd : List (List Int)) (zX : Option Addr) (zP : Nat) (ql : List (List Int)) (r : Bool) (w : World) (qQ : Kd.C (Kd.slice 5 (Kd.int .u8)) w qC qd.length qd) (qS : qd.length ≤ qA) (yC : Kd.C (Kd.slice 5 (Kd.int .u8)) w zX ql.length ql) (yY : ql.length ≤ zP) (h : jr.f k qd ql = some r) :
  Calls Tryz.prog 31 #[.agg #[.slice qC qd.length qA], .agg #[.slice zX ql.length zP]] w fun e w' => e = .returned (.bool r) ∧ Below w.heap.size w w' := by
 have Zf := Tryz.underlying32;have qy := ak qQ;have qz := ak qS;clear qQ qS;have yl := ak yC;have yK := ak yY;clear yC yY;have HB := ak (Below.refl w.heap.size w);have H : (if (wrap64 ((qd.length : Int) - (ql.length : Int))) ≥ 0 then (if 0 ≤ (wrap64 ((qd.length : Int) - (ql.length : Int))) then (if (wrap64 ((qd.length : Int) - (ql.length : Int))) ≤ (qd.length : Int) then ((jf.f k (qd.drop ((wrap64 ((qd.length : Int) - (ql.length : Int))) : Int).toNat) ql).bind fun ze => (some (ze == 0))) else (none)) else (none)) else (some false)) = some r := h;clear h;replace H := ih H;obtain ⟨c3b0, H⟩ | ⟨c3b0, H⟩ := H
 ·obtain ⟨ji4, qkM⟩ : ∃ j_ : Int, (wrap64 ((qd.length : Int) - (ql.length : Int))) = j_ := ⟨_, rfl⟩;(first | rw [qkM] at H | simp only [qkM] at H)
  (try rw [qkM] at c3b0)
  have hji4w : (IntKind.i64.wrap ((qd.length : Int) - (ql.length : Int))) = ji4 := (i64_w _).trans qkM;replace H := ipE H;obtain ⟨c5b0, c5b1, H⟩ := H;replace H := ipE H;obtain ⟨c6b0, c6b1, H⟩ := H;obtain ⟨qcn, qeO⟩ : ∃ y_ : List (List Int), y_ = (qd.drop ((ji4) : Int).toNat) := ⟨_, rfl⟩;(try with_reducible replace H := bnS H)
  (try rw [← qeO] at H)
  have qgP := ak qeO;clear qeO;replace H := bnd H;obtain ⟨ze, A7, H⟩ := H;obtain rfl := Option.some.inj H;go_enter Tryz.func31, Tryz.ntmps31;try go_wp2_with (first | ((with_reducible refine gate_dst (N := 2) rfl ?_);refine bxd (N := 2) rfl HB ?_;clear HB;intro qk w8 hg HB qb qw hb;have jd := qw;clear hb hg) | ((with_reducible refine gate_dst (N := 3) rfl ?_);refine bxe (N := 3) rfl ?_;intro qr hg w9 hbox hb;have qe := ak (hbox);have jb := b3s hg bs;have yo := jb;replace HB := b2s bs hb;have qj := b4 hg qb;have qo := b5 hg qb;replace qb := b1 qb hb;clear hb hbox hg;have qq4 := qj.out;have qqZ := qo.out;obtain ⟨ZL, ZK⟩ := cells1 qb.out;obtain ⟨XA, Xr⟩ := cells1 qe.out))
  replace qb := ak (blk_drew qb.out);replace qe := ak (blk_drew qe.out);replace HB := ak (below_drew1 HB.out);have q14 : ((ji4) : Int) ≤ ((qd.length : Int) : Int) := of_decide_eq_true (by first | (with_reducible assumption) | assumption);obtain ⟨qHs, qq5, _, qqT, _⟩ := info_parts qkt;have hroom14 : qd.length ≤ qA := qz.out;have qxM : Kd.C (Kd.slice 5 (Kd.int .u8)) _ qC qd.length qd := qy.out;have qy9 : (0 : Int) ≤ ((ji4) : Int) := of_decide_eq_true (by first | (with_reducible assumption) | assumption);have qxK := cut_from (P := Tryz.prog) 22 45 .i64 Tryz.underlying22 qq5 1 qqT qC qd.length qA (ji4) qy9 q14;have qkD := Kd.C_drop (m := ((ji4) : Int).toNat) (c := qA) qxM (by omega) hroom14;obtain ⟨A14, qpP⟩ : ∃ A1, A1 = (if qA = ((ji4) : Int).toNat then qC else (qC : Option Addr).map (·.add (((ji4) : Int).toNat * 1))) := ⟨_, rfl⟩;obtain ⟨c14, qqu⟩ : ∃ c1, c1 = qA - ((ji4) : Int).toNat := ⟨_, rfl⟩;have qpA : qcn.length = qd.length - ((ji4) : Int).toNat := (by rw [qgP.out, List.length_drop] <;> omega);rw [show (qd).drop ((ji4) : Int).toNat = qcn from qgP.out.symm] at qkD;replace qkD : Kd.C (Kd.slice 5 (Kd.int .u8)) _ A14 qcn.length qcn := (by rw [qpP]; exact qkD);rw [← qpA, ← qpP, ← qqu] at qxK;have qrb := ak qkD;have qy2 := ak (show qcn.length ≤ c14 from by rw [qpA, qqu]; exact Nat.sub_le_sub_right hroom14 _);clear qkD qxM hroom14 qq5 qqT qqu;have qHL := ak qpA;have qHM := ak qpP;clear qpA qpP;replace q14 := eq_true q14;refine start_ (n := 13) (S := fun w' => w'.cell? ⟨qk, 0, none⟩ = some (.slice qC qd.length qA) ∧ w'.cell? ⟨qr, 0, none⟩ = some (.slice zX ql.length zP)) (ds := []) (bA 13 0) (by kernel_rfl) rfl rfl kq (fun hHeld => ?_); refine with_tabW jr.tab2 jr.bits2 (fun HT_ HW_ => ?_);generalize w9.drew = w13 at qb qe HB qrb hHeld ⊢;refine pu HT_ 0 ?_;refine pu HT_ 1 ?_;refine pu HT_ 2 ?_;refine pu HT_ 3 ?_;refine pu HT_ 5 ?_;refine ta HT_ HW_ hHeld 4 ?_;refine pu HT_ 6 ?_;refine pu HT_ 7 ?_;refine ta HT_ HW_ hHeld 8 ?_;refine on HT_ 9 (fun K hK => ?_);refine gsB Tryz.func34 (jf.calls k _ _ qcn _ _ ql ze _ (cv qrb HB) qy2.out (cv yl HB) yK.out A7.out) (fun w15 hb => ?_);replace qb := b1 qb hb;replace qe := b1 qe hb;replace HB := b2s bs hb;refine hK.out _ _ kp (fun hHeld => ?_);(try clear hb)
  clear hK K;refine norm_ (a' := ?_) ?_ ?_; rotate_left; go_simp; rfl;refine pu HT_ 10 ?_;refine pu HT_ 11 ?_;refine pu HT_ 12 ?_;refine done_ (done_of HT_.out (by kernel_rfl)) ?_;try go_wp2
  go_ret;exact ⟨by first | rfl | (simp [errW_none, errW_some] <;> rfl) | (simp only [← qkM]; first | rfl | (simp [errW_none, errW_some] <;> rfl)) | (simp [*, errW_none, errW_some] <;> rfl), bs⟩
 ·obtain rfl := Option.some.inj H;go_enter Tryz.func31, Tryz.ntmps31;try go_wp2_with (first | ((with_reducible refine gate_dst (N := 2) rfl ?_);refine bxd (N := 2) rfl HB ?_;clear HB;intro qk w16 hg HB qb qw hb;have jd := qw;clear hb hg) | ((with_reducible refine gate_dst (N := 3) rfl ?_);refine bxe (N := 3) rfl ?_;intro qr hg w17 hbox hb;have qe := ak (hbox);have jb := b3s hg bs;have yo := jb;replace HB := b2s bs hb;have qj := b4 hg qb;have qo := b5 hg qb;replace qb := b1 qb hb;clear hb hbox hg;have qke := qj.out;have qkd := qo.out;obtain ⟨Xv, Xm⟩ := cells1 qb.out;obtain ⟨YC, YA⟩ := cells1 qe.out))
  replace qb := ak (blk_drew qb.out);replace qe := ak (blk_drew qe.out);replace HB := ak (below_drew1 HB.out);refine start_ (n := 13) (S := fun w' => True) (ds := []) (bA 13 0) (by kernel_rfl) rfl rfl trivial (fun hHeld => ?_); refine with_tabW jr.tab2 jr.bits2 (fun HT_ HW_ => ?_);generalize w17.drew = w21 at qb qe HB hHeld ⊢;refine pu HT_ 0 ?_;refine pu HT_ 1 ?_;refine pu HT_ 2 ?_;refine sk HT_ 3 ?_;refine sk HT_ 4 ?_;refine sk HT_ 5 ?_;refine sk HT_ 6 ?_;refine sk HT_ 7 ?_;refine sk HT_ 8 ?_;refine sk HT_ 9 ?_;refine sk HT_ 10 ?_;refine pu HT_ 11 ?_;refine pu HT_ 12 ?_;refine done_ (done_of HT_.out (by kernel_rfl)) ?_;try go_wp2
  go_ret;exact ⟨o1, bs⟩

/-! ### ZM: function 54 -/
def ZM.f (a0 : Int) (a1 : Int) : Option (Int) := if a0 < a1 then (some (-1)) else (if a0 > a1 then (some 1) else (some 0))
set_option maxHeartbeats 8000000 in
set_option maxRecDepth 100000 in
theorem ZM.calls (a0 : Int) (a1 : Int) (r : Int) (w : World) (h : ZM.f a0 a1 = some r) :
  Calls Tryz.prog 54 #[.int .i64 a0, .int .i64 a1] w fun e w' => e = .returned (.int .i64 r) ∧ Drawn0 w w' := by
 have H : (if a0 < a1 then (some (-1)) else (if a0 > a1 then (some 1) else (some 0))) = some r := h;clear h;replace H := ip H;obtain ⟨c3b0, H⟩ | ⟨c3b0, H⟩ := H
 ·obtain rfl := Option.some.inj H;go_enter Tryz.func54, Tryz.ntmps54;go_wp2;go_ret;exact ⟨o2, od⟩
 ·replace H := ig H;obtain ⟨c4b0, H⟩ | ⟨c4b0, H⟩ := H
  ·obtain rfl := Option.some.inj H;go_enter Tryz.func54, Tryz.ntmps54;go_wp2;go_ret;exact ⟨o2, od⟩
  ·obtain rfl := Option.some.inj H;go_enter Tryz.func54, Tryz.ntmps54;go_wp2;go_ret;exact ⟨o2, od⟩

/-! ### QG: function 83 -/
def QG.f (l0 : List Int) (a1 : Int) : Option (List Int) := (some (([] : List Int) : List Int)).bind fun Zc => (if Zc.length + l0.length < 140737488355328 then ((some (Zc ++ l0 : List Int)).bind fun YD => (if a1 < 0 then (some YD) else (if a1 ≥ 4294967296 then (some YD) else ((some (([(a1 / 16777216) % 256, (a1 / 65536) % 256, (a1 / 256) % 256, (a1) % 256] : List Int) : List Int)).bind fun XE => (if YD.length + XE.length < 140737488355328 then (some (YD ++ XE)) else (none)))))) else (none))
set_option maxHeartbeats 8000000 in
set_option maxRecDepth 100000 in
theorem QG.calls (A0 : Option Addr) (c0 : Nat) (l0 : List Int) (a1 : Int) (r : List Int) (w : World) (hr0 : Kd.C (Kd.int .u8) w A0 l0.length l0) (hc0 : l0.length ≤ c0) (h : QG.f l0 a1 = some r) :
  Calls Tryz.prog 83 #[.slice A0 l0.length c0, .int .i64 a1] w fun e w' => ∃ v0_ : Value, e = .returned (v0_) ∧ Kd.R (Kd.int .u8) 5 w' w.heap.size (fun _ => True) v0_ r ∧ Below w.heap.size w w' := by
 have HR0 := ak hr0;have HC0 := ak hc0;clear hr0 hc0;have HB := ak (Below.refl w.heap.size w);have H : ((some (([] : List Int) : List Int)).bind fun Zc => (if Zc.length + l0.length < 140737488355328 then ((some (Zc ++ l0 : List Int)).bind fun YD => (if a1 < 0 then (some YD) else (if a1 ≥ 4294967296 then (some YD) else ((some (([(a1 / 16777216) % 256, (a1 / 65536) % 256, (a1 / 256) % 256, (a1) % 256] : List Int) : List Int)).bind fun XE => (if YD.length + XE.length < 140737488355328 then (some (YD ++ XE)) else (none)))))) else (none))) = some r := h;clear h;replace H : ∃ Zc : List Int, Zc = (([] : List Int)) ∧ (if Zc.length + l0.length < 140737488355328 then ((some (Zc ++ l0 : List Int)).bind fun YD => (if a1 < 0 then (some YD) else (if a1 ≥ 4294967296 then (some YD) else ((some (([(a1 / 16777216) % 256, (a1 / 65536) % 256, (a1 / 256) % 256, (a1) % 256] : List Int) : List Int)).bind fun XE => (if YD.length + XE.length < 140737488355328 then (some (YD ++ XE)) else (none)))))) else (none)) = some r := ⟨_, rfl, H⟩;obtain ⟨Zc, QZ, H⟩ := H;have Jy := ak QZ;clear QZ;by_cases c3 : Zc.length + l0.length < 140737488355328
 ·rw [if_pos c3] at H;have qqB := ak c3;clear c3;obtain ⟨YD, qpJ⟩ : ∃ y_ : List Int, y_ = (Zc ++ l0) := ⟨_, rfl⟩;(try with_reducible replace H := bnS H)
  (try rw [← qpJ] at H)
  have qpV := ak qpJ;clear qpJ;replace H := ip H;obtain ⟨c4b0, H⟩ | ⟨c4b0, H⟩ := H
  ·obtain rfl := Option.some.inj H;go_enter Tryz.func83, Tryz.ntmps83;go_wp2_with (first | ((with_reducible refine gate_dst (N := 6) rfl ?_);refine Kd.R_lit (Kd.int .u8) _ 5 ?hg (N := 6) ?hd (xs := ([] : List Int)) (inner := []) (ok := fun _ => True) (okp := fun _ => True) ?hr ?hp (fun _ hk => hk) trivial (Below.refl _ _) (Nat.le_refl _) (by simp) ?_;(case hd => rfl);(case hg => rfl);(case hr => first | (go_simp; done) | (go_simp; rfl));(case hp => exact (Reps.none _ _));intro YE w5 ho6 hb hg_ hnew_;clear hg_ hnew_;(first | rw [← Jy.out] at ho6 | (simp only [Int.reduceToNat] at ho6; rw [← Jy.out] at ho6));have Jb := ak (Kd.R_lower ho6 (below_size (bw HB.out)));replace HB := b2 HB hb;clear hb ho6) | ((with_reducible refine gate_builtin (b := .append) (xs := #[.tmp 6, .tmp 7]) rfl ?_);at_builtin;refine Kd.R_append_rows (Kd.int .u8) (w0 := w) w.heap.size rfl (.tmp 6) (.tmp 7) 45 5 (.int .u8 0) 1 rfl Tryz.underlying45 Yx rfl (by decide) (by omega) YE Zc l0 _ _ _ (fun _ => True) (fun _ => False) rfl rfl ?aO ?aR (fun _ _ h => h) (fun _ h => h.elim) ?aF ?aB ?aS ?aL ?_;(case aR => exact cw HR0.out HB.out);(case aB => exact (bw HB.out));(case aF => exact (fun _ _ => trivial));(case aO => exact (rw_ Jb.out));(case aS => exact (below_size (bw HB.out)));(case aL => have := qqB.out; omega);intro qdU w7 ho hb hg hat;rw [← qpV.out] at ho;replace HB := ak (hb);have jn := ak (ho);clear Jb;clear ho hb hg hat));go_ret;exact ⟨_, o1, rw_ jn.out, bw HB.out⟩
  ·replace H := ih H;obtain ⟨c8b0, H⟩ | ⟨c8b0, H⟩ := H
   ·obtain rfl := Option.some.inj H;go_enter Tryz.func83, Tryz.ntmps83;go_wp2_with (first | ((with_reducible refine gate_dst (N := 6) rfl ?_);refine Kd.R_lit (Kd.int .u8) _ 5 ?hg (N := 6) ?hd (xs := ([] : List Int)) (inner := []) (ok := fun _ => True) (okp := fun _ => True) ?hr ?hp (fun _ hk => hk) trivial (Below.refl _ _) (Nat.le_refl _) (by simp) ?_;(case hd => rfl);(case hg => rfl);(case hr => first | (go_simp; done) | (go_simp; rfl));(case hp => exact (Reps.none _ _));intro YE w9 qkI hb hg_ hnew_;clear hg_ hnew_;(first | rw [← Jy.out] at qkI | (simp only [Int.reduceToNat] at qkI; rw [← Jy.out] at qkI));have Jb := ak (Kd.R_lower qkI (below_size (bw HB.out)));replace HB := b2 HB hb;clear hb qkI) | ((with_reducible refine gate_builtin (b := .append) (xs := #[.tmp 6, .tmp 7]) rfl ?_);at_builtin;refine Kd.R_append_rows (Kd.int .u8) (w0 := w) w.heap.size rfl (.tmp 6) (.tmp 7) 45 5 (.int .u8 0) 1 rfl Tryz.underlying45 Yx rfl (by decide) (by omega) YE Zc l0 _ _ _ (fun _ => True) (fun _ => False) rfl rfl ?aO ?aR (fun _ _ h => h) (fun _ h => h.elim) ?aF ?aB ?aS ?aL ?_;(case aR => exact cw HR0.out HB.out);(case aB => exact (bw HB.out));(case aF => exact (fun _ _ => trivial));(case aO => exact (rw_ Jb.out));(case aS => exact (below_size (bw HB.out)));(case aL => have := qqB.out; omega);intro qdU w11 ho hb hg hat;rw [← qpV.out] at ho;replace HB := ak (hb);have jn := ak (ho);clear Jb;clear ho hb hg hat));go_ret;exact ⟨_, o1, rw_ jn.out, bw HB.out⟩
   ·obtain ⟨XE, qd2⟩ : ∃ y_ : List Int, y_ = (([(a1 / 16777216) % 256, (a1 / 65536) % 256, (a1 / 256) % 256, (a1) % 256] : List Int)) := ⟨_, rfl⟩;(try with_reducible replace H := bnS H)
    (try rw [← qd2] at H)
    have qkj := ak qd2;clear qd2;by_cases c12 : YD.length + XE.length < 140737488355328
    ·rw [if_pos c12] at H;have qyX := ak c12;clear c12;obtain ⟨qHh, qpG⟩ : ∃ y_ : List Int, y_ = (YD ++ XE) := ⟨_, rfl⟩;(try with_reducible replace H := bnS H)
     (try rw [← qpG] at H)
     have qyQ := ak qpG;clear qpG;obtain rfl := Option.some.inj H;go_enter Tryz.func83, Tryz.ntmps83;go_wp2_with (first | ((with_reducible refine gate_dst (N := 6) rfl ?_);refine Kd.R_lit (Kd.int .u8) _ 5 ?hg (N := 6) ?hd (xs := ([] : List Int)) (inner := []) (ok := fun _ => True) (okp := fun _ => True) ?hr ?hp (fun _ hk => hk) trivial (Below.refl _ _) (Nat.le_refl _) (by simp) ?_;(case hd => rfl);(case hg => rfl);(case hr => first | (go_simp; done) | (go_simp; rfl));(case hp => exact (Reps.none _ _));intro YE w13 qkH hb hg_ hnew_;clear hg_ hnew_;(first | rw [← Jy.out] at qkH | (simp only [Int.reduceToNat] at qkH; rw [← Jy.out] at qkH));have Jb := ak (Kd.R_lower qkH (below_size (bw HB.out)));replace HB := b2 HB hb;clear hb qkH) | ((with_reducible refine gate_builtin (b := .append) (xs := #[.tmp 6, .tmp 7]) rfl ?_);at_builtin;refine Kd.R_append_rows (Kd.int .u8) (w0 := w) w.heap.size rfl (.tmp 6) (.tmp 7) 45 5 (.int .u8 0) 1 rfl Tryz.underlying45 Yx rfl (by decide) (by omega) YE Zc l0 _ _ _ (fun _ => True) (fun _ => False) rfl rfl ?aO ?aR (fun _ _ h => h) (fun _ h => h.elim) ?aF ?aB ?aS ?aL ?_;(case aR => exact cw HR0.out HB.out);(case aB => exact (bw HB.out));(case aF => exact (fun _ _ => trivial));(case aO => exact (rw_ Jb.out));(case aS => exact (below_size (bw HB.out)));(case aL => have := qqB.out; omega);intro qdU w15 ho hb hg hat;rw [← qpV.out] at ho;replace HB := ak (hb);have jn := ak (ho);clear Jb;clear ho hb hg hat) | ((with_reducible refine gate_dst (N := 28) rfl ?_);refine Kd.R_lit (Kd.int .u8) _ 5 ?hg (N := 28) ?hd (xs := ([(a1 / 16777216) % 256, (a1 / 65536) % 256, (a1 / 256) % 256, (a1) % 256] : List Int)) (inner := [.int .u8 ((a1 / 16777216) % 256), .int .u8 ((a1 / 65536) % 256), .int .u8 ((a1 / 256) % 256), .int .u8 ((a1) % 256)]) (ok := fun _ => True) (okp := fun _ => True) ?hr ?hp (fun _ hk => hk) trivial (Below.refl _ _) (Nat.le_refl _) (by simp) ?_;(case hd => rfl);(case hg => rfl);(case hr => first | (go_simp; done) | (go_simp; rfl));(case hp => exact (Reps.one (show Kd.M (Kd.int .u8) _ _ _ ((a1 / 16777216) % 256) [.int .u8 ((a1 / 16777216) % 256)] from rfl) (Reps.one (show Kd.M (Kd.int .u8) _ _ _ ((a1 / 65536) % 256) [.int .u8 ((a1 / 65536) % 256)] from rfl) (Reps.one (show Kd.M (Kd.int .u8) _ _ _ ((a1 / 256) % 256) [.int .u8 ((a1 / 256) % 256)] from rfl) (Reps.one (show Kd.M (Kd.int .u8) _ _ _ ((a1) % 256) [.int .u8 ((a1) % 256)] from rfl) (Reps.none _ _))))));intro qpy w16 qhl hb hg_ hnew_;clear hg_ hnew_;(first | rw [← qkj.out] at qhl | (simp only [Int.reduceToNat] at qhl; rw [← qkj.out] at qhl));have zw := ak (Kd.R_lower (Kd.R_new' qhl (Kd.R_lt (rw_ jn.out))) (below_size (bw HB.out)));replace jn := ak (Kd.R_elder' (rw_ jn.out) (Kd.R_base qhl) hb);replace HB := b2 HB hb;clear hb qhl;obtain ⟨qqK, qqy, qgi⟩ := Kd.R_slice zw.out;subst qgi) | ((with_reducible refine gate_builtin (b := .append) (xs := #[.tmp 16, .tmp 28]) rfl ?_);at_builtin;refine Kd.R_append_rows (Kd.int .u8) (w0 := w) w.heap.size rfl (.tmp 16) (.tmp 28) 45 5 (.int .u8 0) 1 rfl Tryz.underlying45 Yx rfl (by decide) (by omega) qdU YD XE _ _ _ (fun k_ => some k_ ≠ (.slice qqK XE.length qqy : Value).ownBlock) (fun _ => False) rfl rfl ?aO ?aR (fun _ _ h => h) (fun _ h => h.elim) ?aF ?aB ?aS ?aL ?_;(case aR => repeat (first | exact (Kd.R_reads' zw.out).2.2 | (with_reducible refine Kd.C_alloc ?_ _) | (with_reducible refine Kd.C_drewN ?_ _) | (with_reducible refine Kd.C_drew ?_)));(case aB => exact (bw HB.out));(case aF => exact (fun k_ hk => Kd.fresh' (Kd.R_lt (rw_ zw.out)) k_ hk));(case aO => exact (rw_ (Kd.R_mono jn.out (fun _ hk => hk.2))));(case aS => exact (below_size (bw HB.out)));(case aL => have := qyX.out; omega);intro qpx w18 ho hb hg hat;rw [← qyQ.out] at ho;replace zw := ak (Kd.R_after (ok := (fun _ => True)) (rw_ zw.out) hg hat);replace HB := ak (hb);have yb := ak (ho);clear jn;clear ho hb hg hat));go_ret;exact ⟨_, o1, by (with_reducible repeat (first | apply Kd.R_alloc | apply Kd.R_drewN | apply Kd.R_drew)); exact Kd.R_mono yb.out (fun _ hk => trivial), bw HB.out⟩
    ·rw [if_neg c12] at H;exact absurd H (by simp)
 ·rw [if_neg c3] at H;exact absurd H (by simp)

/-! ### qL: function 84 -/

attribute [local go_sem ↓] Go.wp_at_zero Go.wp_at_succ
/-- The labels of a name as they stand in messages, without the end. -/
def qL.w : List (List Int) → List Int
 | [] => []
 | x :: l => ((x.length : Int) % 256) :: (x ++ qL.w l)
theorem qL.w_snoc (l : List (List Int)) (x : List Int) : qL.w (l ++ [x]) = qL.w l ++ [(x.length : Int) % 256] ++ x := by
 induction l with
 | nil => simp [qL.w]
 | cons y l ih => simp [qL.w, ih]
theorem qL.w_take (l : List (List Int)) : ∀ k, (qL.w (l.take k)).length ≤ (qL.w l).length := by
 induction l with
 | nil => intro k; simp
 | cons y l ih =>
  intro k;cases k with
  | zero => simp [qL.w]
  | succ k => have := ih k; simp only [List.take_succ_cons, qL.w, List.length_cons, List.length_append]; omega
def qL.f (l0 : List Int) (ql : List (List Int)) : Option (List Int) := if l0.length + (qL.w ql).length + 1 < 140737488355328 then some (l0 ++ qL.w ql ++ [0]) else none
theorem qL.inner {w : World} {S : Nat → Prop} {A : Option Addr} {l : List (List Int)} (h : ∀ W', Kept w W' S → Kd.C (Kd.slice 5 (Kd.int .u8)) W' A l.length l) (i : Nat) (hi : i < l.length) :
  ∃ ad A0 c0, A = some ad ∧ (∀ W', Kept w W' S → W'.cell? (ad.add i) = some (.slice A0 (qN l (i : Int)).length c0)) ∧ (qN l (i : Int)).length ≤ c0 ∧ ∀ W', Kept w W' S → (Kd.int .u8).C W' A0 (qN l (i : Int)).length (qN l (i : Int)) := by
 obtain ⟨ad, A0, c0, rfl, hx, hl, hc⟩ := qcF (h w (Kept.refl w S)) (i : Int) (by omega) (by omega);rw [show ((i : Int)).toNat = i from by omega] at hx;have hn := Kd.foot_neS h (by omega) (show 0 < (Kd.slice 5 (Kd.int .u8)).sz from by decide);have hcell : ∀ W', Kept w W' S → W'.cell? (ad.add i) = some (.slice A0 (qN l (i : Int)).length c0) := fun W' hk => cell_kept hx hk (by rw [add_block]; exact hn)
 refine ⟨ad, A0, c0, rfl, hcell, hl, fun W' hk => ?_⟩;obtain ⟨ad2, A2, c2, e, hx2, _, hc2⟩ := qcF (h W' hk) (i : Int) (by omega) (by omega);injection e with e
 subst e;rw [show ((i : Int)).toNat = i from by omega, hcell W' hk] at hx2;injection hx2 with hx2
 injection hx2 with e1 e2 e3
 subst e1;exact hc2
theorem qL.swap (W : World) (o : Obj) : (W.alloc o).drew = (W.drew).alloc o := rfl
theorem qL.step {c : Prop} [Decidable c] {A B E : Prop} (hc : c) (h : if c then A else B) : if c then A else E := by rw [if_pos hc] at h ⊢; exact h
set_option maxHeartbeats 8000000 in
set_option maxRecDepth 100000 in
theorem qL.calls (P0_ : Nat → Prop) (qkq : Value) (l0 : List Int) (zX : Option Addr) (zP : Nat) (ql : List (List Int)) (r : List Int) (w0 w : World) (hB : Below w0.heap.size w0 w) (ho0 : Kd.R (Kd.int .u8) 5 w w0.heap.size P0_ qkq l0) (yC : ∀ W_, Kept w W_ (fun k_ => P0_ k_) → Kd.C (Kd.slice 5 (Kd.int .u8)) W_ zX ql.length ql) (yY : ql.length ≤ zP) (h : qL.f l0 ql = some r) :
  Calls Tryz.prog 84 #[qkq, .agg #[.slice zX ql.length zP]] w fun e w' => ∃ v0_ : Value, e = .returned (v0_) ∧ Kd.R (Kd.int .u8) 5 w' w0.heap.size (fun k_ => (P0_ k_ ∨ w.heap.size ≤ k_)) v0_ r ∧ Below w0.heap.size w0 w' ∧ Kept w w' (fun k_ => P0_ k_) := by
 have HO0 := ak (show Kd.R (Kd.int .u8) 5 w w0.heap.size (fun k_ => (P0_ k_ ∨ w.heap.size ≤ k_)) qkq l0 from Kd.R_mono ho0 (fun k_ hk => (.inl hk)));have HK := ak (Kept.refl w (fun k_ => P0_ k_));have HB := ak hB;have HI := ak (qL.inner yC);have hbig : ql.length ≤ 9223372036854775807 := (yC w (Kept.refl _ _)).2.1
 have HLM : Aside0 (l0.length + (qL.w ql).length + 1 < 140737488355328) := by
  unfold qL.f at h; split at h
  ·exact ⟨by assumption⟩
  ·cases h
 have hr : l0 ++ qL.w ql ++ [0] = r := by
  unfold qL.f at h; rw [if_pos HLM.out] at h; exact Option.some.inj h
 subst hr;clear yC yY h hB ho0;go_enter Tryz.func84, Tryz.ntmps84;go_wp2_with (((with_reducible refine gate_dst (N := 3) rfl ?_);refine bxe (N := 3) rfl ?_;intro qk hg w2 hbox hb;replace HB := b2 HB hb;have qb := ak (hbox);replace HK := ak (Kept.below (by repeat (first | (with_reducible first | exact HK.out | apply Kept.alloc | apply Kept.drewN | apply Kept.drew) | exact HK.out)) hb);have HO := ak (Kd.R_below HO0.out hb);clear HO0;clear hb hbox hg));go_loopg [0, 5] ql.length (fun gg s0 s5 w' => ∃ kk : Nat, kk ≤ ql.length ∧ ql.length - kk ≤ gg ∧ s5 = .int .i64 kk ∧ Aside0 (Kd.R (Kd.int .u8) 5 w' w0.heap.size (fun k_ => (P0_ k_ ∨ w.heap.size ≤ k_)) s0 (l0 ++ qL.w (ql.take kk))) ∧ Aside0 (w'.heap[qk]? = some (.cells #[(.slice zX ql.length zP)] 32 (0, 0))) ∧ Aside0 (Below w0.heap.size w0 w') ∧ Aside0 (Kept w w' (fun k_ => P0_ k_)))
 case atStart => exact ⟨0, Nat.zero_le _, by omega, rfl, ⟨by simpa [qL.w] using HO.out⟩, qb, HB, HK⟩
 case round =>
  clear HO qb HB HK;obtain ⟨kk, hkk, hg, rfl, HO, BK, HB, HK⟩ := hrel;have hcz := ak ((blk_cell BK.out 0).trans rfl : wr.cell? ⟨qk, 0, none⟩ = some (.slice zX ql.length zP));have hfz := blk_frozen BK.out 0;by_cases hlt : kk < ql.length
  ·obtain ⟨ad, A2, c2, rfl, hcell, hc2, hC⟩ := HI.out kk hlt
   have hx : Aside0 (l0 ++ qL.w (ql.take (kk + 1)) = l0 ++ qL.w (ql.take kk) ++ [((qN ql (kk : Int)).length : Int) % 256] ++ qN ql (kk : Int)) := ⟨by
    rw [List.take_succ_eq_append_getElem hlt, qL.w_snoc]; simp [qN, List.getD_eq_getElem?_getD, hlt]⟩
   have HLL : Aside0 ((l0 ++ qL.w (ql.take kk)).length + 1 + (qN ql (kk : Int)).length < 140737488355328) := ⟨by
    have h1 := congrArg List.length hx.out;have h2 := qL.w_take ql (kk + 1);have h3 := HLM.out;simp only [List.length_append, List.length_singleton] at h1 ⊢
    omega⟩
   have HCE := ak hcell;have HCC := ak hC;have hcn := hcell wr HK.out;have hczn := hcz.out;clear hcell hC hcz HI;generalize qN ql (kk : Int) = x1 at hx HLL HCE HCC hc2 hcn;generalize l0 ++ qL.w (ql.take kk) = acc at HO hx HLL;have hltz : (kk : Int) < (ql.length : Int) := by omega
   have qHt : (0 : Int) ≤ (kk : Int) := by omega
   go_wp2
   go_region_held3 (fun w' => w'.cell? ⟨qk, 0, none⟩ = some (.slice (some ad) ql.length zP) ∧ w'.cell? (ad.add kk) = some (.slice A2 x1.length c2)) (first | exact ⟨(blk_cell BK.out 0).trans rfl, HCE.out _ HK.out⟩ | go_keep)
    (first
     | (rw [qL.swap]; refine qL.step (by simp [Region.wanted]) (Kd.R_append_step (Kd.int .u8) (w0 := w0) w0.heap.size (by simp [Region.wanted]) (.tmp 13) (.tmp 21) 45 5 (.int .u8 0) 1 (by rfl) Tryz.underlying45 Yx rfl (by decide) (by omega) _ acc ((x1.length : Int) % 256) [.int .u8 ((x1.length : Int) % 256)] (fun k_ => (P0_ k_ ∨ w.heap.size ≤ k_)) (fun _ => False) (by rfl) (by rfl) rfl (fun _ hk => hk.elim) (fun k hk => .inr (Nat.le_trans HK.out.1 (Nat.le_trans (by simp) hk))) (rw_ HO.out) (bw HB.out) (below_size (bw HB.out)) (by have := HLL.out; omega) ?_); intro v1 w1 ho hb hg hat; have n0_ := ak (blk_grown (bk BK.out) hg (Kd.R_ne HO.out BK.out (by decide))); have n1_ := ak hb; have n2_ := ak ho; have n3_ := ak (Kept.of_grown (w := w) (S := fun k_ => P0_ k_) hg (by repeat (first | (with_reducible first | exact HK.out | apply Kept.alloc | apply Kept.drewN | apply Kept.drew) | exact HK.out)) (fun k hk => HO.out.1 k hk)); clear HB HO HK BK ho hb hg hat; have BK := n0_; have HB := n1_; have HO := n2_; have HK := n3_; clear n0_ n1_ n2_ n3_)
     | (refine qL.step (by simp [Region.wanted]) (Kd.R_append_rows_step (Kd.int .u8) (w0 := w0) w0.heap.size (by simp [Region.wanted]) (.tmp 22) (.tmp 27) 45 5 (.int .u8 0) 1 (by rfl) Tryz.underlying45 Yx rfl (by decide) (by omega) _ (acc ++ [(x1.length : Int) % 256]) x1 _ _ _ (fun k_ => (P0_ k_ ∨ w.heap.size ≤ k_)) (fun _ => False) (by rfl) (by rfl) (rw_ HO.out) (HCC.out _ (by repeat (first | (with_reducible first | exact HK.out | apply Kept.alloc | apply Kept.drewN | apply Kept.drew) | exact HK.out))) (fun _ _ h => h) (fun _ h => h.elim) (fun k hk => .inr (Nat.le_trans HK.out.1 (Nat.le_trans (by simp) hk))) (bw HB.out) (below_size (bw HB.out)) (by have := HLL.out; simp only [List.length_append, List.length_singleton]; omega) ?_); intro v1 w1 ho hb hg hat; have n0_ := ak (blk_grown (bk BK.out) hg (Kd.R_ne HO.out BK.out (by decide))); have n1_ := ak hb; have n2_ := ak ho; have n3_ := ak (Kept.of_grown (w := w) (S := fun k_ => P0_ k_) hg (by repeat (first | (with_reducible first | exact HK.out | apply Kept.alloc | apply Kept.drewN | apply Kept.drew) | exact HK.out)) (fun k hk => HO.out.1 k hk)); clear HB HO HK BK ho hb hg hat; have BK := n0_; have HB := n1_; have HO := n2_; have HK := n3_; clear n0_ n1_ n2_ n3_))
   go_wp2;go_roundg (ql.length - (kk + 1));case measure => omega
   case rel => exact ⟨kk + 1, by omega, by omega, by go_num, ⟨by rw [hx.out]; exact HO.out⟩, BK, HB, HK⟩
  ·have : kk = ql.length := by omega
   subst this;rw [List.take_of_length_le (Nat.le_refl _)] at HO;have hczn := hcz.out;clear hcz;have hltz : ¬ (ql.length : Int) < (ql.length : Int) := by omega
   go_wp2_with (((with_reducible refine gate_builtin (b := .append) (xs := #[.tmp 29, .tmp 30]) rfl ?_);at_builtin;refine Kd.R_append (Kd.int .u8) (w0 := w0) w0.heap.size rfl (.tmp 29) (.tmp 30) 45 5 (.int .u8 0) 1 rfl Tryz.underlying45 Yx rfl (by decide) (by omega) _ (l0 ++ qL.w ql) 0 [.int .u8 0] (fun k_ => (P0_ k_ ∨ w.heap.size ≤ k_)) (fun _ => False) rfl rfl ?aP (fun _ hk => hk.elim) ?aF ?aO ?aB ?aS ?aL ?_;(case aP => exact rfl);(case aB => exact (bw HB.out));(case aF => exact (fun k hk => .inr (Nat.le_trans HK.out.1 (Nat.le_trans (by simp) hk))));(case aO => exact (rw_ HO.out));(case aS => exact (below_size (bw HB.out)));(case aL => have := HLM.out; simp only [List.length_append]; omega);intro qpw w14 ho hb hg hat;have n1_ := ak hb;have n2_ := ak ho;have n3_ := ak (Kept.of_grown (w := w) (S := fun k_ => P0_ k_) hg (by repeat (first | (with_reducible first | exact HK.out | apply Kept.alloc | apply Kept.drewN | apply Kept.drew) | exact HK.out)) (fun k hk => HO.out.1 k hk));clear HB HO HK ho hb hg hat;have HB := n1_;have HO := n2_;have HK := n3_;clear n1_ n2_ n3_));go_ret;exact ⟨qpw, rfl, by have := HO.out; simpa only [List.append_assoc] using this, HB.out, HK.out⟩

/-! ### yJ: function 56 -/
def yJ.f (qd : List (List Int)) (qu : Int) (qD : Int) (qB : Int) (qt : List (List Int)) (qn : List Int) (qm : List Int) : Option (List Int) := if qu = 1 then ((QG.f ([] : List Int) qB).bind fun qJ => (some qJ)) else (if qu = 6 then ((qL.f ([] : List Int) qt).bind fun jq => (if 0 < (qm.length : Int) then ((QG.f jq (rd qm 0)).bind fun zD => (if 1 < (qm.length : Int) then ((QG.f zD (rd qm 1)).bind fun yU => (some yU)) else (none))) else (none))) else ((QL.f qu).bind fun YF => (if YF = true then ((qL.f ([] : List Int) qt).bind fun Zs => (some Zs)) else ((some (([((qn.length : Int)) % 256] : List Int) : List Int)).bind fun qa3 => (if qa3.length + qn.length < 140737488355328 then (some (qa3 ++ qn)) else (none))))))
def yJ.T4 : Bool × List (List Nat × List Nat) := (true, [([], []), ([0], [0]), ([1], [1]), ([], []), ([3], [3]), ([4], [4]), ([5], [5]), ([2, 6, 2], [2, 6]), ([], []), ([8], [8]), ([9], [9]), ([10], [10]), ([7, 11, 7], [7, 11]), ([12, 12, 0, 1, 2, 3, 4, 5, 6, 7, 8, 9, 10, 11, 12], [12])])
def yJ.B4 : List Nat := [0, 1, 3, 0, 8, 24, 56, 127, 0, 256, 768, 1792, 4095, 8191]
theorem yJ.tab4 : rtab .any (opsOf Tryz.f56 4) = yJ.T4 := by kernel_rfl
theorem yJ.bits4 : waitsOk yJ.T4.2 yJ.B4 = true := by kernel_rfl
set_option maxHeartbeats 8000000 in
set_option maxRecDepth 100000 in
theorem yJ.calls (qC : Option Addr) (qA : Nat) (qd : List (List Int)) (qu : Int) (qD : Int) (qB : Int) (zc : Option Addr) (za : Nat) (qt : List (List Int)) (zk : Option Addr) (zi : Nat) (qn : List Int) (zl : Option Addr) (zh : Nat) (qm : List Int) (r : List Int) (w : World) (qQ : Kd.C (Kd.slice 5 (Kd.int .u8)) w qC qd.length qd) (qS : qd.length ≤ qA) (zG : Kd.C (Kd.slice 5 (Kd.int .u8)) w zc qt.length qt) (zJ : qt.length ≤ za) (zF : Kd.C (Kd.int .u8) w zk qn.length qn) (zI : qn.length ≤ zi) (zE : Kd.C (Kd.int .i64) w zl qm.length qm) (zH : qm.length ≤ zh) (h : yJ.f qd qu qD qB qt qn qm = some r) :
  Calls Tryz.prog 56 #[.agg #[.slice qC qd.length qA, .int .i64 qu, .int .i64 qD, .int .i64 qB, .slice zc qt.length za, .slice zk qn.length zi, .slice zl qm.length zh]] w fun e w' => ∃ v0_ : Value, e = .returned (v0_) ∧ Kd.R (Kd.int .u8) 5 w' w.heap.size (fun _ => True) v0_ r ∧ Below w.heap.size w w' := by
 have YJ := Tryz.underlying56;have Zf := Tryz.underlying32;have qy := ak qQ;have qz := ak qS;clear qQ qS;have zv := ak zG;have zx := ak zJ;clear zG zJ;have yt := ak zF;have yI := ak zI;clear zF zI;have jV := ak zE;have yM := ak zH;clear zE zH;have HB := ak (Below.refl w.heap.size w);have H : (if qu = 1 then ((QG.f ([] : List Int) qB).bind fun qJ => (some qJ)) else (if qu = 6 then ((qL.f ([] : List Int) qt).bind fun jq => (if 0 < (qm.length : Int) then ((QG.f jq (rd qm 0)).bind fun zD => (if 1 < (qm.length : Int) then ((QG.f zD (rd qm 1)).bind fun yU => (some yU)) else (none))) else (none))) else ((QL.f qu).bind fun YF => (if YF = true then ((qL.f ([] : List Int) qt).bind fun Zs => (some Zs)) else ((some (([((qn.length : Int)) % 256] : List Int) : List Int)).bind fun qa3 => (if qa3.length + qn.length < 140737488355328 then (some (qa3 ++ qn)) else (none))))))) = some r := h;clear h;replace H := ie H;obtain ⟨c2b0, c2b1, H⟩ | ⟨c2b0, c2b1, H⟩ := H
 ·replace H := bnd H;obtain ⟨qJ, A3, H⟩ := H;obtain rfl := Option.some.inj H;go_enter Tryz.func56, Tryz.ntmps56;go_wp2_with (first | ((with_reducible refine gate_dst (N := 1) rfl ?_);refine bxd (N := 1) rfl HB ?_;clear HB;intro qk w4 hg HB qb qw hb;have jd := qw;clear hb hg;obtain ⟨qgL, qqc, qqb, qqa, qp9, qp8, qp7, qgC, qp6, qp5, qp4, qp3, qp2, qp1⟩ := cells7 qb.out) | ((with_reducible refine gate_callee (f := 83) rfl ?_);refine goesL_ (some 9) rfl rfl Tryz.func83 (by kernel_rfl) rfl #[.slice none 0 0, .int .i64 qB] rfl (by (try simp only [List.map_toArray, List.map_cons, List.map_nil]); first | done | rfl | (simp only [List.length_drop, List.length_take]; rfl)) ?_;(refine (QG.calls _ _ ([] : List Int) qB qJ _ ?jI ?Qs A3.out).mono ?_);(case jI => exact Kd.C_nil _ _);(case Qs => exact Nat.le_refl _);rintro e w6 ⟨qw3, rfl, ho0, hb⟩;refine ⟨_, rfl, ?_⟩;have qgS := ak (Kd.R_lower ho0 (below_size bs));replace qb := b1 qb hb;replace HB := b2s bs hb;(try clear hb);(try clear ho0)));go_ret;exact ⟨_, o1, rw_ qgS.out, bs⟩
 ·replace H := ie H;obtain ⟨c7b0, c7b1, H⟩ | ⟨c7b0, c7b1, H⟩ := H
  ·replace H := bnd H;obtain ⟨jq, A8, H⟩ := H;replace H := ipN H;obtain ⟨c9b0, H⟩ := H;have c9b1 : decide (0 < qm.length) = true := decide_eq_true (by have := of_decide_eq_true c9b0; omega);replace H := bnd H;obtain ⟨zD, A10, H⟩ := H;replace H := ipN H;obtain ⟨c11b0, H⟩ := H;have c11b1 : decide (1 < qm.length) = true := decide_eq_true (by have := of_decide_eq_true c11b0; omega);replace H := bnd H;obtain ⟨yU, A12, H⟩ := H;obtain rfl := Option.some.inj H;go_enter Tryz.func56, Tryz.ntmps56;try go_wp2_with (((with_reducible refine gate_dst (N := 1) rfl ?_);refine bxd (N := 1) rfl HB ?_;clear HB;intro qk w13 hg HB qb qw hb;have jd := qw;clear hb hg;obtain ⟨Xz, qaK, qgb, qga, qf9, qf8, qf7, Xq, qar, qfx, qfw, qfv, qfu, qft⟩ := cells7 qb.out))
   replace qb := ak (blk_drew qb.out);replace HB := ak (below_drew1 HB.out);have qcx : 0 ≤ (0 : Int) := (by omega);have qcw : 0 < (qm.length : Int) := of_decide_eq_true (by first | (with_reducible assumption) | assumption);obtain ⟨qgN, qzB, Zp⟩ := Kd.at_int jV.out 0 qcx qcw;have qcU := Zp;(try rw [show ((0 : Int)).toNat = 0 from rfl] at qcU)
   (try rw [show 0 * 1 = 0 from rfl] at qcU)
   (try rw [Addr.add_zero'] at qcU)
   cases qzB;have qya : (0 < qm.length) = True := eq_true (by omega);(try rw [show ((0 : Int)).toNat = 0 from rfl] at Zp)
   (try rw [Addr.add_zero'] at Zp)
   replace Zp := pw_cell_below HB.out Zp;replace qcx := eq_true qcx;replace qcw := eq_true qcw;have qqn : 0 ≤ (1 : Int) := (by omega);have qqm : 1 < (qm.length : Int) := of_decide_eq_true (by first | (with_reducible assumption) | assumption);obtain ⟨qyK, qzA, qbk⟩ := Kd.at_int jV.out 1 qqn qqm;have qcT := qbk;(try rw [show ((1 : Int)).toNat = 1 from rfl] at qcT)
   (try rw [show 1 * 1 = 1 from rfl] at qcT)
   (try simp only [Nat.reduceMul, Nat.reduceEqDiff, Go.Addr.add, ↓reduceIte] at qcT)
   obtain rfl : qgN = qyK := (by injection qzA);(try simp only [show (1 : Int).toNat = 1 from rfl, Nat.reduceMul, Nat.reduceEqDiff, Go.Addr.add, ↓reduceIte] at qbk)
   have qF0 : (1 < qm.length) = True := eq_true (by omega);(try rw [show ((1 : Int)).toNat = 1 from rfl] at qbk)
   replace qbk := pw_cell_below HB.out qbk;replace qqn := eq_true qqn;replace qqm := eq_true qqm;refine start_ (n := 14) (S := fun w' => w'.cell? ⟨qk, 0, none⟩ = some (.slice qC qd.length qA) ∧ w'.cell? ⟨qk, 1, none⟩ = some (.int .i64 qu) ∧ w'.cell? ⟨qk, 2, none⟩ = some (.int .i64 qD) ∧ w'.cell? ⟨qk, 3, none⟩ = some (.int .i64 qB) ∧ w'.cell? ⟨qk, 4, none⟩ = some (.slice zc qt.length za) ∧ w'.cell? ⟨qk, 5, none⟩ = some (.slice zk qn.length zi) ∧ w'.cell? ⟨qk, 6, none⟩ = some (.slice (some qgN) qm.length zh) ∧ w'.cell? qgN = some (.int .i64 (rd qm 0)) ∧ w'.cell? ⟨qgN.block, qgN.off + 1, none⟩ = some (.int .i64 (rd qm 1))) (ds := []) (bA 14 0) (by kernel_rfl) rfl rfl kq (fun hHeld => ?_); refine with_tabW yJ.tab4 yJ.bits4 (fun HT_ HW_ => ?_);generalize w13.drew = w15 at qb HB Zp qbk hHeld ⊢;refine pu HT_ 0 ?_;refine pu HT_ 3 ?_;refine pu HT_ 8 ?_;refine ta HT_ HW_ hHeld 1 ?_;refine ta HT_ HW_ hHeld 4 ?_;refine pu HT_ 5 ?_;refine ta HT_ HW_ hHeld 6 ?_;refine ta HT_ HW_ hHeld 9 ?_;refine pu HT_ 10 ?_;refine ta HT_ HW_ hHeld 11 ?_;refine on HT_ 2 (fun K hK => ?_);refine goes_ Tryz.func84 (by kernel_rfl) rfl #[.slice none 0 0, .agg #[.slice zc qt.length za]] (by rfl) rfl rfl (by (try simp only [List.map_toArray, List.map_cons, List.map_nil]); first | done | rfl | (simp only [List.length_drop, List.length_take]; rfl)) ?_;refine (qL.calls (fun k_ => some k_ = (.slice none 0 0 : Value).ownBlock) (.slice none 0 0) ([] : List Int) _ _ qt jq w _ ?jI ?Qs ?yA ?JF A8.out).mono ?_;(case jI => repeat (first | (with_reducible first | exact HB.out | apply below_alloc | apply pw_below_drewN | apply below_drew1 | refine below_set ?_ qw.out) | exact HB.out))
   (case Qs => exact Kd.R_nil _ _ _ _ _)
   (case yA => exact Kd.C_kept_came (Kd.heap_slice 5 (Kd.heap_int .u8)) zv.out bs (fun k_ hs_ => (fun e_ => by simp [Value.ownBlock] at e_) hs_))
   (case JF => exact zx.out)
   rintro e w16 ⟨Xh, rfl, ho0, hb, hkp⟩;refine ⟨_, rfl, ?_⟩;replace qb := ak (blk_kept (bk qb.out) hkp (fun hs_ => (fun e_ => by simp [Value.ownBlock] at e_) hs_));have yn := ak (Kd.R_mono (ok' := fun k_ => True) ho0 (fun k_ hk_ => trivial));replace HB := ak (hb);(try clear hb)
   (try clear hkp)
   (try clear ho0)
   obtain ⟨qH2, qHJ, qxX⟩ := Kd.R_slice yn.out;(first | subst qxX | (injection qxX with f1_ f2_ f3_; have f4_ := f1_.symm; have f5_ := f3_.symm; clear f1_ f2_ f3_; subst f4_; subst f5_))
   refine hK.out _ _ ⟨(blk_cell qb.out 0).trans rfl, (blk_cell qb.out 1).trans rfl, (blk_cell qb.out 2).trans rfl, (blk_cell qb.out 3).trans rfl, (blk_cell qb.out 4).trans rfl, (blk_cell qb.out 5).trans rfl, (blk_cell qb.out 6).trans rfl, (pw_cell_below HB.out qcU), (pw_cell_below HB.out qcT)⟩ (fun hHeld => ?_);clear hK K;refine norm_ (a' := ?_) ?_ ?_; rotate_left; go_simp; rfl;refine on HT_ 7 (fun K hK => ?_);refine gsG Tryz.func83 (QG.calls _ _ jq (rd qm 0) zD _ ?jI ?Qs A10.out) ?_;(case jI => repeat (first | exact (Kd.R_reads' yn.out).2.2 | (with_reducible refine Kd.C_alloc ?_ _) | (with_reducible refine Kd.C_drewN ?_ _) | (with_reducible refine Kd.C_drew ?_)))
   (case Qs => exact (Kd.R_reads' yn.out).2.1)
   rintro e w18 ⟨qw1, rfl, ho0, hb⟩;refine ⟨_, rfl, ?_⟩;have qaY := ak (Kd.R_lower (Kd.R_new' ho0 (Kd.R_lt (rw_ yn.out))) (below_size bs));replace yn := ak (Kd.R_elder' (rw_ yn.out) (Kd.R_base ho0) hb);replace qb := b1 qb hb;replace HB := b2s bs hb;(try clear hb)
   (try clear ho0)
   obtain ⟨qqK, qqy, qgi⟩ := Kd.R_slice qaY.out;(first | subst qgi | (injection qgi with f1_ f2_ f3_; have f4_ := f1_.symm; have f5_ := f3_.symm; clear f1_ f2_ f3_; subst f4_; subst f5_))
   refine hK.out _ _ ⟨(blk_cell qb.out 0).trans rfl, (blk_cell qb.out 1).trans rfl, (blk_cell qb.out 2).trans rfl, (blk_cell qb.out 3).trans rfl, (blk_cell qb.out 4).trans rfl, (blk_cell qb.out 5).trans rfl, (blk_cell qb.out 6).trans rfl, (pw_cell_below HB.out qcU), (pw_cell_below HB.out qcT)⟩ (fun hHeld => ?_);clear hK K;refine norm_ (a' := ?_) ?_ ?_; rotate_left; go_simp; rfl;refine on HT_ 12 (fun K hK => ?_);refine gsG Tryz.func83 (QG.calls _ _ zD (rd qm 1) yU _ ?jI ?Qs A12.out) ?_;(case jI => repeat (first | exact (Kd.R_reads' qaY.out).2.2 | (with_reducible refine Kd.C_alloc ?_ _) | (with_reducible refine Kd.C_drewN ?_ _) | (with_reducible refine Kd.C_drew ?_)))
   (case Qs => exact (Kd.R_reads' qaY.out).2.1)
   rintro e w20 ⟨qqj, rfl, ho0, hb⟩;refine ⟨_, rfl, ?_⟩;have qbi := ak (Kd.R_lower (Kd.R_new' (Kd.R_new' ho0 (Kd.R_lt (rw_ yn.out))) (Kd.R_lt (rw_ qaY.out))) (below_size bs));replace yn := ak (Kd.R_elder' (rw_ yn.out) (Kd.R_base ho0) hb);replace qaY := ak (Kd.R_elder' (rw_ qaY.out) (Kd.R_base ho0) hb);replace qb := b1 qb hb;replace HB := b2s bs hb;refine hK.out _ _ kp (fun hHeld => ?_);(try clear hb)
   (try clear ho0)
   clear hK K;refine norm_ (a' := ?_) ?_ ?_; rotate_left; go_simp; rfl;refine pu HT_ 13 ?_;refine done_ (done_of HT_.out (by kernel_rfl)) ?_;try go_wp2
   go_ret;exact ⟨_, o1, by (with_reducible repeat (first | apply Kd.R_alloc | apply Kd.R_drewN | apply Kd.R_drew)); exact Kd.R_mono qbi.out (fun _ hk => trivial), bs⟩
  ·replace H := bnd H;obtain ⟨YF, A21, H⟩ := H;replace H := ib H;obtain ⟨rfl, H⟩ | ⟨rfl, H⟩ := H
   ·replace H := bnd H;obtain ⟨Zs, A23, H⟩ := H;obtain rfl := Option.some.inj H;go_enter Tryz.func56, Tryz.ntmps56;go_wp2_with (first | ((with_reducible refine gate_dst (N := 1) rfl ?_);refine bxd (N := 1) rfl HB ?_;clear HB;intro qk w24 hg HB qb qw hb;have jd := qw;clear hb hg;obtain ⟨qb9, qdF, qdE, qdD, qdC, qdB, qdA, qbG, qde, qdd, qdc, qdb, qda, qc9⟩ := cells7 qb.out) | ((with_reducible refine gate_callee (f := 81) rfl ?_);refine glD 30 rfl rfl Tryz.func81 (QL.calls qu true _ A21.out) (fun nd => ?_)) | ((with_reducible refine gate_callee (f := 84) rfl ?_);refine goesL_ (some 33) rfl rfl Tryz.func84 (by kernel_rfl) rfl #[.slice none 0 0, .agg #[.slice zc qt.length za]] rfl (by (try simp only [List.map_toArray, List.map_cons, List.map_nil]); first | done | rfl | (simp only [List.length_drop, List.length_take]; rfl)) ?_;(refine (qL.calls (fun k_ => some k_ = (.slice none 0 0 : Value).ownBlock) (.slice none 0 0) ([] : List Int) _ _ qt Zs w _ ?jI ?Qs ?yA ?JF A23.out).mono ?_);(case jI => repeat (first | (with_reducible first | exact HB.out | apply below_alloc | apply pw_below_drewN | apply below_drew1 | refine below_set ?_ qw.out) | exact HB.out));(case Qs => exact Kd.R_nil _ _ _ _ _);(case yA => exact Kd.C_kept_came (Kd.heap_slice 5 (Kd.heap_int .u8)) zv.out bs (fun k_ hs_ => (fun e_ => by simp [Value.ownBlock] at e_) hs_));(case JF => exact zx.out);rintro e w26 ⟨qdS, rfl, ho0, hb, hkp⟩;refine ⟨_, rfl, ?_⟩;replace qb := ak (blk_kept (bk qb.out) hkp (fun hs_ => (fun e_ => by simp [Value.ownBlock] at e_) hs_));have yZ := ak (Kd.R_mono (ok' := fun k_ => True) ho0 (fun k_ hk_ => trivial));replace HB := ak (hb);(try clear hb);(try clear hkp);(try clear ho0)));go_ret;exact ⟨_, o1, rw_ yZ.out, bs⟩
   ·obtain ⟨qa3, qd0⟩ : ∃ y_ : List Int, y_ = (([((qn.length : Int)) % 256] : List Int)) := ⟨_, rfl⟩;(try with_reducible replace H := bnS H)
    (try rw [← qd0] at H)
    have qki := ak qd0;clear qd0;by_cases c27 : qa3.length + qn.length < 140737488355328
    ·rw [if_pos c27] at H;have qpW := ak c27;clear c27;obtain ⟨qHf, qpB⟩ : ∃ y_ : List Int, y_ = (qa3 ++ qn) := ⟨_, rfl⟩;(try with_reducible replace H := bnS H)
     (try rw [← qpB] at H)
     have qyM := ak qpB;clear qpB;obtain rfl := Option.some.inj H;go_enter Tryz.func56, Tryz.ntmps56;go_wp2_with (first | ((with_reducible refine gate_dst (N := 1) rfl ?_);refine bxd (N := 1) rfl HB ?_;clear HB;intro qk w28 hg HB qb qw hb;have jd := qw;clear hb hg;obtain ⟨Xs, qaz, qb6, qb5, qb4, qb3, qb2, Xj, qag, qbD, qbC, qbB, qbA, qbz⟩ := cells7 qb.out) | ((with_reducible refine gate_callee (f := 81) rfl ?_);refine glD 30 rfl rfl Tryz.func81 (QL.calls qu false _ A21.out) (fun nd => ?_)) | ((with_reducible refine gate_dst (N := 38) rfl ?_);refine Kd.R_lit (Kd.int .u8) _ 5 ?hg (N := 38) ?hd (xs := ([((qn.length : Int)) % 256] : List Int)) (inner := [.int .u8 (((qn.length : Int)) % 256)]) (ok := fun _ => True) (okp := fun _ => True) ?hr ?hp (fun _ hk => hk) trivial (Below.refl _ _) (Nat.le_refl _) (by simp) ?_;(case hd => rfl);(case hg => rfl);(case hr => first | (go_simp; done) | (go_simp; rfl));(case hp => exact (Reps.one (show Kd.M (Kd.int .u8) _ _ _ (((qn.length : Int)) % 256) [.int .u8 (((qn.length : Int)) % 256)] from rfl) (Reps.none _ _)));intro qy6 w30 qkE hb hg_ hnew_;clear hg_ hnew_;(first | rw [← qki.out] at qkE | (simp only [Int.reduceToNat] at qkE; rw [← qki.out] at qkE));have qpX := ak (Kd.R_lower qkE (below_size bs));replace qb := b1 qb hb;replace HB := b2s bs hb;clear hb qkE;obtain ⟨qay, qax, qbZ, qbY, qbX, qbW, qbV, qaf, qae, qbw, qbv, qbu, qbt, qbs⟩ := cells7 qb.out) | ((with_reducible refine gate_builtin (b := .append) (xs := #[.tmp 38, .tmp 40]) rfl ?_);at_builtin;refine Kd.R_append_rows (Kd.int .u8) (w0 := w) w.heap.size rfl (.tmp 38) (.tmp 40) 45 5 (.int .u8 0) 1 rfl Tryz.underlying45 Yx rfl (by decide) (by omega) qy6 qa3 qn _ _ _ (fun _ => True) (fun _ => False) rfl rfl ?aO ?aR (fun _ _ h => h) (fun _ h => h.elim) ?aF ?aB ?aS ?aL ?_;(case aR => exact cw yt.out HB.out);(case aB => exact bs);(case aF => exact (fun _ _ => trivial));(case aO => exact (rw_ qpX.out));(case aS => exact (below_size bs));(case aL => have := qpW.out; omega);intro qHl w33 ho hb hg hat;rw [← qyM.out] at ho;replace qb := ak (blk_grown (bk qb.out) hg (Kd.R_ne qpX.out qb.out (by decide)));replace HB := ak (hb);have qyZ := ak (ho);clear qpX;clear ho hb hg hat));go_ret;exact ⟨_, o1, rw_ qyZ.out, bs⟩
    ·rw [if_neg c27] at H;exact absurd H (by simp)

/-! ### yz: function 32 -/
def yz.j0 : Nat → Int → List (List Int) → Int → Int → Int → List (List Int) → List Int → List Int → List (List Int) → Int → Int → Int → List (List Int) → List Int → List Int → Option (Int)
 | 0, _, _, _, _, _, _, _, _, _, _, _, _, _, _, _ => none
 | k + 1, x5, qH, qp, yG, yx, zR, zQ, jG, zz, qeM, qcS, qeL, qeK, qeJ, qeI => if x5 = 0 then ((yJ.f qH qp yG yx zR zQ jG).bind fun jq => ((yJ.f zz qeM qcS qeL qeK qeJ qeI).bind fun jW => ((zp.f jq jW).bind fun Qb => (some Qb)))) else (some x5)
def yz.f (k : Nat) (qd : List (List Int)) (qu : Int) (qD : Int) (qB : Int) (qt : List (List Int)) (qn : List Int) (qm : List Int) (ql : List (List Int)) (Qo : Int) (QQ : Int) (QP : Int) (yq : List (List Int)) (yv : List Int) (yB : List Int) : Option (Int) := (jf.f k qd ql).bind fun qU => (if qU = 0 then ((ZM.f qu Qo).bind fun qE => (yz.j0 k qE qd qu qD qB qt qn qm ql Qo QQ QP yq yv yB)) else (yz.j0 k qU qd qu qD qB qt qn qm ql Qo QQ QP yq yv yB))
set_option maxHeartbeats 8000000 in
set_option maxRecDepth 100000 in
theorem yz.calls (k : Nat) (qC : Option Addr) (qA : Nat) (qd : List (List Int)) (qu : Int) (qD : Int) (qB : Int) (zc : Option Addr) (za : Nat) (qt : List (List Int)) (zk : Option Addr) (zi : Nat) (qn : List Int) (zl : Option Addr) (zh : Nat) (qm : List Int) (zX : Option Addr) (zP : Nat) (ql : List (List Int)) (Qo : Int) (QQ : Int) (QP : Int) (XY : Option Addr) (XR : Nat) (yq : List (List Int)) (XX : Option Addr) (XQ : Nat) (yv : List Int) (XW : Option Addr) (XP : Nat) (yB : List Int) (r : Int) (w : World) (qQ : Kd.C (Kd.slice 5 (Kd.int .u8)) w qC qd.length qd) (qS : qd.length ≤ qA) (zG : Kd.C (Kd.slice 5 (Kd.int .u8)) w zc qt.length qt) (zJ : qt.length ≤ za) (zF : Kd.C (Kd.int .u8) w zk qn.length qn) (zI : qn.length ≤ zi) (zE : Kd.C (Kd.int .i64) w zl qm.length qm) (zH : qm.length ≤ zh) (yC : Kd.C (Kd.slice 5 (Kd.int .u8)) w zX ql.length ql) (yY : ql.length ≤ zP) (XJ : Kd.C (Kd.slice 5 (Kd.int .u8)) w XY yq.length yq) (XO : yq.length ≤ XR) (XI : Kd.C (Kd.int .u8) w XX yv.length yv) (XN : yv.length ≤ XQ) (XH : Kd.C (Kd.int .i64) w XW yB.length yB) (XM : yB.length ≤ XP) (h : yz.f k qd qu qD qB qt qn qm ql Qo QQ QP yq yv yB = some r) :
  Calls Tryz.prog 32 #[.agg #[.slice qC qd.length qA, .int .i64 qu, .int .i64 qD, .int .i64 qB, .slice zc qt.length za, .slice zk qn.length zi, .slice zl qm.length zh], .agg #[.slice zX ql.length zP, .int .i64 Qo, .int .i64 QQ, .int .i64 QP, .slice XY yq.length XR, .slice XX yv.length XQ, .slice XW yB.length XP]] w fun e w' => e = .returned (.int .i64 r) ∧ Below w.heap.size w w' := by
 have YJ := Tryz.underlying56;have Zf := Tryz.underlying32;have qy := ak qQ;have qz := ak qS;clear qQ qS;have zv := ak zG;have zx := ak zJ;clear zG zJ;have yt := ak zF;have yI := ak zI;clear zF zI;have jV := ak zE;have yM := ak zH;clear zE zH;have yl := ak yC;have yK := ak yY;clear yC yY;have YZ := ak XJ;have Xe := ak XO;clear XJ XO;have Xf := ak XI;have Xg := ak XN;clear XI XN;have XT := ak XH;have XU := ak XM;clear XH XM;have HB := ak (Below.refl w.heap.size w);have H : ((jf.f k qd ql).bind fun qU => (if qU = 0 then ((ZM.f qu Qo).bind fun qE => (yz.j0 k qE qd qu qD qB qt qn qm ql Qo QQ QP yq yv yB)) else (yz.j0 k qU qd qu qD qB qt qn qm ql Qo QQ QP yq yv yB))) = some r := h;clear h;replace H := bnd H;obtain ⟨qU, A3, H⟩ := H;have HC4 := ak H;clear H;go_enter Tryz.func32, Tryz.ntmps32;go_upto_if 12 with (first | ((with_reducible refine gate_dst (N := 2) rfl ?_);refine bxd (N := 2) rfl HB ?_;clear HB;intro qk w5 hg HB qb qw hb;have jd := qw;clear hb hg) | ((with_reducible refine gate_dst (N := 3) rfl ?_);refine bxe (N := 3) rfl ?_;intro qr hg w6 hbox hb;have qe := ak (hbox);have jb := b3s hg bs;have yo := jb;replace HB := b2s bs hb;have qj := b4 hg qb;have qo := b5 hg qb;replace qb := b1 qb hb;clear hb hbox hg;have qkK := qj.out;have qkJ := qo.out;obtain ⟨XL, qgI, qk8, qk7, qk6, qk5, qk4, XK, qgz, qkR, qkQ, qkP, qkO, qkN⟩ := cells7 qb.out;obtain ⟨Yl, YL, qgH, qgG, qgF, qgE, qgD, Yj, YK, qgy, qgx, qgw, qgv, qgu⟩ := cells7 qe.out) | ((with_reducible refine gate_callee (f := 34) rfl ?_);refine glB 10 rfl rfl Tryz.func34 (jf.calls k _ _ qd _ _ ql qU _ (cv qy HB) qz.out (cv yl HB) yK.out A3.out) (fun w10 hb => ?_);replace qb := b1 qb hb;replace qe := b1 qe hb;replace HB := b2s bs hb;(try clear hb)))
 (try simp only [Act.put, List.setIfInBounds_toArray, List.set_cons_zero, List.set_cons_succ])
 go_cut [5] (fun v5 wc => ∃ (kq : Nat) (qqi : Int), v5 = .int .i64 qqi ∧ Aside0 (yz.j0 kq qqi qd qu qD qB qt qn qm ql Qo QQ QP yq yv yB = some r) ∧ Aside0 (kq ≤ k) ∧ Aside0 (wc.heap[qk]? = some (.cells #[(.slice qC qd.length qA), .int .i64 qu, .int .i64 qD, .int .i64 qB, (.slice zc qt.length za), (.slice zk qn.length zi), (.slice zl qm.length zh)] 56 (0, 0))) ∧ Aside0 (wc.heap[qr]? = some (.cells #[(.slice zX ql.length zP), .int .i64 Qo, .int .i64 QQ, .int .i64 QP, (.slice XY yq.length XR), (.slice XX yv.length XQ), (.slice XW yB.length XP)] 56 (0, 0))) ∧ Aside0 (Below w.heap.size w wc))
 case first =>
  have H := HC4.out;clear HC4;replace H := ie H;obtain ⟨c11b0, c11b1, H⟩ | ⟨c11b0, c11b1, H⟩ := H
  ·(first | rw [c11b0] | (simp only [i64_w, i32_w]; rw [c11b0]) | skip)
   replace H := bnd H;obtain ⟨qE, A12, H⟩ := H;have H' := ak H;clear H;have qyE := qj.out;have qyq := qo.out;obtain ⟨Xz, qaK, qgb, qga, qf9, qf8, qf7, Xq, qar, qfx, qfw, qfv, qfu, qft⟩ := cells7 qb.out;obtain ⟨YX, YW, qf6, qf5, qf4, qf3, qf2, YT, YS, qfs, qfr, qfq, qfp, qfo⟩ := cells7 qe.out;go_wp2_with (((with_reducible refine gate_callee (f := 54) rfl ?_);refine glD 17 rfl rfl Tryz.func54 (ZM.calls qu Qo qE _ A12.out) (fun nd => ?_)));go_meet
   case rel => exact ⟨_, (qE), o2, H', ⟨o3⟩, ⟨bk qb.out⟩, ⟨bk qe.out⟩, ⟨bs⟩⟩
  ·(first | rw [c11b0] | (simp only [i64_w, i32_w]; rw [c11b0]) | skip)
   have H' := ak H;clear H;go_wp2;go_meet
   case rel => exact ⟨_, (qU), o2, H', ⟨o3⟩, ⟨bk qb.out⟩, ⟨bk qe.out⟩, ⟨bs⟩⟩
 case rest =>
  clear HC4;(try clear XL)
  (try clear qgI)
  (try clear qk8)
  (try clear qk7)
  (try clear qk6)
  (try clear qk5)
  (try clear qk4)
  (try clear Yl)
  (try clear YL)
  (try clear qgH)
  (try clear qgG)
  (try clear qgF)
  (try clear qgE)
  (try clear qgD)
  (try clear XK)
  (try clear qgz)
  (try clear qkR)
  (try clear qkQ)
  (try clear qkP)
  (try clear qkO)
  (try clear qkN)
  (try clear Yj)
  (try clear YK)
  (try clear qgy)
  (try clear qgx)
  (try clear qgw)
  (try clear qgv)
  (try clear qgu)
  obtain ⟨kq, qqi, rfl, HA, HJ3, qb, qe, HB⟩ := hcut;cases kq with
  | zero => exact absurd HA.out (by simp [yz.j0])
  | succ kj3 =>
   have H := HA.out;clear HA;simp only [yz.j0] at H;replace H := ie H;obtain ⟨c16b0, c16b1, H⟩ | ⟨c16b0, c16b1, H⟩ := H
   ·replace H := bnd H;obtain ⟨jq, A17, H⟩ := H;replace H := bnd H;obtain ⟨jW, A18, H⟩ := H;replace H := bnd H;obtain ⟨Qb, A19, H⟩ := H;obtain rfl := Option.some.inj H;try go_wp2
    replace qb := ak (blk_drew qb.out);replace qe := ak (blk_drew qe.out);replace HB := ak (below_drew1 HB.out);refine start_ (n := 6) (S := fun w' => w'.cell? ⟨qk, 0, none⟩ = some (.slice qC qd.length qA) ∧ w'.cell? ⟨qk, 1, none⟩ = some (.int .i64 qu) ∧ w'.cell? ⟨qk, 2, none⟩ = some (.int .i64 qD) ∧ w'.cell? ⟨qk, 3, none⟩ = some (.int .i64 qB) ∧ w'.cell? ⟨qk, 4, none⟩ = some (.slice zc qt.length za) ∧ w'.cell? ⟨qk, 5, none⟩ = some (.slice zk qn.length zi) ∧ w'.cell? ⟨qk, 6, none⟩ = some (.slice zl qm.length zh) ∧ w'.cell? ⟨qr, 0, none⟩ = some (.slice zX ql.length zP) ∧ w'.cell? ⟨qr, 1, none⟩ = some (.int .i64 Qo) ∧ w'.cell? ⟨qr, 2, none⟩ = some (.int .i64 QQ) ∧ w'.cell? ⟨qr, 3, none⟩ = some (.int .i64 QP) ∧ w'.cell? ⟨qr, 4, none⟩ = some (.slice XY yq.length XR) ∧ w'.cell? ⟨qr, 5, none⟩ = some (.slice XX yv.length XQ) ∧ w'.cell? ⟨qr, 6, none⟩ = some (.slice XW yB.length XP)) (ds := []) (bA 6 0) (by kernel_rfl) rfl rfl ⟨(blk_cell qb.out 0).trans rfl, (blk_cell qb.out 1).trans rfl, (blk_cell qb.out 2).trans rfl, (blk_cell qb.out 3).trans rfl, (blk_cell qb.out 4).trans rfl, (blk_cell qb.out 5).trans rfl, (blk_cell qb.out 6).trans rfl, (blk_cell qe.out 0).trans rfl, (blk_cell qe.out 1).trans rfl, (blk_cell qe.out 2).trans rfl, (blk_cell qe.out 3).trans rfl, (blk_cell qe.out 4).trans rfl, (blk_cell qe.out 5).trans rfl, (blk_cell qe.out 6).trans rfl⟩ (fun hHeld => ?_);generalize wc.drew = w20 at qb qe HB hHeld ⊢;refine take_ (i := 0) (N := some 20) (v := ?_) (a' := ?_) (bA 6 1) rfl rfl (by kernel_rfl) (fun _ _ _ h => h) (Or.inl ⟨by rfl, ?_⟩) hHeld ?_ ?_;rotate_left; rintro w' ⟨s0, s1, s2, s3, s4, s5, s6, s7, s8, s9, s10, s11, s12, s13⟩; go_simp; with_reducible rfl; rotate_left; go_simp; rfl
    refine take_ (i := 2) (N := some 22) (v := ?_) (a' := ?_) (bA 6 5) rfl rfl (by kernel_rfl) (fun _ _ _ h => h) (Or.inl ⟨by rfl, ?_⟩) hHeld ?_ ?_;rotate_left; rintro w' ⟨s0, s1, s2, s3, s4, s5, s6, s7, s8, s9, s10, s11, s12, s13⟩; go_simp; with_reducible rfl; rotate_left; go_simp; rfl
    refine one_ (i := 1) (N := some 21) (bA 6 7) rfl rfl (by kernel_rfl) (by decide) (fun K hK => ?_);refine gsG Tryz.func56 (yJ.calls _ _ qd qu qD qB _ _ qt _ _ qn _ _ qm jq _ (cv qy HB) qz.out (cv zv HB) zx.out (cv yt HB) yI.out (cv jV HB) yM.out A17.out) ?_;rintro e w21 ⟨Xh, rfl, ho0, hb⟩;refine ⟨_, rfl, ?_⟩;have yn := ak (Kd.R_lower ho0 (below_size bs));replace qb := b1 qb hb;replace qe := b1 qe hb;replace HB := b2s bs hb;refine hK.out _ _ kp (fun hHeld => ?_);(try clear hb)
    (try clear ho0)
    clear hK K;refine norm_ (a' := ?_) ?_ ?_; rotate_left; go_simp; rfl;refine one_ (i := 3) (N := some 23) (bA 6 15) rfl rfl (by kernel_rfl) (by decide) (fun K hK => ?_);refine gsG Tryz.func56 (yJ.calls _ _ ql Qo QQ QP _ _ yq _ _ yv _ _ yB jW _ (cv yl HB) yK.out (cv YZ HB) Xe.out (cv Xf HB) Xg.out (cv XT HB) XU.out A18.out) ?_;rintro e w22 ⟨qy7, rfl, ho0, hb⟩;refine ⟨_, rfl, ?_⟩;have qbj := ak (Kd.R_lower (Kd.R_new' ho0 (Kd.R_lt (rw_ yn.out))) (below_size bs));replace yn := ak (Kd.R_elder' (rw_ yn.out) (Kd.R_base ho0) hb);replace qb := b1 qb hb;replace qe := b1 qe hb;replace HB := b2s bs hb;(try clear hb)
    (try clear ho0)
    obtain ⟨qH1, qHI, qxW⟩ := Kd.R_slice yn.out;(first | subst qxW | (injection qxW with f1_ f2_ f3_; have f4_ := f1_.symm; have f5_ := f3_.symm; clear f1_ f2_ f3_; subst f4_; subst f5_))
    obtain ⟨qH0, qHH, qxV⟩ := Kd.R_slice qbj.out;(first | subst qxV | (injection qxV with f1_ f2_ f3_; have f4_ := f1_.symm; have f5_ := f3_.symm; clear f1_ f2_ f3_; subst f4_; subst f5_))
    refine hK.out _ _ ⟨(blk_cell qb.out 0).trans rfl, (blk_cell qb.out 1).trans rfl, (blk_cell qb.out 2).trans rfl, (blk_cell qb.out 3).trans rfl, (blk_cell qb.out 4).trans rfl, (blk_cell qb.out 5).trans rfl, (blk_cell qb.out 6).trans rfl, (blk_cell qe.out 0).trans rfl, (blk_cell qe.out 1).trans rfl, (blk_cell qe.out 2).trans rfl, (blk_cell qe.out 3).trans rfl, (blk_cell qe.out 4).trans rfl, (blk_cell qe.out 5).trans rfl, (blk_cell qe.out 6).trans rfl⟩ (fun hHeld => ?_);clear hK K;refine norm_ (a' := ?_) ?_ ?_; rotate_left; go_simp; rfl;refine one_ (i := 4) (N := some 24) (bA 6 31) rfl rfl (by kernel_rfl) (by decide) (fun K hK => ?_);refine gsG Tryz.func55 (zp.calls _ _ jq _ _ jW Qb _ ?jI ?Qs ?yA ?JF A19.out) ?_;(case jI => repeat (first | exact (Kd.R_reads' yn.out).2.2 | (with_reducible refine Kd.C_alloc ?_ _) | (with_reducible refine Kd.C_drewN ?_ _) | (with_reducible refine Kd.C_drew ?_)))
    (case Qs => exact (Kd.R_reads' yn.out).2.1)
    (case yA => repeat (first | exact (Kd.R_reads' qbj.out).2.2 | (with_reducible refine Kd.C_alloc ?_ _) | (with_reducible refine Kd.C_drewN ?_ _) | (with_reducible refine Kd.C_drew ?_)))
    (case JF => exact (Kd.R_reads' qbj.out).2.1)
    rintro e w' ⟨rfl, ⟨nd, rfl⟩⟩;refine ⟨_, rfl, ?_⟩;refine hK.out _ _ ⟨(blk_cell qb.out 0).trans rfl, (blk_cell qb.out 1).trans rfl, (blk_cell qb.out 2).trans rfl, (blk_cell qb.out 3).trans rfl, (blk_cell qb.out 4).trans rfl, (blk_cell qb.out 5).trans rfl, (blk_cell qb.out 6).trans rfl, (blk_cell qe.out 0).trans rfl, (blk_cell qe.out 1).trans rfl, (blk_cell qe.out 2).trans rfl, (blk_cell qe.out 3).trans rfl, (blk_cell qe.out 4).trans rfl, (blk_cell qe.out 5).trans rfl, (blk_cell qe.out 6).trans rfl⟩ (fun hHeld => ?_);clear hK K;refine norm_ (a' := ?_) ?_ ?_; rotate_left; go_simp; rfl;refine pure_ (i := 5) (N := some 5) (v := ?_) (a' := ?_) (bA 6 63) rfl rfl (by kernel_rfl) (fun _ _ _ h => h) (Or.inl ⟨by rfl, ?_⟩) ?_ ?_;rotate_left; intro w'; go_simp; with_reducible rfl; rotate_left; go_simp; rfl
    refine done_ (by kernel_rfl) ?_;try go_wp2
    go_ret;exact ⟨o1, bs⟩
   ·obtain rfl := Option.some.inj H;go_wp2;go_ret;exact ⟨o1, bs⟩

/-! ### qP: function 33 -/
mutual
def qP.l0 : Nat → List (S56) → Int → Int → Option (Bool)
 | 0, _, _, _ => none
 | k + 1, x0, x1, x5 => if x5 < (x0.length : Int) then (if x5 = x1 then (qP.j1 k x0 x1 x5 false) else (if 0 ≤ x5 then (if 0 ≤ x1 then (if x1 < (x0.length : Int) then ((jf.f k ((qa x0 x5).f0.f0) ((qa x0 x1).f0.f0)).bind fun qE => (qP.j1 k x0 x1 x5 (qE == 0))) else (none)) else (none)) else (none))) else (some true)
def qP.j1 : Nat → List (S56) → Int → Int → Bool → Option (Bool)
 | 0, _, _, _, _ => none
 | k + 1, x0, x1, x5, x34 => if x34 = true then (some false) else (qP.l0 k x0 x1 (wrap64 (x5 + 1)))
end
def qP.f (k : Nat) (l0 : List (S56)) (a1 : Int) : Option (Bool) := if 0 ≤ a1 then (if a1 < (l0.length : Int) then (if ((qa l0 a1).f1) = 5 then (qP.l0 k l0 a1 0) else (some true)) else (none)) else (none)
def qP.T6 : Bool × List (List Nat × List Nat) := (true, [([], []), ([], []), ([0, 1], [0, 1]), ([2], [2]), ([3], [3]), ([3], [3]), ([4, 5, 3], [3, 4, 5]), ([6, 3], [3, 6]), ([7, 3], [3, 7]), ([3], [3]), ([3], [3]), ([9, 10, 3], [3, 9, 10]), ([11, 3], [3, 11]), ([12, 3], [3, 12]), ([8, 13, 3, 3], [3, 8, 13]), ([14, 3], [3, 14]), ([3, 15], [3, 15])])
def qP.B6 : List Nat := [0, 0, 3, 7, 15, 15, 63, 127, 255, 15, 15, 1551, 3599, 7695, 16383, 32767, 65535]
theorem qP.tab6 : rtab .any (opsOf Tryz.f33 6) = qP.T6 := by kernel_rfl
theorem qP.bits6 : waitsOk qP.T6.2 qP.B6 = true := by kernel_rfl
set_option maxHeartbeats 8000000 in
set_option maxRecDepth 100000 in
theorem qP.calls (k : Nat) (A0 : Option Addr) (c0 : Nat) (l0 : List (S56)) (a1 : Int) (r : Bool) (w : World) (hr0 : Kd.C k56 w A0 l0.length l0) (hc0 : l0.length ≤ c0) (h : qP.f k l0 a1 = some r) :
  Calls Tryz.prog 33 #[.slice A0 l0.length c0, .int .i64 a1] w fun e w' => e = .returned (.bool r) ∧ Below w.heap.size w w' := by
 have Zf := Tryz.underlying32;have HR0 := ak hr0;have HC0 := ak hc0;clear hr0 hc0;have HB := ak (Below.refl w.heap.size w);have H : (if 0 ≤ a1 then (if a1 < (l0.length : Int) then (if ((qa l0 a1).f1) = 5 then (qP.l0 k l0 a1 0) else (some true)) else (none)) else (none)) = some r := h;clear h;replace H := ipN H;obtain ⟨c3b0, H⟩ := H;replace H := ipN H;obtain ⟨c4b0, H⟩ := H;replace H := ie H;obtain ⟨c5b0, c5b1, H⟩ | ⟨c5b0, c5b1, H⟩ := H
 ·have H' := ak H;clear H;obtain ⟨qK, JJ, JH, ZI, ZF, ZH, ZE, ZG, ZD, rfl, jQ, Jo, Jn, Jm, Jl, Jk, Jj, zt, jT, QE, yT, QD, yS, QC, yR, QT, QS⟩ := el0_T56 HR0 a1;go_enter Tryz.func33, Tryz.ntmps33;go_wp2;go_loopg [5] k (fun kq v5 w' => ∃ (qf : Int), v5 = .int .i64 qf ∧ Aside0 (qP.l0 kq l0 a1 qf = some r) ∧ Aside0 (kq ≤ k) ∧ Aside0 (Below w.heap.size w w'))
  case atStart => exact ⟨(0), o2, H', ⟨Nat.le_refl _⟩, ⟨bw HB.out⟩⟩
  case round =>
   clear H';(try clear c3b0)
   (try clear c4b0)
   (try clear c5b0)
   (try clear c5b1)
   (try clear jQ)
   (try clear Jo)
   (try clear Jn)
   (try clear Jm)
   (try clear Jl)
   (try clear Jk)
   (try clear Jj)
   (try clear QT)
   (try clear QS)
   obtain ⟨qf, rfl, HA, HK1, HB⟩ := hrel;cases gk with
   | zero => exact absurd HA.out (by simp [qP.l0])
   | succ k1 =>
    have H := HA.out;clear HA;simp only [qP.l0] at H;replace H := ip H;obtain ⟨c6b0, H⟩ | ⟨c6b0, H⟩ := H
    ·have HC7 := ak H;clear H;go_upto_region 6 with (fail)
     go_cut [34] (fun v34 wc => ∃ (kq : Nat) (qpp : Bool), v34 = .bool qpp ∧ Aside0 (qP.j1 kq l0 a1 qf qpp = some r) ∧ Aside0 (kq ≤ k1) ∧ Aside0 (Below w.heap.size w wc))
     case first =>
      have H := HC7.out;clear HC7;replace H := ie H;obtain ⟨c8b0, c8b1, H⟩ | ⟨c8b0, c8b1, H⟩ := H
      ·(first | rw [c8b0] | (simp only [i64_w, i32_w]; rw [c8b0]) | skip)
       have H' := ak H;clear H;try go_wp2
       replace HB := ak (below_drew1 HB.out);refine start_ (n := 17) (S := fun w' => True) (ds := []) (bA 17 0) (by kernel_rfl) rfl rfl trivial (fun hHeld => ?_); refine with_tabW qP.tab6 qP.bits6 (fun HT_ HW_ => ?_);generalize wr.drew = w9 at HB hHeld ⊢;refine pu HT_ 0 ?_;refine pu HT_ 1 ?_;refine pu HT_ 2 ?_;refine pu HT_ 3 ?_;refine sk HT_ 4 ?_;refine sk HT_ 5 ?_;refine sk HT_ 6 ?_;refine sk HT_ 7 ?_;refine sk HT_ 8 ?_;refine sk HT_ 9 ?_;refine sk HT_ 10 ?_;refine sk HT_ 11 ?_;refine sk HT_ 12 ?_;refine sk HT_ 13 ?_;refine sk HT_ 14 ?_;refine sk HT_ 15 ?_;refine pu HT_ 16 ?_;refine done_ (done_of HT_.out (by kernel_rfl)) ?_;try go_wp2
       go_meet
       case rel => exact ⟨_, (false), o2, H', ⟨by have := HK1.out; first | omega | exact Nat.le_refl _⟩, ⟨bw HB.out⟩⟩
      ·(first | rw [c8b0] | (simp only [i64_w, i32_w]; rw [c8b0]) | skip)
       replace H := ipN H;obtain ⟨c10b0, H⟩ := H;replace H := ipN H;obtain ⟨c11b0, H⟩ := H;replace H := ipN H;obtain ⟨c12b0, H⟩ := H;replace H := bnd H;obtain ⟨qE, A13, H⟩ := H;have H' := ak H;clear H;try go_wp2
       replace HB := ak (below_drew1 HB.out);obtain ⟨Jh, Jg, Zo, Zi, Zn, Zh, Zm, Zg, qeV, qeU, qeT, qeS, qeR, qeQ, qeP, jC, yj, yi, yh, yg, yf, ye, jU, jD, JM, QB, JL, QA, JK, Qz, yW, yV⟩ := el2w_T56 HR0 HB qf;obtain ⟨zr, zq, ya, zV, zZ, zU, zY, zT, qz4, qz3, qz2, qz1, qz0, qzZ, qzY, Ya, qlt, qls, qlr, qlq, qlp, qlo, zN, zB, XD, Xc, XC, Xb, XB, Xa, qcO, qcN⟩ := el2w_T56 HR0 HB a1;refine start_ (n := 17) (S := fun w' => w'.cell? (qK.add ((qf).toNat * 7)) = some (.slice Jh ((qa l0 qf).f0.f0).length Jg) ∧ w'.cell? ⟨(qK.add ((qf).toNat * 7)).block, (qK.add ((qf).toNat * 7)).off + 1, none⟩ = some (.int .i64 ((qa l0 qf).f1)) ∧ w'.cell? ⟨(qK.add ((qf).toNat * 7)).block, (qK.add ((qf).toNat * 7)).off + 2, none⟩ = some (.int .i64 ((qa l0 qf).f2)) ∧ w'.cell? ⟨(qK.add ((qf).toNat * 7)).block, (qK.add ((qf).toNat * 7)).off + 3, none⟩ = some (.int .i64 ((qa l0 qf).f3)) ∧ w'.cell? ⟨(qK.add ((qf).toNat * 7)).block, (qK.add ((qf).toNat * 7)).off + 4, none⟩ = some (.slice Zo ((qa l0 qf).f4.f0).length Zi) ∧ w'.cell? ⟨(qK.add ((qf).toNat * 7)).block, (qK.add ((qf).toNat * 7)).off + 5, none⟩ = some (.slice Zn ((qa l0 qf).f5).length Zh) ∧ w'.cell? ⟨(qK.add ((qf).toNat * 7)).block, (qK.add ((qf).toNat * 7)).off + 6, none⟩ = some (.slice Zm ((qa l0 qf).f6).length Zg) ∧ w'.cell? (qK.add ((a1).toNat * 7)) = some (.slice zr ((qa l0 a1).f0.f0).length zq) ∧ w'.cell? ⟨(qK.add ((a1).toNat * 7)).block, (qK.add ((a1).toNat * 7)).off + 1, none⟩ = some (.int .i64 ((qa l0 a1).f1)) ∧ w'.cell? ⟨(qK.add ((a1).toNat * 7)).block, (qK.add ((a1).toNat * 7)).off + 2, none⟩ = some (.int .i64 ((qa l0 a1).f2)) ∧ w'.cell? ⟨(qK.add ((a1).toNat * 7)).block, (qK.add ((a1).toNat * 7)).off + 3, none⟩ = some (.int .i64 ((qa l0 a1).f3)) ∧ w'.cell? ⟨(qK.add ((a1).toNat * 7)).block, (qK.add ((a1).toNat * 7)).off + 4, none⟩ = some (.slice ya ((qa l0 a1).f4.f0).length zV) ∧ w'.cell? ⟨(qK.add ((a1).toNat * 7)).block, (qK.add ((a1).toNat * 7)).off + 5, none⟩ = some (.slice zZ ((qa l0 a1).f5).length zU) ∧ w'.cell? ⟨(qK.add ((a1).toNat * 7)).block, (qK.add ((a1).toNat * 7)).off + 6, none⟩ = some (.slice zY ((qa l0 a1).f6).length zT)) (ds := []) (bA 17 0) (by kernel_rfl) rfl rfl kq (fun hHeld => ?_); refine with_tabW qP.tab6 qP.bits6 (fun HT_ HW_ => ?_);generalize wr.drew = w14 at HB jD QB QA Qz zB Xc Xb Xa jC yj yi yh yg yf ye Ya qlt qls qlr qlq qlp qlo hHeld ⊢;refine pu HT_ 0 ?_;refine pu HT_ 1 ?_;refine pu HT_ 2 ?_;refine pu HT_ 3 ?_;refine pu HT_ 4 ?_;refine pu HT_ 5 ?_;refine pu HT_ 6 ?_;refine pu HT_ 7 ?_;refine pu HT_ 9 ?_;refine pu HT_ 10 ?_;refine pu HT_ 11 ?_;refine pu HT_ 12 ?_;refine ta HT_ HW_ hHeld 8 ?_;refine ta HT_ HW_ hHeld 13 ?_;refine on HT_ 14 (fun K hK => ?_);refine gsB Tryz.func34 (jf.calls k1 _ _ ((qa l0 qf).f0.f0) _ _ ((qa l0 a1).f0.f0) qE _ (cv jD HB) jU.out (cv zB HB) zN.out A13.out) (fun w15 hb => ?_);replace HB := b2 HB hb;refine hK.out _ _ kp (fun hHeld => ?_);(try clear hb)
       clear hK K;refine norm_ (a' := ?_) ?_ ?_; rotate_left; go_simp; rfl;refine pu HT_ 15 ?_;refine pu HT_ 16 ?_;refine done_ (done_of HT_.out (by kernel_rfl)) ?_;try go_wp2
       go_meet
       case rel => exact ⟨_, ((qE == 0)), o2, H', ⟨by have := HK1.out; first | omega | exact Nat.le_refl _⟩, ⟨bw HB.out⟩⟩
     case rest =>
      clear HC7;(try clear c3b0)
      (try clear c4b0)
      (try clear c5b0)
      (try clear c5b1)
      (try clear c6b0)
      (try clear jQ)
      (try clear Jo)
      (try clear Jn)
      (try clear Jm)
      (try clear Jl)
      (try clear Jk)
      (try clear Jj)
      (try clear QT)
      (try clear QS)
      obtain ⟨kq, qpp, rfl, HA, HJ6, HB⟩ := hcut;cases kq with
      | zero => exact absurd HA.out (by simp [qP.j1])
      | succ kj6 =>
       have H := HA.out;clear HA;simp only [qP.j1] at H;replace H := ib H;obtain ⟨rfl, H⟩ | ⟨rfl, H⟩ := H
       ·obtain rfl := Option.some.inj H;go_wp2;go_ret;exact ⟨o1, bw HB.out⟩
       ·have H' := ak H;clear H;go_wp2;go_roundg kj6;case measure => have := HK1.out; have := HJ6.out; omega
        case rel => exact ⟨(wrap64 (qf + 1)), o2, H', ⟨by have := HK1.out; have := HJ6.out; omega⟩, ⟨bw HB.out⟩⟩
    ·obtain rfl := Option.some.inj H;go_wp2;go_ret;exact ⟨o1, bw HB.out⟩
 ·obtain rfl := Option.some.inj H;obtain ⟨qK, JJ, JH, ZI, ZF, ZH, ZE, ZG, ZD, rfl, jQ, Jo, Jn, Jm, Jl, Jk, Jj, zt, jT, QE, yT, QD, yS, QC, yR, QT, QS⟩ := el0_T56 HR0 a1;go_enter Tryz.func33, Tryz.ntmps33;go_wp2;go_ret;exact ⟨o1, bw HB.out⟩

end Go.Proofs.YtagedmajlppohaaGreat.Q
