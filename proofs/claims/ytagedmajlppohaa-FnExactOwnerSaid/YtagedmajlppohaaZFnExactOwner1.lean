/- Printed by a program of this session (wip/myprint.py), which drives the kit's printer: functions and what their calls do. -/
import Derived.Test.YtagedmajlppohaaZFnExactOwner0
import Derived.Deep.RegionHeld3
import Derived.Deep.DrawnRows
namespace Go.Proofs.Ytagedmajlppohaa.Q
open Go.RowKit Go Go.Proofs.YtagedmajlppohaaW.PrintWords Go.Proofs.YtagedmajlppohaaW.PrintLast Go.Proofs.YtagedmajlppohaaW.PrintMore
attribute [local go_sem] max2_int min2_int max_two min_two max_three min_three max_four min_four   -- for this text's walks alone
set_option linter.unusedVariables false
set_option linter.unusedSimpArgs false

/-! ### spec_l3data: function 134 -/
mutual
def spec_l3data.j0 : Nat → List (List Int) → Int → Int → Int → List (List Int) → List Int → List Int → Option (Bool)
 | 0, _, _, _, _, _, _, _ => none
 | k + 1, x102000, x102001, x102002, x102003, x102004, x102005, x102006 => (spec_l3named.f x102001).bind fun t102 => (if t102 = true then ((spec_NameOk.f k x102004).bind fun t103 => (if t103 = true then (spec_l3data.j1 k x102000 x102001 x102002 x102003 x102004 x102005 x102006) else (some false))) else (if (x102004.length : Int) > 0 then (some false) else (spec_l3data.j1 k x102000 x102001 x102002 x102003 x102004 x102005 x102006)))
def spec_l3data.j1 : Nat → List (List Int) → Int → Int → Int → List (List Int) → List Int → List Int → Option (Bool)
 | 0, _, _, _, _, _, _, _ => none
 | k + 1, x102000, x102001, x102002, x102003, x102004, x102005, x102006 => (spec_l3texted.f x102001).bind fun t104 => (if t104 = true then (if (x102005.length : Int) > 40 then (some false) else (spec_l3data.j2 k x102000 x102001 x102002 x102003 x102004 x102005 x102006)) else (if (x102005.length : Int) > 0 then (some false) else (spec_l3data.j2 k x102000 x102001 x102002 x102003 x102004 x102005 x102006)))
def spec_l3data.j2 : Nat → List (List Int) → Int → Int → Int → List (List Int) → List Int → List Int → Option (Bool)
 | 0, _, _, _, _, _, _, _ => none
 | k + 1, x102000, x102001, x102002, x102003, x102004, x102005, x102006 => if x102001 = 6 then (if (x102006.length : Int) = 2 then (if 0 < (x102006.length : Int) then (if (rd x102006 0) < 0 then (some false) else (if (rd x102006 0) ≥ 4294967296 then (some false) else (if 1 < (x102006.length : Int) then (if (rd x102006 1) ≥ 0 then (some (decide ((rd x102006 1) ≤ 100000))) else (some false)) else (none)))) else (none)) else (some false)) else (some ((x102006.length : Int) == 0))
end
def spec_l3data.f (k : Nat) (l0_0 : List (List Int)) (a0_1 : Int) (a0_2 : Int) (a0_3 : Int) (l0_4 : List (List Int)) (l0_5 : List Int) (l0_6 : List Int) : Option (Bool) := if a0_1 = 1 then (if a0_3 < 0 then (some false) else (if a0_3 ≥ 4294967296 then (some false) else (spec_l3data.j0 k l0_0 a0_1 a0_2 a0_3 l0_4 l0_5 l0_6))) else (if a0_3 = 0 then (spec_l3data.j0 k l0_0 a0_1 a0_2 a0_3 l0_4 l0_5 l0_6) else (some false))
theorem spec_l3data.mono_l : ∀ k, (∀ y0 y1 y2 y3 y4 y5 y6, LeO (spec_l3data.j0 k y0 y1 y2 y3 y4 y5 y6) (spec_l3data.j0 (k + 1) y0 y1 y2 y3 y4 y5 y6)) ∧ (∀ y0 y1 y2 y3 y4 y5 y6, LeO (spec_l3data.j1 k y0 y1 y2 y3 y4 y5 y6) (spec_l3data.j1 (k + 1) y0 y1 y2 y3 y4 y5 y6)) ∧ (∀ y0 y1 y2 y3 y4 y5 y6, LeO (spec_l3data.j2 k y0 y1 y2 y3 y4 y5 y6) (spec_l3data.j2 (k + 1) y0 y1 y2 y3 y4 y5 y6))
 | 0 => ⟨fun _ _ _ _ _ _ _ r h => by simp [spec_l3data.j0] at h, fun _ _ _ _ _ _ _ r h => by simp [spec_l3data.j1] at h, fun _ _ _ _ _ _ _ r h => by simp [spec_l3data.j2] at h⟩
 | k + 1 => by
  obtain ⟨ih0, ih1, ih2⟩ := spec_l3data.mono_l k
  refine ⟨?_, ?_, ?_⟩
  ·intro y0 y1 y2 y3 y4 y5 y6
   unfold spec_l3data.j0
   repeat' first
   | (with_reducible exact ih0 _ _ _ _ _ _ _)
   | (with_reducible exact ih1 _ _ _ _ _ _ _)
   | (with_reducible exact ih2 _ _ _ _ _ _ _)
   | (with_reducible exact spec_NameOk.mono _ _)
   | (with_reducible exact LeO.refl _)
   | (with_reducible exact LeO.none _)
   | (with_reducible refine LeO.ite ?_ ?_)
   | (with_reducible refine LeO.bind ?_ (fun _ => ?_))
   | exact ih0 _ _ _ _ _ _ _
   | exact ih1 _ _ _ _ _ _ _
   | exact ih2 _ _ _ _ _ _ _
   | exact spec_NameOk.mono _ _
   | exact LeO.none _
   | refine LeO.ite ?_ ?_
   | refine LeO.bind ?_ (fun _ => ?_)
  ·intro y0 y1 y2 y3 y4 y5 y6
   unfold spec_l3data.j1
   repeat' first
   | (with_reducible exact ih0 _ _ _ _ _ _ _)
   | (with_reducible exact ih1 _ _ _ _ _ _ _)
   | (with_reducible exact ih2 _ _ _ _ _ _ _)
   | (with_reducible exact spec_NameOk.mono _ _)
   | (with_reducible exact LeO.refl _)
   | (with_reducible exact LeO.none _)
   | (with_reducible refine LeO.ite ?_ ?_)
   | (with_reducible refine LeO.bind ?_ (fun _ => ?_))
   | exact ih0 _ _ _ _ _ _ _
   | exact ih1 _ _ _ _ _ _ _
   | exact ih2 _ _ _ _ _ _ _
   | exact spec_NameOk.mono _ _
   | exact LeO.none _
   | refine LeO.ite ?_ ?_
   | refine LeO.bind ?_ (fun _ => ?_)
  ·intro y0 y1 y2 y3 y4 y5 y6
   unfold spec_l3data.j2
   repeat' first
   | (with_reducible exact ih0 _ _ _ _ _ _ _)
   | (with_reducible exact ih1 _ _ _ _ _ _ _)
   | (with_reducible exact ih2 _ _ _ _ _ _ _)
   | (with_reducible exact spec_NameOk.mono _ _)
   | (with_reducible exact LeO.refl _)
   | (with_reducible exact LeO.none _)
   | (with_reducible refine LeO.ite ?_ ?_)
   | (with_reducible refine LeO.bind ?_ (fun _ => ?_))
   | exact ih0 _ _ _ _ _ _ _
   | exact ih1 _ _ _ _ _ _ _
   | exact ih2 _ _ _ _ _ _ _
   | exact spec_NameOk.mono _ _
   | exact LeO.none _
   | refine LeO.ite ?_ ?_
   | refine LeO.bind ?_ (fun _ => ?_)
theorem spec_l3data.mono : ∀ a0 a1 a2 a3 a4 a5 a6 k, LeO (spec_l3data.f k a0 a1 a2 a3 a4 a5 a6) (spec_l3data.f (k + 1) a0 a1 a2 a3 a4 a5 a6) := by
 intro a0 a1 a2 a3 a4 a5 a6 k
 obtain ⟨ih0, ih1, ih2⟩ := spec_l3data.mono_l k
 unfold spec_l3data.f
 repeat' first
   | (with_reducible exact ih0 _ _ _ _ _ _ _)
   | (with_reducible exact ih1 _ _ _ _ _ _ _)
   | (with_reducible exact ih2 _ _ _ _ _ _ _)
   | (with_reducible exact spec_NameOk.mono _ _)
   | (with_reducible exact LeO.refl _)
   | (with_reducible exact LeO.none _)
   | (with_reducible refine LeO.ite ?_ ?_)
   | (with_reducible refine LeO.bind ?_ (fun _ => ?_))
   | exact ih0 _ _ _ _ _ _ _
   | exact ih1 _ _ _ _ _ _ _
   | exact ih2 _ _ _ _ _ _ _
   | exact spec_NameOk.mono _ _
   | exact LeO.none _
   | refine LeO.ite ?_ ?_
   | refine LeO.bind ?_ (fun _ => ?_)
set_option maxHeartbeats 8000000 in
set_option maxRecDepth 100000 in
theorem spec_l3data.calls (k : Nat) (A0_0 : Option Addr) (c0_0 : Nat) (l0_0 : List (List Int)) (a0_1 : Int) (a0_2 : Int) (a0_3 : Int) (A0_4 : Option Addr) (c0_4 : Nat) (l0_4 : List (List Int)) (A0_5 : Option Addr) (c0_5 : Nat) (l0_5 : List Int) (A0_6 : Option Addr) (c0_6 : Nat) (l0_6 : List Int) (r : Bool) (w : World) (hr0_0 : Kd.C (Kd.slice 5 (Kd.int .u8)) w A0_0 l0_0.length l0_0) (hc0_0 : l0_0.length ≤ c0_0) (hr0_4 : Kd.C (Kd.slice 5 (Kd.int .u8)) w A0_4 l0_4.length l0_4) (hc0_4 : l0_4.length ≤ c0_4) (hr0_5 : Kd.C (Kd.int .u8) w A0_5 l0_5.length l0_5) (hc0_5 : l0_5.length ≤ c0_5) (hr0_6 : Kd.C (Kd.int .i64) w A0_6 l0_6.length l0_6) (hc0_6 : l0_6.length ≤ c0_6) (h : spec_l3data.f k l0_0 a0_1 a0_2 a0_3 l0_4 l0_5 l0_6 = some r) :
  Calls Try.prog 134 #[.agg #[.slice A0_0 l0_0.length c0_0, .int .i64 a0_1, .int .i64 a0_2, .int .i64 a0_3, .slice A0_4 l0_4.length c0_4, .slice A0_5 l0_5.length c0_5, .slice A0_6 l0_6.length c0_6]] w fun e w' => e = .returned (.bool r) ∧ Below w.heap.size w w' := by
 have hu33 := Try.underlying33
 have hu31 := Try.underlying31
 have HR0_0 := ak hr0_0
 have HC0_0 := ak hc0_0
 clear hr0_0 hc0_0
 have HR0_4 := ak hr0_4
 have HC0_4 := ak hc0_4
 clear hr0_4 hc0_4
 have HR0_5 := ak hr0_5
 have HC0_5 := ak hc0_5
 clear hr0_5 hc0_5
 have HR0_6 := ak hr0_6
 have HC0_6 := ak hc0_6
 clear hr0_6 hc0_6
 have HB := ak (Below.refl w.heap.size w)
 have H : (if a0_1 = 1 then (if a0_3 < 0 then (some false) else (if a0_3 ≥ 4294967296 then (some false) else (spec_l3data.j0 k l0_0 a0_1 a0_2 a0_3 l0_4 l0_5 l0_6))) else (if a0_3 = 0 then (spec_l3data.j0 k l0_0 a0_1 a0_2 a0_3 l0_4 l0_5 l0_6) else (some false))) = some r := h
 clear h
 have HC2 := ak H
 clear H
 go_enter Try.func134, Try.ntmps134
 go_upto_if 5 with (((with_reducible refine gate_dst (N := 1) rfl ?_);refine bxd (N := 1) rfl HB ?_;clear HB;intro gb101 w3 hg HB BK101 GE101 hb;have GW101 := GE101;clear hb hg;obtain ⟨hcz4_0, hcz4_1, hcz4_2, hcz4_3, hcz4_4, hcz4_5, hcz4_6, hfz4_0, hfz4_1, hfz4_2, hfz4_3, hfz4_4, hfz4_5, hfz4_6⟩ := cells7 BK101.out))
 (try simp only [Act.put, List.setIfInBounds_toArray, List.set_cons_zero, List.set_cons_succ])
 go_cut [] (fun wc => ∃ (kq : Nat), Aside0 (spec_l3data.j0 kq l0_0 a0_1 a0_2 a0_3 l0_4 l0_5 l0_6 = some r) ∧ Aside0 (kq ≤ k) ∧ Aside0 (wc.heap[gb101]? = some (.cells #[(.slice A0_0 l0_0.length c0_0), .int .i64 a0_1, .int .i64 a0_2, .int .i64 a0_3, (.slice A0_4 l0_4.length c0_4), (.slice A0_5 l0_5.length c0_5), (.slice A0_6 l0_6.length c0_6)] 33 (0, 0))) ∧ Aside0 (Below w.heap.size w wc))
 case first =>
  have H := HC2.out
  clear HC2
  replace H := ie H
  obtain ⟨c5b0, c5b1, H⟩ | ⟨c5b0, c5b1, H⟩ := H
  ·(first | rw [c5b0] | (simp only [i64_w, i32_w]; rw [c5b0]) | skip)
   replace H := ip H
   obtain ⟨c6b0, H⟩ | ⟨c6b0, H⟩ := H
   ·obtain rfl := Option.some.inj H
    obtain ⟨hcz7_0, hcz7_1, hcz7_2, hcz7_3, hcz7_4, hcz7_5, hcz7_6, hfz7_0, hfz7_1, hfz7_2, hfz7_3, hfz7_4, hfz7_5, hfz7_6⟩ := cells7 BK101.out
    go_wp2
    go_ret
    exact ⟨o1, bs⟩
   ·replace H := ih H
    obtain ⟨c8b0, H⟩ | ⟨c8b0, H⟩ := H
    ·obtain rfl := Option.some.inj H
     obtain ⟨hcz9_0, hcz9_1, hcz9_2, hcz9_3, hcz9_4, hcz9_5, hcz9_6, hfz9_0, hfz9_1, hfz9_2, hfz9_3, hfz9_4, hfz9_5, hfz9_6⟩ := cells7 BK101.out
     go_wp2
     go_ret
     exact ⟨o1, bs⟩
    ·have H' := ak H
     clear H
     obtain ⟨hcz10_0, hcz10_1, hcz10_2, hcz10_3, hcz10_4, hcz10_5, hcz10_6, hfz10_0, hfz10_1, hfz10_2, hfz10_3, hfz10_4, hfz10_5, hfz10_6⟩ := cells7 BK101.out
     go_wp2
     go_meet
     case rel => exact ⟨_, H', ⟨o3⟩, ⟨bk BK101.out⟩, ⟨bs⟩⟩
  ·(first | rw [c5b0] | (simp only [i64_w, i32_w]; rw [c5b0]) | skip)
   replace H := ie H
   obtain ⟨c11b0, c11b1, H⟩ | ⟨c11b0, c11b1, H⟩ := H
   ·have H' := ak H
    clear H
    obtain ⟨hcz12_0, hcz12_1, hcz12_2, hcz12_3, hcz12_4, hcz12_5, hcz12_6, hfz12_0, hfz12_1, hfz12_2, hfz12_3, hfz12_4, hfz12_5, hfz12_6⟩ := cells7 BK101.out
    go_wp2
    go_meet
    case rel => exact ⟨_, H', ⟨o3⟩, ⟨bk BK101.out⟩, ⟨bs⟩⟩
   ·obtain rfl := Option.some.inj H
    obtain ⟨hcz13_0, hcz13_1, hcz13_2, hcz13_3, hcz13_4, hcz13_5, hcz13_6, hfz13_0, hfz13_1, hfz13_2, hfz13_3, hfz13_4, hfz13_5, hfz13_6⟩ := cells7 BK101.out
    go_wp2
    go_ret
    exact ⟨o1, bs⟩
 case rest =>
  clear HC2
  (try clear hcz4_0)
  (try clear hcz4_1)
  (try clear hcz4_2)
  (try clear hcz4_3)
  (try clear hcz4_4)
  (try clear hcz4_5)
  (try clear hcz4_6)
  (try clear hfz4_0)
  (try clear hfz4_1)
  (try clear hfz4_2)
  (try clear hfz4_3)
  (try clear hfz4_4)
  (try clear hfz4_5)
  (try clear hfz4_6)
  obtain ⟨kq, HA, HJ1, BK101, HB⟩ := hcut
  cases kq with
  | zero => exact absurd HA.out (by simp [spec_l3data.j0])
  | succ kj1 =>
   have H := HA.out
   clear HA
   simp only [spec_l3data.j0] at H
   replace H := bnd H
   obtain ⟨t102, A14, H⟩ := H
   have HC15 := ak H
   clear H
   obtain ⟨hcz16_0, hcz16_1, hcz16_2, hcz16_3, hcz16_4, hcz16_5, hcz16_6, hfz16_0, hfz16_1, hfz16_2, hfz16_3, hfz16_4, hfz16_5, hfz16_6⟩ := cells7 BK101.out
   go_upto_if 19 with (((with_reducible refine gate_callee (f := 159) rfl ?_);refine glD 19 rfl rfl Try.func159 (spec_l3named.calls a0_1 t102 _ A14.out) (fun nd => ?_)))
   (try simp only [Act.put, List.setIfInBounds_toArray, List.set_cons_zero, List.set_cons_succ])
   go_cut [] (fun wc => ∃ (kq : Nat), Aside0 (spec_l3data.j1 kq l0_0 a0_1 a0_2 a0_3 l0_4 l0_5 l0_6 = some r) ∧ Aside0 (kq ≤ kj1) ∧ Aside0 (wc.heap[gb101]? = some (.cells #[(.slice A0_0 l0_0.length c0_0), .int .i64 a0_1, .int .i64 a0_2, .int .i64 a0_3, (.slice A0_4 l0_4.length c0_4), (.slice A0_5 l0_5.length c0_5), (.slice A0_6 l0_6.length c0_6)] 33 (0, 0))) ∧ Aside0 (Below w.heap.size w wc))
   case first =>
    have H := HC15.out
    clear HC15
    replace H := ib H
    obtain ⟨rfl, H⟩ | ⟨rfl, H⟩ := H
    ·replace H := bnd H
     obtain ⟨t103, A18, H⟩ := H
     replace H := ib H
     obtain ⟨rfl, H⟩ | ⟨rfl, H⟩ := H
     ·have H' := ak H
      clear H
      obtain ⟨hcz20_0, hcz20_1, hcz20_2, hcz20_3, hcz20_4, hcz20_5, hcz20_6, hfz20_0, hfz20_1, hfz20_2, hfz20_3, hfz20_4, hfz20_5, hfz20_6⟩ := cells7 BK101.out
      go_wp2_with (((with_reducible refine gate_callee (f := 76) rfl ?_);refine glB 22 rfl rfl Try.func76 (spec_NameOk.calls kj1 _ _ l0_4 true _ (cv HR0_4 HB) HC0_4.out A18.out) (fun w21 hb => ?_);replace BK101 := b1 BK101 hb;replace HB := b2s bs hb;(try clear hb)))
      go_meet
      case rel => exact ⟨_, H', ⟨by have := HJ1.out; first | omega | exact Nat.le_refl _⟩, ⟨bk BK101.out⟩, ⟨bs⟩⟩
     ·obtain rfl := Option.some.inj H
      obtain ⟨hcz22_0, hcz22_1, hcz22_2, hcz22_3, hcz22_4, hcz22_5, hcz22_6, hfz22_0, hfz22_1, hfz22_2, hfz22_3, hfz22_4, hfz22_5, hfz22_6⟩ := cells7 BK101.out
      go_wp2_with (((with_reducible refine gate_callee (f := 76) rfl ?_);refine glB 22 rfl rfl Try.func76 (spec_NameOk.calls kj1 _ _ l0_4 false _ (cv HR0_4 HB) HC0_4.out A18.out) (fun w23 hb => ?_);replace BK101 := b1 BK101 hb;replace HB := b2s bs hb;(try clear hb)))
      go_ret
      exact ⟨o1, bs⟩
    ·replace H := ig H
     obtain ⟨c24b0, H⟩ | ⟨c24b0, H⟩ := H
     ·have c24b1 : decide (0 < l0_4.length) = true := decide_eq_true (by have := of_decide_eq_true c24b0; omega)
      (first | rw [c24b0] | (simp only [i64_w, i32_w]; rw [c24b0]) | skip)
      obtain rfl := Option.some.inj H
      obtain ⟨hcz25_0, hcz25_1, hcz25_2, hcz25_3, hcz25_4, hcz25_5, hcz25_6, hfz25_0, hfz25_1, hfz25_2, hfz25_3, hfz25_4, hfz25_5, hfz25_6⟩ := cells7 BK101.out
      go_wp2
      go_ret
      exact ⟨o1, bs⟩
     ·have c24b1 : decide (0 < l0_4.length) = false := decide_eq_false (by have := of_decide_eq_false c24b0; omega)
      (first | rw [c24b0] | (simp only [i64_w, i32_w]; rw [c24b0]) | skip)
      have H' := ak H
      clear H
      obtain ⟨hcz26_0, hcz26_1, hcz26_2, hcz26_3, hcz26_4, hcz26_5, hcz26_6, hfz26_0, hfz26_1, hfz26_2, hfz26_3, hfz26_4, hfz26_5, hfz26_6⟩ := cells7 BK101.out
      go_wp2
      go_meet
      case rel => exact ⟨_, H', ⟨by have := HJ1.out; first | omega | exact Nat.le_refl _⟩, ⟨bk BK101.out⟩, ⟨bs⟩⟩
   case rest =>
    clear HC15
    (try clear hcz16_0)
    (try clear hcz16_1)
    (try clear hcz16_2)
    (try clear hcz16_3)
    (try clear hcz16_4)
    (try clear hcz16_5)
    (try clear hcz16_6)
    (try clear hcz4_0)
    (try clear hcz4_1)
    (try clear hcz4_2)
    (try clear hcz4_3)
    (try clear hcz4_4)
    (try clear hcz4_5)
    (try clear hcz4_6)
    (try clear hfz16_0)
    (try clear hfz16_1)
    (try clear hfz16_2)
    (try clear hfz16_3)
    (try clear hfz16_4)
    (try clear hfz16_5)
    (try clear hfz16_6)
    (try clear hfz4_0)
    (try clear hfz4_1)
    (try clear hfz4_2)
    (try clear hfz4_3)
    (try clear hfz4_4)
    (try clear hfz4_5)
    (try clear hfz4_6)
    obtain ⟨kq, HA, HJ14, BK101, HB⟩ := hcut
    cases kq with
    | zero => exact absurd HA.out (by simp [spec_l3data.j1])
    | succ kj14 =>
     have H := HA.out
     clear HA
     simp only [spec_l3data.j1] at H
     replace H := bnd H
     obtain ⟨t104, A27, H⟩ := H
     have HC28 := ak H
     clear H
     obtain ⟨hcz29_0, hcz29_1, hcz29_2, hcz29_3, hcz29_4, hcz29_5, hcz29_6, hfz29_0, hfz29_1, hfz29_2, hfz29_3, hfz29_4, hfz29_5, hfz29_6⟩ := cells7 BK101.out
     go_upto_if 31 with (((with_reducible refine gate_callee (f := 205) rfl ?_);refine glD 31 rfl rfl Try.func205 (spec_l3texted.calls a0_1 t104 _ A27.out) (fun nd => ?_)))
     (try simp only [Act.put, List.setIfInBounds_toArray, List.set_cons_zero, List.set_cons_succ])
     go_cut [] (fun wc => ∃ (kq : Nat), Aside0 (spec_l3data.j2 kq l0_0 a0_1 a0_2 a0_3 l0_4 l0_5 l0_6 = some r) ∧ Aside0 (kq ≤ kj14) ∧ Aside0 (wc.heap[gb101]? = some (.cells #[(.slice A0_0 l0_0.length c0_0), .int .i64 a0_1, .int .i64 a0_2, .int .i64 a0_3, (.slice A0_4 l0_4.length c0_4), (.slice A0_5 l0_5.length c0_5), (.slice A0_6 l0_6.length c0_6)] 33 (0, 0))) ∧ Aside0 (Below w.heap.size w wc))
     case first =>
      have H := HC28.out
      clear HC28
      replace H := ib H
      obtain ⟨rfl, H⟩ | ⟨rfl, H⟩ := H
      ·replace H := ig H
       obtain ⟨c31b0, H⟩ | ⟨c31b0, H⟩ := H
       ·have c31b1 : decide (40 < l0_5.length) = true := decide_eq_true (by have := of_decide_eq_true c31b0; omega)
        (first | rw [c31b0] | (simp only [i64_w, i32_w]; rw [c31b0]) | skip)
        obtain rfl := Option.some.inj H
        obtain ⟨hcz32_0, hcz32_1, hcz32_2, hcz32_3, hcz32_4, hcz32_5, hcz32_6, hfz32_0, hfz32_1, hfz32_2, hfz32_3, hfz32_4, hfz32_5, hfz32_6⟩ := cells7 BK101.out
        go_wp2
        go_ret
        exact ⟨o1, bs⟩
       ·have c31b1 : decide (40 < l0_5.length) = false := decide_eq_false (by have := of_decide_eq_false c31b0; omega)
        (first | rw [c31b0] | (simp only [i64_w, i32_w]; rw [c31b0]) | skip)
        have H' := ak H
        clear H
        obtain ⟨hcz33_0, hcz33_1, hcz33_2, hcz33_3, hcz33_4, hcz33_5, hcz33_6, hfz33_0, hfz33_1, hfz33_2, hfz33_3, hfz33_4, hfz33_5, hfz33_6⟩ := cells7 BK101.out
        go_wp2
        go_meet
        case rel => exact ⟨_, H', ⟨by have := HJ1.out; have := HJ14.out; first | omega | exact Nat.le_refl _⟩, ⟨bk BK101.out⟩, ⟨bs⟩⟩
      ·replace H := ig H
       obtain ⟨c34b0, H⟩ | ⟨c34b0, H⟩ := H
       ·have c34b1 : decide (0 < l0_5.length) = true := decide_eq_true (by have := of_decide_eq_true c34b0; omega)
        obtain rfl := Option.some.inj H
        obtain ⟨hcz35_0, hcz35_1, hcz35_2, hcz35_3, hcz35_4, hcz35_5, hcz35_6, hfz35_0, hfz35_1, hfz35_2, hfz35_3, hfz35_4, hfz35_5, hfz35_6⟩ := cells7 BK101.out
        go_wp2
        go_ret
        exact ⟨o1, bs⟩
       ·have c34b1 : decide (0 < l0_5.length) = false := decide_eq_false (by have := of_decide_eq_false c34b0; omega)
        have H' := ak H
        clear H
        obtain ⟨hcz36_0, hcz36_1, hcz36_2, hcz36_3, hcz36_4, hcz36_5, hcz36_6, hfz36_0, hfz36_1, hfz36_2, hfz36_3, hfz36_4, hfz36_5, hfz36_6⟩ := cells7 BK101.out
        go_wp2
        go_meet
        case rel => exact ⟨_, H', ⟨by have := HJ1.out; have := HJ14.out; first | omega | exact Nat.le_refl _⟩, ⟨bk BK101.out⟩, ⟨bs⟩⟩
     case rest =>
      clear HC28
      (try clear hcz16_0)
      (try clear hcz16_1)
      (try clear hcz16_2)
      (try clear hcz16_3)
      (try clear hcz16_4)
      (try clear hcz16_5)
      (try clear hcz16_6)
      (try clear hcz29_0)
      (try clear hcz29_1)
      (try clear hcz29_2)
      (try clear hcz29_3)
      (try clear hcz29_4)
      (try clear hcz29_5)
      (try clear hcz29_6)
      (try clear hcz4_0)
      (try clear hcz4_1)
      (try clear hcz4_2)
      (try clear hcz4_3)
      (try clear hcz4_4)
      (try clear hcz4_5)
      (try clear hcz4_6)
      (try clear hfz16_0)
      (try clear hfz16_1)
      (try clear hfz16_2)
      (try clear hfz16_3)
      (try clear hfz16_4)
      (try clear hfz16_5)
      (try clear hfz16_6)
      (try clear hfz29_0)
      (try clear hfz29_1)
      (try clear hfz29_2)
      (try clear hfz29_3)
      (try clear hfz29_4)
      (try clear hfz29_5)
      (try clear hfz29_6)
      (try clear hfz4_0)
      (try clear hfz4_1)
      (try clear hfz4_2)
      (try clear hfz4_3)
      (try clear hfz4_4)
      (try clear hfz4_5)
      (try clear hfz4_6)
      obtain ⟨kq, HA, HJ27, BK101, HB⟩ := hcut
      cases kq with
      | zero => exact absurd HA.out (by simp [spec_l3data.j2])
      | succ kj27 =>
       have H := HA.out
       clear HA
       simp only [spec_l3data.j2] at H
       replace H := ie H
       obtain ⟨c37b0, c37b1, H⟩ | ⟨c37b0, c37b1, H⟩ := H
       ·replace H := ie H
        obtain ⟨c38b0, c38b1, H⟩ | ⟨c38b0, c38b1, H⟩ := H
        ·replace H := ipN H
         obtain ⟨c39b0, H⟩ := H
         have c39b1 : decide (0 < l0_6.length) = true := decide_eq_true (by have := of_decide_eq_true c39b0; omega)
         replace H := ip H
         obtain ⟨c40b0, H⟩ | ⟨c40b0, H⟩ := H
         ·obtain rfl := Option.some.inj H
          obtain ⟨hcz41_0, hcz41_1, hcz41_2, hcz41_3, hcz41_4, hcz41_5, hcz41_6, hfz41_0, hfz41_1, hfz41_2, hfz41_3, hfz41_4, hfz41_5, hfz41_6⟩ := cells7 BK101.out
          obtain ⟨ad105, rfl, hx105_0, p105, q105⟩ := el0_int HR0_6 0 (h0 := by decide)
          replace p105 := of_eq_true p105
          replace q105 := of_eq_true q105
          have qi105 : (0 < l0_6.length) = True := eq_true (by omega)
          (try rw [show ((0 : Int)).toNat = 0 from rfl] at hx105_0)
          (try rw [Addr.add_zero'] at hx105_0)
          replace hx105_0 := pw_cell_below HB.out hx105_0
          replace p105 := eq_true p105
          replace q105 := eq_true q105
          go_wp2
          go_ret
          exact ⟨o1, bs⟩
         ·replace H := ih H
          obtain ⟨c42b0, H⟩ | ⟨c42b0, H⟩ := H
          ·obtain rfl := Option.some.inj H
           obtain ⟨hcz43_0, hcz43_1, hcz43_2, hcz43_3, hcz43_4, hcz43_5, hcz43_6, hfz43_0, hfz43_1, hfz43_2, hfz43_3, hfz43_4, hfz43_5, hfz43_6⟩ := cells7 BK101.out
           obtain ⟨ad105, rfl, hx105_0, p105, q105⟩ := el0_int HR0_6 0 (h0 := by decide)
           replace p105 := of_eq_true p105
           replace q105 := of_eq_true q105
           have qi105 : (0 < l0_6.length) = True := eq_true (by omega)
           (try rw [show ((0 : Int)).toNat = 0 from rfl] at hx105_0)
           (try rw [Addr.add_zero'] at hx105_0)
           replace hx105_0 := pw_cell_below HB.out hx105_0
           replace p105 := eq_true p105
           replace q105 := eq_true q105
           obtain ⟨hx106_0, p106, q106⟩ := el20_int HR0_6 0 (h0 := by decide)
           replace p106 := of_eq_true p106
           replace q106 := of_eq_true q106
           have qi106 : (0 < l0_6.length) = True := eq_true (by omega)
           (try rw [show ((0 : Int)).toNat = 0 from rfl] at hx106_0)
           (try rw [Addr.add_zero'] at hx106_0)
           replace hx106_0 := pw_cell_below HB.out hx106_0
           replace p106 := eq_true p106
           replace q106 := eq_true q106
           go_wp2
           go_ret
           exact ⟨o1, bs⟩
          ·replace H := ipN H
           obtain ⟨c44b0, H⟩ := H
           have c44b1 : decide (1 < l0_6.length) = true := decide_eq_true (by have := of_decide_eq_true c44b0; omega)
           replace H := ih H
           obtain ⟨c45b0, H⟩ | ⟨c45b0, H⟩ := H
           ·obtain rfl := Option.some.inj H
            obtain ⟨hcz46_0, hcz46_1, hcz46_2, hcz46_3, hcz46_4, hcz46_5, hcz46_6, hfz46_0, hfz46_1, hfz46_2, hfz46_3, hfz46_4, hfz46_5, hfz46_6⟩ := cells7 BK101.out
            obtain ⟨ad105, rfl, hx105_0, p105, q105⟩ := el0_int HR0_6 0 (h0 := by decide)
            replace p105 := of_eq_true p105
            replace q105 := of_eq_true q105
            have qi105 : (0 < l0_6.length) = True := eq_true (by omega)
            (try rw [show ((0 : Int)).toNat = 0 from rfl] at hx105_0)
            (try rw [Addr.add_zero'] at hx105_0)
            replace hx105_0 := pw_cell_below HB.out hx105_0
            replace p105 := eq_true p105
            replace q105 := eq_true q105
            obtain ⟨hx106_0, p106, q106⟩ := el20_int HR0_6 0 (h0 := by decide)
            replace p106 := of_eq_true p106
            replace q106 := of_eq_true q106
            have qi106 : (0 < l0_6.length) = True := eq_true (by omega)
            (try rw [show ((0 : Int)).toNat = 0 from rfl] at hx106_0)
            (try rw [Addr.add_zero'] at hx106_0)
            replace hx106_0 := pw_cell_below HB.out hx106_0
            replace p106 := eq_true p106
            replace q106 := eq_true q106
            obtain ⟨hx107_0, p107, q107⟩ := el20_int HR0_6 1 (h0 := by decide)
            replace p107 := of_eq_true p107
            replace q107 := of_eq_true q107
            (try simp only [show (1 : Int).toNat = 1 from rfl, Nat.reduceMul, Nat.reduceEqDiff, Go.Addr.add, ↓reduceIte] at hx107_0)
            have qi107 : (1 < l0_6.length) = True := eq_true (by omega)
            (try rw [show ((1 : Int)).toNat = 1 from rfl] at hx107_0)
            replace hx107_0 := pw_cell_below HB.out hx107_0
            replace p107 := eq_true p107
            replace q107 := eq_true q107
            obtain ⟨hx108_0, p108, q108⟩ := el20_int HR0_6 1 (h0 := by decide)
            replace p108 := of_eq_true p108
            replace q108 := of_eq_true q108
            (try simp only [show (1 : Int).toNat = 1 from rfl, Nat.reduceMul, Nat.reduceEqDiff, Go.Addr.add, ↓reduceIte] at hx108_0)
            have qi108 : (1 < l0_6.length) = True := eq_true (by omega)
            (try rw [show ((1 : Int)).toNat = 1 from rfl] at hx108_0)
            replace hx108_0 := pw_cell_below HB.out hx108_0
            replace p108 := eq_true p108
            replace q108 := eq_true q108
            go_wp2
            go_ret
            exact ⟨o1, bs⟩
           ·obtain rfl := Option.some.inj H
            obtain ⟨hcz47_0, hcz47_1, hcz47_2, hcz47_3, hcz47_4, hcz47_5, hcz47_6, hfz47_0, hfz47_1, hfz47_2, hfz47_3, hfz47_4, hfz47_5, hfz47_6⟩ := cells7 BK101.out
            obtain ⟨ad105, rfl, hx105_0, p105, q105⟩ := el0_int HR0_6 0 (h0 := by decide)
            replace p105 := of_eq_true p105
            replace q105 := of_eq_true q105
            have qi105 : (0 < l0_6.length) = True := eq_true (by omega)
            (try rw [show ((0 : Int)).toNat = 0 from rfl] at hx105_0)
            (try rw [Addr.add_zero'] at hx105_0)
            replace hx105_0 := pw_cell_below HB.out hx105_0
            replace p105 := eq_true p105
            replace q105 := eq_true q105
            obtain ⟨hx106_0, p106, q106⟩ := el20_int HR0_6 0 (h0 := by decide)
            replace p106 := of_eq_true p106
            replace q106 := of_eq_true q106
            have qi106 : (0 < l0_6.length) = True := eq_true (by omega)
            (try rw [show ((0 : Int)).toNat = 0 from rfl] at hx106_0)
            (try rw [Addr.add_zero'] at hx106_0)
            replace hx106_0 := pw_cell_below HB.out hx106_0
            replace p106 := eq_true p106
            replace q106 := eq_true q106
            obtain ⟨hx107_0, p107, q107⟩ := el20_int HR0_6 1 (h0 := by decide)
            replace p107 := of_eq_true p107
            replace q107 := of_eq_true q107
            (try simp only [show (1 : Int).toNat = 1 from rfl, Nat.reduceMul, Nat.reduceEqDiff, Go.Addr.add, ↓reduceIte] at hx107_0)
            have qi107 : (1 < l0_6.length) = True := eq_true (by omega)
            (try rw [show ((1 : Int)).toNat = 1 from rfl] at hx107_0)
            replace hx107_0 := pw_cell_below HB.out hx107_0
            replace p107 := eq_true p107
            replace q107 := eq_true q107
            go_wp2
            go_ret
            exact ⟨o1, bs⟩
        ·obtain rfl := Option.some.inj H
         obtain ⟨hcz48_0, hcz48_1, hcz48_2, hcz48_3, hcz48_4, hcz48_5, hcz48_6, hfz48_0, hfz48_1, hfz48_2, hfz48_3, hfz48_4, hfz48_5, hfz48_6⟩ := cells7 BK101.out
         go_wp2
         go_ret
         exact ⟨o1, bs⟩
       ·obtain rfl := Option.some.inj H
        obtain ⟨hcz49_0, hcz49_1, hcz49_2, hcz49_3, hcz49_4, hcz49_5, hcz49_6, hfz49_0, hfz49_1, hfz49_2, hfz49_3, hfz49_4, hfz49_5, hfz49_6⟩ := cells7 BK101.out
        go_wp2
        go_ret
        exact ⟨o1, bs⟩

/-! ### spec_RrOk: function 60 -/
def spec_RrOk.f (k : Nat) (l0_0 : List (List Int)) (a0_1 : Int) (a0_2 : Int) (a0_3 : Int) (l0_4 : List (List Int)) (l0_5 : List Int) (l0_6 : List Int) : Option (Bool) := (spec_NameOk.f k l0_0).bind fun t102 => (if t102 = true then ((spec_TypeOk.f a0_1).bind fun t103 => (if t103 = true then (if a0_2 ≥ 0 then (if a0_2 ≤ 100000 then ((spec_l3data.f k l0_0 a0_1 a0_2 a0_3 l0_4 l0_5 l0_6).bind fun t104 => (some t104)) else (some false)) else (some false)) else (some false))) else (some false))
theorem spec_RrOk.mono : ∀ a0 a1 a2 a3 a4 a5 a6 k, LeO (spec_RrOk.f k a0 a1 a2 a3 a4 a5 a6) (spec_RrOk.f (k + 1) a0 a1 a2 a3 a4 a5 a6) := by
 intro a0 a1 a2 a3 a4 a5 a6 k
 unfold spec_RrOk.f
 repeat' first
   | (with_reducible exact spec_NameOk.mono _ _)
   | (with_reducible exact spec_l3data.mono _ _ _ _ _ _ _ _)
   | (with_reducible exact LeO.refl _)
   | (with_reducible exact LeO.none _)
   | (with_reducible refine LeO.ite ?_ ?_)
   | (with_reducible refine LeO.bind ?_ (fun _ => ?_))
   | exact spec_NameOk.mono _ _
   | exact spec_l3data.mono _ _ _ _ _ _ _ _
   | exact LeO.none _
   | refine LeO.ite ?_ ?_
   | refine LeO.bind ?_ (fun _ => ?_)
set_option maxHeartbeats 8000000 in
set_option maxRecDepth 100000 in
theorem spec_RrOk.calls (k : Nat) (A0_0 : Option Addr) (c0_0 : Nat) (l0_0 : List (List Int)) (a0_1 : Int) (a0_2 : Int) (a0_3 : Int) (A0_4 : Option Addr) (c0_4 : Nat) (l0_4 : List (List Int)) (A0_5 : Option Addr) (c0_5 : Nat) (l0_5 : List Int) (A0_6 : Option Addr) (c0_6 : Nat) (l0_6 : List Int) (r : Bool) (w : World) (hr0_0 : Kd.C (Kd.slice 5 (Kd.int .u8)) w A0_0 l0_0.length l0_0) (hc0_0 : l0_0.length ≤ c0_0) (hr0_4 : Kd.C (Kd.slice 5 (Kd.int .u8)) w A0_4 l0_4.length l0_4) (hc0_4 : l0_4.length ≤ c0_4) (hr0_5 : Kd.C (Kd.int .u8) w A0_5 l0_5.length l0_5) (hc0_5 : l0_5.length ≤ c0_5) (hr0_6 : Kd.C (Kd.int .i64) w A0_6 l0_6.length l0_6) (hc0_6 : l0_6.length ≤ c0_6) (h : spec_RrOk.f k l0_0 a0_1 a0_2 a0_3 l0_4 l0_5 l0_6 = some r) :
  Calls Try.prog 60 #[.agg #[.slice A0_0 l0_0.length c0_0, .int .i64 a0_1, .int .i64 a0_2, .int .i64 a0_3, .slice A0_4 l0_4.length c0_4, .slice A0_5 l0_5.length c0_5, .slice A0_6 l0_6.length c0_6]] w fun e w' => e = .returned (.bool r) ∧ Below w.heap.size w w' := by
 have hu33 := Try.underlying33
 have hu31 := Try.underlying31
 have HR0_0 := ak hr0_0
 have HC0_0 := ak hc0_0
 clear hr0_0 hc0_0
 have HR0_4 := ak hr0_4
 have HC0_4 := ak hc0_4
 clear hr0_4 hc0_4
 have HR0_5 := ak hr0_5
 have HC0_5 := ak hc0_5
 clear hr0_5 hc0_5
 have HR0_6 := ak hr0_6
 have HC0_6 := ak hc0_6
 clear hr0_6 hc0_6
 have HB := ak (Below.refl w.heap.size w)
 have H : ((spec_NameOk.f k l0_0).bind fun t102 => (if t102 = true then ((spec_TypeOk.f a0_1).bind fun t103 => (if t103 = true then (if a0_2 ≥ 0 then (if a0_2 ≤ 100000 then ((spec_l3data.f k l0_0 a0_1 a0_2 a0_3 l0_4 l0_5 l0_6).bind fun t104 => (some t104)) else (some false)) else (some false)) else (some false))) else (some false))) = some r := h
 clear h
 replace H := bnd H
 obtain ⟨t102, A2, H⟩ := H
 replace H := ib H
 obtain ⟨rfl, H⟩ | ⟨rfl, H⟩ := H
 ·replace H := bnd H
  obtain ⟨t103, A4, H⟩ := H
  replace H := ib H
  obtain ⟨rfl, H⟩ | ⟨rfl, H⟩ := H
  ·replace H := ih H
   obtain ⟨c6b0, H⟩ | ⟨c6b0, H⟩ := H
   ·replace H := ip H
    obtain ⟨c7b0, H⟩ | ⟨c7b0, H⟩ := H
    ·replace H := bnd H
     obtain ⟨t104, A8, H⟩ := H
     obtain rfl := Option.some.inj H
     go_enter Try.func60, Try.ntmps60
     go_wp2_with (first | ((with_reducible refine gate_dst (N := 1) rfl ?_);refine bxd (N := 1) rfl HB ?_;clear HB;intro gb101 w9 hg HB BK101 GE101 hb;have GW101 := GE101;clear hb hg;obtain ⟨hcz10_0, hcz10_1, hcz10_2, hcz10_3, hcz10_4, hcz10_5, hcz10_6, hfz10_0, hfz10_1, hfz10_2, hfz10_3, hfz10_4, hfz10_5, hfz10_6⟩ := cells7 BK101.out) | ((with_reducible refine gate_callee (f := 76) rfl ?_);refine glB 5 rfl rfl Try.func76 (spec_NameOk.calls k _ _ l0_0 true _ (cv HR0_0 HB) HC0_0.out A2.out) (fun w11 hb => ?_);replace BK101 := b1 BK101 hb;replace HB := b2s bs hb;(try clear hb);obtain ⟨hcz12_0, hcz12_1, hcz12_2, hcz12_3, hcz12_4, hcz12_5, hcz12_6, hfz12_0, hfz12_1, hfz12_2, hfz12_3, hfz12_4, hfz12_5, hfz12_6⟩ := cells7 BK101.out) | (go_at_call 80;(with_reducible refine (spec_TypeOk.calls a0_1 true _ A4.out).mono ?_);rintro e w' ⟨rfl, ⟨nd, rfl⟩⟩) | (go_at_call 134;(with_reducible refine (spec_l3data.calls k _ _ l0_0 a0_1 a0_2 a0_3 _ _ l0_4 _ _ l0_5 _ _ l0_6 t104 _ ?side1 HC0_0.out ?side3 HC0_4.out ?side5 HC0_5.out ?side7 HC0_6.out A8.out).mono ?_);(case side1 => repeat (first | exact (Kd.C_below HR0_0.out bs) | (with_reducible refine Kd.C_alloc ?_ _) | (with_reducible refine Kd.C_drewN ?_ _) | (with_reducible refine Kd.C_drew ?_)));(case side3 => repeat (first | exact (Kd.C_below HR0_4.out bs) | (with_reducible refine Kd.C_alloc ?_ _) | (with_reducible refine Kd.C_drewN ?_ _) | (with_reducible refine Kd.C_drew ?_)));(case side5 => repeat (first | exact (Kd.C_below HR0_5.out bs) | (with_reducible refine Kd.C_alloc ?_ _) | (with_reducible refine Kd.C_drewN ?_ _) | (with_reducible refine Kd.C_drew ?_)));(case side7 => repeat (first | exact (Kd.C_below HR0_6.out bs) | (with_reducible refine Kd.C_alloc ?_ _) | (with_reducible refine Kd.C_drewN ?_ _) | (with_reducible refine Kd.C_drew ?_)));rintro e w13 ⟨rfl, hb⟩;replace BK101 := b1 BK101 hb;replace HB := b2s bs hb;(try clear hb)))
     go_ret
     exact ⟨o1, bs⟩
    ·obtain rfl := Option.some.inj H
     go_enter Try.func60, Try.ntmps60
     go_wp2_with (first | ((with_reducible refine gate_dst (N := 1) rfl ?_);refine bxd (N := 1) rfl HB ?_;clear HB;intro gb101 w14 hg HB BK101 GE101 hb;have GW101 := GE101;clear hb hg;obtain ⟨hcz15_0, hcz15_1, hcz15_2, hcz15_3, hcz15_4, hcz15_5, hcz15_6, hfz15_0, hfz15_1, hfz15_2, hfz15_3, hfz15_4, hfz15_5, hfz15_6⟩ := cells7 BK101.out) | ((with_reducible refine gate_callee (f := 76) rfl ?_);refine glB 5 rfl rfl Try.func76 (spec_NameOk.calls k _ _ l0_0 true _ (cv HR0_0 HB) HC0_0.out A2.out) (fun w16 hb => ?_);replace BK101 := b1 BK101 hb;replace HB := b2s bs hb;(try clear hb);obtain ⟨hcz17_0, hcz17_1, hcz17_2, hcz17_3, hcz17_4, hcz17_5, hcz17_6, hfz17_0, hfz17_1, hfz17_2, hfz17_3, hfz17_4, hfz17_5, hfz17_6⟩ := cells7 BK101.out) | (go_at_call 80;(with_reducible refine (spec_TypeOk.calls a0_1 true _ A4.out).mono ?_);rintro e w' ⟨rfl, ⟨nd, rfl⟩⟩))
     go_ret
     exact ⟨o1, bs⟩
   ·obtain rfl := Option.some.inj H
    go_enter Try.func60, Try.ntmps60
    go_wp2_with (first | ((with_reducible refine gate_dst (N := 1) rfl ?_);refine bxd (N := 1) rfl HB ?_;clear HB;intro gb101 w18 hg HB BK101 GE101 hb;have GW101 := GE101;clear hb hg;obtain ⟨hcz19_0, hcz19_1, hcz19_2, hcz19_3, hcz19_4, hcz19_5, hcz19_6, hfz19_0, hfz19_1, hfz19_2, hfz19_3, hfz19_4, hfz19_5, hfz19_6⟩ := cells7 BK101.out) | ((with_reducible refine gate_callee (f := 76) rfl ?_);refine glB 5 rfl rfl Try.func76 (spec_NameOk.calls k _ _ l0_0 true _ (cv HR0_0 HB) HC0_0.out A2.out) (fun w20 hb => ?_);replace BK101 := b1 BK101 hb;replace HB := b2s bs hb;(try clear hb);obtain ⟨hcz21_0, hcz21_1, hcz21_2, hcz21_3, hcz21_4, hcz21_5, hcz21_6, hfz21_0, hfz21_1, hfz21_2, hfz21_3, hfz21_4, hfz21_5, hfz21_6⟩ := cells7 BK101.out) | (go_at_call 80;(with_reducible refine (spec_TypeOk.calls a0_1 true _ A4.out).mono ?_);rintro e w' ⟨rfl, ⟨nd, rfl⟩⟩))
    go_ret
    exact ⟨o1, bs⟩
  ·obtain rfl := Option.some.inj H
   go_enter Try.func60, Try.ntmps60
   go_wp2_with (first | ((with_reducible refine gate_dst (N := 1) rfl ?_);refine bxd (N := 1) rfl HB ?_;clear HB;intro gb101 w22 hg HB BK101 GE101 hb;have GW101 := GE101;clear hb hg;obtain ⟨hcz23_0, hcz23_1, hcz23_2, hcz23_3, hcz23_4, hcz23_5, hcz23_6, hfz23_0, hfz23_1, hfz23_2, hfz23_3, hfz23_4, hfz23_5, hfz23_6⟩ := cells7 BK101.out) | ((with_reducible refine gate_callee (f := 76) rfl ?_);refine glB 5 rfl rfl Try.func76 (spec_NameOk.calls k _ _ l0_0 true _ (cv HR0_0 HB) HC0_0.out A2.out) (fun w24 hb => ?_);replace BK101 := b1 BK101 hb;replace HB := b2s bs hb;(try clear hb);obtain ⟨hcz25_0, hcz25_1, hcz25_2, hcz25_3, hcz25_4, hcz25_5, hcz25_6, hfz25_0, hfz25_1, hfz25_2, hfz25_3, hfz25_4, hfz25_5, hfz25_6⟩ := cells7 BK101.out) | (go_at_call 80;(with_reducible refine (spec_TypeOk.calls a0_1 false _ A4.out).mono ?_);rintro e w' ⟨rfl, ⟨nd, rfl⟩⟩))
   go_ret
   exact ⟨o1, bs⟩
 ·obtain rfl := Option.some.inj H
  go_enter Try.func60, Try.ntmps60
  go_wp2_with (first | ((with_reducible refine gate_dst (N := 1) rfl ?_);refine bxd (N := 1) rfl HB ?_;clear HB;intro gb101 w26 hg HB BK101 GE101 hb;have GW101 := GE101;clear hb hg;obtain ⟨hcz27_0, hcz27_1, hcz27_2, hcz27_3, hcz27_4, hcz27_5, hcz27_6, hfz27_0, hfz27_1, hfz27_2, hfz27_3, hfz27_4, hfz27_5, hfz27_6⟩ := cells7 BK101.out) | ((with_reducible refine gate_callee (f := 76) rfl ?_);refine glB 5 rfl rfl Try.func76 (spec_NameOk.calls k _ _ l0_0 false _ (cv HR0_0 HB) HC0_0.out A2.out) (fun w28 hb => ?_);replace BK101 := b1 BK101 hb;replace HB := b2s bs hb;(try clear hb)))
  go_ret
  exact ⟨o1, bs⟩

/-! ### spec_l2bytes: function 136 -/

def spec_l2bytes.v (a b : List Int) : Int := if Op.bytesLess (strOfNums a).toList (strOfNums b).toList = true then -1 else if ((strOfNums a).toList == (strOfNums b).toList) = true then 0 else 1
def spec_l2bytes.f (l0 : List Int) (l1 : List Int) : Option Int := some (spec_l2bytes.v l0 l1)
set_option maxHeartbeats 8000000 in
set_option maxRecDepth 100000 in
theorem spec_l2bytes.calls (A0 : Option Addr) (c0 : Nat) (l0 : List Int) (A1 : Option Addr) (c1 : Nat) (l1 : List Int) (r : Int) (w : World) (hr0 : Kd.C (Kd.int .u8) w A0 l0.length l0) (hc0 : l0.length ≤ c0) (hr1 : Kd.C (Kd.int .u8) w A1 l1.length l1) (hc1 : l1.length ≤ c1) (h : spec_l2bytes.f l0 l1 = some r) :
  Calls Try.prog 136 #[.slice A0 l0.length c0, .slice A1 l1.length c1] w fun e w' => e = .returned (.int .i64 r) ∧ Drawn0 w w' := by
 have h0 := Kd.C_string (P := Try.prog) (A := A0) (c := c0) Try.underlying25 Try.underlying5 Try.underlying9 hr0
 have h1 := Kd.C_string (P := Try.prog) (A := A1) (c := c1) Try.underlying25 Try.underlying5 Try.underlying9 hr1
 have hr : spec_l2bytes.v l0 l1 = r := Option.some.inj h
 subst hr
 clear h hr0 hr1
 unfold spec_l2bytes.v
 by_cases c1 : Op.bytesLess (strOfNums l0).toList (strOfNums l1).toList = true
 ·rw [if_pos c1]
  go_enter Try.func136, Try.ntmps136
  go_wp2
  go_ret
  exact ⟨rfl, Drawn0.refl _⟩
 ·rw [if_neg c1]
  have c1' : Op.bytesLess (strOfNums l0).toList (strOfNums l1).toList = false := by simpa using c1
  clear c1
  by_cases c2 : ((strOfNums l0).toList == (strOfNums l1).toList) = true
  ·rw [if_pos c2]
   go_enter Try.func136, Try.ntmps136
   go_wp2
   go_ret
   exact ⟨rfl, Drawn0.refl _⟩
  ·rw [if_neg c2]
   have c2' : ((strOfNums l0).toList == (strOfNums l1).toList) = false := by simpa using c2
   clear c2
   go_enter Try.func136, Try.ntmps136
   go_wp2
   go_ret
   exact ⟨rfl, Drawn0.refl _⟩

/-! ### spec_l2cmp: function 98 -/
mutual
def spec_l2cmp.l0 : Nat → Int → List (List Int) → List (List Int) → Option (Int)
 | 0, _, _, _ => none
 | k + 1, x5, x102000, x103000 => if x5 ≤ (x102000.length : Int) then (spec_l2cmp.j1 k x5 (decide (x5 ≤ (x103000.length : Int))) x102000 x103000) else (spec_l2cmp.j1 k x5 false x102000 x103000)
def spec_l2cmp.j1 : Nat → Int → Bool → List (List Int) → List (List Int) → Option (Int)
 | 0, _, _, _, _ => none
 | k + 1, x5, x18, x102000, x103000 => if x18 = true then (if 0 ≤ (wrap64 ((x102000.length : Int) - x5)) then (if (wrap64 ((x102000.length : Int) - x5)) < (x102000.length : Int) then (if 0 ≤ (wrap64 ((x103000.length : Int) - x5)) then (if (wrap64 ((x103000.length : Int) - x5)) < (x103000.length : Int) then ((spec_l2bytes.f (rd_L10 x102000 (wrap64 ((x102000.length : Int) - x5))) (rd_L10 x103000 (wrap64 ((x103000.length : Int) - x5)))).bind fun t105 => (if t105 = 0 then (spec_l2cmp.l0 k (wrap64 (x5 + 1)) x102000 x103000) else (some t105))) else (none)) else (none)) else (none)) else (none)) else (if (x102000.length : Int) = (x103000.length : Int) then (some 0) else (if (x102000.length : Int) < (x103000.length : Int) then (some (-1)) else (some 1)))
end
def spec_l2cmp.f (k : Nat) (l0_0 : List (List Int)) (l1_0 : List (List Int)) : Option (Int) := spec_l2cmp.l0 k 1 l0_0 l1_0
theorem spec_l2cmp.mono_l : ∀ k, (∀ y0 y1 y2, LeO (spec_l2cmp.l0 k y0 y1 y2) (spec_l2cmp.l0 (k + 1) y0 y1 y2)) ∧ (∀ y0 y1 y2 y3, LeO (spec_l2cmp.j1 k y0 y1 y2 y3) (spec_l2cmp.j1 (k + 1) y0 y1 y2 y3))
 | 0 => ⟨fun _ _ _ r h => by simp [spec_l2cmp.l0] at h, fun _ _ _ _ r h => by simp [spec_l2cmp.j1] at h⟩
 | k + 1 => by
  obtain ⟨ih0, ih1⟩ := spec_l2cmp.mono_l k
  refine ⟨?_, ?_⟩
  ·intro y0 y1 y2
   unfold spec_l2cmp.l0
   repeat' first
   | (with_reducible exact ih0 _ _ _)
   | (with_reducible exact ih1 _ _ _ _)
   | (with_reducible exact LeO.refl _)
   | (with_reducible exact LeO.none _)
   | (with_reducible refine LeO.ite ?_ ?_)
   | (with_reducible refine LeO.bind ?_ (fun _ => ?_))
   | exact ih0 _ _ _
   | exact ih1 _ _ _ _
   | exact LeO.none _
   | refine LeO.ite ?_ ?_
   | refine LeO.bind ?_ (fun _ => ?_)
  ·intro y0 y1 y2 y3
   unfold spec_l2cmp.j1
   repeat' first
   | (with_reducible exact ih0 _ _ _)
   | (with_reducible exact ih1 _ _ _ _)
   | (with_reducible exact LeO.refl _)
   | (with_reducible exact LeO.none _)
   | (with_reducible refine LeO.ite ?_ ?_)
   | (with_reducible refine LeO.bind ?_ (fun _ => ?_))
   | exact ih0 _ _ _
   | exact ih1 _ _ _ _
   | exact LeO.none _
   | refine LeO.ite ?_ ?_
   | refine LeO.bind ?_ (fun _ => ?_)
theorem spec_l2cmp.mono : ∀ a0 a1 k, LeO (spec_l2cmp.f k a0 a1) (spec_l2cmp.f (k + 1) a0 a1) := by
 intro a0 a1 k
 obtain ⟨ih0, ih1⟩ := spec_l2cmp.mono_l k
 unfold spec_l2cmp.f
 repeat' first
   | (with_reducible exact ih0 _ _ _)
   | (with_reducible exact ih1 _ _ _ _)
   | (with_reducible exact LeO.refl _)
   | (with_reducible exact LeO.none _)
   | (with_reducible refine LeO.ite ?_ ?_)
   | (with_reducible refine LeO.bind ?_ (fun _ => ?_))
   | exact ih0 _ _ _
   | exact ih1 _ _ _ _
   | exact LeO.none _
   | refine LeO.ite ?_ ?_
   | refine LeO.bind ?_ (fun _ => ?_)
set_option maxHeartbeats 8000000 in
set_option maxRecDepth 100000 in
theorem spec_l2cmp.calls (k : Nat) (A0_0 : Option Addr) (c0_0 : Nat) (l0_0 : List (List Int)) (A1_0 : Option Addr) (c1_0 : Nat) (l1_0 : List (List Int)) (r : Int) (w : World) (hr0_0 : Kd.C (Kd.slice 5 (Kd.int .u8)) w A0_0 l0_0.length l0_0) (hc0_0 : l0_0.length ≤ c0_0) (hr1_0 : Kd.C (Kd.slice 5 (Kd.int .u8)) w A1_0 l1_0.length l1_0) (hc1_0 : l1_0.length ≤ c1_0) (h : spec_l2cmp.f k l0_0 l1_0 = some r) :
  Calls Try.prog 98 #[.agg #[.slice A0_0 l0_0.length c0_0], .agg #[.slice A1_0 l1_0.length c1_0]] w fun e w' => e = .returned (.int .i64 r) ∧ Below w.heap.size w w' := by
 have hu31 := Try.underlying31
 have HR0_0 := ak hr0_0
 have HC0_0 := ak hc0_0
 clear hr0_0 hc0_0
 have HR1_0 := ak hr1_0
 have HC1_0 := ak hc1_0
 clear hr1_0 hc1_0
 have HB := ak (Below.refl w.heap.size w)
 have H : (spec_l2cmp.l0 k 1 l0_0 l1_0) = some r := h
 clear h
 have H' := ak H
 clear H
 go_enter Try.func98, Try.ntmps98
 go_wp2_with (first | ((with_reducible refine gate_dst (N := 2) rfl ?_);(try (refine gate_guard (by rfl) ?_; dsimp only));refine bxd (N := 2) rfl HB ?_;clear HB;intro gb101 w3 hg HB BK101 GE101 hb;have GW101 := GE101;clear hb hg) | ((with_reducible refine gate_dst (N := 3) rfl ?_);(try (refine gate_guard (by rfl) ?_; dsimp only));refine bxe (N := 3) rfl ?_;intro gb102 hg w4 hbox hb;have BK102 := ak (hbox);have GW102 := b3s hg bs;have GE102 := GW102;replace HB := b2s bs hb;have NB101_102 := b4 hg BK101;have NB102_101 := b5 hg BK101;replace BK101 := b1 BK101 hb;clear hb hbox hg))
 repeat (go_quiet (first | ((with_reducible refine gate_dst (N := 2) rfl ?_);(try (refine gate_guard (by rfl) ?_; dsimp only));refine bxd (N := 2) rfl HB ?_;clear HB;intro gb101 w3 hg HB BK101 GE101 hb;have GW101 := GE101;clear hb hg) | ((with_reducible refine gate_dst (N := 3) rfl ?_);(try (refine gate_guard (by rfl) ?_; dsimp only));refine bxe (N := 3) rfl ?_;intro gb102 hg w4 hbox hb;have BK102 := ak (hbox);have GW102 := b3s hg bs;have GE102 := GW102;replace HB := b2s bs hb;have NB101_102 := b4 hg BK101;have NB102_101 := b5 hg BK101;replace BK101 := b1 BK101 hb;clear hb hbox hg)); try go_wp2_with (first | ((with_reducible refine gate_dst (N := 2) rfl ?_);(try (refine gate_guard (by rfl) ?_; dsimp only));refine bxd (N := 2) rfl HB ?_;clear HB;intro gb101 w3 hg HB BK101 GE101 hb;have GW101 := GE101;clear hb hg) | ((with_reducible refine gate_dst (N := 3) rfl ?_);(try (refine gate_guard (by rfl) ?_; dsimp only));refine bxe (N := 3) rfl ?_;intro gb102 hg w4 hbox hb;have BK102 := ak (hbox);have GW102 := b3s hg bs;have GE102 := GW102;replace HB := b2s bs hb;have NB101_102 := b4 hg BK101;have NB102_101 := b5 hg BK101;replace BK101 := b1 BK101 hb;clear hb hbox hg)))
 go_loopg [5] k (fun kq v5 w' => ∃ (x5_1 : Int), v5 = .int .i64 x5_1 ∧ Aside0 (spec_l2cmp.l0 kq x5_1 l0_0 l1_0 = some r) ∧ Aside0 (kq ≤ k) ∧ Aside0 (w'.heap[gb101]? = some (.cells #[(.slice A0_0 l0_0.length c0_0)] 31 (0, 0))) ∧ Aside0 (w'.heap[gb102]? = some (.cells #[(.slice A1_0 l1_0.length c1_0)] 31 (0, 0))) ∧ Aside0 (Below w.heap.size w w'))
 case atStart => exact ⟨(1), o2, H', ⟨Nat.le_refl _⟩, ⟨bk BK101.out⟩, ⟨bk BK102.out⟩, ⟨bs⟩⟩
 case round =>
  clear H'
  obtain ⟨x5_1, rfl, HA, HK1, BK101, BK102, HB⟩ := hrel
  cases gk with
  | zero => exact absurd HA.out (by simp [spec_l2cmp.l0])
  | succ k1 =>
   have H := HA.out
   clear HA
   simp only [spec_l2cmp.l0] at H
   have HC5 := ak H
   clear H
   go_upto_region 2 with (fail)
   repeat (go_quiet (fail); go_upto_region 2 with (fail))
   go_cut [18] (fun v18 wc => ∃ (kq : Nat) (x18_4 : Bool), v18 = .bool x18_4 ∧ Aside0 (spec_l2cmp.j1 kq x5_1 x18_4 l0_0 l1_0 = some r) ∧ Aside0 (kq ≤ k1) ∧ Aside0 (wc.heap[gb101]? = some (.cells #[(.slice A0_0 l0_0.length c0_0)] 31 (0, 0))) ∧ Aside0 (wc.heap[gb102]? = some (.cells #[(.slice A1_0 l1_0.length c1_0)] 31 (0, 0))) ∧ Aside0 (Below w.heap.size w wc))
   case first =>
    have H := HC5.out
    clear HC5
    replace H := ip H
    obtain ⟨c6b0, H⟩ | ⟨c6b0, H⟩ := H
    ·(first | rw [c6b0] | (simp only [i64_w, i32_w]; rw [c6b0]) | skip)
     have H' := ak H
     clear H
     have hnb7 := NB101_102.out
     have hnc7 := NB102_101.out
     obtain ⟨hcz8_0, hfz8_0⟩ := cells1 BK101.out
     obtain ⟨hcz9_0, hfz9_0⟩ := cells1 BK102.out
     go_wp2
     repeat (go_quiet (fail); try go_wp2)
     go_meet
     case rel => exact ⟨_, (decide (x5_1 ≤ (l1_0.length : Int))), o2, H', ⟨by have := HK1.out; first | omega | exact Nat.le_refl _⟩, ⟨bk BK101.out⟩, ⟨bk BK102.out⟩, ⟨bs⟩⟩
    ·(first | rw [c6b0] | (simp only [i64_w, i32_w]; rw [c6b0]) | skip)
     have H' := ak H
     clear H
     have hnb10 := NB101_102.out
     have hnc10 := NB102_101.out
     obtain ⟨hcz11_0, hfz11_0⟩ := cells1 BK101.out
     go_wp2
     repeat (go_quiet (fail); try go_wp2)
     go_meet
     case rel => exact ⟨_, (false), o2, H', ⟨by have := HK1.out; first | omega | exact Nat.le_refl _⟩, ⟨bk BK101.out⟩, ⟨bk BK102.out⟩, ⟨bs⟩⟩
   case rest =>
    clear HC5
    obtain ⟨kq, x18_4, rfl, HA, HJ4, BK101, BK102, HB⟩ := hcut
    cases kq with
    | zero => exact absurd HA.out (by simp [spec_l2cmp.j1])
    | succ kj4 =>
     have H := HA.out
     clear HA
     simp only [spec_l2cmp.j1] at H
     replace H := ib H
     obtain ⟨rfl, H⟩ | ⟨rfl, H⟩ := H
     ·obtain ⟨ji13, hji13⟩ : ∃ j_ : Int, (wrap64 ((l0_0.length : Int) - x5_1)) = j_ := ⟨_, rfl⟩
      (first | rw [hji13] at H | simp only [hji13] at H)
      have hji13w : (IntKind.i64.wrap ((l0_0.length : Int) - x5_1)) = ji13 := (i64_w _).trans hji13
      replace H := ipN H
      obtain ⟨c14b0, H⟩ := H
      replace H := ipN H
      obtain ⟨c15b0, H⟩ := H
      obtain ⟨ji16, hji16⟩ : ∃ j_ : Int, (wrap64 ((l1_0.length : Int) - x5_1)) = j_ := ⟨_, rfl⟩
      (first | rw [hji16] at H | simp only [hji16] at H)
      have hji16w : (IntKind.i64.wrap ((l1_0.length : Int) - x5_1)) = ji16 := (i64_w _).trans hji16
      replace H := ipN H
      obtain ⟨c17b0, H⟩ := H
      replace H := ipN H
      obtain ⟨c18b0, H⟩ := H
      replace H := bnd H
      obtain ⟨t105, A19, H⟩ := H
      replace H := ie H
      obtain ⟨c20b0, c20b1, H⟩ | ⟨c20b0, c20b1, H⟩ := H
      ·have H' := ak H
       clear H
       have hnb21 := NB101_102.out
       have hnc21 := NB102_101.out
       obtain ⟨hcz22_0, hfz22_0⟩ := cells1 BK101.out
       obtain ⟨ad103, A103_0, c103_0, rfl, hx103_0, HC103_0, HR103_0, p103, q103⟩ := el_L10 HR0_0 HB (ji13)
       obtain ⟨hcz23_0, hfz23_0⟩ := cells1 BK102.out
       obtain ⟨ad104, A104_0, c104_0, rfl, hx104_0, HC104_0, HR104_0, p104, q104⟩ := el_L10 HR1_0 HB (ji16)
       go_wp2_with ((go_at_call 136;(with_reducible refine (spec_l2bytes.calls _ _ (rd_L10 l0_0 (ji13)) _ _ (rd_L10 l1_0 (ji16)) t105 _ (cv HR103_0 HB) HC103_0.out (cv HR104_0 HB) HC104_0.out A19.out).mono ?_);rintro e w' ⟨rfl, ⟨nd, rfl⟩⟩;(try first | exact ⟨rfl, _, World.drewN_drewN _ _ _⟩ | exact ⟨rfl, _, Eq.trans (World.drewN_drewN _ _ _) (congrArg (World.drewN _) (Nat.add_assoc _ _ _))⟩)))
       repeat (go_quiet ((go_at_call 136;(with_reducible refine (spec_l2bytes.calls _ _ (rd_L10 l0_0 (ji13)) _ _ (rd_L10 l1_0 (ji16)) t105 _ (cv HR103_0 HB) HC103_0.out (cv HR104_0 HB) HC104_0.out A19.out).mono ?_);rintro e w' ⟨rfl, ⟨nd, rfl⟩⟩;(try first | exact ⟨rfl, _, World.drewN_drewN _ _ _⟩ | exact ⟨rfl, _, Eq.trans (World.drewN_drewN _ _ _) (congrArg (World.drewN _) (Nat.add_assoc _ _ _))⟩))); try go_wp2_with ((go_at_call 136;(with_reducible refine (spec_l2bytes.calls _ _ (rd_L10 l0_0 (ji13)) _ _ (rd_L10 l1_0 (ji16)) t105 _ (cv HR103_0 HB) HC103_0.out (cv HR104_0 HB) HC104_0.out A19.out).mono ?_);rintro e w' ⟨rfl, ⟨nd, rfl⟩⟩;(try first | exact ⟨rfl, _, World.drewN_drewN _ _ _⟩ | exact ⟨rfl, _, Eq.trans (World.drewN_drewN _ _ _) (congrArg (World.drewN _) (Nat.add_assoc _ _ _))⟩))))
       go_roundg kj4
       case measure => have := HK1.out; have := HJ4.out; omega
       case rel => exact ⟨(wrap64 (x5_1 + 1)), o2, H', ⟨by have := HK1.out; have := HJ4.out; omega⟩, ⟨bk BK101.out⟩, ⟨bk BK102.out⟩, ⟨bs⟩⟩
      ·obtain rfl := Option.some.inj H
       have hnb24 := NB101_102.out
       have hnc24 := NB102_101.out
       obtain ⟨hcz25_0, hfz25_0⟩ := cells1 BK101.out
       obtain ⟨ad103, A103_0, c103_0, rfl, hx103_0, HC103_0, HR103_0, p103, q103⟩ := el_L10 HR0_0 HB (ji13)
       obtain ⟨hcz26_0, hfz26_0⟩ := cells1 BK102.out
       obtain ⟨ad104, A104_0, c104_0, rfl, hx104_0, HC104_0, HR104_0, p104, q104⟩ := el_L10 HR1_0 HB (ji16)
       go_wp2_with ((go_at_call 136;(with_reducible refine (spec_l2bytes.calls _ _ (rd_L10 l0_0 (ji13)) _ _ (rd_L10 l1_0 (ji16)) t105 _ (cv HR103_0 HB) HC103_0.out (cv HR104_0 HB) HC104_0.out A19.out).mono ?_);rintro e w' ⟨rfl, ⟨nd, rfl⟩⟩;(try first | exact ⟨rfl, _, World.drewN_drewN _ _ _⟩ | exact ⟨rfl, _, Eq.trans (World.drewN_drewN _ _ _) (congrArg (World.drewN _) (Nat.add_assoc _ _ _))⟩)))
       repeat (go_quiet ((go_at_call 136;(with_reducible refine (spec_l2bytes.calls _ _ (rd_L10 l0_0 (ji13)) _ _ (rd_L10 l1_0 (ji16)) t105 _ (cv HR103_0 HB) HC103_0.out (cv HR104_0 HB) HC104_0.out A19.out).mono ?_);rintro e w' ⟨rfl, ⟨nd, rfl⟩⟩;(try first | exact ⟨rfl, _, World.drewN_drewN _ _ _⟩ | exact ⟨rfl, _, Eq.trans (World.drewN_drewN _ _ _) (congrArg (World.drewN _) (Nat.add_assoc _ _ _))⟩))); try go_wp2_with ((go_at_call 136;(with_reducible refine (spec_l2bytes.calls _ _ (rd_L10 l0_0 (ji13)) _ _ (rd_L10 l1_0 (ji16)) t105 _ (cv HR103_0 HB) HC103_0.out (cv HR104_0 HB) HC104_0.out A19.out).mono ?_);rintro e w' ⟨rfl, ⟨nd, rfl⟩⟩;(try first | exact ⟨rfl, _, World.drewN_drewN _ _ _⟩ | exact ⟨rfl, _, Eq.trans (World.drewN_drewN _ _ _) (congrArg (World.drewN _) (Nat.add_assoc _ _ _))⟩))))
       go_ret
       exact ⟨by first | rfl | (simp [errW_none, errW_some] <;> rfl) | (simp only [← hji13, ← hji16]; first | rfl | (simp [errW_none, errW_some] <;> rfl)) | (simp [*, errW_none, errW_some] <;> rfl), bs⟩
     ·replace H := ie H
      obtain ⟨c27b0, c27b1, H⟩ | ⟨c27b0, c27b1, H⟩ := H
      ·have c27b2 : (l0_0.length == l1_0.length) = true := lnT c27b0
       obtain rfl := Option.some.inj H
       have hnb28 := NB101_102.out
       have hnc28 := NB102_101.out
       obtain ⟨hcz29_0, hfz29_0⟩ := cells1 BK101.out
       obtain ⟨hcz30_0, hfz30_0⟩ := cells1 BK102.out
       go_wp2
       repeat (go_quiet (fail); try go_wp2)
       go_ret
       exact ⟨o1, bs⟩
      ·have c27b2 : (l0_0.length == l1_0.length) = false := lnF c27b0
       by_cases c31 : (l0_0.length : Int) < (l1_0.length : Int)
       ·rw [if_pos c31] at H
        have c31b0 : decide ((l0_0.length : Int) < (l1_0.length : Int)) = true := decide_eq_true c31
        have c31b1 : decide (l0_0.length < l1_0.length) = true := decide_eq_true (Int.ofNat_lt.mp c31)
        clear c31
        obtain rfl := Option.some.inj H
        have hnb32 := NB101_102.out
        have hnc32 := NB102_101.out
        obtain ⟨hcz33_0, hfz33_0⟩ := cells1 BK101.out
        obtain ⟨hcz34_0, hfz34_0⟩ := cells1 BK102.out
        go_wp2
        repeat (go_quiet (fail); try go_wp2)
        go_ret
        exact ⟨o1, bs⟩
       ·rw [if_neg c31] at H
        have c31b0 : decide ((l0_0.length : Int) < (l1_0.length : Int)) = false := decide_eq_false c31
        have c31b1 : decide (l0_0.length < l1_0.length) = false := decide_eq_false (fun h => c31 (Int.ofNat_lt.mpr h))
        clear c31
        obtain rfl := Option.some.inj H
        have hnb35 := NB101_102.out
        have hnc35 := NB102_101.out
        obtain ⟨hcz36_0, hfz36_0⟩ := cells1 BK101.out
        obtain ⟨hcz37_0, hfz37_0⟩ := cells1 BK102.out
        go_wp2
        repeat (go_quiet (fail); try go_wp2)
        go_ret
        exact ⟨o1, bs⟩

/-! ### spec_l3num: function 135 -/
def spec_l3num.f (a0 : Int) (a1 : Int) : Option (Int) := if a0 < a1 then (some (-1)) else (if a0 > a1 then (some 1) else (some 0))
set_option maxHeartbeats 8000000 in
set_option maxRecDepth 100000 in
theorem spec_l3num.calls (a0 : Int) (a1 : Int) (r : Int) (w : World) (h : spec_l3num.f a0 a1 = some r) :
  Calls Try.prog 135 #[.int .i64 a0, .int .i64 a1] w fun e w' => e = .returned (.int .i64 r) ∧ Drawn0 w w' := by
 have H : (if a0 < a1 then (some (-1)) else (if a0 > a1 then (some 1) else (some 0))) = some r := h
 clear h
 replace H := ip H
 obtain ⟨c3b0, H⟩ | ⟨c3b0, H⟩ := H
 ·obtain rfl := Option.some.inj H
  go_enter Try.func135, Try.ntmps135
  go_wp2
  go_ret
  exact ⟨o2, od⟩
 ·replace H := ig H
  obtain ⟨c4b0, H⟩ | ⟨c4b0, H⟩ := H
  ·obtain rfl := Option.some.inj H
   go_enter Try.func135, Try.ntmps135
   go_wp2
   go_ret
   exact ⟨o2, od⟩
  ·obtain rfl := Option.some.inj H
   go_enter Try.func135, Try.ntmps135
   go_wp2
   go_ret
   exact ⟨o2, od⟩

/-! ### spec_l2put: function 77 -/

attribute [local go_sem ↓] Go.wp_at_zero Go.wp_at_succ
/-- The labels of a name as they stand in messages, without the end. -/
def spec_l2put.w : List (List Int) → List Int
 | [] => []
 | x :: l => ((x.length : Int) % 256) :: (x ++ spec_l2put.w l)
theorem spec_l2put.w_snoc (l : List (List Int)) (x : List Int) : spec_l2put.w (l ++ [x]) = spec_l2put.w l ++ [(x.length : Int) % 256] ++ x := by
 induction l with
 | nil => simp [spec_l2put.w]
 | cons y l ih => simp [spec_l2put.w, ih]
theorem spec_l2put.w_take (l : List (List Int)) : ∀ k, (spec_l2put.w (l.take k)).length ≤ (spec_l2put.w l).length := by
 induction l with
 | nil => intro k; simp
 | cons y l ih =>
  intro k
  cases k with
  | zero => simp [spec_l2put.w]
  | succ k => have := ih k; simp only [List.take_succ_cons, spec_l2put.w, List.length_cons, List.length_append]; omega
def spec_l2put.f (l0 : List Int) (l1_0 : List (List Int)) : Option (List Int) := if l0.length + (spec_l2put.w l1_0).length + 1 < 140737488355328 then some (l0 ++ spec_l2put.w l1_0 ++ [0]) else none
theorem spec_l2put.inner {w : World} {S : Nat → Prop} {A : Option Addr} {l : List (List Int)} (h : ∀ W', Kept w W' S → Kd.C (Kd.slice 5 (Kd.int .u8)) W' A l.length l) (i : Nat) (hi : i < l.length) :
  ∃ ad A0 c0, A = some ad ∧ (∀ W', Kept w W' S → W'.cell? (ad.add i) = some (.slice A0 (rd_L10 l (i : Int)).length c0)) ∧ (rd_L10 l (i : Int)).length ≤ c0 ∧ ∀ W', Kept w W' S → (Kd.int .u8).C W' A0 (rd_L10 l (i : Int)).length (rd_L10 l (i : Int)) := by
 obtain ⟨ad, A0, c0, rfl, hx, hl, hc⟩ := at_L10 (h w (Kept.refl w S)) (i : Int) (by omega) (by omega)
 rw [show ((i : Int)).toNat = i from by omega] at hx
 have hn := Kd.foot_neS h (by omega) (show 0 < (Kd.slice 5 (Kd.int .u8)).sz from by decide)
 have hcell : ∀ W', Kept w W' S → W'.cell? (ad.add i) = some (.slice A0 (rd_L10 l (i : Int)).length c0) := fun W' hk => cell_kept hx hk (by rw [add_block]; exact hn)
 refine ⟨ad, A0, c0, rfl, hcell, hl, fun W' hk => ?_⟩
 obtain ⟨ad2, A2, c2, e, hx2, _, hc2⟩ := at_L10 (h W' hk) (i : Int) (by omega) (by omega)
 injection e with e
 subst e
 rw [show ((i : Int)).toNat = i from by omega, hcell W' hk] at hx2
 injection hx2 with hx2
 injection hx2 with e1 e2 e3
 subst e1
 exact hc2
theorem spec_l2put.swap (W : World) (o : Obj) : (W.alloc o).drew = (W.drew).alloc o := rfl
theorem spec_l2put.step {c : Prop} [Decidable c] {A B E : Prop} (hc : c) (h : if c then A else B) : if c then A else E := by rw [if_pos hc] at h ⊢; exact h
set_option maxHeartbeats 8000000 in
set_option maxRecDepth 100000 in
theorem spec_l2put.calls (P0_ : Nat → Prop) (u9000_ : Value) (l0 : List Int) (A1_0 : Option Addr) (c1_0 : Nat) (l1_0 : List (List Int)) (r : List Int) (w0 w : World) (hB : Below w0.heap.size w0 w) (ho0 : Kd.R (Kd.int .u8) 5 w w0.heap.size P0_ u9000_ l0) (hr1_0 : ∀ W_, Kept w W_ (fun k_ => P0_ k_) → Kd.C (Kd.slice 5 (Kd.int .u8)) W_ A1_0 l1_0.length l1_0) (hc1_0 : l1_0.length ≤ c1_0) (h : spec_l2put.f l0 l1_0 = some r) :
  Calls Try.prog 77 #[u9000_, .agg #[.slice A1_0 l1_0.length c1_0]] w fun e w' => ∃ v0_ : Value, e = .returned (v0_) ∧ Kd.R (Kd.int .u8) 5 w' w0.heap.size (fun k_ => (P0_ k_ ∨ w.heap.size ≤ k_)) v0_ r ∧ Below w0.heap.size w0 w' ∧ Kept w w' (fun k_ => P0_ k_) := by
 have HO0 := ak (show Kd.R (Kd.int .u8) 5 w w0.heap.size (fun k_ => (P0_ k_ ∨ w.heap.size ≤ k_)) u9000_ l0 from Kd.R_mono ho0 (fun k_ hk => (.inl hk)))
 have HK := ak (Kept.refl w (fun k_ => P0_ k_))
 have HB := ak hB
 have HI := ak (spec_l2put.inner hr1_0)
 have hbig : l1_0.length ≤ 9223372036854775807 := (hr1_0 w (Kept.refl _ _)).2.1
 have HLM : Aside0 (l0.length + (spec_l2put.w l1_0).length + 1 < 140737488355328) := by
  unfold spec_l2put.f at h; split at h
  ·exact ⟨by assumption⟩
  ·cases h
 have hr : l0 ++ spec_l2put.w l1_0 ++ [0] = r := by
  unfold spec_l2put.f at h; rw [if_pos HLM.out] at h; exact Option.some.inj h
 subst hr
 clear hr1_0 hc1_0 h hB ho0
 go_enter Try.func77, Try.ntmps77
 go_wp2_with (((with_reducible refine gate_dst (N := 3) rfl ?_);refine bxe (N := 3) rfl ?_;intro gb101 hg w2 hbox hb;replace HB := b2 HB hb;have BK101 := ak (hbox);replace HK := ak (Kept.below (by repeat (first | (with_reducible first | exact HK.out | apply Kept.alloc | apply Kept.drewN | apply Kept.drew) | exact HK.out)) hb);have HO := ak (Kd.R_below HO0.out hb);clear HO0;clear hb hbox hg))
 go_loopg [0, 5] l1_0.length (fun gg s0 s5 w' => ∃ kk : Nat, kk ≤ l1_0.length ∧ l1_0.length - kk ≤ gg ∧ s5 = .int .i64 kk ∧ Aside0 (Kd.R (Kd.int .u8) 5 w' w0.heap.size (fun k_ => (P0_ k_ ∨ w.heap.size ≤ k_)) s0 (l0 ++ spec_l2put.w (l1_0.take kk))) ∧ Aside0 (w'.heap[gb101]? = some (.cells #[(.slice A1_0 l1_0.length c1_0)] 31 (0, 0))) ∧ Aside0 (Below w0.heap.size w0 w') ∧ Aside0 (Kept w w' (fun k_ => P0_ k_)))
 case atStart => exact ⟨0, Nat.zero_le _, by omega, rfl, ⟨by simpa [spec_l2put.w] using HO.out⟩, BK101, HB, HK⟩
 case round =>
  clear HO BK101 HB HK
  obtain ⟨kk, hkk, hg, rfl, HO, BK, HB, HK⟩ := hrel
  have hcz := ak ((blk_cell BK.out 0).trans rfl : wr.cell? ⟨gb101, 0, none⟩ = some (.slice A1_0 l1_0.length c1_0))
  have hfz := blk_frozen BK.out 0
  by_cases hlt : kk < l1_0.length
  ·obtain ⟨ad, A2, c2, rfl, hcell, hc2, hC⟩ := HI.out kk hlt
   have hx : Aside0 (l0 ++ spec_l2put.w (l1_0.take (kk + 1)) = l0 ++ spec_l2put.w (l1_0.take kk) ++ [((rd_L10 l1_0 (kk : Int)).length : Int) % 256] ++ rd_L10 l1_0 (kk : Int)) := ⟨by
    rw [List.take_succ_eq_append_getElem hlt, spec_l2put.w_snoc]; simp [rd_L10, List.getD_eq_getElem?_getD, hlt]⟩
   have HLL : Aside0 ((l0 ++ spec_l2put.w (l1_0.take kk)).length + 1 + (rd_L10 l1_0 (kk : Int)).length < 140737488355328) := ⟨by
    have h1 := congrArg List.length hx.out
    have h2 := spec_l2put.w_take l1_0 (kk + 1)
    have h3 := HLM.out
    simp only [List.length_append, List.length_singleton] at h1 ⊢
    omega⟩
   have HCE := ak hcell
   have HCC := ak hC
   have hcn := hcell wr HK.out
   have hczn := hcz.out
   clear hcell hC hcz HI
   generalize rd_L10 l1_0 (kk : Int) = x1 at hx HLL HCE HCC hc2 hcn
   generalize l0 ++ spec_l2put.w (l1_0.take kk) = acc at HO hx HLL
   have hltz : (kk : Int) < (l1_0.length : Int) := by omega
   have hkk0 : (0 : Int) ≤ (kk : Int) := by omega
   go_wp2
   go_region_held3 (fun w' => w'.cell? ⟨gb101, 0, none⟩ = some (.slice (some ad) l1_0.length c1_0) ∧ w'.cell? (ad.add kk) = some (.slice A2 x1.length c2)) (first | exact ⟨(blk_cell BK.out 0).trans rfl, HCE.out _ HK.out⟩ | go_keep)
    (first
     | (rw [spec_l2put.swap]; refine spec_l2put.step (by simp [Region.wanted]) (Kd.R_append_step (Kd.int .u8) (w0 := w0) w0.heap.size (by simp [Region.wanted]) (.tmp 13) (.tmp 21) 25 5 (.int .u8 0) 1 (by rfl) Try.underlying25 info5 rfl (by decide) (by omega) _ acc ((x1.length : Int) % 256) [.int .u8 ((x1.length : Int) % 256)] (fun k_ => (P0_ k_ ∨ w.heap.size ≤ k_)) (fun _ => False) (by rfl) (by rfl) rfl (fun _ hk => hk.elim) (fun k hk => .inr (Nat.le_trans HK.out.1 (Nat.le_trans (by simp) hk))) (rw_ HO.out) (bw HB.out) (below_size (bw HB.out)) (by have := HLL.out; omega) ?_); intro v1 w1 ho hb hg hat; have n0_ := ak (blk_grown (bk BK.out) hg (Kd.R_ne HO.out BK.out (by decide))); have n1_ := ak hb; have n2_ := ak ho; have n3_ := ak (Kept.of_grown (w := w) (S := fun k_ => P0_ k_) hg (by repeat (first | (with_reducible first | exact HK.out | apply Kept.alloc | apply Kept.drewN | apply Kept.drew) | exact HK.out)) (fun k hk => HO.out.1 k hk)); clear HB HO HK BK ho hb hg hat; have BK := n0_; have HB := n1_; have HO := n2_; have HK := n3_; clear n0_ n1_ n2_ n3_)
     | (refine spec_l2put.step (by simp [Region.wanted]) (Kd.R_append_rows_step (Kd.int .u8) (w0 := w0) w0.heap.size (by simp [Region.wanted]) (.tmp 22) (.tmp 27) 25 5 (.int .u8 0) 1 (by rfl) Try.underlying25 info5 rfl (by decide) (by omega) _ (acc ++ [(x1.length : Int) % 256]) x1 _ _ _ (fun k_ => (P0_ k_ ∨ w.heap.size ≤ k_)) (fun _ => False) (by rfl) (by rfl) (rw_ HO.out) (HCC.out _ (by repeat (first | (with_reducible first | exact HK.out | apply Kept.alloc | apply Kept.drewN | apply Kept.drew) | exact HK.out))) (fun _ _ h => h) (fun _ h => h.elim) (fun k hk => .inr (Nat.le_trans HK.out.1 (Nat.le_trans (by simp) hk))) (bw HB.out) (below_size (bw HB.out)) (by have := HLL.out; simp only [List.length_append, List.length_singleton]; omega) ?_); intro v1 w1 ho hb hg hat; have n0_ := ak (blk_grown (bk BK.out) hg (Kd.R_ne HO.out BK.out (by decide))); have n1_ := ak hb; have n2_ := ak ho; have n3_ := ak (Kept.of_grown (w := w) (S := fun k_ => P0_ k_) hg (by repeat (first | (with_reducible first | exact HK.out | apply Kept.alloc | apply Kept.drewN | apply Kept.drew) | exact HK.out)) (fun k hk => HO.out.1 k hk)); clear HB HO HK BK ho hb hg hat; have BK := n0_; have HB := n1_; have HO := n2_; have HK := n3_; clear n0_ n1_ n2_ n3_))
   go_wp2
   go_roundg (l1_0.length - (kk + 1))
   case measure => omega
   case rel => exact ⟨kk + 1, by omega, by omega, by go_num, ⟨by rw [hx.out]; exact HO.out⟩, BK, HB, HK⟩
  ·have : kk = l1_0.length := by omega
   subst this
   rw [List.take_of_length_le (Nat.le_refl _)] at HO
   have hczn := hcz.out
   clear hcz
   have hltz : ¬ (l1_0.length : Int) < (l1_0.length : Int) := by omega
   go_wp2_with (((with_reducible refine gate_builtin (b := .append) (xs := #[.tmp 29, .tmp 30]) rfl ?_);at_builtin;refine Kd.R_append (Kd.int .u8) (w0 := w0) w0.heap.size rfl (.tmp 29) (.tmp 30) 25 5 (.int .u8 0) 1 rfl Try.underlying25 info5 rfl (by decide) (by omega) _ (l0 ++ spec_l2put.w l1_0) 0 [.int .u8 0] (fun k_ => (P0_ k_ ∨ w.heap.size ≤ k_)) (fun _ => False) rfl rfl ?aP (fun _ hk => hk.elim) ?aF ?aO ?aB ?aS ?aL ?_;(case aP => exact rfl);(case aB => exact (bw HB.out));(case aF => exact (fun k hk => .inr (Nat.le_trans HK.out.1 (Nat.le_trans (by simp) hk))));(case aO => exact (rw_ HO.out));(case aS => exact (below_size (bw HB.out)));(case aL => have := HLM.out; simp only [List.length_append]; omega);intro v113 w14 ho hb hg hat;have n1_ := ak hb;have n2_ := ak ho;have n3_ := ak (Kept.of_grown (w := w) (S := fun k_ => P0_ k_) hg (by repeat (first | (with_reducible first | exact HK.out | apply Kept.alloc | apply Kept.drewN | apply Kept.drew) | exact HK.out)) (fun k hk => HO.out.1 k hk));clear HB HO HK ho hb hg hat;have HB := n1_;have HO := n2_;have HK := n3_;clear n1_ n2_ n3_))
   go_ret
   exact ⟨v113, rfl, by have := HO.out; simpa only [List.append_assoc] using this, HB.out, HK.out⟩

/-! ### spec_Put32: function 206 -/
def spec_Put32.f (l0 : List Int) (a1 : Int) : Option (List Int) := (some (([] : List Int) : List Int)).bind fun y101 => (if y101.length + l0.length < 140737488355328 then ((some (y101 ++ l0 : List Int)).bind fun y104 => (if a1 < 0 then (some y104) else (if a1 ≥ 4294967296 then (some y104) else ((some (([(a1 / 16777216) % 256, (a1 / 65536) % 256, (a1 / 256) % 256, (a1) % 256] : List Int) : List Int)).bind fun y107 => (if y104.length + y107.length < 140737488355328 then (some (y104 ++ y107)) else (none)))))) else (none))
set_option maxHeartbeats 8000000 in
set_option maxRecDepth 100000 in
theorem spec_Put32.calls (A0 : Option Addr) (c0 : Nat) (l0 : List Int) (a1 : Int) (r : List Int) (w : World) (hr0 : Kd.C (Kd.int .u8) w A0 l0.length l0) (hc0 : l0.length ≤ c0) (h : spec_Put32.f l0 a1 = some r) :
  Calls Try.prog 206 #[.slice A0 l0.length c0, .int .i64 a1] w fun e w' => ∃ v0_ : Value, e = .returned (v0_) ∧ Kd.R (Kd.int .u8) 5 w' w.heap.size (fun _ => True) v0_ r ∧ Below w.heap.size w w' := by
 have HR0 := ak hr0
 have HC0 := ak hc0
 clear hr0 hc0
 have HB := ak (Below.refl w.heap.size w)
 have H : ((some (([] : List Int) : List Int)).bind fun y101 => (if y101.length + l0.length < 140737488355328 then ((some (y101 ++ l0 : List Int)).bind fun y104 => (if a1 < 0 then (some y104) else (if a1 ≥ 4294967296 then (some y104) else ((some (([(a1 / 16777216) % 256, (a1 / 65536) % 256, (a1 / 256) % 256, (a1) % 256] : List Int) : List Int)).bind fun y107 => (if y104.length + y107.length < 140737488355328 then (some (y104 ++ y107)) else (none)))))) else (none))) = some r := h
 clear h
 replace H : ∃ y101 : List Int, y101 = (([] : List Int)) ∧ (if y101.length + l0.length < 140737488355328 then ((some (y101 ++ l0 : List Int)).bind fun y104 => (if a1 < 0 then (some y104) else (if a1 ≥ 4294967296 then (some y104) else ((some (([(a1 / 16777216) % 256, (a1 / 65536) % 256, (a1 / 256) % 256, (a1) % 256] : List Int) : List Int)).bind fun y107 => (if y104.length + y107.length < 140737488355328 then (some (y104 ++ y107)) else (none)))))) else (none)) = some r := ⟨_, rfl, H⟩
 obtain ⟨y101, hy101, H⟩ := H
 have Ny101 := ak hy101
 clear hy101
 by_cases c3 : y101.length + l0.length < 140737488355328
 ·rw [if_pos c3] at H
  have LMc3 := ak c3
  clear c3
  obtain ⟨y104, hy104⟩ : ∃ y_ : List Int, y_ = (y101 ++ l0) := ⟨_, rfl⟩
  (try with_reducible replace H := bnS H)
  (try rw [← hy104] at H)
  have Ny104 := ak hy104
  clear hy104
  replace H := ip H
  obtain ⟨c4b0, H⟩ | ⟨c4b0, H⟩ := H
  ·obtain rfl := Option.some.inj H
   go_enter Try.func206, Try.ntmps206
   go_wp2_with (first | ((with_reducible refine gate_dst (N := 6) rfl ?_);refine Kd.R_lit (Kd.int .u8) _ 5 ?hg (N := 6) ?hd (xs := ([] : List Int)) (inner := []) (ok := fun _ => True) (okp := fun _ => True) ?hr ?hp (fun _ hk => hk) trivial (Below.refl _ _) (Nat.le_refl _) (by simp) ?_;(case hd => rfl);(case hg => rfl);(case hr => first | (go_simp; done) | (go_simp; rfl));(case hp => exact (Reps.none _ _));intro v102 w5 ho6 hb hg_ hnew_;clear hg_ hnew_;(first | rw [← Ny101.out] at ho6 | (simp only [Int.reduceToNat] at ho6; rw [← Ny101.out] at ho6));have HO103 := ak (Kd.R_lower ho6 (below_size (bw HB.out)));replace HB := b2 HB hb;clear hb ho6) | ((with_reducible refine gate_builtin (b := .append) (xs := #[.tmp 6, .tmp 7]) rfl ?_);at_builtin;refine Kd.R_append_rows (Kd.int .u8) (w0 := w) w.heap.size rfl (.tmp 6) (.tmp 7) 25 5 (.int .u8 0) 1 rfl Try.underlying25 info5 rfl (by decide) (by omega) v102 y101 l0 _ _ _ (fun _ => True) (fun _ => False) rfl rfl ?aO ?aR (fun _ _ h => h) (fun _ h => h.elim) ?aF ?aB ?aS ?aL ?_;(case aR => exact cw HR0.out HB.out);(case aB => exact (bw HB.out));(case aF => exact (fun _ _ => trivial));(case aO => exact (rw_ HO103.out));(case aS => exact (below_size (bw HB.out)));(case aL => have := LMc3.out; omega);intro v105 w7 ho hb hg hat;rw [← Ny104.out] at ho;replace HB := ak (hb);have HO106 := ak (ho);clear HO103;clear ho hb hg hat))
   go_ret
   exact ⟨_, o1, rw_ HO106.out, bw HB.out⟩
  ·replace H := ih H
   obtain ⟨c8b0, H⟩ | ⟨c8b0, H⟩ := H
   ·obtain rfl := Option.some.inj H
    go_enter Try.func206, Try.ntmps206
    go_wp2_with (first | ((with_reducible refine gate_dst (N := 6) rfl ?_);refine Kd.R_lit (Kd.int .u8) _ 5 ?hg (N := 6) ?hd (xs := ([] : List Int)) (inner := []) (ok := fun _ => True) (okp := fun _ => True) ?hr ?hp (fun _ hk => hk) trivial (Below.refl _ _) (Nat.le_refl _) (by simp) ?_;(case hd => rfl);(case hg => rfl);(case hr => first | (go_simp; done) | (go_simp; rfl));(case hp => exact (Reps.none _ _));intro v102 w9 ho10 hb hg_ hnew_;clear hg_ hnew_;(first | rw [← Ny101.out] at ho10 | (simp only [Int.reduceToNat] at ho10; rw [← Ny101.out] at ho10));have HO103 := ak (Kd.R_lower ho10 (below_size (bw HB.out)));replace HB := b2 HB hb;clear hb ho10) | ((with_reducible refine gate_builtin (b := .append) (xs := #[.tmp 6, .tmp 7]) rfl ?_);at_builtin;refine Kd.R_append_rows (Kd.int .u8) (w0 := w) w.heap.size rfl (.tmp 6) (.tmp 7) 25 5 (.int .u8 0) 1 rfl Try.underlying25 info5 rfl (by decide) (by omega) v102 y101 l0 _ _ _ (fun _ => True) (fun _ => False) rfl rfl ?aO ?aR (fun _ _ h => h) (fun _ h => h.elim) ?aF ?aB ?aS ?aL ?_;(case aR => exact cw HR0.out HB.out);(case aB => exact (bw HB.out));(case aF => exact (fun _ _ => trivial));(case aO => exact (rw_ HO103.out));(case aS => exact (below_size (bw HB.out)));(case aL => have := LMc3.out; omega);intro v105 w11 ho hb hg hat;rw [← Ny104.out] at ho;replace HB := ak (hb);have HO106 := ak (ho);clear HO103;clear ho hb hg hat))
    go_ret
    exact ⟨_, o1, rw_ HO106.out, bw HB.out⟩
   ·obtain ⟨y107, hy107⟩ : ∃ y_ : List Int, y_ = (([(a1 / 16777216) % 256, (a1 / 65536) % 256, (a1 / 256) % 256, (a1) % 256] : List Int)) := ⟨_, rfl⟩
    (try with_reducible replace H := bnS H)
    (try rw [← hy107] at H)
    have Ny107 := ak hy107
    clear hy107
    by_cases c12 : y104.length + y107.length < 140737488355328
    ·rw [if_pos c12] at H
     have LMc12 := ak c12
     clear c12
     obtain ⟨y110, hy110⟩ : ∃ y_ : List Int, y_ = (y104 ++ y107) := ⟨_, rfl⟩
     (try with_reducible replace H := bnS H)
     (try rw [← hy110] at H)
     have Ny110 := ak hy110
     clear hy110
     obtain rfl := Option.some.inj H
     go_enter Try.func206, Try.ntmps206
     go_wp2_with (first | ((with_reducible refine gate_dst (N := 6) rfl ?_);refine Kd.R_lit (Kd.int .u8) _ 5 ?hg (N := 6) ?hd (xs := ([] : List Int)) (inner := []) (ok := fun _ => True) (okp := fun _ => True) ?hr ?hp (fun _ hk => hk) trivial (Below.refl _ _) (Nat.le_refl _) (by simp) ?_;(case hd => rfl);(case hg => rfl);(case hr => first | (go_simp; done) | (go_simp; rfl));(case hp => exact (Reps.none _ _));intro v102 w13 ho14 hb hg_ hnew_;clear hg_ hnew_;(first | rw [← Ny101.out] at ho14 | (simp only [Int.reduceToNat] at ho14; rw [← Ny101.out] at ho14));have HO103 := ak (Kd.R_lower ho14 (below_size (bw HB.out)));replace HB := b2 HB hb;clear hb ho14) | ((with_reducible refine gate_builtin (b := .append) (xs := #[.tmp 6, .tmp 7]) rfl ?_);at_builtin;refine Kd.R_append_rows (Kd.int .u8) (w0 := w) w.heap.size rfl (.tmp 6) (.tmp 7) 25 5 (.int .u8 0) 1 rfl Try.underlying25 info5 rfl (by decide) (by omega) v102 y101 l0 _ _ _ (fun _ => True) (fun _ => False) rfl rfl ?aO ?aR (fun _ _ h => h) (fun _ h => h.elim) ?aF ?aB ?aS ?aL ?_;(case aR => exact cw HR0.out HB.out);(case aB => exact (bw HB.out));(case aF => exact (fun _ _ => trivial));(case aO => exact (rw_ HO103.out));(case aS => exact (below_size (bw HB.out)));(case aL => have := LMc3.out; omega);intro v105 w15 ho hb hg hat;rw [← Ny104.out] at ho;replace HB := ak (hb);have HO106 := ak (ho);clear HO103;clear ho hb hg hat) | ((with_reducible refine gate_dst (N := 28) rfl ?_);refine Kd.R_lit (Kd.int .u8) _ 5 ?hg (N := 28) ?hd (xs := ([(a1 / 16777216) % 256, (a1 / 65536) % 256, (a1 / 256) % 256, (a1) % 256] : List Int)) (inner := [.int .u8 ((a1 / 16777216) % 256), .int .u8 ((a1 / 65536) % 256), .int .u8 ((a1 / 256) % 256), .int .u8 ((a1) % 256)]) (ok := fun _ => True) (okp := fun _ => True) ?hr ?hp (fun _ hk => hk) trivial (Below.refl _ _) (Nat.le_refl _) (by simp) ?_;(case hd => rfl);(case hg => rfl);(case hr => first | (go_simp; done) | (go_simp; rfl));(case hp => exact (Reps.one (show Kd.M (Kd.int .u8) _ _ _ ((a1 / 16777216) % 256) [.int .u8 ((a1 / 16777216) % 256)] from rfl) (Reps.one (show Kd.M (Kd.int .u8) _ _ _ ((a1 / 65536) % 256) [.int .u8 ((a1 / 65536) % 256)] from rfl) (Reps.one (show Kd.M (Kd.int .u8) _ _ _ ((a1 / 256) % 256) [.int .u8 ((a1 / 256) % 256)] from rfl) (Reps.one (show Kd.M (Kd.int .u8) _ _ _ ((a1) % 256) [.int .u8 ((a1) % 256)] from rfl) (Reps.none _ _))))));intro v108 w16 ho17 hb hg_ hnew_;clear hg_ hnew_;(first | rw [← Ny107.out] at ho17 | (simp only [Int.reduceToNat] at ho17; rw [← Ny107.out] at ho17));have HO109 := ak (Kd.R_lower (Kd.R_new' ho17 (Kd.R_lt (rw_ HO106.out))) (below_size (bw HB.out)));replace HO106 := ak (Kd.R_elder' (rw_ HO106.out) (Kd.R_base ho17) hb);replace HB := b2 HB hb;clear hb ho17;obtain ⟨Ao19, co19, eo19⟩ := Kd.R_slice HO109.out;subst eo19) | ((with_reducible refine gate_builtin (b := .append) (xs := #[.tmp 16, .tmp 28]) rfl ?_);at_builtin;refine Kd.R_append_rows (Kd.int .u8) (w0 := w) w.heap.size rfl (.tmp 16) (.tmp 28) 25 5 (.int .u8 0) 1 rfl Try.underlying25 info5 rfl (by decide) (by omega) v105 y104 y107 _ _ _ (fun k_ => some k_ ≠ (.slice Ao19 y107.length co19 : Value).ownBlock) (fun _ => False) rfl rfl ?aO ?aR (fun _ _ h => h) (fun _ h => h.elim) ?aF ?aB ?aS ?aL ?_;(case aR => repeat (first | exact (Kd.R_reads' HO109.out).2.2 | (with_reducible refine Kd.C_alloc ?_ _) | (with_reducible refine Kd.C_drewN ?_ _) | (with_reducible refine Kd.C_drew ?_)));(case aB => exact (bw HB.out));(case aF => exact (fun k_ hk => Kd.fresh' (Kd.R_lt (rw_ HO109.out)) k_ hk));(case aO => exact (rw_ (Kd.R_mono HO106.out (fun _ hk => hk.2))));(case aS => exact (below_size (bw HB.out)));(case aL => have := LMc12.out; omega);intro v111 w18 ho hb hg hat;rw [← Ny110.out] at ho;replace HO109 := ak (Kd.R_after (ok := (fun _ => True)) (rw_ HO109.out) hg hat);replace HB := ak (hb);have HO112 := ak (ho);clear HO106;clear ho hb hg hat))
     go_ret
     exact ⟨_, o1, by (with_reducible repeat (first | apply Kd.R_alloc | apply Kd.R_drewN | apply Kd.R_drew)); exact Kd.R_mono HO112.out (fun _ hk => trivial), bw HB.out⟩
    ·rw [if_neg c12] at H
     exact absurd H (by simp)
 ·rw [if_neg c3] at H
  exact absurd H (by simp)

/-! ### spec_l3put: function 137 -/
def spec_l3put.f (l0_0 : List (List Int)) (a0_1 : Int) (a0_2 : Int) (a0_3 : Int) (l0_4 : List (List Int)) (l0_5 : List Int) (l0_6 : List Int) : Option (List Int) := if a0_1 = 1 then ((spec_Put32.f ([] : List Int) a0_3).bind fun t102 => (some t102)) else (if a0_1 = 6 then ((spec_l2put.f ([] : List Int) l0_4).bind fun t105 => (if 0 < (l0_6.length : Int) then ((spec_Put32.f t105 (rd l0_6 0)).bind fun t109 => (if 1 < (l0_6.length : Int) then ((spec_Put32.f t109 (rd l0_6 1)).bind fun t113 => (some t113)) else (none))) else (none))) else ((spec_l3named.f a0_1).bind fun t116 => (if t116 = true then ((spec_l2put.f ([] : List Int) l0_4).bind fun t117 => (some t117)) else ((some (([((l0_5.length : Int)) % 256] : List Int) : List Int)).bind fun y120 => (if y120.length + l0_5.length < 140737488355328 then (some (y120 ++ l0_5)) else (none))))))
def spec_l3put.T4 : Bool × List (List Nat × List Nat) := (true, [([], []), ([0], [0]), ([1], [1]), ([], []), ([3], [3]), ([4], [4]), ([5], [5]), ([2, 6, 2], [2, 6]), ([], []), ([8], [8]), ([9], [9]), ([10], [10]), ([7, 11, 7], [7, 11]), ([12, 12, 0, 1, 2, 3, 4, 5, 6, 7, 8, 9, 10, 11, 12], [12])])
def spec_l3put.B4 : List Nat := [0, 1, 3, 0, 8, 24, 56, 127, 0, 256, 768, 1792, 4095, 8191]
theorem spec_l3put.tab4 : rtab .any (opsOf Try.f137 4) = spec_l3put.T4 := by kernel_rfl
theorem spec_l3put.bits4 : waitsOk spec_l3put.T4.2 spec_l3put.B4 = true := by kernel_rfl
set_option maxHeartbeats 8000000 in
set_option maxRecDepth 100000 in
theorem spec_l3put.calls (A0_0 : Option Addr) (c0_0 : Nat) (l0_0 : List (List Int)) (a0_1 : Int) (a0_2 : Int) (a0_3 : Int) (A0_4 : Option Addr) (c0_4 : Nat) (l0_4 : List (List Int)) (A0_5 : Option Addr) (c0_5 : Nat) (l0_5 : List Int) (A0_6 : Option Addr) (c0_6 : Nat) (l0_6 : List Int) (r : List Int) (w : World) (hr0_0 : Kd.C (Kd.slice 5 (Kd.int .u8)) w A0_0 l0_0.length l0_0) (hc0_0 : l0_0.length ≤ c0_0) (hr0_4 : Kd.C (Kd.slice 5 (Kd.int .u8)) w A0_4 l0_4.length l0_4) (hc0_4 : l0_4.length ≤ c0_4) (hr0_5 : Kd.C (Kd.int .u8) w A0_5 l0_5.length l0_5) (hc0_5 : l0_5.length ≤ c0_5) (hr0_6 : Kd.C (Kd.int .i64) w A0_6 l0_6.length l0_6) (hc0_6 : l0_6.length ≤ c0_6) (h : spec_l3put.f l0_0 a0_1 a0_2 a0_3 l0_4 l0_5 l0_6 = some r) :
  Calls Try.prog 137 #[.agg #[.slice A0_0 l0_0.length c0_0, .int .i64 a0_1, .int .i64 a0_2, .int .i64 a0_3, .slice A0_4 l0_4.length c0_4, .slice A0_5 l0_5.length c0_5, .slice A0_6 l0_6.length c0_6]] w fun e w' => ∃ v0_ : Value, e = .returned (v0_) ∧ Kd.R (Kd.int .u8) 5 w' w.heap.size (fun _ => True) v0_ r ∧ Below w.heap.size w w' := by
 have hu33 := Try.underlying33
 have hu31 := Try.underlying31
 have HR0_0 := ak hr0_0
 have HC0_0 := ak hc0_0
 clear hr0_0 hc0_0
 have HR0_4 := ak hr0_4
 have HC0_4 := ak hc0_4
 clear hr0_4 hc0_4
 have HR0_5 := ak hr0_5
 have HC0_5 := ak hc0_5
 clear hr0_5 hc0_5
 have HR0_6 := ak hr0_6
 have HC0_6 := ak hc0_6
 clear hr0_6 hc0_6
 have HB := ak (Below.refl w.heap.size w)
 have H : (if a0_1 = 1 then ((spec_Put32.f ([] : List Int) a0_3).bind fun t102 => (some t102)) else (if a0_1 = 6 then ((spec_l2put.f ([] : List Int) l0_4).bind fun t105 => (if 0 < (l0_6.length : Int) then ((spec_Put32.f t105 (rd l0_6 0)).bind fun t109 => (if 1 < (l0_6.length : Int) then ((spec_Put32.f t109 (rd l0_6 1)).bind fun t113 => (some t113)) else (none))) else (none))) else ((spec_l3named.f a0_1).bind fun t116 => (if t116 = true then ((spec_l2put.f ([] : List Int) l0_4).bind fun t117 => (some t117)) else ((some (([((l0_5.length : Int)) % 256] : List Int) : List Int)).bind fun y120 => (if y120.length + l0_5.length < 140737488355328 then (some (y120 ++ l0_5)) else (none))))))) = some r := h
 clear h
 replace H := ie H
 obtain ⟨c2b0, c2b1, H⟩ | ⟨c2b0, c2b1, H⟩ := H
 ·replace H := bnd H
  obtain ⟨t102, A3, H⟩ := H
  obtain rfl := Option.some.inj H
  go_enter Try.func137, Try.ntmps137
  go_wp2_with (first | ((with_reducible refine gate_dst (N := 1) rfl ?_);refine bxd (N := 1) rfl HB ?_;clear HB;intro gb101 w4 hg HB BK101 GE101 hb;have GW101 := GE101;clear hb hg;obtain ⟨hcz5_0, hcz5_1, hcz5_2, hcz5_3, hcz5_4, hcz5_5, hcz5_6, hfz5_0, hfz5_1, hfz5_2, hfz5_3, hfz5_4, hfz5_5, hfz5_6⟩ := cells7 BK101.out) | ((with_reducible refine gate_callee (f := 206) rfl ?_);refine goesL_ (some 9) rfl rfl Try.func206 (by kernel_rfl) rfl #[.slice none 0 0, .int .i64 a0_3] rfl (by (try simp only [List.map_toArray, List.map_cons, List.map_nil]); first | done | rfl | (simp only [List.length_drop, List.length_take]; rfl)) ?_;(refine (spec_Put32.calls _ _ ([] : List Int) a0_3 t102 _ ?side1 ?side2 A3.out).mono ?_);(case side1 => exact Kd.C_nil _ _);(case side2 => exact Nat.le_refl _);rintro e w6 ⟨v103, rfl, ho0, hb⟩;refine ⟨_, rfl, ?_⟩;have HO104 := ak (Kd.R_lower ho0 (below_size bs));replace BK101 := b1 BK101 hb;replace HB := b2s bs hb;(try clear hb);(try clear ho0)))
  go_ret
  exact ⟨_, o1, rw_ HO104.out, bs⟩
 ·replace H := ie H
  obtain ⟨c7b0, c7b1, H⟩ | ⟨c7b0, c7b1, H⟩ := H
  ·replace H := bnd H
   obtain ⟨t105, A8, H⟩ := H
   replace H := ipN H
   obtain ⟨c9b0, H⟩ := H
   have c9b1 : decide (0 < l0_6.length) = true := decide_eq_true (by have := of_decide_eq_true c9b0; omega)
   replace H := bnd H
   obtain ⟨t109, A10, H⟩ := H
   replace H := ipN H
   obtain ⟨c11b0, H⟩ := H
   have c11b1 : decide (1 < l0_6.length) = true := decide_eq_true (by have := of_decide_eq_true c11b0; omega)
   replace H := bnd H
   obtain ⟨t113, A12, H⟩ := H
   obtain rfl := Option.some.inj H
   go_enter Try.func137, Try.ntmps137
   try go_wp2_with (((with_reducible refine gate_dst (N := 1) rfl ?_);refine bxd (N := 1) rfl HB ?_;clear HB;intro gb101 w13 hg HB BK101 GE101 hb;have GW101 := GE101;clear hb hg;obtain ⟨hcz14_0, hcz14_1, hcz14_2, hcz14_3, hcz14_4, hcz14_5, hcz14_6, hfz14_0, hfz14_1, hfz14_2, hfz14_3, hfz14_4, hfz14_5, hfz14_6⟩ := cells7 BK101.out))
   replace BK101 := ak (blk_drew BK101.out)
   replace HB := ak (below_drew1 HB.out)
   have p108 : 0 ≤ (0 : Int) := (by omega)
   have q108 : 0 < (l0_6.length : Int) := of_decide_eq_true (by first | (with_reducible assumption) | assumption)
   obtain ⟨ad108, e108, hx108_0⟩ := Kd.at_int HR0_6.out 0 p108 q108
   have hw108_0 := hx108_0
   (try rw [show ((0 : Int)).toNat = 0 from rfl] at hw108_0)
   (try rw [show 0 * 1 = 0 from rfl] at hw108_0)
   (try rw [Addr.add_zero'] at hw108_0)
   cases e108
   have qi108 : (0 < l0_6.length) = True := eq_true (by omega)
   (try rw [show ((0 : Int)).toNat = 0 from rfl] at hx108_0)
   (try rw [Addr.add_zero'] at hx108_0)
   replace hx108_0 := pw_cell_below HB.out hx108_0
   replace p108 := eq_true p108
   replace q108 := eq_true q108
   have p112 : 0 ≤ (1 : Int) := (by omega)
   have q112 : 1 < (l0_6.length : Int) := of_decide_eq_true (by first | (with_reducible assumption) | assumption)
   obtain ⟨ad112, e112, hx112_0⟩ := Kd.at_int HR0_6.out 1 p112 q112
   have hw112_0 := hx112_0
   (try rw [show ((1 : Int)).toNat = 1 from rfl] at hw112_0)
   (try rw [show 1 * 1 = 1 from rfl] at hw112_0)
   (try simp only [Nat.reduceMul, Nat.reduceEqDiff, Go.Addr.add, ↓reduceIte] at hw112_0)
   obtain rfl : ad108 = ad112 := (by injection e112)
   (try simp only [show (1 : Int).toNat = 1 from rfl, Nat.reduceMul, Nat.reduceEqDiff, Go.Addr.add, ↓reduceIte] at hx112_0)
   have qi112 : (1 < l0_6.length) = True := eq_true (by omega)
   (try rw [show ((1 : Int)).toNat = 1 from rfl] at hx112_0)
   replace hx112_0 := pw_cell_below HB.out hx112_0
   replace p112 := eq_true p112
   replace q112 := eq_true q112
   refine start_ (n := 14) (S := fun w' => w'.cell? ⟨gb101, 0, none⟩ = some (.slice A0_0 l0_0.length c0_0) ∧ w'.cell? ⟨gb101, 1, none⟩ = some (.int .i64 a0_1) ∧ w'.cell? ⟨gb101, 2, none⟩ = some (.int .i64 a0_2) ∧ w'.cell? ⟨gb101, 3, none⟩ = some (.int .i64 a0_3) ∧ w'.cell? ⟨gb101, 4, none⟩ = some (.slice A0_4 l0_4.length c0_4) ∧ w'.cell? ⟨gb101, 5, none⟩ = some (.slice A0_5 l0_5.length c0_5) ∧ w'.cell? ⟨gb101, 6, none⟩ = some (.slice (some ad108) l0_6.length c0_6) ∧ w'.cell? ad108 = some (.int .i64 (rd l0_6 0)) ∧ w'.cell? ⟨ad108.block, ad108.off + 1, none⟩ = some (.int .i64 (rd l0_6 1))) (ds := []) (bA 14 0) (by kernel_rfl) rfl rfl kq (fun hHeld => ?_); refine with_tabW spec_l3put.tab4 spec_l3put.bits4 (fun HT_ HW_ => ?_)
   generalize w13.drew = w15 at BK101 HB hx108_0 hx112_0 hHeld ⊢
   refine pu HT_ 0 ?_
   refine pu HT_ 3 ?_
   refine pu HT_ 8 ?_
   refine ta HT_ HW_ hHeld 1 ?_
   refine ta HT_ HW_ hHeld 4 ?_
   refine pu HT_ 5 ?_
   refine ta HT_ HW_ hHeld 6 ?_
   refine ta HT_ HW_ hHeld 9 ?_
   refine pu HT_ 10 ?_
   refine ta HT_ HW_ hHeld 11 ?_
   refine on HT_ 2 (fun K hK => ?_)
   refine goes_ Try.func77 (by kernel_rfl) rfl #[.slice none 0 0, .agg #[.slice A0_4 l0_4.length c0_4]] (by rfl) rfl rfl (by (try simp only [List.map_toArray, List.map_cons, List.map_nil]); first | done | rfl | (simp only [List.length_drop, List.length_take]; rfl)) ?_
   refine (spec_l2put.calls (fun k_ => some k_ = (.slice none 0 0 : Value).ownBlock) (.slice none 0 0) ([] : List Int) _ _ l0_4 t105 w _ ?side1 ?side2 ?side3 ?side4 A8.out).mono ?_
   (case side1 => repeat (first | (with_reducible first | exact HB.out | apply below_alloc | apply pw_below_drewN | apply below_drew1 | refine below_set ?_ GE101.out) | exact HB.out))
   (case side2 => exact Kd.R_nil _ _ _ _ _)
   (case side3 => exact Kd.C_kept_came (Kd.heap_slice 5 (Kd.heap_int .u8)) HR0_4.out bs (fun k_ hs_ => (fun e_ => by simp [Value.ownBlock] at e_) hs_))
   (case side4 => exact HC0_4.out)
   rintro e w16 ⟨v106, rfl, ho0, hb, hkp⟩
   refine ⟨_, rfl, ?_⟩
   replace BK101 := ak (blk_kept (bk BK101.out) hkp (fun hs_ => (fun e_ => by simp [Value.ownBlock] at e_) hs_))
   have HO107 := ak (Kd.R_mono (ok' := fun k_ => True) ho0 (fun k_ hk_ => trivial))
   replace HB := ak (hb)
   (try clear hb)
   (try clear hkp)
   (try clear ho0)
   obtain ⟨Ao17, co17, eo17⟩ := Kd.R_slice HO107.out
   (first | subst eo17 | (injection eo17 with f1_ f2_ f3_; have f4_ := f1_.symm; have f5_ := f3_.symm; clear f1_ f2_ f3_; subst f4_; subst f5_))
   refine hK.out _ _ ⟨(blk_cell BK101.out 0).trans rfl, (blk_cell BK101.out 1).trans rfl, (blk_cell BK101.out 2).trans rfl, (blk_cell BK101.out 3).trans rfl, (blk_cell BK101.out 4).trans rfl, (blk_cell BK101.out 5).trans rfl, (blk_cell BK101.out 6).trans rfl, (pw_cell_below HB.out hw108_0), (pw_cell_below HB.out hw112_0)⟩ (fun hHeld => ?_)
   clear hK K
   refine norm_ (a' := ?_) ?_ ?_; rotate_left; go_simp; rfl
   refine on HT_ 7 (fun K hK => ?_)
   refine gsG Try.func206 (spec_Put32.calls _ _ t105 (rd l0_6 0) t109 _ ?side1 ?side2 A10.out) ?_
   (case side1 => repeat (first | exact (Kd.R_reads' HO107.out).2.2 | (with_reducible refine Kd.C_alloc ?_ _) | (with_reducible refine Kd.C_drewN ?_ _) | (with_reducible refine Kd.C_drew ?_)))
   (case side2 => exact (Kd.R_reads' HO107.out).2.1)
   rintro e w18 ⟨v110, rfl, ho0, hb⟩
   refine ⟨_, rfl, ?_⟩
   have HO111 := ak (Kd.R_lower (Kd.R_new' ho0 (Kd.R_lt (rw_ HO107.out))) (below_size bs))
   replace HO107 := ak (Kd.R_elder' (rw_ HO107.out) (Kd.R_base ho0) hb)
   replace BK101 := b1 BK101 hb
   replace HB := b2s bs hb
   (try clear hb)
   (try clear ho0)
   obtain ⟨Ao19, co19, eo19⟩ := Kd.R_slice HO111.out
   (first | subst eo19 | (injection eo19 with f1_ f2_ f3_; have f4_ := f1_.symm; have f5_ := f3_.symm; clear f1_ f2_ f3_; subst f4_; subst f5_))
   refine hK.out _ _ ⟨(blk_cell BK101.out 0).trans rfl, (blk_cell BK101.out 1).trans rfl, (blk_cell BK101.out 2).trans rfl, (blk_cell BK101.out 3).trans rfl, (blk_cell BK101.out 4).trans rfl, (blk_cell BK101.out 5).trans rfl, (blk_cell BK101.out 6).trans rfl, (pw_cell_below HB.out hw108_0), (pw_cell_below HB.out hw112_0)⟩ (fun hHeld => ?_)
   clear hK K
   refine norm_ (a' := ?_) ?_ ?_; rotate_left; go_simp; rfl
   refine on HT_ 12 (fun K hK => ?_)
   refine gsG Try.func206 (spec_Put32.calls _ _ t109 (rd l0_6 1) t113 _ ?side1 ?side2 A12.out) ?_
   (case side1 => repeat (first | exact (Kd.R_reads' HO111.out).2.2 | (with_reducible refine Kd.C_alloc ?_ _) | (with_reducible refine Kd.C_drewN ?_ _) | (with_reducible refine Kd.C_drew ?_)))
   (case side2 => exact (Kd.R_reads' HO111.out).2.1)
   rintro e w20 ⟨v114, rfl, ho0, hb⟩
   refine ⟨_, rfl, ?_⟩
   have HO115 := ak (Kd.R_lower (Kd.R_new' (Kd.R_new' ho0 (Kd.R_lt (rw_ HO107.out))) (Kd.R_lt (rw_ HO111.out))) (below_size bs))
   replace HO107 := ak (Kd.R_elder' (rw_ HO107.out) (Kd.R_base ho0) hb)
   replace HO111 := ak (Kd.R_elder' (rw_ HO111.out) (Kd.R_base ho0) hb)
   replace BK101 := b1 BK101 hb
   replace HB := b2s bs hb
   refine hK.out _ _ kp (fun hHeld => ?_)
   (try clear hb)
   (try clear ho0)
   clear hK K
   refine norm_ (a' := ?_) ?_ ?_; rotate_left; go_simp; rfl
   refine pu HT_ 13 ?_
   refine done_ (done_of HT_.out (by kernel_rfl)) ?_
   try go_wp2
   go_ret
   exact ⟨_, o1, by (with_reducible repeat (first | apply Kd.R_alloc | apply Kd.R_drewN | apply Kd.R_drew)); exact Kd.R_mono HO115.out (fun _ hk => trivial), bs⟩
  ·replace H := bnd H
   obtain ⟨t116, A21, H⟩ := H
   replace H := ib H
   obtain ⟨rfl, H⟩ | ⟨rfl, H⟩ := H
   ·replace H := bnd H
    obtain ⟨t117, A23, H⟩ := H
    obtain rfl := Option.some.inj H
    go_enter Try.func137, Try.ntmps137
    go_wp2_with (first | ((with_reducible refine gate_dst (N := 1) rfl ?_);refine bxd (N := 1) rfl HB ?_;clear HB;intro gb101 w24 hg HB BK101 GE101 hb;have GW101 := GE101;clear hb hg;obtain ⟨hcz25_0, hcz25_1, hcz25_2, hcz25_3, hcz25_4, hcz25_5, hcz25_6, hfz25_0, hfz25_1, hfz25_2, hfz25_3, hfz25_4, hfz25_5, hfz25_6⟩ := cells7 BK101.out) | ((with_reducible refine gate_callee (f := 159) rfl ?_);refine glD 30 rfl rfl Try.func159 (spec_l3named.calls a0_1 true _ A21.out) (fun nd => ?_)) | ((with_reducible refine gate_callee (f := 77) rfl ?_);refine goesL_ (some 33) rfl rfl Try.func77 (by kernel_rfl) rfl #[.slice none 0 0, .agg #[.slice A0_4 l0_4.length c0_4]] rfl (by (try simp only [List.map_toArray, List.map_cons, List.map_nil]); first | done | rfl | (simp only [List.length_drop, List.length_take]; rfl)) ?_;(refine (spec_l2put.calls (fun k_ => some k_ = (.slice none 0 0 : Value).ownBlock) (.slice none 0 0) ([] : List Int) _ _ l0_4 t117 w _ ?side1 ?side2 ?side3 ?side4 A23.out).mono ?_);(case side1 => repeat (first | (with_reducible first | exact HB.out | apply below_alloc | apply pw_below_drewN | apply below_drew1 | refine below_set ?_ GE101.out) | exact HB.out));(case side2 => exact Kd.R_nil _ _ _ _ _);(case side3 => exact Kd.C_kept_came (Kd.heap_slice 5 (Kd.heap_int .u8)) HR0_4.out bs (fun k_ hs_ => (fun e_ => by simp [Value.ownBlock] at e_) hs_));(case side4 => exact HC0_4.out);rintro e w26 ⟨v118, rfl, ho0, hb, hkp⟩;refine ⟨_, rfl, ?_⟩;replace BK101 := ak (blk_kept (bk BK101.out) hkp (fun hs_ => (fun e_ => by simp [Value.ownBlock] at e_) hs_));have HO119 := ak (Kd.R_mono (ok' := fun k_ => True) ho0 (fun k_ hk_ => trivial));replace HB := ak (hb);(try clear hb);(try clear hkp);(try clear ho0)))
    go_ret
    exact ⟨_, o1, rw_ HO119.out, bs⟩
   ·obtain ⟨y120, hy120⟩ : ∃ y_ : List Int, y_ = (([((l0_5.length : Int)) % 256] : List Int)) := ⟨_, rfl⟩
    (try with_reducible replace H := bnS H)
    (try rw [← hy120] at H)
    have Ny120 := ak hy120
    clear hy120
    by_cases c27 : y120.length + l0_5.length < 140737488355328
    ·rw [if_pos c27] at H
     have LMc27 := ak c27
     clear c27
     obtain ⟨y123, hy123⟩ : ∃ y_ : List Int, y_ = (y120 ++ l0_5) := ⟨_, rfl⟩
     (try with_reducible replace H := bnS H)
     (try rw [← hy123] at H)
     have Ny123 := ak hy123
     clear hy123
     obtain rfl := Option.some.inj H
     go_enter Try.func137, Try.ntmps137
     go_wp2_with (first | ((with_reducible refine gate_dst (N := 1) rfl ?_);refine bxd (N := 1) rfl HB ?_;clear HB;intro gb101 w28 hg HB BK101 GE101 hb;have GW101 := GE101;clear hb hg;obtain ⟨hcz29_0, hcz29_1, hcz29_2, hcz29_3, hcz29_4, hcz29_5, hcz29_6, hfz29_0, hfz29_1, hfz29_2, hfz29_3, hfz29_4, hfz29_5, hfz29_6⟩ := cells7 BK101.out) | ((with_reducible refine gate_callee (f := 159) rfl ?_);refine glD 30 rfl rfl Try.func159 (spec_l3named.calls a0_1 false _ A21.out) (fun nd => ?_)) | ((with_reducible refine gate_dst (N := 38) rfl ?_);refine Kd.R_lit (Kd.int .u8) _ 5 ?hg (N := 38) ?hd (xs := ([((l0_5.length : Int)) % 256] : List Int)) (inner := [.int .u8 (((l0_5.length : Int)) % 256)]) (ok := fun _ => True) (okp := fun _ => True) ?hr ?hp (fun _ hk => hk) trivial (Below.refl _ _) (Nat.le_refl _) (by simp) ?_;(case hd => rfl);(case hg => rfl);(case hr => first | (go_simp; done) | (go_simp; rfl));(case hp => exact (Reps.one (show Kd.M (Kd.int .u8) _ _ _ (((l0_5.length : Int)) % 256) [.int .u8 (((l0_5.length : Int)) % 256)] from rfl) (Reps.none _ _)));intro v121 w30 ho31 hb hg_ hnew_;clear hg_ hnew_;(first | rw [← Ny120.out] at ho31 | (simp only [Int.reduceToNat] at ho31; rw [← Ny120.out] at ho31));have HO122 := ak (Kd.R_lower ho31 (below_size bs));replace BK101 := b1 BK101 hb;replace HB := b2s bs hb;clear hb ho31;obtain ⟨hcz32_0, hcz32_1, hcz32_2, hcz32_3, hcz32_4, hcz32_5, hcz32_6, hfz32_0, hfz32_1, hfz32_2, hfz32_3, hfz32_4, hfz32_5, hfz32_6⟩ := cells7 BK101.out) | ((with_reducible refine gate_builtin (b := .append) (xs := #[.tmp 38, .tmp 40]) rfl ?_);at_builtin;refine Kd.R_append_rows (Kd.int .u8) (w0 := w) w.heap.size rfl (.tmp 38) (.tmp 40) 25 5 (.int .u8 0) 1 rfl Try.underlying25 info5 rfl (by decide) (by omega) v121 y120 l0_5 _ _ _ (fun _ => True) (fun _ => False) rfl rfl ?aO ?aR (fun _ _ h => h) (fun _ h => h.elim) ?aF ?aB ?aS ?aL ?_;(case aR => exact cw HR0_5.out HB.out);(case aB => exact bs);(case aF => exact (fun _ _ => trivial));(case aO => exact (rw_ HO122.out));(case aS => exact (below_size bs));(case aL => have := LMc27.out; omega);intro v124 w33 ho hb hg hat;rw [← Ny123.out] at ho;replace BK101 := ak (blk_grown (bk BK101.out) hg (Kd.R_ne HO122.out BK101.out (by decide)));replace HB := ak (hb);have HO125 := ak (ho);clear HO122;clear ho hb hg hat))
     go_ret
     exact ⟨_, o1, rw_ HO125.out, bs⟩
    ·rw [if_neg c27] at H
     exact absurd H (by simp)

/-! ### spec_l3cmp: function 61 -/
def spec_l3cmp.j0 : Nat → Int → List (List Int) → Int → Int → Int → List (List Int) → List Int → List Int → List (List Int) → Int → Int → Int → List (List Int) → List Int → List Int → Option (Int)
 | 0, _, _, _, _, _, _, _, _, _, _, _, _, _, _, _ => none
 | k + 1, x5, x102000, x102001, x102002, x102003, x102004, x102005, x102006, x103000, x103001, x103002, x103003, x103004, x103005, x103006 => if x5 = 0 then ((spec_l3put.f x102000 x102001 x102002 x102003 x102004 x102005 x102006).bind fun t105 => ((spec_l3put.f x103000 x103001 x103002 x103003 x103004 x103005 x103006).bind fun t108 => ((spec_l2bytes.f t105 t108).bind fun t111 => (some t111)))) else (some x5)
def spec_l3cmp.f (k : Nat) (l0_0 : List (List Int)) (a0_1 : Int) (a0_2 : Int) (a0_3 : Int) (l0_4 : List (List Int)) (l0_5 : List Int) (l0_6 : List Int) (l1_0 : List (List Int)) (a1_1 : Int) (a1_2 : Int) (a1_3 : Int) (l1_4 : List (List Int)) (l1_5 : List Int) (l1_6 : List Int) : Option (Int) := (spec_l2cmp.f k l0_0 l1_0).bind fun t103 => (if t103 = 0 then ((spec_l3num.f a0_1 a1_1).bind fun t104 => (spec_l3cmp.j0 k t104 l0_0 a0_1 a0_2 a0_3 l0_4 l0_5 l0_6 l1_0 a1_1 a1_2 a1_3 l1_4 l1_5 l1_6)) else (spec_l3cmp.j0 k t103 l0_0 a0_1 a0_2 a0_3 l0_4 l0_5 l0_6 l1_0 a1_1 a1_2 a1_3 l1_4 l1_5 l1_6))
theorem spec_l3cmp.mono_l : ∀ k, (∀ y0 y1 y2 y3 y4 y5 y6 y7 y8 y9 y10 y11 y12 y13 y14, LeO (spec_l3cmp.j0 k y0 y1 y2 y3 y4 y5 y6 y7 y8 y9 y10 y11 y12 y13 y14) (spec_l3cmp.j0 (k + 1) y0 y1 y2 y3 y4 y5 y6 y7 y8 y9 y10 y11 y12 y13 y14))
 | 0 => fun _ _ _ _ _ _ _ _ _ _ _ _ _ _ _ r h => by simp [spec_l3cmp.j0] at h
 | k + 1 => by
  have ih0 := spec_l3cmp.mono_l k
  ·intro y0 y1 y2 y3 y4 y5 y6 y7 y8 y9 y10 y11 y12 y13 y14
   unfold spec_l3cmp.j0
   repeat' first
   | (with_reducible exact ih0 _ _ _ _ _ _ _ _ _ _ _ _ _ _ _)
   | (with_reducible exact spec_l2cmp.mono _ _ _)
   | (with_reducible exact LeO.refl _)
   | (with_reducible exact LeO.none _)
   | (with_reducible refine LeO.ite ?_ ?_)
   | (with_reducible refine LeO.bind ?_ (fun _ => ?_))
   | exact ih0 _ _ _ _ _ _ _ _ _ _ _ _ _ _ _
   | exact spec_l2cmp.mono _ _ _
   | exact LeO.none _
   | refine LeO.ite ?_ ?_
   | refine LeO.bind ?_ (fun _ => ?_)
theorem spec_l3cmp.mono : ∀ a0 a1 a2 a3 a4 a5 a6 a7 a8 a9 a10 a11 a12 a13 k, LeO (spec_l3cmp.f k a0 a1 a2 a3 a4 a5 a6 a7 a8 a9 a10 a11 a12 a13) (spec_l3cmp.f (k + 1) a0 a1 a2 a3 a4 a5 a6 a7 a8 a9 a10 a11 a12 a13) := by
 intro a0 a1 a2 a3 a4 a5 a6 a7 a8 a9 a10 a11 a12 a13 k
 have ih0 := spec_l3cmp.mono_l k
 unfold spec_l3cmp.f
 repeat' first
   | (with_reducible exact ih0 _ _ _ _ _ _ _ _ _ _ _ _ _ _ _)
   | (with_reducible exact spec_l2cmp.mono _ _ _)
   | (with_reducible exact LeO.refl _)
   | (with_reducible exact LeO.none _)
   | (with_reducible refine LeO.ite ?_ ?_)
   | (with_reducible refine LeO.bind ?_ (fun _ => ?_))
   | exact ih0 _ _ _ _ _ _ _ _ _ _ _ _ _ _ _
   | exact spec_l2cmp.mono _ _ _
   | exact LeO.none _
   | refine LeO.ite ?_ ?_
   | refine LeO.bind ?_ (fun _ => ?_)
set_option maxHeartbeats 8000000 in
set_option maxRecDepth 100000 in
theorem spec_l3cmp.calls (k : Nat) (A0_0 : Option Addr) (c0_0 : Nat) (l0_0 : List (List Int)) (a0_1 : Int) (a0_2 : Int) (a0_3 : Int) (A0_4 : Option Addr) (c0_4 : Nat) (l0_4 : List (List Int)) (A0_5 : Option Addr) (c0_5 : Nat) (l0_5 : List Int) (A0_6 : Option Addr) (c0_6 : Nat) (l0_6 : List Int) (A1_0 : Option Addr) (c1_0 : Nat) (l1_0 : List (List Int)) (a1_1 : Int) (a1_2 : Int) (a1_3 : Int) (A1_4 : Option Addr) (c1_4 : Nat) (l1_4 : List (List Int)) (A1_5 : Option Addr) (c1_5 : Nat) (l1_5 : List Int) (A1_6 : Option Addr) (c1_6 : Nat) (l1_6 : List Int) (r : Int) (w : World) (hr0_0 : Kd.C (Kd.slice 5 (Kd.int .u8)) w A0_0 l0_0.length l0_0) (hc0_0 : l0_0.length ≤ c0_0) (hr0_4 : Kd.C (Kd.slice 5 (Kd.int .u8)) w A0_4 l0_4.length l0_4) (hc0_4 : l0_4.length ≤ c0_4) (hr0_5 : Kd.C (Kd.int .u8) w A0_5 l0_5.length l0_5) (hc0_5 : l0_5.length ≤ c0_5) (hr0_6 : Kd.C (Kd.int .i64) w A0_6 l0_6.length l0_6) (hc0_6 : l0_6.length ≤ c0_6) (hr1_0 : Kd.C (Kd.slice 5 (Kd.int .u8)) w A1_0 l1_0.length l1_0) (hc1_0 : l1_0.length ≤ c1_0) (hr1_4 : Kd.C (Kd.slice 5 (Kd.int .u8)) w A1_4 l1_4.length l1_4) (hc1_4 : l1_4.length ≤ c1_4) (hr1_5 : Kd.C (Kd.int .u8) w A1_5 l1_5.length l1_5) (hc1_5 : l1_5.length ≤ c1_5) (hr1_6 : Kd.C (Kd.int .i64) w A1_6 l1_6.length l1_6) (hc1_6 : l1_6.length ≤ c1_6) (h : spec_l3cmp.f k l0_0 a0_1 a0_2 a0_3 l0_4 l0_5 l0_6 l1_0 a1_1 a1_2 a1_3 l1_4 l1_5 l1_6 = some r) :
  Calls Try.prog 61 #[.agg #[.slice A0_0 l0_0.length c0_0, .int .i64 a0_1, .int .i64 a0_2, .int .i64 a0_3, .slice A0_4 l0_4.length c0_4, .slice A0_5 l0_5.length c0_5, .slice A0_6 l0_6.length c0_6], .agg #[.slice A1_0 l1_0.length c1_0, .int .i64 a1_1, .int .i64 a1_2, .int .i64 a1_3, .slice A1_4 l1_4.length c1_4, .slice A1_5 l1_5.length c1_5, .slice A1_6 l1_6.length c1_6]] w fun e w' => e = .returned (.int .i64 r) ∧ Below w.heap.size w w' := by
 have hu33 := Try.underlying33
 have hu31 := Try.underlying31
 have HR0_0 := ak hr0_0
 have HC0_0 := ak hc0_0
 clear hr0_0 hc0_0
 have HR0_4 := ak hr0_4
 have HC0_4 := ak hc0_4
 clear hr0_4 hc0_4
 have HR0_5 := ak hr0_5
 have HC0_5 := ak hc0_5
 clear hr0_5 hc0_5
 have HR0_6 := ak hr0_6
 have HC0_6 := ak hc0_6
 clear hr0_6 hc0_6
 have HR1_0 := ak hr1_0
 have HC1_0 := ak hc1_0
 clear hr1_0 hc1_0
 have HR1_4 := ak hr1_4
 have HC1_4 := ak hc1_4
 clear hr1_4 hc1_4
 have HR1_5 := ak hr1_5
 have HC1_5 := ak hc1_5
 clear hr1_5 hc1_5
 have HR1_6 := ak hr1_6
 have HC1_6 := ak hc1_6
 clear hr1_6 hc1_6
 have HB := ak (Below.refl w.heap.size w)
 have H : ((spec_l2cmp.f k l0_0 l1_0).bind fun t103 => (if t103 = 0 then ((spec_l3num.f a0_1 a1_1).bind fun t104 => (spec_l3cmp.j0 k t104 l0_0 a0_1 a0_2 a0_3 l0_4 l0_5 l0_6 l1_0 a1_1 a1_2 a1_3 l1_4 l1_5 l1_6)) else (spec_l3cmp.j0 k t103 l0_0 a0_1 a0_2 a0_3 l0_4 l0_5 l0_6 l1_0 a1_1 a1_2 a1_3 l1_4 l1_5 l1_6))) = some r := h
 clear h
 replace H := bnd H
 obtain ⟨t103, A3, H⟩ := H
 have HC4 := ak H
 clear H
 go_enter Try.func61, Try.ntmps61
 go_upto_if 12 with (first | ((with_reducible refine gate_dst (N := 2) rfl ?_);refine bxd (N := 2) rfl HB ?_;clear HB;intro gb101 w5 hg HB BK101 GE101 hb;have GW101 := GE101;clear hb hg) | ((with_reducible refine gate_dst (N := 3) rfl ?_);refine bxe (N := 3) rfl ?_;intro gb102 hg w6 hbox hb;have BK102 := ak (hbox);have GW102 := b3s hg bs;have GE102 := GW102;replace HB := b2s bs hb;have NB101_102 := b4 hg BK101;have NB102_101 := b5 hg BK101;replace BK101 := b1 BK101 hb;clear hb hbox hg;have hnb7 := NB101_102.out;have hnc7 := NB102_101.out;obtain ⟨hcz8_0, hcz8_1, hcz8_2, hcz8_3, hcz8_4, hcz8_5, hcz8_6, hfz8_0, hfz8_1, hfz8_2, hfz8_3, hfz8_4, hfz8_5, hfz8_6⟩ := cells7 BK101.out;obtain ⟨hcz9_0, hcz9_1, hcz9_2, hcz9_3, hcz9_4, hcz9_5, hcz9_6, hfz9_0, hfz9_1, hfz9_2, hfz9_3, hfz9_4, hfz9_5, hfz9_6⟩ := cells7 BK102.out) | ((with_reducible refine gate_callee (f := 98) rfl ?_);refine glB 10 rfl rfl Try.func98 (spec_l2cmp.calls k _ _ l0_0 _ _ l1_0 t103 _ (cv HR0_0 HB) HC0_0.out (cv HR1_0 HB) HC1_0.out A3.out) (fun w10 hb => ?_);replace BK101 := b1 BK101 hb;replace BK102 := b1 BK102 hb;replace HB := b2s bs hb;(try clear hb)))
 (try simp only [Act.put, List.setIfInBounds_toArray, List.set_cons_zero, List.set_cons_succ])
 go_cut [5] (fun v5 wc => ∃ (kq : Nat) (x5_3 : Int), v5 = .int .i64 x5_3 ∧ Aside0 (spec_l3cmp.j0 kq x5_3 l0_0 a0_1 a0_2 a0_3 l0_4 l0_5 l0_6 l1_0 a1_1 a1_2 a1_3 l1_4 l1_5 l1_6 = some r) ∧ Aside0 (kq ≤ k) ∧ Aside0 (wc.heap[gb101]? = some (.cells #[(.slice A0_0 l0_0.length c0_0), .int .i64 a0_1, .int .i64 a0_2, .int .i64 a0_3, (.slice A0_4 l0_4.length c0_4), (.slice A0_5 l0_5.length c0_5), (.slice A0_6 l0_6.length c0_6)] 33 (0, 0))) ∧ Aside0 (wc.heap[gb102]? = some (.cells #[(.slice A1_0 l1_0.length c1_0), .int .i64 a1_1, .int .i64 a1_2, .int .i64 a1_3, (.slice A1_4 l1_4.length c1_4), (.slice A1_5 l1_5.length c1_5), (.slice A1_6 l1_6.length c1_6)] 33 (0, 0))) ∧ Aside0 (Below w.heap.size w wc))
 case first =>
  have H := HC4.out
  clear HC4
  replace H := ie H
  obtain ⟨c11b0, c11b1, H⟩ | ⟨c11b0, c11b1, H⟩ := H
  ·(first | rw [c11b0] | (simp only [i64_w, i32_w]; rw [c11b0]) | skip)
   replace H := bnd H
   obtain ⟨t104, A12, H⟩ := H
   have H' := ak H
   clear H
   have hnb13 := NB101_102.out
   have hnc13 := NB102_101.out
   obtain ⟨hcz14_0, hcz14_1, hcz14_2, hcz14_3, hcz14_4, hcz14_5, hcz14_6, hfz14_0, hfz14_1, hfz14_2, hfz14_3, hfz14_4, hfz14_5, hfz14_6⟩ := cells7 BK101.out
   obtain ⟨hcz15_0, hcz15_1, hcz15_2, hcz15_3, hcz15_4, hcz15_5, hcz15_6, hfz15_0, hfz15_1, hfz15_2, hfz15_3, hfz15_4, hfz15_5, hfz15_6⟩ := cells7 BK102.out
   go_wp2_with (((with_reducible refine gate_callee (f := 135) rfl ?_);refine glD 17 rfl rfl Try.func135 (spec_l3num.calls a0_1 a1_1 t104 _ A12.out) (fun nd => ?_)))
   go_meet
   case rel => exact ⟨_, (t104), o2, H', ⟨o3⟩, ⟨bk BK101.out⟩, ⟨bk BK102.out⟩, ⟨bs⟩⟩
  ·(first | rw [c11b0] | (simp only [i64_w, i32_w]; rw [c11b0]) | skip)
   have H' := ak H
   clear H
   go_wp2
   go_meet
   case rel => exact ⟨_, (t103), o2, H', ⟨o3⟩, ⟨bk BK101.out⟩, ⟨bk BK102.out⟩, ⟨bs⟩⟩
 case rest =>
  clear HC4
  (try clear hcz8_0)
  (try clear hcz8_1)
  (try clear hcz8_2)
  (try clear hcz8_3)
  (try clear hcz8_4)
  (try clear hcz8_5)
  (try clear hcz8_6)
  (try clear hcz9_0)
  (try clear hcz9_1)
  (try clear hcz9_2)
  (try clear hcz9_3)
  (try clear hcz9_4)
  (try clear hcz9_5)
  (try clear hcz9_6)
  (try clear hfz8_0)
  (try clear hfz8_1)
  (try clear hfz8_2)
  (try clear hfz8_3)
  (try clear hfz8_4)
  (try clear hfz8_5)
  (try clear hfz8_6)
  (try clear hfz9_0)
  (try clear hfz9_1)
  (try clear hfz9_2)
  (try clear hfz9_3)
  (try clear hfz9_4)
  (try clear hfz9_5)
  (try clear hfz9_6)
  obtain ⟨kq, x5_3, rfl, HA, HJ3, BK101, BK102, HB⟩ := hcut
  cases kq with
  | zero => exact absurd HA.out (by simp [spec_l3cmp.j0])
  | succ kj3 =>
   have H := HA.out
   clear HA
   simp only [spec_l3cmp.j0] at H
   replace H := ie H
   obtain ⟨c16b0, c16b1, H⟩ | ⟨c16b0, c16b1, H⟩ := H
   ·replace H := bnd H
    obtain ⟨t105, A17, H⟩ := H
    replace H := bnd H
    obtain ⟨t108, A18, H⟩ := H
    replace H := bnd H
    obtain ⟨t111, A19, H⟩ := H
    obtain rfl := Option.some.inj H
    try go_wp2
    replace BK101 := ak (blk_drew BK101.out)
    replace BK102 := ak (blk_drew BK102.out)
    replace HB := ak (below_drew1 HB.out)
    refine start_ (n := 6) (S := fun w' => w'.cell? ⟨gb101, 0, none⟩ = some (.slice A0_0 l0_0.length c0_0) ∧ w'.cell? ⟨gb101, 1, none⟩ = some (.int .i64 a0_1) ∧ w'.cell? ⟨gb101, 2, none⟩ = some (.int .i64 a0_2) ∧ w'.cell? ⟨gb101, 3, none⟩ = some (.int .i64 a0_3) ∧ w'.cell? ⟨gb101, 4, none⟩ = some (.slice A0_4 l0_4.length c0_4) ∧ w'.cell? ⟨gb101, 5, none⟩ = some (.slice A0_5 l0_5.length c0_5) ∧ w'.cell? ⟨gb101, 6, none⟩ = some (.slice A0_6 l0_6.length c0_6) ∧ w'.cell? ⟨gb102, 0, none⟩ = some (.slice A1_0 l1_0.length c1_0) ∧ w'.cell? ⟨gb102, 1, none⟩ = some (.int .i64 a1_1) ∧ w'.cell? ⟨gb102, 2, none⟩ = some (.int .i64 a1_2) ∧ w'.cell? ⟨gb102, 3, none⟩ = some (.int .i64 a1_3) ∧ w'.cell? ⟨gb102, 4, none⟩ = some (.slice A1_4 l1_4.length c1_4) ∧ w'.cell? ⟨gb102, 5, none⟩ = some (.slice A1_5 l1_5.length c1_5) ∧ w'.cell? ⟨gb102, 6, none⟩ = some (.slice A1_6 l1_6.length c1_6)) (ds := []) (bA 6 0) (by kernel_rfl) rfl rfl ⟨(blk_cell BK101.out 0).trans rfl, (blk_cell BK101.out 1).trans rfl, (blk_cell BK101.out 2).trans rfl, (blk_cell BK101.out 3).trans rfl, (blk_cell BK101.out 4).trans rfl, (blk_cell BK101.out 5).trans rfl, (blk_cell BK101.out 6).trans rfl, (blk_cell BK102.out 0).trans rfl, (blk_cell BK102.out 1).trans rfl, (blk_cell BK102.out 2).trans rfl, (blk_cell BK102.out 3).trans rfl, (blk_cell BK102.out 4).trans rfl, (blk_cell BK102.out 5).trans rfl, (blk_cell BK102.out 6).trans rfl⟩ (fun hHeld => ?_)
    generalize wc.drew = w20 at BK101 BK102 HB hHeld ⊢
    refine take_ (i := 0) (N := some 20) (v := ?_) (a' := ?_) (bA 6 1) rfl rfl (by kernel_rfl) (fun _ _ _ h => h) (Or.inl ⟨by rfl, ?_⟩) hHeld ?_ ?_
    rotate_left; rintro w' ⟨s0, s1, s2, s3, s4, s5, s6, s7, s8, s9, s10, s11, s12, s13⟩; go_simp; with_reducible rfl; rotate_left; go_simp; rfl
    refine take_ (i := 2) (N := some 22) (v := ?_) (a' := ?_) (bA 6 5) rfl rfl (by kernel_rfl) (fun _ _ _ h => h) (Or.inl ⟨by rfl, ?_⟩) hHeld ?_ ?_
    rotate_left; rintro w' ⟨s0, s1, s2, s3, s4, s5, s6, s7, s8, s9, s10, s11, s12, s13⟩; go_simp; with_reducible rfl; rotate_left; go_simp; rfl
    refine one_ (i := 1) (N := some 21) (bA 6 7) rfl rfl (by kernel_rfl) (by decide) (fun K hK => ?_)
    refine gsG Try.func137 (spec_l3put.calls _ _ l0_0 a0_1 a0_2 a0_3 _ _ l0_4 _ _ l0_5 _ _ l0_6 t105 _ (cv HR0_0 HB) HC0_0.out (cv HR0_4 HB) HC0_4.out (cv HR0_5 HB) HC0_5.out (cv HR0_6 HB) HC0_6.out A17.out) ?_
    rintro e w21 ⟨v106, rfl, ho0, hb⟩
    refine ⟨_, rfl, ?_⟩
    have HO107 := ak (Kd.R_lower ho0 (below_size bs))
    replace BK101 := b1 BK101 hb
    replace BK102 := b1 BK102 hb
    replace HB := b2s bs hb
    refine hK.out _ _ kp (fun hHeld => ?_)
    (try clear hb)
    (try clear ho0)
    clear hK K
    refine norm_ (a' := ?_) ?_ ?_; rotate_left; go_simp; rfl
    refine one_ (i := 3) (N := some 23) (bA 6 15) rfl rfl (by kernel_rfl) (by decide) (fun K hK => ?_)
    refine gsG Try.func137 (spec_l3put.calls _ _ l1_0 a1_1 a1_2 a1_3 _ _ l1_4 _ _ l1_5 _ _ l1_6 t108 _ (cv HR1_0 HB) HC1_0.out (cv HR1_4 HB) HC1_4.out (cv HR1_5 HB) HC1_5.out (cv HR1_6 HB) HC1_6.out A18.out) ?_
    rintro e w22 ⟨v109, rfl, ho0, hb⟩
    refine ⟨_, rfl, ?_⟩
    have HO110 := ak (Kd.R_lower (Kd.R_new' ho0 (Kd.R_lt (rw_ HO107.out))) (below_size bs))
    replace HO107 := ak (Kd.R_elder' (rw_ HO107.out) (Kd.R_base ho0) hb)
    replace BK101 := b1 BK101 hb
    replace BK102 := b1 BK102 hb
    replace HB := b2s bs hb
    (try clear hb)
    (try clear ho0)
    obtain ⟨Ao23, co23, eo23⟩ := Kd.R_slice HO107.out
    (first | subst eo23 | (injection eo23 with f1_ f2_ f3_; have f4_ := f1_.symm; have f5_ := f3_.symm; clear f1_ f2_ f3_; subst f4_; subst f5_))
    obtain ⟨Ao24, co24, eo24⟩ := Kd.R_slice HO110.out
    (first | subst eo24 | (injection eo24 with f1_ f2_ f3_; have f4_ := f1_.symm; have f5_ := f3_.symm; clear f1_ f2_ f3_; subst f4_; subst f5_))
    refine hK.out _ _ ⟨(blk_cell BK101.out 0).trans rfl, (blk_cell BK101.out 1).trans rfl, (blk_cell BK101.out 2).trans rfl, (blk_cell BK101.out 3).trans rfl, (blk_cell BK101.out 4).trans rfl, (blk_cell BK101.out 5).trans rfl, (blk_cell BK101.out 6).trans rfl, (blk_cell BK102.out 0).trans rfl, (blk_cell BK102.out 1).trans rfl, (blk_cell BK102.out 2).trans rfl, (blk_cell BK102.out 3).trans rfl, (blk_cell BK102.out 4).trans rfl, (blk_cell BK102.out 5).trans rfl, (blk_cell BK102.out 6).trans rfl⟩ (fun hHeld => ?_)
    clear hK K
    refine norm_ (a' := ?_) ?_ ?_; rotate_left; go_simp; rfl
    refine one_ (i := 4) (N := some 24) (bA 6 31) rfl rfl (by kernel_rfl) (by decide) (fun K hK => ?_)
    refine gsG Try.func136 (spec_l2bytes.calls _ _ t105 _ _ t108 t111 _ ?side1 ?side2 ?side3 ?side4 A19.out) ?_
    (case side1 => repeat (first | exact (Kd.R_reads' HO107.out).2.2 | (with_reducible refine Kd.C_alloc ?_ _) | (with_reducible refine Kd.C_drewN ?_ _) | (with_reducible refine Kd.C_drew ?_)))
    (case side2 => exact (Kd.R_reads' HO107.out).2.1)
    (case side3 => repeat (first | exact (Kd.R_reads' HO110.out).2.2 | (with_reducible refine Kd.C_alloc ?_ _) | (with_reducible refine Kd.C_drewN ?_ _) | (with_reducible refine Kd.C_drew ?_)))
    (case side4 => exact (Kd.R_reads' HO110.out).2.1)
    rintro e w' ⟨rfl, ⟨nd, rfl⟩⟩
    refine ⟨_, rfl, ?_⟩
    refine hK.out _ _ ⟨(blk_cell BK101.out 0).trans rfl, (blk_cell BK101.out 1).trans rfl, (blk_cell BK101.out 2).trans rfl, (blk_cell BK101.out 3).trans rfl, (blk_cell BK101.out 4).trans rfl, (blk_cell BK101.out 5).trans rfl, (blk_cell BK101.out 6).trans rfl, (blk_cell BK102.out 0).trans rfl, (blk_cell BK102.out 1).trans rfl, (blk_cell BK102.out 2).trans rfl, (blk_cell BK102.out 3).trans rfl, (blk_cell BK102.out 4).trans rfl, (blk_cell BK102.out 5).trans rfl, (blk_cell BK102.out 6).trans rfl⟩ (fun hHeld => ?_)
    clear hK K
    refine norm_ (a' := ?_) ?_ ?_; rotate_left; go_simp; rfl
    refine pure_ (i := 5) (N := some 5) (v := ?_) (a' := ?_) (bA 6 63) rfl rfl (by kernel_rfl) (fun _ _ _ h => h) (Or.inl ⟨by rfl, ?_⟩) ?_ ?_
    rotate_left; intro w'; go_simp; with_reducible rfl; rotate_left; go_simp; rfl
    refine done_ (by kernel_rfl) ?_
    try go_wp2
    go_ret
    exact ⟨o1, bs⟩
   ·obtain rfl := Option.some.inj H
    go_wp2
    go_ret
    exact ⟨o1, bs⟩

/-! ### spec_l2under: function 96 -/
def spec_l2under.f (k : Nat) (l0_0 : List (List Int)) (l1_0 : List (List Int)) : Option (Bool) := if (wrap64 ((l0_0.length : Int) - (l1_0.length : Int))) ≥ 0 then (if 0 ≤ (wrap64 ((l0_0.length : Int) - (l1_0.length : Int))) then (if (wrap64 ((l0_0.length : Int) - (l1_0.length : Int))) ≤ (l0_0.length : Int) then ((spec_l2cmp.f k (l0_0.drop ((wrap64 ((l0_0.length : Int) - (l1_0.length : Int))) : Int).toNat) l1_0).bind fun t107 => (some (t107 == 0))) else (none)) else (none)) else (some false)
theorem spec_l2under.mono : ∀ a0 a1 k, LeO (spec_l2under.f k a0 a1) (spec_l2under.f (k + 1) a0 a1) := by
 intro a0 a1 k
 unfold spec_l2under.f
 repeat' first
   | (with_reducible exact spec_l2cmp.mono _ _ _)
   | (with_reducible exact LeO.refl _)
   | (with_reducible exact LeO.none _)
   | (with_reducible refine LeO.ite ?_ ?_)
   | (with_reducible refine LeO.bind ?_ (fun _ => ?_))
   | exact spec_l2cmp.mono _ _ _
   | exact LeO.none _
   | refine LeO.ite ?_ ?_
   | refine LeO.bind ?_ (fun _ => ?_)
def spec_l2under.T2 : Bool × List (List Nat × List Nat) := (true, [([], []), ([0], [0]), ([1], [1]), ([2], [2]), ([3, 2], [2, 3]), ([2], [2]), ([4, 5, 2], [2, 4, 5]), ([6, 2], [2, 6]), ([2], [2]), ([7, 8, 2, 2], [2, 7, 8]), ([9, 2], [2, 9]), ([2, 10], [2, 10]), ([11, 9, 0, 1, 2, 3, 4, 5, 6, 7, 8, 9, 10, 11], [11])])
def spec_l2under.B2 : List Nat := [0, 1, 3, 7, 15, 7, 63, 127, 7, 511, 1023, 2047, 4095]
theorem spec_l2under.tab2 : rtab .any (opsOf Try.f96 2) = spec_l2under.T2 := by kernel_rfl
theorem spec_l2under.bits2 : waitsOk spec_l2under.T2.2 spec_l2under.B2 = true := by kernel_rfl
set_option maxHeartbeats 8000000 in
set_option maxRecDepth 100000 in
theorem spec_l2under.calls (k : Nat) (A0_0 : Option Addr) (c0_0 : Nat) (l0_0 : List (List Int)) (A1_0 : Option Addr) (c1_0 : Nat) (l1_0 : List (List Int)) (r : Bool) (w : World) (hr0_0 : Kd.C (Kd.slice 5 (Kd.int .u8)) w A0_0 l0_0.length l0_0) (hc0_0 : l0_0.length ≤ c0_0) (hr1_0 : Kd.C (Kd.slice 5 (Kd.int .u8)) w A1_0 l1_0.length l1_0) (hc1_0 : l1_0.length ≤ c1_0) (h : spec_l2under.f k l0_0 l1_0 = some r) :
  Calls Try.prog 96 #[.agg #[.slice A0_0 l0_0.length c0_0], .agg #[.slice A1_0 l1_0.length c1_0]] w fun e w' => e = .returned (.bool r) ∧ Below w.heap.size w w' := by
 have hu31 := Try.underlying31
 have HR0_0 := ak hr0_0
 have HC0_0 := ak hc0_0
 clear hr0_0 hc0_0
 have HR1_0 := ak hr1_0
 have HC1_0 := ak hc1_0
 clear hr1_0 hc1_0
 have HB := ak (Below.refl w.heap.size w)
 have H : (if (wrap64 ((l0_0.length : Int) - (l1_0.length : Int))) ≥ 0 then (if 0 ≤ (wrap64 ((l0_0.length : Int) - (l1_0.length : Int))) then (if (wrap64 ((l0_0.length : Int) - (l1_0.length : Int))) ≤ (l0_0.length : Int) then ((spec_l2cmp.f k (l0_0.drop ((wrap64 ((l0_0.length : Int) - (l1_0.length : Int))) : Int).toNat) l1_0).bind fun t107 => (some (t107 == 0))) else (none)) else (none)) else (some false)) = some r := h
 clear h
 replace H := ih H
 obtain ⟨c3b0, H⟩ | ⟨c3b0, H⟩ := H
 ·obtain ⟨ji4, hji4⟩ : ∃ j_ : Int, (wrap64 ((l0_0.length : Int) - (l1_0.length : Int))) = j_ := ⟨_, rfl⟩
  (first | rw [hji4] at H | simp only [hji4] at H)
  (try rw [hji4] at c3b0)
  have hji4w : (IntKind.i64.wrap ((l0_0.length : Int) - (l1_0.length : Int))) = ji4 := (i64_w _).trans hji4
  replace H := ipE H
  obtain ⟨c5b0, c5b1, H⟩ := H
  replace H := ipE H
  obtain ⟨c6b0, c6b1, H⟩ := H
  obtain ⟨y103, hy103⟩ : ∃ y_ : List (List Int), y_ = (l0_0.drop ((ji4) : Int).toNat) := ⟨_, rfl⟩
  (try with_reducible replace H := bnS H)
  (try rw [← hy103] at H)
  have Ny103 := ak hy103
  clear hy103
  replace H := bnd H
  obtain ⟨t107, A7, H⟩ := H
  obtain rfl := Option.some.inj H
  go_enter Try.func96, Try.ntmps96
  try go_wp2_with (first | ((with_reducible refine gate_dst (N := 2) rfl ?_);refine bxd (N := 2) rfl HB ?_;clear HB;intro gb101 w8 hg HB BK101 GE101 hb;have GW101 := GE101;clear hb hg) | ((with_reducible refine gate_dst (N := 3) rfl ?_);refine bxe (N := 3) rfl ?_;intro gb102 hg w9 hbox hb;have BK102 := ak (hbox);have GW102 := b3s hg bs;have GE102 := GW102;replace HB := b2s bs hb;have NB101_102 := b4 hg BK101;have NB102_101 := b5 hg BK101;replace BK101 := b1 BK101 hb;clear hb hbox hg;have hnb10 := NB101_102.out;have hnc10 := NB102_101.out;obtain ⟨hcz11_0, hfz11_0⟩ := cells1 BK101.out;obtain ⟨hcz12_0, hfz12_0⟩ := cells1 BK102.out))
  replace BK101 := ak (blk_drew BK101.out)
  replace BK102 := ak (blk_drew BK102.out)
  replace HB := ak (below_drew1 HB.out)
  have q14 : ((ji4) : Int) ≤ ((l0_0.length : Int) : Int) := of_decide_eq_true (by first | (with_reducible assumption) | assumption)
  obtain ⟨i014, hi014, _, hsz14, _⟩ := info_parts info25
  have hroom14 : l0_0.length ≤ c0_0 := HC0_0.out
  have hC14 : Kd.C (Kd.slice 5 (Kd.int .u8)) _ A0_0 l0_0.length l0_0 := HR0_0.out
  have q014 : (0 : Int) ≤ ((ji4) : Int) := of_decide_eq_true (by first | (with_reducible assumption) | assumption)
  have hcut14 := cut_from (P := Try.prog) 22 25 .i64 Try.underlying22 hi014 1 hsz14 A0_0 l0_0.length c0_0 (ji4) q014 q14
  have hr14 := Kd.C_drop (m := ((ji4) : Int).toNat) (c := c0_0) hC14 (by omega) hroom14
  obtain ⟨A14, hA14⟩ : ∃ A1, A1 = (if c0_0 = ((ji4) : Int).toNat then A0_0 else (A0_0 : Option Addr).map (·.add (((ji4) : Int).toNat * 1))) := ⟨_, rfl⟩
  obtain ⟨c14, hc14⟩ : ∃ c1, c1 = c0_0 - ((ji4) : Int).toNat := ⟨_, rfl⟩
  have hy14 : y103.length = l0_0.length - ((ji4) : Int).toNat := (by rw [Ny103.out, List.length_drop] <;> omega)
  rw [show (l0_0).drop ((ji4) : Int).toNat = y103 from Ny103.out.symm] at hr14
  replace hr14 : Kd.C (Kd.slice 5 (Kd.int .u8)) _ A14 y103.length y103 := (by rw [hA14]; exact hr14)
  rw [← hy14, ← hA14, ← hc14] at hcut14
  have HR106 := ak hr14
  have HC106 := ak (show y103.length ≤ c14 from by rw [hy14, hc14]; exact Nat.sub_le_sub_right hroom14 _)
  clear hr14 hC14 hroom14 hi014 hsz14 hc14
  have KY14 := ak hy14
  have KA14 := ak hA14
  clear hy14 hA14
  replace q14 := eq_true q14
  refine start_ (n := 13) (S := fun w' => w'.cell? ⟨gb101, 0, none⟩ = some (.slice A0_0 l0_0.length c0_0) ∧ w'.cell? ⟨gb102, 0, none⟩ = some (.slice A1_0 l1_0.length c1_0)) (ds := []) (bA 13 0) (by kernel_rfl) rfl rfl kq (fun hHeld => ?_); refine with_tabW spec_l2under.tab2 spec_l2under.bits2 (fun HT_ HW_ => ?_)
  generalize w9.drew = w13 at BK101 BK102 HB HR106 hHeld ⊢
  refine pu HT_ 0 ?_
  refine pu HT_ 1 ?_
  refine pu HT_ 2 ?_
  refine pu HT_ 3 ?_
  refine pu HT_ 5 ?_
  refine ta HT_ HW_ hHeld 4 ?_
  refine pu HT_ 6 ?_
  refine pu HT_ 7 ?_
  refine ta HT_ HW_ hHeld 8 ?_
  refine on HT_ 9 (fun K hK => ?_)
  refine gsB Try.func98 (spec_l2cmp.calls k _ _ y103 _ _ l1_0 t107 _ (cv HR106 HB) HC106.out (cv HR1_0 HB) HC1_0.out A7.out) (fun w15 hb => ?_)
  replace BK101 := b1 BK101 hb
  replace BK102 := b1 BK102 hb
  replace HB := b2s bs hb
  refine hK.out _ _ kp (fun hHeld => ?_)
  (try clear hb)
  clear hK K
  refine norm_ (a' := ?_) ?_ ?_; rotate_left; go_simp; rfl
  refine pu HT_ 10 ?_
  refine pu HT_ 11 ?_
  refine pu HT_ 12 ?_
  refine done_ (done_of HT_.out (by kernel_rfl)) ?_
  try go_wp2
  go_ret
  exact ⟨by first | rfl | (simp [errW_none, errW_some] <;> rfl) | (simp only [← hji4]; first | rfl | (simp [errW_none, errW_some] <;> rfl)) | (simp [*, errW_none, errW_some] <;> rfl), bs⟩
 ·obtain rfl := Option.some.inj H
  go_enter Try.func96, Try.ntmps96
  try go_wp2_with (first | ((with_reducible refine gate_dst (N := 2) rfl ?_);refine bxd (N := 2) rfl HB ?_;clear HB;intro gb101 w16 hg HB BK101 GE101 hb;have GW101 := GE101;clear hb hg) | ((with_reducible refine gate_dst (N := 3) rfl ?_);refine bxe (N := 3) rfl ?_;intro gb102 hg w17 hbox hb;have BK102 := ak (hbox);have GW102 := b3s hg bs;have GE102 := GW102;replace HB := b2s bs hb;have NB101_102 := b4 hg BK101;have NB102_101 := b5 hg BK101;replace BK101 := b1 BK101 hb;clear hb hbox hg;have hnb18 := NB101_102.out;have hnc18 := NB102_101.out;obtain ⟨hcz19_0, hfz19_0⟩ := cells1 BK101.out;obtain ⟨hcz20_0, hfz20_0⟩ := cells1 BK102.out))
  replace BK101 := ak (blk_drew BK101.out)
  replace BK102 := ak (blk_drew BK102.out)
  replace HB := ak (below_drew1 HB.out)
  refine start_ (n := 13) (S := fun w' => True) (ds := []) (bA 13 0) (by kernel_rfl) rfl rfl trivial (fun hHeld => ?_); refine with_tabW spec_l2under.tab2 spec_l2under.bits2 (fun HT_ HW_ => ?_)
  generalize w17.drew = w21 at BK101 BK102 HB hHeld ⊢
  refine pu HT_ 0 ?_
  refine pu HT_ 1 ?_
  refine pu HT_ 2 ?_
  refine sk HT_ 3 ?_
  refine sk HT_ 4 ?_
  refine sk HT_ 5 ?_
  refine sk HT_ 6 ?_
  refine sk HT_ 7 ?_
  refine sk HT_ 8 ?_
  refine sk HT_ 9 ?_
  refine sk HT_ 10 ?_
  refine pu HT_ 11 ?_
  refine pu HT_ 12 ?_
  refine done_ (done_of HT_.out (by kernel_rfl)) ?_
  try go_wp2
  go_ret
  exact ⟨o1, bs⟩

/-! ### spec_l5alone: function 97 -/
mutual
def spec_l5alone.l0 : Nat → List (S33) → Int → Int → Option (Bool)
 | 0, _, _, _ => none
 | k + 1, x0, x1, x5 => if x5 < (x0.length : Int) then (if x5 = x1 then (spec_l5alone.j1 k x0 x1 x5 false) else (if 0 ≤ x5 then (if 0 ≤ x1 then (if x1 < (x0.length : Int) then ((spec_l2cmp.f k ((rd_T33 x0 x5).f0.f0) ((rd_T33 x0 x1).f0.f0)).bind fun t104 => (spec_l5alone.j1 k x0 x1 x5 (t104 == 0))) else (none)) else (none)) else (none))) else (some true)
def spec_l5alone.j1 : Nat → List (S33) → Int → Int → Bool → Option (Bool)
 | 0, _, _, _, _ => none
 | k + 1, x0, x1, x5, x34 => if x34 = true then (some false) else (spec_l5alone.l0 k x0 x1 (wrap64 (x5 + 1)))
end
def spec_l5alone.f (k : Nat) (l0 : List (S33)) (a1 : Int) : Option (Bool) := if 0 ≤ a1 then (if a1 < (l0.length : Int) then (if ((rd_T33 l0 a1).f1) = 5 then (spec_l5alone.l0 k l0 a1 0) else (some true)) else (none)) else (none)
theorem spec_l5alone.mono_l : ∀ k, (∀ y0 y1 y2, LeO (spec_l5alone.l0 k y0 y1 y2) (spec_l5alone.l0 (k + 1) y0 y1 y2)) ∧ (∀ y0 y1 y2 y3, LeO (spec_l5alone.j1 k y0 y1 y2 y3) (spec_l5alone.j1 (k + 1) y0 y1 y2 y3))
 | 0 => ⟨fun _ _ _ r h => by simp [spec_l5alone.l0] at h, fun _ _ _ _ r h => by simp [spec_l5alone.j1] at h⟩
 | k + 1 => by
  obtain ⟨ih0, ih1⟩ := spec_l5alone.mono_l k
  refine ⟨?_, ?_⟩
  ·intro y0 y1 y2
   unfold spec_l5alone.l0
   repeat' first
   | (with_reducible exact ih0 _ _ _)
   | (with_reducible exact ih1 _ _ _ _)
   | (with_reducible exact spec_l2cmp.mono _ _ _)
   | (with_reducible exact LeO.refl _)
   | (with_reducible exact LeO.none _)
   | (with_reducible refine LeO.ite ?_ ?_)
   | (with_reducible refine LeO.bind ?_ (fun _ => ?_))
   | exact ih0 _ _ _
   | exact ih1 _ _ _ _
   | exact spec_l2cmp.mono _ _ _
   | exact LeO.none _
   | refine LeO.ite ?_ ?_
   | refine LeO.bind ?_ (fun _ => ?_)
  ·intro y0 y1 y2 y3
   unfold spec_l5alone.j1
   repeat' first
   | (with_reducible exact ih0 _ _ _)
   | (with_reducible exact ih1 _ _ _ _)
   | (with_reducible exact spec_l2cmp.mono _ _ _)
   | (with_reducible exact LeO.refl _)
   | (with_reducible exact LeO.none _)
   | (with_reducible refine LeO.ite ?_ ?_)
   | (with_reducible refine LeO.bind ?_ (fun _ => ?_))
   | exact ih0 _ _ _
   | exact ih1 _ _ _ _
   | exact spec_l2cmp.mono _ _ _
   | exact LeO.none _
   | refine LeO.ite ?_ ?_
   | refine LeO.bind ?_ (fun _ => ?_)
theorem spec_l5alone.mono : ∀ a0 a1 k, LeO (spec_l5alone.f k a0 a1) (spec_l5alone.f (k + 1) a0 a1) := by
 intro a0 a1 k
 obtain ⟨ih0, ih1⟩ := spec_l5alone.mono_l k
 unfold spec_l5alone.f
 repeat' first
   | (with_reducible exact ih0 _ _ _)
   | (with_reducible exact ih1 _ _ _ _)
   | (with_reducible exact spec_l2cmp.mono _ _ _)
   | (with_reducible exact LeO.refl _)
   | (with_reducible exact LeO.none _)
   | (with_reducible refine LeO.ite ?_ ?_)
   | (with_reducible refine LeO.bind ?_ (fun _ => ?_))
   | exact ih0 _ _ _
   | exact ih1 _ _ _ _
   | exact spec_l2cmp.mono _ _ _
   | exact LeO.none _
   | refine LeO.ite ?_ ?_
   | refine LeO.bind ?_ (fun _ => ?_)
def spec_l5alone.T6 : Bool × List (List Nat × List Nat) := (true, [([], []), ([], []), ([0, 1], [0, 1]), ([2], [2]), ([3], [3]), ([3], [3]), ([4, 5, 3], [3, 4, 5]), ([6, 3], [3, 6]), ([7, 3], [3, 7]), ([3], [3]), ([3], [3]), ([9, 10, 3], [3, 9, 10]), ([11, 3], [3, 11]), ([12, 3], [3, 12]), ([8, 13, 3, 3], [3, 8, 13]), ([14, 3], [3, 14]), ([3, 15], [3, 15])])
def spec_l5alone.B6 : List Nat := [0, 0, 3, 7, 15, 15, 63, 127, 255, 15, 15, 1551, 3599, 7695, 16383, 32767, 65535]
theorem spec_l5alone.tab6 : rtab .any (opsOf Try.f97 6) = spec_l5alone.T6 := by kernel_rfl
theorem spec_l5alone.bits6 : waitsOk spec_l5alone.T6.2 spec_l5alone.B6 = true := by kernel_rfl
set_option maxHeartbeats 8000000 in
set_option maxRecDepth 100000 in
theorem spec_l5alone.calls (k : Nat) (A0 : Option Addr) (c0 : Nat) (l0 : List (S33)) (a1 : Int) (r : Bool) (w : World) (hr0 : Kd.C k33 w A0 l0.length l0) (hc0 : l0.length ≤ c0) (h : spec_l5alone.f k l0 a1 = some r) :
  Calls Try.prog 97 #[.slice A0 l0.length c0, .int .i64 a1] w fun e w' => e = .returned (.bool r) ∧ Below w.heap.size w w' := by
 have hu31 := Try.underlying31
 have HR0 := ak hr0
 have HC0 := ak hc0
 clear hr0 hc0
 have HB := ak (Below.refl w.heap.size w)
 have H : (if 0 ≤ a1 then (if a1 < (l0.length : Int) then (if ((rd_T33 l0 a1).f1) = 5 then (spec_l5alone.l0 k l0 a1 0) else (some true)) else (none)) else (none)) = some r := h
 clear h
 replace H := ipN H
 obtain ⟨c3b0, H⟩ := H
 replace H := ipN H
 obtain ⟨c4b0, H⟩ := H
 replace H := ie H
 obtain ⟨c5b0, c5b1, H⟩ | ⟨c5b0, c5b1, H⟩ := H
 ·have H' := ak H
  clear H
  obtain ⟨ad101, A101_0, c101_0, A101_4, c101_4, A101_5, c101_5, A101_6, c101_6, rfl, hx101_0, hx101_1, hx101_2, hx101_3, hx101_4, hx101_5, hx101_6, HC101_0, HR101_0, HC101_4, HR101_4, HC101_5, HR101_5, HC101_6, HR101_6, p101, q101⟩ := el0_T33 HR0 a1
  go_enter Try.func97, Try.ntmps97
  go_wp2
  go_loopg [5] k (fun kq v5 w' => ∃ (x5_1 : Int), v5 = .int .i64 x5_1 ∧ Aside0 (spec_l5alone.l0 kq l0 a1 x5_1 = some r) ∧ Aside0 (kq ≤ k) ∧ Aside0 (Below w.heap.size w w'))
  case atStart => exact ⟨(0), o2, H', ⟨Nat.le_refl _⟩, ⟨bw HB.out⟩⟩
  case round =>
   clear H'
   (try clear c3b0)
   (try clear c4b0)
   (try clear c5b0)
   (try clear c5b1)
   (try clear hx101_0)
   (try clear hx101_1)
   (try clear hx101_2)
   (try clear hx101_3)
   (try clear hx101_4)
   (try clear hx101_5)
   (try clear hx101_6)
   (try clear p101)
   (try clear q101)
   obtain ⟨x5_1, rfl, HA, HK1, HB⟩ := hrel
   cases gk with
   | zero => exact absurd HA.out (by simp [spec_l5alone.l0])
   | succ k1 =>
    have H := HA.out
    clear HA
    simp only [spec_l5alone.l0] at H
    replace H := ip H
    obtain ⟨c6b0, H⟩ | ⟨c6b0, H⟩ := H
    ·have HC7 := ak H
     clear H
     go_upto_region 6 with (fail)
     go_cut [34] (fun v34 wc => ∃ (kq : Nat) (x34_6 : Bool), v34 = .bool x34_6 ∧ Aside0 (spec_l5alone.j1 kq l0 a1 x5_1 x34_6 = some r) ∧ Aside0 (kq ≤ k1) ∧ Aside0 (Below w.heap.size w wc))
     case first =>
      have H := HC7.out
      clear HC7
      replace H := ie H
      obtain ⟨c8b0, c8b1, H⟩ | ⟨c8b0, c8b1, H⟩ := H
      ·(first | rw [c8b0] | (simp only [i64_w, i32_w]; rw [c8b0]) | skip)
       have H' := ak H
       clear H
       try go_wp2
       replace HB := ak (below_drew1 HB.out)
       refine start_ (n := 17) (S := fun w' => True) (ds := []) (bA 17 0) (by kernel_rfl) rfl rfl trivial (fun hHeld => ?_); refine with_tabW spec_l5alone.tab6 spec_l5alone.bits6 (fun HT_ HW_ => ?_)
       generalize wr.drew = w9 at HB hHeld ⊢
       refine pu HT_ 0 ?_
       refine pu HT_ 1 ?_
       refine pu HT_ 2 ?_
       refine pu HT_ 3 ?_
       refine sk HT_ 4 ?_
       refine sk HT_ 5 ?_
       refine sk HT_ 6 ?_
       refine sk HT_ 7 ?_
       refine sk HT_ 8 ?_
       refine sk HT_ 9 ?_
       refine sk HT_ 10 ?_
       refine sk HT_ 11 ?_
       refine sk HT_ 12 ?_
       refine sk HT_ 13 ?_
       refine sk HT_ 14 ?_
       refine sk HT_ 15 ?_
       refine pu HT_ 16 ?_
       refine done_ (done_of HT_.out (by kernel_rfl)) ?_
       try go_wp2
       go_meet
       case rel => exact ⟨_, (false), o2, H', ⟨by have := HK1.out; first | omega | exact Nat.le_refl _⟩, ⟨bw HB.out⟩⟩
      ·(first | rw [c8b0] | (simp only [i64_w, i32_w]; rw [c8b0]) | skip)
       replace H := ipN H
       obtain ⟨c10b0, H⟩ := H
       replace H := ipN H
       obtain ⟨c11b0, H⟩ := H
       replace H := ipN H
       obtain ⟨c12b0, H⟩ := H
       replace H := bnd H
       obtain ⟨t104, A13, H⟩ := H
       have H' := ak H
       clear H
       try go_wp2
       replace HB := ak (below_drew1 HB.out)
       obtain ⟨A102_0, c102_0, A102_4, c102_4, A102_5, c102_5, A102_6, c102_6, hw102_0, hw102_1, hw102_2, hw102_3, hw102_4, hw102_5, hw102_6, hx102_0, hx102_1, hx102_2, hx102_3, hx102_4, hx102_5, hx102_6, HC102_0, HR102_0, HC102_4, HR102_4, HC102_5, HR102_5, HC102_6, HR102_6, p102, q102⟩ := el2w_T33 HR0 HB x5_1
       obtain ⟨A103_0, c103_0, A103_4, c103_4, A103_5, c103_5, A103_6, c103_6, hw103_0, hw103_1, hw103_2, hw103_3, hw103_4, hw103_5, hw103_6, hx103_0, hx103_1, hx103_2, hx103_3, hx103_4, hx103_5, hx103_6, HC103_0, HR103_0, HC103_4, HR103_4, HC103_5, HR103_5, HC103_6, HR103_6, p103, q103⟩ := el2w_T33 HR0 HB a1
       refine start_ (n := 17) (S := fun w' => w'.cell? (ad101.add ((x5_1).toNat * 7)) = some (.slice A102_0 ((rd_T33 l0 x5_1).f0.f0).length c102_0) ∧ w'.cell? ⟨(ad101.add ((x5_1).toNat * 7)).block, (ad101.add ((x5_1).toNat * 7)).off + 1, none⟩ = some (.int .i64 ((rd_T33 l0 x5_1).f1)) ∧ w'.cell? ⟨(ad101.add ((x5_1).toNat * 7)).block, (ad101.add ((x5_1).toNat * 7)).off + 2, none⟩ = some (.int .i64 ((rd_T33 l0 x5_1).f2)) ∧ w'.cell? ⟨(ad101.add ((x5_1).toNat * 7)).block, (ad101.add ((x5_1).toNat * 7)).off + 3, none⟩ = some (.int .i64 ((rd_T33 l0 x5_1).f3)) ∧ w'.cell? ⟨(ad101.add ((x5_1).toNat * 7)).block, (ad101.add ((x5_1).toNat * 7)).off + 4, none⟩ = some (.slice A102_4 ((rd_T33 l0 x5_1).f4.f0).length c102_4) ∧ w'.cell? ⟨(ad101.add ((x5_1).toNat * 7)).block, (ad101.add ((x5_1).toNat * 7)).off + 5, none⟩ = some (.slice A102_5 ((rd_T33 l0 x5_1).f5).length c102_5) ∧ w'.cell? ⟨(ad101.add ((x5_1).toNat * 7)).block, (ad101.add ((x5_1).toNat * 7)).off + 6, none⟩ = some (.slice A102_6 ((rd_T33 l0 x5_1).f6).length c102_6) ∧ w'.cell? (ad101.add ((a1).toNat * 7)) = some (.slice A103_0 ((rd_T33 l0 a1).f0.f0).length c103_0) ∧ w'.cell? ⟨(ad101.add ((a1).toNat * 7)).block, (ad101.add ((a1).toNat * 7)).off + 1, none⟩ = some (.int .i64 ((rd_T33 l0 a1).f1)) ∧ w'.cell? ⟨(ad101.add ((a1).toNat * 7)).block, (ad101.add ((a1).toNat * 7)).off + 2, none⟩ = some (.int .i64 ((rd_T33 l0 a1).f2)) ∧ w'.cell? ⟨(ad101.add ((a1).toNat * 7)).block, (ad101.add ((a1).toNat * 7)).off + 3, none⟩ = some (.int .i64 ((rd_T33 l0 a1).f3)) ∧ w'.cell? ⟨(ad101.add ((a1).toNat * 7)).block, (ad101.add ((a1).toNat * 7)).off + 4, none⟩ = some (.slice A103_4 ((rd_T33 l0 a1).f4.f0).length c103_4) ∧ w'.cell? ⟨(ad101.add ((a1).toNat * 7)).block, (ad101.add ((a1).toNat * 7)).off + 5, none⟩ = some (.slice A103_5 ((rd_T33 l0 a1).f5).length c103_5) ∧ w'.cell? ⟨(ad101.add ((a1).toNat * 7)).block, (ad101.add ((a1).toNat * 7)).off + 6, none⟩ = some (.slice A103_6 ((rd_T33 l0 a1).f6).length c103_6)) (ds := []) (bA 17 0) (by kernel_rfl) rfl rfl kq (fun hHeld => ?_); refine with_tabW spec_l5alone.tab6 spec_l5alone.bits6 (fun HT_ HW_ => ?_)
       generalize wr.drew = w14 at HB HR102_0 HR102_4 HR102_5 HR102_6 HR103_0 HR103_4 HR103_5 HR103_6 hx102_0 hx102_1 hx102_2 hx102_3 hx102_4 hx102_5 hx102_6 hx103_0 hx103_1 hx103_2 hx103_3 hx103_4 hx103_5 hx103_6 hHeld ⊢
       refine pu HT_ 0 ?_
       refine pu HT_ 1 ?_
       refine pu HT_ 2 ?_
       refine pu HT_ 3 ?_
       refine pu HT_ 4 ?_
       refine pu HT_ 5 ?_
       refine pu HT_ 6 ?_
       refine pu HT_ 7 ?_
       refine pu HT_ 9 ?_
       refine pu HT_ 10 ?_
       refine pu HT_ 11 ?_
       refine pu HT_ 12 ?_
       refine ta HT_ HW_ hHeld 8 ?_
       refine ta HT_ HW_ hHeld 13 ?_
       refine on HT_ 14 (fun K hK => ?_)
       refine gsB Try.func98 (spec_l2cmp.calls k1 _ _ ((rd_T33 l0 x5_1).f0.f0) _ _ ((rd_T33 l0 a1).f0.f0) t104 _ (cv HR102_0 HB) HC102_0.out (cv HR103_0 HB) HC103_0.out A13.out) (fun w15 hb => ?_)
       replace HB := b2 HB hb
       refine hK.out _ _ kp (fun hHeld => ?_)
       (try clear hb)
       clear hK K
       refine norm_ (a' := ?_) ?_ ?_; rotate_left; go_simp; rfl
       refine pu HT_ 15 ?_
       refine pu HT_ 16 ?_
       refine done_ (done_of HT_.out (by kernel_rfl)) ?_
       try go_wp2
       go_meet
       case rel => exact ⟨_, ((t104 == 0)), o2, H', ⟨by have := HK1.out; first | omega | exact Nat.le_refl _⟩, ⟨bw HB.out⟩⟩
     case rest =>
      clear HC7
      (try clear c3b0)
      (try clear c4b0)
      (try clear c5b0)
      (try clear c5b1)
      (try clear c6b0)
      (try clear hx101_0)
      (try clear hx101_1)
      (try clear hx101_2)
      (try clear hx101_3)
      (try clear hx101_4)
      (try clear hx101_5)
      (try clear hx101_6)
      (try clear p101)
      (try clear q101)
      obtain ⟨kq, x34_6, rfl, HA, HJ6, HB⟩ := hcut
      cases kq with
      | zero => exact absurd HA.out (by simp [spec_l5alone.j1])
      | succ kj6 =>
       have H := HA.out
       clear HA
       simp only [spec_l5alone.j1] at H
       replace H := ib H
       obtain ⟨rfl, H⟩ | ⟨rfl, H⟩ := H
       ·obtain rfl := Option.some.inj H
        go_wp2
        go_ret
        exact ⟨o1, bw HB.out⟩
       ·have H' := ak H
        clear H
        go_wp2
        go_roundg kj6
        case measure => have := HK1.out; have := HJ6.out; omega
        case rel => exact ⟨(wrap64 (x5_1 + 1)), o2, H', ⟨by have := HK1.out; have := HJ6.out; omega⟩, ⟨bw HB.out⟩⟩
    ·obtain rfl := Option.some.inj H
     go_wp2
     go_ret
     exact ⟨o1, bw HB.out⟩
 ·obtain rfl := Option.some.inj H
  obtain ⟨ad101, A101_0, c101_0, A101_4, c101_4, A101_5, c101_5, A101_6, c101_6, rfl, hx101_0, hx101_1, hx101_2, hx101_3, hx101_4, hx101_5, hx101_6, HC101_0, HR101_0, HC101_4, HR101_4, HC101_5, HR101_5, HC101_6, HR101_6, p101, q101⟩ := el0_T33 HR0 a1
  go_enter Try.func97, Try.ntmps97
  go_wp2
  go_ret
  exact ⟨o1, bw HB.out⟩

/-! ### spec_ZoneOk: function 35 -/
mutual
def spec_ZoneOk.j0 : Nat → Bool → List (List Int) → List (S33) → Option (Bool)
 | 0, _, _, _ => none
 | k + 1, x15, x102000, x102001 => if x15 = true then (some false) else (spec_ZoneOk.l0 k 0 0 x102000 x102001)
def spec_ZoneOk.l0 : Nat → Int → Int → List (List Int) → List (S33) → Option (Bool)
 | 0, _, _, _, _ => none
 | k + 1, x3, x4, x102000, x102001 => if x4 < (x102001.length : Int) then (if 0 ≤ x4 then ((spec_RrOk.f k ((rd_T33 x102001 x4).f0.f0) ((rd_T33 x102001 x4).f1) ((rd_T33 x102001 x4).f2) ((rd_T33 x102001 x4).f3) ((rd_T33 x102001 x4).f4.f0) ((rd_T33 x102001 x4).f5) ((rd_T33 x102001 x4).f6)).bind fun t105 => (if t105 = true then ((spec_l2under.f k ((rd_T33 x102001 x4).f0.f0) x102000).bind fun t106 => (if t106 = true then (if x4 > 0 then (if 0 ≤ (wrap64 (x4 - 1)) then (if (wrap64 (x4 - 1)) < (x102001.length : Int) then ((spec_l3cmp.f k ((rd_T33 x102001 (wrap64 (x4 - 1))).f0.f0) ((rd_T33 x102001 (wrap64 (x4 - 1))).f1) ((rd_T33 x102001 (wrap64 (x4 - 1))).f2) ((rd_T33 x102001 (wrap64 (x4 - 1))).f3) ((rd_T33 x102001 (wrap64 (x4 - 1))).f4.f0) ((rd_T33 x102001 (wrap64 (x4 - 1))).f5) ((rd_T33 x102001 (wrap64 (x4 - 1))).f6) ((rd_T33 x102001 x4).f0.f0) ((rd_T33 x102001 x4).f1) ((rd_T33 x102001 x4).f2) ((rd_T33 x102001 x4).f3) ((rd_T33 x102001 x4).f4.f0) ((rd_T33 x102001 x4).f5) ((rd_T33 x102001 x4).f6)).bind fun t108 => (if t108 ≥ 0 then (spec_ZoneOk.j2 k x3 x4 true x102000 x102001 ((rd_T33 x102001 x4).f0.f0) ((rd_T33 x102001 x4).f1) ((rd_T33 x102001 x4).f2) ((rd_T33 x102001 x4).f3) ((rd_T33 x102001 x4).f4.f0) ((rd_T33 x102001 x4).f5) ((rd_T33 x102001 x4).f6)) else ((spec_l5alone.f k x102001 x4).bind fun t109 => (spec_ZoneOk.j2 k x3 x4 (!t109) x102000 x102001 ((rd_T33 x102001 x4).f0.f0) ((rd_T33 x102001 x4).f1) ((rd_T33 x102001 x4).f2) ((rd_T33 x102001 x4).f3) ((rd_T33 x102001 x4).f4.f0) ((rd_T33 x102001 x4).f5) ((rd_T33 x102001 x4).f6))))) else (none)) else (none)) else ((spec_l5alone.f k x102001 x4).bind fun t110 => (spec_ZoneOk.j2 k x3 x4 (!t110) x102000 x102001 ((rd_T33 x102001 x4).f0.f0) ((rd_T33 x102001 x4).f1) ((rd_T33 x102001 x4).f2) ((rd_T33 x102001 x4).f3) ((rd_T33 x102001 x4).f4.f0) ((rd_T33 x102001 x4).f5) ((rd_T33 x102001 x4).f6)))) else (spec_ZoneOk.j2 k x3 x4 true x102000 x102001 ((rd_T33 x102001 x4).f0.f0) ((rd_T33 x102001 x4).f1) ((rd_T33 x102001 x4).f2) ((rd_T33 x102001 x4).f3) ((rd_T33 x102001 x4).f4.f0) ((rd_T33 x102001 x4).f5) ((rd_T33 x102001 x4).f6)))) else (spec_ZoneOk.j2 k x3 x4 true x102000 x102001 ((rd_T33 x102001 x4).f0.f0) ((rd_T33 x102001 x4).f1) ((rd_T33 x102001 x4).f2) ((rd_T33 x102001 x4).f3) ((rd_T33 x102001 x4).f4.f0) ((rd_T33 x102001 x4).f5) ((rd_T33 x102001 x4).f6)))) else (none)) else (some (x3 == 1))
def spec_ZoneOk.j2 : Nat → Int → Int → Bool → List (List Int) → List (S33) → List (List Int) → Int → Int → Int → List (List Int) → List Int → List Int → Option (Bool)
 | 0, _, _, _, _, _, _, _, _, _, _, _, _ => none
 | k + 1, x3, x4, x60, x102000, x102001, x105000, x105001, x105002, x105003, x105004, x105005, x105006 => if x60 = true then (some false) else (if x105001 = 6 then ((spec_l2cmp.f k x105000 x102000).bind fun t111 => (if t111 = 0 then (spec_ZoneOk.l0 k (wrap64 (x3 + 1)) (wrap64 (x4 + 1)) x102000 x102001) else (some false))) else (spec_ZoneOk.l0 k x3 (wrap64 (x4 + 1)) x102000 x102001))
end
def spec_ZoneOk.f (k : Nat) (l0_0 : List (List Int)) (l0_1 : List (S33)) : Option (Bool) := (spec_NameOk.f k l0_0).bind fun t102 => (if t102 = true then (spec_ZoneOk.j0 k (decide ((l0_1.length : Int) > 60)) l0_0 l0_1) else (spec_ZoneOk.j0 k true l0_0 l0_1))
theorem spec_ZoneOk.mono_l : ∀ k, (∀ y0 y1 y2, LeO (spec_ZoneOk.j0 k y0 y1 y2) (spec_ZoneOk.j0 (k + 1) y0 y1 y2)) ∧ (∀ y0 y1 y2 y3, LeO (spec_ZoneOk.l0 k y0 y1 y2 y3) (spec_ZoneOk.l0 (k + 1) y0 y1 y2 y3)) ∧ (∀ y0 y1 y2 y3 y4 y5 y6 y7 y8 y9 y10 y11, LeO (spec_ZoneOk.j2 k y0 y1 y2 y3 y4 y5 y6 y7 y8 y9 y10 y11) (spec_ZoneOk.j2 (k + 1) y0 y1 y2 y3 y4 y5 y6 y7 y8 y9 y10 y11))
 | 0 => ⟨fun _ _ _ r h => by simp [spec_ZoneOk.j0] at h, fun _ _ _ _ r h => by simp [spec_ZoneOk.l0] at h, fun _ _ _ _ _ _ _ _ _ _ _ _ r h => by simp [spec_ZoneOk.j2] at h⟩
 | k + 1 => by
  obtain ⟨ih0, ih1, ih2⟩ := spec_ZoneOk.mono_l k
  refine ⟨?_, ?_, ?_⟩
  ·intro y0 y1 y2
   unfold spec_ZoneOk.j0
   repeat' first
   | (with_reducible exact ih0 _ _ _)
   | (with_reducible exact ih1 _ _ _ _)
   | (with_reducible exact ih2 _ _ _ _ _ _ _ _ _ _ _ _)
   | (with_reducible exact spec_NameOk.mono _ _)
   | (with_reducible exact spec_RrOk.mono _ _ _ _ _ _ _ _)
   | (with_reducible exact spec_l2cmp.mono _ _ _)
   | (with_reducible exact spec_l2under.mono _ _ _)
   | (with_reducible exact spec_l3cmp.mono _ _ _ _ _ _ _ _ _ _ _ _ _ _ _)
   | (with_reducible exact spec_l5alone.mono _ _ _)
   | (with_reducible exact LeO.refl _)
   | (with_reducible exact LeO.none _)
   | (with_reducible refine LeO.ite ?_ ?_)
   | (with_reducible refine LeO.bind ?_ (fun _ => ?_))
   | exact ih0 _ _ _
   | exact ih1 _ _ _ _
   | exact ih2 _ _ _ _ _ _ _ _ _ _ _ _
   | exact spec_NameOk.mono _ _
   | exact spec_RrOk.mono _ _ _ _ _ _ _ _
   | exact spec_l2cmp.mono _ _ _
   | exact spec_l2under.mono _ _ _
   | exact spec_l3cmp.mono _ _ _ _ _ _ _ _ _ _ _ _ _ _ _
   | exact spec_l5alone.mono _ _ _
   | exact LeO.none _
   | refine LeO.ite ?_ ?_
   | refine LeO.bind ?_ (fun _ => ?_)
  ·intro y0 y1 y2 y3
   unfold spec_ZoneOk.l0
   repeat' first
   | (with_reducible exact ih0 _ _ _)
   | (with_reducible exact ih1 _ _ _ _)
   | (with_reducible exact ih2 _ _ _ _ _ _ _ _ _ _ _ _)
   | (with_reducible exact spec_NameOk.mono _ _)
   | (with_reducible exact spec_RrOk.mono _ _ _ _ _ _ _ _)
   | (with_reducible exact spec_l2cmp.mono _ _ _)
   | (with_reducible exact spec_l2under.mono _ _ _)
   | (with_reducible exact spec_l3cmp.mono _ _ _ _ _ _ _ _ _ _ _ _ _ _ _)
   | (with_reducible exact spec_l5alone.mono _ _ _)
   | (with_reducible exact LeO.refl _)
   | (with_reducible exact LeO.none _)
   | (with_reducible refine LeO.ite ?_ ?_)
   | (with_reducible refine LeO.bind ?_ (fun _ => ?_))
   | exact ih0 _ _ _
   | exact ih1 _ _ _ _
   | exact ih2 _ _ _ _ _ _ _ _ _ _ _ _
   | exact spec_NameOk.mono _ _
   | exact spec_RrOk.mono _ _ _ _ _ _ _ _
   | exact spec_l2cmp.mono _ _ _
   | exact spec_l2under.mono _ _ _
   | exact spec_l3cmp.mono _ _ _ _ _ _ _ _ _ _ _ _ _ _ _
   | exact spec_l5alone.mono _ _ _
   | exact LeO.none _
   | refine LeO.ite ?_ ?_
   | refine LeO.bind ?_ (fun _ => ?_)
  ·intro y0 y1 y2 y3 y4 y5 y6 y7 y8 y9 y10 y11
   unfold spec_ZoneOk.j2
   repeat' first
   | (with_reducible exact ih0 _ _ _)
   | (with_reducible exact ih1 _ _ _ _)
   | (with_reducible exact ih2 _ _ _ _ _ _ _ _ _ _ _ _)
   | (with_reducible exact spec_NameOk.mono _ _)
   | (with_reducible exact spec_RrOk.mono _ _ _ _ _ _ _ _)
   | (with_reducible exact spec_l2cmp.mono _ _ _)
   | (with_reducible exact spec_l2under.mono _ _ _)
   | (with_reducible exact spec_l3cmp.mono _ _ _ _ _ _ _ _ _ _ _ _ _ _ _)
   | (with_reducible exact spec_l5alone.mono _ _ _)
   | (with_reducible exact LeO.refl _)
   | (with_reducible exact LeO.none _)
   | (with_reducible refine LeO.ite ?_ ?_)
   | (with_reducible refine LeO.bind ?_ (fun _ => ?_))
   | exact ih0 _ _ _
   | exact ih1 _ _ _ _
   | exact ih2 _ _ _ _ _ _ _ _ _ _ _ _
   | exact spec_NameOk.mono _ _
   | exact spec_RrOk.mono _ _ _ _ _ _ _ _
   | exact spec_l2cmp.mono _ _ _
   | exact spec_l2under.mono _ _ _
   | exact spec_l3cmp.mono _ _ _ _ _ _ _ _ _ _ _ _ _ _ _
   | exact spec_l5alone.mono _ _ _
   | exact LeO.none _
   | refine LeO.ite ?_ ?_
   | refine LeO.bind ?_ (fun _ => ?_)
theorem spec_ZoneOk.mono : ∀ a0 a1 k, LeO (spec_ZoneOk.f k a0 a1) (spec_ZoneOk.f (k + 1) a0 a1) := by
 intro a0 a1 k
 obtain ⟨ih0, ih1, ih2⟩ := spec_ZoneOk.mono_l k
 unfold spec_ZoneOk.f
 repeat' first
   | (with_reducible exact ih0 _ _ _)
   | (with_reducible exact ih1 _ _ _ _)
   | (with_reducible exact ih2 _ _ _ _ _ _ _ _ _ _ _ _)
   | (with_reducible exact spec_NameOk.mono _ _)
   | (with_reducible exact spec_RrOk.mono _ _ _ _ _ _ _ _)
   | (with_reducible exact spec_l2cmp.mono _ _ _)
   | (with_reducible exact spec_l2under.mono _ _ _)
   | (with_reducible exact spec_l3cmp.mono _ _ _ _ _ _ _ _ _ _ _ _ _ _ _)
   | (with_reducible exact spec_l5alone.mono _ _ _)
   | (with_reducible exact LeO.refl _)
   | (with_reducible exact LeO.none _)
   | (with_reducible refine LeO.ite ?_ ?_)
   | (with_reducible refine LeO.bind ?_ (fun _ => ?_))
   | exact ih0 _ _ _
   | exact ih1 _ _ _ _
   | exact ih2 _ _ _ _ _ _ _ _ _ _ _ _
   | exact spec_NameOk.mono _ _
   | exact spec_RrOk.mono _ _ _ _ _ _ _ _
   | exact spec_l2cmp.mono _ _ _
   | exact spec_l2under.mono _ _ _
   | exact spec_l3cmp.mono _ _ _ _ _ _ _ _ _ _ _ _ _ _ _
   | exact spec_l5alone.mono _ _ _
   | exact LeO.none _
   | refine LeO.ite ?_ ?_
   | refine LeO.bind ?_ (fun _ => ?_)
def spec_ZoneOk.T8 : Bool × List (List Nat × List Nat) := (true, [([], []), ([0], [0]), ([1], [1]), ([2, 1], [2]), ([3], [3]), ([4, 3], [3, 4]), ([3], [3]), ([6, 3], [3, 6]), ([5, 7, 3, 3], [3, 5, 7]), ([8, 3], [3, 8]), ([3, 9], [3, 9]), ([10, 8], [10]), ([11], [11]), ([12, 11], [11, 12]), ([13, 11, 11], [11, 13]), ([14], [14]), ([15, 14], [14, 15]), ([14], [14]), ([17, 14], [14, 17]), ([16, 18, 14], [14, 16, 18]), ([19, 14], [14, 19]), ([14], [14]), ([20, 21, 14, 14], [14, 20, 21]), ([22, 14], [14, 22]), ([14, 23, 11], [11, 14, 23]), ([11, 24], [11, 24]), ([25, 22], [25]), ([26], [26]), ([27, 26], [26, 27]), ([26], [26]), ([28, 29, 26, 26], [26, 28, 29]), ([30, 26], [26, 30]), ([26, 31], [26, 31])])
def spec_ZoneOk.B8 : List Nat := [0, 1, 3, 7, 15, 31, 15, 79, 255, 511, 1023, 2047, 4095, 8191, 16383, 32767, 65535, 32767, 163839, 524287, 1048575, 32767, 4194303, 8388607, 16777215, 33554431, 67108863, 134217727, 268435455, 134217727, 1073741823, 2147483647, 4294967295]
theorem spec_ZoneOk.tab8 : rtab .any (opsOf Try.f35 8) = spec_ZoneOk.T8 := by kernel_rfl
theorem spec_ZoneOk.bits8 : waitsOk spec_ZoneOk.T8.2 spec_ZoneOk.B8 = true := by kernel_rfl
set_option maxHeartbeats 8000000 in
set_option maxRecDepth 100000 in
theorem spec_ZoneOk.calls (k : Nat) (A0_0 : Option Addr) (c0_0 : Nat) (l0_0 : List (List Int)) (A0_1 : Option Addr) (c0_1 : Nat) (l0_1 : List (S33)) (r : Bool) (w : World) (hr0_0 : Kd.C (Kd.slice 5 (Kd.int .u8)) w A0_0 l0_0.length l0_0) (hc0_0 : l0_0.length ≤ c0_0) (hr0_1 : Kd.C k33 w A0_1 l0_1.length l0_1) (hc0_1 : l0_1.length ≤ c0_1) (h : spec_ZoneOk.f k l0_0 l0_1 = some r) :
  Calls Try.prog 35 #[.agg #[.slice A0_0 l0_0.length c0_0, .slice A0_1 l0_1.length c0_1]] w fun e w' => e = .returned (.bool r) ∧ Below w.heap.size w w' := by
 have hu59 := Try.underlying59
 have hu31 := Try.underlying31
 have hu33 := Try.underlying33
 have HR0_0 := ak hr0_0
 have HC0_0 := ak hc0_0
 clear hr0_0 hc0_0
 have HR0_1 := ak hr0_1
 have HC0_1 := ak hc0_1
 clear hr0_1 hc0_1
 have HB := ak (Below.refl w.heap.size w)
 have H : ((spec_NameOk.f k l0_0).bind fun t102 => (if t102 = true then (spec_ZoneOk.j0 k (decide ((l0_1.length : Int) > 60)) l0_0 l0_1) else (spec_ZoneOk.j0 k true l0_0 l0_1))) = some r := h
 clear h
 have HC2 := ak H
 clear H
 go_enter Try.func35, Try.ntmps35
 go_upto_region 1 with (((with_reducible refine gate_dst (N := 1) rfl ?_);(try (refine gate_guard (by rfl) ?_; dsimp only));refine bxd (N := 1) rfl HB ?_;clear HB;intro gb101 w3 hg HB BK101 GE101 hb;have GW101 := GE101;clear hb hg))
 (try simp only [Act.put, List.setIfInBounds_toArray, List.set_cons_zero, List.set_cons_succ])
 go_cut [15] (fun v15 wc => ∃ (kq : Nat) (x15_1 : Bool), v15 = .bool x15_1 ∧ Aside0 (spec_ZoneOk.j0 kq x15_1 l0_0 l0_1 = some r) ∧ Aside0 (kq ≤ k) ∧ Aside0 (wc.heap[gb101]? = some (.cells #[(.slice A0_0 l0_0.length c0_0), (.slice A0_1 l0_1.length c0_1)] 59 (0, 0))) ∧ Aside0 (Below w.heap.size w wc))
 case first =>
  have H := HC2.out
  clear HC2
  replace H := bnd H
  obtain ⟨t102, A4, H⟩ := H
  replace H := ib H
  obtain ⟨rfl, H⟩ | ⟨rfl, H⟩ := H
  ·have H' := ak H
   clear H
   obtain ⟨hcz6_0, hcz6_1, hfz6_0, hfz6_1⟩ := cells2 BK101.out
   go_wp2_with (((with_reducible refine gate_callee (f := 76) rfl ?_);refine glB 8 rfl rfl Try.func76 (spec_NameOk.calls k _ _ l0_0 true _ (cv HR0_0 HB) HC0_0.out A4.out) (fun w7 hb => ?_);replace BK101 := b1 BK101 hb;replace HB := b2s bs hb;(try clear hb);obtain ⟨hcz8_0, hcz8_1, hfz8_0, hfz8_1⟩ := cells2 BK101.out))
   go_meet
   case rel => exact ⟨_, (decide ((l0_1.length : Int) > 60)), o2, H', ⟨o3⟩, ⟨bk BK101.out⟩, ⟨bs⟩⟩
  ·have H' := ak H
   clear H
   obtain ⟨hcz9_0, hcz9_1, hfz9_0, hfz9_1⟩ := cells2 BK101.out
   go_wp2_with (((with_reducible refine gate_callee (f := 76) rfl ?_);refine glB 8 rfl rfl Try.func76 (spec_NameOk.calls k _ _ l0_0 false _ (cv HR0_0 HB) HC0_0.out A4.out) (fun w10 hb => ?_);replace BK101 := b1 BK101 hb;replace HB := b2s bs hb;(try clear hb)))
   go_meet
   case rel => exact ⟨_, (true), o2, H', ⟨o3⟩, ⟨bk BK101.out⟩, ⟨bs⟩⟩
 case rest =>
  clear HC2
  obtain ⟨kq, x15_1, rfl, HA, HJ1, BK101, HB⟩ := hcut
  cases kq with
  | zero => exact absurd HA.out (by simp [spec_ZoneOk.j0])
  | succ kj1 =>
   have H := HA.out
   clear HA
   simp only [spec_ZoneOk.j0] at H
   replace H := ib H
   obtain ⟨rfl, H⟩ | ⟨rfl, H⟩ := H
   ·obtain rfl := Option.some.inj H
    go_wp2
    go_ret
    exact ⟨o1, bs⟩
   ·have H' := ak H
    clear H
    go_wp2
    go_loopg [3, 4] kj1 (fun kq v3 v4 w' => ∃ (x3_2 : Int) (x4_2 : Int), v3 = .int .i64 x3_2 ∧ v4 = .int .i64 x4_2 ∧ Aside0 (spec_ZoneOk.l0 kq x3_2 x4_2 l0_0 l0_1 = some r) ∧ Aside0 (kq ≤ kj1) ∧ Aside0 (w'.heap[gb101]? = some (.cells #[(.slice A0_0 l0_0.length c0_0), (.slice A0_1 l0_1.length c0_1)] 59 (0, 0))) ∧ Aside0 (Below w.heap.size w w'))
    case atStart => exact ⟨(0), (0), o2, o2, H', ⟨Nat.le_refl _⟩, ⟨bk BK101.out⟩, ⟨bs⟩⟩
    case round =>
     clear H'
     obtain ⟨x3_2, x4_2, rfl, rfl, HA, HK2, BK101, HB⟩ := hrel
     cases gk with
     | zero => exact absurd HA.out (by simp [spec_ZoneOk.l0])
     | succ k2 =>
      have H := HA.out
      clear HA
      simp only [spec_ZoneOk.l0] at H
      replace H := ip H
      obtain ⟨c12b0, H⟩ | ⟨c12b0, H⟩ := H
      ·replace H := ipN H
       obtain ⟨c13b0, H⟩ := H
       have HC14 := ak H
       clear H
       obtain ⟨hcz15_0, hcz15_1, hfz15_0, hfz15_1⟩ := cells2 BK101.out
       obtain ⟨ad103, A103_0, c103_0, A103_4, c103_4, A103_5, c103_5, A103_6, c103_6, rfl, hx103_0, hx103_1, hx103_2, hx103_3, hx103_4, hx103_5, hx103_6, HC103_0, HR103_0, HC103_4, HR103_4, HC103_5, HR103_5, HC103_6, HR103_6, p103, q103⟩ := el_T33 HR0_1 HB x4_2
       go_upto_region 8 with (((with_reducible refine gate_dst (N := 5) rfl ?_);(try (refine gate_guard (by rfl) ?_; dsimp only));refine bxe (N := 5) rfl ?_;intro gb104 hg w16 hbox hb;have BK104 := ak (hbox);have GW104 := b3s hg bs;have GE104 := GW104;replace HB := b2s bs hb;have NB101_104 := b4 hg BK101;have NB104_101 := b5 hg BK101;replace BK101 := b1 BK101 hb;clear hb hbox hg;have hnb17 := NB104_101.out;have hnc17 := NB101_104.out;obtain ⟨hcz18_0, hcz18_1, hcz18_2, hcz18_3, hcz18_4, hcz18_5, hcz18_6, hfz18_0, hfz18_1, hfz18_2, hfz18_3, hfz18_4, hfz18_5, hfz18_6⟩ := cells7 BK104.out))
       (try simp only [Act.put, List.setIfInBounds_toArray, List.set_cons_zero, List.set_cons_succ])
       go_cut [60] (fun v60 wc => ∃ (kq : Nat) (x60_13 : Bool), v60 = .bool x60_13 ∧ Aside0 (spec_ZoneOk.j2 kq x3_2 x4_2 x60_13 l0_0 l0_1 ((rd_T33 l0_1 x4_2).f0.f0) ((rd_T33 l0_1 x4_2).f1) ((rd_T33 l0_1 x4_2).f2) ((rd_T33 l0_1 x4_2).f3) ((rd_T33 l0_1 x4_2).f4.f0) ((rd_T33 l0_1 x4_2).f5) ((rd_T33 l0_1 x4_2).f6) = some r) ∧ Aside0 (kq ≤ k2) ∧ Aside0 (wc.heap[gb101]? = some (.cells #[(.slice A0_0 l0_0.length c0_0), (.slice (some ad103) l0_1.length c0_1)] 59 (0, 0))) ∧ Aside0 (wc.heap[gb104]? = some (.cells #[(.slice A103_0 ((rd_T33 l0_1 x4_2).f0.f0).length c103_0), .int .i64 ((rd_T33 l0_1 x4_2).f1), .int .i64 ((rd_T33 l0_1 x4_2).f2), .int .i64 ((rd_T33 l0_1 x4_2).f3), (.slice A103_4 ((rd_T33 l0_1 x4_2).f4.f0).length c103_4), (.slice A103_5 ((rd_T33 l0_1 x4_2).f5).length c103_5), (.slice A103_6 ((rd_T33 l0_1 x4_2).f6).length c103_6)] 33 (0, 0))) ∧ Aside0 (Below w.heap.size w wc))
       case first =>
        have H := HC14.out
        clear HC14
        replace H := bnd H
        obtain ⟨t105, A19, H⟩ := H
        replace H := ib H
        obtain ⟨rfl, H⟩ | ⟨rfl, H⟩ := H
        ·replace H := bnd H
         obtain ⟨t106, A21, H⟩ := H
         replace H := ib H
         obtain ⟨rfl, H⟩ | ⟨rfl, H⟩ := H
         ·replace H := ig H
          obtain ⟨c23b0, H⟩ | ⟨c23b0, H⟩ := H
          ·(first | rw [c23b0] | (simp only [i64_w, i32_w]; rw [c23b0]) | skip)
           obtain ⟨ji24, hji24⟩ : ∃ j_ : Int, (wrap64 (x4_2 - 1)) = j_ := ⟨_, rfl⟩
           (first | rw [hji24] at H | simp only [hji24] at H)
           (try rw [hji24] at A19)
           (try rw [hji24] at A21)
           have hji24w : (IntKind.i64.wrap (x4_2 - 1)) = ji24 := (i64_w _).trans hji24
           replace H := ipN H
           obtain ⟨c25b0, H⟩ := H
           replace H := ipN H
           obtain ⟨c26b0, H⟩ := H
           replace H := bnd H
           obtain ⟨t108, A27, H⟩ := H
           replace H := ih H
           obtain ⟨c28b0, H⟩ | ⟨c28b0, H⟩ := H
           ·have H' := ak H
            clear H
            try go_wp2
            have n0_ : Aside0 ((((((((w16.setCell ⟨gb104, 0, none⟩ (.slice A103_0 ((rd_T33 l0_1 x4_2).f0.f0).length c103_0)).setCell ⟨gb104, 1, none⟩ (.int .i64 ((rd_T33 l0_1 x4_2).f1))).setCell ⟨gb104, 2, none⟩ (.int .i64 ((rd_T33 l0_1 x4_2).f2))).setCell ⟨gb104, 3, none⟩ (.int .i64 ((rd_T33 l0_1 x4_2).f3))).setCell ⟨gb104, 4, none⟩ (.slice A103_4 ((rd_T33 l0_1 x4_2).f4.f0).length c103_4)).setCell ⟨gb104, 5, none⟩ (.slice A103_5 ((rd_T33 l0_1 x4_2).f5).length c103_5)).setCell ⟨gb104, 6, none⟩ (.slice A103_6 ((rd_T33 l0_1 x4_2).f6).length c103_6)).heap[gb101]? = some (.cells #[.slice A0_0 l0_0.length c0_0, .slice (some ad103) l0_1.length c0_1] 59 (0, 0))) := ⟨bfar7 NB101_104.out BK101.out⟩
            have n1_ : Aside0 ((((((((w16.setCell ⟨gb104, 0, none⟩ (.slice A103_0 ((rd_T33 l0_1 x4_2).f0.f0).length c103_0)).setCell ⟨gb104, 1, none⟩ (.int .i64 ((rd_T33 l0_1 x4_2).f1))).setCell ⟨gb104, 2, none⟩ (.int .i64 ((rd_T33 l0_1 x4_2).f2))).setCell ⟨gb104, 3, none⟩ (.int .i64 ((rd_T33 l0_1 x4_2).f3))).setCell ⟨gb104, 4, none⟩ (.slice A103_4 ((rd_T33 l0_1 x4_2).f4.f0).length c103_4)).setCell ⟨gb104, 5, none⟩ (.slice A103_5 ((rd_T33 l0_1 x4_2).f5).length c103_5)).setCell ⟨gb104, 6, none⟩ (.slice A103_6 ((rd_T33 l0_1 x4_2).f6).length c103_6)).heap[gb104]? = some (.cells #[.slice A103_0 ((rd_T33 l0_1 x4_2).f0.f0).length c103_0, .int .i64 ((rd_T33 l0_1 x4_2).f1), .int .i64 ((rd_T33 l0_1 x4_2).f2), .int .i64 ((rd_T33 l0_1 x4_2).f3), .slice A103_4 ((rd_T33 l0_1 x4_2).f4.f0).length c103_4, .slice A103_5 ((rd_T33 l0_1 x4_2).f5).length c103_5, .slice A103_6 ((rd_T33 l0_1 x4_2).f6).length c103_6] 33 (0, 0))) := ⟨bput7 BK104.out⟩
            have n2_ : Aside0 (Below w.heap.size w (((((((w16.setCell ⟨gb104, 0, none⟩ (.slice A103_0 ((rd_T33 l0_1 x4_2).f0.f0).length c103_0)).setCell ⟨gb104, 1, none⟩ (.int .i64 ((rd_T33 l0_1 x4_2).f1))).setCell ⟨gb104, 2, none⟩ (.int .i64 ((rd_T33 l0_1 x4_2).f2))).setCell ⟨gb104, 3, none⟩ (.int .i64 ((rd_T33 l0_1 x4_2).f3))).setCell ⟨gb104, 4, none⟩ (.slice A103_4 ((rd_T33 l0_1 x4_2).f4.f0).length c103_4)).setCell ⟨gb104, 5, none⟩ (.slice A103_5 ((rd_T33 l0_1 x4_2).f5).length c103_5)).setCell ⟨gb104, 6, none⟩ (.slice A103_6 ((rd_T33 l0_1 x4_2).f6).length c103_6))) := ⟨bs⟩
            (try clear BK101)
            (try clear BK104)
            (try clear HB)
            generalize (((((((w16.setCell ⟨gb104, 0, none⟩ (.slice A103_0 ((rd_T33 l0_1 x4_2).f0.f0).length c103_0)).setCell ⟨gb104, 1, none⟩ (.int .i64 ((rd_T33 l0_1 x4_2).f1))).setCell ⟨gb104, 2, none⟩ (.int .i64 ((rd_T33 l0_1 x4_2).f2))).setCell ⟨gb104, 3, none⟩ (.int .i64 ((rd_T33 l0_1 x4_2).f3))).setCell ⟨gb104, 4, none⟩ (.slice A103_4 ((rd_T33 l0_1 x4_2).f4.f0).length c103_4)).setCell ⟨gb104, 5, none⟩ (.slice A103_5 ((rd_T33 l0_1 x4_2).f5).length c103_5)).setCell ⟨gb104, 6, none⟩ (.slice A103_6 ((rd_T33 l0_1 x4_2).f6).length c103_6)) = w29 at n0_ n1_ n2_ ⊢
            have BK101 := n0_
            have BK104 := n1_
            have HB := n2_
            clear n0_ n1_ n2_
            replace BK101 := ak (blk_drew BK101.out)
            replace BK104 := ak (blk_drew BK104.out)
            replace HB := ak (below_drew1 HB.out)
            obtain ⟨A107_0, c107_0, A107_4, c107_4, A107_5, c107_5, A107_6, c107_6, hw107_0, hw107_1, hw107_2, hw107_3, hw107_4, hw107_5, hw107_6, hx107_0, hx107_1, hx107_2, hx107_3, hx107_4, hx107_5, hx107_6, HC107_0, HR107_0, HC107_4, HR107_4, HC107_5, HR107_5, HC107_6, HR107_6, p107, q107⟩ := el2w_T33 HR0_1 HB (ji24)
            refine start_ (n := 33) (S := fun w' => w'.cell? ⟨gb104, 0, none⟩ = some (.slice A103_0 ((rd_T33 l0_1 x4_2).f0.f0).length c103_0) ∧ w'.cell? ⟨gb104, 1, none⟩ = some (.int .i64 ((rd_T33 l0_1 x4_2).f1)) ∧ w'.cell? ⟨gb104, 2, none⟩ = some (.int .i64 ((rd_T33 l0_1 x4_2).f2)) ∧ w'.cell? ⟨gb104, 3, none⟩ = some (.int .i64 ((rd_T33 l0_1 x4_2).f3)) ∧ w'.cell? ⟨gb104, 4, none⟩ = some (.slice A103_4 ((rd_T33 l0_1 x4_2).f4.f0).length c103_4) ∧ w'.cell? ⟨gb104, 5, none⟩ = some (.slice A103_5 ((rd_T33 l0_1 x4_2).f5).length c103_5) ∧ w'.cell? ⟨gb104, 6, none⟩ = some (.slice A103_6 ((rd_T33 l0_1 x4_2).f6).length c103_6) ∧ w'.cell? ⟨gb101, 0, none⟩ = some (.slice A0_0 l0_0.length c0_0) ∧ w'.cell? ⟨gb101, 1, none⟩ = some (.slice (some ad103) l0_1.length c0_1) ∧ w'.cell? (ad103.add (((ji24)).toNat * 7)) = some (.slice A107_0 ((rd_T33 l0_1 (ji24)).f0.f0).length c107_0) ∧ w'.cell? ⟨(ad103.add (((ji24)).toNat * 7)).block, (ad103.add (((ji24)).toNat * 7)).off + 1, none⟩ = some (.int .i64 ((rd_T33 l0_1 (ji24)).f1)) ∧ w'.cell? ⟨(ad103.add (((ji24)).toNat * 7)).block, (ad103.add (((ji24)).toNat * 7)).off + 2, none⟩ = some (.int .i64 ((rd_T33 l0_1 (ji24)).f2)) ∧ w'.cell? ⟨(ad103.add (((ji24)).toNat * 7)).block, (ad103.add (((ji24)).toNat * 7)).off + 3, none⟩ = some (.int .i64 ((rd_T33 l0_1 (ji24)).f3)) ∧ w'.cell? ⟨(ad103.add (((ji24)).toNat * 7)).block, (ad103.add (((ji24)).toNat * 7)).off + 4, none⟩ = some (.slice A107_4 ((rd_T33 l0_1 (ji24)).f4.f0).length c107_4) ∧ w'.cell? ⟨(ad103.add (((ji24)).toNat * 7)).block, (ad103.add (((ji24)).toNat * 7)).off + 5, none⟩ = some (.slice A107_5 ((rd_T33 l0_1 (ji24)).f5).length c107_5) ∧ w'.cell? ⟨(ad103.add (((ji24)).toNat * 7)).block, (ad103.add (((ji24)).toNat * 7)).off + 6, none⟩ = some (.slice A107_6 ((rd_T33 l0_1 (ji24)).f6).length c107_6)) (ds := []) (bA 33 0) (by kernel_rfl) rfl rfl kq (fun hHeld => ?_); refine with_tabW spec_ZoneOk.tab8 spec_ZoneOk.bits8 (fun HT_ HW_ => ?_)
            generalize w29.drew = w30 at BK101 BK104 HB HR107_0 HR107_4 HR107_5 HR107_6 hx107_0 hx107_1 hx107_2 hx107_3 hx107_4 hx107_5 hx107_6 hHeld ⊢
            refine ta HT_ HW_ hHeld 0 ?_
            refine on HT_ 1 (fun K hK => ?_)
            refine gsB Try.func60 (spec_RrOk.calls k2 _ _ ((rd_T33 l0_1 x4_2).f0.f0) ((rd_T33 l0_1 x4_2).f1) ((rd_T33 l0_1 x4_2).f2) ((rd_T33 l0_1 x4_2).f3) _ _ ((rd_T33 l0_1 x4_2).f4.f0) _ _ ((rd_T33 l0_1 x4_2).f5) _ _ ((rd_T33 l0_1 x4_2).f6) true _ (cv HR103_0 HB) HC103_0.out (cv HR103_4 HB) HC103_4.out (cv HR103_5 HB) HC103_5.out (cv HR103_6 HB) HC103_6.out A19.out) (fun w31 hb => ?_)
            replace BK101 := b1 BK101 hb
            replace BK104 := b1 BK104 hb
            replace HB := b2s bs hb
            refine hK.out _ _ kp (fun hHeld => ?_)
            (try clear hb)
            clear hK K
            refine norm_ (a' := ?_) ?_ ?_; rotate_left; go_simp; rfl
            refine pu HT_ 2 ?_
            refine pu HT_ 3 ?_
            refine pu HT_ 4 ?_
            refine pu HT_ 6 ?_
            refine ta HT_ HW_ hHeld 5 ?_
            refine ta HT_ HW_ hHeld 7 ?_
            refine on HT_ 8 (fun K hK => ?_)
            refine gsB Try.func96 (spec_l2under.calls k2 _ _ ((rd_T33 l0_1 x4_2).f0.f0) _ _ l0_0 true _ (cv HR103_0 HB) HC103_0.out (cv HR0_0 HB) HC0_0.out A21.out) (fun w32 hb => ?_)
            replace BK101 := b1 BK101 hb
            replace BK104 := b1 BK104 hb
            replace HB := b2s bs hb
            refine hK.out _ _ kp (fun hHeld => ?_)
            (try clear hb)
            clear hK K
            refine norm_ (a' := ?_) ?_ ?_; rotate_left; go_simp; rfl
            refine pu HT_ 9 ?_
            refine pu HT_ 10 ?_
            refine pu HT_ 11 ?_
            refine pu HT_ 12 ?_
            refine pu HT_ 13 ?_
            refine pu HT_ 14 ?_
            refine pu HT_ 15 ?_
            refine pu HT_ 17 ?_
            refine pu HT_ 18 ?_
            refine ta HT_ HW_ hHeld 16 ?_
            refine pu HT_ 19 ?_
            refine ta HT_ HW_ hHeld 20 ?_
            refine ta HT_ HW_ hHeld 21 ?_
            refine on HT_ 22 (fun K hK => ?_)
            refine goes_ Try.func61 (by kernel_rfl) rfl #[.agg #[.slice A107_0 ((rd_T33 l0_1 (ji24)).f0.f0).length c107_0, .int .i64 ((rd_T33 l0_1 (ji24)).f1), .int .i64 ((rd_T33 l0_1 (ji24)).f2), .int .i64 ((rd_T33 l0_1 (ji24)).f3), .slice A107_4 ((rd_T33 l0_1 (ji24)).f4.f0).length c107_4, .slice A107_5 ((rd_T33 l0_1 (ji24)).f5).length c107_5, .slice A107_6 ((rd_T33 l0_1 (ji24)).f6).length c107_6], .agg #[.slice A103_0 ((rd_T33 l0_1 x4_2).f0.f0).length c103_0, .int .i64 ((rd_T33 l0_1 x4_2).f1), .int .i64 ((rd_T33 l0_1 x4_2).f2), .int .i64 ((rd_T33 l0_1 x4_2).f3), .slice A103_4 ((rd_T33 l0_1 x4_2).f4.f0).length c103_4, .slice A103_5 ((rd_T33 l0_1 x4_2).f5).length c103_5, .slice A103_6 ((rd_T33 l0_1 x4_2).f6).length c103_6]] (by rfl) rfl rfl (by (try simp only [List.map_toArray, List.map_cons, List.map_nil]); first | done | (simp only [hji24]; rfl) | rfl | (simp only [List.length_drop, List.length_take]; rfl)) ?_
            with_reducible refine (spec_l3cmp.calls k2 _ _ ((rd_T33 l0_1 (ji24)).f0.f0) ((rd_T33 l0_1 (ji24)).f1) ((rd_T33 l0_1 (ji24)).f2) ((rd_T33 l0_1 (ji24)).f3) _ _ ((rd_T33 l0_1 (ji24)).f4.f0) _ _ ((rd_T33 l0_1 (ji24)).f5) _ _ ((rd_T33 l0_1 (ji24)).f6) _ _ ((rd_T33 l0_1 x4_2).f0.f0) ((rd_T33 l0_1 x4_2).f1) ((rd_T33 l0_1 x4_2).f2) ((rd_T33 l0_1 x4_2).f3) _ _ ((rd_T33 l0_1 x4_2).f4.f0) _ _ ((rd_T33 l0_1 x4_2).f5) _ _ ((rd_T33 l0_1 x4_2).f6) t108 _ ?side1 ?side2 ?side3 ?side4 ?side5 ?side6 ?side7 ?side8 ?side9 ?side10 ?side11 ?side12 ?side13 ?side14 ?side15 ?side16 A27.out).mono ?_
            (case side1 => exact cw HR107_0.out HB.out)
            (case side2 => exact HC107_0.out)
            (case side3 => exact cw HR107_4.out HB.out)
            (case side4 => exact HC107_4.out)
            (case side5 => exact cw HR107_5.out HB.out)
            (case side6 => exact HC107_5.out)
            (case side7 => exact cw HR107_6.out HB.out)
            (case side8 => exact HC107_6.out)
            (case side9 => exact cw HR103_0.out HB.out)
            (case side10 => exact HC103_0.out)
            (case side11 => exact cw HR103_4.out HB.out)
            (case side12 => exact HC103_4.out)
            (case side13 => exact cw HR103_5.out HB.out)
            (case side14 => exact HC103_5.out)
            (case side15 => exact cw HR103_6.out HB.out)
            (case side16 => exact HC103_6.out)
            rintro e w33 ⟨rfl, hb⟩
            refine ⟨_, rfl, ?_⟩
            replace BK101 := b1 BK101 hb
            replace BK104 := b1 BK104 hb
            replace HB := b2s bs hb
            refine hK.out _ _ kp (fun hHeld => ?_)
            (try clear hb)
            clear hK K
            refine norm_ (a' := ?_) ?_ ?_; rotate_left; go_simp; rfl
            refine pu HT_ 23 ?_
            refine pu HT_ 24 ?_
            refine pu HT_ 25 ?_
            refine pu HT_ 26 ?_
            refine sk HT_ 27 ?_
            refine sk HT_ 28 ?_
            refine sk HT_ 29 ?_
            refine sk HT_ 30 ?_
            refine sk HT_ 31 ?_
            refine pu HT_ 32 ?_
            refine done_ (done_of HT_.out (by kernel_rfl)) ?_
            try go_wp2
            go_meet
            case rel => exact ⟨_, (true), o2, H', ⟨by have := HJ1.out; have := HK2.out; first | omega | exact Nat.le_refl _⟩, ⟨bk BK101.out⟩, ⟨bk BK104.out⟩, ⟨bs⟩⟩
           ·replace H := bnd H
            obtain ⟨t109, A34, H⟩ := H
            have H' := ak H
            clear H
            try go_wp2
            have n0_ : Aside0 ((((((((w16.setCell ⟨gb104, 0, none⟩ (.slice A103_0 ((rd_T33 l0_1 x4_2).f0.f0).length c103_0)).setCell ⟨gb104, 1, none⟩ (.int .i64 ((rd_T33 l0_1 x4_2).f1))).setCell ⟨gb104, 2, none⟩ (.int .i64 ((rd_T33 l0_1 x4_2).f2))).setCell ⟨gb104, 3, none⟩ (.int .i64 ((rd_T33 l0_1 x4_2).f3))).setCell ⟨gb104, 4, none⟩ (.slice A103_4 ((rd_T33 l0_1 x4_2).f4.f0).length c103_4)).setCell ⟨gb104, 5, none⟩ (.slice A103_5 ((rd_T33 l0_1 x4_2).f5).length c103_5)).setCell ⟨gb104, 6, none⟩ (.slice A103_6 ((rd_T33 l0_1 x4_2).f6).length c103_6)).heap[gb101]? = some (.cells #[.slice A0_0 l0_0.length c0_0, .slice (some ad103) l0_1.length c0_1] 59 (0, 0))) := ⟨bfar7 NB101_104.out BK101.out⟩
            have n1_ : Aside0 ((((((((w16.setCell ⟨gb104, 0, none⟩ (.slice A103_0 ((rd_T33 l0_1 x4_2).f0.f0).length c103_0)).setCell ⟨gb104, 1, none⟩ (.int .i64 ((rd_T33 l0_1 x4_2).f1))).setCell ⟨gb104, 2, none⟩ (.int .i64 ((rd_T33 l0_1 x4_2).f2))).setCell ⟨gb104, 3, none⟩ (.int .i64 ((rd_T33 l0_1 x4_2).f3))).setCell ⟨gb104, 4, none⟩ (.slice A103_4 ((rd_T33 l0_1 x4_2).f4.f0).length c103_4)).setCell ⟨gb104, 5, none⟩ (.slice A103_5 ((rd_T33 l0_1 x4_2).f5).length c103_5)).setCell ⟨gb104, 6, none⟩ (.slice A103_6 ((rd_T33 l0_1 x4_2).f6).length c103_6)).heap[gb104]? = some (.cells #[.slice A103_0 ((rd_T33 l0_1 x4_2).f0.f0).length c103_0, .int .i64 ((rd_T33 l0_1 x4_2).f1), .int .i64 ((rd_T33 l0_1 x4_2).f2), .int .i64 ((rd_T33 l0_1 x4_2).f3), .slice A103_4 ((rd_T33 l0_1 x4_2).f4.f0).length c103_4, .slice A103_5 ((rd_T33 l0_1 x4_2).f5).length c103_5, .slice A103_6 ((rd_T33 l0_1 x4_2).f6).length c103_6] 33 (0, 0))) := ⟨bput7 BK104.out⟩
            have n2_ : Aside0 (Below w.heap.size w (((((((w16.setCell ⟨gb104, 0, none⟩ (.slice A103_0 ((rd_T33 l0_1 x4_2).f0.f0).length c103_0)).setCell ⟨gb104, 1, none⟩ (.int .i64 ((rd_T33 l0_1 x4_2).f1))).setCell ⟨gb104, 2, none⟩ (.int .i64 ((rd_T33 l0_1 x4_2).f2))).setCell ⟨gb104, 3, none⟩ (.int .i64 ((rd_T33 l0_1 x4_2).f3))).setCell ⟨gb104, 4, none⟩ (.slice A103_4 ((rd_T33 l0_1 x4_2).f4.f0).length c103_4)).setCell ⟨gb104, 5, none⟩ (.slice A103_5 ((rd_T33 l0_1 x4_2).f5).length c103_5)).setCell ⟨gb104, 6, none⟩ (.slice A103_6 ((rd_T33 l0_1 x4_2).f6).length c103_6))) := ⟨bs⟩
            (try clear BK101)
            (try clear BK104)
            (try clear HB)
            generalize (((((((w16.setCell ⟨gb104, 0, none⟩ (.slice A103_0 ((rd_T33 l0_1 x4_2).f0.f0).length c103_0)).setCell ⟨gb104, 1, none⟩ (.int .i64 ((rd_T33 l0_1 x4_2).f1))).setCell ⟨gb104, 2, none⟩ (.int .i64 ((rd_T33 l0_1 x4_2).f2))).setCell ⟨gb104, 3, none⟩ (.int .i64 ((rd_T33 l0_1 x4_2).f3))).setCell ⟨gb104, 4, none⟩ (.slice A103_4 ((rd_T33 l0_1 x4_2).f4.f0).length c103_4)).setCell ⟨gb104, 5, none⟩ (.slice A103_5 ((rd_T33 l0_1 x4_2).f5).length c103_5)).setCell ⟨gb104, 6, none⟩ (.slice A103_6 ((rd_T33 l0_1 x4_2).f6).length c103_6)) = w35 at n0_ n1_ n2_ ⊢
            have BK101 := n0_
            have BK104 := n1_
            have HB := n2_
            clear n0_ n1_ n2_
            replace BK101 := ak (blk_drew BK101.out)
            replace BK104 := ak (blk_drew BK104.out)
            replace HB := ak (below_drew1 HB.out)
            obtain ⟨A107_0, c107_0, A107_4, c107_4, A107_5, c107_5, A107_6, c107_6, hw107_0, hw107_1, hw107_2, hw107_3, hw107_4, hw107_5, hw107_6, hx107_0, hx107_1, hx107_2, hx107_3, hx107_4, hx107_5, hx107_6, HC107_0, HR107_0, HC107_4, HR107_4, HC107_5, HR107_5, HC107_6, HR107_6, p107, q107⟩ := el2w_T33 HR0_1 HB (ji24)
            refine start_ (n := 33) (S := fun w' => w'.cell? ⟨gb104, 0, none⟩ = some (.slice A103_0 ((rd_T33 l0_1 x4_2).f0.f0).length c103_0) ∧ w'.cell? ⟨gb104, 1, none⟩ = some (.int .i64 ((rd_T33 l0_1 x4_2).f1)) ∧ w'.cell? ⟨gb104, 2, none⟩ = some (.int .i64 ((rd_T33 l0_1 x4_2).f2)) ∧ w'.cell? ⟨gb104, 3, none⟩ = some (.int .i64 ((rd_T33 l0_1 x4_2).f3)) ∧ w'.cell? ⟨gb104, 4, none⟩ = some (.slice A103_4 ((rd_T33 l0_1 x4_2).f4.f0).length c103_4) ∧ w'.cell? ⟨gb104, 5, none⟩ = some (.slice A103_5 ((rd_T33 l0_1 x4_2).f5).length c103_5) ∧ w'.cell? ⟨gb104, 6, none⟩ = some (.slice A103_6 ((rd_T33 l0_1 x4_2).f6).length c103_6) ∧ w'.cell? ⟨gb101, 0, none⟩ = some (.slice A0_0 l0_0.length c0_0) ∧ w'.cell? ⟨gb101, 1, none⟩ = some (.slice (some ad103) l0_1.length c0_1) ∧ w'.cell? (ad103.add (((ji24)).toNat * 7)) = some (.slice A107_0 ((rd_T33 l0_1 (ji24)).f0.f0).length c107_0) ∧ w'.cell? ⟨(ad103.add (((ji24)).toNat * 7)).block, (ad103.add (((ji24)).toNat * 7)).off + 1, none⟩ = some (.int .i64 ((rd_T33 l0_1 (ji24)).f1)) ∧ w'.cell? ⟨(ad103.add (((ji24)).toNat * 7)).block, (ad103.add (((ji24)).toNat * 7)).off + 2, none⟩ = some (.int .i64 ((rd_T33 l0_1 (ji24)).f2)) ∧ w'.cell? ⟨(ad103.add (((ji24)).toNat * 7)).block, (ad103.add (((ji24)).toNat * 7)).off + 3, none⟩ = some (.int .i64 ((rd_T33 l0_1 (ji24)).f3)) ∧ w'.cell? ⟨(ad103.add (((ji24)).toNat * 7)).block, (ad103.add (((ji24)).toNat * 7)).off + 4, none⟩ = some (.slice A107_4 ((rd_T33 l0_1 (ji24)).f4.f0).length c107_4) ∧ w'.cell? ⟨(ad103.add (((ji24)).toNat * 7)).block, (ad103.add (((ji24)).toNat * 7)).off + 5, none⟩ = some (.slice A107_5 ((rd_T33 l0_1 (ji24)).f5).length c107_5) ∧ w'.cell? ⟨(ad103.add (((ji24)).toNat * 7)).block, (ad103.add (((ji24)).toNat * 7)).off + 6, none⟩ = some (.slice A107_6 ((rd_T33 l0_1 (ji24)).f6).length c107_6)) (ds := []) (bA 33 0) (by kernel_rfl) rfl rfl kq (fun hHeld => ?_); refine with_tabW spec_ZoneOk.tab8 spec_ZoneOk.bits8 (fun HT_ HW_ => ?_)
            generalize w35.drew = w36 at BK101 BK104 HB HR107_0 HR107_4 HR107_5 HR107_6 hx107_0 hx107_1 hx107_2 hx107_3 hx107_4 hx107_5 hx107_6 hHeld ⊢
            refine ta HT_ HW_ hHeld 0 ?_
            refine on HT_ 1 (fun K hK => ?_)
            refine gsB Try.func60 (spec_RrOk.calls k2 _ _ ((rd_T33 l0_1 x4_2).f0.f0) ((rd_T33 l0_1 x4_2).f1) ((rd_T33 l0_1 x4_2).f2) ((rd_T33 l0_1 x4_2).f3) _ _ ((rd_T33 l0_1 x4_2).f4.f0) _ _ ((rd_T33 l0_1 x4_2).f5) _ _ ((rd_T33 l0_1 x4_2).f6) true _ (cv HR103_0 HB) HC103_0.out (cv HR103_4 HB) HC103_4.out (cv HR103_5 HB) HC103_5.out (cv HR103_6 HB) HC103_6.out A19.out) (fun w37 hb => ?_)
            replace BK101 := b1 BK101 hb
            replace BK104 := b1 BK104 hb
            replace HB := b2s bs hb
            refine hK.out _ _ kp (fun hHeld => ?_)
            (try clear hb)
            clear hK K
            refine norm_ (a' := ?_) ?_ ?_; rotate_left; go_simp; rfl
            refine pu HT_ 2 ?_
            refine pu HT_ 3 ?_
            refine pu HT_ 4 ?_
            refine pu HT_ 6 ?_
            refine ta HT_ HW_ hHeld 5 ?_
            refine ta HT_ HW_ hHeld 7 ?_
            refine on HT_ 8 (fun K hK => ?_)
            refine gsB Try.func96 (spec_l2under.calls k2 _ _ ((rd_T33 l0_1 x4_2).f0.f0) _ _ l0_0 true _ (cv HR103_0 HB) HC103_0.out (cv HR0_0 HB) HC0_0.out A21.out) (fun w38 hb => ?_)
            replace BK101 := b1 BK101 hb
            replace BK104 := b1 BK104 hb
            replace HB := b2s bs hb
            refine hK.out _ _ kp (fun hHeld => ?_)
            (try clear hb)
            clear hK K
            refine norm_ (a' := ?_) ?_ ?_; rotate_left; go_simp; rfl
            refine pu HT_ 9 ?_
            refine pu HT_ 10 ?_
            refine pu HT_ 11 ?_
            refine pu HT_ 12 ?_
            refine pu HT_ 13 ?_
            refine pu HT_ 14 ?_
            refine pu HT_ 15 ?_
            refine pu HT_ 17 ?_
            refine pu HT_ 18 ?_
            refine ta HT_ HW_ hHeld 16 ?_
            refine pu HT_ 19 ?_
            refine ta HT_ HW_ hHeld 20 ?_
            refine ta HT_ HW_ hHeld 21 ?_
            refine on HT_ 22 (fun K hK => ?_)
            refine goes_ Try.func61 (by kernel_rfl) rfl #[.agg #[.slice A107_0 ((rd_T33 l0_1 (ji24)).f0.f0).length c107_0, .int .i64 ((rd_T33 l0_1 (ji24)).f1), .int .i64 ((rd_T33 l0_1 (ji24)).f2), .int .i64 ((rd_T33 l0_1 (ji24)).f3), .slice A107_4 ((rd_T33 l0_1 (ji24)).f4.f0).length c107_4, .slice A107_5 ((rd_T33 l0_1 (ji24)).f5).length c107_5, .slice A107_6 ((rd_T33 l0_1 (ji24)).f6).length c107_6], .agg #[.slice A103_0 ((rd_T33 l0_1 x4_2).f0.f0).length c103_0, .int .i64 ((rd_T33 l0_1 x4_2).f1), .int .i64 ((rd_T33 l0_1 x4_2).f2), .int .i64 ((rd_T33 l0_1 x4_2).f3), .slice A103_4 ((rd_T33 l0_1 x4_2).f4.f0).length c103_4, .slice A103_5 ((rd_T33 l0_1 x4_2).f5).length c103_5, .slice A103_6 ((rd_T33 l0_1 x4_2).f6).length c103_6]] (by rfl) rfl rfl (by (try simp only [List.map_toArray, List.map_cons, List.map_nil]); first | done | (simp only [hji24]; rfl) | rfl | (simp only [List.length_drop, List.length_take]; rfl)) ?_
            with_reducible refine (spec_l3cmp.calls k2 _ _ ((rd_T33 l0_1 (ji24)).f0.f0) ((rd_T33 l0_1 (ji24)).f1) ((rd_T33 l0_1 (ji24)).f2) ((rd_T33 l0_1 (ji24)).f3) _ _ ((rd_T33 l0_1 (ji24)).f4.f0) _ _ ((rd_T33 l0_1 (ji24)).f5) _ _ ((rd_T33 l0_1 (ji24)).f6) _ _ ((rd_T33 l0_1 x4_2).f0.f0) ((rd_T33 l0_1 x4_2).f1) ((rd_T33 l0_1 x4_2).f2) ((rd_T33 l0_1 x4_2).f3) _ _ ((rd_T33 l0_1 x4_2).f4.f0) _ _ ((rd_T33 l0_1 x4_2).f5) _ _ ((rd_T33 l0_1 x4_2).f6) t108 _ ?side1 ?side2 ?side3 ?side4 ?side5 ?side6 ?side7 ?side8 ?side9 ?side10 ?side11 ?side12 ?side13 ?side14 ?side15 ?side16 A27.out).mono ?_
            (case side1 => exact cw HR107_0.out HB.out)
            (case side2 => exact HC107_0.out)
            (case side3 => exact cw HR107_4.out HB.out)
            (case side4 => exact HC107_4.out)
            (case side5 => exact cw HR107_5.out HB.out)
            (case side6 => exact HC107_5.out)
            (case side7 => exact cw HR107_6.out HB.out)
            (case side8 => exact HC107_6.out)
            (case side9 => exact cw HR103_0.out HB.out)
            (case side10 => exact HC103_0.out)
            (case side11 => exact cw HR103_4.out HB.out)
            (case side12 => exact HC103_4.out)
            (case side13 => exact cw HR103_5.out HB.out)
            (case side14 => exact HC103_5.out)
            (case side15 => exact cw HR103_6.out HB.out)
            (case side16 => exact HC103_6.out)
            rintro e w39 ⟨rfl, hb⟩
            refine ⟨_, rfl, ?_⟩
            replace BK101 := b1 BK101 hb
            replace BK104 := b1 BK104 hb
            replace HB := b2s bs hb
            refine hK.out _ _ kp (fun hHeld => ?_)
            (try clear hb)
            clear hK K
            refine norm_ (a' := ?_) ?_ ?_; rotate_left; go_simp; rfl
            refine pu HT_ 23 ?_
            refine pu HT_ 24 ?_
            refine pu HT_ 25 ?_
            refine pu HT_ 26 ?_
            refine pu HT_ 27 ?_
            refine pu HT_ 29 ?_
            refine ta HT_ HW_ hHeld 28 ?_
            refine on HT_ 30 (fun K hK => ?_)
            refine gsB Try.func97 (spec_l5alone.calls k2 _ _ l0_1 x4_2 t109 _ (cv HR0_1 HB) HC0_1.out A34.out) (fun w40 hb => ?_)
            replace BK101 := b1 BK101 hb
            replace BK104 := b1 BK104 hb
            replace HB := b2s bs hb
            refine hK.out _ _ kp (fun hHeld => ?_)
            (try clear hb)
            clear hK K
            refine norm_ (a' := ?_) ?_ ?_; rotate_left; go_simp; rfl
            refine pu HT_ 31 ?_
            refine pu HT_ 32 ?_
            refine done_ (done_of HT_.out (by kernel_rfl)) ?_
            try go_wp2
            go_meet
            case rel => exact ⟨_, (!t109), o2, H', ⟨by have := HJ1.out; have := HK2.out; first | omega | exact Nat.le_refl _⟩, ⟨bk BK101.out⟩, ⟨bk BK104.out⟩, ⟨bs⟩⟩
          ·(first | rw [c23b0] | (simp only [i64_w, i32_w]; rw [c23b0]) | skip)
           replace H := bnd H
           obtain ⟨t110, A41, H⟩ := H
           have H' := ak H
           clear H
           try go_wp2
           have n0_ : Aside0 ((((((((w16.setCell ⟨gb104, 0, none⟩ (.slice A103_0 ((rd_T33 l0_1 x4_2).f0.f0).length c103_0)).setCell ⟨gb104, 1, none⟩ (.int .i64 ((rd_T33 l0_1 x4_2).f1))).setCell ⟨gb104, 2, none⟩ (.int .i64 ((rd_T33 l0_1 x4_2).f2))).setCell ⟨gb104, 3, none⟩ (.int .i64 ((rd_T33 l0_1 x4_2).f3))).setCell ⟨gb104, 4, none⟩ (.slice A103_4 ((rd_T33 l0_1 x4_2).f4.f0).length c103_4)).setCell ⟨gb104, 5, none⟩ (.slice A103_5 ((rd_T33 l0_1 x4_2).f5).length c103_5)).setCell ⟨gb104, 6, none⟩ (.slice A103_6 ((rd_T33 l0_1 x4_2).f6).length c103_6)).heap[gb101]? = some (.cells #[.slice A0_0 l0_0.length c0_0, .slice (some ad103) l0_1.length c0_1] 59 (0, 0))) := ⟨bfar7 NB101_104.out BK101.out⟩
           have n1_ : Aside0 ((((((((w16.setCell ⟨gb104, 0, none⟩ (.slice A103_0 ((rd_T33 l0_1 x4_2).f0.f0).length c103_0)).setCell ⟨gb104, 1, none⟩ (.int .i64 ((rd_T33 l0_1 x4_2).f1))).setCell ⟨gb104, 2, none⟩ (.int .i64 ((rd_T33 l0_1 x4_2).f2))).setCell ⟨gb104, 3, none⟩ (.int .i64 ((rd_T33 l0_1 x4_2).f3))).setCell ⟨gb104, 4, none⟩ (.slice A103_4 ((rd_T33 l0_1 x4_2).f4.f0).length c103_4)).setCell ⟨gb104, 5, none⟩ (.slice A103_5 ((rd_T33 l0_1 x4_2).f5).length c103_5)).setCell ⟨gb104, 6, none⟩ (.slice A103_6 ((rd_T33 l0_1 x4_2).f6).length c103_6)).heap[gb104]? = some (.cells #[.slice A103_0 ((rd_T33 l0_1 x4_2).f0.f0).length c103_0, .int .i64 ((rd_T33 l0_1 x4_2).f1), .int .i64 ((rd_T33 l0_1 x4_2).f2), .int .i64 ((rd_T33 l0_1 x4_2).f3), .slice A103_4 ((rd_T33 l0_1 x4_2).f4.f0).length c103_4, .slice A103_5 ((rd_T33 l0_1 x4_2).f5).length c103_5, .slice A103_6 ((rd_T33 l0_1 x4_2).f6).length c103_6] 33 (0, 0))) := ⟨bput7 BK104.out⟩
           have n2_ : Aside0 (Below w.heap.size w (((((((w16.setCell ⟨gb104, 0, none⟩ (.slice A103_0 ((rd_T33 l0_1 x4_2).f0.f0).length c103_0)).setCell ⟨gb104, 1, none⟩ (.int .i64 ((rd_T33 l0_1 x4_2).f1))).setCell ⟨gb104, 2, none⟩ (.int .i64 ((rd_T33 l0_1 x4_2).f2))).setCell ⟨gb104, 3, none⟩ (.int .i64 ((rd_T33 l0_1 x4_2).f3))).setCell ⟨gb104, 4, none⟩ (.slice A103_4 ((rd_T33 l0_1 x4_2).f4.f0).length c103_4)).setCell ⟨gb104, 5, none⟩ (.slice A103_5 ((rd_T33 l0_1 x4_2).f5).length c103_5)).setCell ⟨gb104, 6, none⟩ (.slice A103_6 ((rd_T33 l0_1 x4_2).f6).length c103_6))) := ⟨bs⟩
           (try clear BK101)
           (try clear BK104)
           (try clear HB)
           generalize (((((((w16.setCell ⟨gb104, 0, none⟩ (.slice A103_0 ((rd_T33 l0_1 x4_2).f0.f0).length c103_0)).setCell ⟨gb104, 1, none⟩ (.int .i64 ((rd_T33 l0_1 x4_2).f1))).setCell ⟨gb104, 2, none⟩ (.int .i64 ((rd_T33 l0_1 x4_2).f2))).setCell ⟨gb104, 3, none⟩ (.int .i64 ((rd_T33 l0_1 x4_2).f3))).setCell ⟨gb104, 4, none⟩ (.slice A103_4 ((rd_T33 l0_1 x4_2).f4.f0).length c103_4)).setCell ⟨gb104, 5, none⟩ (.slice A103_5 ((rd_T33 l0_1 x4_2).f5).length c103_5)).setCell ⟨gb104, 6, none⟩ (.slice A103_6 ((rd_T33 l0_1 x4_2).f6).length c103_6)) = w42 at n0_ n1_ n2_ ⊢
           have BK101 := n0_
           have BK104 := n1_
           have HB := n2_
           clear n0_ n1_ n2_
           replace BK101 := ak (blk_drew BK101.out)
           replace BK104 := ak (blk_drew BK104.out)
           replace HB := ak (below_drew1 HB.out)
           refine start_ (n := 33) (S := fun w' => w'.cell? ⟨gb104, 0, none⟩ = some (.slice A103_0 ((rd_T33 l0_1 x4_2).f0.f0).length c103_0) ∧ w'.cell? ⟨gb104, 1, none⟩ = some (.int .i64 ((rd_T33 l0_1 x4_2).f1)) ∧ w'.cell? ⟨gb104, 2, none⟩ = some (.int .i64 ((rd_T33 l0_1 x4_2).f2)) ∧ w'.cell? ⟨gb104, 3, none⟩ = some (.int .i64 ((rd_T33 l0_1 x4_2).f3)) ∧ w'.cell? ⟨gb104, 4, none⟩ = some (.slice A103_4 ((rd_T33 l0_1 x4_2).f4.f0).length c103_4) ∧ w'.cell? ⟨gb104, 5, none⟩ = some (.slice A103_5 ((rd_T33 l0_1 x4_2).f5).length c103_5) ∧ w'.cell? ⟨gb104, 6, none⟩ = some (.slice A103_6 ((rd_T33 l0_1 x4_2).f6).length c103_6) ∧ w'.cell? ⟨gb101, 0, none⟩ = some (.slice A0_0 l0_0.length c0_0) ∧ w'.cell? ⟨gb101, 1, none⟩ = some (.slice (some ad103) l0_1.length c0_1)) (ds := []) (bA 33 0) (by kernel_rfl) rfl rfl kq (fun hHeld => ?_); refine with_tabW spec_ZoneOk.tab8 spec_ZoneOk.bits8 (fun HT_ HW_ => ?_)
           generalize w42.drew = w43 at BK101 BK104 HB hHeld ⊢
           refine ta HT_ HW_ hHeld 0 ?_
           refine on HT_ 1 (fun K hK => ?_)
           refine gsB Try.func60 (spec_RrOk.calls k2 _ _ ((rd_T33 l0_1 x4_2).f0.f0) ((rd_T33 l0_1 x4_2).f1) ((rd_T33 l0_1 x4_2).f2) ((rd_T33 l0_1 x4_2).f3) _ _ ((rd_T33 l0_1 x4_2).f4.f0) _ _ ((rd_T33 l0_1 x4_2).f5) _ _ ((rd_T33 l0_1 x4_2).f6) true _ (cv HR103_0 HB) HC103_0.out (cv HR103_4 HB) HC103_4.out (cv HR103_5 HB) HC103_5.out (cv HR103_6 HB) HC103_6.out A19.out) (fun w44 hb => ?_)
           replace BK101 := b1 BK101 hb
           replace BK104 := b1 BK104 hb
           replace HB := b2s bs hb
           refine hK.out _ _ kp (fun hHeld => ?_)
           (try clear hb)
           clear hK K
           refine norm_ (a' := ?_) ?_ ?_; rotate_left; go_simp; rfl
           refine pu HT_ 2 ?_
           refine pu HT_ 3 ?_
           refine pu HT_ 4 ?_
           refine pu HT_ 6 ?_
           refine ta HT_ HW_ hHeld 5 ?_
           refine ta HT_ HW_ hHeld 7 ?_
           refine on HT_ 8 (fun K hK => ?_)
           refine gsB Try.func96 (spec_l2under.calls k2 _ _ ((rd_T33 l0_1 x4_2).f0.f0) _ _ l0_0 true _ (cv HR103_0 HB) HC103_0.out (cv HR0_0 HB) HC0_0.out A21.out) (fun w45 hb => ?_)
           replace BK101 := b1 BK101 hb
           replace BK104 := b1 BK104 hb
           replace HB := b2s bs hb
           refine hK.out _ _ kp (fun hHeld => ?_)
           (try clear hb)
           clear hK K
           refine norm_ (a' := ?_) ?_ ?_; rotate_left; go_simp; rfl
           refine pu HT_ 9 ?_
           refine pu HT_ 10 ?_
           refine pu HT_ 11 ?_
           refine pu HT_ 12 ?_
           refine pu HT_ 13 ?_
           refine pu HT_ 14 ?_
           refine sk HT_ 15 ?_
           refine sk HT_ 16 ?_
           refine sk HT_ 17 ?_
           refine sk HT_ 18 ?_
           refine sk HT_ 19 ?_
           refine sk HT_ 20 ?_
           refine sk HT_ 21 ?_
           refine sk HT_ 22 ?_
           refine sk HT_ 23 ?_
           refine pu HT_ 24 ?_
           refine pu HT_ 25 ?_
           refine pu HT_ 26 ?_
           refine pu HT_ 27 ?_
           refine pu HT_ 29 ?_
           refine ta HT_ HW_ hHeld 28 ?_
           refine on HT_ 30 (fun K hK => ?_)
           refine gsB Try.func97 (spec_l5alone.calls k2 _ _ l0_1 x4_2 t110 _ (cv HR0_1 HB) HC0_1.out A41.out) (fun w46 hb => ?_)
           replace BK101 := b1 BK101 hb
           replace BK104 := b1 BK104 hb
           replace HB := b2s bs hb
           refine hK.out _ _ kp (fun hHeld => ?_)
           (try clear hb)
           clear hK K
           refine norm_ (a' := ?_) ?_ ?_; rotate_left; go_simp; rfl
           refine pu HT_ 31 ?_
           refine pu HT_ 32 ?_
           refine done_ (done_of HT_.out (by kernel_rfl)) ?_
           try go_wp2
           go_meet
           case rel => exact ⟨_, (!t110), o2, H', ⟨by have := HJ1.out; have := HK2.out; first | omega | exact Nat.le_refl _⟩, ⟨bk BK101.out⟩, ⟨bk BK104.out⟩, ⟨bs⟩⟩
         ·have H' := ak H
          clear H
          try go_wp2
          have n0_ : Aside0 ((((((((w16.setCell ⟨gb104, 0, none⟩ (.slice A103_0 ((rd_T33 l0_1 x4_2).f0.f0).length c103_0)).setCell ⟨gb104, 1, none⟩ (.int .i64 ((rd_T33 l0_1 x4_2).f1))).setCell ⟨gb104, 2, none⟩ (.int .i64 ((rd_T33 l0_1 x4_2).f2))).setCell ⟨gb104, 3, none⟩ (.int .i64 ((rd_T33 l0_1 x4_2).f3))).setCell ⟨gb104, 4, none⟩ (.slice A103_4 ((rd_T33 l0_1 x4_2).f4.f0).length c103_4)).setCell ⟨gb104, 5, none⟩ (.slice A103_5 ((rd_T33 l0_1 x4_2).f5).length c103_5)).setCell ⟨gb104, 6, none⟩ (.slice A103_6 ((rd_T33 l0_1 x4_2).f6).length c103_6)).heap[gb101]? = some (.cells #[.slice A0_0 l0_0.length c0_0, .slice (some ad103) l0_1.length c0_1] 59 (0, 0))) := ⟨bfar7 NB101_104.out BK101.out⟩
          have n1_ : Aside0 ((((((((w16.setCell ⟨gb104, 0, none⟩ (.slice A103_0 ((rd_T33 l0_1 x4_2).f0.f0).length c103_0)).setCell ⟨gb104, 1, none⟩ (.int .i64 ((rd_T33 l0_1 x4_2).f1))).setCell ⟨gb104, 2, none⟩ (.int .i64 ((rd_T33 l0_1 x4_2).f2))).setCell ⟨gb104, 3, none⟩ (.int .i64 ((rd_T33 l0_1 x4_2).f3))).setCell ⟨gb104, 4, none⟩ (.slice A103_4 ((rd_T33 l0_1 x4_2).f4.f0).length c103_4)).setCell ⟨gb104, 5, none⟩ (.slice A103_5 ((rd_T33 l0_1 x4_2).f5).length c103_5)).setCell ⟨gb104, 6, none⟩ (.slice A103_6 ((rd_T33 l0_1 x4_2).f6).length c103_6)).heap[gb104]? = some (.cells #[.slice A103_0 ((rd_T33 l0_1 x4_2).f0.f0).length c103_0, .int .i64 ((rd_T33 l0_1 x4_2).f1), .int .i64 ((rd_T33 l0_1 x4_2).f2), .int .i64 ((rd_T33 l0_1 x4_2).f3), .slice A103_4 ((rd_T33 l0_1 x4_2).f4.f0).length c103_4, .slice A103_5 ((rd_T33 l0_1 x4_2).f5).length c103_5, .slice A103_6 ((rd_T33 l0_1 x4_2).f6).length c103_6] 33 (0, 0))) := ⟨bput7 BK104.out⟩
          have n2_ : Aside0 (Below w.heap.size w (((((((w16.setCell ⟨gb104, 0, none⟩ (.slice A103_0 ((rd_T33 l0_1 x4_2).f0.f0).length c103_0)).setCell ⟨gb104, 1, none⟩ (.int .i64 ((rd_T33 l0_1 x4_2).f1))).setCell ⟨gb104, 2, none⟩ (.int .i64 ((rd_T33 l0_1 x4_2).f2))).setCell ⟨gb104, 3, none⟩ (.int .i64 ((rd_T33 l0_1 x4_2).f3))).setCell ⟨gb104, 4, none⟩ (.slice A103_4 ((rd_T33 l0_1 x4_2).f4.f0).length c103_4)).setCell ⟨gb104, 5, none⟩ (.slice A103_5 ((rd_T33 l0_1 x4_2).f5).length c103_5)).setCell ⟨gb104, 6, none⟩ (.slice A103_6 ((rd_T33 l0_1 x4_2).f6).length c103_6))) := ⟨bs⟩
          (try clear BK101)
          (try clear BK104)
          (try clear HB)
          generalize (((((((w16.setCell ⟨gb104, 0, none⟩ (.slice A103_0 ((rd_T33 l0_1 x4_2).f0.f0).length c103_0)).setCell ⟨gb104, 1, none⟩ (.int .i64 ((rd_T33 l0_1 x4_2).f1))).setCell ⟨gb104, 2, none⟩ (.int .i64 ((rd_T33 l0_1 x4_2).f2))).setCell ⟨gb104, 3, none⟩ (.int .i64 ((rd_T33 l0_1 x4_2).f3))).setCell ⟨gb104, 4, none⟩ (.slice A103_4 ((rd_T33 l0_1 x4_2).f4.f0).length c103_4)).setCell ⟨gb104, 5, none⟩ (.slice A103_5 ((rd_T33 l0_1 x4_2).f5).length c103_5)).setCell ⟨gb104, 6, none⟩ (.slice A103_6 ((rd_T33 l0_1 x4_2).f6).length c103_6)) = w47 at n0_ n1_ n2_ ⊢
          have BK101 := n0_
          have BK104 := n1_
          have HB := n2_
          clear n0_ n1_ n2_
          replace BK101 := ak (blk_drew BK101.out)
          replace BK104 := ak (blk_drew BK104.out)
          replace HB := ak (below_drew1 HB.out)
          refine start_ (n := 33) (S := fun w' => w'.cell? ⟨gb104, 0, none⟩ = some (.slice A103_0 ((rd_T33 l0_1 x4_2).f0.f0).length c103_0) ∧ w'.cell? ⟨gb104, 1, none⟩ = some (.int .i64 ((rd_T33 l0_1 x4_2).f1)) ∧ w'.cell? ⟨gb104, 2, none⟩ = some (.int .i64 ((rd_T33 l0_1 x4_2).f2)) ∧ w'.cell? ⟨gb104, 3, none⟩ = some (.int .i64 ((rd_T33 l0_1 x4_2).f3)) ∧ w'.cell? ⟨gb104, 4, none⟩ = some (.slice A103_4 ((rd_T33 l0_1 x4_2).f4.f0).length c103_4) ∧ w'.cell? ⟨gb104, 5, none⟩ = some (.slice A103_5 ((rd_T33 l0_1 x4_2).f5).length c103_5) ∧ w'.cell? ⟨gb104, 6, none⟩ = some (.slice A103_6 ((rd_T33 l0_1 x4_2).f6).length c103_6) ∧ w'.cell? ⟨gb101, 0, none⟩ = some (.slice A0_0 l0_0.length c0_0) ∧ w'.cell? ⟨gb101, 1, none⟩ = some (.slice (some ad103) l0_1.length c0_1)) (ds := []) (bA 33 0) (by kernel_rfl) rfl rfl kq (fun hHeld => ?_); refine with_tabW spec_ZoneOk.tab8 spec_ZoneOk.bits8 (fun HT_ HW_ => ?_)
          generalize w47.drew = w48 at BK101 BK104 HB hHeld ⊢
          refine ta HT_ HW_ hHeld 0 ?_
          refine on HT_ 1 (fun K hK => ?_)
          refine gsB Try.func60 (spec_RrOk.calls k2 _ _ ((rd_T33 l0_1 x4_2).f0.f0) ((rd_T33 l0_1 x4_2).f1) ((rd_T33 l0_1 x4_2).f2) ((rd_T33 l0_1 x4_2).f3) _ _ ((rd_T33 l0_1 x4_2).f4.f0) _ _ ((rd_T33 l0_1 x4_2).f5) _ _ ((rd_T33 l0_1 x4_2).f6) true _ (cv HR103_0 HB) HC103_0.out (cv HR103_4 HB) HC103_4.out (cv HR103_5 HB) HC103_5.out (cv HR103_6 HB) HC103_6.out A19.out) (fun w49 hb => ?_)
          replace BK101 := b1 BK101 hb
          replace BK104 := b1 BK104 hb
          replace HB := b2s bs hb
          refine hK.out _ _ kp (fun hHeld => ?_)
          (try clear hb)
          clear hK K
          refine norm_ (a' := ?_) ?_ ?_; rotate_left; go_simp; rfl
          refine pu HT_ 2 ?_
          refine pu HT_ 3 ?_
          refine pu HT_ 4 ?_
          refine pu HT_ 6 ?_
          refine ta HT_ HW_ hHeld 5 ?_
          refine ta HT_ HW_ hHeld 7 ?_
          refine on HT_ 8 (fun K hK => ?_)
          refine gsB Try.func96 (spec_l2under.calls k2 _ _ ((rd_T33 l0_1 x4_2).f0.f0) _ _ l0_0 false _ (cv HR103_0 HB) HC103_0.out (cv HR0_0 HB) HC0_0.out A21.out) (fun w50 hb => ?_)
          replace BK101 := b1 BK101 hb
          replace BK104 := b1 BK104 hb
          replace HB := b2s bs hb
          refine hK.out _ _ kp (fun hHeld => ?_)
          (try clear hb)
          clear hK K
          refine norm_ (a' := ?_) ?_ ?_; rotate_left; go_simp; rfl
          refine pu HT_ 9 ?_
          refine pu HT_ 10 ?_
          refine pu HT_ 11 ?_
          refine sk HT_ 12 ?_
          refine sk HT_ 13 ?_
          refine sk HT_ 14 ?_
          refine sk HT_ 15 ?_
          refine sk HT_ 16 ?_
          refine sk HT_ 17 ?_
          refine sk HT_ 18 ?_
          refine sk HT_ 19 ?_
          refine sk HT_ 20 ?_
          refine sk HT_ 21 ?_
          refine sk HT_ 22 ?_
          refine sk HT_ 23 ?_
          refine sk HT_ 24 ?_
          refine pu HT_ 25 ?_
          refine pu HT_ 26 ?_
          refine sk HT_ 27 ?_
          refine sk HT_ 28 ?_
          refine sk HT_ 29 ?_
          refine sk HT_ 30 ?_
          refine sk HT_ 31 ?_
          refine pu HT_ 32 ?_
          refine done_ (done_of HT_.out (by kernel_rfl)) ?_
          try go_wp2
          go_meet
          case rel => exact ⟨_, (true), o2, H', ⟨by have := HJ1.out; have := HK2.out; first | omega | exact Nat.le_refl _⟩, ⟨bk BK101.out⟩, ⟨bk BK104.out⟩, ⟨bs⟩⟩
        ·have H' := ak H
         clear H
         try go_wp2
         have n0_ : Aside0 ((((((((w16.setCell ⟨gb104, 0, none⟩ (.slice A103_0 ((rd_T33 l0_1 x4_2).f0.f0).length c103_0)).setCell ⟨gb104, 1, none⟩ (.int .i64 ((rd_T33 l0_1 x4_2).f1))).setCell ⟨gb104, 2, none⟩ (.int .i64 ((rd_T33 l0_1 x4_2).f2))).setCell ⟨gb104, 3, none⟩ (.int .i64 ((rd_T33 l0_1 x4_2).f3))).setCell ⟨gb104, 4, none⟩ (.slice A103_4 ((rd_T33 l0_1 x4_2).f4.f0).length c103_4)).setCell ⟨gb104, 5, none⟩ (.slice A103_5 ((rd_T33 l0_1 x4_2).f5).length c103_5)).setCell ⟨gb104, 6, none⟩ (.slice A103_6 ((rd_T33 l0_1 x4_2).f6).length c103_6)).heap[gb101]? = some (.cells #[.slice A0_0 l0_0.length c0_0, .slice (some ad103) l0_1.length c0_1] 59 (0, 0))) := ⟨bfar7 NB101_104.out BK101.out⟩
         have n1_ : Aside0 ((((((((w16.setCell ⟨gb104, 0, none⟩ (.slice A103_0 ((rd_T33 l0_1 x4_2).f0.f0).length c103_0)).setCell ⟨gb104, 1, none⟩ (.int .i64 ((rd_T33 l0_1 x4_2).f1))).setCell ⟨gb104, 2, none⟩ (.int .i64 ((rd_T33 l0_1 x4_2).f2))).setCell ⟨gb104, 3, none⟩ (.int .i64 ((rd_T33 l0_1 x4_2).f3))).setCell ⟨gb104, 4, none⟩ (.slice A103_4 ((rd_T33 l0_1 x4_2).f4.f0).length c103_4)).setCell ⟨gb104, 5, none⟩ (.slice A103_5 ((rd_T33 l0_1 x4_2).f5).length c103_5)).setCell ⟨gb104, 6, none⟩ (.slice A103_6 ((rd_T33 l0_1 x4_2).f6).length c103_6)).heap[gb104]? = some (.cells #[.slice A103_0 ((rd_T33 l0_1 x4_2).f0.f0).length c103_0, .int .i64 ((rd_T33 l0_1 x4_2).f1), .int .i64 ((rd_T33 l0_1 x4_2).f2), .int .i64 ((rd_T33 l0_1 x4_2).f3), .slice A103_4 ((rd_T33 l0_1 x4_2).f4.f0).length c103_4, .slice A103_5 ((rd_T33 l0_1 x4_2).f5).length c103_5, .slice A103_6 ((rd_T33 l0_1 x4_2).f6).length c103_6] 33 (0, 0))) := ⟨bput7 BK104.out⟩
         have n2_ : Aside0 (Below w.heap.size w (((((((w16.setCell ⟨gb104, 0, none⟩ (.slice A103_0 ((rd_T33 l0_1 x4_2).f0.f0).length c103_0)).setCell ⟨gb104, 1, none⟩ (.int .i64 ((rd_T33 l0_1 x4_2).f1))).setCell ⟨gb104, 2, none⟩ (.int .i64 ((rd_T33 l0_1 x4_2).f2))).setCell ⟨gb104, 3, none⟩ (.int .i64 ((rd_T33 l0_1 x4_2).f3))).setCell ⟨gb104, 4, none⟩ (.slice A103_4 ((rd_T33 l0_1 x4_2).f4.f0).length c103_4)).setCell ⟨gb104, 5, none⟩ (.slice A103_5 ((rd_T33 l0_1 x4_2).f5).length c103_5)).setCell ⟨gb104, 6, none⟩ (.slice A103_6 ((rd_T33 l0_1 x4_2).f6).length c103_6))) := ⟨bs⟩
         (try clear BK101)
         (try clear BK104)
         (try clear HB)
         generalize (((((((w16.setCell ⟨gb104, 0, none⟩ (.slice A103_0 ((rd_T33 l0_1 x4_2).f0.f0).length c103_0)).setCell ⟨gb104, 1, none⟩ (.int .i64 ((rd_T33 l0_1 x4_2).f1))).setCell ⟨gb104, 2, none⟩ (.int .i64 ((rd_T33 l0_1 x4_2).f2))).setCell ⟨gb104, 3, none⟩ (.int .i64 ((rd_T33 l0_1 x4_2).f3))).setCell ⟨gb104, 4, none⟩ (.slice A103_4 ((rd_T33 l0_1 x4_2).f4.f0).length c103_4)).setCell ⟨gb104, 5, none⟩ (.slice A103_5 ((rd_T33 l0_1 x4_2).f5).length c103_5)).setCell ⟨gb104, 6, none⟩ (.slice A103_6 ((rd_T33 l0_1 x4_2).f6).length c103_6)) = w51 at n0_ n1_ n2_ ⊢
         have BK101 := n0_
         have BK104 := n1_
         have HB := n2_
         clear n0_ n1_ n2_
         replace BK101 := ak (blk_drew BK101.out)
         replace BK104 := ak (blk_drew BK104.out)
         replace HB := ak (below_drew1 HB.out)
         refine start_ (n := 33) (S := fun w' => w'.cell? ⟨gb104, 0, none⟩ = some (.slice A103_0 ((rd_T33 l0_1 x4_2).f0.f0).length c103_0) ∧ w'.cell? ⟨gb104, 1, none⟩ = some (.int .i64 ((rd_T33 l0_1 x4_2).f1)) ∧ w'.cell? ⟨gb104, 2, none⟩ = some (.int .i64 ((rd_T33 l0_1 x4_2).f2)) ∧ w'.cell? ⟨gb104, 3, none⟩ = some (.int .i64 ((rd_T33 l0_1 x4_2).f3)) ∧ w'.cell? ⟨gb104, 4, none⟩ = some (.slice A103_4 ((rd_T33 l0_1 x4_2).f4.f0).length c103_4) ∧ w'.cell? ⟨gb104, 5, none⟩ = some (.slice A103_5 ((rd_T33 l0_1 x4_2).f5).length c103_5) ∧ w'.cell? ⟨gb104, 6, none⟩ = some (.slice A103_6 ((rd_T33 l0_1 x4_2).f6).length c103_6)) (ds := []) (bA 33 0) (by kernel_rfl) rfl rfl kq (fun hHeld => ?_); refine with_tabW spec_ZoneOk.tab8 spec_ZoneOk.bits8 (fun HT_ HW_ => ?_)
         generalize w51.drew = w52 at BK101 BK104 HB hHeld ⊢
         refine ta HT_ HW_ hHeld 0 ?_
         refine on HT_ 1 (fun K hK => ?_)
         refine gsB Try.func60 (spec_RrOk.calls k2 _ _ ((rd_T33 l0_1 x4_2).f0.f0) ((rd_T33 l0_1 x4_2).f1) ((rd_T33 l0_1 x4_2).f2) ((rd_T33 l0_1 x4_2).f3) _ _ ((rd_T33 l0_1 x4_2).f4.f0) _ _ ((rd_T33 l0_1 x4_2).f5) _ _ ((rd_T33 l0_1 x4_2).f6) false _ (cv HR103_0 HB) HC103_0.out (cv HR103_4 HB) HC103_4.out (cv HR103_5 HB) HC103_5.out (cv HR103_6 HB) HC103_6.out A19.out) (fun w53 hb => ?_)
         replace BK101 := b1 BK101 hb
         replace BK104 := b1 BK104 hb
         replace HB := b2s bs hb
         refine hK.out _ _ kp (fun hHeld => ?_)
         (try clear hb)
         clear hK K
         refine norm_ (a' := ?_) ?_ ?_; rotate_left; go_simp; rfl
         refine pu HT_ 2 ?_
         refine pu HT_ 3 ?_
         refine sk HT_ 4 ?_
         refine sk HT_ 5 ?_
         refine sk HT_ 6 ?_
         refine sk HT_ 7 ?_
         refine sk HT_ 8 ?_
         refine sk HT_ 9 ?_
         refine pu HT_ 10 ?_
         refine pu HT_ 11 ?_
         refine sk HT_ 12 ?_
         refine sk HT_ 13 ?_
         refine sk HT_ 14 ?_
         refine sk HT_ 15 ?_
         refine sk HT_ 16 ?_
         refine sk HT_ 17 ?_
         refine sk HT_ 18 ?_
         refine sk HT_ 19 ?_
         refine sk HT_ 20 ?_
         refine sk HT_ 21 ?_
         refine sk HT_ 22 ?_
         refine sk HT_ 23 ?_
         refine sk HT_ 24 ?_
         refine pu HT_ 25 ?_
         refine pu HT_ 26 ?_
         refine sk HT_ 27 ?_
         refine sk HT_ 28 ?_
         refine sk HT_ 29 ?_
         refine sk HT_ 30 ?_
         refine sk HT_ 31 ?_
         refine pu HT_ 32 ?_
         refine done_ (done_of HT_.out (by kernel_rfl)) ?_
         try go_wp2
         go_meet
         case rel => exact ⟨_, (true), o2, H', ⟨by have := HJ1.out; have := HK2.out; first | omega | exact Nat.le_refl _⟩, ⟨bk BK101.out⟩, ⟨bk BK104.out⟩, ⟨bs⟩⟩
       case rest =>
        clear HC14
        obtain ⟨kq, x60_13, rfl, HA, HJ13, BK101, BK104, HB⟩ := hcut
        cases kq with
        | zero => exact absurd HA.out (by simp [spec_ZoneOk.j2])
        | succ kj13 =>
         have H := HA.out
         clear HA
         simp only [spec_ZoneOk.j2] at H
         replace H := ib H
         obtain ⟨rfl, H⟩ | ⟨rfl, H⟩ := H
         ·obtain rfl := Option.some.inj H
          go_wp2
          go_ret
          exact ⟨o1, bs⟩
         ·replace H := ie H
          obtain ⟨c55b0, c55b1, H⟩ | ⟨c55b0, c55b1, H⟩ := H
          ·replace H := bnd H
           obtain ⟨t111, A56, H⟩ := H
           replace H := ie H
           obtain ⟨c57b0, c57b1, H⟩ | ⟨c57b0, c57b1, H⟩ := H
           ·have H' := ak H
            clear H
            have hnb58 := NB104_101.out
            have hnc58 := NB101_104.out
            obtain ⟨hcz59_0, hcz59_1, hcz59_2, hcz59_3, hcz59_4, hcz59_5, hcz59_6, hfz59_0, hfz59_1, hfz59_2, hfz59_3, hfz59_4, hfz59_5, hfz59_6⟩ := cells7 BK104.out
            obtain ⟨hcz60_0, hcz60_1, hfz60_0, hfz60_1⟩ := cells2 BK101.out
            go_wp2_with (((with_reducible refine gate_callee (f := 98) rfl ?_);refine glB 70 rfl rfl Try.func98 (spec_l2cmp.calls kj13 _ _ ((rd_T33 l0_1 x4_2).f0.f0) _ _ l0_0 t111 _ (cv HR103_0 HB) HC103_0.out (cv HR0_0 HB) HC0_0.out A56.out) (fun w61 hb => ?_);replace BK101 := b1 BK101 hb;replace BK104 := b1 BK104 hb;replace HB := b2s bs hb;(try clear hb)))
            go_roundg kj13
            case measure => have := HJ1.out; have := HK2.out; have := HJ13.out; omega
            case rel => exact ⟨(wrap64 (x3_2 + 1)), (wrap64 (x4_2 + 1)), o2, o2, H', ⟨by have := HJ1.out; have := HK2.out; have := HJ13.out; omega⟩, ⟨bk BK101.out⟩, ⟨bs⟩⟩
           ·obtain rfl := Option.some.inj H
            have hnb62 := NB104_101.out
            have hnc62 := NB101_104.out
            obtain ⟨hcz63_0, hcz63_1, hcz63_2, hcz63_3, hcz63_4, hcz63_5, hcz63_6, hfz63_0, hfz63_1, hfz63_2, hfz63_3, hfz63_4, hfz63_5, hfz63_6⟩ := cells7 BK104.out
            obtain ⟨hcz64_0, hcz64_1, hfz64_0, hfz64_1⟩ := cells2 BK101.out
            go_wp2_with (((with_reducible refine gate_callee (f := 98) rfl ?_);refine glB 70 rfl rfl Try.func98 (spec_l2cmp.calls kj13 _ _ ((rd_T33 l0_1 x4_2).f0.f0) _ _ l0_0 t111 _ (cv HR103_0 HB) HC103_0.out (cv HR0_0 HB) HC0_0.out A56.out) (fun w65 hb => ?_);replace BK101 := b1 BK101 hb;replace BK104 := b1 BK104 hb;replace HB := b2s bs hb;(try clear hb)))
            go_ret
            exact ⟨o1, bs⟩
          ·have H' := ak H
           clear H
           have hnb66 := NB104_101.out
           have hnc66 := NB101_104.out
           obtain ⟨hcz67_0, hcz67_1, hcz67_2, hcz67_3, hcz67_4, hcz67_5, hcz67_6, hfz67_0, hfz67_1, hfz67_2, hfz67_3, hfz67_4, hfz67_5, hfz67_6⟩ := cells7 BK104.out
           go_wp2
           go_roundg kj13
           case measure => have := HJ1.out; have := HK2.out; have := HJ13.out; omega
           case rel => exact ⟨(x3_2), (wrap64 (x4_2 + 1)), o2, o2, H', ⟨by have := HJ1.out; have := HK2.out; have := HJ13.out; omega⟩, ⟨bk BK101.out⟩, ⟨bs⟩⟩
      ·obtain rfl := Option.some.inj H
       obtain ⟨hcz68_0, hcz68_1, hfz68_0, hfz68_1⟩ := cells2 BK101.out
       go_wp2
       go_ret
       exact ⟨o1, bs⟩

end Go.Proofs.Ytagedmajlppohaa.Q
